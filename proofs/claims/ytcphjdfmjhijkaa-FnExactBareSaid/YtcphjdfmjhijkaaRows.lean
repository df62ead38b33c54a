/-
  NARROWER THAN 'FOR EVERY INPUT', by the rows' own cells (each row's printed sentence says how): FnExactMaps: loops · FnExactKid: loops · FnExactWith: loops.
  DERIVED. THE GIVEN ROWS OF THIS SEAT. 4 by the template 'for every input the law returns true; each argument reads behind the call as it read before'; 0 by the template 'total and deterministic' (their statements: YtcphjdfmjhijkaaTotals.lean).
  GIVEN WITH THE SEED: the statements are not yours to turn. If you find one false, say at which input.
  Laid BY PROGRAM, IN A SANDBOX (cutbox-rows.mjs): the forced cells as the released guide's own fill.sh prints them over the translation a25eace1971a7630… (all of the seat's roots in one cut). By AI agents, Wed Nov 11 2026. No macro, syntax, notation, axiom, sorry.
-/
import Derived.Test.YtcphjdfmjhijkaaChecked
import GoSem.Claim
import GoSem.ClaimJoined
import GoSem.ClaimMapViews
import Derived.JoinedTies
import Derived.KernelRfl
namespace Go.Proofs.Ytcphjdfmjhijkaa
/- THE CELL 'sum', in the pinned program and in every row, IS THE sha256 OF THE DUMP (.gsa) THAT YtcphjdfmjhijkaaProg.lean LOADS. Nothing in Lean hashes anything: it is a label: what it is worth is what the hold of that sum in a sandbox is worth. -/
noncomputable def Try.pinned : Pinned := { name := "ytcphjdfmjhijkaa", sum := "a25eace1971a7630e21303cf74d3cecd1eccc7836f9f17aeb2adab1349fe83e0", checked := Try.checked }
namespace Rows
def none {H : Type} : Left H := { results := [], args := [] }

/-- 'laws.FnExactMaps': WHATEVER THE INPUT: true; the input reads as it did. -/
def fnExactMapsSpec : ChangeSpec := { name := "fnExactMaps", fn := fun _ => fun
  | [d1, d2] => { results := [.lit (.bool true)], args := [d1, d2] }
  | _ => none }
def fnExactMapsRow : OpenClaim := { program := "ytcphjdfmjhijkaa", sum := "a25eace1971a7630e21303cf74d3cecd1eccc7836f9f17aeb2adab1349fe83e0", func := "loop.example/g00445/laws.FnExactMaps", spec := "fnExactMaps", recurses := true, loops := true, apart := false }
def FnExactMapsSaid : Prop := fnExactMapsRow.holds Try.pinned (OpenSpec.ofChange fnExactMapsSpec)

/-- ITS FALSE NEIGHBOUR: 'it returns false'. Refute it at one input. -/
def fnExactMapsWrong : ChangeSpec := { name := "fnExactMaps", fn := fun _ => fun
  | [d1, d2] => { results := [.lit (.bool false)], args := [d1, d2] }
  | _ => none }
def FnExactMapsWrongFalsely : Prop := fnExactMapsRow.holds Try.pinned (OpenSpec.ofChange fnExactMapsWrong)

/-- 'laws.FnExactKid': WHATEVER THE INPUT: true; the input reads as it did. -/
def fnExactKidSpec : ChangeSpec := { name := "fnExactKid", fn := fun _ => fun
  | [d1, d2] => { results := [.lit (.bool true)], args := [d1, d2] }
  | _ => none }
def fnExactKidRow : OpenClaim := { program := "ytcphjdfmjhijkaa", sum := "a25eace1971a7630e21303cf74d3cecd1eccc7836f9f17aeb2adab1349fe83e0", func := "loop.example/g00445/laws.FnExactKid", spec := "fnExactKid", recurses := true, loops := true, apart := false }
def FnExactKidSaid : Prop := fnExactKidRow.holds Try.pinned (OpenSpec.ofChange fnExactKidSpec)

/-- ITS FALSE NEIGHBOUR: 'it returns false'. Refute it at one input. -/
def fnExactKidWrong : ChangeSpec := { name := "fnExactKid", fn := fun _ => fun
  | [d1, d2] => { results := [.lit (.bool false)], args := [d1, d2] }
  | _ => none }
def FnExactKidWrongFalsely : Prop := fnExactKidRow.holds Try.pinned (OpenSpec.ofChange fnExactKidWrong)

/-- 'laws.FnExactWith': WHATEVER THE INPUT: true; the input reads as it did. -/
def fnExactWithSpec : ChangeSpec := { name := "fnExactWith", fn := fun _ => fun
  | [d1, d2, d3] => { results := [.lit (.bool true)], args := [d1, d2, d3] }
  | _ => none }
def fnExactWithRow : OpenClaim := { program := "ytcphjdfmjhijkaa", sum := "a25eace1971a7630e21303cf74d3cecd1eccc7836f9f17aeb2adab1349fe83e0", func := "loop.example/g00445/laws.FnExactWith", spec := "fnExactWith", recurses := true, loops := true, apart := false }
def FnExactWithSaid : Prop := fnExactWithRow.holds Try.pinned (OpenSpec.ofChange fnExactWithSpec)

/-- ITS FALSE NEIGHBOUR: 'it returns false'. Refute it at one input. -/
def fnExactWithWrong : ChangeSpec := { name := "fnExactWith", fn := fun _ => fun
  | [d1, d2, d3] => { results := [.lit (.bool false)], args := [d1, d2, d3] }
  | _ => none }
def FnExactWithWrongFalsely : Prop := fnExactWithRow.holds Try.pinned (OpenSpec.ofChange fnExactWithWrong)

/-- 'laws.FnExactBare': WHATEVER THE INPUT: true; the input reads as it did. -/
def fnExactBareSpec : ChangeSpec := { name := "fnExactBare", fn := fun _ => fun
  | [d1, d2] => { results := [.lit (.bool true)], args := [d1, d2] }
  | _ => none }
def fnExactBareRow : OpenClaim := { program := "ytcphjdfmjhijkaa", sum := "a25eace1971a7630e21303cf74d3cecd1eccc7836f9f17aeb2adab1349fe83e0", func := "loop.example/g00445/laws.FnExactBare", spec := "fnExactBare", apart := false }
def FnExactBareSaid : Prop := fnExactBareRow.holds Try.pinned (OpenSpec.ofChange fnExactBareSpec)

/-- ITS FALSE NEIGHBOUR: 'it returns false'. Refute it at one input. -/
def fnExactBareWrong : ChangeSpec := { name := "fnExactBare", fn := fun _ => fun
  | [d1, d2] => { results := [.lit (.bool false)], args := [d1, d2] }
  | _ => none }
def FnExactBareWrongFalsely : Prop := fnExactBareRow.holds Try.pinned (OpenSpec.ofChange fnExactBareWrong)

/- THE SECOND FORM. 'bulk': how many values and letters a reading holds, each counted each time it is reached (what is shared counts as often as it is met; a slice's spare places count too). A statement '..UptoSaid' is the law's where the arguments, and the package variables that the reading takes, are together of bulk at most 1048576: NARROWER than '..Said'. Prove '..Said' where nothing that the law and all that it calls make is longer than what came in: it says more and counts as full. Else prove '..UptoSaid'. A law counts once. -/
mutual
def uptoBulk {H : Type} : DataW H → Nat
  | .lit (.string bytes) => bytes.length + 1
  | .lit _ => 1
  | .nil => 1
  | .ptr d => uptoBulk d + 1
  | .slice elems spare => uptoBulkAll elems + uptoBulkAll spare + 1
  | .agg parts => uptoBulkAll parts + 1
  | .iface _ d => uptoBulk d + 1
  | .map entries => uptoBulkEntries entries + 1
  | .held _ => 1
def uptoBulkAll {H : Type} : List (DataW H) → Nat
  | [] => 0
  | d :: r => uptoBulk d + uptoBulkAll r
def uptoBulkEntries {H : Type} : List (Lit × DataW H) → Nat
  | [] => 0
  | x :: r => uptoBulkEntry x + uptoBulkEntries r
def uptoBulkEntry {H : Type} : Lit × DataW H → Nat
  | (.string bytes, d) => bytes.length + uptoBulk d + 1
  | (_, d) => uptoBulk d + 1
 end
def uptoSmall : (H : Type) → List (DataW H) → Bool := fun _ ds => decide (uptoBulkAll ds ≤ 1048576)
def OpenSpec.upto (s : _root_.Go.ChangeSpec) : _root_.Go.OpenSpec := { _root_.Go.OpenSpec.ofChange s with cond := some uptoSmall }

/-- 'laws.FnExactMaps', WHERE WHAT IT READS IS OF BULK AT MOST 1048576: true; the input reads as it did. -/
def fnExactMapsUptoRow : OpenClaim := { program := "ytcphjdfmjhijkaa", sum := "a25eace1971a7630e21303cf74d3cecd1eccc7836f9f17aeb2adab1349fe83e0", func := "loop.example/g00445/laws.FnExactMaps", spec := "fnExactMaps", recurses := true, loops := true, apart := false, narrowed := true }
def FnExactMapsUptoSaid : Prop := fnExactMapsUptoRow.holds Try.pinned (OpenSpec.upto fnExactMapsSpec)

/-- 'laws.FnExactKid', WHERE WHAT IT READS IS OF BULK AT MOST 1048576: true; the input reads as it did. -/
def fnExactKidUptoRow : OpenClaim := { program := "ytcphjdfmjhijkaa", sum := "a25eace1971a7630e21303cf74d3cecd1eccc7836f9f17aeb2adab1349fe83e0", func := "loop.example/g00445/laws.FnExactKid", spec := "fnExactKid", recurses := true, loops := true, apart := false, narrowed := true }
def FnExactKidUptoSaid : Prop := fnExactKidUptoRow.holds Try.pinned (OpenSpec.upto fnExactKidSpec)

/-- 'laws.FnExactWith', WHERE WHAT IT READS IS OF BULK AT MOST 1048576: true; the input reads as it did. -/
def fnExactWithUptoRow : OpenClaim := { program := "ytcphjdfmjhijkaa", sum := "a25eace1971a7630e21303cf74d3cecd1eccc7836f9f17aeb2adab1349fe83e0", func := "loop.example/g00445/laws.FnExactWith", spec := "fnExactWith", recurses := true, loops := true, apart := false, narrowed := true }
def FnExactWithUptoSaid : Prop := fnExactWithUptoRow.holds Try.pinned (OpenSpec.upto fnExactWithSpec)

/-- 'laws.FnExactBare', WHERE WHAT IT READS IS OF BULK AT MOST 1048576: true; the input reads as it did. -/
def fnExactBareUptoRow : OpenClaim := { program := "ytcphjdfmjhijkaa", sum := "a25eace1971a7630e21303cf74d3cecd1eccc7836f9f17aeb2adab1349fe83e0", func := "loop.example/g00445/laws.FnExactBare", spec := "fnExactBare", apart := false, narrowed := true }
def FnExactBareUptoSaid : Prop := fnExactBareUptoRow.holds Try.pinned (OpenSpec.upto fnExactBareSpec)

end Rows
end Go.Proofs.Ytcphjdfmjhijkaa
