/- Plain words about texts: digits, quotes, joins. Conditions: those of each lemma. -/
import Derived.Test.YtdhejeigbjmncaaDoorE18
namespace Go.Proofs.YtdhejeigbjmncaaDoor
set_option linter.unusedVariables false
set_option linter.unusedSimpArgs false

abbrev Str := List UInt8
/-- a digit of sixteen -/
def hexD (n : Nat) : UInt8 := if n < 10 then UInt8.ofNat (48 + n) else UInt8.ofNat (87 + n)
def hexB (b : UInt8) : Str := [hexD (b.toNat / 16), hexD (b.toNat % 16)]
def hexS (s : Str) : Str := s.flatMap hexB
/-- a byte within quotes -/
def quoteB (b : UInt8) : Str :=
  if b.toNat = 34 ∨ b.toNat = 92 then [92, b]
  else if b.toNat = 10 then [92, 110]
  else if b.toNat < 32 ∨ 127 ≤ b.toNat then [92, 120] ++ hexB b
  else [b]
def quoteS (s : Str) : Str := 34 :: (s.flatMap quoteB ++ [34])
theorem hexB_len (b : UInt8) : (hexB b).length = 2 := rfl
theorem hexS_len (s : Str) : (hexS s).length = 2 * s.length := by
  induction s with
  | nil => rfl
  | cons b s ih => simp only [hexS, List.flatMap_cons, List.length_append, hexB_len, List.length_cons] at ih ⊢; omega
theorem quoteB_len (b : UInt8) : (quoteB b).length ≤ 4 ∧ 1 ≤ (quoteB b).length := by
  unfold quoteB
  split
  · simp
  · split
    · simp
    · split
      · simp [hexB]
      · simp
theorem flat_le (f : UInt8 → Str) (k : Nat) (hf : ∀ b, (f b).length ≤ k) : ∀ s : Str, (s.flatMap f).length ≤ k * s.length
  | [] => by simp
  | b :: s => by
    have h1 := hf b
    have h2 := flat_le f k hf s
    simp only [List.flatMap_cons, List.length_append, List.length_cons, Nat.mul_add, Nat.mul_one]
    omega
theorem quoteS_len (s : Str) : (quoteS s).length ≤ 4 * s.length + 2 := by
  have := flat_le quoteB 4 (fun b => (quoteB_len b).1) s
  simp only [quoteS, List.length_cons, List.length_append, List.length_nil]
  omega
/-- texts between which another stands -/
def joinS (sep : Str) : List Str → Str
  | [] => []
  | [x] => x
  | x :: y :: r => x ++ sep ++ joinS sep (y :: r)
/-- the parts between a byte -/
def cutS (b : UInt8) : Str → List Str
  | [] => [[]]
  | x :: s => if x = b then [] :: cutS b s else match cutS b s with
    | p :: r => (x :: p) :: r
    | [] => [[x]]
end Go.Proofs.YtdhejeigbjmncaaDoor
