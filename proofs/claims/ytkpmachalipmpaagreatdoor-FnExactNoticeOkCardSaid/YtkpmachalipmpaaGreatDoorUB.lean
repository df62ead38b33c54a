/- Joined: E7 E8 E9 E10 E10P. Conditions: those of each lemma. -/
import Derived.Test.YtkpmachalipmpaaGreatDoorUA
import Derived.Great.BuildSlice
import Derived.Laws.Strings
import Derived.Laws.Small
import Derived.Laws.BytesArg
import Derived.Laws.MakeOwn
set_option linter.unusedVariables false
set_option linter.unusedSimpArgs false
namespace Go.Proofs.YtkpmachalipmpaaGreatDoor.E
set_option linter.unusedVariables false
set_option linter.unusedSimpArgs false

variable {P : Program} {w : World} {F : Nat → Prop} {ρ : Locs} {Ow : Own} {h : Heap}

/-- what an operation that calls nobody comes to -/
def Runs (P : Program) (w : World) (F : Nat → Prop) (ρ : Locs) (Ow : Own) (s : Sem Value) (v : V) (h' : Heap) : Prop :=
  ∃ w' F' ρ' u, s.run P w = .ok u w' ∧ RV w' F' ρ' u v ∧ St w' F' ρ' Ow h' ∧ Nxt Ow w F ρ w' F' ρ'
theorem Runs.same {s : Sem Value} {u : Value} {v : V} (hS : St w F ρ Ow h) (hr : s.run P w = .ok u w) (hv : RV w F ρ u v) : Runs P w F ρ Ow s v h := ⟨w, F, ρ, u, hr, hv, hS, Nxt.refl _ _ _ _⟩

/-! ### Numbers, strings, bools -/
theorem ibin_run {op : BinOp} {ty : TypeId} {k : IntKind} {x y : Int} {n : T} (hs : isShift op = false) (hn : ibin op k x y = some n) : ∃ u, (binOp op ty (.int k x) (.int k y)).run P w = .ok u w ∧ RT w F u n := by
  cases op with
  | add => cases hn; exact ⟨.int k (k.wrap (x + y)), by simp [binOp, Op.intArith], .int _ _⟩
  | sub => cases hn; exact ⟨.int k (k.wrap (x - y)), by simp [binOp, Op.intArith], .int _ _⟩
  | mul => cases hn; exact ⟨.int k (k.wrap (x * y)), by simp [binOp, Op.intArith], .int _ _⟩
  | quo =>
    simp only [ibin] at hn
    split at hn
    · cases hn
    · rename_i hy; cases hn; exact ⟨.int k (k.wrap (x.tdiv y)), by simp [binOp, Op.intDiv, hy], .int _ _⟩
  | rem =>
    simp only [ibin] at hn
    split at hn
    · cases hn
    · rename_i hy; cases hn; exact ⟨.int k (x.tmod y), by simp [binOp, Op.intDiv, hy], .int _ _⟩
  | and => cases hn; exact ⟨.int k _, by simp [binOp, Op.intBits], .int _ _⟩
  | or => cases hn; exact ⟨.int k _, by simp [binOp, Op.intBits], .int _ _⟩
  | xor => cases hn; exact ⟨.int k _, by simp [binOp, Op.intBits], .int _ _⟩
  | andNot => cases hn; exact ⟨.int k _, by simp [binOp, Op.intBits], .int _ _⟩
  | shl => cases hs
  | shr => cases hs
  | eql => cases hn; exact ⟨.bool (x == y), by simp [binOp, Op.intCmp], .bool _⟩
  | neq => cases hn; exact ⟨.bool (x != y), by simp [binOp, Op.intCmp], .bool _⟩
  | lss => cases hn; exact ⟨.bool (decide (x < y)), by simp [binOp, Op.intCmp], .bool _⟩
  | leq => cases hn; exact ⟨.bool (decide (x ≤ y)), by simp [binOp, Op.intCmp], .bool _⟩
  | gtr => cases hn; exact ⟨.bool (decide (x > y)), by simp [binOp, Op.intCmp], .bool _⟩
  | geq => cases hn; exact ⟨.bool (decide (x ≥ y)), by simp [binOp, Op.intCmp], .bool _⟩
theorem ishift_run {op : BinOp} {ty : TypeId} {k k' : IntKind} {x y : Int} {n : Int} (hs : isShift op = true) (hn : ishift op k x y = some n) : (binOp op ty (.int k x) (.int k' y)).run P w = .ok (.int k n) w := by
  unfold ishift at hn
  split at hn
  · cases hn
  · rename_i hy
    cases op <;> simp [isShift] at hs
    · simp at hn; subst hn; simp [binOp, Op.shift, hy]
    · simp at hn; subst hn; simp [binOp, Op.shift, hy]
theorem sbin_run {op : BinOp} {ty : TypeId} {s s' : ByteArray} {n : T} (hn : sbin op s.data.toList s'.data.toList = some n) : ∃ u, (binOp op ty (.string s) (.string s')).run P w = .ok u w ∧ RT w F u n := by
  cases op with
  | add =>
    simp only [sbin] at hn
    split at hn
    · rename_i hl
      cases hn
      have hl' : ¬ (((s.size + s'.size : Nat) : Int) > IntKind.i64.max) := by
        have e1 : s.data.toList.length = s.size := by simp
        have e2 : s'.data.toList.length = s'.size := by simp
        have : IntKind.i64.max = 9223372036854775807 := rfl
        omega
      exact ⟨.string (s ++ s'), by simp only [binOp, Op.stringOp, hl', if_false, Sem.run_pure], .str _ _ (by simp)⟩
    · cases hn
  | eql => cases hn; exact ⟨.bool _, by simp only [binOp, Op.stringOp, Sem.run_pure, ByteArray.toList_eq], .bool _⟩
  | neq => cases hn; exact ⟨.bool _, by simp only [binOp, Op.stringOp, Sem.run_pure, ByteArray.toList_eq], .bool _⟩
  | lss => cases hn; exact ⟨.bool _, by simp only [binOp, Op.stringOp, Sem.run_pure, ByteArray.toList_eq], .bool _⟩
  | leq => cases hn; exact ⟨.bool _, by simp only [binOp, Op.stringOp, Sem.run_pure, ByteArray.toList_eq], .bool _⟩
  | gtr => cases hn; exact ⟨.bool _, by simp only [binOp, Op.stringOp, Sem.run_pure, ByteArray.toList_eq], .bool _⟩
  | geq => cases hn; exact ⟨.bool _, by simp only [binOp, Op.stringOp, Sem.run_pure, ByteArray.toList_eq], .bool _⟩
  | _ => cases hn
theorem isSl_ty {ty : TypeId} (h : isSl P ty = true) : ∃ e, P.underlying ty = some (.slice e) := by
  unfold isSl at h
  split at h
  · rename_i e he; exact ⟨e, he⟩
  · cases h
theorem run_equalIn_nil' (w : World) (d : Nat) (ty : TypeId) (a : Option Addr) (n c : Nat) {e : TypeId} (hu : P.underlying ty = some (.slice e)) : (Op.equalIn (d + 1) ty (.slice a n c) (.slice none 0 0)).run P w = .ok a.isNone w := by
  cases a <;> simp [Op.equalIn, run_underlying' hu]
theorem run_equal_slice (w : World) (ty : TypeId) {a : Option Addr} {n c : Nat} {e : TypeId} (hu : P.underlying ty = some (.slice e)) : (Op.equal ty (.slice a n c) (.slice none 0 0)).run P w = .ok a.isNone w := run_equalIn_nil' w 9999 ty a n c hu
theorem run_equal_nil (w : World) (ty : TypeId) {e : TypeId} (hu : P.underlying ty = some (.slice e)) : (Op.equal ty (.slice none 0 0) (.slice none 0 0)).run P w = .ok true w := run_equalIn_nil' w 9999 ty none 0 0 hu
theorem bin_ok (hS : St w F ρ Ow h) {op : BinOp} {ty : TypeId} (x y : Operand) {u1 u2 : Value} {v1 v2 v : V} (hb : bin P op ty v1 v2 = some v) (h1 : RV w F ρ u1 v1) (h2 : RV w F ρ u2 v2) :
    Runs P w F ρ Ow (do eqGuard op ty x y u1 u2; binOp op ty u1 u2) v h := by
  unfold bin at hb
  split at hb
  · rename_i k m k' m'
    cases h1 with
    | t _ _ h1 =>
    cases h1
    cases h2 with
    | t _ _ h2 =>
    cases h2
    have hg : (eqGuard op ty x y (.int k m) (.int k' m')).run P w = .ok () w := by unfold eqGuard; split <;> rfl
    split at hb
    · rename_i hs
      simp only [Option.map_eq_some_iff] at hb
      obtain ⟨n, hn, rfl⟩ := hb
      exact Runs.same hS (u := .int k n) (by rw [Sem.run_bind, hg, Result.andThen_ok, ishift_run hs hn]) (.t _ _ (.int _ _))
    · rename_i hs
      split at hb
      · rename_i hk
        subst hk
        simp only [Option.map_eq_some_iff] at hb
        obtain ⟨n, hn, rfl⟩ := hb
        obtain ⟨u, e1, e2⟩ := ibin_run (P := P) (w := w) (F := F) (ty := ty) (by simpa using hs) hn
        exact Runs.same hS (u := u) (by rw [Sem.run_bind, hg, Result.andThen_ok, e1]) (.t _ _ e2)
      · cases hb
  · rename_i l l'
    cases h1 with
    | t _ _ h1 =>
    cases h1 with
    | str s _ e1 =>
    cases h2 with
    | t _ _ h2 =>
    cases h2 with
    | str s' _ e2 =>
    subst e1 e2
    have hg : (eqGuard op ty x y (.string s) (.string s')).run P w = .ok () w := by unfold eqGuard; split <;> rfl
    simp only [Option.map_eq_some_iff] at hb
    obtain ⟨n, hn, rfl⟩ := hb
    obtain ⟨u, e1, e2⟩ := sbin_run (P := P) (w := w) (F := F) (ty := ty) hn
    exact Runs.same hS (u := u) (by rw [Sem.run_bind, hg, Result.andThen_ok, e1]) (.t _ _ e2)
  · rename_i b b'
    split at hb
    · rename_i ht
      have hu : P.underlying ty = some .bool := by
        unfold isBoolT at ht; split at ht
        · assumption
        · simp at ht
      cases h1 with
      | t _ _ h1 =>
      cases h1
      cases h2 with
      | t _ _ h2 =>
      cases h2
      have hg : (eqGuard op ty x y (.bool b) (.bool b')).run P w = .ok () w := by unfold eqGuard; split <;> rfl
      split at hb
      · cases hb
        exact Runs.same hS (u := .bool (b == b')) (by rw [Sem.run_bind, hg]; simp [binOp, run_equal_bool w ty b b' hu]) (.t _ _ (.bool _))
      · cases hb
        exact Runs.same hS (u := .bool !(b == b')) (by rw [Sem.run_bind, hg]; simp [binOp, run_equal_bool w ty b b' hu]) (.t _ _ (.bool _))
      · cases hb
    · cases hb
  · split at hb
    · rename_i ht
      obtain ⟨e, hu⟩ := isSl_ty ht
      cases h1 with
      | t _ _ h1 =>
      cases h1 with
      | nlist a n c sz es b hb' h1 =>
      cases h2 with
      | nil sz =>
      have hg : (eqGuard op ty x y (.slice a n c) (.slice none 0 0)).run P w = .ok () w := by unfold eqGuard; split <;> rfl
      unfold nilEq at hb
      split at hb
      · cases hb; subst hb'; exact Runs.same hS (u := .bool a.isNone) (by rw [Sem.run_bind, hg]; simp [binOp, run_equal_slice w ty hu]) (.t _ _ (.bool _))
      · cases hb; subst hb'; exact Runs.same hS (u := .bool !a.isNone) (by rw [Sem.run_bind, hg]; simp [binOp, run_equal_slice w ty hu]) (.t _ _ (.bool _))
      · cases hb
    · cases hb
  · split at hb
    · rename_i ht
      obtain ⟨e, hu⟩ := isSl_ty ht
      cases h1 with
      | nil sz1 =>
      cases h2 with
      | nil sz2 =>
      have hg : (eqGuard op ty x y (.slice none 0 0) (.slice none 0 0)).run P w = .ok () w := by unfold eqGuard; split <;> rfl
      unfold nilEq at hb
      split at hb
      · cases hb; exact Runs.same hS (u := .bool true) (by rw [Sem.run_bind, hg]; simp [binOp, run_equal_nil w ty hu]) (.t _ _ (.bool _))
      · cases hb; exact Runs.same hS (u := .bool false) (by rw [Sem.run_bind, hg]; simp [binOp, run_equal_nil w ty hu]) (.t _ _ (.bool _))
      · cases hb
    · cases hb
  · cases hb
theorem isIf_ty {ty : TypeId} (h : isIf P ty = true) : ∃ e, P.underlying ty = some (.interface e) := by
  unfold isIf at h
  split at h
  · rename_i e he; exact ⟨e, he⟩
  · cases h
theorem run_equalIn_if' (w : World) (d : Nat) (ty t : TypeId) (z : Value) {e : Array (String × TypeId)} (hu : P.underlying ty = some (.interface e)) : (Op.equalIn (d + 1) ty (.iface t z) .nilIface).run P w = .ok false w := by
  simp [Op.equalIn, run_underlying' hu]
theorem run_equalIn_ifn' (w : World) (d : Nat) (ty : TypeId) {e : Array (String × TypeId)} (hu : P.underlying ty = some (.interface e)) : (Op.equalIn (d + 1) ty .nilIface .nilIface).run P w = .ok true w := by
  simp [Op.equalIn, run_underlying' hu]
theorem run_equal_if (w : World) (ty t : TypeId) (z : Value) {e : Array (String × TypeId)} (hu : P.underlying ty = some (.interface e)) : (Op.equal ty (.iface t z) .nilIface).run P w = .ok false w := run_equalIn_if' w 9999 ty t z hu
theorem run_equal_ifn (w : World) (ty : TypeId) {e : Array (String × TypeId)} (hu : P.underlying ty = some (.interface e)) : (Op.equal ty .nilIface .nilIface).run P w = .ok true w := run_equalIn_ifn' w 9999 ty hu
theorem binO_ok (hS : St w F ρ Ow h) {op : BinOp} {ty : TypeId} (x y : Operand) {u1 u2 : Value} {v1 v2 v : V} (hb : binO P op ty y v1 v2 = some v) (h1 : RV w F ρ u1 v1) (h2 : RV w F ρ u2 v2) :
    Runs P w F ρ Ow (do eqGuard op ty x y u1 u2; binOp op ty u1 u2) v h := by
  unfold binO at hb
  split at hb
  · split at hb
    · rename_i ht
      obtain ⟨e, hu⟩ := isIf_ty ht
      cases h1 with
      | t _ _ h1 =>
      cases h1 with
      | nni t z =>
      cases h2 with
      | t _ _ h2 =>
      cases h2
      have hg : (eqGuard op ty x y (.iface t z) .nilIface).run P w = .ok () w := by unfold eqGuard; split <;> rfl
      unfold nilEq at hb
      split at hb
      · cases hb; exact Runs.same hS (u := .bool false) (by rw [Sem.run_bind, hg]; simp [binOp, run_equal_if w ty t z hu]) (.t _ _ (.bool _))
      · cases hb; exact Runs.same hS (u := .bool true) (by rw [Sem.run_bind, hg]; simp [binOp, run_equal_if w ty t z hu]) (.t _ _ (.bool _))
      · cases hb
    · cases hb
  · split at hb
    · rename_i ht
      simp only [Bool.and_eq_true] at ht
      obtain ⟨ht, hy⟩ := ht
      obtain ⟨e, hu⟩ := isIf_ty ht
      obtain ⟨cv, rfl⟩ : ∃ cv, y = .const cv := by cases y <;> first | exact ⟨_, rfl⟩ | simp [isC] at hy
      cases h1 with
      | t _ _ h1 =>
      cases h1
      cases h2 with
      | t _ _ h2 =>
      cases h2
      have hg : (eqGuard op ty x (.const cv) .nilIface .nilIface).run P w = .ok () w := by cases op <;> cases x <;> rfl
      unfold nilEq at hb
      split at hb
      · cases hb; exact Runs.same hS (u := .bool true) (by rw [Sem.run_bind, hg]; simp [binOp, run_equal_ifn w ty hu]) (.t _ _ (.bool _))
      · cases hb; exact Runs.same hS (u := .bool false) (by rw [Sem.run_bind, hg]; simp [binOp, run_equal_ifn w ty hu]) (.t _ _ (.bool _))
      · cases hb
    · cases hb
  · exact bin_ok hS x y hb h1 h2
theorem una_ok (hS : St w F ρ Ow h) {op : UnOp} {u : Value} {v v' : V} (hb : una op v = some v') (h1 : RV w F ρ u v) : Runs P w F ρ Ow (Op.unary op u) v' h := by
  unfold una at hb
  split at hb
  · cases h1 with
    | t _ _ h1 =>
    cases h1
    split at hb
    · cases hb; exact Runs.same hS (u := .bool _) (by simp [Op.unary]) (.t _ _ (.bool _))
    · cases hb
  · rename_i k n
    cases h1 with
    | t _ _ h1 =>
    cases h1
    split at hb
    · cases hb; exact Runs.same hS (u := .int k _) (by simp [Op.unary, Op.intArith]) (.t _ _ (.int _ _))
    · simp only [ibits, Option.map_some] at hb
      cases hb; exact Runs.same hS (u := .int k _) (by simp [Op.unary, Op.intBits]) (.t _ _ (.int _ _))
    · cases hb
  · cases hb

/-! ### Slices' bounds, indices -/
theorem sliceBound_ok {k : IntKind} {n : Int} {y : Nat} {code : BoundsCode} (h0 : 0 ≤ n) (h1 : n ≤ y) : (Instr.sliceBound (.int k n) y code).run P w = .ok n.toNat w := by
  simp [Instr.sliceBound, asIntOf, h0, h1]
def optV (w : World) (F : Nat → Prop) (ρ : Locs) : Option Value → Option V → Prop
  | none, none => True
  | some u, some v => RV w F ρ u v
  | _, _ => False
theorem bndV_ok {dflt mx n y : Nat} {v : Option V} {u : Option Value} (hb : bndV dflt mx v = some n) (hu : optV w F ρ u v) (hy : mx ≤ y) (code : BoundsCode) :
    (u = none ∧ n = dflt) ∨ (∃ x, u = some x ∧ (Instr.sliceBound x y code).run P w = .ok n w ∧ n ≤ mx) := by
  unfold bndV at hb
  split at hb
  · cases hb
    cases u with
    | none => exact .inl ⟨rfl, rfl⟩
    | some x => exact hu.elim
  · rename_i k m
    split at hb
    · rename_i hm
      cases hb
      cases u with
      | none => exact hu.elim
      | some x =>
        cases hu with
        | t _ _ hx =>
        cases hx
        exact .inr ⟨_, rfl, sliceBound_ok hm.1 (by omega), by omega⟩
    · cases hb
  · cases hb
theorem cutB_ok {len cap : Nat} (hlc : len ≤ cap) {lo hi : Option V} {l' h' : Nat} (hc : cutB len lo hi = some (l', h')) {ulo uhi : Option Value} (hlo : optV w F ρ ulo lo) (hhi : optV w F ρ uhi hi) (sl : Bool) :
    (Instr.sliceBounds sl len cap ulo uhi none).run P w = .ok (l', h', cap) w ∧ l' ≤ h' ∧ h' ≤ len := by
  unfold cutB at hc
  split at hc
  · rename_i hh he
    split at hc
    · rename_i ll hl
      cases hc
      have e1 : ∀ code, (match uhi with
          | some v => Instr.sliceBound v cap code
          | none => pure len).run P w = .ok h' w ∧ h' ≤ len := fun code => by
        rcases bndV_ok (P := P) he hhi hlc code with ⟨rfl, rfl⟩ | ⟨x, rfl, h1, h2⟩
        · exact ⟨rfl, Nat.le_refl _⟩
        · exact ⟨h1, h2⟩
      have e2 : ∀ code, (match ulo with
          | some v => Instr.sliceBound v h' code
          | none => pure 0).run P w = .ok l' w ∧ l' ≤ h' := fun code => by
        rcases bndV_ok (P := P) hl hlo (Nat.le_refl _) code with ⟨rfl, rfl⟩ | ⟨x, rfl, h1, h2⟩
        · exact ⟨rfl, Nat.zero_le _⟩
        · exact ⟨h1, h2⟩
      refine ⟨?_, (e2 .sliceB).2, (e1 .sliceB).2⟩
      unfold Instr.sliceBounds
      cases uhi <;> cases ulo <;> simp_all
    · cases hc
  · cases hc
end Go.Proofs.YtkpmachalipmpaaGreatDoor.E
/- The evaluator's operations are those of the machine: addresses, cuts, parts. Conditions: those of each lemma. -/
namespace Go.Proofs.YtkpmachalipmpaaGreatDoor.E
set_option linter.unusedVariables false
set_option linter.unusedSimpArgs false

variable {P : Program} {w : World} {F : Nat → Prop} {ρ : Locs} {Ow : Own} {h : Heap}

theorem elOf_eq {ty el : TypeId} (he : elOf P ty = some el) : P.underlying ty = some (.slice el) ∧ ∃ i, P.info? el = some i := by
  unfold elOf at he
  split at he
  · split at he
    · rename_i hi; cases he; exact ⟨by assumption, Option.isSome_iff_exists.1 hi⟩
    · cases he
  · cases he
theorem isStr_eq {ty : TypeId} (he : isStr P ty = true) : P.underlying ty = some .string := by
  unfold isStr at he
  split at he
  · assumption
  · cases he
theorem isInt_eq {ty : TypeId} {k : IntKind} (he : isInt P ty = some k) : P.underlying ty = some (.int k) := by
  unfold isInt at he
  split at he
  · cases he; assumption
  · cases he
theorem run_sizeOf' {t : TypeId} (hs : szOf P t ≠ 0) : (sizeOf t).run P w = .ok (szOf P t) w := by
  cases hi : P.info? t with
  | none => simp [szOf, Program.cellsOf, hi] at hs
  | some i => exact run_sizeOf hi

/-- the middle of an immutable list -/
theorem rt_mid {a : Option Addr} {n c sz : Nat} {es : List (List T)} (hx : RT w F (.slice a n c) (.list sz es)) {l hh : Nat} (hl : l ≤ hh) (hn : hh ≤ n) (size : Nat) (hsz : sz = size ∨ es = []) :
    RT w F (.slice (if c = l then a else a.map (·.add (l * size))) (hh - l) (c - l)) (.list sz ((es.drop l).take (hh - l))) := by
  cases hx with
  | list a n c sz es g hn' hc h0 hz hr =>
    subst hn'
    refine .list _ _ _ sz _ (fun i j => g (l + i) j) (by simp; omega) (by omega) (fun hp => ?_) (fun e he => hz e (List.mem_of_mem_drop (List.mem_of_mem_take he))) fun i j cs x hi hj => ?_
    · have hsz' : sz = size := by
        rcases hsz with h1 | h1
        · exact h1
        · subst h1; simp at hn; omega
      subst hsz'
      obtain ⟨b, o, rfl, hb, hcell⟩ := h0 (by omega)
      refine ⟨b, o + l * sz, ?_, hb, fun i j hi hj => ?_⟩
      · rw [if_neg (by omega)]; simp [Addr.add_mid]
      · have := hcell (l + i) j (by omega) hj
        rw [Nat.add_mul] at this
        rw [← this]
        congr 2
        omega
    · rw [List.getElem?_take] at hi
      split at hi
      · rw [List.getElem?_drop] at hi
        exact hr _ _ _ _ hi hj
      · cases hi
theorem extract_data (s : ByteArray) (a b : Nat) : (s.extract a b).data.toList = (s.data.toList.drop a).take (b - a) := by
  simp [ByteArray.data_extract, Array.toList_extract, List.extract_eq_take_drop]

theorem cut_ok (hS : St w F ρ Ow h) {ty : TypeId} {x v : V} {lo hi mx : Option V} (hc : cut P ty x lo hi mx h = some v) {u : Value} (hu : RV w F ρ u x) {ulo uhi umx : Option Value}
    (hlo : optV w F ρ ulo lo) (hhi : optV w F ρ uhi hi) (hmx : optV w F ρ umx mx) : ∃ u', (Instr.sliceAt ty u ulo uhi umx).run P w = .ok u' w ∧ RV w F ρ u' v := by
  unfold cut at hc
  split at hc
  · rename_i l
    split at hc
    · rename_i ht
      simp only [Bool.and_eq_true, Option.isNone_iff_eq_none] at ht
      obtain ⟨ht, rfl⟩ := ht
      have hty := isStr_eq ht
      have : umx = none := by cases umx with
        | none => rfl
        | some x => exact hmx.elim
      subst this
      split at hc
      · rename_i a b hcut
        cases hc
        cases hu with
        | t _ _ hx =>
        cases hx with
        | str s _ hs =>
        subst hs
        obtain ⟨e1, e2, e3⟩ := cutB_ok (P := P) (cap := s.size) (by simp) hcut hlo hhi false
        simp only [Array.length_toList] at e1
        refine ⟨.string (s.extract a b), ?_, .t _ _ (.str _ _ (extract_data s a b))⟩
        have e1' : (Instr.sliceBounds false s.size s.size ulo uhi none).run P w = .ok (a, b, s.size) w := e1
        simp [Instr.sliceAt, run_underlying' hty, Instr.slice, e1']
      · cases hc
    · cases hc
  · rename_i sz es
    split at hc
    · rename_i el hel
      obtain ⟨hty, inf, hinfo⟩ := elOf_eq hel
      split at hc
      · rename_i ht
        simp only [Bool.and_eq_true, Option.isNone_iff_eq_none, Bool.or_eq_true, beq_iff_eq, List.isEmpty_iff] at ht
        obtain ⟨ht, rfl⟩ := ht
        have : umx = none := by cases umx with
          | none => rfl
          | some x => exact hmx.elim
        subst this
        split at hc
        · rename_i a b hcut
          cases hc
          cases hu with
          | t _ _ hx =>
          have hx' := hx
          cases hx with
          | list ad n c sz es g hn' hcc h0 hz hr =>
          subst hn'
          obtain ⟨e1, e2, e3⟩ := cutB_ok (P := P) (cap := c) hcc hcut hlo hhi true
          refine ⟨_, ?_, .t _ _ (rt_mid hx' e2 e3 (szOf P el) ht)⟩
          simp [Instr.sliceAt, run_underlying' hty, Instr.slice, e1, run_sizeOf hinfo]
        · cases hc
      · cases hc
    · cases hc
  · rename_i r off len cap
    split at hc
    · rename_i el hel
      obtain ⟨hty, inf, hinfo⟩ := elOf_eq hel
      split at hc
      · rename_i ht
        simp only [beq_iff_eq] at ht
        cases hb : h[r]? with
        | none => simp [hb] at ht
        | some blk =>
        simp only [hb, Option.bind_some] at ht
        have hsz : ∀ L, ρ r = some (some L) → L.sz = szOf P el := fun L hL => by
          have := hS.blk r blk hb
          cases blk with
          | dead => simp [blkSz] at ht
          | ts | vs | fz =>
            simp only [blkSz, Option.some.injEq] at ht
            rcases this with ⟨L', h1, h2, _⟩ | ⟨h1, _⟩
            · rw [hL] at h1; cases h1; exact h2.trans ht
            · rw [hL] at h1; cases h1
        -- the cut, once its bounds are known
        have main : ∀ (a b m : Nat) (cap' : Option Nat), a ≤ b → b ≤ len → b ≤ m → (∀ c, u = .slice (some ⟨0, 0, none⟩) len c ∨ True → True) → ∀ (ad : Option Addr) (c : Nat), u = .slice ad len c → (mx = none → m = c ∧ cap' = cap.map (· - a)) → (mx ≠ none → m ≤ len ∧ cap' = some (m - a)) → len ≤ c →
            RV w F ρ (.slice (if m = a then ad else ad.map (·.add (a * szOf P el))) (b - a) (m - a)) (.sl r (off + a) (b - a) cap') := by
          intro a b m cap' hab hbl hbm _ ad c hu' hm1 hm2 hlc
          subst hu'
          cases hu with
          | slP r cap a' hρ hcp =>
            have ha0 : a = 0 := by omega
            have hb0 : b = 0 := by omega
            subst ha0 hb0
            by_cases hmx0 : mx = none
            · obtain ⟨rfl, rfl⟩ := hm1 hmx0
              refine .slP r _ _ hρ ?_
              rcases hcp with rfl | rfl <;> simp
            · obtain ⟨h1, rfl⟩ := hm2 hmx0
              have : m = 0 := by omega
              subst this
              exact .slP r _ _ hρ (.inr rfl)
          | sl r off len cap L a' c hρ ha hl hn hc0 hc1 hz =>
            have hLs := hsz L hρ
            have hmc : m ≤ c := by
              by_cases hmx0 : mx = none
              · exact Nat.le_of_eq (hm1 hmx0).1
              · exact Nat.le_trans (hm2 hmx0).1 hl
            refine .sl r (off + a) (b - a) cap' L _ (m - a) hρ ?_ (by omega) (by omega) (fun hcap => ?_) (fun k hk => ?_) (fun hne => ?_)
            · by_cases hma : m = a
              · exact .inr (by omega)
              · left
                rw [if_neg hma]
                have hcne : c ≠ 0 := by omega
                obtain rfl := ha.resolve_right hcne
                simp only [Option.map_some, Addr.add_mid, ← hLs]
                congr 2
                rw [Nat.add_mul]; omega
            · by_cases hmx0 : mx = none
              · obtain ⟨rfl, rfl⟩ := hm1 hmx0
                cases cap with
                | none => have := hc0 rfl; omega
                | some k => simp at hcap
              · rw [(hm2 hmx0).2] at hcap; cases hcap
            · by_cases hmx0 : mx = none
              · obtain ⟨rfl, rfl⟩ := hm1 hmx0
                cases cap with
                | none => simp at hk
                | some k' =>
                  simp at hk
                  have := hc1 k' rfl
                  omega
              · rw [(hm2 hmx0).2] at hk; cases hk; rfl
            · have hcne : c ≠ 0 := by omega
              have := hz hcne
              have : (off + a + (m - a)) * L.sz ≤ (off + c) * L.sz := Nat.mul_le_mul_right _ (by omega)
              omega
        have hform : ∃ ad c, u = .slice ad len c ∧ len ≤ c := by
          cases hu with
          | sl r off len cap L a' c hρ ha hl => exact ⟨_, _, rfl, hl⟩
          | slP => exact ⟨_, _, rfl, Nat.le_refl _⟩
        obtain ⟨ad, c, hu', hlc⟩ := hform
        split at hc
        · have : umx = none := by cases umx with
            | none => rfl
            | some x => exact hmx.elim
          subst this
          split at hc
          · rename_i a b hcut
            cases hc
            obtain ⟨e1, e2, e3⟩ := cutB_ok (P := P) (cap := c) hlc hcut hlo hhi true
            refine ⟨_, ?_, main a b c _ e2 e3 (by omega) (fun _ _ => trivial) ad c hu' (fun _ => ⟨rfl, rfl⟩) (fun hne => absurd rfl hne) hlc⟩
            subst hu'
            simp [Instr.sliceAt, run_underlying' hty, Instr.slice, e1, run_sizeOf hinfo]
          · cases hc
        · rename_i k m
          split at hc
          · rename_i hm
            split at hc
            · cases hc
            · rename_i hiv
              split at hc
              · rename_i a b hcut
                cases hc
                obtain ⟨um, rfl⟩ : ∃ um, umx = some um := by
                  cases umx with
                  | none => exact hmx.elim
                  | some x => exact ⟨x, rfl⟩
                obtain ⟨uh, rfl⟩ : ∃ um, uhi = some um := by
                  cases uhi with
                  | none => exact hhi.elim
                  | some x => exact ⟨x, rfl⟩
                cases hmx with
                | t _ _ hx =>
                cases hx
                have hb3 : (Instr.sliceBounds true len c ulo (some uh) (some (.int k m))).run P w = .ok (a, b, m.toNat) w ∧ a ≤ b ∧ b ≤ m.toNat := by
                  unfold cutB at hcut
                  split at hcut
                  · rename_i hh he
                    split at hcut
                    · rename_i ll hl
                      cases hcut
                      rcases bndV_ok (P := P) (y := m.toNat) he hhi (Nat.le_refl _) .slice3B with ⟨h1, _⟩ | ⟨x, h1, h2, h3⟩
                      · cases h1
                      · cases h1
                        have e2 : (match ulo with
                            | some v => Instr.sliceBound v b .slice3C
                            | none => pure 0).run P w = .ok a w ∧ a ≤ b := by
                          rcases bndV_ok (P := P) (y := b) hl hlo (Nat.le_refl _) .slice3C with ⟨rfl, rfl⟩ | ⟨x, rfl, h1, h2⟩
                          · exact ⟨rfl, Nat.zero_le _⟩
                          · exact ⟨h1, h2⟩
                        refine ⟨?_, e2.2, h3⟩
                        have e0 := sliceBound_ok (P := P) (w := w) (k := k) (n := m) (y := c) (code := .slice3Acap) hm.1 (by omega)
                        unfold Instr.sliceBounds
                        cases ulo <;> simp_all
                    · cases hcut
                  · cases hcut
                refine ⟨_, ?_, main a b m.toNat _ hb3.2.1 (by omega) hb3.2.2 (fun _ _ => trivial) ad c hu' (fun hne => by cases hne) (fun _ => ⟨by omega, rfl⟩) hlc⟩
                subst hu'
                simp [Instr.sliceAt, run_underlying' hty, Instr.slice, hb3.1, run_sizeOf hinfo]
              · cases hc
          · cases hc
        · cases hc
      · cases hc
    · cases hc
  · cases hc

theorem getE_some {α : Type} {es : List α} {n : Int} {x : α} (hg : getE es n = some x) : 0 ≤ n ∧ n < es.length ∧ es[n.toNat]? = some x := by
  unfold getE at hg
  split at hg
  · rename_i h0
    have := (List.getElem?_eq_some_iff.1 hg).1
    exact ⟨h0, by omega, hg⟩
  · cases hg
theorem idxAddr_ok (hS : St w F ρ Ow h) {ty : TypeId} {x i v : V} (hc : idxAddr P ty x i h = some v) {u ui : Value} (hu : RV w F ρ u x) (hi : RV w F ρ ui i) :
    ∃ u', (Instr.indexAt ty u ui).run P w = .ok u' w ∧ RV w F ρ u' v := by
  unfold idxAddr at hc
  split at hc
  · rename_i k n
    cases hi with
    | t _ _ hx =>
    cases hx
    split at hc
    · rename_i el hel
      obtain ⟨hty, inf, hinfo⟩ := elOf_eq hel
      split at hc
      · rename_i sz es
        split at hc
        · rename_i hsz
          simp only [beq_iff_eq] at hsz
          subst hsz
          split at hc
          · rename_i cs hg
            cases hc
            obtain ⟨h1, h2, h3⟩ := getE_some hg
            cases hu with
            | t _ _ hx =>
            cases hx with
            | list a m c sz es g hn hcc h0 hz hr =>
            subst hn
            obtain ⟨b, o, rfl, hb, hcell⟩ := h0 (by omega)
            refine ⟨.pointer (some ⟨b, o + n.toNat * szOf P el, none⟩), ?_, .t _ _ (.fp b _ cs (fun j => g n.toNat j) hb (fun j hj => ?_) fun j x hj => hr _ _ _ _ h3 hj)⟩
            · simp [Instr.indexAt, asIntOf, run_underlying' hty, h1, h2, run_sizeOf hinfo, Addr.add_mid]
            · have := hcell n.toNat j (by omega) (by rw [← hz cs (List.mem_of_getElem? h3)]; exact hj)
              rw [← this]; congr 2; omega
          · cases hc
        · cases hc
      · rename_i r off len cap
        split at hc
        · rename_i ht
          cases hc
          simp only [Bool.and_eq_true, beq_iff_eq, decide_eq_true_eq] at ht
          obtain ⟨⟨ht, h1⟩, h2⟩ := ht
          cases hb : h[r]? with
          | none => simp [hb] at ht
          | some blk =>
          simp only [hb, Option.bind_some] at ht
          cases hu with
          | slP => simp at h2; omega
          | sl r off len cap L a c hρ ha hl hn hc0 hc1 hz =>
            have hLs : L.sz = szOf P el := by
              have := hS.blk r blk hb
              cases blk with
              | dead => simp [blkSz] at ht
              | ts | vs | fz =>
                simp only [blkSz, Option.some.injEq] at ht
                rcases this with ⟨L', h1, h2, _⟩ | ⟨h1, _⟩
                · rw [hρ] at h1; cases h1; exact h2.trans ht
                · rw [hρ] at h1; cases h1
            obtain rfl := ha.resolve_right (by omega)
            refine ⟨.pointer (some ⟨L.b, L.o + ((off + n.toNat) * L.sz + 0), none⟩), ?_, .ptr r _ 0 L hρ⟩
            simp [Instr.indexAt, asIntOf, run_underlying' hty, h1, h2, run_sizeOf hinfo, Addr.add_mid, ← hLs]
            rw [Nat.add_mul]; omega
        · cases hc
      · cases hc
    · cases hc
  · cases hc
theorem fOf_eq {s : TypeId} {i o n : Nat} {a : Bool} (hf : fOf P s i = some (o, n, a)) : ∃ fs f inf d, P.underlying s = some (.struct fs) ∧ fs[i]? = some f ∧ f.offset = o ∧ P.info? f.type = some inf ∧ inf.size = n ∧ n ≠ 0 ∧ P.underlying f.type = some d ∧ a = aggOf P f.type ∧ szOf P f.type = n := by
  unfold fOf at hf
  split at hf
  · rename_i fs hfs
    split at hf
    · rename_i f hfi
      split at hf
      · rename_i inf hinf
        split at hf
        · rename_i d hd
          split at hf
          · cases hf
          · rename_i hn
            cases hf
            exact ⟨fs, f, inf, d, hfs, hfi, rfl, hinf, rfl, hn, hd, rfl, by simp [szOf, Program.cellsOf, hinf]⟩
        · cases hf
      · cases hf
    · cases hf
  · cases hf
theorem fldAddr_ok {s : TypeId} {x v : V} {i : Nat} (hc : fldAddr P s x i = some v) {u : Value} (hu : RV w F ρ u x) : ∃ u', (Instr.fieldAt s u i).run P w = .ok u' w ∧ RV w F ρ u' v := by
  unfold fldAddr at hc
  split at hc
  · rename_i o n a hf
    obtain ⟨fs, f, inf, d, h1, h2, rfl, h4, h5, h6, h7, h8, h9⟩ := fOf_eq hf
    have hplace : ∀ b o', (fieldPlace ⟨b, o', none⟩ f).run P w = .ok ⟨b, o' + f.offset, none⟩ w := fun b o' => by
      simp [fieldPlace, run_sizeOf h4, h9, h6, Addr.add_mid]
    split at hc
    · rename_i r a' j
      cases hc
      cases hu with
      | ptr r a' j L hρ =>
      refine ⟨_, ?_, .ptr r a' (j + f.offset) L hρ⟩
      simp [Instr.fieldAt, run_underlying' h1, h2, Instr.sureAddr, hplace]
      omega
    · rename_i cs
      split at hc
      · rename_i ho
        cases hc
        cases hu with
        | t _ _ hx =>
        cases hx with
        | fp b o' cs g hF hcell hr =>
        refine ⟨.pointer (some ⟨b, o' + f.offset, none⟩), ?_, .t _ _ (.fp b _ _ (fun j => g (f.offset + j)) hF (fun j hj => ?_) fun j x hj => ?_)⟩
        · simp [Instr.fieldAt, run_underlying' h1, h2, Instr.sureAddr, hplace]
        · rw [← hcell (f.offset + j) (by simp at hj; omega)]; congr 2; omega
        · rw [List.getElem?_drop] at hj; exact hr _ _ hj
      · cases hc
    · cases hc
  · cases hc
theorem run_part {t : TypeId} {d : TypeDesc} {i : TypeInfo} (hd : P.underlying t = some d) (hi : P.info? t = some i) {us : List Value} {cs : List V} {o : Nat} {v : V} (hr : RVs w F ρ us cs) (hl : o + szOf P t ≤ cs.length)
    (hp : packV (aggOf P t) ((cs.drop o).take (szOf P t)) = some v) (arr : Array Value) (ha : arr.toList = us) : ∃ u, (part t arr o).run P w = .ok u w ∧ RV w F ρ u v := by
  obtain ⟨h1, h2⟩ := packV_rv hp (rvs_take (rvs_drop hr o) (szOf P t))
  have hul := forall₂_len hr
  cases hag : aggOf P t with
  | true =>
    refine ⟨_, ?_, h1 hag⟩
    simp only [part, Sem.run_bind, run_isAgg hd, Result.andThen_ok, hag, if_true, run_sizeOf hi, Sem.run_pure]
    congr 2
    apply Array.ext'
    simp [Array.toList_extract, List.extract_eq_take_drop, ha, Nat.add_sub_cancel_left]
  | false =>
    obtain ⟨u, he, hv⟩ := h2 hag
    refine ⟨u, ?_, hv⟩
    have : us[o]? = some u := by
      have := congrArg (·[0]?) he
      simp only [List.getElem?_take, List.getElem?_drop] at this
      split at this
      · simpa using this
      · simp at this
    have hau : arr[o]? = some u := by rw [← Array.getElem?_toList, ha]; exact this
    simp [part, Sem.run_bind, run_isAgg hd, hag, hau]
theorem fld_ok {s : TypeId} {x v : V} {i : Nat} (hc : fld P s x i = some v) {u : Value} (hu : RV w F ρ u x) : ∃ u', (Instr.field s u i).run P w = .ok u' w ∧ RV w F ρ u' v := by
  unfold fld at hc
  split at hc
  · rename_i o n a hf
    obtain ⟨fs, f, inf, d, h1, h2, rfl, h4, h5, h6, h7, h8, h9⟩ := fOf_eq hf
    split at hc
    · rename_i cs
      split at hc
      · rename_i hl
        cases hu with
        | agg vs cs g hs hg hr =>
        subst h8
        rw [← h9] at hc hl
        obtain ⟨u, e1, e2⟩ := run_part (P := P) (w := w) h7 h4 (rvs_of hs hg hr) hl hc vs rfl
        exact ⟨u, by simp [Instr.field, run_underlying' h1, h2, asAgg, e1], e2⟩
      · cases hc
    · cases hc
  · cases hc
theorem known_eq {t : TypeId} (hk : known P t = true) : ∃ d, P.underlying t = some d := Option.isSome_iff_exists.1 hk
theorem load_ok (hS : St w F ρ Ow h) {ty : TypeId} {x v : V} (hc : load P ty x h = some v) {u : Value} (hu : RV w F ρ u x) : ∃ u', (Instr.loadAt ty u).run P w = .ok u' w ∧ RV w F ρ u' v := by
  unfold load at hc
  split at hc
  · rename_i r i j
    split at hc
    · rename_i hk
      obtain ⟨d, hd⟩ := known_eq hk
      split at hc
      · rename_i cs hl
        obtain ⟨b, o, us, rfl, e1, e2, e3⟩ := ldCells_ok hS hl hu
        obtain ⟨u', h1, h2⟩ := run_load_cells hd e1 e2 e3 hc
        exact ⟨u', by simp [Instr.loadAt, Instr.sureAddr, h1], h2⟩
      · cases hc
    · cases hc
  · rename_i cs
    split at hc
    · rename_i hk
      obtain ⟨d, hd⟩ := known_eq hk.1
      cases hu with
      | t _ _ hx =>
      cases hx with
      | fp b o cs g hF hcell hr =>
      obtain ⟨u', h1, h2⟩ := run_load_cells (P := P) (w := w) (F := F) (ρ := ρ) hd (b := b) (o := o) (us := (List.range (szOf P ty)).map g) (cs := (cs.take (szOf P ty)).map .t) (v := v) (by simp) (fun j v' hv => by
          have hj : j < szOf P ty := by have := (List.getElem?_eq_some_iff.1 hv).1; simpa using this
          simp [hj] at hv; subst hv; exact hcell j (by omega)) (rts_rvs (forall₂_of (by simp; omega) fun j u x hu hx => by
          have hj : j < szOf P ty := by have := (List.getElem?_eq_some_iff.1 hu).1; simpa using this
          simp [hj] at hu; subst hu
          rw [List.getElem?_take] at hx; simp [hj] at hx
          exact hr j x hx)) hc
      exact ⟨u', by simp [Instr.loadAt, Instr.sureAddr, h1], h2⟩
    · cases hc
  · cases hc
theorem store_ok (hS : St w F ρ Ow h) {ty : TypeId} {x v : V} {h' : Heap} (hc : store P ty x v h = some h') {u uv : Value} (hu : RV w F ρ u x) (hv : RV w F ρ uv v) :
    ∃ w' F', (Instr.storeAt ty u uv).run P w = .ok () w' ∧ St w' F' ρ Ow h' ∧ Nxt Ow w F ρ w' F' ρ := by
  unfold store at hc
  split at hc
  · rename_i r i j
    split at hc
    · rename_i hk
      obtain ⟨hk1, hk2, hk3⟩ := hk
      obtain ⟨d, hd⟩ := known_eq hk1
      obtain ⟨inf, hinf⟩ := info_of_underlying hd
      have hcells := rv_cells hv hk3
      obtain ⟨b, o, F', rfl, h1, h2, h3⟩ := stCells_ok hS hc hu hcells
      have hl := forall₂_len hcells
      have hone := rvs_one hcells hk3
      have hst := run_storeCells_cells (P := P) b o uv.cells.toList 0 w (fun j hj => by simpa using (h1 j hj).1) (fun j hj => by simpa using (h1 j hj).2) (fun v hv => by
        have := List.all_eq_true.1 hone v hv; exact this)
      simp only [Nat.add_zero] at hst
      refine ⟨_, F', ?_, h2, h3⟩
      have hsz : uv.cells.size = szOf P ty := by rw [← hk2]; simpa using hl
      simp [Instr.storeAt, Instr.sureAddr, storeVar, run_sizeOf hinf, hsz, hst]
    · cases hc
  · cases hc
end Go.Proofs.YtkpmachalipmpaaGreatDoor.E
/- The evaluator's operations are those of the machine: what makes memory, conversions, builtins. Conditions: those of each lemma. -/
namespace Go.Proofs.YtkpmachalipmpaaGreatDoor.E
set_option linter.unusedVariables false
set_option linter.unusedSimpArgs false

variable {P : Program} {w : World} {F : Nat → Prop} {ρ : Locs} {Ow : Own} {h : Heap}

theorem zero_ok {t : TypeId} {zs : List V} (hz : zeroOf P t = some zs) : ∃ inf z, P.info? t = some inf ∧ inf.zero = some z ∧ z.cells.size = inf.size ∧ RVs w F ρ z.cells.toList zs ∧ zs.length = szOf P t := by
  unfold zeroOf at hz
  split at hz
  · rename_i inf hinf
    split at hz
    · rename_i z hzz
      simp only at hz
      split at hz
      · rename_i hb
        cases hz
        simp only [Bool.and_eq_true, beq_iff_eq] at hb
        have hr := cstAll_rv (P := P) (w := w) (F := F) (ρ := ρ) z.cells.toList (leafs P 8 t)
        have := forall₂_len hr
        exact ⟨inf, z, hinf, hzz, hb.1, hr, by rw [← this]; simp [hb.1, szOf, Program.cellsOf, hinf]⟩
      · cases hz
    · cases hz
  · cases hz
theorem new_ptr (hS : St w F ρ Ow h) (hO : OkO Ow w ρ h) {arr : Array Value} {el : TypeId} {cs : List V} (hr : RVs w F ρ arr.toList cs) :
    ∃ ρ', RV (w.alloc (.cells arr el)) F ρ' (.pointer (some ⟨w.heap.size, 0, none⟩)) (.ptr (nI Ow.N h) 0 0) ∧ St (w.alloc (.cells arr el)) F ρ' Ow (nH Ow.N h (.vs cs.length [cs])) ∧ Nxt Ow w F ρ (w.alloc (.cells arr el)) F ρ' := by
  obtain ⟨ρ', k1, k2, k3⟩ := new_vs (el := el) hS hO hr
  refine ⟨ρ', ?_, k1, k2⟩
  have := RV.ptr (w := w.alloc (.cells arr el)) (F := F) (ρ := ρ') (nI Ow.N h) 0 0 _ k3
  simpa using this
theorem alloc_ok (hS : St w F ρ Ow h) (hO : OkO Ow w ρ h) {t : TypeId} {zs : List V} (hz : zeroOf P t = some zs) :
    Runs P w F ρ Ow (Instr.alloc t true (.tuple #[])) (.ptr (nI Ow.N h) 0 0) (nH Ow.N h (.vs zs.length [zs])) := by
  obtain ⟨inf, z, h1, h2, h3, h4, h5⟩ := zero_ok (w := w) (F := F) (ρ := ρ) hz
  obtain ⟨ρ', k1, k2, k3⟩ := new_ptr (el := t) hS hO h4
  exact ⟨_, F, ρ', _, by simp [Instr.alloc, run_zeroValue h1 h2, newVar, newRow], k1, k2, k3⟩
theorem box_ok (hS : St w F ρ Ow h) (hO : OkO Ow w ρ h) {t : TypeId} {u : Value} {v : V} (hu : RV w F ρ u v) (hv : (cellsV v).all okCell = true) :
    Runs P w F ρ Ow (Instr.box t u) (.ptr (nI Ow.N h) 0 0) (nH Ow.N h (.vs (cellsV v).length [cellsV v])) := by
  obtain ⟨ρ', k1, k2, k3⟩ := new_ptr (el := t) hS hO (rv_cells hu hv)
  exact ⟨_, F, ρ', _, by simp [Instr.box, newVar, newRow], k1, k2, k3⟩

/-! ### Literals -/
theorem foldl_set (off : Nat) : ∀ (l : List Value) (k : Nat) (cs : Array Value), off + k + l.length ≤ cs.size →
    ((l.zipIdx k).foldl (fun cs (x : Value × Nat) => cs.setIfInBounds (off + x.2) x.1) cs).size = cs.size ∧
    ∀ m, ((l.zipIdx k).foldl (fun cs (x : Value × Nat) => cs.setIfInBounds (off + x.2) x.1) cs)[m]? = if off + k ≤ m ∧ m < off + k + l.length then l[m - (off + k)]? else cs[m]?
  | [], k, cs, _ => ⟨rfl, fun m => by simp only [List.zipIdx_nil, List.foldl_nil, List.length_nil]; rw [if_neg (by omega)]⟩
  | x :: l, k, cs, hl => by
    simp only [List.length_cons] at hl
    simp only [List.zipIdx_cons, List.foldl_cons]
    obtain ⟨h1, h2⟩ := foldl_set off l (k + 1) (cs.setIfInBounds (off + k) x) (by simp; omega)
    refine ⟨by simpa using h1, fun m => ?_⟩
    rw [h2]
    simp only [List.length_cons]
    by_cases hm : off + k = m
    · subst hm
      rw [if_neg (by omega), if_pos (by omega)]
      simp [show off + k < cs.size by omega]
    · by_cases hm' : off + (k + 1) ≤ m ∧ m < off + (k + 1) + l.length
      · rw [if_pos hm', if_pos (by omega), show m - (off + k) = (m - (off + (k + 1))) + 1 by omega]; simp
      · rw [if_neg hm', if_neg (by omega), Array.getElem?_setIfInBounds_ne hm]
theorem foldl_splice (off : Nat) (v cs : Array Value) (hl : off + v.size ≤ cs.size) : (v.zipIdx.foldl (fun cs (c, j) => cs.setIfInBounds (off + j) c) cs).toList = splice cs.toList off v.toList := by
  have h1 : v.zipIdx.foldl (fun cs (c, j) => cs.setIfInBounds (off + j) c) cs = (v.toList.zipIdx 0).foldl (fun cs (x : Value × Nat) => cs.setIfInBounds (off + x.2) x.1) cs := by
    rw [← Array.foldl_toList]; simp
  obtain ⟨h2, h3⟩ := foldl_set off v.toList 0 cs (by simpa using hl)
  rw [h1]
  apply List.ext_getElem?
  intro m
  rw [Array.getElem?_toList, h3, splice_get (by simpa using hl)]
  simp
theorem rvs_splice {us vs' : List Value} {cs xs : List V} (h1 : RVs w F ρ us cs) (h2 : RVs w F ρ vs' xs) (j : Nat) : RVs w F ρ (splice us j vs') (splice cs j xs) := by
  unfold splice
  rw [forall₂_len h2]
  exact forall₂_append (forall₂_append (rvs_take h1 _) h2) (rvs_drop h1 _)
/-- a struct's places -/
def placesOf (P : Program) (fs : Array Go.Field) : Array (Nat × Nat) := fs.map fun f => (f.offset, szOf P f.type)
theorem run_places (fs : Array Go.Field) (hf : ∀ f ∈ fs, ∃ i, P.info? f.type = some i) : (fs.mapM (m := Sem) fun (f : Go.Field) => do pure (f.offset, ← sizeOf f.type)).run P w = .ok (placesOf P fs) w := by
  have key : ∀ l : List Go.Field, (∀ f ∈ l, ∃ i, P.info? f.type = some i) → (l.mapM (m := Sem) fun (f : Go.Field) => do pure (f.offset, ← sizeOf f.type)).run P w = .ok (l.map fun f => (f.offset, szOf P f.type)) w := by
    intro l
    induction l with
    | nil => intro _; simp
    | cons f l ih =>
      intro hl
      obtain ⟨i, hi⟩ := hl f (by simp)
      have ih' := ih fun f hf => hl f (by simp [hf])
      rw [List.mapM_cons, Sem.run_bind, Sem.run_bind, run_sizeOf hi]
      simp only [Result.andThen_ok, Sem.run_pure]
      rw [Sem.run_bind, ih']
      rfl
  rw [Array.mapM_eq_mapM_toList, Sem.run_map, key fs.toList (fun f hx => hf f (by simpa using hx))]
  simp only [Result.andThen_ok, placesOf]
  congr 1
  apply Array.ext'
  simp
theorem parts_rv {a : Act} {e : Env} (he : RE w F ρ a e) (ty : Nat → TypeId) : ∀ ps : List (Nat × Operand), All2 (fun (x : Nat × Value) (y : Nat × V) => x.1 = y.1 ∧ RV w F ρ x.2 y.2) (ps.map fun (i, x) => (i, a.eval x)) (partsV P e ty ps)
  | [] => .nil
  | (i, x) :: ps => by simp only [List.map_cons, partsV]; exact .cons ⟨rfl, opv_rv he _ _⟩ (parts_rv he ty ps)
theorem strOK_eq {t : TypeId} (ht : strOK P t = true) : ∃ fs, P.underlying t = some (.struct fs) ∧ ∀ f ∈ fs, ∃ i, P.info? f.type = some i := by
  unfold strOK at ht
  split at ht
  · rename_i fs hfs
    exact ⟨fs, hfs, fun f hf => Option.isSome_iff_exists.1 (List.all_eq_true.1 ht f (by simpa using hf))⟩
  · cases ht
theorem fill_ok {t : TypeId} {fs : Array Go.Field} (hfs : P.underlying t = some (.struct fs)) : ∀ {ps : List (Nat × Value)} {qs : List (Nat × V)} {arr : Array Value} {cs cs' : List V},
    All2 (fun (x : Nat × Value) (y : Nat × V) => x.1 = y.1 ∧ RV w F ρ x.2 y.2) ps qs → RVs w F ρ arr.toList cs → fillV P t cs qs = some cs' →
    ∃ arr', Instr.fill ((placesOf P fs)[·]?) arr ps = some arr' ∧ RVs w F ρ arr'.toList cs'
  | _, [], arr, cs, cs', hp, hr, hf => by cases hp; simp only [fillV] at hf; cases hf; exact ⟨arr, rfl, hr⟩
  | _, (i, v) :: qs, arr, cs, cs', hp, hr, hf => by
    cases hp with
    | cons hx hps =>
    rename_i x ps
    obtain ⟨j, uv⟩ := x
    obtain ⟨rfl, hv⟩ := hx
    simp only [fillV] at hf
    split at hf
    · rename_i o n a hfo
      obtain ⟨fs', f, inf, d, h1, h2, rfl, h4, h5, h6, h7, h8, h9⟩ := fOf_eq hfo
      rw [hfs] at h1; cases h1
      split at hf
      · rename_i hc
        obtain ⟨c1, c2, c3⟩ := hc
        have hcells := rv_cells hv c3
        have hl := forall₂_len hcells
        have hal := forall₂_len hr
        have hsz : uv.cells.size = n := by rw [← c1]; simpa using hl
        obtain ⟨arr', e1, e2⟩ := fill_ok hfs (arr := uv.cells.zipIdx.foldl (fun cs (c, j) => cs.setIfInBounds (f.offset + j) c) arr) hps (by
          rw [foldl_splice _ _ _ (by rw [hsz]; simp at hal; omega)]
          exact rvs_splice hr hcells _) hf
        refine ⟨arr', ?_, e2⟩
        have hpl : (placesOf P fs)[j]? = some (f.offset, n) := by simp [placesOf, Array.getElem?_map, h2, h9]
        simp only [Instr.fill, hpl]
        rw [if_neg (by simp; constructor; · exact hsz
                       · rw [hsz]; simp at hal; omega)]
        exact e1
      · cases hf
    · cases hf
theorem build_ok (hS : St w F ρ Ow h) {t : TypeId} (ht : strOK P t = true) {zs cs : List V} (hz : zeroOf P t = some zs) {ps : Array (Nat × Value)} {qs : List (Nat × V)} (hp : All2 (fun (x : Nat × Value) (y : Nat × V) => x.1 = y.1 ∧ RV w F ρ x.2 y.2) ps.toList qs)
    (hf : fillV P t zs qs = some cs) : Runs P w F ρ Ow (Instr.build t ps) (.agg cs) h := by
  obtain ⟨fs, hfs, hall⟩ := strOK_eq ht
  obtain ⟨inf, z, h1, h2, h3, h4, h5⟩ := zero_ok (w := w) (F := F) (ρ := ρ) hz
  obtain ⟨arr', e1, e2⟩ := fill_ok hfs hp h4 hf
  refine Runs.same hS (u := .agg arr') ?_ (RV.agg' e2)
  simp only [Instr.build, Sem.run_bind, run_zeroValue h1 h2, Result.andThen_ok, run_underlying' hfs, run_places fs hall]
  simp only [e1, Sem.run_pure]
theorem fillS_ok {sz : Nat} : ∀ {ps : List (Nat × Value)} {qs : List (Nat × V)} {n : Nat} {css : List (List V)} {arr : Array Value},
    All2 (fun (x : Nat × Value) (y : Nat × V) => x.1 = y.1 ∧ RV w F ρ x.2 y.2) ps qs → fillS sz n qs = some css → (n + qs.length) * sz ≤ arr.size →
    ∃ arr' us, Instr.fill (fun i => some (i * sz, sz)) arr ps = some arr' ∧ arr'.size = arr.size ∧ RVs w F ρ us css.flatten ∧ us.length = qs.length * sz ∧ (∀ c ∈ css, c.length = sz) ∧ css.length = qs.length ∧
      (∀ m, arr'[m]? = if n * sz ≤ m ∧ m < (n + qs.length) * sz then us[m - n * sz]? else arr[m]?) ∧ (∀ c ∈ css, c.all okCell = true)
  | _, [], n, css, arr, hp, hf, hl => by
    cases hp; simp only [fillS] at hf; cases hf
    exact ⟨arr, [], rfl, rfl, .nil, by simp, (fun c hc => by cases hc), rfl, fun m => by simp only [List.length_nil, Nat.add_zero]; rw [if_neg (by omega)], fun c hc => by cases hc⟩
  | _, (i, v) :: qs, n, css, arr, hp, hf, hl => by
    cases hp with
    | cons hx hps =>
    rename_i x ps
    obtain ⟨j, uv⟩ := x
    obtain ⟨rfl, hv⟩ := hx
    simp only [fillS] at hf
    split at hf
    · rename_i hc
      obtain ⟨rfl, c1, c3⟩ := hc
      split at hf
      · rename_i r hr
        cases hf
        have hcells := rv_cells hv c3
        have hul := forall₂_len hcells
        have hsz : uv.cells.size = sz := by rw [← c1]; simpa using hul
        simp only [List.length_cons] at hl
        have m1 : (j + (qs.length + 1)) * sz = j * sz + sz + qs.length * sz := by rw [Nat.add_mul, Nat.add_mul]; omega
        have m2 : (j + 1 + qs.length) * sz = j * sz + sz + qs.length * sz := by rw [Nat.add_mul, Nat.add_mul]; omega
        have hfit : j * sz + uv.cells.size ≤ arr.size := by omega
        have hsplice := foldl_splice (j * sz) uv.cells arr hfit
        have hsize : (uv.cells.zipIdx.foldl (fun cs (c, j') => cs.setIfInBounds (j * sz + j') c) arr).size = arr.size := by
          have := congrArg List.length hsplice
          rw [splice_len (by simpa using hfit)] at this
          simpa using this
        obtain ⟨arr', us, e1, e2, e3, e4, e5, e6, e7, e8⟩ := fillS_ok (arr := uv.cells.zipIdx.foldl (fun cs (c, j') => cs.setIfInBounds (j * sz + j') c) arr) hps hr (by rw [hsize]; omega)
        refine ⟨arr', uv.cells.toList ++ us, ?_, by rw [e2, hsize], ?_, by simp only [List.length_append, List.length_cons, e4]; rw [Nat.add_mul]; simp [hsz]; omega, ?_, by simp [e6], fun m => ?_, ?_⟩
        · simp only [Instr.fill]
          rw [if_neg (by simp; constructor; · exact hsz
                         · omega)]
          exact e1
        · simp only [List.flatten_cons]; exact forall₂_append hcells e3
        · intro c hc
          rcases List.mem_cons.1 hc with rfl | hc
          · exact c1
          · exact e5 c hc
        · rw [e7]
          simp only [List.length_cons]
          have m3 : (j + 1) * sz = j * sz + sz := by rw [Nat.add_mul]; omega
          by_cases hm : (j + 1) * sz ≤ m ∧ m < (j + 1 + qs.length) * sz
          · rw [if_pos hm, if_pos (by omega), List.getElem?_append_right (by simp; omega)]
            congr 1; simp; omega
          · rw [if_neg hm, ← Array.getElem?_toList, hsplice, splice_get (by simpa using hfit)]
            by_cases hm2 : j * sz ≤ m ∧ m < j * sz + uv.cells.toList.length
            · rw [if_pos hm2, if_pos (by simp at hm2; omega), List.getElem?_append_left (by simp at hm2 ⊢; omega)]
            · rw [if_neg hm2, if_neg (by simp at hm2; omega)]; simp
        · intro c hc
          rcases List.mem_cons.1 hc with rfl | hc
          · exact c3
          · exact e8 c hc
      · cases hf
    · cases hf
theorem giveTs_ok : ∀ {css : List (List V)} {F : Nat → Prop} {h h' : Heap} {us : List Value} {es : List (List T)}, St w F ρ Ow h → RVs w F ρ us css.flatten → giveTs h css = some (es, h') →
    ∃ F', RTs w F' us es.flatten ∧ St w F' ρ Ow h' ∧ Nxt Ow w F ρ w F' ρ ∧ es.length = css.length ∧ (∀ (i : Nat) (c : List V) (e : List T), css[i]? = some c → es[i]? = some e → e.length = c.length)
  | [], F, h, h', us, es, hS, hu, hg => by simp only [giveTs] at hg; cases hg; cases hu; exact ⟨F, .nil, hS, Nxt.refl _ _ _ _, rfl, fun i c e hi => by simp at hi⟩
  | c :: css, F, h, h', us, es, hS, hu, hg => by
    simp only [giveTs] at hg
    split at hg
    · rename_i x h1 hx
      split at hg
      · rename_i xs h2 hxs
        cases hg
        simp only [List.flatten_cons] at hu
        have hl := forall₂_len hu
        simp only [List.length_append] at hl
        have e0 : us = us.take c.length ++ us.drop c.length := (List.take_append_drop _ _).symm
        have r1 : RVs w F ρ (us.take c.length) c := by
          have := rvs_take hu c.length
          simpa using this
        have r2 : RVs w F ρ (us.drop c.length) css.flatten := by
          have := rvs_drop hu c.length
          simpa using this
        obtain ⟨F1, k1, k2, k3⟩ := giveT_ok hS r1 hx
        obtain ⟨F2, k4, k5, k6, k7, k8⟩ := giveTs_ok k2 (k3.rvs r2) hxs
        refine ⟨F2, ?_, k5, k3.trans k6, by simp [k7], fun i c' e hi he => ?_⟩
        · rw [e0]; simp only [List.flatten_cons]
          exact forall₂_append (forall₂_imp k1 fun _ _ z => k6.rt z) k4
        · cases i with
          | zero =>
            simp at hi he; subst hi; subst he
            have := forall₂_len k1
            simp at this; omega
          | succ i => exact k8 i c' e (by simpa using hi) (by simpa using he)
      · cases hg
    · cases hg
mutual
theorem give_dead : ∀ (v : V) {h h' : Heap} {v' : V}, give h v = some (v', h') → h'.length = h.length ∧ ∀ i : Nat, h[i]? = some .dead → h'[i]? = some .dead
  | .sl r off len cap, h, h', v', hg => by
    simp only [give] at hg
    split at hg
    · rename_i sz es hb
      cases hg
      refine ⟨by simp, fun i hi => ?_⟩
      rw [List.getElem?_set_ne (fun e => by subst e; rw [hi] at hb; cases hb)]
      exact hi
    · cases hg; exact ⟨rfl, fun _ x => x⟩
    · cases hg
  | .nil sz, h, h', v', hg => by simp only [give] at hg; cases hg; exact ⟨rfl, fun _ x => x⟩
  | .agg cs, h, h', v', hg => by
    simp only [give] at hg
    split at hg
    · rename_i cs' h1 hc; cases hg; exact gives_dead cs hc
    · cases hg
  | .tup cs, h, h', v', hg => by
    simp only [give] at hg
    split at hg
    · rename_i cs' h1 hc; cases hg; exact gives_dead cs hc
    · cases hg
  | .t x, h, h', v', hg => by simp only [give] at hg; cases hg; exact ⟨rfl, fun _ x => x⟩
  | .fn f cs, h, h', v', hg => by
    simp only [give] at hg
    split at hg
    · cases hg; exact ⟨rfl, fun _ x => x⟩
    · cases hg
  | .ptr r i j, h, h', v', hg => by simp [give] at hg
  | .und, h, h', v', hg => by simp [give] at hg
  | .bad, h, h', v', hg => by simp [give] at hg
theorem gives_dead : ∀ (vs : List V) {h h' : Heap} {vs' : List V}, give.gives h vs = some (vs', h') → h'.length = h.length ∧ ∀ i : Nat, h[i]? = some .dead → h'[i]? = some .dead
  | [], h, h', vs', hg => by simp only [give.gives] at hg; cases hg; exact ⟨rfl, fun _ x => x⟩
  | v :: vs, h, h', vs', hg => by
    simp only [give.gives] at hg
    split at hg
    · rename_i x h1 h1e
      split at hg
      · rename_i xs h2 h2e
        cases hg
        obtain ⟨a1, a2⟩ := give_dead v h1e
        obtain ⟨b1, b2⟩ := gives_dead vs h2e
        exact ⟨b1.trans a1, fun i hi => b2 i (a2 i hi)⟩
      · cases hg
    · cases hg
end
theorem giveTs_dead : ∀ {css : List (List V)} {h h' : Heap} {es : List (List T)}, giveTs h css = some (es, h') → h'.length = h.length ∧ ∀ i : Nat, h[i]? = some .dead → h'[i]? = some .dead
  | [], h, h', es, hg => by simp only [giveTs] at hg; cases hg; exact ⟨rfl, fun _ x => x⟩
  | c :: css, h, h', es, hg => by
    simp only [giveTs] at hg
    split at hg
    · rename_i x h1 h1e
      split at hg
      · rename_i xs h2 h2e
        cases hg
        unfold giveT at h1e
        split at h1e
        · rename_i ys h3 h3e
          split at h1e
          · cases h1e
            obtain ⟨a1, a2⟩ := gives_dead c h3e
            obtain ⟨b1, b2⟩ := giveTs_dead h2e
            exact ⟨b1.trans a1, fun i hi => b2 i (a2 i hi)⟩
          · cases h1e
        · cases h1e
      · cases hg
    · cases hg
theorem giveTs_free (hO : OkO Ow w ρ h) {css : List (List V)} {h' : Heap} {es : List (List T)} (hg : giveTs h css = some (es, h')) : OkO Ow w ρ h' := by
  obtain ⟨h1, h2⟩ := giveTs_dead hg
  refine ⟨hO.blk, ?_, fun i hi => ⟨h2 i (hO.dead i hi).1, (hO.dead i hi).2⟩⟩
  have := hO.free
  cases hN : Ow.N <;> simp [hN, nI, h1] at this ⊢ <;> exact this
theorem buildSlice_ok (hS : St w F ρ Ow h) (hO : OkO Ow w ρ h) {t el : TypeId} (hel : elOf P t = some el) {ps : Array (Nat × Value)} {qs : List (Nat × V)}
    (hp : All2 (fun (x : Nat × Value) (y : Nat × V) => x.1 = y.1 ∧ RV w F ρ x.2 y.2) ps.toList qs) (hs0 : szOf P el ≠ 0) (hs1 : ¬ qs.length * szOf P el > 16777216) {css : List (List V)} (hf : fillS (szOf P el) 0 qs = some css) {es : List (List T)} {h' : Heap} (hg : giveTs h css = some (es, h')) {zs : List V} (hz : zeroOf P el = some zs) :
    Runs P w F ρ Ow (Instr.buildSlice t qs.length ps) (.sl (nI Ow.N h') 0 qs.length (some qs.length)) (nH Ow.N h' (.ts (szOf P el) es)) := by
  obtain ⟨hty, _, _⟩ := elOf_eq hel
  obtain ⟨inf, z, i1, i2, i3, i4, i5⟩ := zero_ok (w := w) (F := F) (ρ := ρ) hz
  have hszi : inf.size = szOf P el := by simp [szOf, Program.cellsOf, i1]
  have harr : ((Array.range (qs.length * szOf P el)).map (z.cells[· % z.cells.size]!)).size = qs.length * szOf P el := by simp
  obtain ⟨arr', us, e1, e2, e3, e4, e5, e6, e7, e8⟩ := fillS_ok (arr := (Array.range (qs.length * szOf P el)).map (z.cells[· % z.cells.size]!)) hp hf (by rw [harr]; simp)
  obtain ⟨F', k1, k2, k3, k4, k5⟩ := giveTs_ok hS e3 hg
  have harr' : arr'.toList = us := by
    apply List.ext_getElem?
    intro m
    rw [Array.getElem?_toList, e7]
    simp only [Nat.zero_mul, Nat.zero_le, true_and, Nat.zero_add, Nat.sub_zero]
    split
    · rfl
    · rename_i hm
      rw [Array.getElem?_eq_none (by rw [harr]; omega), List.getElem?_eq_none (by omega)]
  have hes : ∀ e ∈ es, e.length = szOf P el := fun e he => by
    obtain ⟨i, hi⟩ := List.mem_iff_getElem?.1 he
    have hil := (List.getElem?_eq_some_iff.1 hi).1
    have hc := List.getElem?_eq_getElem (l := css) (i := i) (by omega)
    rw [k5 i _ _ hc hi]
    exact e5 _ (List.getElem_mem _)
  have hsz' : arr'.size = qs.length * szOf P el := by rw [e2, harr]
  obtain ⟨ρ', n1, n2, n3⟩ := new_ts (w := w) (arr := arr') (el := el) (es := es) (sz := szOf P el) k2 (giveTs_free hO hg) hes (by rw [hsz', k4, e6]; exact Nat.le_refl _)
    (by rw [List.take_of_length_le (by rw [harr', k4, e6, e4]; exact Nat.le_refl _), harr']; exact k1)
  refine ⟨_, F', ρ', .slice (some ⟨w.heap.size, 0, none⟩) qs.length qs.length, ?_, ?_, n1, k3.trans n2⟩
  · by_cases hl : qs.length = 0
    · have hq : qs = [] := List.eq_nil_of_length_eq_zero hl
      subst hq
      cases hp' : ps.toList with
      | cons x l => rw [hp'] at hp; cases hp
      | nil =>
        have ha : arr' = #[] := by
          apply Array.ext'; rw [harr']; exact List.eq_nil_of_length_eq_zero (by simpa using e4)
        simp only [List.length_nil, Nat.zero_mul] at e1
        rw [hp'] at e1
        simp only [Instr.fill, Option.some.injEq] at e1
        have hr0 : ∀ f : Nat → Value, Array.map f (Array.range 0) = #[] := fun f => by apply Array.ext'; simp
        simp [Instr.buildSlice, run_underlying' hty, run_sizeOf i1, hp', Instr.fill, newRow, ha, hr0]
    · have hne : ¬ qs.length * inf.size = 0 := by
        rw [hszi]; exact Nat.mul_ne_zero hl hs0
      exact run_buildSlice w t el qs.length ps arr' inf z hty i1 i2 (by rw [hszi]; simpa using hs1) hne (by rw [hszi]; exact e1)
  · refine .sl _ 0 _ _ _ _ _ n3 (.inl (by simp)) (Nat.le_refl _) (by simp [k4, e6]) (fun hcap => by cases hcap) (fun k hk => by cases hk; rfl) (fun _ => ?_)
    simp only [Nat.zero_add]; rw [hsz']; exact Nat.le_refl _
end Go.Proofs.YtkpmachalipmpaaGreatDoor.E
/- The evaluator's operations are those of the machine: conversions, make, append, builtins. Conditions: those of each lemma. -/
namespace Go.Proofs.YtkpmachalipmpaaGreatDoor.E
set_option linter.unusedVariables false
set_option linter.unusedSimpArgs false

variable {P : Program} {w : World} {F : Nat → Prop} {ρ : Locs} {Ow : Own} {h : Heap}

theorem bytesOf_ok : ∀ {es : List (List T)} {l : List Int}, bytesOf es = some l → es = l.map fun n => [T.int .u8 n]
  | [], l, hb => by simp only [bytesOf] at hb; cases hb; rfl
  | c :: r, l, hb => by
    simp only [bytesOf] at hb
    split at hb
    · split at hb
      · rename_i l' hl; cases hb; rw [bytesOf_ok hl]; rfl
      · cases hb
    · cases hb
theorem bytesElem_eq {src : TypeId} (hb : bytesElem P src = true) : ∃ el, P.underlying src = some (.slice el) ∧ P.underlying el = some (.int .u8) ∧ szOf P el = 1 ∧ elOf P src = some el := by
  unfold bytesElem at hb
  split at hb
  · rename_i el hel
    simp only [Bool.and_eq_true, beq_iff_eq] at hb
    exact ⟨el, (elOf_eq hel).1, isInt_eq hb.1, hb.2, hel⟩
  · cases hb
theorem conv_bytes {src dst : TypeId} (hb : bytesElem P src = true) (hd : P.underlying dst = some .string) {a : Option Addr} {n c : Nat} {l : List Int} (hl : l.length = n)
    (hc : 0 < n → ∃ b o, a = some ⟨b, o, none⟩ ∧ ∀ i, i < n → w.cell? ⟨b, o + i, none⟩ = some (.int .u8 (l.getD i 0))) :
    ∃ u, (convert src dst (.slice a n c)).run P w = .ok u w ∧ RV w F ρ u (.t (.str (l.map fun n => UInt8.ofNat n.toNat))) := by
  obtain ⟨el, h1, h2, h3, h4⟩ := bytesElem_eq hb
  by_cases hn : n = 0
  · subst hn
    have hl0 : l = [] := List.eq_nil_of_length_eq_zero hl
    subst hl0
    cases a with
    | none => exact ⟨_, run_convert_bytes_nil w src el h1 h2 0 c dst hd, .t _ _ (.str _ _ rfl)⟩
    | some ad =>
      refine ⟨.string ByteArray.empty, ?_, .t _ _ (.str _ _ rfl)⟩
      rw [run_convert_bytes_string w src dst el _ 0 c h1 h2 hd]
      simp [Conv.bytesToString, loadCells, loadCellsFrom]
  · obtain ⟨b, o, rfl, hcell⟩ := hc (by omega)
    exact ⟨_, run_convert_bytes_arg w src el h1 h2 b o n c l hl hcell dst hd, .t _ _ (.str _ _ (strOfNums_data l))⟩
theorem conv_ok (hS : St w F ρ Ow h) {src dst : TypeId} {x v : V} (hc : conv P src dst x h = some v) {u : Value} (hu : RV w F ρ u x) : ∃ u', (convert src dst u).run P w = .ok u' w ∧ RV w F ρ u' v := by
  unfold conv at hc
  split at hc
  · rename_i k hk
    have hd := isInt_eq hk
    split at hc
    · rename_i k' n
      split at hc
      · rename_i hkn
        obtain ⟨d, hs⟩ := known_eq hkn
        cases hc
        cases hu with
        | t _ _ hx =>
        cases hx
        refine ⟨.int k (k.wrap n), ?_, .t _ _ (.int _ _)⟩
        simp [convert, run_underlying' hs, run_underlying' hd, Conv.intToInt]
      · cases hc
    · cases hc
  · split at hc
    · rename_i hdst
      have hd := isStr_eq hdst
      split at hc
      · rename_i l
        split at hc
        · rename_i hkn
          obtain ⟨d, hs⟩ := known_eq hkn
          cases hc
          cases hu with
          | t _ _ hx =>
          cases hx with
          | str s _ hs' =>
          refine ⟨.string s, ?_, .t _ _ (.str _ _ hs')⟩
          simp [convert, run_underlying' hs, run_underlying' hd]
        · cases hc
      · rename_i r off len cap
        split at hc
        · rename_i hb
          have main : ∀ es : List (List T), ((∃ L, ρ r = some (some L) ∧ L.sz = 1 ∧ RowOK w L es (RT w F)) ∨ (ρ r = some none ∧ es = [])) → ∀ l, bytesOf ((es.drop off).take len) = some l →
              ∃ u', (convert src dst u).run P w = .ok u' w ∧ RV w F ρ u' (.t (.str (l.map fun n => UInt8.ofNat n.toNat))) := by
            intro es hrow l hl
            have hes := bytesOf_ok hl
            cases hu with
            | slP r cap a hρ hcp =>
              have hl0 : l = [] := by
                have := congrArg List.length hes
                simp at this; exact List.eq_nil_of_length_eq_zero (by simpa using this.symm)
              subst hl0
              exact conv_bytes hb hd rfl (fun hp => by omega)
            | sl r off len cap L a c hρ ha hlc hn hc0 hc1 hz =>
              rcases hrow with ⟨L', h1, h2, h3⟩ | ⟨h1, _⟩
              · rw [hρ] at h1; cases h1
                obtain ⟨hn', hl', cc, el', fr, hh, hs, hf, hzz, hcc⟩ := h3
                have hll : l.length = len := by
                  have := congrArg List.length hes
                  simp at this; omega
                refine conv_bytes hb hd hll fun hp => ?_
                have hce : c ≠ 0 := by omega
                obtain rfl := ha.resolve_right hce
                refine ⟨L.b, L.o + off * L.sz, rfl, fun i hi => ?_⟩
                have hget : ((es.drop off).take len)[i]? = some [T.int .u8 (l.getD i 0)] := by
                  rw [hes]; simp [List.getElem?_map, List.getElem?_eq_getElem (show i < l.length by omega), List.getD]
                rw [List.getElem?_take, if_pos hi, List.getElem?_drop] at hget
                obtain ⟨u, hu', hru⟩ := hcc _ 0 _ _ hget rfl
                cases hru
                unfold World.cell?
                rw [hh]
                simp only [Option.isSome_none]
                rw [h2] at hu' ⊢
                rw [show L.o + off * 1 + i = L.o + ((off + i) * 1 + 0) by omega]
                simpa using hu'
              · rw [hρ] at h1; cases h1
          split at hc
          · rename_i es hblk
            split at hc
            · rename_i l hl; cases hc
              exact main es ((hS.blk r _ hblk).imp (fun ⟨L, a, b, c, _⟩ => ⟨L, a, b, c⟩) id) l hl
            · cases hc
          · rename_i es hblk
            split at hc
            · rename_i l hl; cases hc
              exact main es ((hS.blk r _ hblk).imp (fun ⟨L, a, b, c, _⟩ => ⟨L, a, b, c⟩) id) l hl
            · cases hc
          · cases hc
        · cases hc
      · split at hc
        · rename_i hb
          cases hc
          cases hu
          exact conv_bytes (l := []) hb hd rfl (fun hp => by omega)
        · cases hc
      · rename_i es
        split at hc
        · rename_i hb
          split at hc
          · rename_i l hl
            cases hc
            have hes := bytesOf_ok hl
            subst hes
            cases hu with
            | t _ _ hx =>
            cases hx with
            | list a n c sz es g hn hcc h0 hz hr =>
            refine conv_bytes hb hd (by simpa using hn) fun hp => ?_
            obtain ⟨b, o, rfl, _, hcell⟩ := h0 hp
            refine ⟨b, o, rfl, fun i hi => ?_⟩
            have := hcell i 0 hi (by omega)
            have hri := hr i 0 [T.int .u8 (l.getD i 0)] (T.int .u8 (l.getD i 0)) (by simp at hn; simp [List.getElem?_map, List.getElem?_eq_getElem (show i < l.length by omega), List.getD]) rfl
            rw [show i * 1 + 0 = i by omega] at this
            rw [this]
            generalize hg : g i 0 = gv at hri
            cases hri; rfl
          · cases hc
        · cases hc
      · cases hc
    · cases hc

theorem allZ_rts : ∀ {us : List Value} {vs : List V} {xs : List T}, RVs w F ρ us vs → allZ vs = some xs → RTs w F us xs
  | _, [], xs, hu, hx => by cases hu; simp [allZ] at hx; subst hx; exact .nil
  | _, v :: vs, xs, hu, hx => by
    cases hu with
    | cons h1 hs =>
      unfold allZ at hx
      split at hx
      · split at hx
        · rename_i x _ xs' hxs
          cases hx
          cases h1 with
          | t u x hx => exact .cons hx (allZ_rts hs hxs)
        · cases hx
      · split at hx
        · rename_i sz _ xs' hxs
          cases hx
          cases h1 with
          | nil => exact .cons (rt_nil _ _ _) (allZ_rts hs hxs)
        · cases hx
      · cases hx
theorem make_ok (hS : St w F ρ Ow h) (hO : OkO Ow w ρ h) {t el : TypeId} (hel : elOf P t = some el) {zs : List V} (hz : zeroOf P el = some zs) {z : List T} (ha : allZ zs = some z) {n : Nat} {k k' : IntKind} (hs0 : szOf P el ≠ 0)
    (hb : n * P.bytesOf el ≤ maxBytes) (hm : n ≤ maxBytes) :
    Runs P w F ρ Ow (Instr.makeSlice t (.int k n) (.int k' n)) (.sl (nI Ow.N h) 0 n (some n)) (nH Ow.N h (.ts (szOf P el) (List.replicate n z))) := by
  obtain ⟨hty, _, _⟩ := elOf_eq hel
  obtain ⟨inf, zv, i1, i2, i3, i4, i5⟩ := zero_ok (w := w) (F := F) (ρ := ρ) hz
  have hszi : inf.size = szOf P el := by simp [szOf, Program.cellsOf, i1]
  have hby : P.bytesOf el = inf.bytes := by simp [Program.bytesOf, i1]
  unfold maxBytes at hb hm
  have hrun := run_make (P := P) w t el inf zv hty i1 i2 k k' n n (by omega) (Int.le_refl _) (by rw [hby] at hb; have : (inf.bytes : Int) * (n : Int) = ((n * inf.bytes : Nat) : Int) := by rw [Nat.mul_comm]; simp
                                                                                                 omega) (by omega)
  have hzt := allZ_rts i4 ha
  have hzl : z.length = szOf P el := by rw [← forall₂_len hzt]; simp [i3, hszi]
  have hrep : ∀ e ∈ List.replicate n z, e.length = szOf P el := fun e he => by rw [List.eq_of_mem_replicate he]; exact hzl
  have hcells : RTs w F (madeCells zv.cells (n * inf.size)).toList (List.replicate n z).flatten := by
    refine forall₂_of (by simp [flat_len hrep, size_madeCells, hszi]) fun m u v hu hv => ?_
    have hml : m < n * inf.size := by
      have := (List.getElem?_eq_some_iff.1 hu).1; simpa [size_madeCells] using this
    have hpos : 0 < szOf P el := by omega
    rw [hszi] at hml
    have d1 : m / szOf P el < n := (Nat.div_lt_iff_lt_mul hpos).2 hml
    have d2 : m % szOf P el < szOf P el := Nat.mod_lt _ hpos
    have d3 := Nat.div_add_mod m (szOf P el)
    have hv' := flat_get hrep (i := m / szOf P el) (j := m % szOf P el) (cs := z) (x := z[m % szOf P el]'(by omega)) (by simp [d1]) (List.getElem?_eq_getElem (by omega))
    rw [show m / szOf P el * szOf P el + m % szOf P el = m by rw [Nat.mul_comm]; omega] at hv'
    rw [hv] at hv'; cases hv'
    obtain ⟨u', e1, e2⟩ := forall₂_get hzt (m % szOf P el) _ (List.getElem?_eq_getElem (by omega))
    have hzs : zv.cells.size = szOf P el := by rw [i3, hszi]
    have hu' : u = u' := by
      simp only [madeCells, Array.toList_map, List.getElem?_map, Array.toList_range] at hu
      rw [hszi] at hu
      simp [hml] at hu
      rw [← hu, hzs]
      have : zv.cells[m % szOf P el]? = some u' := by simpa using e1
      simp [getElem!_def, this]
    rw [hu']; exact e2
  obtain ⟨ρ', n1, n2, n3⟩ := new_ts (w := w) (arr := madeCells zv.cells (n * inf.size)) (el := el) (es := List.replicate n z) (sz := szOf P el) hS hO hrep (by simp [size_madeCells, hszi])
    (by rw [List.take_of_length_le (by simp [size_madeCells, hszi])]; exact hcells)
  refine ⟨_, F, ρ', .slice (some ⟨w.heap.size, 0, none⟩) n n, ?_, ?_, n1, n2⟩
  · simpa using hrun
  · refine .sl _ 0 _ _ _ _ _ n3 (.inl (by simp)) (Nat.le_refl _) (by simp) (fun hcap => by cases hcap) (fun k hk => by cases hk; rfl) (fun _ => ?_)
    simp [size_madeCells, hszi]

theorem fits_of {need c bytes : Nat} (hc : c < need) (hb : need * (2 * bytes) ≤ maxBytes) : Builtin.nextslicecap need c * bytes ≤ 281474976710656 := by
  unfold maxBytes at hb
  exact growslice_fits hc (by rw [Nat.mul_comm 2, ← Nat.mul_assoc] at hb; omega)
theorem app_ok (hS : St w F ρ Ow h) (hO : OkO Ow w ρ h) {ty tx : TypeId} {s x v : V} {h' : Heap} (hc : app P Ow.N ty tx s x h = some (v, h')) {us ux : Value} (hs : RV w F ρ us s) (hx : RV w F ρ ux x) (rt : TypeId) :
    Runs P w F ρ Ow (Builtin.append_ #[ty, tx] rt #[us, ux]) v h' := by
  unfold app at hc
  split at hc
  · cases hc
  · rename_i el hel
    obtain ⟨hty, inf0, hinf0⟩ := elOf_eq hel
    split at hc
    · cases hc
    · rename_i xs hsrc
      split at hc
      · rename_i sz
        split at hc
        · rename_i hcond
          obtain ⟨c1, c2, c3, c4, c5⟩ := hcond
          cases hc
          subst c1
          obtain ⟨zs, hz⟩ := Option.isSome_iff_exists.1 c5
          obtain ⟨inf, zv, i1, i2, i3, i4, i5⟩ := zero_ok (w := w) (F := F) (ρ := ρ) hz
          have hszi : inf.size = szOf P el := by simp [szOf, Program.cellsOf, i1]
          obtain ⟨news, k1, k2, k3⟩ := src_ok hS hsrc hx (by omega)
          cases hs with
          | nil sz =>
          by_cases hn : xs.length = 0
          · have hx0 : xs = [] := List.eq_nil_of_length_eq_zero hn
            subst hx0
            obtain ⟨ρ', g1, g2, g3⟩ := ghost_st hS hO (szOf P el)
            refine ⟨w, F, ρ', .slice none 0 0, ?_, .slP _ _ _ g3 (.inl rfl), g1, g2⟩
            have hlen := k1.len w
            have hcl := k1.cells
            have hn0 : news = [] := List.eq_nil_of_length_eq_zero (by simpa using k1.newsLen)
            subst hn0
            simp only [List.length_nil] at hlen hcl
            rcases k1.kind with ⟨e', hk⟩ | hk <;>
              simp [Builtin.append_, run_underlying' hty, run_underlying' hk, run_sizeOf i1, hlen, hcl]
          · have hb : (0 + xs.length) * (2 * P.bytesOf el) ≤ maxBytes := by simpa using c3
            have hby : P.bytesOf el = inf.bytes := by simp [Program.bytesOf, i1]
            obtain ⟨ρ', g1, g2, g3⟩ := grow_st hS hO i1 i2 i3 none (fun k hk => by cases hk) (olds := []) (news := news) (es := xs) (by rw [hszi]; exact k3) (need := 0 + xs.length) (c0 := 0) (by omega) (by omega) (by simpa using k2) (by omega)
            refine ⟨_, F, ρ', _, run_append_grow_src w ty tx rt el inf zv hty i1 i2 none 0 0 [] (by simp [Builtin.firstCells]) ux xs.length news (by rw [hszi]; exact k1) (by omega) (by unfold maxBytes at c4; omega) (fits_of (by omega) (by rw [← hby]; exact hb)), ?_, ?_, g2⟩
            · simpa using g3
            · rw [hszi] at g1; exact g1
        · cases hc
      · rename_i r off len cap
        split at hc
        · rename_i sz es hblk
          split at hc
          · rename_i hcond
            obtain ⟨c1, c2, c3, c4, c5, c6⟩ := hcond
            cases hc
            subst c1
            obtain ⟨zs, hz⟩ := Option.isSome_iff_exists.1 c6
            obtain ⟨inf, zv, i1, i2, i3, i4, i5⟩ := zero_ok (w := w) (F := F) (ρ := ρ) hz
            have hszi : inf.size = szOf P el := by simp [szOf, Program.cellsOf, i1]
            have hby : P.bytesOf el = inf.bytes := by simp [Program.bytesOf, i1]
            obtain ⟨news, k1, k2, k3⟩ := src_ok hS hsrc hx (by omega)
            have hrw : r < h.length := (List.getElem?_eq_some_iff.1 hblk).1
            -- nothing is there, nothing comes
            have empty : len + xs.length = 0 → ∀ a : Option Addr, us = .slice a 0 0 → Runs P w F ρ Ow (Builtin.append_ #[ty, tx] rt #[us, ux]) (.sl (nI Ow.N h) 0 (len + xs.length) none) (nH Ow.N (h.set r .dead) (.ts (szOf P el) (es.drop off ++ xs))) := by
              intro h0 a hus
              subst hus
              have hx0 : xs = [] := List.eq_nil_of_length_eq_zero (by omega)
              subst hx0
              have hes : es.drop off = [] := List.eq_nil_of_length_eq_zero (by simp at *; omega)
              rw [hes]
              have hl0 : len = 0 := by simpa using h0
              subst hl0
              obtain ⟨ρ', g1, g2, g3⟩ := ghost_st (kill_st hS r) (hO.set hblk (by simp)) (szOf P el)
              have hnI : nI Ow.N (h.set r .dead) = nI Ow.N h := by cases Ow.N <;> simp [nI]
              rw [hnI] at g3
              refine ⟨w, F, ρ', .slice a 0 0, ?_, by simpa using RV.slP (nI Ow.N h) none a g3 (.inl rfl), by simpa using g1, g2⟩
              have hlen := k1.len w
              have hcl := k1.cells
              have hn0 : news = [] := List.eq_nil_of_length_eq_zero (by simpa using k1.newsLen)
              subst hn0
              simp only [List.length_nil] at hlen hcl
              rcases k1.kind with ⟨e', hk⟩ | hk <;> cases a <;>
                simp [Builtin.append_, run_underlying' hty, run_underlying' hk, run_sizeOf i1, hlen, hcl, storeCells]
            -- there is no room
            have grows : ∀ (a : Option Addr) (c : Nat) (olds : List Value), us = .slice a len c → c < len + xs.length → (Builtin.firstCells inf.size len (.slice a len c)).run P w.drew = .ok olds.toArray w.drew → RTs w F olds (es.drop off).flatten → (∀ e ∈ es.drop off, e.length = szOf P el) →
                Runs P w F ρ Ow (Builtin.append_ #[ty, tx] rt #[us, ux]) (.sl (nI Ow.N h) 0 (len + xs.length) none) (nH Ow.N (h.set r .dead) (.ts (szOf P el) (es.drop off ++ xs))) := by
              intro a c olds hus hlt hfirst holds hlens
              subst hus
              have hall : ∀ e ∈ es.drop off ++ xs, e.length = inf.size := fun e he => by
                rw [hszi]; rcases List.mem_append.1 he with h1 | h1
                · exact hlens e h1
                · exact k3 e h1
              obtain ⟨ρ', g1, g2, g3⟩ := grow_st hS hO i1 i2 i3 (some r) (fun k hk => by cases hk; exact ⟨_, hblk, by simp⟩) (olds := olds) (news := news) (es := es.drop off ++ xs) hall (need := len + xs.length) (c0 := c) (by simp; omega) hlt (by rw [List.flatten_append]; exact forall₂_append holds k2) (by omega)
              refine ⟨_, F, ρ', _, run_append_grow_src w ty tx rt el inf zv hty i1 i2 a len c olds hfirst ux xs.length news (by rw [hszi]; exact k1) hlt (by unfold maxBytes at c5; omega) (fits_of hlt (by rw [← hby]; exact c4)), g3, ?_, g2⟩
              rw [hszi] at g1; exact g1
            rcases hS.blk r _ hblk with ⟨L, h1, h2, h3, h4, h5⟩ | ⟨h1, h2⟩
            · cases hs with
              | slP r cap a hρ => rw [h1] at hρ; cases hρ
              | sl r off len cap L' a c hρ ha hl hn hc0 hc1 hzz =>
                rw [h1] at hρ; cases hρ
                by_cases hroom : len + xs.length ≤ c
                · by_cases hce : c = 0
                  · have hl0 : len = 0 := by omega
                    subst hce
                    subst hl0
                    exact empty (by omega) a rfl
                  · obtain rfl := ha.resolve_right hce
                    obtain ⟨ρ', g1, g2, g3, g4⟩ := place_st hS hO hblk h1 h2 h3 h4 h5 (len := len) (c := c) c3 k2 k3 hroom (hzz hce)
                    refine ⟨_, F, ρ', _, ?_, g3, g1, g2⟩
                    have := run_append_room_src (P := P) w ty tx rt el inf hty i1 L.b (L.o + off * L.sz) len c ux xs.length news (by rw [hszi]; exact k1) hroom
                      (fun j hj => by rw [hszi, ← h2]; exact (g4 j hj).1) (fun j hj => by rw [hszi, ← h2]; exact (g4 j hj).2)
                    rw [hszi, ← h2] at this
                    exact this
                · have h3' := h3
                  obtain ⟨hn', hl', cc, el', fr, hh, hsz, hf, hzz', hcc⟩ := h3
                  have hlens : ∀ e ∈ es.drop off, e.length = szOf P el := fun e he => by rw [hl' e (List.mem_of_mem_drop he), h2]
                  by_cases hl0 : len = 0
                  · subst hl0
                    have hes : es.drop off = [] := List.eq_nil_of_length_eq_zero (by simp; omega)
                    refine grows a c [] rfl (by omega) ?_ (by rw [hes]; exact .nil) hlens
                    cases a <;> simp [Builtin.firstCells, loadCells, loadCellsFrom]
                  · have hce : c ≠ 0 := by omega
                    obtain rfl := ha.resolve_right hce
                    have hdl := flat_len hlens
                    have hlook : ∀ k, k < len * szOf P el → ∃ y u, (es.drop off).flatten[k]? = some y ∧ RT w F u y ∧ w.cell? ⟨L.b, L.o + off * L.sz + k, none⟩ = some u := fun k hk => by
                      have hpos : 0 < szOf P el := by omega
                      have d1 : k / szOf P el < len := (Nat.div_lt_iff_lt_mul hpos).2 hk
                      have d2 : k % szOf P el < szOf P el := Nat.mod_lt _ hpos
                      have d3 := Nat.div_add_mod k (szOf P el)
                      have hil : off + k / szOf P el < es.length := by omega
                      have hcl := hl' _ (List.getElem_mem hil)
                      have hj : k % szOf P el < (es[off + k / szOf P el]'hil).length := by rw [hcl, h2]; exact d2
                      have hget := flat_get hlens (i := k / szOf P el) (j := k % szOf P el) (cs := es[off + k / szOf P el]'hil) (by rw [List.getElem?_drop]; exact List.getElem?_eq_getElem hil) (List.getElem?_eq_getElem hj)
                      rw [show k / szOf P el * szOf P el + k % szOf P el = k by rw [Nat.mul_comm]; omega] at hget
                      obtain ⟨u, hu, hru⟩ := hcc _ _ _ _ (List.getElem?_eq_getElem hil) (List.getElem?_eq_getElem hj)
                      refine ⟨_, u, hget, hru, ?_⟩
                      unfold World.cell?
                      rw [hh]
                      simp only [Option.isSome_none]
                      rw [show L.o + off * L.sz + k = L.o + ((off + k / szOf P el) * L.sz + k % szOf P el) by
                        rw [Nat.add_mul, h2, Nat.mul_comm (k / szOf P el)]; omega]
                      simpa using hu
                    refine grows _ c ((List.range (len * szOf P el)).map fun k => (w.cell? ⟨L.b, L.o + off * L.sz + k, none⟩).getD undef) rfl (by omega) ?_ (forall₂_of (by rw [List.length_map, List.length_range, hdl, List.length_drop, ← c3]; congr 1; omega) fun k u v hu hv => ?_) hlens
                    · refine run_firstCells_some w.drew inf.size len _ len c _ (by simp [hszi]) fun j u hj => ?_
                      have hjl : j < len * szOf P el := by have := (List.getElem?_eq_some_iff.1 hj).1; simpa using this
                      obtain ⟨y, u', _, _, e3⟩ := hlook j hjl
                      simp [hjl, e3] at hj
                      subst hj
                      rw [Addr.add_mid]; exact e3
                    · have hkl : k < len * szOf P el := by have := (List.getElem?_eq_some_iff.1 hu).1; simpa using this
                      obtain ⟨y, u', e1, e2, e3⟩ := hlook k hkl
                      simp [hkl, e3] at hu
                      subst hu
                      rw [e1] at hv; cases hv; exact e2
            · subst h2
              cases hs with
              | sl r off len cap L a c hρ => rw [h1] at hρ; cases hρ
              | slP r cap a hρ hcp =>
                by_cases hn : xs.length = 0
                · exact empty (by omega) a rfl
                · refine grows a 0 [] rfl (by omega) ?_ .nil (fun e he => by simp at he)
                  cases a <;> simp [Builtin.firstCells, loadCells, loadCellsFrom]
          · cases hc
        · cases hc
      · cases hc
end Go.Proofs.YtkpmachalipmpaaGreatDoor.E
/- What rows become under other numbers: for loops, for calls on a caller's own rows; what rows show while nobody writes them. Conditions: those of each lemma. -/
namespace Go.Proofs.YtkpmachalipmpaaGreatDoor.E
set_option linter.unusedVariables false
set_option linter.unusedSimpArgs false

variable {P : Program} {w : World} {F : Nat → Prop} {ρ : Locs} {Ow : Own} {h : Heap}

/-! ### Rows under new numbers -/
theorem idx_get {ids : List Nat} {r i : Nat} (hi : idx ids r = some i) : ids[i]? = some r := by
  unfold idx at hi
  split at hi
  · rename_i hlt
    cases hi
    rw [List.getElem?_eq_getElem hlt, List.getElem_idxOf hlt]
  · cases hi
def renLocs (ρ : Locs) (ids : List Nat) : Locs := fun i => (ids[i]?).bind ρ
mutual
theorem ren_gen {mp : Nat → Option Nat} {ρ2 : Locs} (hm : ∀ r r', mp r = some r' → ∀ l, ρ r = some l → ρ2 r' = some l) : ∀ (v : V) {u : Value}, RV w F ρ u v → RV w F ρ2 u (ren mp v)
  | .sl r off len cap, u, hu => by
    simp only [ren]
    split
    · rename_i r' hr
      cases hu with
      | sl r off len cap L a c hρ ha h1 hn hc0 hc1 hz => exact .sl r' off len cap L a c (hm _ _ hr _ hρ) ha h1 hn hc0 hc1 hz
      | slP r cap a hρ hc => exact .slP r' cap a (hm _ _ hr _ hρ) hc
    · exact .bad _
  | .ptr r i j, u, hu => by
    simp only [ren]
    split
    · rename_i r' hr
      cases hu with
      | ptr r i j L hρ => exact .ptr r' i j L (hm _ _ hr _ hρ)
    · exact .bad _
  | .agg cs, u, hu => by
    simp only [ren]
    cases hu with
    | agg vs cs g hs hg hr => exact RV.agg' (rens_gen hm cs (rvs_of hs hg hr))
  | .tup cs, u, hu => by
    simp only [ren]
    cases hu with
    | tup vs cs g hs hg hr => exact RV.tup' (rens_gen hm cs (rvs_of hs hg hr))
  | .fn f cs, u, hu => by
    simp only [ren]
    cases hu with
    | fn f vs cs g hs hg hr => exact RV.fn' (rens_gen hm cs (rvs_of hs hg hr))
  | .t x, u, hu => by simp only [ren]; exact any_t hu
  | .nil sz, u, hu => by simp only [ren]; cases hu; exact .nil sz
  | .und, u, hu => by simp only [ren]; generalize hz : V.und = z at hu; cases hu <;> first | exact .und | cases hz
  | .bad, u, hu => by simp only [ren]; exact .bad _
theorem rens_gen {mp : Nat → Option Nat} {ρ2 : Locs} (hm : ∀ r r', mp r = some r' → ∀ l, ρ r = some l → ρ2 r' = some l) : ∀ (vs : List V) {us : List Value}, RVs w F ρ us vs → RVs w F ρ2 us (ren.rens mp vs)
  | [], us, hu => by cases hu; simp only [ren.rens]; exact .nil
  | v :: vs, us, hu => by
    cases hu with
    | cons h1 h2 => simp only [ren.rens]; exact .cons (ren_gen hm v h1) (rens_gen hm vs h2)
end
theorem ren_locs (ids : List Nat) (r r' : Nat) (hr : idx ids r = some r') (l : Option Loc) (hl : ρ r = some l) : renLocs ρ ids r' = some l := by
  have hg := idx_get hr
  simp [renLocs, hg, hl]
theorem ren_ok (ids : List Nat) (v : V) {u : Value} (hu : RV w F ρ u v) : RV w F (renLocs ρ ids) u (ren (idx ids) v) := ren_gen (ren_locs ids) v hu
theorem rens_ok (ids : List Nat) (vs : List V) {us : List Value} (hu : RVs w F ρ us vs) : RVs w F (renLocs ρ ids) us (ren.rens (idx ids) vs) := rens_gen (ren_locs ids) vs hu
theorem rens_len (m : Nat → Option Nat) : ∀ vs : List V, (ren.rens m vs).length = vs.length
  | [] => rfl
  | v :: vs => by simp [ren.rens, rens_len m vs]
theorem rens_get (m : Nat → Option Nat) : ∀ (vs : List V) (j : Nat), (ren.rens m vs)[j]? = (vs[j]?).map (ren m)
  | [], j => by simp [ren.rens]
  | v :: vs, 0 => by simp [ren.rens]
  | v :: vs, j + 1 => by simp [ren.rens, rens_get m vs j]
theorem renB_gen {mp : Nat → Option Nat} {ρ2 : Locs} {Ow2 : Own} (hm : ∀ r r', mp r = some r' → ∀ l, ρ r = some l → ρ2 r' = some l) {r i : Nat} {b : Blk} (hl : b ≠ .dead → ρ2 i = ρ r) (hOw : ∀ L, writes b = true → ρ r = some (some L) → Ow L.b → Ow2 L.b)
    (hb : RB w F ρ Ow r b) : RB w F ρ2 Ow2 i (renB mp b) := by
  cases b with
  | ts sz es =>
    have hl := hl (by simp)
    rcases hb with ⟨L, h1, h2, h3, h4, h5⟩ | ⟨h1, h2⟩
    · exact .inl ⟨L, hl.trans h1, h2, h3, h4, hOw L rfl h1 h5⟩
    · exact .inr ⟨hl.trans h1, h2⟩
  | fz sz es =>
    have hl := hl (by simp)
    rcases hb with ⟨L, h1, h2, h3, h4⟩ | ⟨h1, h2⟩
    · exact .inl ⟨L, hl.trans h1, h2, h3, h4⟩
    · exact .inr ⟨hl.trans h1, h2⟩
  | dead => trivial
  | vs sz es =>
    have hl := hl (by simp)
    rcases hb with ⟨L, h1, h2, h3, h4, h5⟩ | ⟨h1, h2⟩
    · refine .inl ⟨L, hl.trans h1, h2, ?_, h4, hOw L rfl h1 h5⟩
      obtain ⟨k1, k2, c, el, fr, k3, k4, k5, k6, k7⟩ := h3
      refine ⟨by simpa using k1, fun e he => ?_, c, el, fr, k3, k4, k5, k6, fun i' j cs x hi' hj => ?_⟩
      · simp only [List.mem_map] at he
        obtain ⟨e0, he0, rfl⟩ := he
        rw [rens_len]; exact k2 e0 he0
      · rw [List.getElem?_map] at hi'
        cases hes : es[i']? with
        | none => simp [hes] at hi'
        | some e0 =>
          simp [hes] at hi'
          subst hi'
          rw [rens_get] at hj
          cases he0 : e0[j]? with
          | none => simp [he0] at hj
          | some x0 =>
            simp [he0] at hj
            subst hj
            obtain ⟨u, hu, hru⟩ := k7 i' j e0 x0 hes he0
            exact ⟨u, hu, ren_gen hm x0 hru⟩
    · refine .inr ⟨hl.trans h1, by simp [h2]⟩
theorem renB_ok {r : Nat} {b : Blk} (ids : List Nat) {i : Nat} (hi : ids[i]? = some r) (hb : RB w F ρ Ow r b) : RB w F (renLocs ρ ids) Ow i (renB (idx ids) b) :=
  renB_gen (ren_locs ids) (fun _ => by simp [renLocs, hi]) (fun _ _ _ h => h) hb
theorem writes_renB (m : Nat → Option Nat) (b : Blk) : writes (renB m b) = writes b := by cases b <;> rfl

theorem nodups_ok : ∀ (l seen : List Nat), seen.Nodup → (nodups seen l).Nodup
  | [], seen, hs => hs
  | r :: l, seen, hs => by
    simp only [nodups]
    split
    · exact nodups_ok l seen hs
    · rename_i hr
      refine nodups_ok l _ ?_
      rw [List.nodup_append]
      exact ⟨hs, by simp, fun a ha b hb => by simp at hb; subst hb; exact fun e => hr (e ▸ ha)⟩
theorem reach_ok (h : Heap) : ∀ (n : Nat) (ids : List Nat), ids.Nodup → (reach h n ids).Nodup
  | 0, ids, hs => hs
  | n + 1, ids, hs => by simp only [reach]; exact reach_ok h n _ (nodups_ok _ _ hs)
theorem nodups_pre : ∀ (l seen : List Nat), ∃ t, nodups seen l = seen ++ t
  | [], seen => ⟨[], by simp [nodups]⟩
  | r :: l, seen => by
    simp only [nodups]
    split
    · exact nodups_pre l seen
    · obtain ⟨t, ht⟩ := nodups_pre l (seen ++ [r])
      exact ⟨r :: t, by rw [ht]; simp⟩
theorem reach_pre (h : Heap) : ∀ (n : Nat) (ids : List Nat), ∃ t, reach h n ids = ids ++ t
  | 0, ids => ⟨[], by simp [reach]⟩
  | n + 1, ids => by
    simp only [reach]
    obtain ⟨t, ht⟩ := nodups_pre (ids.flatMap (blkRefs h)) ids
    obtain ⟨t', ht'⟩ := reach_pre h n (nodups ids (ids.flatMap (blkRefs h)))
    exact ⟨t ++ t', by rw [ht', ht]; simp⟩
/-- the first rows keep their numbers -/
theorem pack_first (m : Nat) (vals : List V) (h : Heap) (r : Nat) (hr : r < m) : (reach h 3 (nodups (List.range m) (refs.refss vals)))[r]? = some r := by
  obtain ⟨t, ht⟩ := nodups_pre (refs.refss vals) (List.range m)
  obtain ⟨t', ht'⟩ := reach_pre h 3 (nodups (List.range m) (refs.refss vals))
  rw [ht', ht, List.append_assoc, List.getElem?_append_left (by simpa using hr)]
  simp [hr]
def fRows (ids : List Nat) (h : Heap) : Heap := ids.map fun r => renB (idx ids) (h[r]?.getD .dead)
theorem pack_ids {ids : List Nat} (hnd : ids.Nodup) (hS : St w F ρ Ow h) : St w F (renLocs ρ ids) Ow (fRows ids h) := by
  unfold fRows
  refine ⟨fun i b hi => ?_, fun i j b b' L L' hi hj hw hw' hL hL' heq => ?_, hS.fsz, fun i hi => ?_⟩
  · simp only [List.getElem?_map] at hi
    cases hr : ids[i]? with
    | none => simp [hr] at hi
    | some r =>
      simp [hr] at hi
      subst hi
      cases hb : h[r]? with
      | none => simp [renB]; trivial
      | some b0 => simp; exact renB_ok ids hr (hS.blk r b0 hb)
  · simp only [List.getElem?_map] at hi hj
    cases hr : ids[i]? with
    | none => simp [hr] at hi
    | some r =>
    cases hr' : ids[j]? with
    | none => simp [hr'] at hj
    | some r' =>
      simp [hr] at hi
      simp [hr'] at hj
      subst hi; subst hj
      rw [writes_renB] at hw hw'
      cases hb : h[r]? with
      | none => simp [hb, writes] at hw
      | some b0 =>
      cases hb' : h[r']? with
      | none => simp [hb', writes] at hw'
      | some b1 =>
        simp [hb] at hw
        simp [hb'] at hw'
        have e1 : ρ r = some (some L) := by rw [← hL]; simp [renLocs, hr]
        have e2 : ρ r' = some (some L') := by rw [← hL']; simp [renLocs, hr']
        have := hS.inj r r' b0 b1 L L' hb hb' hw hw' e1 e2 heq
        subst this
        have hi1 := (List.getElem?_eq_some_iff.1 hr)
        have hj1 := (List.getElem?_eq_some_iff.1 hr')
        obtain ⟨x1, x2⟩ := hi1
        obtain ⟨y1, y2⟩ := hj1
        have hpw := List.pairwise_iff_getElem.1 hnd
        rcases Nat.lt_or_ge i j with hlt | hge
        · exact absurd (x2.trans y2.symm) (hpw i j x1 y1 hlt)
        · rcases Nat.lt_or_ge j i with hlt | hge'
          · exact absurd (y2.trans x2.symm) (hpw j i y1 x1 hlt)
          · omega
  · simp only [List.length_map] at hi
    simp [renLocs, List.getElem?_eq_none hi]



theorem pack_st {m : Nat} {vals : List V} (hS : St w F ρ Ow h) {us : List Value} (hu : RVs w F ρ us vals) :
    ∃ ρ', RVs w F ρ' us (packH m vals h).1 ∧ St w F ρ' Ow (packH m vals h).2 ∧ ∀ r, r < m → ρ' r = ρ r := by
  have hfirst := pack_first m vals h
  have hnd : (reach h 3 (nodups (List.range m) (refs.refss vals))).Nodup := reach_ok h 3 _ (nodups_ok _ _ List.nodup_range)
  exact ⟨renLocs ρ _, rens_ok _ vals hu, pack_ids hnd hS, fun r hr => by simp [renLocs, hfirst r hr]⟩

def noRows : Locs := fun _ => none
theorem noRows_ext (ρ : Locs) : Ext noRows ρ := fun _ _ h => by cases h
/-! ### Open calls: a part of the rows, and back -/
/-- what an open call may write: its rows' blocks, and new ones -/
def openOwn (Ow : Own) (w : World) (ρ : Locs) (h : Heap) : Own :=
  own fun b => Ow b ∧ (w.heap.size ≤ b ∨ ∃ i bl L, h[i]? = some bl ∧ writes bl = true ∧ ρ i = some (some L) ∧ L.b = b)
theorem open_st {ids : List Nat} (hS : St w F (renLocs ρ ids) Ow (fRows ids h)) : St w F (renLocs ρ ids) (openOwn Ow w (renLocs ρ ids) (fRows ids h)) (fRows ids h) := by
  refine ⟨fun r b hr => ?_, hS.inj, hS.fsz, hS.out⟩
  have h0 := hS.blk r b hr
  have sub : ∀ L, renLocs ρ ids r = some (some L) → writes b = true → Ow L.b → (openOwn Ow w (renLocs ρ ids) (fRows ids h)) L.b := fun L h1 h2 h3 => ⟨h3, .inr ⟨r, b, L, hr, h2, h1, rfl⟩⟩
  cases b with
  | ts sz es =>
    rcases h0 with ⟨L, h1, h2, h3, h4, h5⟩ | h0
    · exact .inl ⟨L, h1, h2, h3, h4, sub L h1 rfl h5⟩
    · exact .inr h0
  | vs sz es =>
    rcases h0 with ⟨L, h1, h2, h3, h4, h5⟩ | h0
    · exact .inl ⟨L, h1, h2, h3, h4, sub L h1 rfl h5⟩
    · exact .inr h0
  | fz sz es => exact h0
  | dead => trivial
theorem liveB_iff {k : Nat} : liveB h k = true ↔ ∃ b, h[k]? = some b ∧ b ≠ .dead := by
  unfold liveB
  cases hk : h[k]? with
  | none => simp
  | some b => cases b <;> simp
theorem layBack_len (mp : Nat → Option Nat) (h0 : Heap) : ∀ (ids : List Nat) (bs h : Heap), (layBack mp h0 ids bs h).length = h.length
  | [], bs, h => by simp [layBack]
  | i :: is, [], h => by simp [layBack]
  | i :: is, b :: bs, h => by simp only [layBack]; rw [layBack_len]; split <;> simp
theorem layBack_off (mp : Nat → Option Nat) (h0 : Heap) {k : Nat} : ∀ (ids : List Nat) (bs h : Heap), (k ∈ ids → liveB h0 k = false) → (layBack mp h0 ids bs h)[k]? = h[k]?
  | [], bs, h, _ => by simp [layBack]
  | i :: is, [], h, _ => by simp [layBack]
  | i :: is, b :: bs, h, hk => by
    simp only [layBack]
    rw [layBack_off mp h0 is bs _ fun hx => hk (by simp [hx])]
    split
    · rename_i hl
      by_cases e : i = k
      · subst e; rw [hk (by simp)] at hl; cases hl
      · exact List.getElem?_set_ne e
    · rfl
theorem layBack_on (mp : Nat → Option Nat) (h0 : Heap) {k : Nat} (hl : liveB h0 k = true) : ∀ (ids : List Nat) (bs h : Heap) (j : Nat) (b : Blk), ids.Nodup → ids[j]? = some k → bs[j]? = some b → k < h.length → (layBack mp h0 ids bs h)[k]? = some (renB mp b)
  | [], bs, h, j, b, _, hi, _, _ => by simp at hi
  | i :: is, [], h, j, b, _, _, hb, _ => by simp at hb
  | i :: is, b0 :: bs, h, j, b, hnd, hi, hb, hk => by
    simp only [layBack]
    have hnd' := List.nodup_cons.1 hnd
    cases j with
    | zero =>
      simp at hi hb
      subst hi; subst hb
      rw [layBack_off mp h0 is bs _ fun hx => absurd hx hnd'.1, if_pos hl]
      simp [hk]
    | succ j =>
      refine layBack_on mp h0 hl is bs _ j b hnd'.2 (by simpa using hi) (by simpa using hb) ?_
      split <;> simpa using hk
theorem open_back {ids : List Nat} (hnd : ids.Nodup) (hS : St w F ρ Ow h) (hz : ∀ r, Ow.z r → r < h.length) {w' : World} {F' : Nat → Prop} {ρ' : Locs} {h1 h2 : Heap} {u : Value} {v v2 : V} {N : Option Nat} (hb : openBack N ids v h1 h = some (v2, h2))
    (hu : RV w' F' ρ' u v) (hS1 : St w' F' ρ' (openOwn Ow w (renLocs ρ ids) (fRows ids h)) h1) (hN : Nxt (openOwn Ow w (renLocs ρ ids) (fRows ids h)) w F noRows w' F' noRows) (hk : ∀ r l, r < ids.length → renLocs ρ ids r = some l → ρ' r = some l) :
    ∃ ρ2, RV w' F' ρ2 u v2 ∧ St w' F' ρ2 Ow h2 ∧ Nxt Ow w F ρ w' F' ρ2 := by
  unfold openBack at hb
  split at hb
  · cases hb
  rename_i hc
  simp only [Bool.or_eq_true, decide_eq_true_eq, not_or, Nat.not_lt] at hc
  obtain ⟨hlen, -⟩ := hc
  cases hb
  let ρ2 : Locs := fun r => if r < h.length then ρ r else ρ' (ids.length + (r - h.length))
  have lo : ∀ r, r < h.length → ρ2 r = ρ r := fun r hr => if_pos hr
  have hi : ∀ t, ρ2 (h.length + t) = ρ' (ids.length + t) := fun t => by
    show (if h.length + t < h.length then _ else _) = _
    rw [if_neg (by omega)]; congr 1; omega
  have hext : Ext ρ ρ2 := fun r l hl => by
    rcases Nat.lt_or_ge r h.length with h1 | h1
    · rw [lo r h1]; exact hl
    · rw [hS.out r h1] at hl; cases hl
  -- a live row that came in
  have come : ∀ j k, ids[j]? = some k → liveB h k = true → k < h.length ∧ ρ2 k = ρ' j ∧ ∃ l, ρ k = some l := fun j k hj hl => by
    obtain ⟨b, hb, hne⟩ := liveB_iff.1 hl
    have hkl := (List.getElem?_eq_some_iff.1 hb).1
    obtain ⟨l, hl'⟩ := (hS.blk k b hb).some hne
    refine ⟨hkl, ?_, l, hl'⟩
    rw [lo k hkl, hl']
    exact (hk j l (List.getElem?_eq_some_iff.1 hj).1 (by simp [renLocs, hj, hl'])).symm
  have hm : ∀ r r', backN ids h r = some r' → ∀ l, ρ' r = some l → ρ2 r' = some l := fun r r' hr l hl => by
    unfold backN at hr
    split at hr
    · split at hr
      · rename_i k hk'
        split at hr
        · rename_i hlv
          cases hr
          rw [(come r _ hk' hlv).2.1]; exact hl
        · cases hr
      · cases hr
    · rename_i hge
      cases hr
      rw [hi, show ids.length + (r - ids.length) = r by omega]; exact hl
  -- rows by where they come from
  have orig : ∀ k b, (layBack (backN ids h) h ids h1 h ++ (h1.drop ids.length).map (renB (backN ids h)))[k]? = some b →
      (k < h.length ∧ h[k]? = some b ∧ (k ∈ ids → liveB h k = false)) ∨ ∃ j b1, h1[j]? = some b1 ∧ b = renB (backN ids h) b1 ∧ ρ2 k = ρ' j ∧ ((ids[j]? = some k ∧ liveB h k = true) ∨ (ids.length ≤ j ∧ k = h.length + (j - ids.length))) := fun k b hkb => by
    rcases Nat.lt_or_ge k h.length with hlt | hge
    · rw [List.getElem?_append_left (by rw [layBack_len]; exact hlt)] at hkb
      by_cases hin : k ∈ ids ∧ liveB h k = true
      · right
        obtain ⟨j, hj⟩ := List.mem_iff_getElem?.1 hin.1
        have hjl := (List.getElem?_eq_some_iff.1 hj).1
        have hbj := List.getElem?_eq_getElem (show j < h1.length by omega)
        rw [layBack_on _ h hin.2 ids h1 h j _ hnd hj hbj hlt] at hkb
        cases hkb
        exact ⟨j, _, hbj, rfl, (come j k hj hin.2).2.1, .inl ⟨hj, hin.2⟩⟩
      · have hoff : k ∈ ids → liveB h k = false := fun hx => by simpa [hx] using hin
        rw [layBack_off _ h ids h1 h hoff] at hkb
        exact .inl ⟨hlt, hkb, hoff⟩
    · rw [List.getElem?_append_right (by rw [layBack_len]; exact hge), layBack_len, List.getElem?_map, List.getElem?_drop] at hkb
      right
      cases hx : h1[ids.length + (k - h.length)]? with
      | none => simp [hx] at hkb
      | some b1 =>
        simp [hx] at hkb
        refine ⟨_, b1, hx, hkb.symm, ?_, .inr ⟨by omega, by omega⟩⟩
        have := hi (k - h.length)
        rwa [show h.length + (k - h.length) = k by omega] at this
  have hOw : ∀ b, (openOwn Ow w (renLocs ρ ids) (fRows ids h)) b → Ow b := fun b hx => hx.1
  -- a row that did not go in keeps its block
  have apart : ∀ k b, h[k]? = some b → (k ∈ ids → liveB h k = false) → writes b = true → ∀ L, ρ k = some (some L) → ¬ (openOwn Ow w (renLocs ρ ids) (fRows ids h)) L.b := fun k b hb hoff hw L hL hx => by
    obtain ⟨h3, h4, h5⟩ := (hS.blk k b hb).notF hw hL
    obtain ⟨_, hx | ⟨i, bl, L', hi', hw', hL', he⟩⟩ := hx
    · omega
    · simp only [fRows, List.getElem?_map] at hi'
      cases hr : ids[i]? with
      | none => simp [hr] at hi'
      | some r =>
        simp [hr] at hi'
        subst hi'
        rw [writes_renB] at hw'
        cases hb' : h[r]? with
        | none => simp [hb', writes] at hw'
        | some b' =>
          simp [hb'] at hw'
          have e1 : ρ r = some (some L') := by rw [← hL']; simp [renLocs, hr]
          have := hS.inj k r b b' L L' hb hb' hw hw' hL e1 he.symm
          subst this
          have hlv := hoff (List.mem_of_getElem? hr)
          rw [hb'] at hb; cases hb
          have : liveB h k = true := liveB_iff.2 ⟨_, hb', by intro e; subst e; simp [writes] at hw⟩
          rw [hlv] at this; cases this
  have hkeep : ∀ k b, h[k]? = some b → (k ∈ ids → liveB h k = false) → ∀ L, ρ k = some (some L) → writes b = true → w'.heap[L.b]? = w.heap[L.b]? ∧ ¬ F' L.b := fun k b hb hoff L hL hw => by
    obtain ⟨h3, h4, h5⟩ := (hS.blk k b hb).notF hw hL
    have hno := apart k b hb hoff hw L hL
    exact ⟨hN.keep L.b h5 hno, fun hx => (hN.new L.b hx).elim h3 hno⟩
  refine ⟨ρ2, ren_gen hm v hu, ⟨fun k b hkb => ?_, fun k k' b b' L L' hkb hkb' hw hw' hL hL' he => ?_, hS1.fsz, fun k hk' => ?_⟩, ⟨hN.os, hN.tape, hN.output, hN.size, fun b hb ho => hN.keep b hb fun hx => ho (hOw b hx), hN.agree, hN.grow, fun b hb => (hN.new b hb).imp id (hOw b), hext, fun r hr => lo r (hz r hr)⟩⟩
  · rcases orig k b hkb with ⟨h3, h4, h5⟩ | ⟨j, b1, h3, rfl, h5, h6⟩
    · exact (hS.blk k b h4).mono hN.agree hN.grow hext (hkeep k b h4 h5)
    · exact renB_gen hm (fun _ => h5) (fun L _ _ hx => hOw _ hx) (hS1.blk j b1 h3)
  · have toOld : ∀ k b L, h[k]? = some b → ρ2 k = some (some L) → writes b = true → ρ k = some (some L) := fun k b L hb hL hw => by
      rw [← lo k (List.getElem?_eq_some_iff.1 hb).1]; exact hL
    rcases orig k b hkb with ⟨h3, h4, h5⟩ | ⟨j, b1, h3, rfl, h5, h6⟩
    · have hL0 := toOld k b L h4 hL hw
      rcases orig k' b' hkb' with ⟨g3, g4, g5⟩ | ⟨j', b1', g3, rfl, g5, g6⟩
      · exact hS.inj k k' b b' L L' h4 g4 hw hw' hL0 (toOld k' b' L' g4 hL' hw') he
      · exfalso
        rw [writes_renB] at hw'
        rw [g5] at hL'
        have := ((hS1.blk j' b1' g3).notF hw' hL').2.1
        rw [← he] at this
        exact apart k b h4 h5 hw L hL0 this
    · rw [writes_renB] at hw
      rw [h5] at hL
      rcases orig k' b' hkb' with ⟨g3, g4, g5⟩ | ⟨j', b1', g3, rfl, g5, g6⟩
      · exfalso
        have := ((hS1.blk j b1 h3).notF hw hL).2.1
        rw [he] at this
        exact apart k' b' g4 g5 hw' L' (toOld k' b' L' g4 hL' hw') this
      · rw [writes_renB] at hw'
        rw [g5] at hL'
        have := hS1.inj j j' b1 b1' L L' h3 g3 hw hw' hL hL' he
        subst this
        rcases h6 with ⟨h6, _⟩ | ⟨h6, h7⟩
        · rcases g6 with ⟨g6, _⟩ | ⟨g6, _⟩
          · rw [h6] at g6; cases g6; rfl
          · have := (List.getElem?_eq_some_iff.1 h6).1; omega
        · rcases g6 with ⟨g6, _⟩ | ⟨_, g7⟩
          · have := (List.getElem?_eq_some_iff.1 g6).1; omega
          · omega
  · simp only [List.length_append, layBack_len, List.length_map, List.length_drop] at hk'
    have : ρ2 k = ρ' (ids.length + (k - h.length)) := by
      have := hi (k - h.length)
      rwa [show h.length + (k - h.length) = k by omega] at this
    rw [this]
    exact hS1.out _ (by omega)

/-! ### Rows as they are now -/
theorem rt_row (hS : St w F ρ Ow h) {r off len sz : Nat} {cap : Option Nat} {es : List (List T)} (hb : h[r]? = some (.ts sz es) ∨ h[r]? = some (.fz sz es)) {u : Value} (hu : RV w F ρ u (.sl r off len cap)) {F' : Nat → Prop} (hF : ∀ b, b < w.heap.size → F' b) :
    RT w F' u (.list sz ((es.drop off).take len)) := by
  have main : ∀ L, ρ r = some (some L) → L.sz = sz → RowOK w L es (RT w F) → RT w F' u (.list sz ((es.drop off).take len)) := fun L h1 h2 h3 => by
    have hlt : L.b < w.heap.size := by
      obtain ⟨_, _, c, el, fr, hh, _⟩ := h3
      exact (Array.getElem?_eq_some_iff.1 hh).1
    exact rt_of_row h1 hu h2 (h3.mono rfl fun u x hx => hx.mono (fun _ _ => rfl) fun b hb => hF b (hS.fsz b hb)) (hF _ hlt)
  have empty : ρ r = some none → es = [] → RT w F' u (.list sz ((es.drop off).take len)) := fun h1 h2 => by
    subst h2
    cases hu with
    | sl r off len cap L a c hρ' => rw [h1] at hρ'; cases hρ'
    | slP r cap a hρ hc => simpa using rt_nil F' a sz
  rcases hb with hb | hb
  · rcases hS.blk r _ hb with ⟨L, h1, h2, h3, h4, h5⟩ | ⟨h1, h2⟩
    · exact main L h1 h2 h3
    · exact empty h1 h2
  · rcases hS.blk r _ hb with ⟨L, h1, h2, h3, h4⟩ | ⟨h1, h2⟩
    · exact main L h1 h2 h3
    · exact empty h1 h2
theorem snapC_ok (hS : St w F ρ Ow h) {F' : Nat → Prop} (hF : ∀ b, b < w.heap.size → F' b) {v : V} {u : Value} {x : T} (hu : RV w F ρ u v) (hx : snapC h v = some x) : RT w F' u x := by
  cases v with
  | t y =>
    simp only [snapC] at hx; cases hx
    cases hu with
    | t _ _ hy => exact hy.mono (fun _ _ => rfl) fun b hb => hF b (hS.fsz b hb)
  | nil sz =>
    simp only [snapC] at hx; cases hx
    cases hu; exact rt_nil F' none sz
  | sl r off len cap =>
    simp only [snapC] at hx
    split at hx
    · rename_i sz es hb; cases hx; exact rt_row hS (.inl hb) hu hF
    · rename_i sz es hb; cases hx; exact rt_row hS (.inr hb) hu hF
    · cases hx
  | _ => simp [snapC] at hx
theorem snapCs_ok (hS : St w F ρ Ow h) {F' : Nat → Prop} (hF : ∀ b, b < w.heap.size → F' b) : ∀ {vs : List V} {us : List Value} {xs : List T}, RVs w F ρ us vs → snapCs h vs = some xs → RTs w F' us xs
  | [], us, xs, hu, hx => by simp only [snapCs] at hx; cases hx; cases hu; exact .nil
  | v :: vs, us, xs, hu, hx => by
    simp only [snapCs] at hx
    split at hx
    · rename_i x h1
      split at hx
      · rename_i xs' h2
        cases hx
        cases hu with
        | cons a b => exact .cons (snapC_ok hS hF a h1) (snapCs_ok hS hF b h2)
      · cases hx
    · cases hx
theorem snapCs_len : ∀ {vs : List V} {xs : List T}, snapCs h vs = some xs → xs.length = vs.length
  | [], xs, hx => by simp only [snapCs] at hx; cases hx; rfl
  | v :: vs, xs, hx => by
    simp only [snapCs] at hx
    split at hx
    · split at hx
      · rename_i xs' h2; cases hx; simp [snapCs_len h2]
      · cases hx
    · cases hx
theorem snapCs_get : ∀ {vs : List V} {xs : List T}, snapCs h vs = some xs → ∀ (j : Nat) x, xs[j]? = some x → ∃ v, vs[j]? = some v ∧ snapC h v = some x
  | [], xs, hx, j, x, hj => by simp only [snapCs] at hx; cases hx; simp at hj
  | v :: vs, xs, hx, j, x, hj => by
    simp only [snapCs] at hx
    split at hx
    · rename_i y h1
      split at hx
      · rename_i xs' h2
        cases hx
        cases j with
        | zero => simp at hj; subst hj; exact ⟨v, rfl, h1⟩
        | succ j => simpa using snapCs_get h2 j x (by simpa using hj)
      · cases hx
    · cases hx
theorem snapE_get : ∀ {es : List (List V)} {xs : List (List T)}, snapE h es = some xs → xs.length = es.length ∧ ∀ (i : Nat) ys, xs[i]? = some ys → ∃ cs, es[i]? = some cs ∧ snapCs h cs = some ys
  | [], xs, hx => by simp only [snapE] at hx; cases hx; exact ⟨rfl, fun i ys hi => by simp at hi⟩
  | c :: cs, xs, hx => by
    simp only [snapE] at hx
    split at hx
    · rename_i y h1
      split at hx
      · rename_i xs' h2
        cases hx
        obtain ⟨k1, k2⟩ := snapE_get h2
        refine ⟨by simp [k1], fun i ys hi => ?_⟩
        cases i with
        | zero => simp at hi; subst hi; exact ⟨c, rfl, h1⟩
        | succ i => simpa using k2 i ys (by simpa using hi)
      · cases hx
    · cases hx
/-- a struct's or a row's place, seen through a pointer that reads alone -/
theorem rt_fp {L : Loc} {i j : Nat} {α : Type} {es : List (List α)} {R : Value → α → Prop} (hr : RowOK w L es R) {cs : List α} (hi : es[i]? = some cs) {xs : List T} (hl : xs.length ≤ (cs.drop j).length) {F' : Nat → Prop} (hF : F' L.b)
    (hx : ∀ (k : Nat) x u v, xs[k]? = some x → (cs.drop j)[k]? = some v → R u v → RT w F' u x) : RT w F' (.pointer (some ⟨L.b, L.o + (i * L.sz + j), none⟩)) (.fp xs) := by
  obtain ⟨h1, h2, cc, el, fr, hh, hs, hf, hzz, hc⟩ := hr
  have key : ∀ k, k < xs.length → ∃ v u, (cs.drop j)[k]? = some v ∧ cc[L.o + (i * L.sz + (j + k))]? = some u ∧ R u v := fun k hk => by
    have hk' : k < (cs.drop j).length := Nat.lt_of_lt_of_le hk hl
    have hv := List.getElem?_eq_getElem hk'
    have hv' := hv
    rw [List.getElem?_drop] at hv'
    obtain ⟨u, hu, hru⟩ := hc i (j + k) cs _ hi hv'
    exact ⟨_, u, hv, hu, hru⟩
  refine .fp L.b _ xs (fun k => (cc[L.o + (i * L.sz + (j + k))]?).getD undef) hF (fun k hk => ?_) fun k x hk => ?_
  · obtain ⟨v, u, e1, e2, e3⟩ := key k hk
    rw [e2]
    unfold World.cell?
    rw [hh]
    simp only [Option.isSome_none, Option.getD_some]
    rw [show L.o + (i * L.sz + j) + k = L.o + (i * L.sz + (j + k)) by omega]
    simpa using e2
  · have hkl : k < xs.length := (List.getElem?_eq_some_iff.1 hk).1
    obtain ⟨v, u, e1, e2, e3⟩ := key k hkl
    rw [e2]
    exact hx k x u v hk e1 e3
theorem snapP_ok (hS : St w F ρ Ow h) {F' : Nat → Prop} (hF : ∀ b, b < w.heap.size → F' b) {ρ' : Locs} {r i j : Nat} {u : Value} (hu : RV w F ρ u (.ptr r i j)) {v' : V} (hx : snapP h h[r]? i j = some v') : RV w F' ρ' u v' := by
  have lt : ∀ {α : Type} {L : Loc} {es : List (List α)} {R : Value → α → Prop}, RowOK w L es R → F' L.b := fun hr => by
    obtain ⟨_, _, c, el, fr, hh, _⟩ := hr
    exact hF _ (Array.getElem?_eq_some_iff.1 hh).1
  cases hu with
  | ptr r i j L hρ =>
  have flat : ∀ es : List (List T), RowOK w L es (RT w F) → ∀ cs, es[i]? = some cs → RV w F' ρ' (.pointer (some ⟨L.b, L.o + (i * L.sz + j), none⟩)) (.t (.fp (cs.drop j))) := fun es h3 cs hi =>
    .t _ _ (rt_fp h3 hi (Nat.le_refl _) (lt h3) fun k x u v h1 h2 hr => by
      rw [h1] at h2; cases h2
      exact hr.mono (fun _ _ => rfl) fun b hb => hF b (hS.fsz b hb))
  unfold snapP at hx
  split at hx
  · rename_i sz es hb
    split at hx
    · rename_i cs hi
      cases hx
      rcases hS.blk r _ hb with ⟨L', h1, h2, h3, h4, h5⟩ | ⟨h1, h2⟩
      · rw [hρ] at h1; cases h1; exact flat es h3 cs hi
      · rw [hρ] at h1; cases h1
    · cases hx
  · rename_i sz es hb
    split at hx
    · rename_i cs hi
      cases hx
      rcases hS.blk r _ hb with ⟨L', h1, h2, h3, h4⟩ | ⟨h1, h2⟩
      · rw [hρ] at h1; cases h1; exact flat es h3 cs hi
      · rw [hρ] at h1; cases h1
    · cases hx
  · rename_i sz es hb
    split at hx
    · rename_i cs hi
      split at hx
      · rename_i xs hxs
        cases hx
        rcases hS.blk r _ hb with ⟨L', h1, h2, h3, h4, h5⟩ | ⟨h1, h2⟩
        · rw [hρ] at h1; cases h1
          refine .t _ _ (rt_fp h3 hi (by rw [snapCs_len hxs]; exact Nat.le_refl _) (lt h3) fun k x u v h1 h2 hr => ?_)
          obtain ⟨v', e1, e2⟩ := snapCs_get hxs k x h1
          rw [e1] at h2; cases h2
          exact snapC_ok hS hF hr e2
        · rw [hρ] at h1; cases h1
      · cases hx
    · cases hx
  · cases hx
theorem snapS_ok (hS : St w F ρ Ow h) {F' : Nat → Prop} (hF : ∀ b, b < w.heap.size → F' b) {ρ' : Locs} {r off len : Nat} {cap : Option Nat} {u : Value} (hu : RV w F ρ u (.sl r off len cap)) {v' : V} (hx : snapS h h[r]? off len = some v') : RV w F' ρ' u v' := by
  unfold snapS at hx
  split at hx
  · rename_i sz es hb; cases hx; exact .t _ _ (rt_row hS (.inl hb) hu hF)
  · rename_i sz es hb; cases hx; exact .t _ _ (rt_row hS (.inr hb) hu hF)
  · rename_i sz es hb
    split at hx
    · rename_i xs hxs
      cases hx
      obtain ⟨e1, e2⟩ := snapE_get hxs
      rcases hS.blk r _ hb with ⟨L, h1, h2, h3, h4, h5⟩ | ⟨h1, h2⟩
      · cases hu with
        | slP r cap a hρ' hc => rw [h1] at hρ'; cases hρ'
        | sl r off len cap L' a c hρ' ha hl hn hc0 hc1 hz =>
          rw [h1] at hρ'; cases hρ'
          obtain ⟨k1, k2, cc, el, fr, hh, hs, hf, hzz, hc⟩ := h3
          subst h2
          have hlen : ((es.drop off).take len).length = len := by simp; omega
          have cell : ∀ i j, i < len → j < L.sz → ∃ v u x, ((es.drop off).take len)[i]?.bind (·[j]?) = some v ∧ (xs[i]?).bind (·[j]?) = some x ∧ cc[L.o + ((off + i) * L.sz + j)]? = some u ∧ RV w F ρ u v ∧ snapC h v = some x := fun i j hi hj => by
            have hi' : i < xs.length := by omega
            obtain ⟨cs, c1, c2⟩ := e2 i _ (List.getElem?_eq_getElem hi')
            have c1' := c1
            rw [List.getElem?_take, if_pos hi, List.getElem?_drop] at c1'
            have hcl := k2 cs (List.mem_of_getElem? c1')
            have hxl := snapCs_len c2
            have hjl : j < (xs[i]'hi').length := by omega
            obtain ⟨v, d1, d2⟩ := snapCs_get c2 j _ (List.getElem?_eq_getElem hjl)
            obtain ⟨u, hu, hru⟩ := hc (off + i) j cs v c1' d1
            exact ⟨v, u, _, by rw [c1]; exact d1, by rw [List.getElem?_eq_getElem hi']; exact List.getElem?_eq_getElem hjl, hu, hru, d2⟩
          refine .t _ _ (.list a len c L.sz _ (fun i j => (cc[L.o + ((off + i) * L.sz + j)]?).getD undef) (by omega) hl (fun hp => ?_) (fun e he => ?_) fun i j cs x hi hj => ?_)
          · have hne : ¬ c = 0 := by omega
            refine ⟨L.b, L.o + off * L.sz, ha.resolve_right hne, hF _ (Array.getElem?_eq_some_iff.1 hh).1, fun i j hi hj => ?_⟩
            obtain ⟨v, u, x, d1, d2, d3, d4, d5⟩ := cell i j hi hj
            rw [d3]
            unfold World.cell?
            rw [hh]
            simp only [Option.isSome_none, Option.getD_some]
            rw [show L.o + off * L.sz + (i * L.sz + j) = L.o + ((off + i) * L.sz + j) by rw [Nat.add_mul]; omega]
            simpa using d3
          · obtain ⟨i, hi⟩ := List.mem_iff_getElem?.1 he
            obtain ⟨cs, c1, c2⟩ := e2 i e hi
            rw [snapCs_len c2]
            exact k2 cs (List.mem_of_mem_drop (List.mem_of_mem_take (List.mem_of_getElem? c1)))
          · obtain ⟨cs', c1, c2⟩ := e2 i cs hi
            have hil : i < len := by have := (List.getElem?_eq_some_iff.1 hi).1; omega
            have hjl : j < L.sz := by
              have h1 := (List.getElem?_eq_some_iff.1 hj).1
              rw [snapCs_len c2, k2 cs' (List.mem_of_mem_drop (List.mem_of_mem_take (List.mem_of_getElem? c1)))] at h1
              exact h1
            obtain ⟨v, u, x', d1, d2, d3, d4, d5⟩ := cell i j hil hjl
            rw [hi] at d2
            simp only [Option.bind_some] at d2
            rw [hj] at d2; cases d2
            rw [d3]
            exact snapC_ok hS hF d4 d5
      · subst h2
        have hx0 : xs = [] := List.eq_nil_of_length_eq_zero (by simpa using e1)
        subst hx0
        cases hu with
        | sl r off len cap L a c hρ' => rw [h1] at hρ'; cases hρ'
        | slP r cap a hρ hc => exact .t _ _ (rt_nil F' a sz)
    · cases hx
  · cases hx
mutual
theorem snapV_ok (hS : St w F ρ Ow h) {F' : Nat → Prop} (hF : ∀ b, b < w.heap.size → F' b) {ρ' : Locs} : ∀ (v : V) {u : Value} {v' : V}, RV w F ρ u v → snapV h v = some v' → RV w F' ρ' u v'
  | .t x, u, v', hu, hx => by
    simp only [snapV] at hx; cases hx
    cases hu with
    | t _ _ hy => exact .t _ _ (hy.mono (fun _ _ => rfl) fun b hb => hF b (hS.fsz b hb))
  | .nil sz, u, v', hu, hx => by simp only [snapV] at hx; cases hx; cases hu; exact .t _ _ (rt_nil F' none sz)
  | .sl r off len cap, u, v', hu, hx => by simp only [snapV] at hx; exact snapS_ok hS hF hu hx
  | .ptr r i j, u, v', hu, hx => by simp only [snapV] at hx; exact snapP_ok hS hF hu hx
  | .agg cs, u, v', hu, hx => by
    simp only [snapV] at hx
    split at hx
    · rename_i cs' he; cases hx
      cases hu with
      | agg vs cs g hs hg hr => exact RV.agg' (snapVs_ok hS hF cs (rvs_of hs hg hr) he)
    · cases hx
  | .tup cs, u, v', hu, hx => by
    simp only [snapV] at hx
    split at hx
    · rename_i cs' he; cases hx
      cases hu with
      | tup vs cs g hs hg hr => exact RV.tup' (snapVs_ok hS hF cs (rvs_of hs hg hr) he)
    · cases hx
  | .fn f cs, u, v', hu, hx => by
    simp only [snapV] at hx
    split at hx
    · rename_i cs' he
      split at hx
      · rename_i xs hxs
        cases hx
        cases hu with
        | fn f vs cs g hs hg hr =>
          have := snapVs_ok hS hF (ρ' := ρ') cs (rvs_of hs hg hr) he
          exact .t _ _ (RT.fn' (allT_rts this hxs))
      · cases hx
    · cases hx
  | .und, u, v', hu, hx => by simp [snapV] at hx
  | .bad, u, v', hu, hx => by simp [snapV] at hx
theorem snapVs_ok (hS : St w F ρ Ow h) {F' : Nat → Prop} (hF : ∀ b, b < w.heap.size → F' b) {ρ' : Locs} : ∀ (vs : List V) {us : List Value} {vs' : List V}, RVs w F ρ us vs → snapV.snapVs h vs = some vs' → RVs w F' ρ' us vs'
  | [], us, vs', hu, hx => by simp only [snapV.snapVs] at hx; cases hx; cases hu; exact .nil
  | v :: vs, us, vs', hu, hx => by
    simp only [snapV.snapVs] at hx
    split at hx
    · rename_i x he
      split at hx
      · rename_i xs he2; cases hx
        cases hu with
        | cons hv hvs => exact .cons (snapV_ok hS hF v hv he) (snapVs_ok hS hF vs hvs he2)
      · cases hx
    · cases hx
end
/-- what holds no memory is so whatever is read alone -/
theorem flatT_ok {F' : Nat → Prop} {u : Value} {x : T} (hu : RT w F u x) (hx : flatT x = true) : RT w F' u x := by
  cases hu with
  | int k n => exact .int k n
  | bool b => exact .bool b
  | str s l h => exact .str s l h
  | nilp => exact .nilp
  | nilf => exact .nilf
  | nili => exact .nili
  | nni t v => exact .nni t v
  | list a n c sz es g hn hc h0 hz hr =>
    simp only [flatT, List.isEmpty_iff] at hx
    subst hx
    simp only [List.length_nil] at hn
    subst hn
    exact .list a 0 c sz [] g rfl hc (fun h => absurd h (by omega)) (fun e he => by cases he) (fun i j cs x hi => by simp at hi)
  | nlist | fp | fn => simp [flatT] at hx
mutual
theorem flatV_ok {F' : Nat → Prop} {ρ' : Locs} : ∀ (v : V) {u : Value}, RV w F ρ u v → flatV v = true → RV w F' ρ' u v
  | .t x, u, hu, hx => by cases hu with | t _ _ hy => exact .t _ _ (flatT_ok hy hx)
  | .agg cs, u, hu, hx => by
    simp only [flatV] at hx
    cases hu with
    | agg vs cs g hs hg hr => exact RV.agg' (flatVs_ok cs (rvs_of hs hg hr) hx)
  | .tup cs, u, hu, hx => by
    simp only [flatV] at hx
    cases hu with
    | tup vs cs g hs hg hr => exact RV.tup' (flatVs_ok cs (rvs_of hs hg hr) hx)
  | .nil _, u, hu, hx => by simp [flatV] at hx
  | .sl _ _ _ _, u, hu, hx => by simp [flatV] at hx
  | .ptr _ _ _, u, hu, hx => by simp [flatV] at hx
  | .fn _ _, u, hu, hx => by simp [flatV] at hx
  | .und, u, hu, hx => by simp [flatV] at hx
  | .bad, u, hu, hx => by simp [flatV] at hx
theorem flatVs_ok {F' : Nat → Prop} {ρ' : Locs} : ∀ (vs : List V) {us : List Value}, RVs w F ρ us vs → flatV.flatVs vs = true → RVs w F' ρ' us vs
  | [], us, hu, hx => by cases hu; exact .nil
  | v :: vs, us, hu, hx => by
    simp only [flatV.flatVs, Bool.and_eq_true] at hx
    cases hu with
    | cons h1 h2 => exact .cons (flatV_ok v h1 hx.1) (flatVs_ok vs h2 hx.2)
end
end Go.Proofs.YtkpmachalipmpaaGreatDoor.E
