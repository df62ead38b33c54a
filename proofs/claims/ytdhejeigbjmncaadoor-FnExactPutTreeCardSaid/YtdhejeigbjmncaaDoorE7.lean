/- The evaluator's operations are those of the machine: one by one, but for calls. Conditions: those of each lemma. -/
import Derived.Test.YtdhejeigbjmncaaDoorE6
import Derived.Great.BuildSlice
import Derived.Laws.Strings
import Derived.Laws.Small
namespace Go.Proofs.YtdhejeigbjmncaaDoor.E
set_option linter.unusedVariables false
set_option linter.unusedSimpArgs false

variable {P : Program} {w : World} {F : Nat → Prop} {ρ : Locs} {Ow : Own} {h : Heap}

/-- what an operation that calls nobody comes to -/
def Runs (P : Program) (w : World) (F : Nat → Prop) (ρ : Locs) (Ow : Own) (s : Sem Value) (v : V) (h' : Heap) : Prop :=
  ∃ w' F' ρ' u, s.run P w = .ok u w' ∧ RV w' F' ρ' u v ∧ St w' F' ρ' Ow h' ∧ Nxt Ow w F ρ w' F' ρ'
theorem Runs.same {s : Sem Value} {u : Value} {v : V} (hS : St w F ρ Ow h) (hr : s.run P w = .ok u w) (hv : RV w F ρ u v) : Runs P w F ρ Ow s v h := ⟨w, F, ρ, u, hr, hv, hS, Nxt.refl _ _ _ _⟩

/-! ### Numbers, strings, bools -/
theorem ibin_run {op : BinOp} {ty : TypeId} {k : IntKind} {x y : Int} {n : T} (hs : isShift op = false) (hn : ibin op k x y = some n) : ∃ u, (binOp op ty (.int k x) (.int k y)).run P w = .ok u w ∧ RT w F u n := by
  cases op with
  | add => cases hn; exact ⟨.int k (k.wrap (x + y)), by simp [binOp, Op.intArith], .int _ _⟩
  | sub => cases hn; exact ⟨.int k (k.wrap (x - y)), by simp [binOp, Op.intArith], .int _ _⟩
  | mul => cases hn; exact ⟨.int k (k.wrap (x * y)), by simp [binOp, Op.intArith], .int _ _⟩
  | quo =>
    simp only [ibin] at hn
    split at hn
    · cases hn
    · rename_i hy; cases hn; exact ⟨.int k (k.wrap (x.tdiv y)), by simp [binOp, Op.intDiv, hy], .int _ _⟩
  | rem =>
    simp only [ibin] at hn
    split at hn
    · cases hn
    · rename_i hy; cases hn; exact ⟨.int k (x.tmod y), by simp [binOp, Op.intDiv, hy], .int _ _⟩
  | and => cases hn; exact ⟨.int k _, by simp [binOp, Op.intBits], .int _ _⟩
  | or => cases hn; exact ⟨.int k _, by simp [binOp, Op.intBits], .int _ _⟩
  | xor => cases hn; exact ⟨.int k _, by simp [binOp, Op.intBits], .int _ _⟩
  | andNot => cases hn; exact ⟨.int k _, by simp [binOp, Op.intBits], .int _ _⟩
  | shl => cases hs
  | shr => cases hs
  | eql => cases hn; exact ⟨.bool (x == y), by simp [binOp, Op.intCmp], .bool _⟩
  | neq => cases hn; exact ⟨.bool (x != y), by simp [binOp, Op.intCmp], .bool _⟩
  | lss => cases hn; exact ⟨.bool (decide (x < y)), by simp [binOp, Op.intCmp], .bool _⟩
  | leq => cases hn; exact ⟨.bool (decide (x ≤ y)), by simp [binOp, Op.intCmp], .bool _⟩
  | gtr => cases hn; exact ⟨.bool (decide (x > y)), by simp [binOp, Op.intCmp], .bool _⟩
  | geq => cases hn; exact ⟨.bool (decide (x ≥ y)), by simp [binOp, Op.intCmp], .bool _⟩
theorem ishift_run {op : BinOp} {ty : TypeId} {k k' : IntKind} {x y : Int} {n : Int} (hs : isShift op = true) (hn : ishift op k x y = some n) : (binOp op ty (.int k x) (.int k' y)).run P w = .ok (.int k n) w := by
  unfold ishift at hn
  split at hn
  · cases hn
  · rename_i hy
    cases op <;> simp [isShift] at hs
    · simp at hn; subst hn; simp [binOp, Op.shift, hy]
    · simp at hn; subst hn; simp [binOp, Op.shift, hy]
theorem sbin_run {op : BinOp} {ty : TypeId} {s s' : ByteArray} {n : T} (hn : sbin op s.data.toList s'.data.toList = some n) : ∃ u, (binOp op ty (.string s) (.string s')).run P w = .ok u w ∧ RT w F u n := by
  cases op with
  | add =>
    simp only [sbin] at hn
    split at hn
    · rename_i hl
      cases hn
      have hl' : ¬ (((s.size + s'.size : Nat) : Int) > IntKind.i64.max) := by
        have e1 : s.data.toList.length = s.size := by simp
        have e2 : s'.data.toList.length = s'.size := by simp
        have : IntKind.i64.max = 9223372036854775807 := rfl
        omega
      exact ⟨.string (s ++ s'), by simp only [binOp, Op.stringOp, hl', if_false, Sem.run_pure], .str _ _ (by simp)⟩
    · cases hn
  | eql => cases hn; exact ⟨.bool _, by simp only [binOp, Op.stringOp, Sem.run_pure, ByteArray.toList_eq], .bool _⟩
  | neq => cases hn; exact ⟨.bool _, by simp only [binOp, Op.stringOp, Sem.run_pure, ByteArray.toList_eq], .bool _⟩
  | lss => cases hn; exact ⟨.bool _, by simp only [binOp, Op.stringOp, Sem.run_pure, ByteArray.toList_eq], .bool _⟩
  | leq => cases hn; exact ⟨.bool _, by simp only [binOp, Op.stringOp, Sem.run_pure, ByteArray.toList_eq], .bool _⟩
  | gtr => cases hn; exact ⟨.bool _, by simp only [binOp, Op.stringOp, Sem.run_pure, ByteArray.toList_eq], .bool _⟩
  | geq => cases hn; exact ⟨.bool _, by simp only [binOp, Op.stringOp, Sem.run_pure, ByteArray.toList_eq], .bool _⟩
  | _ => cases hn
theorem isSl_ty {ty : TypeId} (h : isSl P ty = true) : ∃ e, P.underlying ty = some (.slice e) := by
  unfold isSl at h
  split at h
  · rename_i e he; exact ⟨e, he⟩
  · cases h
theorem run_equalIn_nil' (w : World) (d : Nat) (ty : TypeId) (a : Option Addr) (n c : Nat) {e : TypeId} (hu : P.underlying ty = some (.slice e)) : (Op.equalIn (d + 1) ty (.slice a n c) (.slice none 0 0)).run P w = .ok a.isNone w := by
  cases a <;> simp [Op.equalIn, run_underlying' hu]
theorem run_equal_slice (w : World) (ty : TypeId) {a : Option Addr} {n c : Nat} {e : TypeId} (hu : P.underlying ty = some (.slice e)) : (Op.equal ty (.slice a n c) (.slice none 0 0)).run P w = .ok a.isNone w := run_equalIn_nil' w 9999 ty a n c hu
theorem run_equal_nil (w : World) (ty : TypeId) {e : TypeId} (hu : P.underlying ty = some (.slice e)) : (Op.equal ty (.slice none 0 0) (.slice none 0 0)).run P w = .ok true w := run_equalIn_nil' w 9999 ty none 0 0 hu
theorem bin_ok (hS : St w F ρ Ow h) {op : BinOp} {ty : TypeId} (x y : Operand) {u1 u2 : Value} {v1 v2 v : V} (hb : bin P op ty v1 v2 = some v) (h1 : RV w F ρ u1 v1) (h2 : RV w F ρ u2 v2) :
    Runs P w F ρ Ow (do eqGuard op ty x y u1 u2; binOp op ty u1 u2) v h := by
  unfold bin at hb
  split at hb
  · rename_i k m k' m'
    cases h1 with
    | t _ _ h1 =>
    cases h1
    cases h2 with
    | t _ _ h2 =>
    cases h2
    have hg : (eqGuard op ty x y (.int k m) (.int k' m')).run P w = .ok () w := by unfold eqGuard; split <;> rfl
    split at hb
    · rename_i hs
      simp only [Option.map_eq_some_iff] at hb
      obtain ⟨n, hn, rfl⟩ := hb
      exact Runs.same hS (u := .int k n) (by rw [Sem.run_bind, hg, Result.andThen_ok, ishift_run hs hn]) (.t _ _ (.int _ _))
    · rename_i hs
      split at hb
      · rename_i hk
        subst hk
        simp only [Option.map_eq_some_iff] at hb
        obtain ⟨n, hn, rfl⟩ := hb
        obtain ⟨u, e1, e2⟩ := ibin_run (P := P) (w := w) (F := F) (ty := ty) (by simpa using hs) hn
        exact Runs.same hS (u := u) (by rw [Sem.run_bind, hg, Result.andThen_ok, e1]) (.t _ _ e2)
      · cases hb
  · rename_i l l'
    cases h1 with
    | t _ _ h1 =>
    cases h1 with
    | str s _ e1 =>
    cases h2 with
    | t _ _ h2 =>
    cases h2 with
    | str s' _ e2 =>
    subst e1 e2
    have hg : (eqGuard op ty x y (.string s) (.string s')).run P w = .ok () w := by unfold eqGuard; split <;> rfl
    simp only [Option.map_eq_some_iff] at hb
    obtain ⟨n, hn, rfl⟩ := hb
    obtain ⟨u, e1, e2⟩ := sbin_run (P := P) (w := w) (F := F) (ty := ty) hn
    exact Runs.same hS (u := u) (by rw [Sem.run_bind, hg, Result.andThen_ok, e1]) (.t _ _ e2)
  · rename_i b b'
    split at hb
    · rename_i ht
      have hu : P.underlying ty = some .bool := by
        unfold isBoolT at ht; split at ht
        · assumption
        · simp at ht
      cases h1 with
      | t _ _ h1 =>
      cases h1
      cases h2 with
      | t _ _ h2 =>
      cases h2
      have hg : (eqGuard op ty x y (.bool b) (.bool b')).run P w = .ok () w := by unfold eqGuard; split <;> rfl
      split at hb
      · cases hb
        exact Runs.same hS (u := .bool (b == b')) (by rw [Sem.run_bind, hg]; simp [binOp, run_equal_bool w ty b b' hu]) (.t _ _ (.bool _))
      · cases hb
        exact Runs.same hS (u := .bool !(b == b')) (by rw [Sem.run_bind, hg]; simp [binOp, run_equal_bool w ty b b' hu]) (.t _ _ (.bool _))
      · cases hb
    · cases hb
  · split at hb
    · rename_i ht
      obtain ⟨e, hu⟩ := isSl_ty ht
      cases h1 with
      | t _ _ h1 =>
      cases h1 with
      | nlist a n c sz es b hb' h1 =>
      cases h2 with
      | nil sz =>
      have hg : (eqGuard op ty x y (.slice a n c) (.slice none 0 0)).run P w = .ok () w := by unfold eqGuard; split <;> rfl
      unfold nilEq at hb
      split at hb
      · cases hb; subst hb'; exact Runs.same hS (u := .bool a.isNone) (by rw [Sem.run_bind, hg]; simp [binOp, run_equal_slice w ty hu]) (.t _ _ (.bool _))
      · cases hb; subst hb'; exact Runs.same hS (u := .bool !a.isNone) (by rw [Sem.run_bind, hg]; simp [binOp, run_equal_slice w ty hu]) (.t _ _ (.bool _))
      · cases hb
    · cases hb
  · split at hb
    · rename_i ht
      obtain ⟨e, hu⟩ := isSl_ty ht
      cases h1 with
      | nil sz1 =>
      cases h2 with
      | nil sz2 =>
      have hg : (eqGuard op ty x y (.slice none 0 0) (.slice none 0 0)).run P w = .ok () w := by unfold eqGuard; split <;> rfl
      unfold nilEq at hb
      split at hb
      · cases hb; exact Runs.same hS (u := .bool true) (by rw [Sem.run_bind, hg]; simp [binOp, run_equal_nil w ty hu]) (.t _ _ (.bool _))
      · cases hb; exact Runs.same hS (u := .bool false) (by rw [Sem.run_bind, hg]; simp [binOp, run_equal_nil w ty hu]) (.t _ _ (.bool _))
      · cases hb
    · cases hb
  · cases hb
theorem isIf_ty {ty : TypeId} (h : isIf P ty = true) : ∃ e, P.underlying ty = some (.interface e) := by
  unfold isIf at h
  split at h
  · rename_i e he; exact ⟨e, he⟩
  · cases h
theorem run_equalIn_if' (w : World) (d : Nat) (ty t : TypeId) (z : Value) {e : Array (String × TypeId)} (hu : P.underlying ty = some (.interface e)) : (Op.equalIn (d + 1) ty (.iface t z) .nilIface).run P w = .ok false w := by
  simp [Op.equalIn, run_underlying' hu]
theorem run_equalIn_ifn' (w : World) (d : Nat) (ty : TypeId) {e : Array (String × TypeId)} (hu : P.underlying ty = some (.interface e)) : (Op.equalIn (d + 1) ty .nilIface .nilIface).run P w = .ok true w := by
  simp [Op.equalIn, run_underlying' hu]
theorem run_equal_if (w : World) (ty t : TypeId) (z : Value) {e : Array (String × TypeId)} (hu : P.underlying ty = some (.interface e)) : (Op.equal ty (.iface t z) .nilIface).run P w = .ok false w := run_equalIn_if' w 9999 ty t z hu
theorem run_equal_ifn (w : World) (ty : TypeId) {e : Array (String × TypeId)} (hu : P.underlying ty = some (.interface e)) : (Op.equal ty .nilIface .nilIface).run P w = .ok true w := run_equalIn_ifn' w 9999 ty hu
theorem binO_ok (hS : St w F ρ Ow h) {op : BinOp} {ty : TypeId} (x y : Operand) {u1 u2 : Value} {v1 v2 v : V} (hb : binO P op ty y v1 v2 = some v) (h1 : RV w F ρ u1 v1) (h2 : RV w F ρ u2 v2) :
    Runs P w F ρ Ow (do eqGuard op ty x y u1 u2; binOp op ty u1 u2) v h := by
  unfold binO at hb
  split at hb
  · split at hb
    · rename_i ht
      obtain ⟨e, hu⟩ := isIf_ty ht
      cases h1 with
      | t _ _ h1 =>
      cases h1 with
      | nni t z =>
      cases h2 with
      | t _ _ h2 =>
      cases h2
      have hg : (eqGuard op ty x y (.iface t z) .nilIface).run P w = .ok () w := by unfold eqGuard; split <;> rfl
      unfold nilEq at hb
      split at hb
      · cases hb; exact Runs.same hS (u := .bool false) (by rw [Sem.run_bind, hg]; simp [binOp, run_equal_if w ty t z hu]) (.t _ _ (.bool _))
      · cases hb; exact Runs.same hS (u := .bool true) (by rw [Sem.run_bind, hg]; simp [binOp, run_equal_if w ty t z hu]) (.t _ _ (.bool _))
      · cases hb
    · cases hb
  · split at hb
    · rename_i ht
      simp only [Bool.and_eq_true] at ht
      obtain ⟨ht, hy⟩ := ht
      obtain ⟨e, hu⟩ := isIf_ty ht
      obtain ⟨cv, rfl⟩ : ∃ cv, y = .const cv := by cases y <;> first | exact ⟨_, rfl⟩ | simp [isC] at hy
      cases h1 with
      | t _ _ h1 =>
      cases h1
      cases h2 with
      | t _ _ h2 =>
      cases h2
      have hg : (eqGuard op ty x (.const cv) .nilIface .nilIface).run P w = .ok () w := by cases op <;> cases x <;> rfl
      unfold nilEq at hb
      split at hb
      · cases hb; exact Runs.same hS (u := .bool true) (by rw [Sem.run_bind, hg]; simp [binOp, run_equal_ifn w ty hu]) (.t _ _ (.bool _))
      · cases hb; exact Runs.same hS (u := .bool false) (by rw [Sem.run_bind, hg]; simp [binOp, run_equal_ifn w ty hu]) (.t _ _ (.bool _))
      · cases hb
    · cases hb
  · exact bin_ok hS x y hb h1 h2
theorem una_ok (hS : St w F ρ Ow h) {op : UnOp} {u : Value} {v v' : V} (hb : una op v = some v') (h1 : RV w F ρ u v) : Runs P w F ρ Ow (Op.unary op u) v' h := by
  unfold una at hb
  split at hb
  · cases h1 with
    | t _ _ h1 =>
    cases h1
    split at hb
    · cases hb; exact Runs.same hS (u := .bool _) (by simp [Op.unary]) (.t _ _ (.bool _))
    · cases hb
  · rename_i k n
    cases h1 with
    | t _ _ h1 =>
    cases h1
    split at hb
    · cases hb; exact Runs.same hS (u := .int k _) (by simp [Op.unary, Op.intArith]) (.t _ _ (.int _ _))
    · simp only [ibits, Option.map_some] at hb
      cases hb; exact Runs.same hS (u := .int k _) (by simp [Op.unary, Op.intBits]) (.t _ _ (.int _ _))
    · cases hb
  · cases hb

/-! ### Slices' bounds, indices -/
theorem sliceBound_ok {k : IntKind} {n : Int} {y : Nat} {code : BoundsCode} (h0 : 0 ≤ n) (h1 : n ≤ y) : (Instr.sliceBound (.int k n) y code).run P w = .ok n.toNat w := by
  simp [Instr.sliceBound, asIntOf, h0, h1]
def optV (w : World) (F : Nat → Prop) (ρ : Locs) : Option Value → Option V → Prop
  | none, none => True
  | some u, some v => RV w F ρ u v
  | _, _ => False
theorem bndV_ok {dflt mx n y : Nat} {v : Option V} {u : Option Value} (hb : bndV dflt mx v = some n) (hu : optV w F ρ u v) (hy : mx ≤ y) (code : BoundsCode) :
    (u = none ∧ n = dflt) ∨ (∃ x, u = some x ∧ (Instr.sliceBound x y code).run P w = .ok n w ∧ n ≤ mx) := by
  unfold bndV at hb
  split at hb
  · cases hb
    cases u with
    | none => exact .inl ⟨rfl, rfl⟩
    | some x => exact hu.elim
  · rename_i k m
    split at hb
    · rename_i hm
      cases hb
      cases u with
      | none => exact hu.elim
      | some x =>
        cases hu with
        | t _ _ hx =>
        cases hx
        exact .inr ⟨_, rfl, sliceBound_ok hm.1 (by omega), by omega⟩
    · cases hb
  · cases hb
theorem cutB_ok {len cap : Nat} (hlc : len ≤ cap) {lo hi : Option V} {l' h' : Nat} (hc : cutB len lo hi = some (l', h')) {ulo uhi : Option Value} (hlo : optV w F ρ ulo lo) (hhi : optV w F ρ uhi hi) (sl : Bool) :
    (Instr.sliceBounds sl len cap ulo uhi none).run P w = .ok (l', h', cap) w ∧ l' ≤ h' ∧ h' ≤ len := by
  unfold cutB at hc
  split at hc
  · rename_i hh he
    split at hc
    · rename_i ll hl
      cases hc
      have e1 : ∀ code, (match uhi with
          | some v => Instr.sliceBound v cap code
          | none => pure len).run P w = .ok h' w ∧ h' ≤ len := fun code => by
        rcases bndV_ok (P := P) he hhi hlc code with ⟨rfl, rfl⟩ | ⟨x, rfl, h1, h2⟩
        · exact ⟨rfl, Nat.le_refl _⟩
        · exact ⟨h1, h2⟩
      have e2 : ∀ code, (match ulo with
          | some v => Instr.sliceBound v h' code
          | none => pure 0).run P w = .ok l' w ∧ l' ≤ h' := fun code => by
        rcases bndV_ok (P := P) hl hlo (Nat.le_refl _) code with ⟨rfl, rfl⟩ | ⟨x, rfl, h1, h2⟩
        · exact ⟨rfl, Nat.zero_le _⟩
        · exact ⟨h1, h2⟩
      refine ⟨?_, (e2 .sliceB).2, (e1 .sliceB).2⟩
      unfold Instr.sliceBounds
      cases uhi <;> cases ulo <;> simp_all
    · cases hc
  · cases hc
end Go.Proofs.YtdhejeigbjmncaaDoor.E
