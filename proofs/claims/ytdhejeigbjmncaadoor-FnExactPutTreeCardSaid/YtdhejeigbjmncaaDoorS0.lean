/- The seat's facts: the policy; what is shown by other means. Conditions: none. -/
import Derived.Test.YtdhejeigbjmncaaDoorE19
import Derived.Test.YtdhejeigbjmncaaDoorT2
import Derived.Test.YtdhejeigbjmncaaDoorLT
import Derived.Test.YtdhejeigbjmncaaDoorTY
import Derived.Test.YtdhejeigbjmncaaDoorX1
namespace Go.Proofs.YtdhejeigbjmncaaDoor
open E
set_option linter.unusedSimpArgs false
set_option linter.unusedVariables false
set_option maxRecDepth 100000
/-- the calls that do not hand on frozen values, or values as they are -/
def pmT (f d : Nat) : PM :=
  if f = 15 then .opn false else
  if f = 24 then (if d = 119 then .opn false else .pure) else
  .pure
def drT (_ : Nat) : Bool := true
/-- a list's texts -/
def strsOf : List (List T) → Option (List Str)
  | [] => some []
  | c :: r => match c with
    | [.str l] => (match strsOf r with | some ks => some (l :: ks) | none => none)
    | _ => none
theorem strsOf_strs : ∀ ks : List Str, strsOf (strs ks) = some ks
  | [] => rfl
  | k :: ks => by
    have := strsOf_strs ks
    simp only [strs] at this
    simp only [strs, List.map_cons, strsOf, this]
theorem strsOf_eq : ∀ {es : List (List T)} {ks : List Str}, strsOf es = some ks → es = strs ks
  | [], ks, h => by simp only [strsOf] at h; cases h; rfl
  | c :: r, ks, h => by
    simp only [strsOf] at h
    split at h
    · split at h
      · rename_i ks' hk; cases h; rw [strsOf_eq hk]; rfl
      · cases h
    · cases h
/-- what is shown by other means -/
def joinE : List V → Option V
  | [.t (.list 1 es), .t (.str sep)] => match strsOf es with
    | some ks => if ks.length ≤ 140737488355328 ∧ (Lib.join ks sep).length ≤ 140737488355328 then some (.t (.str (Lib.join ks sep))) else none
    | none => none
  | _ => none
def itoaE : List V → Option V
  | [.t (.int .i64 n)] => if -9223372036854775808 ≤ n ∧ n ≤ 9223372036854775807 then some (.t (.str (Lib.itoa n))) else none
  | _ => none
def extT (f : Nat) (args : List V) : Option V :=
  if f = 27 then joinE args else
  if f = 32 then itoaE args else
  none
noncomputable def pol : Pol := polOf Tryd.prog pmT liveT outsT drT extT
theorem pol_ok : ∀ f fn c, pol.no f = false → Tryd.prog.funcs[f]? = some fn → fn.body = some c → codeOK (drOK Tryd.prog pol f) fn.ntmps c = true := polOf_ok
theorem DRW : ∀ (rc : Rec) (f m p n : Nat) (fs : List Fr) (k : Fin') (e : Env) (h : Heap) (l : List Oper), goC ⟨Tryd.prog, pol, rc, f, m⟩ (.region n l.toArray true) p fs k e h = goD ⟨Tryd.prog, pol, rc, f, m⟩ (l.all (nonW pol f)) l fs k e h := fun _ _ _ _ _ _ _ _ _ _ => goC_draw _ _ _ _ _ _ _ _ rfl
theorem LVS : ∀ f p, pol.live f p = liveT f p := fun _ _ => rfl
theorem OVS : ∀ f p, pol.outs f p = outsT f p := fun _ _ => rfl
theorem PMS : ∀ f d, pol.pm f d = pmT f d := fun _ _ => rfl
theorem pol_ext (f : Nat) (args : List V) : pol.ext f args = extT f args := rfl
/-- a list of texts as it lies in memory -/
theorem rt_strs {w : World} {F : Nat → Prop} {u : Value} {ks : List Str} (h : RT w F u (.list 1 (strs ks))) :
    ∃ a c, u = .slice a ks.length c ∧ ks.length ≤ c ∧ (0 < ks.length → ∃ b o, a = some ⟨b, o, none⟩ ∧ F b ∧ ∀ (j : Nat) x, (ks.map fun l => (⟨l.toArray⟩ : ByteArray))[j]? = some x → w.cell? ⟨b, o + j, none⟩ = some (.string x)) := by
  cases h with
  | list a n c sz es g hn hc h0 hz hr =>
    rw [strs_len] at hn
    subst hn
    refine ⟨a, c, rfl, hc, fun hp => ?_⟩
    obtain ⟨b, o, e1, e2, e3⟩ := h0 hp
    refine ⟨b, o, e1, e2, fun j x hj => ?_⟩
    have hjl : j < ks.length := by have := (List.getElem?_eq_some_iff.1 hj).1; simpa using this
    have h1 := e3 j 0 hjl (by omega)
    have h2 := hr j 0 [.str ks[j]] (.str ks[j]) (strs_get ks j hjl) rfl
    rw [show o + (j * 1 + 0) = o + j by omega] at h1
    rw [h1]
    generalize g j 0 = gv at h2
    cases h2 with
    | str s _ hs =>
      simp [hjl] at hj
      rw [← hj, ← hs]
theorem nxt_below {w w' : World} {F : Nat → Prop} (h : Go.RowKit.Below w.heap.size w w') (hF : ∀ b, F b → b < w.heap.size) : (∀ b, F b → b < w'.heap.size) ∧ Nxt (own fun b => w.heap.size ≤ b) w F noRows w' F noRows :=
  ⟨fun b hb => Nat.lt_of_lt_of_le (hF b hb) h.size, ⟨h.os, h.tape, h.output, h.size, fun b hb _ => h.block b hb, fun b hb => h.block b (hF b hb), fun _ hb => hb, fun _ hb => .inl hb, Ext.refl _, fun _ _ => rfl⟩⟩
/-- a function is as it is told -/
def ExtAt (W0 : World) (g : Nat) (e : List V → Option V) : Prop := ∀ args v, e args = some v →
    (∃ fn, Tryd.prog.funcs[g]? = some fn ∧ (fn.name == "runtime.NumGoroutine") = false ∧ fn.body.isNone = false) ∧
    ∀ (w : World) (F : Nat → Prop) (us : Array Value), Base W0 w F → (∀ b, F b → b < w.heap.size) → RVs w F noRows us.toList args →
      Calls Tryd.prog g us w fun e w' => ∃ u F', e = .returned u ∧ RV w' F' noRows u v ∧ (∀ b, F' b → b < w'.heap.size) ∧ Nxt (own fun b => w.heap.size ≤ b) w F noRows w' F' noRows
theorem join_at (W0 : World) : ExtAt W0 27 joinE := by
  intro args v hv'
  unfold joinE at hv'
  split at hv'
  · rename_i es sep
    split at hv'
    · rename_i ks hks
      split at hv'
      · rename_i hl
        cases hv'
        obtain rfl := strsOf_eq hks
        refine ⟨⟨Tryd.f27, Tryd.func27, by kernel_rfl, by kernel_rfl⟩, fun w F us hB hF hu => ?_⟩
        obtain ⟨us⟩ := us
        change RVs w F noRows us _ at hu
        cases hu with
        | cons h1 h2 =>
        cases h2 with
        | cons h2 h3 =>
        cases h3
        obtain ⟨s, rfl, hs⟩ := rv_str h2
        obtain ⟨a, c, rfl, hc, h0⟩ := rt_strs (rv_t h1)
        have hfin : ∀ (e : Ending) (w' : World), (e = .returned (.string ⟨(Lib.join ks sep).toArray⟩) ∧ Go.RowKit.Below w.heap.size w w') → ∃ u F', e = .returned u ∧ RV w' F' noRows u (.t (.str (Lib.join ks sep))) ∧ (∀ b, F' b → b < w'.heap.size) ∧ Nxt (own fun b => w.heap.size ≤ b) w F noRows w' F' noRows := by
          rintro e w' ⟨rfl, hb⟩
          obtain ⟨k1, k2⟩ := nxt_below hb hF
          exact ⟨_, F, rfl, .t _ _ (.str _ _ (by simp)), k1, k2⟩
        by_cases hk : ks.length = 0
        · have hk' : ks = [] := List.eq_nil_of_length_eq_zero hk
          subst hk'
          refine (Tryd.join_none a c s w).mono fun e w' ⟨h1, h2⟩ => hfin e w' ⟨?_, ?_⟩
          · rw [h1]; rfl
          · rw [h2]; exact Go.RowKit.Below.refl _ _
        · obtain ⟨b, o, rfl, hb, hcell⟩ := h0 (by omega)
          have hmap : (ks.map fun l => (⟨l.toArray⟩ : ByteArray)).map (·.data.toList) = ks := by
            rw [List.map_map]
            have : ((fun x : ByteArray => x.data.toList) ∘ fun l : List UInt8 => (⟨l.toArray⟩ : ByteArray)) = id := by funext l; simp
            rw [this]; simp
          have := Tryd.join_some b o c (ks.map fun l => (⟨l.toArray⟩ : ByteArray)) s w hcell (hF b hb) (by simpa using hl.1) (by simpa using hc) (by rw [hmap, hs]; exact hl.2)
          rw [hmap, hs, List.length_map] at this
          exact this.mono fun e w' h => hfin e w' h
      · cases hv'
    · cases hv'
  · cases hv'
theorem below_grow (w : World) (k : Nat) (os : Array Obj) : Go.RowKit.Below w.heap.size w (Go.Sort.grow (w.drewN k) os) :=
  ⟨rfl, rfl, rfl, by simp [Go.Sort.grow], fun b hb => by simp [Go.Sort.grow, Array.getElem?_append_left hb]⟩
theorem tab_keep {W0 w : World} {F : Nat → Prop} {n : String} {k : IntKind} {zs : List Int} (hB : Base W0 w F) (h : Lib.TabIs Tryd.prog W0 n k zs) : Lib.TabIs Tryd.prog w n k zs := by
  unfold Lib.TabIs World.var? at *
  cases hg : Tryd.prog.globalNamed n with
  | none => simp [hg] at h
  | some g =>
    simp only [hg, Option.bind_some] at h ⊢
    have hlt : g < W0.heap.size := by
      refine Nat.lt_of_not_le fun hc => ?_
      rw [Array.getElem?_eq_none hc] at h
      cases h
    rw [hB.heap g hlt]
    exact h
theorem itoa_at (W0 : World) (hT : Lib.TabIs Tryd.prog W0 "internal/strconv.uint64pow10" .u64 Lib.pow10Tab) : ExtAt W0 32 itoaE := by
  intro args v hv'
  unfold itoaE at hv'
  split at hv'
  · rename_i n
    split at hv'
    · rename_i hn
      cases hv'
      refine ⟨⟨Tryd.f32, Tryd.func32, by kernel_rfl, by kernel_rfl⟩, fun w F us hB hF hu => ?_⟩
      obtain ⟨us⟩ := us
      change RVs w F noRows us _ at hu
      cases hu with
      | cons h1 h2 =>
      cases h2
      cases h1 with
      | t _ _ h1 =>
      cases h1
      refine (Tryd.itoa n hn.1 hn.2 w (tab_keep hB hT)).mono fun e w' h => ?_
      obtain ⟨rfl, k, os, rfl⟩ := h
      obtain ⟨k1, k2⟩ := nxt_below (below_grow w k os) hF
      exact ⟨_, F, rfl, .t _ _ (.str _ _ (by simp)), k1, k2⟩
    · cases hv'
  · cases hv'
/-- what the start's memory has to hold -/
def LaidOK (W0 : World) : Prop :=
  Lib.TabIs Tryd.prog W0 "internal/strconv.uint64pow10" .u64 Lib.pow10Tab ∧
  True
theorem ext_ok (W0 : World) (hL : LaidOK W0) : ExtOK Tryd.prog W0 pol := by
  intro g args v hv
  have hv' : extT g args = some v := hv
  clear hv
  unfold extT at hv'
  by_cases hg : g = 27
  · subst hg
    rw [if_pos rfl] at hv'
    exact join_at W0 args v hv'
  rw [if_neg hg] at hv'
  clear hg
  by_cases hg : g = 32
  · subst hg
    rw [if_pos rfl] at hv'
    exact itoa_at W0 hL.1 args v hv'
  rw [if_neg hg] at hv'
  clear hg
  cases hv'
theorem c_join (ks : List Str) (sep : Str) (h1 : ks.length ≤ 140737488355328) (h2 : (Lib.join ks sep).length ≤ 140737488355328) : callPure (EV Tryd.prog pol) 27 [.t (.list 1 (strs ks)), .t (.str sep)] = some (.t (.str (Lib.join ks sep))) :=
  eq_call (EV_ext (by rw [pol_ext]; unfold extT; simp (config := { decide := true }) only [if_true, if_false, reduceIte, joinE, strsOf_strs]; rw [if_pos ⟨h1, h2⟩]))
theorem c_itoa (n : Int) (h1 : -9223372036854775808 ≤ n) (h2 : n ≤ 9223372036854775807) : callPure (EV Tryd.prog pol) 32 [.t (.int .i64 n)] = some (.t (.str (Lib.itoa n))) :=
  eq_call (EV_ext (by rw [pol_ext]; unfold extT; simp (config := { decide := true }) only [if_true, if_false, reduceIte, itoaE]; rw [if_pos ⟨h1, h2⟩]))
theorem asArg_sl (r off len : Nat) (cap : Option Nat) : asArg (.sl r off len cap) = none := rfl
theorem asArg_ptr (r i j : Nat) : asArg (.ptr r i j) = none := rfl
end Go.Proofs.YtdhejeigbjmncaaDoor
