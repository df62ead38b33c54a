/- The evaluator's operations are those of the machine, calls among them. Conditions: those of each lemma. -/
import Derived.Test.YtdhejeigbjmncaaDoorE10P
namespace Go.Proofs.YtdhejeigbjmncaaDoor.E
set_option linter.unusedVariables false
set_option linter.unusedSimpArgs false

variable {P : Program} {w : World} {F : Nat → Prop} {ρ : Locs} {Ow : Own} {h : Heap}


/-- what lay in memory at the start lies there still, and nobody writes it -/
structure Base (W0 w : World) (F : Nat → Prop) : Prop where
  size : W0.heap.size ≤ w.heap.size
  F : ∀ b, b < W0.heap.size → F b
  heap : ∀ b, b < W0.heap.size → w.heap[b]? = W0.heap[b]?
theorem Base.next {W0 w' : World} {F' : Nat → Prop} {ρ' : Locs} (hB : Base W0 w F) (hN : Nxt Ow w F ρ w' F' ρ') : Base W0 w' F' :=
  ⟨Nat.le_trans hB.size hN.size, fun b hb => hN.grow b (hB.F b hb), fun b hb => (hN.agree b (hB.F b hb)).trans (hB.heap b hb)⟩
variable {W0 : World}
/-- what is known of inner calls -/
structure CallOK (P : Program) (W0 : World) (rec : Rec) : Prop where
  clo : ∀ g args v, rec (.call g args []) = some (.call v []) →
    (∃ fn, P.funcs[g]? = some fn ∧ (fn.name == "runtime.NumGoroutine") = false ∧ fn.body.isNone = false) ∧
    ∀ (w : World) (F : Nat → Prop) (us : Array Value), Base W0 w F → (∀ b, F b → b < w.heap.size) → RVs w F noRows us.toList args →
      Calls P g us w fun e w' => ∃ u F', e = .returned u ∧ RV w' F' noRows u v ∧ (∀ b, F' b → b < w'.heap.size) ∧ Nxt (own fun b => w.heap.size ≤ b) w F noRows w' F' noRows
  opn : ∀ gv g args h v h', rec (.callO gv g args h) = some (.call v h') →
    (∃ fn, P.funcs[g]? = some fn ∧ (fn.name == "runtime.NumGoroutine") = false ∧ fn.body.isNone = false) ∧
    ∀ (Ow : Own) (w : World) (F : Nat → Prop) (ρ : Locs) (us : Array Value), Base W0 w F → St w F ρ Ow h → OkC Ow w → RVs w F ρ us.toList args →
      Calls P g us w fun e w' => ∃ u F' ρ', e = .returned u ∧ RV w' F' ρ' u v ∧ St w' F' ρ' Ow h' ∧ Nxt Ow w F noRows w' F' noRows ∧ ∀ r l, r < h.length → ρ r = some l → ρ' r = some l

/-- what an operation leaves behind -/
def Post (Ow : Own) (w : World) (F : Nat → Prop) (ρ : Locs) (v : V) (h' : Heap) (K : Value → World → Prop) : Prop :=
  ∀ w' F' ρ' u, RV w' F' ρ' u v → St w' F' ρ' Ow h' → Nxt Ow w F ρ w' F' ρ' → K u w'

theorem upon_val {o : Oper} {a : Act} {K : Act → World → Prop} {Q : Exit → Act → World → Prop} {s : Sem Value} {v : V} {h' : Heap} (he : execOp a.eval o = do pure (.value (← s))) (hr : Runs P w F ρ Ow s v h')
    (hK : Post Ow w F ρ v h' fun u w' => K (a.put o.dst u) w') : o.wp P a w K Q := by
  obtain ⟨w', F', ρ', u, h1, h2, h3, h4⟩ := hr
  unfold Oper.wp
  rw [he, Sem.run_bind, h1]
  exact hK w' F' ρ' u h2 h3 h4
theorem upon_same {o : Oper} {a : Act} {K : Act → World → Prop} {Q : Exit → Act → World → Prop} (hS : St w F ρ Ow h) {s : Sem Value} {v : V} (he : execOp a.eval o = do pure (.value (← s))) (hr : ∃ u, s.run P w = .ok u w ∧ RV w F ρ u v)
    (hK : Post Ow w F ρ v h fun u w' => K (a.put o.dst u) w') : o.wp P a w K Q := by
  obtain ⟨u, h1, h2⟩ := hr
  exact upon_val he (Runs.same hS h1 h2) hK
theorem upon_now {o : Oper} {a : Act} {K : Act → World → Prop} {Q : Exit → Act → World → Prop} (hS : St w F ρ Ow h) {u : Value} {v : V} (he : (execOp a.eval o).run P w = .ok (.value u) w) (hu : RV w F ρ u v)
    (hK : Post Ow w F ρ v h fun u w' => K (a.put o.dst u) w') : o.wp P a w K Q := by
  unfold Oper.wp
  rw [he]
  exact hK w F ρ u hu hS (Nxt.refl _ _ _ _)

theorem opvs_rv {a : Act} {e : Env} (he : RE w F ρ a e) : ∀ (xs : List Operand) (ts : List TypeId), RVs w F ρ (xs.map a.eval) (opvs P e xs ts)
  | [], _ => by simp only [List.map_nil, opvs]; exact .nil
  | x :: xs, [] => by simp only [List.map_cons, opvs]; exact .cons (opv_rv he _ _) (opvs_rv he xs [])
  | x :: xs, t :: ts => by simp only [List.map_cons, opvs]; exact .cons (opv_rv he _ _) (opvs_rv he xs ts)
theorem opvO_rv {a : Act} {e : Env} (he : RE w F ρ a e) (x : Option Operand) : optV w F ρ (x.map a.eval) (opvO P e x) := by
  cases x with
  | none => exact trivial
  | some x => exact opv_rv he 0 x
theorem lenV_ok {t : TypeId} {x : V} {n : Nat} (hn : lenV P t x = some n) {u : Value} (hu : RV w F ρ u x) (rt : TypeId) : (Builtin.len_ #[t] rt #[u]).run P w = .ok (goInt n) w := by
  unfold lenV at hn
  split at hn
  · rename_i ht
    have hty := isStr_eq ht
    split at hn
    · cases hn
      cases hu with
      | t _ _ hx =>
      cases hx with
      | str s _ hs => subst hs; simp [Builtin.len_, run_underlying' hty]
    · cases hn
  · split at hn
    · rename_i ht
      have hty : ∃ e, P.underlying t = some (.slice e) := by
        unfold isSl at ht; split at ht
        · exact ⟨_, by assumption⟩
        · cases ht
      obtain ⟨e, hty⟩ := hty
      split at hn
      · cases hn
        cases hu with
        | t _ _ hx =>
        cases hx with
        | list a m c sz es g hm => subst hm; simp [Builtin.len_, run_underlying' hty]
      · cases hn; cases hu; simp [Builtin.len_, run_underlying' hty]
      · cases hn
        cases hu with
        | sl => simp [Builtin.len_, run_underlying' hty]
        | slP => simp [Builtin.len_, run_underlying' hty]
      · cases hn
    · cases hn

theorem fnV_ok {x : V} {g : Nat} {caps : List V} (hf : fnV x = some (g, caps)) {u : Value} (hu : RV w F ρ u x) : ∃ vs : Array Value, u = .func (.func g) #[] vs ∧ RVs w F ρ vs.toList caps := by
  unfold fnV at hf
  split at hf
  · cases hf
    cases hu with
    | t _ _ hx =>
    cases hx with
    | fn f caps vs hv g hg hr => exact ⟨vs, rfl, rts_rvs (rts_of hv hg hr)⟩
  · cases hf
    cases hu with
    | fn f vs cs g hs hg hr => exact ⟨vs, rfl, rvs_of hs hg hr⟩
  · cases hf
/-- a state behind an inner call -/
theorem after_call (hS : St w F ρ Ow h) (hO : ∀ b, w.heap.size ≤ b → Ow b) {w' : World} {F' : Nat → Prop} (hF : ∀ b, F' b → b < w'.heap.size) (hN : Nxt (own fun b => w.heap.size ≤ b) w F noRows w' F' noRows) : St w' F' ρ Ow h ∧ Nxt Ow w F ρ w' F' ρ := by
  have hN' : Nxt Ow w F ρ w' F' ρ := ⟨hN.os, hN.tape, hN.output, hN.size, fun b hb _ => hN.keep b hb (Nat.not_le.2 hb), hN.agree, hN.grow, fun b hb => (hN.new b hb).imp id (hO b), Ext.refl _, fun _ _ => rfl⟩
  refine ⟨hS.next hN' hS.out hF (fun r b hr => .inl ⟨hr, fun L hL hw => ?_⟩), hN'⟩
  obtain ⟨h1, h2, h3⟩ := (hS.blk r b hr).notF hw hL
  exact ⟨hN.keep L.b h3 (Nat.not_le.2 h3), fun x => (hN.new L.b x).elim h1 (Nat.not_le.2 h3)⟩
theorem callPure_ok (hS : St w F ρ Ow h) (hO : ∀ b, w.heap.size ≤ b → Ow b) {rec : Rec} (hB : Base W0 w F) (hrec : CallOK P W0 rec) {g : Nat} {args : List V} {v : V} (hc : callPure rec g args = some v) {us : Array Value} (hu : RVs w F noRows us.toList args) :
    (∃ fn, P.funcs[g]? = some fn ∧ (fn.name == "runtime.NumGoroutine") = false ∧ fn.body.isNone = false) ∧
    Calls P g us w fun e w' => ∃ u F', e = .returned u ∧ RV w' F' ρ u v ∧ St w' F' ρ Ow h ∧ Nxt Ow w F ρ w' F' ρ := by
  unfold callPure at hc
  split at hc
  · rename_i v' hr
    cases hc
    obtain ⟨hfn, hcall⟩ := hrec.clo g args v hr
    refine ⟨hfn, (hcall w F us hB hS.fsz hu).mono ?_⟩
    rintro e w' ⟨u, F', rfl, h1, h2, h3⟩
    obtain ⟨k1, k2⟩ := after_call hS hO h2 h3
    exact ⟨u, F', rfl, h1.mono (fun _ _ => rfl) (fun _ x => x) (noRows_ext ρ), k1, k2⟩
  · cases hc
theorem callOp_ok (hS : St w F ρ Ow h) (hO : ∀ b, w.heap.size ≤ b → Ow b) {pol : Pol} {rec : Rec} (hB : Base W0 w F) (hrec : CallOK P W0 rec) {f : Nat} {N : Option Nat} {dst : Option Nat} (hz : ∀ r, Ow.z r → r < h.length) {g : Nat} {args : List V} {v : V} {h' : Heap} (hc : callOp pol rec f N dst g args h = some (v, h')) {us : Array Value} (hu : RVs w F ρ us.toList args) :
    (∃ fn, P.funcs[g]? = some fn ∧ (fn.name == "runtime.NumGoroutine") = false ∧ fn.body.isNone = false) ∧
    Calls P g us w fun e w' => ∃ u F' ρ', e = .returned u ∧ RV w' F' ρ' u v ∧ St w' F' ρ' Ow h' ∧ Nxt Ow w F ρ w' F' ρ' := by
  unfold callOp at hc
  split at hc
  · split at hc
    · rename_i as has
      split at hc
      · rename_i v' hv
        cases hc
        obtain ⟨e1, e2⟩ := callPure_ok hS hO hB hrec hv (asArgs_ok noRows args hu has)
        refine ⟨e1, e2.mono ?_⟩
        rintro e w' ⟨u, F', rfl, h1, h2, h3⟩
        exact ⟨u, F', ρ, rfl, h1, h2, h3⟩
      · cases hc
    · split at hc
      · rename_i as has
        split at hc
        · rename_i v' hv
          split at hc
          · rename_i hfl
            cases hc
            unfold callPure at hv
            split at hv
            · rename_i v' hr
              cases hv
              obtain ⟨hfn, hcall⟩ := hrec.clo g as v hr
              refine ⟨hfn, (hcall w (fun b => b < w.heap.size) us ⟨hB.size, fun b hb => Nat.lt_of_lt_of_le hb hB.size, hB.heap⟩ (fun b hb => hb) (snapVs_ok hS (fun b hb => hb) args hu has)).mono ?_⟩
              rintro e w' ⟨u, F', rfl, h1, h2, h3⟩
              have hN : Nxt (own fun b => w.heap.size ≤ b) w F noRows w' F noRows :=
                ⟨h3.os, h3.tape, h3.output, h3.size, h3.keep, fun b hb => h3.agree b (hS.fsz b hb), fun b hb => hb, fun b hb => .inl hb, Ext.refl _, fun _ _ => rfl⟩
              obtain ⟨k1, k2⟩ := after_call hS hO (fun b hb => Nat.lt_of_lt_of_le (hS.fsz b hb) h3.size) hN
              exact ⟨u, F, ρ, rfl, flatV_ok v h1 hfl, k1, k2⟩
            · cases hv
          · cases hc
        · cases hc
      · cases hc
  · split at hc
    · rename_i as h1 has
      split at hc
      · rename_i v' hv
        cases hc
        obtain ⟨F1, k1, k2, k3⟩ := gives_ok noRows args hS hu has
        obtain ⟨e1, e2⟩ := callPure_ok k2 hO (hB.next k3) hrec hv k1
        refine ⟨e1, e2.mono ?_⟩
        rintro e w' ⟨u, F', rfl, h1, h2, h3⟩
        exact ⟨u, F', ρ, rfl, h1, h2, k3.trans h3⟩
      · cases hc
    · cases hc
  · rename_i gv hpm
    split at hc
    · rename_i v' h1 hr
      obtain ⟨e1, e2⟩ := hrec.opn gv g _ _ _ _ hr
      have hnd : (openIds h args).Nodup := reach_ok h 3 _ (nodups_ok _ _ (by simp))
      have hS0 := open_st (pack_ids hnd hS)
      refine ⟨e1, (e2 (openOwn Ow w (renLocs ρ (openIds h args)) (fRows (openIds h args) h)) w F (renLocs ρ (openIds h args)) us hB hS0 (OkC.own _ fun b hb => ⟨hO b hb, .inl hb⟩) (rens_ok _ args hu)).mono ?_⟩
      rintro e w' ⟨u, F', ρ', rfl, h1, h2, h3, h4⟩
      obtain ⟨ρ2, k1, k2, k3⟩ := open_back hnd hS hz hc h1 h2 h3 (fun r l hr hl => h4 r l (by simpa [packH, openIds] using hr) hl)
      exact ⟨u, F', ρ2, rfl, k1, k2, k3⟩
    · cases hc
theorem enter_ok {g : Nat} {us : Array Value} {fn : Func} (h1 : P.funcs[g]? = some fn) (h2 : (fn.name == "runtime.NumGoroutine") = false) (h3 : fn.body.isNone = false) : (callFunc g us).run P w = .ok (.enter g us) w := by
  simp only [callFunc, Sem.run_bind, run_program, Result.andThen_ok, h1, h2, h3]
  rfl

theorem rv_t {u : Value} {x : T} (hu : RV w F ρ u (.t x)) : RT w F u x := by cases hu with | t _ _ hx => exact hx
theorem rv_int {u : Value} {k : IntKind} {n : Int} (hu : RV w F ρ u (.t (.int k n))) : u = .int k n := by cases rv_t hu; rfl
theorem rv_bool {u : Value} {b : Bool} (hu : RV w F ρ u (.t (.bool b))) : u = .bool b := by cases rv_t hu; rfl
theorem rv_str {u : Value} {l : List UInt8} (hu : RV w F ρ u (.t (.str l))) : ∃ s : ByteArray, u = .string s ∧ s.data.toList = l := by
  cases rv_t hu with
  | str s _ hs => exact ⟨s, rfl, hs⟩
theorem rv_tup {u : Value} {cs : List V} (hu : RV w F ρ u (.tup cs)) : ∃ vs : Array Value, u = .tuple vs ∧ RVs w F ρ vs.toList cs := by
  cases hu with
  | tup us cs g hs hg hr => exact ⟨us, rfl, rvs_of hs hg hr⟩

theorem op_wp {pol : Pol} {rec : Rec} (hB : Base W0 w F) (hrec : CallOK P W0 rec) {f : Nat} {o : Oper} {e : Env} {v : V} {h' : Heap} (hev : evOp P pol rec f Ow.N o e h = some (v, h')) (hS : St w F ρ Ow h) (hO : OkO Ow w ρ h) (hz : ∀ r, Ow.z r → r < h.length) {a : Act} (he : RE w F ρ a e)
    {K : Act → World → Prop} {Q : Exit → Act → World → Prop} (hK : Post Ow w F ρ v h' fun u w' => K (a.put o.dst u) w') : o.wp P a w K Q := by
  obtain ⟨dst, op, ty, pos, after, guard⟩ := o
  cases op with
  | move x =>
    simp only [evOp] at hev; cases hev
    exact upon_now hS (by simp [execOp]) (opv_rv he ty x) hK
  | assign x =>
    simp only [evOp] at hev; cases hev
    exact upon_now hS (by simp [execOp]) (opv_rv he ty x) hK
  | pick c x y =>
    simp only [evOp] at hev
    split at hev
    · rename_i t hc
      cases hev
      have hcv := opv_rv (P := P) he 0 c
      rw [hc] at hcv
      have hg := rv_bool hcv
      cases t with
      | true => exact upon_now hS (u := a.eval x) (by simp [execOp, hg, asBool]) (opv_rv he ty x) hK
      | false => exact upon_now hS (u := a.eval y) (by simp [execOp, hg, asBool]) (opv_rv he ty y) hK
    · cases hev
  | alloc t =>
    simp only [evOp] at hev
    split at hev
    · rename_i zs hz
      split at hev
      · cases hev
      · cases hev; exact upon_val rfl (alloc_ok hS hO hz) hK
    · cases hev
  | box t x =>
    simp only [evOp] at hev
    split at hev
    · cases hev
    · rename_i hc
      cases hev
      simp only [Bool.or_eq_true, Bool.not_eq_true', not_or, Bool.not_eq_false] at hc
      exact upon_val rfl (box_ok hS hO (opv_rv he t x) hc.2) hK
  | build t parts =>
    simp only [evOp] at hev
    split at hev
    · rename_i hst
      split at hev
      · rename_i zs hz
        split at hev
        · rename_i cs hf
          cases hev
          refine upon_val rfl (build_ok hS hst hz (ps := parts.map fun (i, x) => (i, a.eval x)) ?_ hf) hK
          have := parts_rv (P := P) he (fTy P t) parts.toList
          simpa using this
        · cases hev
      · cases hev
    · cases hev
  | buildSlice t len parts =>
    simp only [evOp] at hev
    split at hev
    · rename_i el hel
      split at hev
      · cases hev
      · rename_i hc
        simp only [not_or, Bool.not_eq_true, Option.isNone_eq_false_iff] at hc
        obtain ⟨c1, c2, c3, c4⟩ := hc
        split at hev
        · rename_i css hf
          split at hev
          · rename_i es h1 hg
            cases hev
            obtain ⟨zs, hz⟩ := Option.isSome_iff_exists.1 c4
            have hp := parts_rv (P := P) he (fun _ => el) parts.toList
            have hl : (partsV P e (fun _ => el) parts.toList).length = len := by
              have := forall₂_len hp
              simp at this
              simp only [ne_eq, Decidable.not_not] at c3
              omega
            have := buildSlice_ok (ps := parts.map fun (i, x) => (i, a.eval x)) hS hO hel (by simpa using hp) c1 (by rw [hl]; exact c2) hf hg hz
            rw [hl] at this
            exact upon_val rfl this hK
          · cases hev
        · cases hev
    · cases hev
  | load t x =>
    simp only [evOp] at hev
    split at hev
    · rename_i v' hv; cases hev
      exact upon_same hS rfl (load_ok hS hv (opv_rv he 0 x)) hK
    · cases hev
  | store t x y =>
    simp only [evOp] at hev
    split at hev
    · rename_i h1 hs
      cases hev
      obtain ⟨w', F', e1, e2, e3⟩ := store_ok hS hs (opv_rv he 0 x) (opv_rv he t y)
      unfold Oper.wp
      simp only [execOp, Sem.run_bind, e1, Result.andThen_ok, Sem.run_pure]
      exact hK w' F' ρ undef .und e2 e3
    · cases hev
  | binOp b t x y u =>
    simp only [evOp] at hev
    split at hev
    · rename_i v' hv; cases hev
      exact upon_val rfl (binO_ok hS x y hv (opv_rv he t x) (opv_rv he u y)) hK
    · cases hev
  | unOp b t x =>
    simp only [evOp] at hev
    split at hev
    · rename_i v' hv; cases hev
      exact upon_val rfl (una_ok hS hv (opv_rv he t x)) hK
    · cases hev
  | convert src dst' x =>
    simp only [evOp] at hev
    split at hev
    · rename_i v' hv; cases hev
      exact upon_same hS rfl (conv_ok hS hv (opv_rv he src x)) hK
    · cases hev
  | makeFunc fn first caps =>
    cases fn with
    | func g =>
      simp only [evOp] at hev
      split at hev
      · rename_i hf
        cases hev
        have hfe : first = #[] := Array.eq_empty_of_size_eq_zero hf
        subst hfe
        refine upon_now hS (u := .func (.func g) #[] (caps.map a.eval)) (by simp [execOp, Instr.makeFunc]) (RV.fn' ?_) hK
        have := opvs_rv (P := P) he caps.toList []
        simpa using this
      · cases hev
    | _ => simp [evOp] at hev
  | makeSlice t l c =>
    simp only [evOp] at hev
    split at hev
    · rename_i el k n k' m hel hl hc
      split at hev
      · rename_i zs hz
        split at hev
        · rename_i z hza
          split at hev
          · cases hev
          · rename_i hcond
            simp only [not_or, ne_eq, Decidable.not_not, gt_iff_lt, Nat.not_lt] at hcond
            obtain ⟨c1, c2, c3, c4, c5⟩ := hcond
            cases hev
            have hlv := opv_rv (P := P) he 0 l
            have hcv := opv_rv (P := P) he 0 c
            rw [hl] at hlv
            rw [hc] at hcv
            subst c3
            have e1 := rv_int hlv
            have e2 := rv_int hcv
            obtain ⟨n', rfl⟩ := Int.eq_ofNat_of_zero_le (show 0 ≤ n by omega)
            simp only [Int.toNat_natCast] at *
            refine upon_val (s := Instr.makeSlice t (a.eval l) (a.eval c)) rfl ?_ hK
            rw [e1, e2]
            exact make_ok hS hO hel hz hza c1 c4 c5
        · cases hev
      · cases hev
    · cases hev
  | slice t x lo hi mx =>
    simp only [evOp] at hev
    split at hev
    · rename_i v' hv; cases hev
      exact upon_same hS rfl (cut_ok hS hv (opv_rv he t x) (opvO_rv he lo) (opvO_rv he hi) (opvO_rv he mx)) hK
    · cases hev
  | nilCheck x =>
    simp only [evOp] at hev
    split at hev
    · rename_i v' hv
      cases hev
      have hxv := opv_rv (P := P) he 0 x
      generalize hg : a.eval x = u at hxv
      generalize opv P e 0 x = xv at hv hxv
      unfold nilC at hv
      split at hv
      · rename_i r i j
        cases hv
        cases hxv with
        | ptr r i j L hρ =>
        exact upon_same hS (s := pure (a.eval x)) (by simp [execOp, hg]) ⟨_, by rw [hg]; rfl, .ptr r i j L hρ⟩ hK
      · rename_i cs
        cases hv
        cases hxv with
        | t _ _ hx =>
        cases hx with
        | fp b o' cs g hF hcell hr =>
        exact upon_same hS (s := pure (a.eval x)) (by simp [execOp, hg]) ⟨_, by rw [hg]; rfl, .t _ _ (.fp b o' cs g hF hcell hr)⟩ hK
      · cases hv
    · cases hev
  | fieldAddr s x i =>
    simp only [evOp] at hev
    split at hev
    · rename_i v' hv; cases hev
      exact upon_same hS rfl (fldAddr_ok hv (opv_rv he 0 x)) hK
    · cases hev
  | field s x i =>
    simp only [evOp] at hev
    split at hev
    · rename_i v' hv; cases hev
      exact upon_same hS rfl (fld_ok hv (opv_rv he s x)) hK
    · cases hev
  | indexAddr t x i =>
    simp only [evOp] at hev
    split at hev
    · rename_i v' hv; cases hev
      exact upon_same hS rfl (idxAddr_ok hS hv (opv_rv he t x) (opv_rv he 0 i)) hK
    · cases hev
  | index t x i =>
    simp only [evOp] at hev
    split at hev
    · rename_i l k n hx hi
      split at hev
      · rename_i hst
        have hty := isStr_eq hst
        split at hev
        · rename_i b hb
          cases hev
          obtain ⟨b0, b1, b2⟩ := getE_some hb
          have hxv := opv_rv (P := P) he t x
          have hiv := opv_rv (P := P) he 0 i
          rw [hx] at hxv
          rw [hi] at hiv
          obtain ⟨s, hgx, hs⟩ := rv_str hxv
          have hgi := rv_int hiv
          subst hs
          refine upon_same hS (s := Instr.index t (a.eval x) (a.eval i)) rfl ⟨.int .u8 b.toNat, ?_, .t _ _ (.int _ _)⟩ hK
          rw [hgx, hgi, run_index_string w t s k n hty]
          have hlt : n.toNat < s.size := by simp at b1; omega
          rw [dif_pos ⟨b0, by simpa using b1⟩]
          congr 3
          have : s.data.toList[n.toNat]? = some (s[n.toNat]'hlt) := by
            rw [List.getElem?_eq_getElem (by simpa using hlt)]; rfl
          rw [this] at b2
          cases b2; rfl
        · cases hev
      · cases hev
    · cases hev
  | extract x i =>
    simp only [evOp] at hev
    split at hev
    · rename_i vs hx
      split at hev
      · rename_i v' hi
        cases hev
        have hxv := opv_rv (P := P) he 0 x
        rw [hx] at hxv
        obtain ⟨us, hgx, hus⟩ := rv_tup hxv
        obtain ⟨u, e1, e2⟩ := forall₂_get hus i _ hi
        refine upon_same hS (s := Instr.extract (a.eval x) i) rfl ⟨u, ?_, e2⟩ hK
        have : us[i]? = some u := by simpa using e1
        rw [hgx]; simp [Instr.extract, this]
      · cases hev
    · cases hev
  | call c =>
    obtain ⟨callee, args, tys⟩ := c
    cases callee with
    | builtin b =>
      simp only [evOp] at hev
      have hargs := opvs_rv (P := P) he args.toList tys.toList
      unfold blt at hev
      split at hev
      · rename_i x hx
        rw [hx] at hargs
        split at hev
        · rename_i t htys
          split at hev
          · rename_i n hn
            cases hev
            cases hau : args.toList with
            | nil => rw [hau] at hargs; cases hargs
            | cons y ys =>
              rw [hau] at hargs
              simp only [List.map_cons] at hargs
              cases hargs with
              | cons h1 h2 =>
              cases ys with
              | cons => cases h2
              | nil =>
              have hA : args = #[y] := by apply Array.ext'; simpa using hau
              have hT : tys = #[t] := by apply Array.ext'; simpa using htys
              subst hA hT
              refine upon_now hS (u := goInt n) ?_ (.t _ _ (.int _ _)) hK
              simp [execOp, resolve, invoke, builtin, lenV_ok hn h1]
          · cases hev
        · cases hev
      · rename_i s x hx
        rw [hx] at hargs
        split at hev
        · rename_i t u htys
          cases hau : args.toList with
          | nil => rw [hau] at hargs; cases hargs
          | cons y ys =>
            rw [hau] at hargs
            simp only [List.map_cons] at hargs
            cases hargs with
            | cons h1 h2 =>
            cases ys with
            | nil => cases h2
            | cons y2 ys =>
            simp only [List.map_cons] at h2
            cases h2 with
            | cons h3 h4 =>
            cases ys with
            | cons => cases h4
            | nil =>
            have hA : args = #[y, y2] := by apply Array.ext'; simpa using hau
            have hT : tys = #[t, u] := by apply Array.ext'; simpa using htys
            subst hA hT
            refine upon_val (s := Builtin.append_ #[t, u] ty #[a.eval y, a.eval y2]) ?_ (app_ok hS hO hev h1 h3 ty) hK
            simp [execOp, resolve, invoke, builtin]
        · cases hev
      · rename_i k x k' y hx
        rw [hx] at hargs
        split at hev
        · rename_i hk
          subst hk
          cases hev
          cases hau : args.toList with
          | nil => rw [hau] at hargs; cases hargs
          | cons z zs =>
            rw [hau] at hargs
            simp only [List.map_cons] at hargs
            cases hargs with
            | cons h1 h2 =>
            cases zs with
            | nil => cases h2
            | cons z2 zs =>
            simp only [List.map_cons] at h2
            cases h2 with
            | cons h3 h4 =>
            cases zs with
            | cons => cases h4
            | nil =>
            have hA : args = #[z, z2] := by apply Array.ext'; simpa using hau
            subst hA
            have hg1 := rv_int h1
            have hg2 := rv_int h3
            refine upon_now hS (u := .int k (if y < x then y else x)) ?_ (.t _ _ (.int _ _)) hK
            simp [execOp, resolve, invoke, builtin, Builtin.min_, Builtin.min2, hg1, hg2]
        · cases hev
      · rename_i k x k' y hx
        rw [hx] at hargs
        split at hev
        · rename_i hk
          subst hk
          cases hev
          cases hau : args.toList with
          | nil => rw [hau] at hargs; cases hargs
          | cons z zs =>
            rw [hau] at hargs
            simp only [List.map_cons] at hargs
            cases hargs with
            | cons h1 h2 =>
            cases zs with
            | nil => cases h2
            | cons z2 zs =>
            simp only [List.map_cons] at h2
            cases h2 with
            | cons h3 h4 =>
            cases zs with
            | cons => cases h4
            | nil =>
            have hA : args = #[z, z2] := by apply Array.ext'; simpa using hau
            subst hA
            have hg1 := rv_int h1
            have hg2 := rv_int h3
            refine upon_now hS (u := .int k (if y > x then y else x)) ?_ (.t _ _ (.int _ _)) hK
            simp [execOp, resolve, invoke, builtin, Builtin.max_, Builtin.max2, hg1, hg2]
        · cases hev
      · cases hev
    | value x =>
      simp only [evOp] at hev
      split at hev
      · rename_i g caps hf
        obtain ⟨vs, hvs, hcaps⟩ := fnV_ok hf (opv_rv (P := P) he 0 x)
        have hargs := opvs_rv (P := P) he args.toList tys.toList
        obtain ⟨⟨fn, f1, f2, f3⟩, hcall⟩ := callOp_ok hS hO.blk hB hrec hz hev (us := args.map a.eval ++ vs) (by rw [Array.toList_append, Array.toList_map]; exact forall₂_append hargs hcaps)
        unfold Oper.wp
        have hex : (execOp a.eval ⟨dst, .call ⟨.value x, args, tys⟩, ty, pos, after, guard⟩).run P w = .ok (.enter g (args.map a.eval ++ vs)) w := by
          simp only [execOp, resolve, hvs, Deferred.ofValue, Sem.run_bind, Sem.run_pure, Result.andThen_ok, invoke, Array.empty_append]
          exact enter_ok f1 f2 f3
        rw [hex, Oper.upon_enter]
        refine hcall.mono ?_
        rintro e' w' ⟨u, F', ρ', rfl, k1, k2, k3⟩
        exact hK w' F' ρ' u k1 k2 k3
      · cases hev
    | invoke r m => simp [evOp] at hev
  | _ => simp [evOp] at hev
end Go.Proofs.YtdhejeigbjmncaaDoor.E
