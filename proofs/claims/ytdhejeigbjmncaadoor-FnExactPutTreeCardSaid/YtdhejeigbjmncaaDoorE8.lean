/- The evaluator's operations are those of the machine: addresses, cuts, parts. Conditions: those of each lemma. -/
import Derived.Test.YtdhejeigbjmncaaDoorE7
namespace Go.Proofs.YtdhejeigbjmncaaDoor.E
set_option linter.unusedVariables false
set_option linter.unusedSimpArgs false

variable {P : Program} {w : World} {F : Nat → Prop} {ρ : Locs} {Ow : Own} {h : Heap}

theorem elOf_eq {ty el : TypeId} (he : elOf P ty = some el) : P.underlying ty = some (.slice el) ∧ ∃ i, P.info? el = some i := by
  unfold elOf at he
  split at he
  · split at he
    · rename_i hi; cases he; exact ⟨by assumption, Option.isSome_iff_exists.1 hi⟩
    · cases he
  · cases he
theorem isStr_eq {ty : TypeId} (he : isStr P ty = true) : P.underlying ty = some .string := by
  unfold isStr at he
  split at he
  · assumption
  · cases he
theorem isInt_eq {ty : TypeId} {k : IntKind} (he : isInt P ty = some k) : P.underlying ty = some (.int k) := by
  unfold isInt at he
  split at he
  · cases he; assumption
  · cases he
theorem run_sizeOf' {t : TypeId} (hs : szOf P t ≠ 0) : (sizeOf t).run P w = .ok (szOf P t) w := by
  cases hi : P.info? t with
  | none => simp [szOf, Program.cellsOf, hi] at hs
  | some i => exact run_sizeOf hi

/-- the middle of an immutable list -/
theorem rt_mid {a : Option Addr} {n c sz : Nat} {es : List (List T)} (hx : RT w F (.slice a n c) (.list sz es)) {l hh : Nat} (hl : l ≤ hh) (hn : hh ≤ n) (size : Nat) (hsz : sz = size ∨ es = []) :
    RT w F (.slice (if c = l then a else a.map (·.add (l * size))) (hh - l) (c - l)) (.list sz ((es.drop l).take (hh - l))) := by
  cases hx with
  | list a n c sz es g hn' hc h0 hz hr =>
    subst hn'
    refine .list _ _ _ sz _ (fun i j => g (l + i) j) (by simp; omega) (by omega) (fun hp => ?_) (fun e he => hz e (List.mem_of_mem_drop (List.mem_of_mem_take he))) fun i j cs x hi hj => ?_
    · have hsz' : sz = size := by
        rcases hsz with h1 | h1
        · exact h1
        · subst h1; simp at hn; omega
      subst hsz'
      obtain ⟨b, o, rfl, hb, hcell⟩ := h0 (by omega)
      refine ⟨b, o + l * sz, ?_, hb, fun i j hi hj => ?_⟩
      · rw [if_neg (by omega)]; simp [Addr.add_mid]
      · have := hcell (l + i) j (by omega) hj
        rw [Nat.add_mul] at this
        rw [← this]
        congr 2
        omega
    · rw [List.getElem?_take] at hi
      split at hi
      · rw [List.getElem?_drop] at hi
        exact hr _ _ _ _ hi hj
      · cases hi
theorem extract_data (s : ByteArray) (a b : Nat) : (s.extract a b).data.toList = (s.data.toList.drop a).take (b - a) := by
  simp [ByteArray.data_extract, Array.toList_extract, List.extract_eq_take_drop]

theorem cut_ok (hS : St w F ρ Ow h) {ty : TypeId} {x v : V} {lo hi mx : Option V} (hc : cut P ty x lo hi mx h = some v) {u : Value} (hu : RV w F ρ u x) {ulo uhi umx : Option Value}
    (hlo : optV w F ρ ulo lo) (hhi : optV w F ρ uhi hi) (hmx : optV w F ρ umx mx) : ∃ u', (Instr.sliceAt ty u ulo uhi umx).run P w = .ok u' w ∧ RV w F ρ u' v := by
  unfold cut at hc
  split at hc
  · rename_i l
    split at hc
    · rename_i ht
      simp only [Bool.and_eq_true, Option.isNone_iff_eq_none] at ht
      obtain ⟨ht, rfl⟩ := ht
      have hty := isStr_eq ht
      have : umx = none := by cases umx with
        | none => rfl
        | some x => exact hmx.elim
      subst this
      split at hc
      · rename_i a b hcut
        cases hc
        cases hu with
        | t _ _ hx =>
        cases hx with
        | str s _ hs =>
        subst hs
        obtain ⟨e1, e2, e3⟩ := cutB_ok (P := P) (cap := s.size) (by simp) hcut hlo hhi false
        simp only [Array.length_toList] at e1
        refine ⟨.string (s.extract a b), ?_, .t _ _ (.str _ _ (extract_data s a b))⟩
        have e1' : (Instr.sliceBounds false s.size s.size ulo uhi none).run P w = .ok (a, b, s.size) w := e1
        simp [Instr.sliceAt, run_underlying' hty, Instr.slice, e1']
      · cases hc
    · cases hc
  · rename_i sz es
    split at hc
    · rename_i el hel
      obtain ⟨hty, inf, hinfo⟩ := elOf_eq hel
      split at hc
      · rename_i ht
        simp only [Bool.and_eq_true, Option.isNone_iff_eq_none, Bool.or_eq_true, beq_iff_eq, List.isEmpty_iff] at ht
        obtain ⟨ht, rfl⟩ := ht
        have : umx = none := by cases umx with
          | none => rfl
          | some x => exact hmx.elim
        subst this
        split at hc
        · rename_i a b hcut
          cases hc
          cases hu with
          | t _ _ hx =>
          have hx' := hx
          cases hx with
          | list ad n c sz es g hn' hcc h0 hz hr =>
          subst hn'
          obtain ⟨e1, e2, e3⟩ := cutB_ok (P := P) (cap := c) hcc hcut hlo hhi true
          refine ⟨_, ?_, .t _ _ (rt_mid hx' e2 e3 (szOf P el) ht)⟩
          simp [Instr.sliceAt, run_underlying' hty, Instr.slice, e1, run_sizeOf hinfo]
        · cases hc
      · cases hc
    · cases hc
  · rename_i r off len cap
    split at hc
    · rename_i el hel
      obtain ⟨hty, inf, hinfo⟩ := elOf_eq hel
      split at hc
      · rename_i ht
        simp only [beq_iff_eq] at ht
        cases hb : h[r]? with
        | none => simp [hb] at ht
        | some blk =>
        simp only [hb, Option.bind_some] at ht
        have hsz : ∀ L, ρ r = some (some L) → L.sz = szOf P el := fun L hL => by
          have := hS.blk r blk hb
          cases blk with
          | dead => simp [blkSz] at ht
          | ts | vs | fz =>
            simp only [blkSz, Option.some.injEq] at ht
            rcases this with ⟨L', h1, h2, _⟩ | ⟨h1, _⟩
            · rw [hL] at h1; cases h1; exact h2.trans ht
            · rw [hL] at h1; cases h1
        -- the cut, once its bounds are known
        have main : ∀ (a b m : Nat) (cap' : Option Nat), a ≤ b → b ≤ len → b ≤ m → (∀ c, u = .slice (some ⟨0, 0, none⟩) len c ∨ True → True) → ∀ (ad : Option Addr) (c : Nat), u = .slice ad len c → (mx = none → m = c ∧ cap' = cap.map (· - a)) → (mx ≠ none → m ≤ len ∧ cap' = some (m - a)) → len ≤ c →
            RV w F ρ (.slice (if m = a then ad else ad.map (·.add (a * szOf P el))) (b - a) (m - a)) (.sl r (off + a) (b - a) cap') := by
          intro a b m cap' hab hbl hbm _ ad c hu' hm1 hm2 hlc
          subst hu'
          cases hu with
          | slP r cap a' hρ hcp =>
            have ha0 : a = 0 := by omega
            have hb0 : b = 0 := by omega
            subst ha0 hb0
            by_cases hmx0 : mx = none
            · obtain ⟨rfl, rfl⟩ := hm1 hmx0
              refine .slP r _ _ hρ ?_
              rcases hcp with rfl | rfl <;> simp
            · obtain ⟨h1, rfl⟩ := hm2 hmx0
              have : m = 0 := by omega
              subst this
              exact .slP r _ _ hρ (.inr rfl)
          | sl r off len cap L a' c hρ ha hl hn hc0 hc1 hz =>
            have hLs := hsz L hρ
            have hmc : m ≤ c := by
              by_cases hmx0 : mx = none
              · exact Nat.le_of_eq (hm1 hmx0).1
              · exact Nat.le_trans (hm2 hmx0).1 hl
            refine .sl r (off + a) (b - a) cap' L _ (m - a) hρ ?_ (by omega) (by omega) (fun hcap => ?_) (fun k hk => ?_) (fun hne => ?_)
            · by_cases hma : m = a
              · exact .inr (by omega)
              · left
                rw [if_neg hma]
                have hcne : c ≠ 0 := by omega
                obtain rfl := ha.resolve_right hcne
                simp only [Option.map_some, Addr.add_mid, ← hLs]
                congr 2
                rw [Nat.add_mul]; omega
            · by_cases hmx0 : mx = none
              · obtain ⟨rfl, rfl⟩ := hm1 hmx0
                cases cap with
                | none => have := hc0 rfl; omega
                | some k => simp at hcap
              · rw [(hm2 hmx0).2] at hcap; cases hcap
            · by_cases hmx0 : mx = none
              · obtain ⟨rfl, rfl⟩ := hm1 hmx0
                cases cap with
                | none => simp at hk
                | some k' =>
                  simp at hk
                  have := hc1 k' rfl
                  omega
              · rw [(hm2 hmx0).2] at hk; cases hk; rfl
            · have hcne : c ≠ 0 := by omega
              have := hz hcne
              have : (off + a + (m - a)) * L.sz ≤ (off + c) * L.sz := Nat.mul_le_mul_right _ (by omega)
              omega
        have hform : ∃ ad c, u = .slice ad len c ∧ len ≤ c := by
          cases hu with
          | sl r off len cap L a' c hρ ha hl => exact ⟨_, _, rfl, hl⟩
          | slP => exact ⟨_, _, rfl, Nat.le_refl _⟩
        obtain ⟨ad, c, hu', hlc⟩ := hform
        split at hc
        · have : umx = none := by cases umx with
            | none => rfl
            | some x => exact hmx.elim
          subst this
          split at hc
          · rename_i a b hcut
            cases hc
            obtain ⟨e1, e2, e3⟩ := cutB_ok (P := P) (cap := c) hlc hcut hlo hhi true
            refine ⟨_, ?_, main a b c _ e2 e3 (by omega) (fun _ _ => trivial) ad c hu' (fun _ => ⟨rfl, rfl⟩) (fun hne => absurd rfl hne) hlc⟩
            subst hu'
            simp [Instr.sliceAt, run_underlying' hty, Instr.slice, e1, run_sizeOf hinfo]
          · cases hc
        · rename_i k m
          split at hc
          · rename_i hm
            split at hc
            · cases hc
            · rename_i hiv
              split at hc
              · rename_i a b hcut
                cases hc
                obtain ⟨um, rfl⟩ : ∃ um, umx = some um := by
                  cases umx with
                  | none => exact hmx.elim
                  | some x => exact ⟨x, rfl⟩
                obtain ⟨uh, rfl⟩ : ∃ um, uhi = some um := by
                  cases uhi with
                  | none => exact hhi.elim
                  | some x => exact ⟨x, rfl⟩
                cases hmx with
                | t _ _ hx =>
                cases hx
                have hb3 : (Instr.sliceBounds true len c ulo (some uh) (some (.int k m))).run P w = .ok (a, b, m.toNat) w ∧ a ≤ b ∧ b ≤ m.toNat := by
                  unfold cutB at hcut
                  split at hcut
                  · rename_i hh he
                    split at hcut
                    · rename_i ll hl
                      cases hcut
                      rcases bndV_ok (P := P) (y := m.toNat) he hhi (Nat.le_refl _) .slice3B with ⟨h1, _⟩ | ⟨x, h1, h2, h3⟩
                      · cases h1
                      · cases h1
                        have e2 : (match ulo with
                            | some v => Instr.sliceBound v b .slice3C
                            | none => pure 0).run P w = .ok a w ∧ a ≤ b := by
                          rcases bndV_ok (P := P) (y := b) hl hlo (Nat.le_refl _) .slice3C with ⟨rfl, rfl⟩ | ⟨x, rfl, h1, h2⟩
                          · exact ⟨rfl, Nat.zero_le _⟩
                          · exact ⟨h1, h2⟩
                        refine ⟨?_, e2.2, h3⟩
                        have e0 := sliceBound_ok (P := P) (w := w) (k := k) (n := m) (y := c) (code := .slice3Acap) hm.1 (by omega)
                        unfold Instr.sliceBounds
                        cases ulo <;> simp_all
                    · cases hcut
                  · cases hcut
                refine ⟨_, ?_, main a b m.toNat _ hb3.2.1 (by omega) hb3.2.2 (fun _ _ => trivial) ad c hu' (fun hne => by cases hne) (fun _ => ⟨by omega, rfl⟩) hlc⟩
                subst hu'
                simp [Instr.sliceAt, run_underlying' hty, Instr.slice, hb3.1, run_sizeOf hinfo]
              · cases hc
          · cases hc
        · cases hc
      · cases hc
    · cases hc
  · cases hc

theorem getE_some {α : Type} {es : List α} {n : Int} {x : α} (hg : getE es n = some x) : 0 ≤ n ∧ n < es.length ∧ es[n.toNat]? = some x := by
  unfold getE at hg
  split at hg
  · rename_i h0
    have := (List.getElem?_eq_some_iff.1 hg).1
    exact ⟨h0, by omega, hg⟩
  · cases hg
theorem idxAddr_ok (hS : St w F ρ Ow h) {ty : TypeId} {x i v : V} (hc : idxAddr P ty x i h = some v) {u ui : Value} (hu : RV w F ρ u x) (hi : RV w F ρ ui i) :
    ∃ u', (Instr.indexAt ty u ui).run P w = .ok u' w ∧ RV w F ρ u' v := by
  unfold idxAddr at hc
  split at hc
  · rename_i k n
    cases hi with
    | t _ _ hx =>
    cases hx
    split at hc
    · rename_i el hel
      obtain ⟨hty, inf, hinfo⟩ := elOf_eq hel
      split at hc
      · rename_i sz es
        split at hc
        · rename_i hsz
          simp only [beq_iff_eq] at hsz
          subst hsz
          split at hc
          · rename_i cs hg
            cases hc
            obtain ⟨h1, h2, h3⟩ := getE_some hg
            cases hu with
            | t _ _ hx =>
            cases hx with
            | list a m c sz es g hn hcc h0 hz hr =>
            subst hn
            obtain ⟨b, o, rfl, hb, hcell⟩ := h0 (by omega)
            refine ⟨.pointer (some ⟨b, o + n.toNat * szOf P el, none⟩), ?_, .t _ _ (.fp b _ cs (fun j => g n.toNat j) hb (fun j hj => ?_) fun j x hj => hr _ _ _ _ h3 hj)⟩
            · simp [Instr.indexAt, asIntOf, run_underlying' hty, h1, h2, run_sizeOf hinfo, Addr.add_mid]
            · have := hcell n.toNat j (by omega) (by rw [← hz cs (List.mem_of_getElem? h3)]; exact hj)
              rw [← this]; congr 2; omega
          · cases hc
        · cases hc
      · rename_i r off len cap
        split at hc
        · rename_i ht
          cases hc
          simp only [Bool.and_eq_true, beq_iff_eq, decide_eq_true_eq] at ht
          obtain ⟨⟨ht, h1⟩, h2⟩ := ht
          cases hb : h[r]? with
          | none => simp [hb] at ht
          | some blk =>
          simp only [hb, Option.bind_some] at ht
          cases hu with
          | slP => simp at h2; omega
          | sl r off len cap L a c hρ ha hl hn hc0 hc1 hz =>
            have hLs : L.sz = szOf P el := by
              have := hS.blk r blk hb
              cases blk with
              | dead => simp [blkSz] at ht
              | ts | vs | fz =>
                simp only [blkSz, Option.some.injEq] at ht
                rcases this with ⟨L', h1, h2, _⟩ | ⟨h1, _⟩
                · rw [hρ] at h1; cases h1; exact h2.trans ht
                · rw [hρ] at h1; cases h1
            obtain rfl := ha.resolve_right (by omega)
            refine ⟨.pointer (some ⟨L.b, L.o + ((off + n.toNat) * L.sz + 0), none⟩), ?_, .ptr r _ 0 L hρ⟩
            simp [Instr.indexAt, asIntOf, run_underlying' hty, h1, h2, run_sizeOf hinfo, Addr.add_mid, ← hLs]
            rw [Nat.add_mul]; omega
        · cases hc
      · cases hc
    · cases hc
  · cases hc
theorem fOf_eq {s : TypeId} {i o n : Nat} {a : Bool} (hf : fOf P s i = some (o, n, a)) : ∃ fs f inf d, P.underlying s = some (.struct fs) ∧ fs[i]? = some f ∧ f.offset = o ∧ P.info? f.type = some inf ∧ inf.size = n ∧ n ≠ 0 ∧ P.underlying f.type = some d ∧ a = aggOf P f.type ∧ szOf P f.type = n := by
  unfold fOf at hf
  split at hf
  · rename_i fs hfs
    split at hf
    · rename_i f hfi
      split at hf
      · rename_i inf hinf
        split at hf
        · rename_i d hd
          split at hf
          · cases hf
          · rename_i hn
            cases hf
            exact ⟨fs, f, inf, d, hfs, hfi, rfl, hinf, rfl, hn, hd, rfl, by simp [szOf, Program.cellsOf, hinf]⟩
        · cases hf
      · cases hf
    · cases hf
  · cases hf
theorem fldAddr_ok {s : TypeId} {x v : V} {i : Nat} (hc : fldAddr P s x i = some v) {u : Value} (hu : RV w F ρ u x) : ∃ u', (Instr.fieldAt s u i).run P w = .ok u' w ∧ RV w F ρ u' v := by
  unfold fldAddr at hc
  split at hc
  · rename_i o n a hf
    obtain ⟨fs, f, inf, d, h1, h2, rfl, h4, h5, h6, h7, h8, h9⟩ := fOf_eq hf
    have hplace : ∀ b o', (fieldPlace ⟨b, o', none⟩ f).run P w = .ok ⟨b, o' + f.offset, none⟩ w := fun b o' => by
      simp [fieldPlace, run_sizeOf h4, h9, h6, Addr.add_mid]
    split at hc
    · rename_i r a' j
      cases hc
      cases hu with
      | ptr r a' j L hρ =>
      refine ⟨_, ?_, .ptr r a' (j + f.offset) L hρ⟩
      simp [Instr.fieldAt, run_underlying' h1, h2, Instr.sureAddr, hplace]
      omega
    · rename_i cs
      split at hc
      · rename_i ho
        cases hc
        cases hu with
        | t _ _ hx =>
        cases hx with
        | fp b o' cs g hF hcell hr =>
        refine ⟨.pointer (some ⟨b, o' + f.offset, none⟩), ?_, .t _ _ (.fp b _ _ (fun j => g (f.offset + j)) hF (fun j hj => ?_) fun j x hj => ?_)⟩
        · simp [Instr.fieldAt, run_underlying' h1, h2, Instr.sureAddr, hplace]
        · rw [← hcell (f.offset + j) (by simp at hj; omega)]; congr 2; omega
        · rw [List.getElem?_drop] at hj; exact hr _ _ hj
      · cases hc
    · cases hc
  · cases hc
theorem run_part {t : TypeId} {d : TypeDesc} {i : TypeInfo} (hd : P.underlying t = some d) (hi : P.info? t = some i) {us : List Value} {cs : List V} {o : Nat} {v : V} (hr : RVs w F ρ us cs) (hl : o + szOf P t ≤ cs.length)
    (hp : packV (aggOf P t) ((cs.drop o).take (szOf P t)) = some v) (arr : Array Value) (ha : arr.toList = us) : ∃ u, (part t arr o).run P w = .ok u w ∧ RV w F ρ u v := by
  obtain ⟨h1, h2⟩ := packV_rv hp (rvs_take (rvs_drop hr o) (szOf P t))
  have hul := forall₂_len hr
  cases hag : aggOf P t with
  | true =>
    refine ⟨_, ?_, h1 hag⟩
    simp only [part, Sem.run_bind, run_isAgg hd, Result.andThen_ok, hag, if_true, run_sizeOf hi, Sem.run_pure]
    congr 2
    apply Array.ext'
    simp [Array.toList_extract, List.extract_eq_take_drop, ha, Nat.add_sub_cancel_left]
  | false =>
    obtain ⟨u, he, hv⟩ := h2 hag
    refine ⟨u, ?_, hv⟩
    have : us[o]? = some u := by
      have := congrArg (·[0]?) he
      simp only [List.getElem?_take, List.getElem?_drop] at this
      split at this
      · simpa using this
      · simp at this
    have hau : arr[o]? = some u := by rw [← Array.getElem?_toList, ha]; exact this
    simp [part, Sem.run_bind, run_isAgg hd, hag, hau]
theorem fld_ok {s : TypeId} {x v : V} {i : Nat} (hc : fld P s x i = some v) {u : Value} (hu : RV w F ρ u x) : ∃ u', (Instr.field s u i).run P w = .ok u' w ∧ RV w F ρ u' v := by
  unfold fld at hc
  split at hc
  · rename_i o n a hf
    obtain ⟨fs, f, inf, d, h1, h2, rfl, h4, h5, h6, h7, h8, h9⟩ := fOf_eq hf
    split at hc
    · rename_i cs
      split at hc
      · rename_i hl
        cases hu with
        | agg vs cs g hs hg hr =>
        subst h8
        rw [← h9] at hc hl
        obtain ⟨u, e1, e2⟩ := run_part (P := P) (w := w) h7 h4 (rvs_of hs hg hr) hl hc vs rfl
        exact ⟨u, by simp [Instr.field, run_underlying' h1, h2, asAgg, e1], e2⟩
      · cases hc
    · cases hc
  · cases hc
theorem known_eq {t : TypeId} (hk : known P t = true) : ∃ d, P.underlying t = some d := Option.isSome_iff_exists.1 hk
theorem load_ok (hS : St w F ρ Ow h) {ty : TypeId} {x v : V} (hc : load P ty x h = some v) {u : Value} (hu : RV w F ρ u x) : ∃ u', (Instr.loadAt ty u).run P w = .ok u' w ∧ RV w F ρ u' v := by
  unfold load at hc
  split at hc
  · rename_i r i j
    split at hc
    · rename_i hk
      obtain ⟨d, hd⟩ := known_eq hk
      split at hc
      · rename_i cs hl
        obtain ⟨b, o, us, rfl, e1, e2, e3⟩ := ldCells_ok hS hl hu
        obtain ⟨u', h1, h2⟩ := run_load_cells hd e1 e2 e3 hc
        exact ⟨u', by simp [Instr.loadAt, Instr.sureAddr, h1], h2⟩
      · cases hc
    · cases hc
  · rename_i cs
    split at hc
    · rename_i hk
      obtain ⟨d, hd⟩ := known_eq hk.1
      cases hu with
      | t _ _ hx =>
      cases hx with
      | fp b o cs g hF hcell hr =>
      obtain ⟨u', h1, h2⟩ := run_load_cells (P := P) (w := w) (F := F) (ρ := ρ) hd (b := b) (o := o) (us := (List.range (szOf P ty)).map g) (cs := (cs.take (szOf P ty)).map .t) (v := v) (by simp) (fun j v' hv => by
          have hj : j < szOf P ty := by have := (List.getElem?_eq_some_iff.1 hv).1; simpa using this
          simp [hj] at hv; subst hv; exact hcell j (by omega)) (rts_rvs (forall₂_of (by simp; omega) fun j u x hu hx => by
          have hj : j < szOf P ty := by have := (List.getElem?_eq_some_iff.1 hu).1; simpa using this
          simp [hj] at hu; subst hu
          rw [List.getElem?_take] at hx; simp [hj] at hx
          exact hr j x hx)) hc
      exact ⟨u', by simp [Instr.loadAt, Instr.sureAddr, h1], h2⟩
    · cases hc
  · cases hc
theorem store_ok (hS : St w F ρ Ow h) {ty : TypeId} {x v : V} {h' : Heap} (hc : store P ty x v h = some h') {u uv : Value} (hu : RV w F ρ u x) (hv : RV w F ρ uv v) :
    ∃ w' F', (Instr.storeAt ty u uv).run P w = .ok () w' ∧ St w' F' ρ Ow h' ∧ Nxt Ow w F ρ w' F' ρ := by
  unfold store at hc
  split at hc
  · rename_i r i j
    split at hc
    · rename_i hk
      obtain ⟨hk1, hk2, hk3⟩ := hk
      obtain ⟨d, hd⟩ := known_eq hk1
      obtain ⟨inf, hinf⟩ := info_of_underlying hd
      have hcells := rv_cells hv hk3
      obtain ⟨b, o, F', rfl, h1, h2, h3⟩ := stCells_ok hS hc hu hcells
      have hl := forall₂_len hcells
      have hone := rvs_one hcells hk3
      have hst := run_storeCells_cells (P := P) b o uv.cells.toList 0 w (fun j hj => by simpa using (h1 j hj).1) (fun j hj => by simpa using (h1 j hj).2) (fun v hv => by
        have := List.all_eq_true.1 hone v hv; exact this)
      simp only [Nat.add_zero] at hst
      refine ⟨_, F', ?_, h2, h3⟩
      have hsz : uv.cells.size = szOf P ty := by rw [← hk2]; simpa using hl
      simp [Instr.storeAt, Instr.sureAddr, storeVar, run_sizeOf hinf, hsz, hst]
    · cases hc
  · cases hc
end Go.Proofs.YtdhejeigbjmncaaDoor.E
