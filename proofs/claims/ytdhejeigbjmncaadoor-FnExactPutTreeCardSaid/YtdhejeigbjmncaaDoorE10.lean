/- The evaluator's operations are those of the machine: conversions, make, append, builtins. Conditions: those of each lemma. -/
import Derived.Test.YtdhejeigbjmncaaDoorE9
import Derived.Laws.BytesArg
import Derived.Laws.MakeOwn
namespace Go.Proofs.YtdhejeigbjmncaaDoor.E
set_option linter.unusedVariables false
set_option linter.unusedSimpArgs false

variable {P : Program} {w : World} {F : Nat → Prop} {ρ : Locs} {Ow : Own} {h : Heap}

theorem bytesOf_ok : ∀ {es : List (List T)} {l : List Int}, bytesOf es = some l → es = l.map fun n => [T.int .u8 n]
  | [], l, hb => by simp only [bytesOf] at hb; cases hb; rfl
  | c :: r, l, hb => by
    simp only [bytesOf] at hb
    split at hb
    · split at hb
      · rename_i l' hl; cases hb; rw [bytesOf_ok hl]; rfl
      · cases hb
    · cases hb
theorem bytesElem_eq {src : TypeId} (hb : bytesElem P src = true) : ∃ el, P.underlying src = some (.slice el) ∧ P.underlying el = some (.int .u8) ∧ szOf P el = 1 ∧ elOf P src = some el := by
  unfold bytesElem at hb
  split at hb
  · rename_i el hel
    simp only [Bool.and_eq_true, beq_iff_eq] at hb
    exact ⟨el, (elOf_eq hel).1, isInt_eq hb.1, hb.2, hel⟩
  · cases hb
theorem conv_bytes {src dst : TypeId} (hb : bytesElem P src = true) (hd : P.underlying dst = some .string) {a : Option Addr} {n c : Nat} {l : List Int} (hl : l.length = n)
    (hc : 0 < n → ∃ b o, a = some ⟨b, o, none⟩ ∧ ∀ i, i < n → w.cell? ⟨b, o + i, none⟩ = some (.int .u8 (l.getD i 0))) :
    ∃ u, (convert src dst (.slice a n c)).run P w = .ok u w ∧ RV w F ρ u (.t (.str (l.map fun n => UInt8.ofNat n.toNat))) := by
  obtain ⟨el, h1, h2, h3, h4⟩ := bytesElem_eq hb
  by_cases hn : n = 0
  · subst hn
    have hl0 : l = [] := List.eq_nil_of_length_eq_zero hl
    subst hl0
    cases a with
    | none => exact ⟨_, run_convert_bytes_nil w src el h1 h2 0 c dst hd, .t _ _ (.str _ _ rfl)⟩
    | some ad =>
      refine ⟨.string ByteArray.empty, ?_, .t _ _ (.str _ _ rfl)⟩
      rw [run_convert_bytes_string w src dst el _ 0 c h1 h2 hd]
      simp [Conv.bytesToString, loadCells, loadCellsFrom]
  · obtain ⟨b, o, rfl, hcell⟩ := hc (by omega)
    exact ⟨_, run_convert_bytes_arg w src el h1 h2 b o n c l hl hcell dst hd, .t _ _ (.str _ _ (strOfNums_data l))⟩
theorem conv_ok (hS : St w F ρ Ow h) {src dst : TypeId} {x v : V} (hc : conv P src dst x h = some v) {u : Value} (hu : RV w F ρ u x) : ∃ u', (convert src dst u).run P w = .ok u' w ∧ RV w F ρ u' v := by
  unfold conv at hc
  split at hc
  · rename_i k hk
    have hd := isInt_eq hk
    split at hc
    · rename_i k' n
      split at hc
      · rename_i hkn
        obtain ⟨d, hs⟩ := known_eq hkn
        cases hc
        cases hu with
        | t _ _ hx =>
        cases hx
        refine ⟨.int k (k.wrap n), ?_, .t _ _ (.int _ _)⟩
        simp [convert, run_underlying' hs, run_underlying' hd, Conv.intToInt]
      · cases hc
    · cases hc
  · split at hc
    · rename_i hdst
      have hd := isStr_eq hdst
      split at hc
      · rename_i l
        split at hc
        · rename_i hkn
          obtain ⟨d, hs⟩ := known_eq hkn
          cases hc
          cases hu with
          | t _ _ hx =>
          cases hx with
          | str s _ hs' =>
          refine ⟨.string s, ?_, .t _ _ (.str _ _ hs')⟩
          simp [convert, run_underlying' hs, run_underlying' hd]
        · cases hc
      · rename_i r off len cap
        split at hc
        · rename_i hb
          have main : ∀ es : List (List T), ((∃ L, ρ r = some (some L) ∧ L.sz = 1 ∧ RowOK w L es (RT w F)) ∨ (ρ r = some none ∧ es = [])) → ∀ l, bytesOf ((es.drop off).take len) = some l →
              ∃ u', (convert src dst u).run P w = .ok u' w ∧ RV w F ρ u' (.t (.str (l.map fun n => UInt8.ofNat n.toNat))) := by
            intro es hrow l hl
            have hes := bytesOf_ok hl
            cases hu with
            | slP r cap a hρ hcp =>
              have hl0 : l = [] := by
                have := congrArg List.length hes
                simp at this; exact List.eq_nil_of_length_eq_zero (by simpa using this.symm)
              subst hl0
              exact conv_bytes hb hd rfl (fun hp => by omega)
            | sl r off len cap L a c hρ ha hlc hn hc0 hc1 hz =>
              rcases hrow with ⟨L', h1, h2, h3⟩ | ⟨h1, _⟩
              · rw [hρ] at h1; cases h1
                obtain ⟨hn', hl', cc, el', fr, hh, hs, hf, hzz, hcc⟩ := h3
                have hll : l.length = len := by
                  have := congrArg List.length hes
                  simp at this; omega
                refine conv_bytes hb hd hll fun hp => ?_
                have hce : c ≠ 0 := by omega
                obtain rfl := ha.resolve_right hce
                refine ⟨L.b, L.o + off * L.sz, rfl, fun i hi => ?_⟩
                have hget : ((es.drop off).take len)[i]? = some [T.int .u8 (l.getD i 0)] := by
                  rw [hes]; simp [List.getElem?_map, List.getElem?_eq_getElem (show i < l.length by omega), List.getD]
                rw [List.getElem?_take, if_pos hi, List.getElem?_drop] at hget
                obtain ⟨u, hu', hru⟩ := hcc _ 0 _ _ hget rfl
                cases hru
                unfold World.cell?
                rw [hh]
                simp only [Option.isSome_none]
                rw [h2] at hu' ⊢
                rw [show L.o + off * 1 + i = L.o + ((off + i) * 1 + 0) by omega]
                simpa using hu'
              · rw [hρ] at h1; cases h1
          split at hc
          · rename_i es hblk
            split at hc
            · rename_i l hl; cases hc
              exact main es ((hS.blk r _ hblk).imp (fun ⟨L, a, b, c, _⟩ => ⟨L, a, b, c⟩) id) l hl
            · cases hc
          · rename_i es hblk
            split at hc
            · rename_i l hl; cases hc
              exact main es ((hS.blk r _ hblk).imp (fun ⟨L, a, b, c, _⟩ => ⟨L, a, b, c⟩) id) l hl
            · cases hc
          · cases hc
        · cases hc
      · split at hc
        · rename_i hb
          cases hc
          cases hu
          exact conv_bytes (l := []) hb hd rfl (fun hp => by omega)
        · cases hc
      · rename_i es
        split at hc
        · rename_i hb
          split at hc
          · rename_i l hl
            cases hc
            have hes := bytesOf_ok hl
            subst hes
            cases hu with
            | t _ _ hx =>
            cases hx with
            | list a n c sz es g hn hcc h0 hz hr =>
            refine conv_bytes hb hd (by simpa using hn) fun hp => ?_
            obtain ⟨b, o, rfl, _, hcell⟩ := h0 hp
            refine ⟨b, o, rfl, fun i hi => ?_⟩
            have := hcell i 0 hi (by omega)
            have hri := hr i 0 [T.int .u8 (l.getD i 0)] (T.int .u8 (l.getD i 0)) (by simp at hn; simp [List.getElem?_map, List.getElem?_eq_getElem (show i < l.length by omega), List.getD]) rfl
            rw [show i * 1 + 0 = i by omega] at this
            rw [this]
            generalize hg : g i 0 = gv at hri
            cases hri; rfl
          · cases hc
        · cases hc
      · cases hc
    · cases hc

theorem allZ_rts : ∀ {us : List Value} {vs : List V} {xs : List T}, RVs w F ρ us vs → allZ vs = some xs → RTs w F us xs
  | _, [], xs, hu, hx => by cases hu; simp [allZ] at hx; subst hx; exact .nil
  | _, v :: vs, xs, hu, hx => by
    cases hu with
    | cons h1 hs =>
      unfold allZ at hx
      split at hx
      · split at hx
        · rename_i x _ xs' hxs
          cases hx
          cases h1 with
          | t u x hx => exact .cons hx (allZ_rts hs hxs)
        · cases hx
      · split at hx
        · rename_i sz _ xs' hxs
          cases hx
          cases h1 with
          | nil => exact .cons (rt_nil _ _ _) (allZ_rts hs hxs)
        · cases hx
      · cases hx
theorem make_ok (hS : St w F ρ Ow h) (hO : OkO Ow w ρ h) {t el : TypeId} (hel : elOf P t = some el) {zs : List V} (hz : zeroOf P el = some zs) {z : List T} (ha : allZ zs = some z) {n : Nat} {k k' : IntKind} (hs0 : szOf P el ≠ 0)
    (hb : n * P.bytesOf el ≤ maxBytes) (hm : n ≤ maxBytes) :
    Runs P w F ρ Ow (Instr.makeSlice t (.int k n) (.int k' n)) (.sl (nI Ow.N h) 0 n (some n)) (nH Ow.N h (.ts (szOf P el) (List.replicate n z))) := by
  obtain ⟨hty, _, _⟩ := elOf_eq hel
  obtain ⟨inf, zv, i1, i2, i3, i4, i5⟩ := zero_ok (w := w) (F := F) (ρ := ρ) hz
  have hszi : inf.size = szOf P el := by simp [szOf, Program.cellsOf, i1]
  have hby : P.bytesOf el = inf.bytes := by simp [Program.bytesOf, i1]
  unfold maxBytes at hb hm
  have hrun := run_make (P := P) w t el inf zv hty i1 i2 k k' n n (by omega) (Int.le_refl _) (by rw [hby] at hb; have : (inf.bytes : Int) * (n : Int) = ((n * inf.bytes : Nat) : Int) := by rw [Nat.mul_comm]; simp
                                                                                                 omega) (by omega)
  have hzt := allZ_rts i4 ha
  have hzl : z.length = szOf P el := by rw [← forall₂_len hzt]; simp [i3, hszi]
  have hrep : ∀ e ∈ List.replicate n z, e.length = szOf P el := fun e he => by rw [List.eq_of_mem_replicate he]; exact hzl
  have hcells : RTs w F (madeCells zv.cells (n * inf.size)).toList (List.replicate n z).flatten := by
    refine forall₂_of (by simp [flat_len hrep, size_madeCells, hszi]) fun m u v hu hv => ?_
    have hml : m < n * inf.size := by
      have := (List.getElem?_eq_some_iff.1 hu).1; simpa [size_madeCells] using this
    have hpos : 0 < szOf P el := by omega
    rw [hszi] at hml
    have d1 : m / szOf P el < n := (Nat.div_lt_iff_lt_mul hpos).2 hml
    have d2 : m % szOf P el < szOf P el := Nat.mod_lt _ hpos
    have d3 := Nat.div_add_mod m (szOf P el)
    have hv' := flat_get hrep (i := m / szOf P el) (j := m % szOf P el) (cs := z) (x := z[m % szOf P el]'(by omega)) (by simp [d1]) (List.getElem?_eq_getElem (by omega))
    rw [show m / szOf P el * szOf P el + m % szOf P el = m by rw [Nat.mul_comm]; omega] at hv'
    rw [hv] at hv'; cases hv'
    obtain ⟨u', e1, e2⟩ := forall₂_get hzt (m % szOf P el) _ (List.getElem?_eq_getElem (by omega))
    have hzs : zv.cells.size = szOf P el := by rw [i3, hszi]
    have hu' : u = u' := by
      simp only [madeCells, Array.toList_map, List.getElem?_map, Array.toList_range] at hu
      rw [hszi] at hu
      simp [hml] at hu
      rw [← hu, hzs]
      have : zv.cells[m % szOf P el]? = some u' := by simpa using e1
      simp [getElem!_def, this]
    rw [hu']; exact e2
  obtain ⟨ρ', n1, n2, n3⟩ := new_ts (w := w) (arr := madeCells zv.cells (n * inf.size)) (el := el) (es := List.replicate n z) (sz := szOf P el) hS hO hrep (by simp [size_madeCells, hszi])
    (by rw [List.take_of_length_le (by simp [size_madeCells, hszi])]; exact hcells)
  refine ⟨_, F, ρ', .slice (some ⟨w.heap.size, 0, none⟩) n n, ?_, ?_, n1, n2⟩
  · simpa using hrun
  · refine .sl _ 0 _ _ _ _ _ n3 (.inl (by simp)) (Nat.le_refl _) (by simp) (fun hcap => by cases hcap) (fun k hk => by cases hk; rfl) (fun _ => ?_)
    simp [size_madeCells, hszi]

theorem fits_of {need c bytes : Nat} (hc : c < need) (hb : need * (2 * bytes) ≤ maxBytes) : Builtin.nextslicecap need c * bytes ≤ 281474976710656 := by
  unfold maxBytes at hb
  exact growslice_fits hc (by rw [Nat.mul_comm 2, ← Nat.mul_assoc] at hb; omega)
theorem app_ok (hS : St w F ρ Ow h) (hO : OkO Ow w ρ h) {ty tx : TypeId} {s x v : V} {h' : Heap} (hc : app P Ow.N ty tx s x h = some (v, h')) {us ux : Value} (hs : RV w F ρ us s) (hx : RV w F ρ ux x) (rt : TypeId) :
    Runs P w F ρ Ow (Builtin.append_ #[ty, tx] rt #[us, ux]) v h' := by
  unfold app at hc
  split at hc
  · cases hc
  · rename_i el hel
    obtain ⟨hty, inf0, hinf0⟩ := elOf_eq hel
    split at hc
    · cases hc
    · rename_i xs hsrc
      split at hc
      · rename_i sz
        split at hc
        · rename_i hcond
          obtain ⟨c1, c2, c3, c4, c5⟩ := hcond
          cases hc
          subst c1
          obtain ⟨zs, hz⟩ := Option.isSome_iff_exists.1 c5
          obtain ⟨inf, zv, i1, i2, i3, i4, i5⟩ := zero_ok (w := w) (F := F) (ρ := ρ) hz
          have hszi : inf.size = szOf P el := by simp [szOf, Program.cellsOf, i1]
          obtain ⟨news, k1, k2, k3⟩ := src_ok hS hsrc hx (by omega)
          cases hs with
          | nil sz =>
          by_cases hn : xs.length = 0
          · have hx0 : xs = [] := List.eq_nil_of_length_eq_zero hn
            subst hx0
            obtain ⟨ρ', g1, g2, g3⟩ := ghost_st hS hO (szOf P el)
            refine ⟨w, F, ρ', .slice none 0 0, ?_, .slP _ _ _ g3 (.inl rfl), g1, g2⟩
            have hlen := k1.len w
            have hcl := k1.cells
            have hn0 : news = [] := List.eq_nil_of_length_eq_zero (by simpa using k1.newsLen)
            subst hn0
            simp only [List.length_nil] at hlen hcl
            rcases k1.kind with ⟨e', hk⟩ | hk <;>
              simp [Builtin.append_, run_underlying' hty, run_underlying' hk, run_sizeOf i1, hlen, hcl]
          · have hb : (0 + xs.length) * (2 * P.bytesOf el) ≤ maxBytes := by simpa using c3
            have hby : P.bytesOf el = inf.bytes := by simp [Program.bytesOf, i1]
            obtain ⟨ρ', g1, g2, g3⟩ := grow_st hS hO i1 i2 i3 none (fun k hk => by cases hk) (olds := []) (news := news) (es := xs) (by rw [hszi]; exact k3) (need := 0 + xs.length) (c0 := 0) (by omega) (by omega) (by simpa using k2) (by omega)
            refine ⟨_, F, ρ', _, run_append_grow_src w ty tx rt el inf zv hty i1 i2 none 0 0 [] (by simp [Builtin.firstCells]) ux xs.length news (by rw [hszi]; exact k1) (by omega) (by unfold maxBytes at c4; omega) (fits_of (by omega) (by rw [← hby]; exact hb)), ?_, ?_, g2⟩
            · simpa using g3
            · rw [hszi] at g1; exact g1
        · cases hc
      · rename_i r off len cap
        split at hc
        · rename_i sz es hblk
          split at hc
          · rename_i hcond
            obtain ⟨c1, c2, c3, c4, c5, c6⟩ := hcond
            cases hc
            subst c1
            obtain ⟨zs, hz⟩ := Option.isSome_iff_exists.1 c6
            obtain ⟨inf, zv, i1, i2, i3, i4, i5⟩ := zero_ok (w := w) (F := F) (ρ := ρ) hz
            have hszi : inf.size = szOf P el := by simp [szOf, Program.cellsOf, i1]
            have hby : P.bytesOf el = inf.bytes := by simp [Program.bytesOf, i1]
            obtain ⟨news, k1, k2, k3⟩ := src_ok hS hsrc hx (by omega)
            have hrw : r < h.length := (List.getElem?_eq_some_iff.1 hblk).1
            -- nothing is there, nothing comes
            have empty : len + xs.length = 0 → ∀ a : Option Addr, us = .slice a 0 0 → Runs P w F ρ Ow (Builtin.append_ #[ty, tx] rt #[us, ux]) (.sl (nI Ow.N h) 0 (len + xs.length) none) (nH Ow.N (h.set r .dead) (.ts (szOf P el) (es.drop off ++ xs))) := by
              intro h0 a hus
              subst hus
              have hx0 : xs = [] := List.eq_nil_of_length_eq_zero (by omega)
              subst hx0
              have hes : es.drop off = [] := List.eq_nil_of_length_eq_zero (by simp at *; omega)
              rw [hes]
              have hl0 : len = 0 := by simpa using h0
              subst hl0
              obtain ⟨ρ', g1, g2, g3⟩ := ghost_st (kill_st hS r) (hO.set hblk (by simp)) (szOf P el)
              have hnI : nI Ow.N (h.set r .dead) = nI Ow.N h := by cases Ow.N <;> simp [nI]
              rw [hnI] at g3
              refine ⟨w, F, ρ', .slice a 0 0, ?_, by simpa using RV.slP (nI Ow.N h) none a g3 (.inl rfl), by simpa using g1, g2⟩
              have hlen := k1.len w
              have hcl := k1.cells
              have hn0 : news = [] := List.eq_nil_of_length_eq_zero (by simpa using k1.newsLen)
              subst hn0
              simp only [List.length_nil] at hlen hcl
              rcases k1.kind with ⟨e', hk⟩ | hk <;> cases a <;>
                simp [Builtin.append_, run_underlying' hty, run_underlying' hk, run_sizeOf i1, hlen, hcl, storeCells]
            -- there is no room
            have grows : ∀ (a : Option Addr) (c : Nat) (olds : List Value), us = .slice a len c → c < len + xs.length → (Builtin.firstCells inf.size len (.slice a len c)).run P w.drew = .ok olds.toArray w.drew → RTs w F olds (es.drop off).flatten → (∀ e ∈ es.drop off, e.length = szOf P el) →
                Runs P w F ρ Ow (Builtin.append_ #[ty, tx] rt #[us, ux]) (.sl (nI Ow.N h) 0 (len + xs.length) none) (nH Ow.N (h.set r .dead) (.ts (szOf P el) (es.drop off ++ xs))) := by
              intro a c olds hus hlt hfirst holds hlens
              subst hus
              have hall : ∀ e ∈ es.drop off ++ xs, e.length = inf.size := fun e he => by
                rw [hszi]; rcases List.mem_append.1 he with h1 | h1
                · exact hlens e h1
                · exact k3 e h1
              obtain ⟨ρ', g1, g2, g3⟩ := grow_st hS hO i1 i2 i3 (some r) (fun k hk => by cases hk; exact ⟨_, hblk, by simp⟩) (olds := olds) (news := news) (es := es.drop off ++ xs) hall (need := len + xs.length) (c0 := c) (by simp; omega) hlt (by rw [List.flatten_append]; exact forall₂_append holds k2) (by omega)
              refine ⟨_, F, ρ', _, run_append_grow_src w ty tx rt el inf zv hty i1 i2 a len c olds hfirst ux xs.length news (by rw [hszi]; exact k1) hlt (by unfold maxBytes at c5; omega) (fits_of hlt (by rw [← hby]; exact c4)), g3, ?_, g2⟩
              rw [hszi] at g1; exact g1
            rcases hS.blk r _ hblk with ⟨L, h1, h2, h3, h4, h5⟩ | ⟨h1, h2⟩
            · cases hs with
              | slP r cap a hρ => rw [h1] at hρ; cases hρ
              | sl r off len cap L' a c hρ ha hl hn hc0 hc1 hzz =>
                rw [h1] at hρ; cases hρ
                by_cases hroom : len + xs.length ≤ c
                · by_cases hce : c = 0
                  · have hl0 : len = 0 := by omega
                    subst hce
                    subst hl0
                    exact empty (by omega) a rfl
                  · obtain rfl := ha.resolve_right hce
                    obtain ⟨ρ', g1, g2, g3, g4⟩ := place_st hS hO hblk h1 h2 h3 h4 h5 (len := len) (c := c) c3 k2 k3 hroom (hzz hce)
                    refine ⟨_, F, ρ', _, ?_, g3, g1, g2⟩
                    have := run_append_room_src (P := P) w ty tx rt el inf hty i1 L.b (L.o + off * L.sz) len c ux xs.length news (by rw [hszi]; exact k1) hroom
                      (fun j hj => by rw [hszi, ← h2]; exact (g4 j hj).1) (fun j hj => by rw [hszi, ← h2]; exact (g4 j hj).2)
                    rw [hszi, ← h2] at this
                    exact this
                · have h3' := h3
                  obtain ⟨hn', hl', cc, el', fr, hh, hsz, hf, hzz', hcc⟩ := h3
                  have hlens : ∀ e ∈ es.drop off, e.length = szOf P el := fun e he => by rw [hl' e (List.mem_of_mem_drop he), h2]
                  by_cases hl0 : len = 0
                  · subst hl0
                    have hes : es.drop off = [] := List.eq_nil_of_length_eq_zero (by simp; omega)
                    refine grows a c [] rfl (by omega) ?_ (by rw [hes]; exact .nil) hlens
                    cases a <;> simp [Builtin.firstCells, loadCells, loadCellsFrom]
                  · have hce : c ≠ 0 := by omega
                    obtain rfl := ha.resolve_right hce
                    have hdl := flat_len hlens
                    have hlook : ∀ k, k < len * szOf P el → ∃ y u, (es.drop off).flatten[k]? = some y ∧ RT w F u y ∧ w.cell? ⟨L.b, L.o + off * L.sz + k, none⟩ = some u := fun k hk => by
                      have hpos : 0 < szOf P el := by omega
                      have d1 : k / szOf P el < len := (Nat.div_lt_iff_lt_mul hpos).2 hk
                      have d2 : k % szOf P el < szOf P el := Nat.mod_lt _ hpos
                      have d3 := Nat.div_add_mod k (szOf P el)
                      have hil : off + k / szOf P el < es.length := by omega
                      have hcl := hl' _ (List.getElem_mem hil)
                      have hj : k % szOf P el < (es[off + k / szOf P el]'hil).length := by rw [hcl, h2]; exact d2
                      have hget := flat_get hlens (i := k / szOf P el) (j := k % szOf P el) (cs := es[off + k / szOf P el]'hil) (by rw [List.getElem?_drop]; exact List.getElem?_eq_getElem hil) (List.getElem?_eq_getElem hj)
                      rw [show k / szOf P el * szOf P el + k % szOf P el = k by rw [Nat.mul_comm]; omega] at hget
                      obtain ⟨u, hu, hru⟩ := hcc _ _ _ _ (List.getElem?_eq_getElem hil) (List.getElem?_eq_getElem hj)
                      refine ⟨_, u, hget, hru, ?_⟩
                      unfold World.cell?
                      rw [hh]
                      simp only [Option.isSome_none]
                      rw [show L.o + off * L.sz + k = L.o + ((off + k / szOf P el) * L.sz + k % szOf P el) by
                        rw [Nat.add_mul, h2, Nat.mul_comm (k / szOf P el)]; omega]
                      simpa using hu
                    refine grows _ c ((List.range (len * szOf P el)).map fun k => (w.cell? ⟨L.b, L.o + off * L.sz + k, none⟩).getD undef) rfl (by omega) ?_ (forall₂_of (by rw [List.length_map, List.length_range, hdl, List.length_drop, ← c3]; congr 1; omega) fun k u v hu hv => ?_) hlens
                    · refine run_firstCells_some w.drew inf.size len _ len c _ (by simp [hszi]) fun j u hj => ?_
                      have hjl : j < len * szOf P el := by have := (List.getElem?_eq_some_iff.1 hj).1; simpa using this
                      obtain ⟨y, u', _, _, e3⟩ := hlook j hjl
                      simp [hjl, e3] at hj
                      subst hj
                      rw [Addr.add_mid]; exact e3
                    · have hkl : k < len * szOf P el := by have := (List.getElem?_eq_some_iff.1 hu).1; simpa using this
                      obtain ⟨y, u', e1, e2, e3⟩ := hlook k hkl
                      simp [hkl, e3] at hu
                      subst hu
                      rw [e1] at hv; cases hv; exact e2
            · subst h2
              cases hs with
              | sl r off len cap L a c hρ => rw [h1] at hρ; cases hρ
              | slP r cap a hρ hcp =>
                by_cases hn : xs.length = 0
                · exact empty (by omega) a rfl
                · refine grows a 0 [] rfl (by omega) ?_ .nil (fun e he => by simp at he)
                  cases a <;> simp [Builtin.firstCells, loadCells, loadCellsFrom]
          · cases hc
        · cases hc
      · cases hc
end Go.Proofs.YtdhejeigbjmncaaDoor.E
