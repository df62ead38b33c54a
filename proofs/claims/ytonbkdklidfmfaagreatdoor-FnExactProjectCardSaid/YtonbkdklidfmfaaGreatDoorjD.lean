/- Joined: E10 E10P E11 E11A. Conditions: those of each lemma. -/
import Derived.Test.YtonbkdklidfmfaaGreatDoorjC
import Derived.Laws.BytesArg
import Derived.Laws.MakeOwn
set_option linter.unusedVariables false
set_option linter.unusedSimpArgs false
namespace Go.Proofs.YtonbkdklidfmfaaGreatDoor.E
set_option linter.unusedVariables false
set_option linter.unusedSimpArgs false
variable {P : Program} {w : World} {F : Nat → Prop} {ρ : yd} {Ow : Own} {h : Heap}
theorem qA : ∀ {es : List (List T)} {l : List Int}, bytesOf es = some l → es = l.map fun n => [T.int .u8 n]
 | [], l, hb => by simp only [bytesOf] at hb; cases hb; rfl
 | c :: r, l, hb => by
  simp only [bytesOf] at hb
  split at hb
  · split at hb
    · rename_i l' hl; cases hb; rw [qA hl]; rfl
    · cases hb
  · cases hb
theorem jN {src : TypeId} (hb : vl P src = true) : ∃ el, P.underlying src = some (.slice el) ∧ P.underlying el = some (.int .u8) ∧ zB P el = 1 ∧ zZ P src = some el := by
 unfold vl at hb
 split at hb
 · rename_i el hel
   simp only [Bool.and_eq_true, beq_iff_eq] at hb
   exact ⟨el, (wj hel).1, ey hb.1, hb.2, hel⟩
 · cases hb
theorem tQ {src dst : TypeId} (hb : vl P src = true) (hd : P.underlying dst = some .string) {a : Option Addr} {n c : Nat} {l : List Int} (hl : l.length = n)
 (hc : 0 < n → ∃ b o, a = some ⟨b, o, none⟩ ∧ ∀ i, i < n → w.cell? ⟨b, o + i, none⟩ = some (.int .u8 (l.getD i 0))) :
 ∃ u, (convert src dst (.slice a n c)).run P w = .ok u w ∧ RV w F ρ u (.t (.str (l.map fun n => UInt8.ofNat n.toNat))) := by
 obtain ⟨el, h1, h2, h3, h4⟩ := jN hb
 by_cases hn : n = 0
 · subst hn
   have hl0 : l = [] := List.eq_nil_of_length_eq_zero hl
   subst hl0
   cases a with
   | none => exact ⟨_, run_convert_bytes_nil w src el h1 h2 0 c dst hd, .t _ _ (.str _ _ rfl)⟩
   | some ad =>
    refine ⟨.string ByteArray.empty, ?_, .t _ _ (.str _ _ rfl)⟩
    rw [run_convert_bytes_string w src dst el _ 0 c h1 h2 hd]
    simp [Conv.bytesToString, loadCells, loadCellsFrom]
 · obtain ⟨b, o, rfl, hcell⟩ := hc (by omega)
   exact ⟨_, run_convert_bytes_arg w src el h1 h2 b o n c l hl hcell dst hd, .t _ _ (.str _ _ (strOfNums_data l))⟩
theorem TZ (hS : St w F ρ Ow h) {src dst : TypeId} {x v : V} (hc : conv P src dst x h = some v) {u : Value} (hu : RV w F ρ u x) : ∃ u', (convert src dst u).run P w = .ok u' w ∧ RV w F ρ u' v := by
 unfold conv at hc
 split at hc
 · rename_i k hk
   have hd := ey hk
   split at hc
   · rename_i k' n
     split at hc
     · rename_i hkn
       obtain ⟨d, hs⟩ := sL hkn
       cases hc
       cases hu with
       | t _ _ hx =>
       cases hx
       refine ⟨.int k (k.wrap n), ?_, .t _ _ (.int _ _)⟩
       simp [convert, zF hs, zF hd, Conv.intToInt]
     · cases hc
   · cases hc
 · split at hc
   · rename_i hdst
     have hd := pq hdst
     split at hc
     · rename_i l
       split at hc
       · rename_i hkn
         obtain ⟨d, hs⟩ := sL hkn
         cases hc
         cases hu with
         | t _ _ hx =>
         cases hx with
         | str s _ hs' =>
         refine ⟨.string s, ?_, .t _ _ (.str _ _ hs')⟩
         simp [convert, zF hs, zF hd]
       · cases hc
     · rename_i r off len cap
       split at hc
       · rename_i hb
         have main : ∀ es : List (List T), ((∃ L, ρ r = some (some L) ∧ L.sz = 1 ∧ xA w L es (RT w F)) ∨ (ρ r = some none ∧ es = [])) → ∀ l, bytesOf ((es.drop off).take len) = some l →
          ∃ u', (convert src dst u).run P w = .ok u' w ∧ RV w F ρ u' (.t (.str (l.map fun n => UInt8.ofNat n.toNat))) := by
          intro es hrow l hl
          have hes := qA hl
          cases hu with
          | slP r cap a hρ hcp =>
           have hl0 : l = [] := by
            have := congrArg List.length hes
            simp at this; exact List.eq_nil_of_length_eq_zero (by simpa using this.symm)
           subst hl0
           exact tQ hb hd rfl (fun hp => by omega)
          | sl r off len cap L a c hρ ha hlc hn hc0 hc1 hz =>
           rcases hrow with ⟨L', h1, h2, h3⟩ | ⟨h1, _⟩
           · rw [hρ] at h1; cases h1
             obtain ⟨hn', hl', cc, el', fr, hh, hs, hf, hzz, hcc⟩ := h3
             have hll : l.length = len := by
              have := congrArg List.length hes
              simp at this; omega
             refine tQ hb hd hll fun hp => ?_
             have hce : c ≠ 0 := by omega
             obtain rfl := ha.resolve_right hce
             refine ⟨L.b, L.o + off * L.sz, rfl, fun i hi => ?_⟩
             have hget : ((es.drop off).take len)[i]? = some [T.int .u8 (l.getD i 0)] := by
              rw [hes]; simp [List.getElem?_map, List.getElem?_eq_getElem (show i < l.length by omega), List.getD]
             rw [List.getElem?_take, if_pos hi, List.getElem?_drop] at hget
             obtain ⟨u, hu', hru⟩ := hcc _ 0 _ _ hget rfl
             cases hru
             unfold World.cell?
             rw [hh]
             simp only [Option.isSome_none]
             rw [h2] at hu' ⊢
             rw [show L.o + off * 1 + i = L.o + ((off + i) * 1 + 0) by omega]
             simpa using hu'
           · rw [hρ] at h1; cases h1
         split at hc
         · rename_i es hblk
           split at hc
           · rename_i l hl; cases hc
             exact main es ((hS.blk r _ hblk).imp (fun ⟨L, a, b, c, _⟩ => ⟨L, a, b, c⟩) id) l hl
           · cases hc
         · rename_i es hblk
           split at hc
           · rename_i l hl; cases hc
             exact main es ((hS.blk r _ hblk).imp (fun ⟨L, a, b, c, _⟩ => ⟨L, a, b, c⟩) id) l hl
           · cases hc
         · cases hc
       · cases hc
     · split at hc
       · rename_i hb
         cases hc
         cases hu
         exact tQ (l := []) hb hd rfl (fun hp => by omega)
       · cases hc
     · rename_i es
       split at hc
       · rename_i hb
         split at hc
         · rename_i l hl
           cases hc
           have hes := qA hl
           subst hes
           cases hu with
           | t _ _ hx =>
           cases hx with
           | list a n c sz es g hn hcc h0 hz hr =>
           refine tQ hb hd (by simpa using hn) fun hp => ?_
           obtain ⟨b, o, rfl, _, hcell⟩ := h0 hp
           refine ⟨b, o, rfl, fun i hi => ?_⟩
           have := hcell i 0 hi (by omega)
           have hri := hr i 0 [T.int .u8 (l.getD i 0)] (T.int .u8 (l.getD i 0)) (by simp at hn; simp [List.getElem?_map, List.getElem?_eq_getElem (show i < l.length by omega), List.getD]) rfl
           rw [show i * 1 + 0 = i by omega] at this
           rw [this]
           generalize hg : g i 0 = gv at hri
           cases hri; rfl
         · cases hc
       · cases hc
     · cases hc
   · cases hc
theorem lr : ∀ {us : List Value} {vs : List V} {xs : List T}, RVs w F ρ us vs → qb vs = some xs → RTs w F us xs
 | _, [], xs, hu, hx => by cases hu; simp [qb] at hx; subst hx; exact .nil
 | _, v :: vs, xs, hu, hx => by
  cases hu with
  | cons h1 hs =>
   unfold qb at hx
   split at hx
   · split at hx
     · rename_i x _ xs' hxs
       cases hx
       cases h1 with
       | t u x hx => exact .cons hx (lr hs hxs)
     · cases hx
   · split at hx
     · rename_i sz _ xs' hxs
       cases hx
       cases h1 with
       | nil => exact .cons (vq _ _ _) (lr hs hxs)
     · cases hx
   · cases hx
theorem TE (hS : St w F ρ Ow h) (hO : OkO Ow w ρ h) {t el : TypeId} (hel : zZ P t = some el) {zs : List V} (hz : zeroOf P el = some zs) {z : List T} (ha : qb zs = some z) {n : Nat} {k k' : IntKind} (hs0 : zB P el ≠ 0)
 (hb : n * P.bytesOf el ≤ yk) (hm : n ≤ yk) :
 xK P w F ρ Ow (Instr.makeSlice t (.int k n) (.int k' n)) (.sl (nI Ow.N h) 0 n (some n)) (nH Ow.N h (.ts (zB P el) (List.replicate n z))) := by
 obtain ⟨hty, _, _⟩ := wj hel
 obtain ⟨inf, zv, i1, i2, i3, i4, i5⟩ := vA (w := w) (F := F) (ρ := ρ) hz
 have hszi : inf.size = zB P el := by simp [zB, Program.cellsOf, i1]
 have hby : P.bytesOf el = inf.bytes := by simp [Program.bytesOf, i1]
 unfold yk at hb hm
 have hrun := run_make (P := P) w t el inf zv hty i1 i2 k k' n n (by omega) (Int.le_refl _) (by rw [hby] at hb; have : (inf.bytes : Int) * (n : Int) = ((n * inf.bytes : Nat) : Int) := by rw [Nat.mul_comm]; simp
                                                                                                omega) (by omega)
 have hzt := lr i4 ha
 have hzl : z.length = zB P el := by rw [← zM hzt]; simp [i3, hszi]
 have hrep : ∀ e ∈ List.replicate n z, e.length = zB P el := fun e he => by rw [List.eq_of_mem_replicate he]; exact hzl
 have hcells : RTs w F (madeCells zv.cells (n * inf.size)).toList (List.replicate n z).flatten := by
  refine x9 (by simp [wb hrep, size_madeCells, hszi]) fun m u v hu hv => ?_
  have hml : m < n * inf.size := by
   have := (List.getElem?_eq_some_iff.1 hu).1; simpa [size_madeCells] using this
  have hpos : 0 < zB P el := by omega
  rw [hszi] at hml
  have d1 : m / zB P el < n := (Nat.div_lt_iff_lt_mul hpos).2 hml
  have d2 : m % zB P el < zB P el := Nat.mod_lt _ hpos
  have d3 := Nat.div_add_mod m (zB P el)
  have hv' := flat_get hrep (i := m / zB P el) (j := m % zB P el) (cs := z) (x := z[m % zB P el]'(by omega)) (by simp [d1]) (List.getElem?_eq_getElem (by omega))
  rw [show m / zB P el * zB P el + m % zB P el = m by rw [Nat.mul_comm]; omega] at hv'
  rw [hv] at hv'; cases hv'
  obtain ⟨u', e1, e2⟩ := yn hzt (m % zB P el) _ (List.getElem?_eq_getElem (by omega))
  have hzs : zv.cells.size = zB P el := by rw [i3, hszi]
  have hu' : u = u' := by
   simp only [madeCells, Array.toList_map, List.getElem?_map, Array.toList_range] at hu
   rw [hszi] at hu
   simp [hml] at hu
   rw [← hu, hzs]
   have : zv.cells[m % zB P el]? = some u' := by simpa using e1
   simp [getElem!_def, this]
  rw [hu']; exact e2
 obtain ⟨ρ', n1, n2, n3⟩ := bj (w := w) (arr := madeCells zv.cells (n * inf.size)) (el := el) (es := List.replicate n z) (sz := zB P el) hS hO hrep (by simp [size_madeCells, hszi])
  (by rw [List.take_of_length_le (by simp [size_madeCells, hszi])]; exact hcells)
 refine ⟨_, F, ρ', .slice (some ⟨w.heap.size, 0, none⟩) n n, ?_, ?_, n1, n2⟩
 · simpa using hrun
 · refine .sl _ 0 _ _ _ _ _ n3 (.inl (by simp)) (Nat.le_refl _) (by simp) (fun hcap => by cases hcap) (fun k hk => by cases hk; rfl) (fun _ => ?_)
   simp [size_madeCells, hszi]
theorem iJ {need c bytes : Nat} (hc : c < need) (hb : need * (2 * bytes) ≤ yk) : Builtin.nextslicecap need c * bytes ≤ 281474976710656 := by
 unfold yk at hb
 exact growslice_fits hc (by rw [Nat.mul_comm 2, ← Nat.mul_assoc] at hb; omega)
theorem Q9 (hS : St w F ρ Ow h) (hO : OkO Ow w ρ h) {ty tx : TypeId} {s x v : V} {h' : Heap} (hc : app P Ow.N ty tx s x h = some (v, h')) {us ux : Value} (hs : RV w F ρ us s) (hx : RV w F ρ ux x) (rt : TypeId) :
 xK P w F ρ Ow (Builtin.append_ #[ty, tx] rt #[us, ux]) v h' := by
 unfold app at hc
 split at hc
 · cases hc
 · rename_i el hel
   obtain ⟨hty, inf0, hinf0⟩ := wj hel
   split at hc
   · cases hc
   · rename_i xs hsrc
     split at hc
     · rename_i sz
       split at hc
       · rename_i hcond
         obtain ⟨c1, c2, c3, c4, c5⟩ := hcond
         cases hc
         subst c1
         obtain ⟨zs, hz⟩ := Option.isSome_iff_exists.1 c5
         obtain ⟨inf, zv, i1, i2, i3, i4, i5⟩ := vA (w := w) (F := F) (ρ := ρ) hz
         have hszi : inf.size = zB P el := by simp [zB, Program.cellsOf, i1]
         obtain ⟨news, k1, k2, k3⟩ := Uf hS hsrc hx (by omega)
         cases hs with
         | nil sz =>
         by_cases hn : xs.length = 0
         · have hx0 : xs = [] := List.eq_nil_of_length_eq_zero hn
           subst hx0
           obtain ⟨ρ', g1, g2, g3⟩ := eM hS hO (zB P el)
           refine ⟨w, F, ρ', .slice none 0 0, ?_, .slP _ _ _ g3 (.inl rfl), g1, g2⟩
           have hlen := k1.len w
           have hcl := k1.cells
           have hn0 : news = [] := List.eq_nil_of_length_eq_zero (by simpa using k1.newsLen)
           subst hn0
           simp only [List.length_nil] at hlen hcl
           rcases k1.kind with ⟨e', hk⟩ | hk <;>
            simp [Builtin.append_, zF hty, zF hk, run_sizeOf i1, hlen, hcl]
         · have hb : (0 + xs.length) * (2 * P.bytesOf el) ≤ yk := by simpa using c3
           have hby : P.bytesOf el = inf.bytes := by simp [Program.bytesOf, i1]
           obtain ⟨ρ', g1, g2, g3⟩ := aZ hS hO i1 i2 i3 none (fun k hk => by cases hk) (olds := []) (news := news) (es := xs) (by rw [hszi]; exact k3) (need := 0 + xs.length) (c0 := 0) (by omega) (by omega) (by simpa using k2) (by omega)
           refine ⟨_, F, ρ', _, run_append_grow_src w ty tx rt el inf zv hty i1 i2 none 0 0 [] (by simp [Builtin.firstCells]) ux xs.length news (by rw [hszi]; exact k1) (by omega) (by unfold yk at c4; omega) (iJ (by omega) (by rw [← hby]; exact hb)), ?_, ?_, g2⟩
           · simpa using g3
           · rw [hszi] at g1; exact g1
       · cases hc
     · rename_i r off len cap
       split at hc
       · rename_i sz es hblk
         split at hc
         · rename_i hcond
           obtain ⟨c1, c2, c3, c4, c5, c6⟩ := hcond
           cases hc
           subst c1
           obtain ⟨zs, hz⟩ := Option.isSome_iff_exists.1 c6
           obtain ⟨inf, zv, i1, i2, i3, i4, i5⟩ := vA (w := w) (F := F) (ρ := ρ) hz
           have hszi : inf.size = zB P el := by simp [zB, Program.cellsOf, i1]
           have hby : P.bytesOf el = inf.bytes := by simp [Program.bytesOf, i1]
           obtain ⟨news, k1, k2, k3⟩ := Uf hS hsrc hx (by omega)
           have hrw : r < h.length := (List.getElem?_eq_some_iff.1 hblk).1
           -- nothing is there, nothing comes
           have empty : len + xs.length = 0 → ∀ a : Option Addr, us = .slice a 0 0 → xK P w F ρ Ow (Builtin.append_ #[ty, tx] rt #[us, ux]) (.sl (nI Ow.N h) 0 (len + xs.length) none) (nH Ow.N (h.set r .dead) (.ts (zB P el) (es.drop off ++ xs))) := by
            intro h0 a hus
            subst hus
            have hx0 : xs = [] := List.eq_nil_of_length_eq_zero (by omega)
            subst hx0
            have hes : es.drop off = [] := List.eq_nil_of_length_eq_zero (by simp at *; omega)
            rw [hes]
            have hl0 : len = 0 := by simpa using h0
            subst hl0
            obtain ⟨ρ', g1, g2, g3⟩ := eM (iH hS r) (hO.set hblk (by simp)) (zB P el)
            have hnI : nI Ow.N (h.set r .dead) = nI Ow.N h := by cases Ow.N <;> simp [nI]
            rw [hnI] at g3
            refine ⟨w, F, ρ', .slice a 0 0, ?_, by simpa using RV.slP (nI Ow.N h) none a g3 (.inl rfl), by simpa using g1, g2⟩
            have hlen := k1.len w
            have hcl := k1.cells
            have hn0 : news = [] := List.eq_nil_of_length_eq_zero (by simpa using k1.newsLen)
            subst hn0
            simp only [List.length_nil] at hlen hcl
            rcases k1.kind with ⟨e', hk⟩ | hk <;> cases a <;>
             simp [Builtin.append_, zF hty, zF hk, run_sizeOf i1, hlen, hcl, storeCells]
           -- there is no room
           have grows : ∀ (a : Option Addr) (c : Nat) (olds : List Value), us = .slice a len c → c < len + xs.length → (Builtin.firstCells inf.size len (.slice a len c)).run P w.drew = .ok olds.toArray w.drew → RTs w F olds (es.drop off).flatten → (∀ e ∈ es.drop off, e.length = zB P el) →
            xK P w F ρ Ow (Builtin.append_ #[ty, tx] rt #[us, ux]) (.sl (nI Ow.N h) 0 (len + xs.length) none) (nH Ow.N (h.set r .dead) (.ts (zB P el) (es.drop off ++ xs))) := by
            intro a c olds hus hlt hfirst holds hlens
            subst hus
            have hall : ∀ e ∈ es.drop off ++ xs, e.length = inf.size := fun e he => by
             rw [hszi]; rcases List.mem_append.1 he with h1 | h1
             · exact hlens e h1
             · exact k3 e h1
            obtain ⟨ρ', g1, g2, g3⟩ := aZ hS hO i1 i2 i3 (some r) (fun k hk => by cases hk; exact ⟨_, hblk, by simp⟩) (olds := olds) (news := news) (es := es.drop off ++ xs) hall (need := len + xs.length) (c0 := c) (by simp; omega) hlt (by rw [List.flatten_append]; exact yW holds k2) (by omega)
            refine ⟨_, F, ρ', _, run_append_grow_src w ty tx rt el inf zv hty i1 i2 a len c olds hfirst ux xs.length news (by rw [hszi]; exact k1) hlt (by unfold yk at c5; omega) (iJ hlt (by rw [← hby]; exact c4)), g3, ?_, g2⟩
            rw [hszi] at g1; exact g1
           rcases hS.blk r _ hblk with ⟨L, h1, h2, h3, h4, h5⟩ | ⟨h1, h2⟩
           · cases hs with
             | slP r cap a hρ => rw [h1] at hρ; cases hρ
             | sl r off len cap L' a c hρ ha hl hn hc0 hc1 hzz =>
              rw [h1] at hρ; cases hρ
              by_cases hroom : len + xs.length ≤ c
              · by_cases hce : c = 0
                · have hl0 : len = 0 := by omega
                  subst hce
                  subst hl0
                  exact empty (by omega) a rfl
                · obtain rfl := ha.resolve_right hce
                  obtain ⟨ρ', g1, g2, g3, g4⟩ := Wc hS hO hblk h1 h2 h3 h4 h5 (len := len) (c := c) c3 k2 k3 hroom (hzz hce)
                  refine ⟨_, F, ρ', _, ?_, g3, g1, g2⟩
                  have := run_append_room_src (P := P) w ty tx rt el inf hty i1 L.b (L.o + off * L.sz) len c ux xs.length news (by rw [hszi]; exact k1) hroom
                   (fun j hj => by rw [hszi, ← h2]; exact (g4 j hj).1) (fun j hj => by rw [hszi, ← h2]; exact (g4 j hj).2)
                  rw [hszi, ← h2] at this
                  exact this
              · have h3' := h3
                obtain ⟨hn', hl', cc, el', fr, hh, hsz, hf, hzz', hcc⟩ := h3
                have hlens : ∀ e ∈ es.drop off, e.length = zB P el := fun e he => by rw [hl' e (List.mem_of_mem_drop he), h2]
                by_cases hl0 : len = 0
                · subst hl0
                  have hes : es.drop off = [] := List.eq_nil_of_length_eq_zero (by simp; omega)
                  refine grows a c [] rfl (by omega) ?_ (by rw [hes]; exact .nil) hlens
                  cases a <;> simp [Builtin.firstCells, loadCells, loadCellsFrom]
                · have hce : c ≠ 0 := by omega
                  obtain rfl := ha.resolve_right hce
                  have hdl := wb hlens
                  have hlook : ∀ k, k < len * zB P el → ∃ y u, (es.drop off).flatten[k]? = some y ∧ RT w F u y ∧ w.cell? ⟨L.b, L.o + off * L.sz + k, none⟩ = some u := fun k hk => by
                   have hpos : 0 < zB P el := by omega
                   have d1 : k / zB P el < len := (Nat.div_lt_iff_lt_mul hpos).2 hk
                   have d2 : k % zB P el < zB P el := Nat.mod_lt _ hpos
                   have d3 := Nat.div_add_mod k (zB P el)
                   have hil : off + k / zB P el < es.length := by omega
                   have hcl := hl' _ (List.getElem_mem hil)
                   have hj : k % zB P el < (es[off + k / zB P el]'hil).length := by rw [hcl, h2]; exact d2
                   have hget := flat_get hlens (i := k / zB P el) (j := k % zB P el) (cs := es[off + k / zB P el]'hil) (by rw [List.getElem?_drop]; exact List.getElem?_eq_getElem hil) (List.getElem?_eq_getElem hj)
                   rw [show k / zB P el * zB P el + k % zB P el = k by rw [Nat.mul_comm]; omega] at hget
                   obtain ⟨u, hu, hru⟩ := hcc _ _ _ _ (List.getElem?_eq_getElem hil) (List.getElem?_eq_getElem hj)
                   refine ⟨_, u, hget, hru, ?_⟩
                   unfold World.cell?
                   rw [hh]
                   simp only [Option.isSome_none]
                   rw [show L.o + off * L.sz + k = L.o + ((off + k / zB P el) * L.sz + k % zB P el) by
                    rw [Nat.add_mul, h2, Nat.mul_comm (k / zB P el)]; omega]
                   simpa using hu
                  refine grows _ c ((List.range (len * zB P el)).map fun k => (w.cell? ⟨L.b, L.o + off * L.sz + k, none⟩).getD undef) rfl (by omega) ?_ (x9 (by rw [List.length_map, List.length_range, hdl, List.length_drop, ← c3]; congr 1; omega) fun k u v hu hv => ?_) hlens
                  · refine run_firstCells_some w.drew inf.size len _ len c _ (by simp [hszi]) fun j u hj => ?_
                    have hjl : j < len * zB P el := by have := (List.getElem?_eq_some_iff.1 hj).1; simpa using this
                    obtain ⟨y, u', _, _, e3⟩ := hlook j hjl
                    simp [hjl, e3] at hj
                    subst hj
                    rw [Addr.add_mid]; exact e3
                  · have hkl : k < len * zB P el := by have := (List.getElem?_eq_some_iff.1 hu).1; simpa using this
                    obtain ⟨y, u', e1, e2, e3⟩ := hlook k hkl
                    simp [hkl, e3] at hu
                    subst hu
                    rw [e1] at hv; cases hv; exact e2
           · subst h2
             cases hs with
             | sl r off len cap L a c hρ => rw [h1] at hρ; cases hρ
             | slP r cap a hρ hcp =>
              by_cases hn : xs.length = 0
              · exact empty (by omega) a rfl
              · refine grows a 0 [] rfl (by omega) ?_ .nil (fun e he => by simp at he)
                cases a <;> simp [Builtin.firstCells, loadCells, loadCellsFrom]
         · cases hc
       · cases hc
     · cases hc
end Go.Proofs.YtonbkdklidfmfaaGreatDoor.E
/- What rows become under other numbers: for loops, for calls on a caller's own rows; what rows show while nobody writes them. Conditions: those of each lemma. -/
namespace Go.Proofs.YtonbkdklidfmfaaGreatDoor.E
set_option linter.unusedVariables false
set_option linter.unusedSimpArgs false
variable {P : Program} {w : World} {F : Nat → Prop} {ρ : yd} {Ow : Own} {h : Heap}
theorem TR {ids : List Nat} {r i : Nat} (hi : idx ids r = some i) : ids[i]? = some r := by
 unfold idx at hi
 split at hi
 · rename_i hlt
   cases hi
   rw [List.getElem?_eq_getElem hlt, List.getElem_idxOf hlt]
 · cases hi
def y8 (ρ : yd) (ids : List Nat) : yd := fun i => (ids[i]?).bind ρ
mutual
theorem nw {mp : Nat → Option Nat} {ρ2 : yd} (hm : ∀ r r', mp r = some r' → ∀ l, ρ r = some l → ρ2 r' = some l) : ∀ (v : V) {u : Value}, RV w F ρ u v → RV w F ρ2 u (ren mp v)
 | .sl r off len cap, u, hu => by
  simp only [ren]
  split
  · rename_i r' hr
    cases hu with
    | sl r off len cap L a c hρ ha h1 hn hc0 hc1 hz => exact .sl r' off len cap L a c (hm _ _ hr _ hρ) ha h1 hn hc0 hc1 hz
    | slP r cap a hρ hc => exact .slP r' cap a (hm _ _ hr _ hρ) hc
  · exact .bad _
 | .ptr r i j, u, hu => by
  simp only [ren]
  split
  · rename_i r' hr
    cases hu with
    | ptr r i j L hρ => exact .ptr r' i j L (hm _ _ hr _ hρ)
  · exact .bad _
 | .agg cs, u, hu => by
  simp only [ren]
  cases hu with
  | agg vs cs g hs hg hr => exact RV.gm (sF hm cs (xB hs hg hr))
 | .tup cs, u, hu => by
  simp only [ren]
  cases hu with
  | tup vs cs g hs hg hr => exact RV.jA (sF hm cs (xB hs hg hr))
 | .fn f cs, u, hu => by
  simp only [ren]
  cases hu with
  | fn f vs cs g hs hg hr => exact RV.fn' (sF hm cs (xB hs hg hr))
 | .t x, u, hu => by simp only [ren]; exact im hu
 | .nil sz, u, hu => by simp only [ren]; cases hu; exact .nil sz
 | .o x, u, hu => by simp only [ren]; exact .o _ _
 | .und, u, hu => by simp only [ren]; generalize hz : V.und = z at hu; cases hu <;> first | exact .und | cases hz
 | .bad, u, hu => by simp only [ren]; exact .bad _
theorem sF {mp : Nat → Option Nat} {ρ2 : yd} (hm : ∀ r r', mp r = some r' → ∀ l, ρ r = some l → ρ2 r' = some l) : ∀ (vs : List V) {us : List Value}, RVs w F ρ us vs → RVs w F ρ2 us (ren.rens mp vs)
 | [], us, hu => by cases hu; simp only [ren.rens]; exact .nil
 | v :: vs, us, hu => by
  cases hu with
  | cons h1 h2 => simp only [ren.rens]; exact .cons (nw hm v h1) (sF hm vs h2)
end
theorem mX (ids : List Nat) (r r' : Nat) (hr : idx ids r = some r') (l : Option Loc) (hl : ρ r = some l) : y8 ρ ids r' = some l := by
 have hg := TR hr
 simp [y8, hg, hl]
theorem Ro (ids : List Nat) (v : V) {u : Value} (hu : RV w F ρ u v) : RV w F (y8 ρ ids) u (ren (idx ids) v) := nw (mX ids) v hu
theorem bY (ids : List Nat) (vs : List V) {us : List Value} (hu : RVs w F ρ us vs) : RVs w F (y8 ρ ids) us (ren.rens (idx ids) vs) := sF (mX ids) vs hu
theorem fC (m : Nat → Option Nat) : ∀ vs : List V, (ren.rens m vs).length = vs.length
 | [] => rfl
 | v :: vs => by simp [ren.rens, fC m vs]
theorem pd (m : Nat → Option Nat) : ∀ (vs : List V) (j : Nat), (ren.rens m vs)[j]? = (vs[j]?).map (ren m)
 | [], j => by simp [ren.rens]
 | v :: vs, 0 => by simp [ren.rens]
 | v :: vs, j + 1 => by simp [ren.rens, pd m vs j]
theorem fE {mp : Nat → Option Nat} {ρ2 : yd} {Ow2 : Own} (hm : ∀ r r', mp r = some r' → ∀ l, ρ r = some l → ρ2 r' = some l) {r i : Nat} {b : Blk} (hl : b ≠ .dead → ρ2 i = ρ r) (hOw : ∀ L, writes b = true → ρ r = some (some L) → Ow L.b → Ow2 L.b)
 (hb : RB w F ρ Ow r b) : RB w F ρ2 Ow2 i (zo mp b) := by
 cases b with
 | ts sz es =>
  have hl := hl (by simp)
  rcases hb with ⟨L, h1, h2, h3, h4, h5⟩ | ⟨h1, h2⟩
  · exact .inl ⟨L, hl.trans h1, h2, h3, h4, hOw L rfl h1 h5⟩
  · exact .inr ⟨hl.trans h1, h2⟩
 | fz sz es =>
  have hl := hl (by simp)
  rcases hb with ⟨L, h1, h2, h3, h4⟩ | ⟨h1, h2⟩
  · exact .inl ⟨L, hl.trans h1, h2, h3, h4⟩
  · exact .inr ⟨hl.trans h1, h2⟩
 | dead => trivial
 | vs sz es =>
  have hl := hl (by simp)
  rcases hb with ⟨L, h1, h2, h3, h4, h5⟩ | ⟨h1, h2⟩
  · refine .inl ⟨L, hl.trans h1, h2, ?_, h4, hOw L rfl h1 h5⟩
    obtain ⟨k1, k2, c, el, fr, k3, k4, k5, k6, k7⟩ := h3
    refine ⟨by simpa using k1, fun e he => ?_, c, el, fr, k3, k4, k5, k6, fun i' j cs x hi' hj => ?_⟩
    · simp only [List.mem_map] at he
      obtain ⟨e0, he0, rfl⟩ := he
      rw [fC]; exact k2 e0 he0
    · rw [List.getElem?_map] at hi'
      cases hes : es[i']? with
      | none => simp [hes] at hi'
      | some e0 =>
       simp [hes] at hi'
       subst hi'
       rw [pd] at hj
       cases he0 : e0[j]? with
       | none => simp [he0] at hj
       | some x0 =>
        simp [he0] at hj
        subst hj
        obtain ⟨u, hu, hru⟩ := k7 i' j e0 x0 hes he0
        exact ⟨u, hu, nw hm x0 hru⟩
  · refine .inr ⟨hl.trans h1, by simp [h2]⟩
theorem Tk {r : Nat} {b : Blk} (ids : List Nat) {i : Nat} (hi : ids[i]? = some r) (hb : RB w F ρ Ow r b) : RB w F (y8 ρ ids) Ow i (zo (idx ids) b) :=
 fE (mX ids) (fun _ => by simp [y8, hi]) (fun _ _ _ h => h) hb
theorem xL (m : Nat → Option Nat) (b : Blk) : writes (zo m b) = writes b := by cases b <;> rfl
theorem vj : ∀ (l seen : List Nat), seen.Nodup → (yJ seen l).Nodup
 | [], seen, hs => hs
 | r :: l, seen, hs => by
  simp only [yJ]
  split
  · exact vj l seen hs
  · rename_i hr
    refine vj l _ ?_
    rw [List.nodup_append]
    exact ⟨hs, by simp, fun a ha b hb => by simp at hb; subst hb; exact fun e => hr (e ▸ ha)⟩
theorem sH (h : Heap) : ∀ (n : Nat) (ids : List Nat), ids.Nodup → (reach h n ids).Nodup
 | 0, ids, hs => hs
 | n + 1, ids, hs => by simp only [reach]; exact sH h n _ (vj _ _ hs)
theorem tM : ∀ (l seen : List Nat), ∃ t, yJ seen l = seen ++ t
 | [], seen => ⟨[], by simp [yJ]⟩
 | r :: l, seen => by
  simp only [yJ]
  split
  · exact tM l seen
  · obtain ⟨t, ht⟩ := tM l (seen ++ [r])
    exact ⟨r :: t, by rw [ht]; simp⟩
theorem pY (h : Heap) : ∀ (n : Nat) (ids : List Nat), ∃ t, reach h n ids = ids ++ t
 | 0, ids => ⟨[], by simp [reach]⟩
 | n + 1, ids => by
  simp only [reach]
  obtain ⟨t, ht⟩ := tM (ids.flatMap (xu h)) ids
  obtain ⟨t', ht'⟩ := pY h n (yJ ids (ids.flatMap (xu h)))
  exact ⟨t ++ t', by rw [ht', ht]; simp⟩
/-- the first rows keep their numbers -/
theorem ql (m : Nat) (vals : List V) (h : Heap) (r : Nat) (hr : r < m) : (reach h 3 (yJ (List.range m) (refs.refss vals)))[r]? = some r := by
 obtain ⟨t, ht⟩ := tM (refs.refss vals) (List.range m)
 obtain ⟨t', ht'⟩ := pY h 3 (yJ (List.range m) (refs.refss vals))
 rw [ht', ht, List.append_assoc, List.getElem?_append_left (by simpa using hr)]
 simp [hr]
def w9 (ids : List Nat) (h : Heap) : Heap := ids.map fun r => zo (idx ids) (h[r]?.getD .dead)
theorem ren_o {mp : Nat → Option Nat} {v : V} {x : T} (h : ren mp v = .o x) : v = .o x := by
 cases v with
 | sl r off len cap => simp only [ren] at h; split at h <;> cases h
 | ptr r i j => simp only [ren] at h; split at h <;> cases h
 | o y => simpa [ren] using h
 | _ => simp [ren] at h
theorem fD {mp : Nat → Option Nat} {b : Blk} {sz : Nat} {es : List (List V)} {i j : Nat} {cs : List V} {x : T} (hb : zo mp b = .vs sz es) (hi : es[i]? = some cs) (hj : cs[j]? = some (.o x)) :
 ∃ es0 cs0, b = .vs sz es0 ∧ es0[i]? = some cs0 ∧ cs0[j]? = some (.o x) := by
 cases b with
 | vs sz0 es0 =>
  simp only [zo] at hb
  cases hb
  rw [List.getElem?_map] at hi
  cases he : es0[i]? with
  | none => simp [he] at hi
  | some cs0 =>
   simp [he] at hi
   subst hi
   rw [pd] at hj
   cases hv : cs0[j]? with
   | none => simp [hv] at hj
   | some v =>
    simp [hv] at hj
    exact ⟨es0, cs0, rfl, he, by rw [hv, ren_o hj]⟩
 | _ => simp [zo] at hb
theorem fX {mp : Nat → Option Nat} {sz : Nat} {es : List (List V)} {i j : Nat} {cs : List V} {x : T} (hi : es[i]? = some cs) (hj : cs[j]? = some (.o x)) :
 ∃ es' cs', zo mp (.vs sz es) = .vs sz es' ∧ es'[i]? = some cs' ∧ cs'[j]? = some (.o x) :=
 ⟨_, _, rfl, by rw [List.getElem?_map, hi]; rfl, by rw [pd, hj]; rfl⟩
theorem og {ids : List Nat} {k : Nat} {b : Blk} (hk : (w9 ids h)[k]? = some b) : ∃ r, ids[k]? = some r ∧ b = zo (idx ids) (h[r]?.getD .dead) := by
 simp only [w9, List.getElem?_map] at hk
 cases hr : ids[k]? with
 | none => simp [hr] at hk
 | some r => simp [hr] at hk; exact ⟨r, rfl, hk.symm⟩
theorem Yl {ids : List Nat} {k i j : Nat} {x : T} (ho : oAt (w9 ids h) k i j x) : ∃ r, ids[k]? = some r ∧ oAt h r i j x := by
 obtain ⟨sz, es, cs, h1, h2, h3⟩ := ho
 obtain ⟨r, hr, hb⟩ := og h1
 obtain ⟨es0, cs0, e1, e2, e3⟩ := fD hb.symm h2 h3
 cases hx : h[r]? with
 | none => rw [hx] at e1; cases e1
 | some b0 => rw [hx] at e1; simp at e1; subst e1; exact ⟨r, hr, sz, es0, cs0, hx, e2, e3⟩
theorem Yc {ids : List Nat} {k r i j : Nat} {x : T} (hr : ids[k]? = some r) (ho : oAt h r i j x) : oAt (w9 ids h) k i j x := by
 obtain ⟨sz, es, cs, h1, h2, h3⟩ := ho
 obtain ⟨es', cs', e1, e2, e3⟩ := fX (mp := idx ids) (sz := sz) h2 h3
 refine ⟨sz, es', cs', ?_, e2, e3⟩
 simp [w9, hr, h1, e1]
theorem fZ {ids : List Nat} (hnd : ids.Nodup) {i j r : Nat} (hi : ids[i]? = some r) (hj : ids[j]? = some r) : i = j := by
 obtain ⟨x1, x2⟩ := List.getElem?_eq_some_iff.1 hi
 obtain ⟨y1, y2⟩ := List.getElem?_eq_some_iff.1 hj
 have hpw := List.pairwise_iff_getElem.1 hnd
 rcases Nat.lt_or_ge i j with hlt | hge
 · exact absurd (x2.trans y2.symm) (hpw i j x1 y1 hlt)
 · rcases Nat.lt_or_ge j i with hlt | hge'
   · exact absurd (y2.trans x2.symm) (hpw j i y1 x1 hlt)
   · omega
def qE (ids : List Nat) (φ : Nat → Nat → Nat → Nat → Prop) : Nat → Nat → Nat → Nat → Prop := fun k i j b => ∃ r, ids[k]? = some r ∧ φ r i j b
theorem fL {ids : List Nat} (hnd : ids.Nodup) {φ : Nat → Nat → Nat → Nat → Prop} (hφ : tG w F ρ Ow h φ) : tG w F (y8 ρ ids) Ow (w9 ids h) (qE ids φ) := by
 refine ⟨fun k i j x ho => ?_, fun k i j b hb => ?_, fun k i j k' i' j' b h1 h2 => ?_, fun k i j b r' b' L' h1 h2 h3 h4 => ?_⟩
 · obtain ⟨r, hr, ho0⟩ := Yl ho
   obtain ⟨L, u, k1, k2, k3⟩ := hφ.cell r i j x ho0
   exact ⟨L, u, by simp [y8, hr, k1], k2, k3.mono fun b hb => ⟨⟨r, hr, hb⟩, rfl⟩⟩
 · obtain ⟨r, hr, hb⟩ := hb
   obtain ⟨⟨x, ho⟩, k2⟩ := hφ.act r i j b hb
   exact ⟨⟨x, Yc hr ho⟩, k2⟩
 · obtain ⟨r, hr, h1⟩ := h1
   obtain ⟨r', hr', h2⟩ := h2
   obtain ⟨rfl, k2⟩ := hφ.sep r i j r' i' j' b h1 h2
   exact ⟨fZ hnd hr hr', k2⟩
 · obtain ⟨r, hr, h1⟩ := h1
   obtain ⟨r0, hr0, rfl⟩ := og h2
   rw [xL] at h3
   cases hb' : h[r0]? with
   | none => simp [hb', writes] at h3
   | some b1 =>
    simp [hb'] at h3
    exact hφ.apart r i j b r0 b1 L' h1 hb' h3 (by rw [← h4]; simp [y8, hr0])
theorem pg {ids : List Nat} (hnd : ids.Nodup) (hS : St w F ρ Ow h) : St w F (y8 ρ ids) Ow (w9 ids h) := by
 refine ⟨fun i b hi => ?_, fun i j b b' L L' hi hj hw hw' hL hL' heq => ?_, hS.fsz, fun i hi => ?_, ?_⟩
 rotate_left 3
 · obtain ⟨φ, hφ⟩ := hS.own
   exact ⟨_, fL hnd hφ⟩
 all_goals unfold w9 at *
 · simp only [List.getElem?_map] at hi
   cases hr : ids[i]? with
   | none => simp [hr] at hi
   | some r =>
    simp [hr] at hi
    subst hi
    cases hb : h[r]? with
    | none => simp [zo]; trivial
    | some b0 => simp; exact Tk ids hr (hS.blk r b0 hb)
 · simp only [List.getElem?_map] at hi hj
   cases hr : ids[i]? with
   | none => simp [hr] at hi
   | some r =>
   cases hr' : ids[j]? with
   | none => simp [hr'] at hj
   | some r' =>
    simp [hr] at hi
    simp [hr'] at hj
    subst hi; subst hj
    rw [xL] at hw hw'
    cases hb : h[r]? with
    | none => simp [hb, writes] at hw
    | some b0 =>
    cases hb' : h[r']? with
    | none => simp [hb', writes] at hw'
    | some b1 =>
     simp [hb] at hw
     simp [hb'] at hw'
     have e1 : ρ r = some (some L) := by rw [← hL]; simp [y8, hr]
     have e2 : ρ r' = some (some L') := by rw [← hL']; simp [y8, hr']
     have := hS.inj r r' b0 b1 L L' hb hb' hw hw' e1 e2 heq
     subst this
     have hi1 := (List.getElem?_eq_some_iff.1 hr)
     have hj1 := (List.getElem?_eq_some_iff.1 hr')
     obtain ⟨x1, x2⟩ := hi1
     obtain ⟨y1, y2⟩ := hj1
     have hpw := List.pairwise_iff_getElem.1 hnd
     rcases Nat.lt_or_ge i j with hlt | hge
     · exact absurd (x2.trans y2.symm) (hpw i j x1 y1 hlt)
     · rcases Nat.lt_or_ge j i with hlt | hge'
       · exact absurd (y2.trans x2.symm) (hpw j i y1 x1 hlt)
       · omega
 · simp only [List.length_map] at hi
   simp [y8, List.getElem?_eq_none hi]
theorem iC {m : Nat} {vals : List V} (hS : St w F ρ Ow h) {us : List Value} (hu : RVs w F ρ us vals) :
 ∃ ρ', RVs w F ρ' us (yl m vals h).1 ∧ St w F ρ' Ow (yl m vals h).2 ∧ ∀ r, r < m → ρ' r = ρ r := by
 have hfirst := ql m vals h
 have hnd : (reach h 3 (yJ (List.range m) (refs.refss vals))).Nodup := sH h 3 _ (vj _ _ List.nodup_range)
 exact ⟨y8 ρ _, bY _ vals hu, pg hnd hS, fun r hr => by simp [y8, hfirst r hr]⟩
def zL : yd := fun _ => none
theorem ml (ρ : yd) : Ext zL ρ := fun _ _ h => by cases h
/-- what an open call may write: its rows' blocks, and new ones -/
def wU (Ow : Own) (w : World) (ρ : yd) (h : Heap) (φ : Nat → Nat → Nat → Nat → Prop) : Own :=
 own fun b => Ow b ∧ (w.heap.size ≤ b ∨ (∃ i bl L, h[i]? = some bl ∧ writes bl = true ∧ ρ i = some (some L) ∧ L.b = b) ∨ ∃ r i j, φ r i j b)
theorem Ts {ids : List Nat} (hS : St w F (y8 ρ ids) Ow (w9 ids h)) {φ : Nat → Nat → Nat → Nat → Prop} (hφ : tG w F (y8 ρ ids) Ow (w9 ids h) φ) :
 St w F (y8 ρ ids) (wU Ow w (y8 ρ ids) (w9 ids h) φ) (w9 ids h) := by
 refine ⟨fun r b hr => ?_, hS.inj, hS.fsz, hS.out, φ, ⟨hφ.cell, fun r i j b hb => ?_, hφ.sep, hφ.apart⟩⟩
 rotate_left
 · obtain ⟨k1, k2, k3, k4⟩ := hφ.act r i j b hb
   exact ⟨k1, k2, ⟨k3, .inr (.inr ⟨r, i, j, hb⟩)⟩, k4⟩
 have h0 := hS.blk r b hr
 have sub : ∀ L, y8 ρ ids r = some (some L) → writes b = true → Ow L.b → (wU Ow w (y8 ρ ids) (w9 ids h) φ) L.b := fun L h1 h2 h3 => ⟨h3, .inr (.inl ⟨r, b, L, hr, h2, h1, rfl⟩)⟩
 cases b with
 | ts sz es =>
  rcases h0 with ⟨L, h1, h2, h3, h4, h5⟩ | h0
  · exact .inl ⟨L, h1, h2, h3, h4, sub L h1 rfl h5⟩
  · exact .inr h0
 | vs sz es =>
  rcases h0 with ⟨L, h1, h2, h3, h4, h5⟩ | h0
  · exact .inl ⟨L, h1, h2, h3, h4, sub L h1 rfl h5⟩
  · exact .inr h0
 | fz sz es => exact h0
 | dead => trivial
theorem rk {k : Nat} : xE h k = true ↔ ∃ b, h[k]? = some b ∧ b ≠ .dead := by
 unfold xE
 cases hk : h[k]? with
 | none => simp
 | some b => cases b <;> simp
theorem xf (mp : Nat → Option Nat) (h0 : Heap) : ∀ (ids : List Nat) (bs h : Heap), (z6 mp h0 ids bs h).length = h.length
 | [], bs, h => by simp [z6]
 | i :: is, [], h => by simp [z6]
 | i :: is, b :: bs, h => by simp only [z6]; rw [xf]; split <;> simp
theorem wH (mp : Nat → Option Nat) (h0 : Heap) {k : Nat} : ∀ (ids : List Nat) (bs h : Heap), (k ∈ ids → xE h0 k = false) → (z6 mp h0 ids bs h)[k]? = h[k]?
 | [], bs, h, _ => by simp [z6]
 | i :: is, [], h, _ => by simp [z6]
 | i :: is, b :: bs, h, hk => by
  simp only [z6]
  rw [wH mp h0 is bs _ fun hx => hk (by simp [hx])]
  split
  · rename_i hl
    by_cases e : i = k
    · subst e; rw [hk (by simp)] at hl; cases hl
    · exact List.getElem?_set_ne e
  · rfl
theorem qo (mp : Nat → Option Nat) (h0 : Heap) {k : Nat} (hl : xE h0 k = true) : ∀ (ids : List Nat) (bs h : Heap) (j : Nat) (b : Blk), ids.Nodup → ids[j]? = some k → bs[j]? = some b → k < h.length → (z6 mp h0 ids bs h)[k]? = some (zo mp b)
 | [], bs, h, j, b, _, hi, _, _ => by simp at hi
 | i :: is, [], h, j, b, _, _, hb, _ => by simp at hb
 | i :: is, b0 :: bs, h, j, b, hnd, hi, hb, hk => by
  simp only [z6]
  have hnd' := List.nodup_cons.1 hnd
  cases j with
  | zero =>
   simp at hi hb
   subst hi; subst hb
   rw [wH mp h0 is bs _ fun hx => absurd hx hnd'.1, if_pos hl]
   simp [hk]
  | succ j =>
   refine qo mp h0 hl is bs _ j b hnd'.2 (by simpa using hi) (by simpa using hb) ?_
   split <;> simpa using hk
theorem kI {ids : List Nat} (hnd : ids.Nodup) (hS : St w F ρ Ow h) {φ : Nat → Nat → Nat → Nat → Prop} (hφ : tG w F ρ Ow h φ) (hz : ∀ r, Ow.z r → r < h.length) {w' : World} {F' : Nat → Prop} {ρ' : yd} {h1 h2 : Heap} {u : Value} {v v2 : V} {N : Option Nat} (hb : yZ N ids v h1 h = some (v2, h2))
 (hu : RV w' F' ρ' u v) (hS1 : St w' F' ρ' (wU Ow w (y8 ρ ids) (w9 ids h) (qE ids φ)) h1) (hN : Nxt (wU Ow w (y8 ρ ids) (w9 ids h) (qE ids φ)) w F zL w' F' zL) (hk : ∀ r l, r < ids.length → y8 ρ ids r = some l → ρ' r = some l) :
 ∃ ρ2, RV w' F' ρ2 u v2 ∧ St w' F' ρ2 Ow h2 ∧ Nxt Ow w F ρ w' F' ρ2 := by
 unfold yZ at hb
 split at hb
 · cases hb
 rename_i hc
 simp only [Bool.or_eq_true, decide_eq_true_eq, not_or, Nat.not_lt] at hc
 obtain ⟨hlen, -⟩ := hc
 cases hb
 let ρ2 : yd := fun r => if r < h.length then ρ r else ρ' (ids.length + (r - h.length))
 have lo : ∀ r, r < h.length → ρ2 r = ρ r := fun r hr => if_pos hr
 have hi : ∀ t, ρ2 (h.length + t) = ρ' (ids.length + t) := fun t => by
  show (if h.length + t < h.length then _ else _) = _
  rw [if_neg (by omega)]; congr 1; omega
 have hext : Ext ρ ρ2 := fun r l hl => by
  rcases Nat.lt_or_ge r h.length with h1 | h1
  · rw [lo r h1]; exact hl
  · rw [hS.out r h1] at hl; cases hl
 -- a live row that came in
 have come : ∀ j k, ids[j]? = some k → xE h k = true → k < h.length ∧ ρ2 k = ρ' j ∧ ∃ l, ρ k = some l := fun j k hj hl => by
  obtain ⟨b, hb, hne⟩ := rk.1 hl
  have hkl := (List.getElem?_eq_some_iff.1 hb).1
  obtain ⟨l, hl'⟩ := (hS.blk k b hb).some hne
  refine ⟨hkl, ?_, l, hl'⟩
  rw [lo k hkl, hl']
  exact (hk j l (List.getElem?_eq_some_iff.1 hj).1 (by simp [y8, hj, hl'])).symm
 have hm : ∀ r r', vc ids h r = some r' → ∀ l, ρ' r = some l → ρ2 r' = some l := fun r r' hr l hl => by
  unfold vc at hr
  split at hr
  · split at hr
    · rename_i k hk'
      split at hr
      · rename_i hlv
        cases hr
        rw [(come r _ hk' hlv).2.1]; exact hl
      · cases hr
    · cases hr
  · rename_i hge
    cases hr
    rw [hi, show ids.length + (r - ids.length) = r by omega]; exact hl
 -- rows by where they come from
 have orig : ∀ k b, (z6 (vc ids h) h ids h1 h ++ (h1.drop ids.length).map (zo (vc ids h)))[k]? = some b →
  (k < h.length ∧ h[k]? = some b ∧ (k ∈ ids → xE h k = false)) ∨ ∃ j b1, h1[j]? = some b1 ∧ b = zo (vc ids h) b1 ∧ ρ2 k = ρ' j ∧ ((ids[j]? = some k ∧ xE h k = true) ∨ (ids.length ≤ j ∧ k = h.length + (j - ids.length))) := fun k b hkb => by
  rcases Nat.lt_or_ge k h.length with hlt | hge
  · rw [List.getElem?_append_left (by rw [xf]; exact hlt)] at hkb
    by_cases hin : k ∈ ids ∧ xE h k = true
    · right
      obtain ⟨j, hj⟩ := List.mem_iff_getElem?.1 hin.1
      have hjl := (List.getElem?_eq_some_iff.1 hj).1
      have hbj := List.getElem?_eq_getElem (show j < h1.length by omega)
      rw [qo _ h hin.2 ids h1 h j _ hnd hj hbj hlt] at hkb
      cases hkb
      exact ⟨j, _, hbj, rfl, (come j k hj hin.2).2.1, .inl ⟨hj, hin.2⟩⟩
    · have hoff : k ∈ ids → xE h k = false := fun hx => by simpa [hx] using hin
      rw [wH _ h ids h1 h hoff] at hkb
      exact .inl ⟨hlt, hkb, hoff⟩
  · rw [List.getElem?_append_right (by rw [xf]; exact hge), xf, List.getElem?_map, List.getElem?_drop] at hkb
    right
    cases hx : h1[ids.length + (k - h.length)]? with
    | none => simp [hx] at hkb
    | some b1 =>
     simp [hx] at hkb
     refine ⟨_, b1, hx, hkb.symm, ?_, .inr ⟨by omega, by omega⟩⟩
     have := hi (k - h.length)
     rwa [show h.length + (k - h.length) = k by omega] at this
 have hOw : ∀ b, (wU Ow w (y8 ρ ids) (w9 ids h) (qE ids φ)) b → Ow b := fun b hx => hx.1
 -- a row that did not go in keeps its block
 have apart : ∀ k b, h[k]? = some b → (k ∈ ids → xE h k = false) → writes b = true → ∀ L, ρ k = some (some L) → ¬ (wU Ow w (y8 ρ ids) (w9 ids h) (qE ids φ)) L.b := fun k b hb hoff hw L hL hx => by
  obtain ⟨h3, h4, h5⟩ := (hS.blk k b hb).vF hw hL
  obtain ⟨_, hx | ⟨i, bl, L', hi', hw', hL', he⟩ | ⟨kx, i, j, r, _, hφb⟩⟩ := hx
  · omega
  · simp only [w9, List.getElem?_map] at hi'
    cases hr : ids[i]? with
    | none => simp [hr] at hi'
    | some r =>
     simp [hr] at hi'
     subst hi'
     rw [xL] at hw'
     cases hb' : h[r]? with
     | none => simp [hb', writes] at hw'
     | some b' =>
      simp [hb'] at hw'
      have e1 : ρ r = some (some L') := by rw [← hL']; simp [y8, hr]
      have := hS.inj k r b b' L L' hb hb' hw hw' hL e1 he.symm
      subst this
      have hlv := hoff (List.mem_of_getElem? hr)
      rw [hb'] at hb; cases hb
      have : xE h k = true := rk.2 ⟨_, hb', by intro e; subst e; simp [writes] at hw⟩
      rw [hlv] at this; cases this
  · exact hφ.apart r i j L.b k b L hφb hb hw hL rfl
 have hkeep : ∀ k b, h[k]? = some b → (k ∈ ids → xE h k = false) → ∀ L, ρ k = some (some L) → writes b = true → w'.heap[L.b]? = w.heap[L.b]? ∧ ¬ F' L.b := fun k b hb hoff L hL hw => by
  obtain ⟨h3, h4, h5⟩ := (hS.blk k b hb).vF hw hL
  have hno := apart k b hb hoff hw L hL
  exact ⟨hN.keep L.b h5 hno, fun hx => (hN.new L.b hx).elim h3 hno⟩
 refine ⟨ρ2, nw hm v hu, ⟨fun k b hkb => ?_, fun k k' b b' L L' hkb hkb' hw hw' hL hL' he => ?_, hS1.fsz, fun k hk' => ?_, ?_⟩, ⟨hN.os, hN.tape, hN.output, hN.size, fun b hb ho => hN.keep b hb fun hx => ho (hOw b hx), hN.agree, hN.grow, fun b hb => (hN.new b hb).imp id (hOw b), hext, fun r hr => lo r (hz r hr)⟩⟩
 · rcases orig k b hkb with ⟨h3, h4, h5⟩ | ⟨j, b1, h3, rfl, h5, h6⟩
   · exact (hS.blk k b h4).mono hN.agree hN.grow hext (hkeep k b h4 h5)
   · exact fE hm (fun _ => h5) (fun L _ _ hx => hOw _ hx) (hS1.blk j b1 h3)
 · have toOld : ∀ k b L, h[k]? = some b → ρ2 k = some (some L) → writes b = true → ρ k = some (some L) := fun k b L hb hL hw => by
    rw [← lo k (List.getElem?_eq_some_iff.1 hb).1]; exact hL
   rcases orig k b hkb with ⟨h3, h4, h5⟩ | ⟨j, b1, h3, rfl, h5, h6⟩
   · have hL0 := toOld k b L h4 hL hw
     rcases orig k' b' hkb' with ⟨g3, g4, g5⟩ | ⟨j', b1', g3, rfl, g5, g6⟩
     · exact hS.inj k k' b b' L L' h4 g4 hw hw' hL0 (toOld k' b' L' g4 hL' hw') he
     · exfalso
       rw [xL] at hw'
       rw [g5] at hL'
       have := ((hS1.blk j' b1' g3).vF hw' hL').2.1
       rw [← he] at this
       exact apart k b h4 h5 hw L hL0 this
   · rw [xL] at hw
     rw [h5] at hL
     rcases orig k' b' hkb' with ⟨g3, g4, g5⟩ | ⟨j', b1', g3, rfl, g5, g6⟩
     · exfalso
       have := ((hS1.blk j b1 h3).vF hw hL).2.1
       rw [he] at this
       exact apart k' b' g4 g5 hw' L' (toOld k' b' L' g4 hL' hw') this
     · rw [xL] at hw'
       rw [g5] at hL'
       have := hS1.inj j j' b1 b1' L L' h3 g3 hw hw' hL hL' he
       subst this
       rcases h6 with ⟨h6, _⟩ | ⟨h6, h7⟩
       · rcases g6 with ⟨g6, _⟩ | ⟨g6, _⟩
         · rw [h6] at g6; cases g6; rfl
         · have := (List.getElem?_eq_some_iff.1 h6).1; omega
       · rcases g6 with ⟨g6, _⟩ | ⟨_, g7⟩
         · have := (List.getElem?_eq_some_iff.1 g6).1; omega
         · omega
 · simp only [List.length_append, xf, List.length_map, List.length_drop] at hk'
   have : ρ2 k = ρ' (ids.length + (k - h.length)) := by
    have := hi (k - h.length)
    rwa [show h.length + (k - h.length) = k by omega] at this
   rw [this]
   exact hS1.out _ (by omega)
 · -- the owned cells
   obtain ⟨φ1, hφ1⟩ := hS1.own
   let pos : Nat → Nat → Prop := fun j k => (ids[j]? = some k ∧ xE h k = true) ∨ (ids.length ≤ j ∧ k = h.length + (j - ids.length))
   have posρ : ∀ j k, pos j k → ρ2 k = ρ' j := fun j k hp => by
    rcases hp with ⟨p1, p2⟩ | ⟨p1, rfl⟩
    · obtain ⟨b, hb, _⟩ := rk.1 p2
      exact (come j k p1 p2).2.1
    · have := hi (j - ids.length)
      rwa [show ids.length + (j - ids.length) = j by omega] at this
   have posj : ∀ j j' k, pos j k → pos j' k → j = j' := fun j j' k h3 h4 => by
    rcases h3 with ⟨p1, p2⟩ | ⟨p1, p2⟩ <;> rcases h4 with ⟨q1, q2⟩ | ⟨q1, q2⟩
    · exact fZ hnd p1 q1
    · have := (come j k p1 p2).1; omega
    · have := (come j' k q1 q2).1; omega
    · omega
   have posk : ∀ j k k', pos j k → pos j k' → k = k' := fun j k k' h3 h4 => by
    rcases h3 with ⟨p1, p2⟩ | ⟨p1, p2⟩ <;> rcases h4 with ⟨q1, q2⟩ | ⟨q1, q2⟩
    · rw [p1] at q1; cases q1; rfl
    · have := (List.getElem?_eq_some_iff.1 p1).1; omega
    · have := (List.getElem?_eq_some_iff.1 q1).1; omega
    · omega
   have lay : ∀ j k b1, pos j k → h1[j]? = some b1 → (z6 (vc ids h) h ids h1 h ++ (h1.drop ids.length).map (zo (vc ids h)))[k]? = some (zo (vc ids h) b1) := fun j k b1 hp hb => by
    rcases hp with ⟨p1, p2⟩ | ⟨p1, rfl⟩
    · have hkl := (come j k p1 p2).1
      rw [List.getElem?_append_left (by rw [xf]; exact hkl)]
      exact qo _ h p2 ids h1 h j _ hnd p1 hb hkl
    · rw [List.getElem?_append_right (by rw [xf]; omega), xf, List.getElem?_map, List.getElem?_drop, show ids.length + (h.length + (j - ids.length) - h.length) = j by omega, hb]; rfl
   have stay : ∀ k b, h[k]? = some b → (k ∈ ids → xE h k = false) → (z6 (vc ids h) h ids h1 h ++ (h1.drop ids.length).map (zo (vc ids h)))[k]? = some b := fun k b hb hoff => by
    rw [List.getElem?_append_left (by rw [xf]; exact (List.getElem?_eq_some_iff.1 hb).1), wH _ h ids h1 h hoff]; exact hb
   have oldb : ∀ k i c b, (k ∈ ids → xE h k = false) → φ k i c b → ¬ (wU Ow w (y8 ρ ids) (w9 ids h) (qE ids φ)) b := fun k i c b hoff hb hx => by
    obtain ⟨⟨x, sz, es, cs, q1, _⟩, q2, q3, q4⟩ := hφ.act k i c b hb
    obtain ⟨_, hx | ⟨i', bl, L', hi', hw', hL', he⟩ | ⟨kx, i', j', r, hr, hφb⟩⟩ := hx
    · omega
    · obtain ⟨r, hr, rfl⟩ := og hi'
      rw [xL] at hw'
      cases hb' : h[r]? with
      | none => simp [hb', writes] at hw'
      | some b' =>
       simp [hb'] at hw'
       exact hφ.apart k i c b r b' L' hb hb' hw' (by rw [← hL']; simp [y8, hr]) he
    · obtain ⟨rfl, _⟩ := hφ.sep k i c r i' j' b hb hφb
      have hlv := hoff (List.mem_of_getElem? hr)
      have : xE h k = true := rk.2 ⟨_, q1, by simp⟩
      rw [hlv] at this; cases this
   refine ⟨fun k i c b => (∃ j, pos j k ∧ φ1 j i c b) ∨ (k < h.length ∧ (k ∈ ids → xE h k = false) ∧ φ k i c b), ⟨fun k i c x ho => ?_, fun k i c b hb => ?_, fun k i c k' i' c' b h3 h4 => ?_, fun k i c b r' b' L' h3 h4 h5 h6 he => ?_⟩⟩
   · obtain ⟨sz, es, cs, q1, q2, q3⟩ := ho
     rcases orig k _ q1 with ⟨p1, p2, p3⟩ | ⟨j, b1, p1, p2, p3, p4⟩
     · obtain ⟨L, u, k1, k2, k3⟩ := hφ.cell k i c x ⟨sz, es, cs, p2, q2, q3⟩
       refine ⟨L, u, (lo k p1).trans k1, vy (hkeep k _ p2 p3 L k1 rfl).1 k2, k3.mono fun b hb => ⟨.inr ⟨p1, p3, hb⟩, ?_⟩⟩
       exact hN.keep b (hφ.act k i c b hb).2.2.2 (oldb k i c b p3 hb)
     · obtain ⟨es0, cs0, rfl, e2, e3⟩ := fD p2.symm q2 q3
       obtain ⟨L, u, k1, k2, k3⟩ := hφ1.cell j i c x ⟨sz, es0, cs0, p1, e2, e3⟩
       exact ⟨L, u, p3.trans k1, k2, k3.mono fun b hb => ⟨.inl ⟨j, p4, hb⟩, rfl⟩⟩
   · rcases hb with ⟨j, hp, hb⟩ | ⟨p1, p2, hb⟩
     · obtain ⟨⟨x, sz, es, cs, q1, q2, q3⟩, k2, k3, k4⟩ := hφ1.act j i c b hb
       obtain ⟨es', cs', e1, e2, e3⟩ := fX (mp := vc ids h) (sz := sz) q2 q3
       exact ⟨⟨x, sz, es', cs', by rw [lay j k _ hp q1, e1], e2, e3⟩, k2, hOw b k3, k4⟩
     · obtain ⟨⟨x, sz, es, cs, q1, q2, q3⟩, k2, k3, k4⟩ := hφ.act k i c b hb
       exact ⟨⟨x, sz, es, cs, stay k _ q1 p2, q2, q3⟩, fun hx => (hN.new b hx).elim k2 (oldb k i c b p2 hb), k3, Nat.lt_of_lt_of_le k4 hN.size⟩
   · rcases h3 with ⟨j, hp, hb⟩ | ⟨p1, p2, hb⟩ <;> rcases h4 with ⟨j', hp', hb'⟩ | ⟨p1', p2', hb'⟩
     · obtain ⟨rfl, k2⟩ := hφ1.sep j i c j' i' c' b hb hb'
       exact ⟨posk j k k' hp hp', k2⟩
     · exact absurd (hφ1.act j i c b hb).2.2.1 (oldb k' i' c' b p2' hb')
     · exact absurd (hφ1.act j' i' c' b hb').2.2.1 (oldb k i c b p2 hb)
     · exact hφ.sep k i c k' i' c' b hb hb'
   · rcases orig r' b' h4 with ⟨p1, p2, p3⟩ | ⟨j', b1, p1, rfl, p3, p4⟩
     · have hL0 : ρ r' = some (some L') := by rw [← lo r' p1]; exact h6
       rcases h3 with ⟨j, hp, hb⟩ | ⟨_, _, hb⟩
       · exact apart r' b' p2 p3 h5 L' hL0 (he ▸ (hφ1.act j i c b hb).2.2.1)
       · exact hφ.apart k i c b r' b' L' hb p2 h5 hL0 he
     · rw [xL] at h5
       rw [p3] at h6
       rcases h3 with ⟨j, hp, hb⟩ | ⟨_, q2, hb⟩
       · exact hφ1.apart j i c b j' b1 L' hb p1 h5 h6 he
       · exact oldb k i c b q2 hb (he ▸ ((hS1.blk j' b1 p1).vF h5 h6).2.1)
theorem iV (hS : St w F ρ Ow h) {r off len sz : Nat} {cap : Option Nat} {es : List (List T)} (hb : h[r]? = some (.ts sz es) ∨ h[r]? = some (.fz sz es)) {u : Value} (hu : RV w F ρ u (.sl r off len cap)) {F' : Nat → Prop} (hF : ∀ b, b < w.heap.size → F' b) :
 RT w F' u (.list sz ((es.drop off).take len)) := by
 have main : ∀ L, ρ r = some (some L) → L.sz = sz → xA w L es (RT w F) → RT w F' u (.list sz ((es.drop off).take len)) := fun L h1 h2 h3 => by
  have hlt : L.b < w.heap.size := by
   obtain ⟨_, _, c, el, fr, hh, _⟩ := h3
   exact (Array.getElem?_eq_some_iff.1 hh).1
  exact sZ h1 hu h2 (h3.mono rfl fun u x hx => hx.mono (fun _ _ => rfl) fun b hb => hF b (hS.fsz b hb)) (hF _ hlt)
 have empty : ρ r = some none → es = [] → RT w F' u (.list sz ((es.drop off).take len)) := fun h1 h2 => by
  subst h2
  cases hu with
  | sl r off len cap L a c hρ' => rw [h1] at hρ'; cases hρ'
  | slP r cap a hρ hc => simpa using vq F' a sz
 rcases hb with hb | hb
 · rcases hS.blk r _ hb with ⟨L, h1, h2, h3, h4, h5⟩ | ⟨h1, h2⟩
   · exact main L h1 h2 h3
   · exact empty h1 h2
 · rcases hS.blk r _ hb with ⟨L, h1, h2, h3, h4⟩ | ⟨h1, h2⟩
   · exact main L h1 h2 h3
   · exact empty h1 h2
/-- a struct's or a row's place, seen through a pointer that reads alone -/
theorem ZD {L : Loc} {i j : Nat} {α : Type} {es : List (List α)} {R : Value → α → Prop} (hr : xA w L es R) {cs : List α} (hi : es[i]? = some cs) {xs : List T} (hl : xs.length ≤ (cs.drop j).length) {F' : Nat → Prop} (hF : F' L.b)
 (hx : ∀ (k : Nat) x u v, xs[k]? = some x → (cs.drop j)[k]? = some v → cellAt w L i (j + k) u → R u v → RT w F' u x) : RT w F' (.pointer (some ⟨L.b, L.o + (i * L.sz + j), none⟩)) (.fp xs) := by
 obtain ⟨h1, h2, cc, el, fr, hh, hs, hf, hzz, hc⟩ := hr
 have key : ∀ k, k < xs.length → ∃ v u, (cs.drop j)[k]? = some v ∧ cc[L.o + (i * L.sz + (j + k))]? = some u ∧ R u v := fun k hk => by
  have hk' : k < (cs.drop j).length := Nat.lt_of_lt_of_le hk hl
  have hv := List.getElem?_eq_getElem hk'
  have hv' := hv
  rw [List.getElem?_drop] at hv'
  obtain ⟨u, hu, hru⟩ := hc i (j + k) cs _ hi hv'
  exact ⟨_, u, hv, hu, hru⟩
 refine .fp L.b _ xs (fun k => (cc[L.o + (i * L.sz + (j + k))]?).getD undef) hF (fun k hk => ?_) fun k x hk => ?_
 · obtain ⟨v, u, e1, e2, e3⟩ := key k hk
   rw [e2]
   unfold World.cell?
   rw [hh]
   simp only [Option.isSome_none, Option.getD_some]
   rw [show L.o + (i * L.sz + j) + k = L.o + (i * L.sz + (j + k)) by omega]
   simpa using e2
 · have hkl : k < xs.length := (List.getElem?_eq_some_iff.1 hk).1
   obtain ⟨v, u, e1, e2, e3⟩ := key k hkl
   rw [e2]
   exact hx k x u v hk e1 ⟨cc, el, fr, hh, e2⟩ e3
theorem dw : ∀ {vs : List V} {xs : List T}, wx vs = some xs → xs.length = vs.length ∧ ∀ (j : Nat) x, xs[j]? = some x → vs[j]? = some (.t x)
 | [], xs, hx => by simp only [wx] at hx; cases hx; exact ⟨rfl, fun j x h => by simp at h⟩
 | v :: vs, xs, hx => by
  simp only [wx] at hx
  split at hx
  · split at hx
    · rename_i xs' h2
      cases hx
      obtain ⟨k1, k2⟩ := dw h2
      refine ⟨by simp [k1], fun j x hj => ?_⟩
      cases j with
      | zero => simp at hj; subst hj; rfl
      | succ j => simpa using k2 j x (by simpa using hj)
    · cases hx
  · cases hx
theorem W5 (hS : St w F ρ Ow h) {F' : Nat → Prop} (hF : ∀ b, b < w.heap.size → F' b) {v : V} {u : Value} {x : T} (hu : RV w F ρ u v) (hx : sg h v = some x) : RT w F' u x := by
 cases v with
 | t y =>
  simp only [sg] at hx; cases hx
  cases hu with
  | t _ _ hy => exact hy.mono (fun _ _ => rfl) fun b hb => hF b (hS.fsz b hb)
 | ptr r i j =>
  have lt : ∀ {α : Type} {L : Loc} {es : List (List α)} {R : Value → α → Prop}, xA w L es R → F' L.b := fun hr => by
   obtain ⟨_, _, c, el, fr, hh, _⟩ := hr
   exact hF _ (Array.getElem?_eq_some_iff.1 hh).1
  cases hu with
  | ptr r i j L hρ =>
  have flat : ∀ es : List (List T), xA w L es (RT w F) → ∀ cs, es[i]? = some cs → RT w F' (.pointer (some ⟨L.b, L.o + (i * L.sz + j), none⟩)) (.fp (cs.drop j)) := fun es h3 cs hi =>
   ZD h3 hi (Nat.le_refl _) (lt h3) fun k x u v h1 h2 _ hr => by
    rw [h1] at h2; cases h2
    exact hr.mono (fun _ _ => rfl) fun b hb => hF b (hS.fsz b hb)
  simp only [sg] at hx
  split at hx
  · rename_i sz es hb
    split at hx
    · rename_i cs hi
      cases hx
      rcases hS.blk r _ hb with ⟨L', h1, h2, h3, h4, h5⟩ | ⟨h1, h2⟩
      · rw [hρ] at h1; cases h1; exact flat es h3 cs hi
      · rw [hρ] at h1; cases h1
    · cases hx
  · rename_i sz es hb
    split at hx
    · rename_i cs hi
      cases hx
      rcases hS.blk r _ hb with ⟨L', h1, h2, h3, h4⟩ | ⟨h1, h2⟩
      · rw [hρ] at h1; cases h1; exact flat es h3 cs hi
      · rw [hρ] at h1; cases h1
    · cases hx
  · rename_i sz es hb
    split at hx
    · rename_i cs hi
      split at hx
      · rename_i xs hxs
        cases hx
        obtain ⟨k1, k2⟩ := dw hxs
        rcases hS.blk r _ hb with ⟨L', h1, h2, h3, h4, h5⟩ | ⟨h1, h2⟩
        · rw [hρ] at h1; cases h1
          refine ZD h3 hi (by rw [k1]; exact Nat.le_refl _) (lt h3) fun k x u v h1 h2 hcell hr => ?_
          have e1 := k2 k x h1
          rw [e1] at h2; cases h2
          cases hr with
          | t _ _ hy => exact hy.mono (fun _ _ => rfl) fun b hb => hF b (hS.fsz b hb)
        · rw [hρ] at h1; cases h1
      · cases hx
    · cases hx
  · cases hx
 | _ => simp [sg] at hx
theorem km (hS : St w F ρ Ow h) {F' : Nat → Prop} (hF : ∀ b, b < w.heap.size → F' b) : ∀ {vs : List V} {us : List Value} {xs : List T}, RVs w F ρ us vs → vN h vs = some xs → RTs w F' us xs
 | [], us, xs, hu, hx => by simp only [vN] at hx; cases hx; cases hu; exact .nil
 | v :: vs, us, xs, hu, hx => by
  simp only [vN] at hx
  split at hx
  · rename_i y h1
    split at hx
    · rename_i xs' h2
      cases hx
      cases hu with
      | cons hy hys => exact .cons (W5 hS hF hy h1) (km hS hF hys h2)
    · cases hx
  · cases hx
theorem fw (hS : St w F ρ Ow h) {F' : Nat → Prop} (hF : ∀ b, b < w.heap.size → F' b) {v : V} {u : Value} {x : T} (hu : RV w F ρ u v) (hx : wL h v = some x) : RT w F' u x := by
 cases v with
 | t y =>
  simp only [wL] at hx; cases hx
  cases hu with
  | t _ _ hy => exact hy.mono (fun _ _ => rfl) fun b hb => hF b (hS.fsz b hb)
 | nil sz =>
  simp only [wL] at hx; cases hx
  cases hu; exact vq F' none sz
 | sl r off len cap =>
  simp only [wL] at hx
  split at hx
  · rename_i sz es hb; cases hx; exact iV hS (.inl hb) hu hF
  · rename_i sz es hb; cases hx; exact iV hS (.inr hb) hu hF
  · cases hx
 | fn f caps =>
  simp only [wL] at hx
  split at hx
  · rename_i xs hxs
    cases hx
    cases hu with
    | fn f vs cs g hs hg hr => exact RT.fn' (km hS hF (xB hs hg hr) hxs)
  · cases hx
 | _ => simp [wL] at hx
theorem ua : ∀ {vs : List V} {xs : List T}, xR h vs = some xs → xs.length = vs.length
 | [], xs, hx => by simp only [xR] at hx; cases hx; rfl
 | v :: vs, xs, hx => by
  simp only [xR] at hx
  split at hx
  · split at hx
    · rename_i xs' h2; cases hx; simp [ua h2]
    · cases hx
  · cases hx
theorem qg : ∀ {vs : List V} {xs : List T}, xR h vs = some xs → ∀ (j : Nat) x, xs[j]? = some x → ∃ v, vs[j]? = some v ∧ zg h v = some x
 | [], xs, hx, j, x, hj => by simp only [xR] at hx; cases hx; simp at hj
 | v :: vs, xs, hx, j, x, hj => by
  simp only [xR] at hx
  split at hx
  · rename_i y h1
    split at hx
    · rename_i xs' h2
      cases hx
      cases j with
      | zero => simp at hj; subst hj; exact ⟨v, rfl, h1⟩
      | succ j => simpa using qg h2 j x (by simpa using hj)
    · cases hx
  · cases hx
theorem ko : ∀ {es : List (List V)} {xs : List (List T)}, uw h es = some xs → xs.length = es.length ∧ ∀ (i : Nat) ys, xs[i]? = some ys → ∃ cs, es[i]? = some cs ∧ xR h cs = some ys
 | [], xs, hx => by simp only [uw] at hx; cases hx; exact ⟨rfl, fun i ys hi => by simp at hi⟩
 | c :: cs, xs, hx => by
  simp only [uw] at hx
  split at hx
  · rename_i y h1
    split at hx
    · rename_i xs' h2
      cases hx
      obtain ⟨k1, k2⟩ := ko h2
      refine ⟨by simp [k1], fun i ys hi => ?_⟩
      cases i with
      | zero => simp at hi; subst hi; exact ⟨c, rfl, h1⟩
      | succ i => simpa using k2 i ys (by simpa using hi)
    · cases hx
  · cases hx
theorem RO.rt {u : Value} {x : T} {S : Nat → Prop} (hu : RO w u x S) {F' : Nat → Prop} (hF : ∀ b, b < w.heap.size → F' b) : RT w F' u x := by
 induction hu with
 | flat u x S hx hf h => exact h.mono (fun _ _ => rfl) fun _ hb => hb.elim
 | empty a sz S => exact vq F' a sz
 | list L c es S cc el fr g fp hn hlen hc hz hh hs hf hb hg hr hS hfp sep ih =>
  refine .list _ _ c _ es g hn hc (fun _ => ⟨L.b, L.o, rfl, hF _ (Array.getElem?_eq_some_iff.1 hh).1, fun i j hi hj => ?_⟩) hlen fun i j cs x h1 h2 => ih i j cs x h1 h2
  have hi' : i < es.length := by omega
  have h1 := List.getElem?_eq_getElem hi'
  have h2 := List.getElem?_eq_getElem (show j < (es[i]'hi').length by rw [hlen _ (List.getElem_mem hi')]; exact hj)
  have := hg i j _ _ h1 h2
  unfold World.cell?
  rw [hh]
  simpa using this
/-- a row's cell, read alone -/
theorem XY (hS : St w F ρ Ow h) {F' : Nat → Prop} (hF : ∀ b, b < w.heap.size → F' b) {r sz i j : Nat} {es : List (List V)} {cs : List V} {v : V} {x : T} {u : Value} {L : Loc} (hb : h[r]? = some (.vs sz es)) (hL : ρ r = some (some L)) (hi : es[i]? = some cs) (hj : cs[j]? = some v)
 (hu : cellAt w L i j u) (hr : RV w F ρ u v) (hx : zg h v = some x) : RT w F' u x := by
 by_cases hv : ∃ y, v = .o y
 · obtain ⟨y, rfl⟩ := hv
   simp only [zg] at hx
   cases hx
   obtain ⟨φ, hφ⟩ := hS.own
   obtain ⟨L1, u1, q1, ⟨cc1, el1, fr1, q2, q3⟩, q4⟩ := hφ.cell r i j x ⟨_, es, cs, hb, hi, hj⟩
   obtain ⟨cc, el, fr, p1, p2⟩ := hu
   rw [hL] at q1; cases q1
   rw [p1] at q2; cases q2
   rw [p2] at q3; cases q3
   exact q4.rt hF
 · have hx' : wL h v = some x := by
    rw [← hx]
    cases v <;> first | rfl | exact absurd ⟨_, rfl⟩ hv
   exact fw hS hF hr hx'
theorem W3 (hS : St w F ρ Ow h) {F' : Nat → Prop} (hF : ∀ b, b < w.heap.size → F' b) {r off len : Nat} {cap : Option Nat} {u : Value} (hu : RV w F ρ u (.sl r off len cap)) {sz : Nat} {es : List (List V)} (hb : h[r]? = some (.vs sz es)) {xs : List (List T)}
 (hxs : uw h ((es.drop off).take len) = some xs) : RT w F' u (.list sz xs) := by
 obtain ⟨e1, e2⟩ := ko hxs
 obtain ⟨φ, hφ⟩ := hS.own
 rcases hS.blk r _ hb with ⟨L, h1, h2, h3, h4, h5⟩ | ⟨h1, h2⟩
 · cases hu with
   | slP r cap a hρ' hc => rw [h1] at hρ'; cases hρ'
   | sl r off len cap L' a c hρ' ha hl hn hc0 hc1 hz =>
    rw [h1] at hρ'; cases hρ'
    obtain ⟨k1, k2, cc, el, fr, hh, hs, hf, hzz, hc⟩ := h3
    subst h2
    have hlen : ((es.drop off).take len).length = len := by simp; omega
    have cell : ∀ i j, i < len → j < L.sz → ∃ u x, (xs[i]?).bind (·[j]?) = some x ∧ cc[L.o + ((off + i) * L.sz + j)]? = some u ∧ RT w F' u x := fun i j hi hj => by
     have hi' : i < xs.length := by omega
     obtain ⟨cs, c1, c2⟩ := e2 i _ (List.getElem?_eq_getElem hi')
     have c1' := c1
     rw [List.getElem?_take, if_pos hi, List.getElem?_drop] at c1'
     have hcl := k2 cs (List.mem_of_getElem? c1')
     have hxl := ua c2
     have hjl : j < (xs[i]'hi').length := by omega
     obtain ⟨v, d1, d2⟩ := qg c2 j _ (List.getElem?_eq_getElem hjl)
     obtain ⟨u, hu, hru⟩ := hc (off + i) j cs v c1' d1
     refine ⟨u, _, by rw [List.getElem?_eq_getElem hi']; exact List.getElem?_eq_getElem hjl, hu, ?_⟩
     by_cases hv : ∃ y, v = .o y
     · obtain ⟨y, rfl⟩ := hv
       simp only [zg] at d2
       injection d2 with d2
       obtain ⟨L1, u1, q1, ⟨cc1, el1, fr1, q2, q3⟩, q4⟩ := hφ.cell r (off + i) j y ⟨_, es, cs, hb, c1', d1⟩
       rw [h1] at q1; cases q1
       rw [hh] at q2; cases q2
       rw [hu] at q3; cases q3
       rw [← d2]
       exact q4.rt hF
     · have d2' : wL h v = some ((xs[i]'hi')[j]'hjl) := by
        rw [← d2]
        cases v <;> first | rfl | exact absurd ⟨_, rfl⟩ hv
       exact fw hS hF hru d2'
    refine .list a len c L.sz _ (fun i j => (cc[L.o + ((off + i) * L.sz + j)]?).getD undef) (by omega) hl (fun hp => ?_) (fun e he => ?_) fun i j cs x hi hj => ?_
    · have hne : ¬ c = 0 := by omega
      refine ⟨L.b, L.o + off * L.sz, ha.resolve_right hne, hF _ (Array.getElem?_eq_some_iff.1 hh).1, fun i j hi hj => ?_⟩
      obtain ⟨u, x, d2, d3, d4⟩ := cell i j hi hj
      rw [d3]
      unfold World.cell?
      rw [hh]
      simp only [Option.isSome_none, Option.getD_some]
      rw [show L.o + off * L.sz + (i * L.sz + j) = L.o + ((off + i) * L.sz + j) by rw [Nat.add_mul]; omega]
      simpa using d3
    · obtain ⟨i, hi⟩ := List.mem_iff_getElem?.1 he
      obtain ⟨cs, c1, c2⟩ := e2 i e hi
      rw [ua c2]
      exact k2 cs (List.mem_of_mem_drop (List.mem_of_mem_take (List.mem_of_getElem? c1)))
    · obtain ⟨cs', c1, c2⟩ := e2 i cs hi
      have hil : i < len := by have := (List.getElem?_eq_some_iff.1 hi).1; omega
      have hjl : j < L.sz := by
       have h1 := (List.getElem?_eq_some_iff.1 hj).1
       rw [ua c2, k2 cs' (List.mem_of_mem_drop (List.mem_of_mem_take (List.mem_of_getElem? c1)))] at h1
       exact h1
      obtain ⟨u, x', d2, d3, d4⟩ := cell i j hil hjl
      rw [hi] at d2
      simp only [Option.bind_some] at d2
      rw [hj] at d2; cases d2
      rw [d3]
      exact d4
 · subst h2
   have hx0 : xs = [] := List.eq_nil_of_length_eq_zero (by simpa using e1)
   subst hx0
   cases hu with
   | sl r off len cap L a c hρ' => rw [h1] at hρ'; cases hρ'
   | slP r cap a hρ hc => exact vq F' a sz
theorem W4 (hS : St w F ρ Ow h) {F' : Nat → Prop} (hF : ∀ b, b < w.heap.size → F' b) {ρ' : yd} {r i j : Nat} {u : Value} (hu : RV w F ρ u (.ptr r i j)) {v' : V} (hx : sf h h[r]? i j = some v') : RV w F' ρ' u v' := by
 have lt : ∀ {α : Type} {L : Loc} {es : List (List α)} {R : Value → α → Prop}, xA w L es R → F' L.b := fun hr => by
  obtain ⟨_, _, c, el, fr, hh, _⟩ := hr
  exact hF _ (Array.getElem?_eq_some_iff.1 hh).1
 cases hu with
 | ptr r i j L hρ =>
 have flat : ∀ es : List (List T), xA w L es (RT w F) → ∀ cs, es[i]? = some cs → RV w F' ρ' (.pointer (some ⟨L.b, L.o + (i * L.sz + j), none⟩)) (.t (.fp (cs.drop j))) := fun es h3 cs hi =>
  .t _ _ (ZD h3 hi (Nat.le_refl _) (lt h3) fun k x u v h1 h2 _ hr => by
   rw [h1] at h2; cases h2
   exact hr.mono (fun _ _ => rfl) fun b hb => hF b (hS.fsz b hb))
 unfold sf at hx
 split at hx
 · rename_i sz es hb
   split at hx
   · rename_i cs hi
     cases hx
     rcases hS.blk r _ hb with ⟨L', h1, h2, h3, h4, h5⟩ | ⟨h1, h2⟩
     · rw [hρ] at h1; cases h1; exact flat es h3 cs hi
     · rw [hρ] at h1; cases h1
   · cases hx
 · rename_i sz es hb
   split at hx
   · rename_i cs hi
     cases hx
     rcases hS.blk r _ hb with ⟨L', h1, h2, h3, h4⟩ | ⟨h1, h2⟩
     · rw [hρ] at h1; cases h1; exact flat es h3 cs hi
     · rw [hρ] at h1; cases h1
   · cases hx
 · rename_i sz es hb
   split at hx
   · rename_i cs hi
     split at hx
     · rename_i xs hxs
       cases hx
       rcases hS.blk r _ hb with ⟨L', h1, h2, h3, h4, h5⟩ | ⟨h1, h2⟩
       · rw [hρ] at h1; cases h1
         refine .t _ _ (ZD h3 hi (by rw [ua hxs]; exact Nat.le_refl _) (lt h3) fun k x u v h1 h2 hcell hr => ?_)
         obtain ⟨v', e1, e2⟩ := qg hxs k x h1
         rw [e1] at h2; cases h2
         rw [List.getElem?_drop] at e1
         exact XY hS hF hb hρ hi e1 hcell hr e2
       · rw [hρ] at h1; cases h1
     · cases hx
   · cases hx
 · cases hx
theorem W2 (hS : St w F ρ Ow h) {F' : Nat → Prop} (hF : ∀ b, b < w.heap.size → F' b) {ρ' : yd} {r off len : Nat} {cap : Option Nat} {u : Value} (hu : RV w F ρ u (.sl r off len cap)) {v' : V} (hx : se h h[r]? off len = some v') : RV w F' ρ' u v' := by
 unfold se at hx
 split at hx
 · rename_i sz es hb; cases hx; exact .t _ _ (iV hS (.inl hb) hu hF)
 · rename_i sz es hb; cases hx; exact .t _ _ (iV hS (.inr hb) hu hF)
 · rename_i sz es hb
   split at hx
   · rename_i xs hxs; cases hx; exact .t _ _ (W3 hS hF hu hb hxs)
   · cases hx
 · cases hx
mutual
theorem W1 (hS : St w F ρ Ow h) {F' : Nat → Prop} (hF : ∀ b, b < w.heap.size → F' b) {ρ' : yd} : ∀ (v : V) {u : Value} {v' : V}, RV w F ρ u v → yv h v = some v' → RV w F' ρ' u v'
 | .t x, u, v', hu, hx => by
  simp only [yv] at hx; cases hx
  cases hu with
  | t _ _ hy => exact .t _ _ (hy.mono (fun _ _ => rfl) fun b hb => hF b (hS.fsz b hb))
 | .nil sz, u, v', hu, hx => by simp only [yv] at hx; cases hx; cases hu; exact .t _ _ (vq F' none sz)
 | .sl r off len cap, u, v', hu, hx => by simp only [yv] at hx; exact W2 hS hF hu hx
 | .ptr r i j, u, v', hu, hx => by simp only [yv] at hx; exact W4 hS hF hu hx
 | .agg cs, u, v', hu, hx => by
  simp only [yv] at hx
  split at hx
  · rename_i cs' he; cases hx
    cases hu with
    | agg vs cs g hs hg hr => exact RV.gm (vX hS hF cs (xB hs hg hr) he)
  · cases hx
 | .tup cs, u, v', hu, hx => by
  simp only [yv] at hx
  split at hx
  · rename_i cs' he; cases hx
    cases hu with
    | tup vs cs g hs hg hr => exact RV.jA (vX hS hF cs (xB hs hg hr) he)
  · cases hx
 | .fn f cs, u, v', hu, hx => by
  simp only [yv] at hx
  split at hx
  · rename_i cs' he
    split at hx
    · rename_i xs hxs
      cases hx
      cases hu with
      | fn f vs cs g hs hg hr =>
       have := vX hS hF (ρ' := ρ') cs (xB hs hg hr) he
       exact .t _ _ (RT.fn' (pA this hxs))
    · cases hx
  · cases hx
 | .und, u, v', hu, hx => by simp [yv] at hx
 | .bad, u, v', hu, hx => by simp [yv] at hx
theorem vX (hS : St w F ρ Ow h) {F' : Nat → Prop} (hF : ∀ b, b < w.heap.size → F' b) {ρ' : yd} : ∀ (vs : List V) {us : List Value} {vs' : List V}, RVs w F ρ us vs → yv.snapVs h vs = some vs' → RVs w F' ρ' us vs'
 | [], us, vs', hu, hx => by simp only [yv.snapVs] at hx; cases hx; cases hu; exact .nil
 | v :: vs, us, vs', hu, hx => by
  simp only [yv.snapVs] at hx
  split at hx
  · rename_i x he
    split at hx
    · rename_i xs he2; cases hx
      cases hu with
      | cons hv hvs => exact .cons (W1 hS hF v hv he) (vX hS hF vs hvs he2)
    · cases hx
  · cases hx
end
/-- what holds no memory is so whatever is read alone -/
theorem tn {F' : Nat → Prop} {u : Value} {x : T} (hu : RT w F u x) (hx : zf x = true) : RT w F' u x := by
 cases hu with
 | int k n => exact .int k n
 | bool b => exact .bool b
 | str s l h => exact .str s l h
 | nilp => exact .nilp
 | nilf => exact .nilf
 | nili => exact .nili
 | nni t v => exact .nni t v
 | list a n c sz es g hn hc h0 hz hr =>
  simp only [zf, List.isEmpty_iff] at hx
  subst hx
  simp only [List.length_nil] at hn
  subst hn
  exact .list a 0 c sz [] g rfl hc (fun h => absurd h (by omega)) (fun e he => by cases he) (fun i j cs x hi => by simp at hi)
 | nlist | fp | fn => simp [zf] at hx
mutual
theorem eR {F' : Nat → Prop} {ρ' : yd} : ∀ (v : V) {u : Value}, RV w F ρ u v → zc v = true → RV w F' ρ' u v
 | .t x, u, hu, hx => by cases hu with | t _ _ hy => exact .t _ _ (tn hy hx)
 | .agg cs, u, hu, hx => by
  simp only [zc] at hx
  cases hu with
  | agg vs cs g hs hg hr => exact RV.gm (ob cs (xB hs hg hr) hx)
 | .tup cs, u, hu, hx => by
  simp only [zc] at hx
  cases hu with
  | tup vs cs g hs hg hr => exact RV.jA (ob cs (xB hs hg hr) hx)
 | .nil _, u, hu, hx => by simp [zc] at hx
 | .sl _ _ _ _, u, hu, hx => by simp [zc] at hx
 | .ptr _ _ _, u, hu, hx => by simp [zc] at hx
 | .fn _ _, u, hu, hx => by simp [zc] at hx
 | .und, u, hu, hx => by simp [zc] at hx
 | .bad, u, hu, hx => by simp [zc] at hx
theorem ob {F' : Nat → Prop} {ρ' : yd} : ∀ (vs : List V) {us : List Value}, RVs w F ρ us vs → zc.flatVs vs = true → RVs w F' ρ' us vs
 | [], us, hu, hx => by cases hu; exact .nil
 | v :: vs, us, hu, hx => by
  simp only [zc.flatVs, Bool.and_eq_true] at hx
  cases hu with
  | cons h1 h2 => exact .cons (eR v h1 hx.1) (ob vs h2 hx.2)
end
end Go.Proofs.YtonbkdklidfmfaaGreatDoor.E
/- The evaluator's operations are those of the machine, calls among them. Conditions: those of each lemma. -/
namespace Go.Proofs.YtonbkdklidfmfaaGreatDoor.E
set_option linter.unusedVariables false
set_option linter.unusedSimpArgs false
variable {P : Program} {w : World} {F : Nat → Prop} {ρ : yd} {Ow : Own} {h : Heap}
/-- what lay in memory at the start lies there still, and nobody writes it -/
structure vo (W0 w : World) (F : Nat → Prop) : Prop where
 size : W0.heap.size ≤ w.heap.size
 F : ∀ b, b < W0.heap.size → F b
 heap : ∀ b, b < W0.heap.size → w.heap[b]? = W0.heap[b]?
theorem vo.next {W0 w' : World} {F' : Nat → Prop} {ρ' : yd} (hB : vo W0 w F) (hN : Nxt Ow w F ρ w' F' ρ') : vo W0 w' F' :=
 ⟨Nat.le_trans hB.size hN.size, fun b hb => hN.grow b (hB.F b hb), fun b hb => (hN.agree b (hB.F b hb)).trans (hB.heap b hb)⟩
variable {W0 : World}
/-- what is known of inner calls -/
structure xX (P : Program) (W0 : World) (rec : Rec) : Prop where
 clo : ∀ g args v, rec (.call g args []) = some (.call v []) →
  (∃ fn, P.funcs[g]? = some fn ∧ (fn.name == "runtime.NumGoroutine") = false ∧ fn.body.isNone = false) ∧
  ∀ (w : World) (F : Nat → Prop) (us : Array Value), vo W0 w F → (∀ b, F b → b < w.heap.size) → RVs w F zL us.toList args →
   Calls P g us w fun e w' => ∃ u F', e = .returned u ∧ RV w' F' zL u v ∧ (∀ b, F' b → b < w'.heap.size) ∧ Nxt (own fun b => w.heap.size ≤ b) w F zL w' F' zL
 opn : ∀ gv g args h v h', rec (.callO gv g args h) = some (.call v h') →
  (∃ fn, P.funcs[g]? = some fn ∧ (fn.name == "runtime.NumGoroutine") = false ∧ fn.body.isNone = false) ∧
  ∀ (Ow : Own) (w : World) (F : Nat → Prop) (ρ : yd) (us : Array Value), vo W0 w F → St w F ρ Ow h → OkC Ow w → RVs w F ρ us.toList args →
   Calls P g us w fun e w' => ∃ u F' ρ', e = .returned u ∧ RV w' F' ρ' u v ∧ St w' F' ρ' Ow h' ∧ Nxt Ow w F zL w' F' zL ∧ ∀ r l, r < h.length → ρ r = some l → ρ' r = some l
/-- what an operation leaves behind -/
def XR (Ow : Own) (w : World) (F : Nat → Prop) (ρ : yd) (v : V) (h' : Heap) (K : Value → World → Prop) : Prop :=
 ∀ w' F' ρ' u, RV w' F' ρ' u v → St w' F' ρ' Ow h' → Nxt Ow w F ρ w' F' ρ' → K u w'
theorem xI {o : Oper} {a : Act} {K : Act → World → Prop} {Q : Exit → Act → World → Prop} {s : Sem Value} {v : V} {h' : Heap} (he : execOp a.eval o = do pure (.value (← s))) (hr : xK P w F ρ Ow s v h')
 (hK : XR Ow w F ρ v h' fun u w' => K (a.put o.dst u) w') : o.wp P a w K Q := by
 obtain ⟨w', F', ρ', u, h1, h2, h3, h4⟩ := hr
 unfold Oper.wp
 rw [he, Sem.run_bind, h1]
 exact hK w' F' ρ' u h2 h3 h4
theorem xU {o : Oper} {a : Act} {K : Act → World → Prop} {Q : Exit → Act → World → Prop} (hS : St w F ρ Ow h) {s : Sem Value} {v : V} (he : execOp a.eval o = do pure (.value (← s))) (hr : ∃ u, s.run P w = .ok u w ∧ RV w F ρ u v)
 (hK : XR Ow w F ρ v h fun u w' => K (a.put o.dst u) w') : o.wp P a w K Q := by
 obtain ⟨u, h1, h2⟩ := hr
 exact xI he (xK.same hS h1 h2) hK
theorem vC {o : Oper} {a : Act} {K : Act → World → Prop} {Q : Exit → Act → World → Prop} (hS : St w F ρ Ow h) {u : Value} {v : V} (he : (execOp a.eval o).run P w = .ok (.value u) w) (hu : RV w F ρ u v)
 (hK : XR Ow w F ρ v h fun u w' => K (a.put o.dst u) w') : o.wp P a w K Q := by
 unfold Oper.wp
 rw [he]
 exact hK w F ρ u hu hS (Nxt.refl _ _ _ _)
theorem tZ {a : Act} {e : Env} (he : RE w F ρ a e) : ∀ (xs : List Operand) (ts : List TypeId), RVs w F ρ (xs.map a.eval) (yw P e xs ts)
 | [], _ => by simp only [List.map_nil, yw]; exact .nil
 | x :: xs, [] => by simp only [List.map_cons, yw]; exact .cons (yQ he _ _) (tZ he xs [])
 | x :: xs, t :: ts => by simp only [List.map_cons, yw]; exact .cons (yQ he _ _) (tZ he xs ts)
theorem iD {a : Act} {e : Env} (he : RE w F ρ a e) (x : Option Operand) : ab w F ρ (x.map a.eval) (q9 P e x) := by
 cases x with
 | none => exact trivial
 | some x => exact yQ he 0 x
theorem TH {t : TypeId} {x : V} {n : Nat} (hn : kb P t x = some n) {u : Value} (hu : RV w F ρ u x) (rt : TypeId) : (Builtin.len_ #[t] rt #[u]).run P w = .ok (goInt n) w := by
 unfold kb at hn
 split at hn
 · rename_i ht
   have hty := pq ht
   split at hn
   · cases hn
     cases hu with
     | t _ _ hx =>
     cases hx with
     | str s _ hs => subst hs; simp [Builtin.len_, zF hty]
   · cases hn
 · split at hn
   · rename_i ht
     have hty : ∃ e, P.underlying t = some (.slice e) := by
      unfold yx at ht; split at ht
      · exact ⟨_, by assumption⟩
      · cases ht
     obtain ⟨e, hty⟩ := hty
     split at hn
     · cases hn
       cases hu with
       | t _ _ hx =>
       cases hx with
       | list a m c sz es g hm => subst hm; simp [Builtin.len_, zF hty]
     · cases hn; cases hu; simp [Builtin.len_, zF hty]
     · cases hn
       cases hu with
       | sl => simp [Builtin.len_, zF hty]
       | slP => simp [Builtin.len_, zF hty]
     · cases hn
   · cases hn
theorem UH {x : V} {g : Nat} {caps : List V} (hf : fnV x = some (g, caps)) {u : Value} (hu : RV w F ρ u x) : ∃ vs : Array Value, u = .func (.func g) #[] vs ∧ RVs w F ρ vs.toList caps := by
 unfold fnV at hf
 split at hf
 · cases hf
   cases hu with
   | t _ _ hx =>
   cases hx with
   | fn f caps vs hv g hg hr => exact ⟨vs, rfl, ix (Rl hv hg hr)⟩
 · cases hf
   cases hu with
   | fn f vs cs g hs hg hr => exact ⟨vs, rfl, xB hs hg hr⟩
 · cases hf
/-- a state behind an inner call -/
theorem mM (hS : St w F ρ Ow h) (hO : ∀ b, w.heap.size ≤ b → Ow b) {w' : World} {F' : Nat → Prop} (hF : ∀ b, F' b → b < w'.heap.size) (hN : Nxt (own fun b => w.heap.size ≤ b) w F zL w' F' zL) : St w' F' ρ Ow h ∧ Nxt Ow w F ρ w' F' ρ := by
 have hN' : Nxt Ow w F ρ w' F' ρ := ⟨hN.os, hN.tape, hN.output, hN.size, fun b hb _ => hN.keep b hb (Nat.not_le.2 hb), hN.agree, hN.grow, fun b hb => (hN.new b hb).imp id (hO b), Ext.refl _, fun _ _ => rfl⟩
 refine ⟨hS.next hN' hS.out hF (fun r b hr => .inl ⟨hr, fun L hL hw => ?_⟩)
  (hS.owned hN' (fun b _ hF0 hlt _ => ⟨hN.keep b hlt (Nat.not_le.2 hlt), fun x => (hN.new b x).elim hF0 (Nat.not_le.2 hlt)⟩) (fun r i j x ho => ⟨ho, fun L u hL hu => ?_⟩) fun r b L hr hw hL => .inr (hS.same (Ext.refl _) hr hw hL)), hN'⟩
 rotate_left
 · obtain ⟨sz, es, cs, q1, _⟩ := ho
   obtain ⟨h1, h2, h3⟩ := (hS.blk r _ q1).vF rfl hL
   exact vy (hN.keep L.b h3 (Nat.not_le.2 h3)) hu
 obtain ⟨h1, h2, h3⟩ := (hS.blk r b hr).vF hw hL
 exact ⟨hN.keep L.b h3 (Nat.not_le.2 h3), fun x => (hN.new L.b x).elim h1 (Nat.not_le.2 h3)⟩
theorem ng (hS : St w F ρ Ow h) (hO : ∀ b, w.heap.size ≤ b → Ow b) {rec : Rec} (hB : vo W0 w F) (hrec : xX P W0 rec) {g : Nat} {args : List V} {v : V} (hc : zm rec g args = some v) {us : Array Value} (hu : RVs w F zL us.toList args) :
 (∃ fn, P.funcs[g]? = some fn ∧ (fn.name == "runtime.NumGoroutine") = false ∧ fn.body.isNone = false) ∧
 Calls P g us w fun e w' => ∃ u F', e = .returned u ∧ RV w' F' ρ u v ∧ St w' F' ρ Ow h ∧ Nxt Ow w F ρ w' F' ρ := by
 unfold zm at hc
 split at hc
 · rename_i v' hr
   cases hc
   obtain ⟨hfn, hcall⟩ := hrec.clo g args v hr
   refine ⟨hfn, (hcall w F us hB hS.fsz hu).mono ?_⟩
   rintro e w' ⟨u, F', rfl, h1, h2, h3⟩
   obtain ⟨k1, k2⟩ := mM hS hO h2 h3
   exact ⟨u, F', rfl, h1.mono (fun _ _ => rfl) (fun _ x => x) (ml ρ), k1, k2⟩
 · cases hc
theorem Yv (hS : St w F ρ Ow h) (hO : ∀ b, w.heap.size ≤ b → Ow b) {pol : Pol} {rec : Rec} (hB : vo W0 w F) (hrec : xX P W0 rec) {f : Nat} {N : Option Nat} {dst : Option Nat} (hz : ∀ r, Ow.z r → r < h.length) {g : Nat} {args : List V} {v : V} {h' : Heap} (hc : wy pol rec f N dst g args h = some (v, h')) {us : Array Value} (hu : RVs w F ρ us.toList args) :
 (∃ fn, P.funcs[g]? = some fn ∧ (fn.name == "runtime.NumGoroutine") = false ∧ fn.body.isNone = false) ∧
 Calls P g us w fun e w' => ∃ u F' ρ', e = .returned u ∧ RV w' F' ρ' u v ∧ St w' F' ρ' Ow h' ∧ Nxt Ow w F ρ w' F' ρ' := by
 unfold wy at hc
 split at hc
 · split at hc
   · rename_i az has
     split at hc
     · rename_i v' hv
       cases hc
       obtain ⟨e1, e2⟩ := ng hS hO hB hrec hv (rz zL args hu has)
       refine ⟨e1, e2.mono ?_⟩
       rintro e w' ⟨u, F', rfl, h1, h2, h3⟩
       exact ⟨u, F', ρ, rfl, h1, h2, h3⟩
     · cases hc
   · split at hc
     · rename_i az has
       split at hc
       · rename_i v' hv
         split at hc
         · rename_i hfl
           cases hc
           unfold zm at hv
           split at hv
           · rename_i v' hr
             cases hv
             obtain ⟨hfn, hcall⟩ := hrec.clo g az v hr
             refine ⟨hfn, (hcall w (fun b => b < w.heap.size) us ⟨hB.size, fun b hb => Nat.lt_of_lt_of_le hb hB.size, hB.heap⟩ (fun b hb => hb) (vX hS (fun b hb => hb) args hu has)).mono ?_⟩
             rintro e w' ⟨u, F', rfl, h1, h2, h3⟩
             have hN : Nxt (own fun b => w.heap.size ≤ b) w F zL w' F zL :=
              ⟨h3.os, h3.tape, h3.output, h3.size, h3.keep, fun b hb => h3.agree b (hS.fsz b hb), fun b hb => hb, fun b hb => .inl hb, Ext.refl _, fun _ _ => rfl⟩
             obtain ⟨k1, k2⟩ := mM hS hO (fun b hb => Nat.lt_of_lt_of_le (hS.fsz b hb) h3.size) hN
             exact ⟨u, F, ρ, rfl, eR v h1 hfl, k1, k2⟩
           · cases hv
         · cases hc
       · cases hc
     · cases hc
 · split at hc
   · rename_i az h1 has
     split at hc
     · rename_i v' hv
       cases hc
       obtain ⟨F1, k1, k2, k3⟩ := sM zL args hS hu has
       obtain ⟨e1, e2⟩ := ng k2 hO (hB.next k3) hrec hv k1
       refine ⟨e1, e2.mono ?_⟩
       rintro e w' ⟨u, F', rfl, h1, h2, h3⟩
       exact ⟨u, F', ρ, rfl, h1, h2, k3.trans h3⟩
     · cases hc
   · cases hc
 · rename_i gv hpm
   split at hc
   · rename_i v' h1 hr
     obtain ⟨e1, e2⟩ := hrec.opn gv g _ _ _ _ hr
     have hnd : (xr h args).Nodup := sH h 3 _ (vj _ _ (by simp))
     obtain ⟨φ, hφ⟩ := hS.own
     have hS0 := Ts (pg hnd hS) (fL hnd hφ)
     refine ⟨e1, (e2 (wU Ow w (y8 ρ (xr h args)) (w9 (xr h args) h) (qE (xr h args) φ)) w F (y8 ρ (xr h args)) us hB hS0 (OkC.own _ fun b hb => ⟨hO b hb, .inl hb⟩) (bY _ args hu)).mono ?_⟩
     rintro e w' ⟨u, F', ρ', rfl, h1, h2, h3, h4⟩
     obtain ⟨ρ2, k1, k2, k3⟩ := kI hnd hS hφ hz hc h1 h2 h3 (fun r l hr hl => h4 r l (by simpa [yl, xr] using hr) hl)
     exact ⟨u, F', ρ2, rfl, k1, k2, k3⟩
   · cases hc
 · cases hc
 · cases hc
theorem eY {g : Nat} {us : Array Value} {fn : Func} (h1 : P.funcs[g]? = some fn) (h2 : (fn.name == "runtime.NumGoroutine") = false) (h3 : fn.body.isNone = false) : (callFunc g us).run P w = .ok (.enter g us) w := by
 simp only [callFunc, Sem.run_bind, run_program, Result.andThen_ok, h1, h2, h3]
 rfl
theorem SE {u : Value} {x : T} (hu : RV w F ρ u (.t x)) : RT w F u x := by cases hu with | t _ _ hx => exact hx
theorem s9 {u : Value} {k : IntKind} {n : Int} (hu : RV w F ρ u (.t (.int k n))) : u = .int k n := by cases SE hu; rfl
theorem iw {u : Value} {b : Bool} (hu : RV w F ρ u (.t (.bool b))) : u = .bool b := by cases SE hu; rfl
theorem s8 {u : Value} {l : List UInt8} (hu : RV w F ρ u (.t (.str l))) : ∃ s : ByteArray, u = .string s ∧ s.data.toList = l := by
 cases SE hu with
 | str s _ hs => exact ⟨s, rfl, hs⟩
theorem Rk {u : Value} {cs : List V} (hu : RV w F ρ u (.tup cs)) : ∃ vs : Array Value, u = .tuple vs ∧ RVs w F ρ vs.toList cs := by
 cases hu with
 | tup us cs g hs hg hr => exact ⟨us, rfl, xB hs hg hr⟩
theorem UP {pol : Pol} {rec : Rec} (hB : vo W0 w F) (hrec : xX P W0 rec) {f : Nat} {o : Oper} {e : Env} {v : V} {h' : Heap} (hev : zX P pol rec f Ow.N o e h = some (v, h')) (hS : St w F ρ Ow h) (hO : OkO Ow w ρ h) (hz : ∀ r, Ow.z r → r < h.length) {a : Act} (he : RE w F ρ a e)
 {K : Act → World → Prop} {Q : Exit → Act → World → Prop} (hK : XR Ow w F ρ v h' fun u w' => K (a.put o.dst u) w') : o.wp P a w K Q := by
 obtain ⟨dst, op, ty, pos, after, guard⟩ := o
 cases op with
 | move x =>
  simp only [zX] at hev; cases hev
  exact vC hS (by simp [execOp]) (yQ he ty x) hK
 | assign x =>
  simp only [zX] at hev; cases hev
  exact vC hS (by simp [execOp]) (yQ he ty x) hK
 | pick c x y =>
  simp only [zX] at hev
  split at hev
  · rename_i t hc
    cases hev
    have hcv := yQ (P := P) he 0 c
    rw [hc] at hcv
    have hg := iw hcv
    cases t with
    | true => exact vC hS (u := a.eval x) (by simp [execOp, hg, asBool]) (yQ he ty x) hK
    | false => exact vC hS (u := a.eval y) (by simp [execOp, hg, asBool]) (yQ he ty y) hK
  · cases hev
 | alloc t =>
  simp only [zX] at hev
  split at hev
  · rename_i zs hz
    split at hev
    · cases hev
    · cases hev; exact xI rfl (V8 hS hO hz) hK
  · cases hev
 | box t x =>
  simp only [zX] at hev
  split at hev
  · cases hev
  · rename_i hc
    cases hev
    simp only [Bool.or_eq_true, Bool.not_eq_true', not_or, Bool.not_eq_false] at hc
    exact xI rfl (Q7 hS hO (yQ he t x) hc.2) hK
 | build t parts =>
  simp only [zX] at hev
  split at hev
  · rename_i hst
    split at hev
    · rename_i zs hz
      split at hev
      · rename_i cs hf
        cases hev
        refine xI rfl (WX hS hst hz (ps := parts.map fun (i, x) => (i, a.eval x)) ?_ hf) hK
        have := pf (P := P) he (fTy P t) parts.toList
        simpa using this
      · cases hev
    · cases hev
  · cases hev
 | buildSlice t len parts =>
  simp only [zX] at hev
  split at hev
  · rename_i el hel
    split at hev
    · cases hev
    · rename_i hc
      simp only [not_or, Bool.not_eq_true, Option.isNone_eq_false_iff] at hc
      obtain ⟨c1, c2, c3, c4⟩ := hc
      split at hev
      · rename_i css hf
        split at hev
        · rename_i es h1 hg
          cases hev
          obtain ⟨zs, hz⟩ := Option.isSome_iff_exists.1 c4
          have hp := pf (P := P) he (fun _ => el) parts.toList
          have hl : (xC P e (fun _ => el) parts.toList).length = len := by
           have := zM hp
           simp at this
           simp only [ne_eq, Decidable.not_not] at c3
           omega
          have := lV (ps := parts.map fun (i, x) => (i, a.eval x)) hS hO hel (by simpa using hp) c1 (by rw [hl]; exact c2) hf hg hz
          rw [hl] at this
          exact xI rfl this hK
        · cases hev
      · cases hev
  · cases hev
 | load t x =>
  simp only [zX] at hev
  split at hev
  · rename_i v' hv; cases hev
    exact xU hS rfl (az hS hv (yQ he 0 x)) hK
  · cases hev
 | store t x y =>
  simp only [zX] at hev
  split at hev
  · rename_i h1 hs
    cases hev
    obtain ⟨w', F', e1, e2, e3⟩ := XV hS hs (yQ he 0 x) (yQ he t y)
    unfold Oper.wp
    simp only [execOp, Sem.run_bind, e1, Result.andThen_ok, Sem.run_pure]
    exact hK w' F' ρ undef .und e2 e3
  · cases hev
 | binOp b t x y u =>
  simp only [zX] at hev
  split at hev
  · rename_i v' hv; cases hev
    exact xI rfl (Ss hS x y hv (yQ he t x) (yQ he u y)) hK
  · cases hev
 | unOp b t x =>
  simp only [zX] at hev
  split at hev
  · rename_i v' hv; cases hev
    exact xI rfl (Rf hS hv (yQ he t x)) hK
  · cases hev
 | convert src dst' x =>
  simp only [zX] at hev
  split at hev
  · rename_i v' hv; cases hev
    exact xU hS rfl (TZ hS hv (yQ he src x)) hK
  · cases hev
 | makeFunc fn first caps =>
  cases fn with
  | func g =>
   simp only [zX] at hev
   split at hev
   · rename_i hf
     cases hev
     have hfe : first = #[] := Array.eq_empty_of_size_eq_zero hf
     subst hfe
     refine vC hS (u := .func (.func g) #[] (caps.map a.eval)) (by simp [execOp, Instr.makeFunc]) (RV.fn' ?_) hK
     have := tZ (P := P) he caps.toList []
     simpa using this
   · cases hev
  | _ => simp [zX] at hev
 | makeSlice t l c =>
  simp only [zX] at hev
  split at hev
  · rename_i el k n k' m hel hl hc
    split at hev
    · rename_i zs hz
      split at hev
      · rename_i z hza
        split at hev
        · cases hev
        · rename_i hcond
          simp only [not_or, ne_eq, Decidable.not_not, gt_iff_lt, Nat.not_lt] at hcond
          obtain ⟨c1, c2, c3, c4, c5⟩ := hcond
          cases hev
          have hlv := yQ (P := P) he 0 l
          have hcv := yQ (P := P) he 0 c
          rw [hl] at hlv
          rw [hc] at hcv
          subst c3
          have e1 := s9 hlv
          have e2 := s9 hcv
          obtain ⟨n', rfl⟩ := Int.eq_ofNat_of_zero_le (show 0 ≤ n by omega)
          simp only [Int.toNat_natCast] at *
          refine xI (s := Instr.makeSlice t (a.eval l) (a.eval c)) rfl ?_ hK
          rw [e1, e2]
          exact TE hS hO hel hz hza c1 c4 c5
      · cases hev
    · cases hev
  · cases hev
 | slice t x lo hi mx =>
  simp only [zX] at hev
  split at hev
  · rename_i v' hv; cases hev
    exact xU hS rfl (RF hS hv (yQ he t x) (iD he lo) (iD he hi) (iD he mx)) hK
  · cases hev
 | nilCheck x =>
  simp only [zX] at hev
  split at hev
  · rename_i v' hv
    cases hev
    have hxv := yQ (P := P) he 0 x
    generalize hg : a.eval x = u at hxv
    generalize opv P e 0 x = xv at hv hxv
    unfold dJ at hv
    split at hv
    · rename_i r i j
      cases hv
      cases hxv with
      | ptr r i j L hρ =>
      exact xU hS (s := pure (a.eval x)) (by simp [execOp, hg]) ⟨_, by rw [hg]; rfl, .ptr r i j L hρ⟩ hK
    · rename_i cs
      cases hv
      cases hxv with
      | t _ _ hx =>
      cases hx with
      | fp b o' cs g hF hcell hr =>
      exact xU hS (s := pure (a.eval x)) (by simp [execOp, hg]) ⟨_, by rw [hg]; rfl, .t _ _ (.fp b o' cs g hF hcell hr)⟩ hK
    · cases hv
  · cases hev
 | fieldAddr s x i =>
  simp only [zX] at hev
  split at hev
  · rename_i v' hv; cases hev
    exact xU hS rfl (cj hv (yQ he 0 x)) hK
  · cases hev
 | field s x i =>
  simp only [zX] at hev
  split at hev
  · rename_i v' hv; cases hev
    exact xU hS rfl (RC hv (yQ he s x)) hK
  · cases hev
 | indexAddr t x i =>
  simp only [zX] at hev
  split at hev
  · rename_i v' hv; cases hev
    exact xU hS rfl (ch hS hv (yQ he t x) (yQ he 0 i)) hK
  · cases hev
 | index t x i =>
  simp only [zX] at hev
  split at hev
  · rename_i l k n hx hi
    split at hev
    · rename_i hst
      have hty := pq hst
      split at hev
      · rename_i b hb
        cases hev
        obtain ⟨b0, b1, b2⟩ := j3 hb
        have hxv := yQ (P := P) he t x
        have hiv := yQ (P := P) he 0 i
        rw [hx] at hxv
        rw [hi] at hiv
        obtain ⟨s, hgx, hs⟩ := s8 hxv
        have hgi := s9 hiv
        subst hs
        refine xU hS (s := Instr.index t (a.eval x) (a.eval i)) rfl ⟨.int .u8 b.toNat, ?_, .t _ _ (.int _ _)⟩ hK
        rw [hgx, hgi, run_index_string w t s k n hty]
        have hlt : n.toNat < s.size := by simp at b1; omega
        rw [dif_pos ⟨b0, by simpa using b1⟩]
        congr 3
        have : s.data.toList[n.toNat]? = some (s[n.toNat]'hlt) := by
         rw [List.getElem?_eq_getElem (by simpa using hlt)]; rfl
        rw [this] at b2
        cases b2; rfl
      · cases hev
    · cases hev
  · cases hev
 | extract x i =>
  simp only [zX] at hev
  split at hev
  · rename_i vs hx
    split at hev
    · rename_i v' hi
      cases hev
      have hxv := yQ (P := P) he 0 x
      rw [hx] at hxv
      obtain ⟨us, hgx, hus⟩ := Rk hxv
      obtain ⟨u, e1, e2⟩ := yn hus i _ hi
      refine xU hS (s := Instr.extract (a.eval x) i) rfl ⟨u, ?_, e2⟩ hK
      have : us[i]? = some u := by simpa using e1
      rw [hgx]; simp [Instr.extract, this]
    · cases hev
  · cases hev
 | call c =>
  obtain ⟨callee, args, tys⟩ := c
  cases callee with
  | builtin b =>
   simp only [zX] at hev
   have hargs := tZ (P := P) he args.toList tys.toList
   unfold blt at hev
   split at hev
   · rename_i x hx
     rw [hx] at hargs
     split at hev
     · rename_i t htys
       split at hev
       · rename_i n hn
         cases hev
         cases hau : args.toList with
         | nil => rw [hau] at hargs; cases hargs
         | cons y ys =>
          rw [hau] at hargs
          simp only [List.map_cons] at hargs
          cases hargs with
          | cons h1 h2 =>
          cases ys with
          | cons => cases h2
          | nil =>
          have hA : args = #[y] := by apply Array.ext'; simpa using hau
          have hT : tys = #[t] := by apply Array.ext'; simpa using htys
          subst hA hT
          refine vC hS (u := goInt n) ?_ (.t _ _ (.int _ _)) hK
          simp [execOp, resolve, invoke, builtin, TH hn h1]
       · cases hev
     · cases hev
   · rename_i s x hx
     rw [hx] at hargs
     split at hev
     · rename_i t u htys
       cases hau : args.toList with
       | nil => rw [hau] at hargs; cases hargs
       | cons y ys =>
        rw [hau] at hargs
        simp only [List.map_cons] at hargs
        cases hargs with
        | cons h1 h2 =>
        cases ys with
        | nil => cases h2
        | cons y2 ys =>
        simp only [List.map_cons] at h2
        cases h2 with
        | cons h3 h4 =>
        cases ys with
        | cons => cases h4
        | nil =>
        have hA : args = #[y, y2] := by apply Array.ext'; simpa using hau
        have hT : tys = #[t, u] := by apply Array.ext'; simpa using htys
        subst hA hT
        refine xI (s := Builtin.append_ #[t, u] ty #[a.eval y, a.eval y2]) ?_ (Q9 hS hO hev h1 h3 ty) hK
        simp [execOp, resolve, invoke, builtin]
     · cases hev
   · rename_i k x k' y hx
     rw [hx] at hargs
     split at hev
     · rename_i hk
       subst hk
       cases hev
       cases hau : args.toList with
       | nil => rw [hau] at hargs; cases hargs
       | cons z zs =>
        rw [hau] at hargs
        simp only [List.map_cons] at hargs
        cases hargs with
        | cons h1 h2 =>
        cases zs with
        | nil => cases h2
        | cons z2 zs =>
        simp only [List.map_cons] at h2
        cases h2 with
        | cons h3 h4 =>
        cases zs with
        | cons => cases h4
        | nil =>
        have hA : args = #[z, z2] := by apply Array.ext'; simpa using hau
        subst hA
        have hg1 := s9 h1
        have hg2 := s9 h3
        refine vC hS (u := .int k (if y < x then y else x)) ?_ (.t _ _ (.int _ _)) hK
        simp [execOp, resolve, invoke, builtin, Builtin.min_, Builtin.min2, hg1, hg2]
     · cases hev
   · rename_i k x k' y hx
     rw [hx] at hargs
     split at hev
     · rename_i hk
       subst hk
       cases hev
       cases hau : args.toList with
       | nil => rw [hau] at hargs; cases hargs
       | cons z zs =>
        rw [hau] at hargs
        simp only [List.map_cons] at hargs
        cases hargs with
        | cons h1 h2 =>
        cases zs with
        | nil => cases h2
        | cons z2 zs =>
        simp only [List.map_cons] at h2
        cases h2 with
        | cons h3 h4 =>
        cases zs with
        | cons => cases h4
        | nil =>
        have hA : args = #[z, z2] := by apply Array.ext'; simpa using hau
        subst hA
        have hg1 := s9 h1
        have hg2 := s9 h3
        refine vC hS (u := .int k (if y > x then y else x)) ?_ (.t _ _ (.int _ _)) hK
        simp [execOp, resolve, invoke, builtin, Builtin.max_, Builtin.max2, hg1, hg2]
     · cases hev
   · cases hev
  | value x =>
   simp only [zX] at hev
   split at hev
   · rename_i g caps hf
     obtain ⟨vs, hvs, hcaps⟩ := UH hf (yQ (P := P) he 0 x)
     have hargs := tZ (P := P) he args.toList tys.toList
     obtain ⟨⟨fn, f1, f2, f3⟩, hcall⟩ := Yv hS hO.blk hB hrec hz hev (us := args.map a.eval ++ vs) (by rw [Array.toList_append, Array.toList_map]; exact yW hargs hcaps)
     unfold Oper.wp
     have hex : (execOp a.eval ⟨dst, .call ⟨.value x, args, tys⟩, ty, pos, after, guard⟩).run P w = .ok (.enter g (args.map a.eval ++ vs)) w := by
      simp only [execOp, resolve, hvs, Deferred.ofValue, Sem.run_bind, Sem.run_pure, Result.andThen_ok, invoke, Array.empty_append]
      exact eY f1 f2 f3
     rw [hex, Oper.upon_enter]
     refine hcall.mono ?_
     rintro e' w' ⟨u, F', ρ', rfl, k1, k2, k3⟩
     exact hK w' F' ρ' u k1 k2 k3
   · cases hev
  | invoke r m => simp [zX] at hev
 | _ => simp [zX] at hev
end Go.Proofs.YtonbkdklidfmfaaGreatDoor.E
/- Append, where the elements own memory. Conditions: those of each lemma. -/
namespace Go.Proofs.YtonbkdklidfmfaaGreatDoor.E
set_option linter.unusedVariables false
set_option linter.unusedSimpArgs false
variable {P : Program} {w : World} {F : Nat → Prop} {ρ : yd} {Ow : Own} {h : Heap}
/-- owned cells that go to a new row -/
theorem ef (hS : St w F ρ Ow h) {w' : World} {ρ' : yd} (hN : Nxt Ow w F ρ w' F ρ') {r sz : Nat} {es es' : List (List V)} (hr : h[r]? = some (.vs sz es))
 (hb : ∀ b, Ow b → ¬ F b → b < w.heap.size → (∀ r b0 L0, h[r]? = some b0 → writes b0 = true → ρ r = some (some L0) → L0.b ≠ b) → w'.heap[b]? = w.heap[b]?)
 (hnew : ∀ i j cs x, es'[i]? = some cs → cs[j]? = some (.o x) → oAt h r i j x ∧ ∀ L u, ρ r = some (some L) → cellAt w L i j u → ∃ L', ρ' h.length = some (some L') ∧ cellAt w' L' i j u)
 (hold : ∀ k i j x, k ≠ r → oAt h k i j x → ∀ L u, ρ k = some (some L) → cellAt w L i j u → cellAt w' L i j u)
 (hrows : ∀ k b L, (h.set r .dead ++ [.vs sz es'])[k]? = some b → writes b = true → ρ' k = some (some L) → w.heap.size ≤ L.b ∨ ∃ r0 b0 L0, h[r0]? = some b0 ∧ writes b0 = true ∧ ρ r0 = some (some L0) ∧ L0.b = L.b) :
 ∃ φ', tG w' F ρ' Ow (h.set r .dead ++ [.vs sz es']) φ' := by
 obtain ⟨φ, hφ⟩ := hS.own
 have hrl := (List.getElem?_eq_some_iff.1 hr).1
 have split : ∀ k i j x, oAt (h.set r .dead ++ [.vs sz es']) k i j x → (k = h.length ∧ ∃ cs, es'[i]? = some cs ∧ cs[j]? = some (.o x)) ∨ (k ≠ r ∧ k < h.length ∧ oAt h k i j x) := fun k i j x ho => by
  obtain ⟨s, e, cs, h1, h2, h3⟩ := ho
  by_cases hk : k < h.length
  · rw [List.getElem?_append_left (by simpa using hk)] at h1
    obtain ⟨h4, h5⟩ := ld h1 (by simp)
    exact .inr ⟨h4, hk, s, e, cs, h5, h2, h3⟩
  · rw [List.getElem?_append_right (by simp; omega)] at h1
    simp only [List.length_set] at h1
    have : k - h.length = 0 := by
     rcases Nat.eq_zero_or_pos (k - h.length) with h0 | h0
     · exact h0
     · rw [List.getElem?_eq_none (by simp; omega)] at h1; cases h1
    rw [this] at h1
    simp at h1
    obtain ⟨rfl, rfl⟩ := h1
    exact .inl ⟨by omega, cs, h2, h3⟩
 have stays : ∀ r i j b, φ r i j b → w'.heap[b]? = w.heap[b]? := fun r i j b hx => by
  obtain ⟨_, h2, h3, h4⟩ := hφ.act r i j b hx
  exact hb b h3 h2 h4 fun r' b0 L0 k1 k2 k3 => hφ.apart r i j b r' b0 L0 hx k1 k2 k3
 refine ⟨fun k i j b => (k = h.length ∧ φ r i j b ∧ ∃ cs x, es'[i]? = some cs ∧ cs[j]? = some (.o x)) ∨ (k ≠ r ∧ k < h.length ∧ φ k i j b), ⟨fun k i j x ho => ?_, fun k i j b hx => ?_, fun k i j k' i' j' b h1 h2 => ?_, fun k i j b r' b' L' h1 h2 h3 h4 he => ?_⟩⟩
 · rcases split k i j x ho with ⟨rfl, cs, h1, h2⟩ | ⟨h1, h2, h3⟩
   · obtain ⟨k1, k2⟩ := hnew i j cs x h1 h2
     obtain ⟨L, u, k3, k4, k5⟩ := hφ.cell r i j x k1
     obtain ⟨L', k6, k7⟩ := k2 L u k3 k4
     exact ⟨L', u, k6, k7, k5.mono fun b hb' => ⟨.inl ⟨rfl, hb', cs, x, h1, h2⟩, stays r i j b hb'⟩⟩
   · obtain ⟨L, u, k3, k4, k5⟩ := hφ.cell k i j x h3
     exact ⟨L, u, hN.ext _ _ k3, hold k i j x h1 h3 L u k3 k4, k5.mono fun b hb' => ⟨.inr ⟨h1, h2, hb'⟩, stays k i j b hb'⟩⟩
 · rcases hx with ⟨rfl, h1, cs, x, h2, h3⟩ | ⟨h1, h2, h3⟩
   · obtain ⟨_, k2, k3, k4⟩ := hφ.act r i j b h1
     exact ⟨⟨x, sz, es', cs, by simp, h2, h3⟩, k2, k3, Nat.lt_of_lt_of_le k4 hN.size⟩
   · obtain ⟨⟨x, s, e, cs, q1, q2⟩, k2, k3, k4⟩ := hφ.act k i j b h3
     exact ⟨⟨x, s, e, cs, by rw [List.getElem?_append_left (by simpa using h2), List.getElem?_set_ne (Ne.symm h1)]; exact q1, q2⟩, k2, k3, Nat.lt_of_lt_of_le k4 hN.size⟩
 · rcases h1 with ⟨rfl, h1, _⟩ | ⟨h1, h1', h1''⟩ <;> rcases h2 with ⟨rfl, h2, _⟩ | ⟨h2, h2', h2''⟩
   · exact ⟨rfl, (hφ.sep r i j r i' j' b h1 h2).2⟩
   · exact absurd (hφ.sep r i j k' i' j' b h1 h2'').1.symm h2
   · exact absurd (hφ.sep k i j r i' j' b h1'' h2).1 h1
   · exact hφ.sep k i j k' i' j' b h1'' h2''
 · have hx : ∃ k0, φ k0 i j b := by
    rcases h1 with ⟨_, h1, _⟩ | ⟨_, _, h1⟩
    · exact ⟨r, h1⟩
    · exact ⟨k, h1⟩
   obtain ⟨k0, hx⟩ := hx
   rcases hrows r' b' L' h2 h3 h4 with h5 | ⟨r0, b0, L0, q1, q2, q3, q4⟩
   · have := (hφ.act k0 i j b hx).2.2.2; omega
   · exact hφ.apart k0 i j b r0 b0 L0 hx q1 q2 q3 (q4.trans he)
/-- the values of a row, one behind the other -/
theorem fA {α : Type} {R : Value → α → Prop} {L : Loc} {es : List (List α)} (hr : xA w L es R) (hpos : 0 < L.sz) :
 ∃ vals : List Value, vals.length = es.length * L.sz ∧ wN R vals es.flatten ∧ (∀ k u, vals[k]? = some u → w.cell? ⟨L.b, L.o + k, none⟩ = some u) ∧ ∀ i j u, cellAt w L i j u → i < es.length → j < L.sz → vals[i * L.sz + j]? = some u := by
 obtain ⟨hn, hl, cc, el, fr, hh, hs, hf, hz, hc⟩ := hr
 have hlen := wb hl
 have hlook : ∀ k, k < es.length * L.sz → ∃ y u, es.flatten[k]? = some y ∧ R u y ∧ cc[L.o + k]? = some u := fun k hk => by
  have h1 : k / L.sz < es.length := (Nat.div_lt_iff_lt_mul hpos).2 hk
  have h2 : k % L.sz < L.sz := Nat.mod_lt _ hpos
  have h3 := Nat.div_add_mod k L.sz
  have h4 : (es[k / L.sz]'h1).length = L.sz := hl _ (List.getElem_mem h1)
  have hget := flat_get hl (List.getElem?_eq_getElem h1) (List.getElem?_eq_getElem (show k % L.sz < (es[k / L.sz]'h1).length by omega))
  rw [show k / L.sz * L.sz + k % L.sz = k by rw [Nat.mul_comm]; omega] at hget
  obtain ⟨u, hu, hru⟩ := hc _ _ _ _ (List.getElem?_eq_getElem h1) (List.getElem?_eq_getElem (show k % L.sz < (es[k / L.sz]'h1).length by omega))
  rw [show k / L.sz * L.sz + k % L.sz = k by rw [Nat.mul_comm]; omega] at hu
  exact ⟨_, u, hget, hru, hu⟩
 have hcell : ∀ k u, cc[L.o + k]? = some u → w.cell? ⟨L.b, L.o + k, none⟩ = some u := fun k u hu => by
  unfold World.cell?
  rw [hh]
  simpa using hu
 refine ⟨(List.range (es.length * L.sz)).map fun k => (cc[L.o + k]?).getD undef, by simp, x9 (by simp [hlen]) fun k u v hu hv => ?_, fun k u hu => ?_, fun i j u hu hi hj => ?_⟩
 · have hkl : k < es.length * L.sz := by have := (List.getElem?_eq_some_iff.1 hu).1; simpa using this
   obtain ⟨y, u', h1, h2, h3⟩ := hlook k hkl
   simp [hkl, h3] at hu
   subst hu
   rw [h1] at hv; cases hv; exact h2
 · have hkl : k < es.length * L.sz := by have := (List.getElem?_eq_some_iff.1 hu).1; simpa using this
   obtain ⟨y, u', h1, h2, h3⟩ := hlook k hkl
   simp [hkl, h3] at hu
   subst hu
   exact hcell k _ h3
 · obtain ⟨c, el', fr', q1, q2⟩ := hu
   rw [hh] at q1; cases q1
   have : (i + 1) * L.sz ≤ es.length * L.sz := Nat.mul_le_mul_right _ (by omega)
   rw [Nat.add_mul] at this
   have hkl : i * L.sz + j < es.length * L.sz := by omega
   simp [hkl, q2]
/-- what is appended lies in a row without owned cells -/
theorem Rj (hS : St w F ρ Ow h) {tx e' : TypeId} {n : Nat} (he' : P.underlying tx = some (.slice e')) {r sz : Nat} {es : List (List V)} (hb : h[r]? = some (.vs sz es)) (hok : (es.all fun c => c.all yc) = true) (hsz : sz = n) (hpos : 0 < n) {cap : Option Nat} {u : Value}
 (hu : RV w F ρ u (.sl r 0 es.length cap)) : ∃ news, Src P n tx u es.length news w ∧ RVs w F ρ news es.flatten ∧ ∀ e ∈ es, e.length = n := by
 rcases hS.blk r _ hb with ⟨L, h1, h2, h3, _⟩ | ⟨h1, h2⟩
 · have hL : L.sz = n := h2.trans hsz
   obtain ⟨vals, k1, k2, k3, k4⟩ := fA h3 (by omega)
   have hlen : ∀ e ∈ es, e.length = n := fun e he => (h3.len e he).trans hL
   have hone : ∀ u ∈ vals, u.oneCell' = true := fun u hu => by
    obtain ⟨k, hk⟩ := List.mem_iff_getElem?.1 hu
    have hkl := (List.getElem?_eq_some_iff.1 hk).1
    obtain ⟨v, hv⟩ : ∃ v, es.flatten[k]? = some v := ⟨_, List.getElem?_eq_getElem (by rw [← zM k2]; exact hkl)⟩
    obtain ⟨u', e1, e2⟩ := yn k2 k v hv
    rw [hk] at e1; cases e1
    have hvm : v ∈ es.flatten := List.mem_of_getElem? hv
    obtain ⟨c, hc1, hc2⟩ := List.mem_flatten.1 hvm
    exact (qI e2 (List.all_eq_true.1 (List.all_eq_true.1 hok c hc1) v hc2)).2.1
   generalize hle : es.length = len at hu
   cases hu with
   | slP r cap a hρ => rw [h1] at hρ; cases hρ
   | sl r off len cap L' a c hρ ha hl hn hc0 hc1 hz =>
    rw [h1] at hρ; cases hρ
    subst hle
    refine ⟨vals, ?_, k2, hlen⟩
    by_cases hl0 : es.length = 0
    · have hv0 : vals = [] := List.eq_nil_of_length_eq_zero (by rw [k1, hl0]; simp)
      subst hv0
      rw [hl0]
      cases a with
      | none => exact Src.ofNil w he' c
      | some ad => exact Src.ofSlice w he' ad 0 c [] (by simp) (fun j u hj => by simp at hj) (fun u hu => by cases hu)
    · obtain rfl := ha.resolve_right (by omega)
      refine Src.ofSlice w he' _ _ _ _ (by rw [k1, hL]) (fun j u hj => ?_) hone
      rw [Addr.add_mid]
      have := k3 j u hj
      simpa using this
 · subst h2
   cases hu with
   | sl r off len cap L a c hρ => rw [h1] at hρ; cases hρ
   | slP r cap a hρ hc =>
    refine ⟨[], ?_, .nil, fun e he => by cases he⟩
    cases a with
    | none => exact Src.ofNil w he' 0
    | some ad => exact Src.ofSlice w he' ad 0 0 [] (by simp) (fun j u hj => by simp at hj) (fun u hu => by cases hu)
/-- an owned cell lies in the first part of a list, if the second has none -/
theorem Ul {es es2 : List (List V)} (hok : (es2.all fun c => c.all yc) = true) {i j : Nat} {cs : List V} {x : T} (hi : (es ++ es2)[i]? = some cs) (hj : cs[j]? = some (.o x)) : i < es.length ∧ es[i]? = some cs := by
 by_cases hil : i < es.length
 · rw [List.getElem?_append_left hil] at hi; exact ⟨hil, hi⟩
 · rw [List.getElem?_append_right (by omega)] at hi
   have := List.all_eq_true.1 (List.all_eq_true.1 hok cs (List.mem_of_getElem? hi)) _ (List.mem_of_getElem? hj)
   simp [yc] at this
theorem wC {h0 : Heap} {blk b : Blk} {k : Nat} (hk : (h0 ++ [blk])[k]? = some b) : (k = h0.length ∧ b = blk) ∨ (k < h0.length ∧ h0[k]? = some b) := by
 by_cases hl : k < h0.length
 · rw [List.getElem?_append_left hl] at hk; exact .inr ⟨hl, hk⟩
 · rw [List.getElem?_append_right (by omega)] at hk
   rcases Nat.eq_zero_or_pos (k - h0.length) with h0' | h0'
   · rw [h0'] at hk; simp at hk; exact .inl ⟨by omega, hk.symm⟩
   · rw [List.getElem?_eq_none (by simp; omega)] at hk; cases hk
/-- the rows' places, with a new row behind all -/
def newAt (h : Heap) (ρ : yd) (l : Option Loc) : yd := fun k => if k = h.length then some l else ρ k
theorem rf (hS : St w F ρ Ow h) (l : Option Loc) : Ext ρ (newAt h ρ l) := fun k l' hk => by
 unfold newAt
 have hne : k ≠ h.length := fun e => by subst e; rw [hS.out _ (Nat.le_refl _)] at hk; cases hk
 rw [if_neg hne]; exact hk
theorem r9 (hS : St w F ρ Ow h) (l : Option Loc) {h0 : Heap} {blk : Blk} (hl : h0.length = h.length) : ∀ k, (h0 ++ [blk]).length ≤ k → newAt h ρ l k = none := fun k hk => by
 simp at hk
 unfold newAt
 rw [if_neg (by omega)]
 exact hS.out k (by omega)
theorem eL (hS : St w F ρ Ow h) (hO : OkC Ow w) (r sz : Nat) : ∃ ρ', St w F ρ' Ow (h.set r .dead ++ [.vs sz []]) ∧ Nxt Ow w F ρ w F ρ' ∧ ρ' h.length = some none := by
 have hN : Nxt Ow w F ρ w F (newAt h ρ none) := ⟨rfl, rfl, rfl, Nat.le_refl _, fun _ _ _ => rfl, fun _ _ => rfl, fun _ x => x, fun _ x => .inl x, rf hS _, fun r hr => absurd hr (hO.z r)⟩
 refine ⟨_, hS.next hN (r9 hS _ (by simp)) hS.fsz (fun k b hk => ?_) (hS.owned hN (fun b _ hF _ _ => ⟨rfl, hF⟩) (fun k i j x ho => ⟨?_, fun _ _ _ hx => hx⟩) fun k b L hk hw hL => ?_), hN, by simp [newAt]⟩
 · rcases wC hk with ⟨rfl, rfl⟩ | ⟨hl, hk⟩
   · exact .inr ⟨.inr ⟨by simp [newAt], rfl⟩, fun L hL => by simp [newAt] at hL⟩
   · rw [List.getElem?_set] at hk
     split at hk
     · split at hk
       · cases hk; exact .inr ⟨trivial, fun L' _ hw => by simp [writes] at hw⟩
       · cases hk
     · exact .inl ⟨hk, fun L hL hw => ⟨rfl, ((hS.blk k b hk).vF hw hL).1⟩⟩
 · obtain ⟨s, e, cs, h1, h2, h3⟩ := ho
   rcases wC h1 with ⟨_, h4⟩ | ⟨_, h4⟩
   · cases h4; simp at h2
   · exact ⟨s, e, cs, (ld h4 (by simp)).2, h2, h3⟩
 · rcases wC hk with ⟨rfl, rfl⟩ | ⟨hl, hk⟩
   · simp [newAt] at hL
   · exact .inr (hS.same hN.ext (w6 hk hw).2 hw hL)
/-- a new row behind an append that had no room -/
theorem Wm (hS : St w F ρ Ow h) (hO : OkC Ow w) {el : TypeId} {i : TypeInfo} {z : Value} (hzs : z.cells.size = i.size) {r : Nat} {es es2 : List (List V)} (hb : h[r]? = some (.vs i.size es)) (hok : (es2.all fun c => c.all yc) = true)
 {olds news : List Value} (hes : ∀ e ∈ es ++ es2, e.length = i.size) {c0 : Nat} (hc0 : c0 < es.length + es2.length) (hro : RVs w F ρ olds es.flatten) (hrn : RVs w F ρ news es2.flatten) (h1 : 0 < i.size)
 (hcell : ∀ k j L u, ρ r = some (some L) → cellAt w L k j u → k < es.length → j < i.size → olds[k * i.size + j]? = some u) :
 ∃ ρ', St (w.drew.alloc (.cells ((olds ++ news).toArray ++ Builtin.zeroCells z.cells (grownCap w (es.length + es2.length) c0 el - (es.length + es2.length))) el)) F ρ' Ow (h.set r .dead ++ [.vs i.size (es ++ es2)]) ∧
  Nxt Ow w F ρ (w.drew.alloc (.cells ((olds ++ news).toArray ++ Builtin.zeroCells z.cells (grownCap w (es.length + es2.length) c0 el - (es.length + es2.length))) el)) F ρ' ∧
  RV (w.drew.alloc (.cells ((olds ++ news).toArray ++ Builtin.zeroCells z.cells (grownCap w (es.length + es2.length) c0 el - (es.length + es2.length))) el)) F ρ' (.slice (some ⟨w.heap.size, 0, none⟩) (es.length + es2.length) (grownCap w (es.length + es2.length) c0 el)) (.sl h.length 0 (es.length + es2.length) none) := by
 have hr : RVs w F ρ (olds ++ news) (es ++ es2).flatten := by rw [List.flatten_append]; exact yW hro hrn
 have hfl := zM hr
 have hfl' := wb hes
 have hge := grownCap_ge w (es.length + es2.length) c0 el
 generalize hgc : grownCap w (es.length + es2.length) c0 el = gc at *
 generalize harr : (olds ++ news).toArray ++ Builtin.zeroCells z.cells (gc - (es.length + es2.length)) = arr
 have hsize : arr.size = gc * i.size := by
  rw [← harr]
  simp only [Array.size_append, List.size_toArray, size_zeroCells, hzs, hfl, hfl', List.length_append, ← Nat.add_mul]
  congr 1
  omega
 have hsz : (es.length + es2.length) * i.size ≤ gc * i.size := Nat.mul_le_mul_right _ hge
 have hget : ∀ k u, (olds ++ news)[k]? = some u → arr[k]? = some u := fun k u hk => by
  have hkl := (List.getElem?_eq_some_iff.1 hk).1
  rw [← harr, Array.getElem?_append_left (by simpa using hkl)]
  simpa using hk
 have hheap : (w.drew.alloc (.cells arr el)).heap[w.heap.size]? = some (.cells arr el) := kN w.drew _
 have hoth : ∀ b, b < w.heap.size → (w.drew.alloc (.cells arr el)).heap[b]? = w.heap[b]? := fun b hb => by
  have e : w.drew.heap = w.heap := rfl
  simp [xP, e, Array.getElem?_push, Nat.ne_of_lt hb]
 have hN : Nxt Ow w F ρ (w.drew.alloc (.cells arr el)) F (newAt h ρ (some ⟨w.heap.size, 0, i.size, es.length + es2.length, arr.size⟩)) :=
  ⟨rfl, rfl, rfl, by simp [xP], fun b hb _ => hoth b hb, fun b hb => hoth b (hS.fsz b hb), fun _ x => x, fun _ x => .inl x, rf hS _, fun r hr => absurd hr (hO.z r)⟩
 have hnF : ¬ F w.heap.size := fun x => by have := hS.fsz _ x; omega
 have hlow : ∀ k b L, h[k]? = some b → writes b = true → ρ k = some (some L) → L.b < w.heap.size := fun k b L hb hw hL => ((hS.blk k b hb).vF hw hL).2.2
 refine ⟨_, hS.next hN (r9 hS _ (by simp)) (fun b hb => Nat.lt_of_lt_of_le (hS.fsz b hb) hN.size) (fun k b hk => ?_) (ef hS hN hb (fun b _ _ hlt _ => hoth b hlt) (fun a j cs x hi hj => ?_) (fun k a j x hne ho L u hL hu => ?_) fun k b L hk hw hL => ?_), hN, ?_⟩
 · rcases wC hk with ⟨hkl, rfl⟩ | ⟨hl, hk⟩
   · have hkl : k = h.length := by simpa using hkl
     subst hkl
     refine .inr ⟨.inl ⟨⟨w.heap.size, 0, i.size, es.length + es2.length, arr.size⟩, by simp [newAt], rfl, ⟨by simp, hes, arr, el, (0, 0), hheap, rfl, fun k _ => by simp, by simp only [Nat.zero_add]; rw [hsize]; exact hsz, fun a j cs x hi hj => ?_⟩, hnF, hO.blk _ (Nat.le_refl _)⟩, fun L hL hw r' b' L' hne hr' hw' hL' => ?_⟩
     · obtain ⟨u, hu, hru⟩ := yn hr _ _ (flat_get hes hi hj)
       exact ⟨u, by simpa using hget _ u hu, hN.rv hru⟩
     · simp [newAt] at hL
       subst hL
       simp only [newAt, hne, if_false] at hL'
       rcases wC hr' with ⟨h5, _⟩ | ⟨_, h5⟩
       · exact absurd (by simpa using h5) hne
       · have := hlow r' b' L' (w6 h5 hw').2 hw' hL'
         simp; omega
   · rw [List.getElem?_set] at hk
     split at hk
     · split at hk
       · cases hk; exact .inr ⟨trivial, fun L' _ hw => by simp [writes] at hw⟩
       · cases hk
     · exact .inl ⟨hk, fun L hL hw => ⟨hoth _ (hlow k b L hk hw hL), ((hS.blk k b hk).vF hw hL).1⟩⟩
 · obtain ⟨hil, hi'⟩ := Ul hok hi hj
   refine ⟨⟨_, _, cs, hb, hi', hj⟩, fun L u hL hu => ⟨⟨w.heap.size, 0, i.size, es.length + es2.length, arr.size⟩, by simp [newAt], arr, el, (0, 0), hheap, ?_⟩⟩
   have hjl : j < i.size := by
    have := (List.getElem?_eq_some_iff.1 hj).1
    rwa [hes cs (List.mem_append_left _ (List.mem_of_getElem? hi'))] at this
   have := hcell a j L u hL hu hil hjl
   have hlt := (List.getElem?_eq_some_iff.1 this).1
   simpa using hget _ u (by rw [List.getElem?_append_left hlt]; exact this)
 · obtain ⟨c, el', fr, q1, q2⟩ := hu
   exact ⟨c, el', fr, (hoth _ (Array.getElem?_eq_some_iff.1 q1).1).trans q1, q2⟩
 · rcases wC hk with ⟨hkl, rfl⟩ | ⟨hl, hk⟩
   · have hkl : k = h.length := by simpa using hkl
     subst hkl
     simp [newAt] at hL
     subst hL
     exact .inl (Nat.le_refl _)
   · exact .inr (hS.same hN.ext (w6 hk hw).2 hw hL)
 · refine .sl h.length 0 _ none ⟨w.heap.size, 0, i.size, es.length + es2.length, arr.size⟩ _ _ (by simp [newAt]) (.inl (by simp)) hge (by simp) (fun _ => by simp; omega) (fun k hk => by cases hk) (fun _ => by simp only [Nat.zero_add]; rw [hsize]; exact Nat.le_refl _)
/-- a row of owned cells that is made longer where it lies -/
theorem Ya (hS : St w F ρ Ow h) (hO : OkC Ow w) {r sz : Nat} {es es2 : List (List V)} {L : Loc} (hb : h[r]? = some (.vs sz es)) (hL : ρ r = some (some L)) (hsz : L.sz = sz) (hrow : xA w L es (RV w F ρ)) (hF : ¬ F L.b) (hOw : Ow L.b)
 (hok : (es2.all fun c => c.all yc) = true) {news : List Value} (hnews : RVs w F ρ news es2.flatten) (hxs : ∀ e ∈ es2, e.length = sz) {c : Nat} (hc : es.length + es2.length ≤ c) (hz : L.o + c * L.sz ≤ L.z) :
 ∃ ρ', St (w.setCells L.b (L.o + es.length * L.sz) news) F ρ' Ow (h.set r .dead ++ [.vs sz (es ++ es2)]) ∧ Nxt Ow w F ρ (w.setCells L.b (L.o + es.length * L.sz) news) F ρ' ∧
  RV (w.setCells L.b (L.o + es.length * L.sz) news) F ρ' (.slice (some ⟨L.b, L.o, none⟩) (es.length + es2.length) c) (.sl h.length 0 (es.length + es2.length) none) ∧ w.there L.b (L.o + es.length * L.sz) news.length := by
 subst hsz
 have hrow' := hrow
 obtain ⟨hn, hl, cc, el', fr, hh, hs, hf, hzz, hcc⟩ := hrow
 have hfl := zM hnews
 have hfl' := wb hxs
 have hmul : (es.length + es2.length) * L.sz ≤ c * L.sz := Nat.mul_le_mul_right _ hc
 rw [Nat.add_mul] at hmul
 obtain ⟨c', k1, k2, k3⟩ := xa news L.b (L.o + es.length * L.sz) w cc el' fr hh (by omega)
 have hN0 := o4 hS hF hOw (L.o + es.length * L.sz) news
 have hN : Nxt Ow w F ρ (w.setCells L.b (L.o + es.length * L.sz) news) F (newAt h ρ (some ⟨L.b, L.o, L.sz, es.length + es2.length, L.z⟩)) :=
  ⟨hN0.os, hN0.tape, hN0.output, hN0.size, hN0.keep, hN0.agree, hN0.grow, hN0.new, rf hS _, fun r hr => absurd hr (hO.z r)⟩
 have hfar : ∀ b, b ≠ L.b → (w.setCells L.b (L.o + es.length * L.sz) news).heap[b]? = w.heap[b]? := fun b hne => xc _ _ _ _ _ hne
 have hoff : ∀ k b L', h[k]? = some b → writes b = true → ρ k = some (some L') → k ≠ r → L'.b ≠ L.b := fun k b L' h1 h2 h3 hne e => hne (hS.inj k r b _ L' L h1 hb h2 rfl h3 hL e)
 refine ⟨_, hS.next hN (r9 hS _ (by simp)) (fun b hb => by rw [wv]; exact hS.fsz b hb) (fun k b hk => ?_) (ef hS hN hb (fun b _ _ _ hne => hfar b fun e => hne r _ L hb rfl hL e.symm) (fun a j cs x hi hj => ?_) (fun k a j x hne ho L' u hL' hu => ?_) fun k b L' hk hw hL' => ?_), hN, ?_, sD hh hf (by omega)⟩
 · rcases wC hk with ⟨hkl, rfl⟩ | ⟨hkl, hk⟩
   · have hkl : k = h.length := by simpa using hkl
     subst hkl
     refine .inr ⟨.inl ⟨⟨L.b, L.o, L.sz, es.length + es2.length, L.z⟩, by simp [newAt], rfl, ⟨by simp, fun e he => ?_, c', el', fr, k1, by simpa using k2.trans hs, fun k hk => hf k (by omega), by simp only [Nat.add_mul]; omega, fun i j cs x hi hj => ?_⟩, hF, hOw⟩, fun L1 hL1 hw r2 b2 L2 hne hr2 hw2 hL2 => ?_⟩
     · rcases List.mem_append.1 he with he | he
       · exact hl e he
       · exact hxs e he
     · simp only
       rw [k3]
       by_cases hil : i < es.length
       · rw [List.getElem?_append_left hil] at hi
         have hjl : j < L.sz := by
          have := (List.getElem?_eq_some_iff.1 hj).1
          rwa [hl cs (List.mem_of_getElem? hi)] at this
         have : (i + 1) * L.sz ≤ es.length * L.sz := Nat.mul_le_mul_right _ (by omega)
         rw [Nat.add_mul] at this
         rw [if_neg (by omega)]
         obtain ⟨u, hu, hru⟩ := hcc _ _ _ _ hi hj
         exact ⟨u, hu, hN.rv hru⟩
       · rw [List.getElem?_append_right (by omega)] at hi
         have hjl : j < L.sz := by
          have := (List.getElem?_eq_some_iff.1 hj).1
          rwa [hxs cs (List.mem_of_getElem? hi)] at this
         have hil' := (List.getElem?_eq_some_iff.1 hi).1
         have a1 : (i - es.length + 1) * L.sz ≤ es2.length * L.sz := Nat.mul_le_mul_right _ (by omega)
         have a2 : i * L.sz = es.length * L.sz + (i - es.length) * L.sz := by rw [← Nat.add_mul]; congr 1; omega
         rw [Nat.add_mul] at a1
         rw [if_pos (by omega)]
         obtain ⟨u, hu, hru⟩ := yn hnews _ _ (flat_get hxs hi hj)
         refine ⟨u, ?_, hN.rv hru⟩
         rw [← hu]
         congr 1
         omega
     · simp [newAt] at hL1
       subst hL1
       simp only [newAt, hne, if_false] at hL2
       rcases wC hr2 with ⟨h5, _⟩ | ⟨_, h5⟩
       · exact absurd (by simpa using h5) hne
       · obtain ⟨h6, h7⟩ := w6 h5 hw2
         exact hoff r2 b2 L2 h7 hw2 hL2 h6
   · by_cases hkr : k = r
     · subst hkr
       have hrl := (List.getElem?_eq_some_iff.1 hb).1
       simp [hrl] at hk
       subst hk
       exact .inr ⟨trivial, fun L' _ hw => by simp [writes] at hw⟩
     · rw [List.getElem?_set_ne (Ne.symm hkr)] at hk
       exact .inl ⟨hk, fun L' hL' hw => ⟨hfar _ (hoff k b L' hk hw hL' hkr), ((hS.blk k b hk).vF hw hL').1⟩⟩
 · obtain ⟨hil, hi'⟩ := Ul hok hi hj
   have hjl : j < L.sz := by
    have := (List.getElem?_eq_some_iff.1 hj).1
    rwa [hl cs (List.mem_of_getElem? hi')] at this
   have : (a + 1) * L.sz ≤ es.length * L.sz := Nat.mul_le_mul_right _ (by omega)
   rw [Nat.add_mul] at this
   refine ⟨⟨_, _, cs, hb, hi', hj⟩, fun L' u hL' hu => ⟨⟨L.b, L.o, L.sz, es.length + es2.length, L.z⟩, by simp [newAt], c', el', fr, k1, ?_⟩⟩
   rw [hL] at hL'; cases hL'
   obtain ⟨c1, el1, fr1, q1, q2⟩ := hu
   rw [hh] at q1; cases q1
   simp only
   rw [k3, if_neg (by omega)]
   exact q2
 · obtain ⟨s, e, cs, q1, _⟩ := ho
   exact vy (hfar _ (hoff k _ L' q1 rfl hL' hne)) hu
 · rcases wC hk with ⟨hkl, rfl⟩ | ⟨hkl, hk⟩
   · have hkl : k = h.length := by simpa using hkl
     subst hkl
     simp [newAt] at hL'
     subst hL'
     exact .inr ⟨r, _, L, hb, rfl, hL, rfl⟩
   · exact .inr (hS.same hN.ext (w6 hk hw).2 hw hL')
 · refine .sl _ _ _ _ ⟨L.b, L.o, L.sz, es.length + es2.length, L.z⟩ _ _ (by simp [newAt]) (.inl (by simp)) hc (by simp) (fun _ => by simp; omega) (fun k hk => by cases hk) (fun _ => by simpa using hz)
/-- append, of rows whose elements may own memory -/
theorem dv (hS : St w F ρ Ow h) (hO : OkC Ow w) {ty tx : TypeId} {s x v : V} {h' : Heap} (hc : yB P ty tx s x h = some (v, h')) {us ux : Value} (hs : RV w F ρ us s) (hx : RV w F ρ ux x) (rt : TypeId) :
 xK P w F ρ Ow (Builtin.append_ #[ty, tx] rt #[us, ux]) v h' := by
 unfold yB at hc
 split at hc
 rotate_left
 · cases hc
 rename_i el e2 hel hel2
 obtain ⟨hty, inf0, hinf0⟩ := wj hel
 obtain ⟨htx, _, _⟩ := wj hel2
 split at hc
 rotate_left
 · cases hc
 rename_i r off len cap r2 off2 len2 cap2
 split at hc
 rotate_left
 · cases hc
 rename_i sz es sz2 es2 hb hb2
 split at hc
 rotate_left
 · cases hc
 rename_i hcond
 obtain ⟨c1, c2, c3, c4, c5, c6, c7, c8, c9, c10, c11, c12⟩ := hcond
 cases hc
 subst c1 c5 c6 c7 c8
 obtain ⟨zs, hzz⟩ := Option.isSome_iff_exists.1 c12
 obtain ⟨inf, zv, i1, i2, i3, i4, i5⟩ := vA (w := w) (F := F) (ρ := ρ) hzz
 have hszi : inf.size = zB P el := by simp [zB, Program.cellsOf, i1]
 have hby : P.bytesOf el = inf.bytes := by simp [Program.bytesOf, i1]
 obtain ⟨news, k1, k2, k3⟩ := Rj hS htx hb2 c9 c2 c3 hx
 have hlenO : ∀ L, xA w L es (RV w F ρ) → L.sz = zB P el → ∀ e ∈ es ++ es2, e.length = inf.size := fun L h3 hL e he => by
  rw [hszi]
  rcases List.mem_append.1 he with h1 | h1
  · exact (h3.len e h1).trans hL
  · exact k3 e h1
 generalize hle : es.length = len at hs
 have grows : ∀ (a : Option Addr) (c : Nat) (olds : List Value), us = .slice a es.length c → c < es.length + es2.length → (Builtin.firstCells inf.size es.length (.slice a es.length c)).run P w.drew = .ok olds.toArray w.drew → RVs w F ρ olds es.flatten →
  (∀ e ∈ es ++ es2, e.length = inf.size) → (∀ k j L u, ρ r = some (some L) → cellAt w L k j u → k < es.length → j < inf.size → olds[k * inf.size + j]? = some u) →
  xK P w F ρ Ow (Builtin.append_ #[ty, tx] rt #[us, ux]) (.sl h.length 0 (es.length + es2.length) none) (h.set r .dead ++ [.vs (zB P el) (es ++ es2)]) := by
  intro a c olds hus hlt hfirst holds hlens hcell
  subst hus
  obtain ⟨ρ', g1, g2, g3⟩ := Wm (el := el) hS hO (z := zv) i3 (by rw [hszi]; exact hb) c9 hlens hlt holds k2 (by omega) hcell
  refine ⟨_, F, ρ', _, run_append_grow_src w ty tx rt el inf zv hty i1 i2 a es.length c olds hfirst ux es2.length news (by rw [hszi]; exact k1) hlt (by unfold yk at c11; omega) (iJ hlt (by rw [← hby]; exact c10)), g3, ?_, g2⟩
  rw [hszi] at g1; exact g1
 have empty : es.length + es2.length = 0 → ∀ a : Option Addr, us = .slice a 0 0 → xK P w F ρ Ow (Builtin.append_ #[ty, tx] rt #[us, ux]) (.sl h.length 0 (es.length + es2.length) none) (h.set r .dead ++ [.vs (zB P el) (es ++ es2)]) := by
  intro h0 a hus
  subst hus
  have hx0 : es2 = [] := List.eq_nil_of_length_eq_zero (by omega)
  have hes : es = [] := List.eq_nil_of_length_eq_zero (by omega)
  subst hx0
  subst hes
  obtain ⟨ρ', g1, g2, g3⟩ := eL hS hO r (zB P el)
  refine ⟨w, F, ρ', .slice a 0 0, ?_, by simpa using RV.slP h.length none a g3 (.inl rfl), by simpa using g1, g2⟩
  have hlen := k1.len w
  have hcl := k1.cells
  have hn0 : news = [] := List.eq_nil_of_length_eq_zero (by simpa using k1.newsLen)
  subst hn0
  simp only [List.length_nil] at hlen hcl
  rcases k1.kind with ⟨e', hk⟩ | hk <;> cases a <;>
   simp [Builtin.append_, zF hty, zF hk, run_sizeOf i1, hlen, hcl, storeCells]
 rcases hS.blk r _ hb with ⟨L, h1, h2, h3, h4, h5⟩ | ⟨h1, h2⟩
 · cases hs with
   | slP r cap a hρ => rw [h1] at hρ; cases hρ
   | sl r off len cap L' a c hρ ha hl hn hc0 hc1 hzz =>
    rw [h1] at hρ; cases hρ
    subst hle
    simp only [Nat.zero_mul, Nat.add_zero, Nat.zero_add] at ha hzz
    by_cases hroom : es.length + es2.length ≤ c
    · by_cases hce : c = 0
      · subst hce
        have h0 : es.length = 0 := by omega
        exact empty (by omega) a (by rw [h0])
      · obtain rfl := ha.resolve_right hce
        obtain ⟨ρ', g1, g2, g3, g4⟩ := Ya hS hO hb h1 h2 h3 h4 h5 c9 k2 k3 hroom (hzz hce)
        refine ⟨_, F, ρ', _, ?_, g3, g1, g2⟩
        have := run_append_room_src (P := P) w ty tx rt el inf hty i1 L.b L.o es.length c ux es2.length news (by rw [hszi]; exact k1) hroom
         (fun j hj => by rw [hszi, ← h2]; exact (g4 j hj).1) (fun j hj => by rw [hszi, ← h2]; exact (g4 j hj).2)
        rw [hszi, ← h2] at this
        exact this
    · obtain ⟨vals, v1, v2, v3, v4⟩ := fA h3 (by omega)
      have hlens := hlenO L h3 h2
      by_cases hl0 : es.length = 0
      · have hes : es = [] := List.eq_nil_of_length_eq_zero hl0
        refine grows a c [] rfl (by omega) ?_ (by rw [hes]; exact .nil) hlens (fun k j L u _ _ hk _ => by omega)
        rw [hl0]
        cases a <;> simp [Builtin.firstCells, loadCells, loadCellsFrom]
      · obtain rfl := ha.resolve_right (by omega)
        refine grows _ c vals rfl (by omega) ?_ v2 hlens (fun k j L' u hL' hu hk hj => ?_)
        · refine run_firstCells_some w.drew inf.size es.length _ es.length c _ (by rw [v1, h2, hszi]) fun j u hj => ?_
          rw [Addr.add_mid]; exact v3 j u hj
        · rw [h1] at hL'; cases hL'
          rw [hszi, ← h2] at hj ⊢
          exact v4 k j u hu hk hj
 · cases hs with
   | sl r off len cap L a c hρ => rw [h1] at hρ; cases hρ
   | slP r cap a hρ hcp =>
    rw [show 0 + es2.length = es.length + es2.length by omega]
    by_cases hn : es2.length = 0
    · exact empty (by omega) a rfl
    · refine grows a 0 [] (by rw [hle]) (by omega) ?_ (by rw [h2]; exact .nil) (fun e he => by rw [h2] at he; rw [hszi]; exact k3 e (by simpa using he)) (fun k j L u hL => by rw [h1] at hL; cases hL)
      rw [hle]
      cases a <;> simp [Builtin.firstCells, loadCells, loadCellsFrom]
theorem Sw (hS : St w F ρ Ow h) (hO : OkC Ow w) {ty tx : TypeId} {s x v : V} {h' : Heap} (hc : yH P ty tx s x h = some (v, h')) {us ux : Value} (hs : RV w F ρ us s) (hx : RV w F ρ ux x) (rt : TypeId) :
 xK P w F ρ Ow (Builtin.append_ #[ty, tx] rt #[us, ux]) v h' := by
 unfold yH at hc
 split at hc
 · rename_i sz
   obtain ⟨ρ1, g1, g2, g3⟩ := eL hS hO h.length sz
   rw [List.set_eq_of_length_le (Nat.le_refl _)] at g1
   have hs1 : RV w F ρ1 us (.sl h.length 0 0 none) := by
    cases hs
    exact .slP h.length none none g3 (.inl rfl)
   obtain ⟨w2, F2, ρ2, u, e1, e2, e3, e4⟩ := dv (P := P) g1 hO hc hs1 (g2.rv hx) rt
   exact ⟨w2, F2, ρ2, u, e1, e2, e3, g2.trans e4⟩
 · exact dv hS hO hc hs hx rt
end Go.Proofs.YtonbkdklidfmfaaGreatDoor.E
