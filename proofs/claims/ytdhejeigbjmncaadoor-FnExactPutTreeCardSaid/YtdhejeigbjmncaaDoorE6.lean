/- The evaluator's append is the machine's. Conditions: those of each lemma. -/
import Derived.Test.YtdhejeigbjmncaaDoorE5
import Derived.Deep.AppendSrc
namespace Go.Proofs.YtdhejeigbjmncaaDoor.E
set_option linter.unusedVariables false
set_option linter.unusedSimpArgs false

variable {P : Program} {w : World} {F : Nat → Prop} {ρ : Locs} {Ow : Own} {h : Heap}

theorem nxt_drew (hS : St w F ρ Ow h) : St w.drew F ρ Ow h ∧ Nxt Ow w F ρ w.drew F ρ := by
  have hN : Nxt Ow w F ρ w.drew F ρ := ⟨rfl, rfl, rfl, Nat.le_refl _, fun _ _ _ => rfl, fun _ _ => rfl, fun _ x => x, fun _ x => .inl x, Ext.refl _, fun _ _ => rfl⟩
  exact ⟨hS.next hN hS.out hS.fsz (fun r b hr => .inl ⟨hr, fun L hL hw => ⟨rfl, ((hS.blk r b hr).notF hw hL).1⟩⟩), hN⟩
theorem kill_st (hS : St w F ρ Ow h) (r : Nat) : St w F ρ Ow (h.set r .dead) :=
  hS.next (Nxt.refl Ow w F ρ) (fun r' hr' => hS.out r' (by simpa using hr')) hS.fsz fun r' b' hr' => by
    rw [List.getElem?_set] at hr'
    split at hr'
    · rename_i e; subst e
      split at hr'
      · cases hr'; exact .inr ⟨trivial, fun L' _ hw => by simp [writes] at hw⟩
      · cases hr'
    · exact .inl ⟨hr', fun L' hL' hw => ⟨rfl, ((hS.blk r' b' hr').notF hw hL').1⟩⟩
/-- a row that is nowhere: it has no elements -/
theorem ghost_st (hS : St w F ρ Ow h) (hO : OkO Ow w ρ h) (sz : Nat) : ∃ ρ', St w F ρ' Ow (nH Ow.N h (.ts sz [])) ∧ Nxt Ow w F ρ w F ρ' ∧ ρ' (nI Ow.N h) = some none := by
  have hN : Nxt Ow w F ρ w F (fun r => if r = nI Ow.N h then some none else ρ r) := ⟨rfl, rfl, rfl, Nat.le_refl _, fun _ _ _ => rfl, fun _ _ => rfl, fun _ x => x, fun _ x => .inl x, (hO.new hS).1, (hO.new hS).2⟩
  refine ⟨_, hS.next hN (fun r hr => hO.out hS rfl hr) hS.fsz (fun r b hr => ?_), hN, by simp⟩
  rw [nH_get hO.lt] at hr
  split at hr
  · rename_i he
    subst he
    cases hr
    exact .inr ⟨.inr ⟨by simp, rfl⟩, fun L hL => by simp at hL⟩
  · exact .inl ⟨hr, fun L hL hw => ⟨rfl, ((hS.blk r b hr).notF hw hL).1⟩⟩

/-- what is appended, in memory -/
theorem src_ok0 (hS : St w F ρ Ow h) {el tx : TypeId} {x : V} {xs : List (List T)} (hx : srcOf0 P el tx x h = some xs) {u : Value} (hu : RV w F ρ u x) (hel : szOf P el ≠ 0) :
    (∃ news, Src P (szOf P el) tx u xs.length news w ∧ RTs w F news xs.flatten ∧ ∀ e ∈ xs, e.length = szOf P el) := by
  unfold srcOf0 at hx
  split at hx
  rotate_left
  · split at hx
    · rename_i l
      split at hx
      · rename_i hi
        cases hx
        cases hu with
        | t u x hx =>
          cases hx with
          | str s l hl =>
            subst hl
            have hk : P.underlying tx = some .string := by
              have := hi.1
              unfold isStr at this
              split at this
              · assumption
              · simp at this
            have hflat : (List.map (fun b : UInt8 => [T.int .u8 (b.toNat : Int)]) s.data.toList).flatten = s.data.toList.map fun b => T.int .u8 (b.toNat : Int) := by
              induction s.data.toList with
              | nil => rfl
              | cons a l ih => simp [ih]
            refine ⟨byteCells s, ?_, ?_, fun e he => ?_⟩
            · rw [hi.2]
              have := Src.ofString (P := P) w hk s
              rwa [show (List.map (fun b : UInt8 => [T.int .u8 (b.toNat : Int)]) s.data.toList).length = s.size by simp]
            · rw [hflat]
              unfold byteCells
              generalize s.data.toList = l
              induction l with
              | nil => exact .nil
              | cons a l ih => exact .cons (.int _ _) ih
            · simp only [List.mem_map] at he
              obtain ⟨b, _, rfl⟩ := he
              simp [hi.2]
      · cases hx
    · cases hx
  rename_i e' hel'
  have he' : P.underlying tx = some (.slice e') := by
    unfold elOf at hel'
    split at hel'
    · split at hel'
      · cases hel'; assumption
      · cases hel'
    · cases hel'
  split at hx
  · rename_i sz es
    split at hx
    · rename_i hsz
      cases hx
      cases hu with
      | t u x hx =>
        cases hx with
        | list a n c sz es g hn hc h0 hz hr =>
          subst hn
          by_cases hne : xs = []
          · subst hne
            refine ⟨[], ?_, .nil, fun e he => by cases he⟩
            cases a with
            | none => exact Src.ofNil w he' c
            | some ad => exact Src.ofSlice w he' ad 0 c [] (by simp) (fun j u hj => by simp at hj) (fun u hu => by cases hu)
          · have hsz' : sz = szOf P el := by
              simp at hsz
              rcases hsz with h1 | h1
              · exact h1
              · exact absurd h1 hne
            subst hsz'
            obtain ⟨b, o, rfl, hb, hcell⟩ := h0 (List.length_pos_iff.2 hne)
            have hlen := flat_len hz
            have hpos : 0 < szOf P el := by omega
            have hlook : ∀ k, k < xs.length * szOf P el → ∃ y, xs.flatten[k]? = some y ∧ RT w F (g (k / szOf P el) (k % szOf P el)) y ∧ w.cell? ⟨b, o + k, none⟩ = some (g (k / szOf P el) (k % szOf P el)) := fun k hk => by
              have h1 : k / szOf P el < xs.length := (Nat.div_lt_iff_lt_mul hpos).2 hk
              have h2 : k % szOf P el < szOf P el := Nat.mod_lt _ hpos
              have h3 := Nat.div_add_mod k (szOf P el)
              have h4 : (xs[k / szOf P el]'h1).length = szOf P el := hz _ (List.getElem_mem h1)
              have hget := flat_get hz (List.getElem?_eq_getElem h1) (List.getElem?_eq_getElem (show k % szOf P el < (xs[k / szOf P el]'h1).length by omega))
              rw [show k / szOf P el * szOf P el + k % szOf P el = k by rw [Nat.mul_comm]; omega] at hget
              refine ⟨_, hget, hr _ _ _ _ (List.getElem?_eq_getElem h1) (List.getElem?_eq_getElem (by omega)), ?_⟩
              have := hcell (k / szOf P el) (k % szOf P el) h1 h2
              rw [show k / szOf P el * szOf P el + k % szOf P el = k by rw [Nat.mul_comm]; omega] at this
              exact this
            refine ⟨(List.range (xs.length * szOf P el)).map fun k => g (k / szOf P el) (k % szOf P el), ?_, forall₂_of (by simp [hlen]) fun k u v hu hv => ?_, hz⟩
            · refine Src.ofSlice w he' _ _ _ _ (by simp) (fun j u hj => ?_) (fun u hu => ?_)
              · have hjl : j < xs.length * szOf P el := by
                  have := (List.getElem?_eq_some_iff.1 hj).1; simpa using this
                obtain ⟨y, _, _, h3⟩ := hlook j hjl
                simp [hjl] at hj
                subst hj
                rw [Addr.add_mid]; exact h3
              · simp only [List.mem_map, List.mem_range] at hu
                obtain ⟨k, hk, rfl⟩ := hu
                obtain ⟨y, _, h2, _⟩ := hlook k hk
                exact (rt_cells h2).2
            · have hkl : k < xs.length * szOf P el := by
                have := (List.getElem?_eq_some_iff.1 hu).1; simpa using this
              obtain ⟨y, h1, h2, _⟩ := hlook k hkl
              simp [hkl] at hu
              subst hu
              rw [h1] at hv; cases hv; exact h2
    · cases hx
  · cases hx
    cases hu with
    | nil sz => exact ⟨[], Src.ofNil w he' 0, .nil, fun e he => by cases he⟩
  · rename_i r off len cap
    have main : ∀ sz (es : List (List T)), ((∃ L, ρ r = some (some L) ∧ L.sz = sz ∧ RowOK w L es (RT w F)) ∨ (ρ r = some none ∧ es = [])) → sz = szOf P el → xs = (es.drop off).take len →
        ∃ news, Src P (szOf P el) tx u xs.length news w ∧ RTs w F news xs.flatten ∧ ∀ e ∈ xs, e.length = szOf P el := by
      intro sz es hrow hsz hxs
      cases hu with
      | slP r cap a hρ hc =>
        simp at hxs; subst hxs
        refine ⟨[], ?_, .nil, fun e he => by cases he⟩
        cases a with
        | none => exact Src.ofNil w he' 0
        | some ad => exact Src.ofSlice w he' ad 0 0 [] (by simp) (fun j u hj => by simp at hj) (fun u hu => by cases hu)
      | sl r off len cap L a c hρ ha hl hn hc0 hc1 hz =>
        rcases hrow with ⟨L', h1, h2, h3⟩ | ⟨h1, _⟩
        · rw [hρ] at h1; cases h1
          obtain ⟨hn', hl', cc, el', fr, hh, hs, hf, hzz, hcc⟩ := h3
          have hzlen : ∀ e ∈ xs, e.length = szOf P el := fun e he => by
            rw [hxs] at he; rw [hl' e (List.mem_of_mem_drop (List.mem_of_mem_take he)), h2, hsz]
          have hxl : xs.length = len := by rw [hxs]; simp; omega
          have hpos : 0 < szOf P el := by omega
          by_cases hlen0 : len = 0
          · subst hlen0
            have hxe : xs = [] := List.eq_nil_of_length_eq_zero hxl
            subst hxe
            refine ⟨[], ?_, .nil, fun e he => by cases he⟩
            cases a with
            | none => exact Src.ofNil w he' c
            | some ad => exact Src.ofSlice w he' ad 0 c [] (by simp) (fun j u hj => by simp at hj) (fun u hu => by cases hu)
          · have hc' : c ≠ 0 := by omega
            obtain rfl := ha.resolve_right hc'
            have hsz' : L.sz = szOf P el := h2.trans hsz
            have hlook : ∀ k, k < xs.length * szOf P el → ∃ y u, xs.flatten[k]? = some y ∧ RT w F u y ∧ w.cell? ⟨L.b, L.o + off * L.sz + k, none⟩ = some u := fun k hk => by
              have h1 : k / szOf P el < xs.length := (Nat.div_lt_iff_lt_mul hpos).2 hk
              have h2 : k % szOf P el < szOf P el := Nat.mod_lt _ hpos
              have h3 := Nat.div_add_mod k (szOf P el)
              have h4 : (xs[k / szOf P el]'h1).length = szOf P el := hzlen _ (List.getElem_mem h1)
              have hget := flat_get hzlen (List.getElem?_eq_getElem h1) (List.getElem?_eq_getElem (show k % szOf P el < (xs[k / szOf P el]'h1).length by omega))
              rw [show k / szOf P el * szOf P el + k % szOf P el = k by rw [Nat.mul_comm]; omega] at hget
              have hes : es[off + k / szOf P el]? = some (xs[k / szOf P el]'h1) := by
                have h5 : ((es.drop off).take len)[k / szOf P el]? = some (xs[k / szOf P el]'h1) := hxs ▸ List.getElem?_eq_getElem h1
                rw [List.getElem?_take, List.getElem?_drop, if_pos (by omega)] at h5
                exact h5
              obtain ⟨u, hu, hru⟩ := hcc _ _ _ _ hes (List.getElem?_eq_getElem (show k % szOf P el < (xs[k / szOf P el]'h1).length by omega))
              refine ⟨_, u, hget, hru, ?_⟩
              unfold World.cell?
              rw [hh]
              simp only [Option.isSome_none]
              rw [show L.o + off * L.sz + k = L.o + ((off + k / szOf P el) * L.sz + k % szOf P el) by
                rw [Nat.add_mul, hsz', Nat.mul_comm (k / szOf P el)]; omega]
              simpa using hu
            refine ⟨(List.range (xs.length * szOf P el)).map fun k => (w.cell? ⟨L.b, L.o + off * L.sz + k, none⟩).getD undef, ?_, forall₂_of (by simp [flat_len hzlen]) fun k u v hu hv => ?_, hzlen⟩
            · rw [← hxl]
              refine Src.ofSlice w he' _ _ _ _ (by simp) (fun j u hj => ?_) (fun u hu => ?_)
              · have hjl : j < xs.length * szOf P el := by
                  have := (List.getElem?_eq_some_iff.1 hj).1; simpa using this
                obtain ⟨y, u', _, _, h3⟩ := hlook j hjl
                simp [hjl, h3] at hj
                subst hj
                rw [Addr.add_mid]; exact h3
              · simp only [List.mem_map, List.mem_range] at hu
                obtain ⟨k, hk, rfl⟩ := hu
                obtain ⟨y, u', _, h2, h3⟩ := hlook k hk
                rw [h3]; exact (rt_cells h2).2
            · have hkl : k < xs.length * szOf P el := by
                have := (List.getElem?_eq_some_iff.1 hu).1; simpa using this
              obtain ⟨y, u', h1, h2, h3⟩ := hlook k hkl
              simp [hkl, h3] at hu
              subst hu
              rw [h1] at hv; cases hv; exact h2
        · rw [hρ] at h1; cases h1
    split at hx
    · rename_i sz es hb
      split at hx
      · rename_i hsz
        cases hx
        exact main sz es ((hS.blk r _ hb).imp (fun ⟨L, a, b, c, _⟩ => ⟨L, a, b, c⟩) id) (by simpa using hsz) rfl
      · cases hx
    · rename_i sz es hb
      split at hx
      · rename_i hsz
        cases hx
        exact main sz es ((hS.blk r _ hb).imp (fun ⟨L, a, b, c, _⟩ => ⟨L, a, b, c⟩) id) (by simpa using hsz) rfl
      · cases hx
    · cases hx
  · cases hx

theorem unN_rv {u : Value} {x : V} (hu : RV w F ρ u x) : RV w F ρ u (unN x) := by
  cases hu with
  | t u x hx =>
    cases hx with
    | nlist a n c sz es b hb h => exact .t _ _ h
    | int k n => exact .t _ _ (.int k n)
    | bool b => exact .t _ _ (.bool b)
    | str s l h => exact .t _ _ (.str s l h)
    | list a n c sz es g hn hc h0 hz hr => exact .t _ _ (.list a n c sz es g hn hc h0 hz hr)
    | fp b o cs g hF hc hr => exact .t _ _ (.fp b o cs g hF hc hr)
    | fn f caps vs hv g hg hr => exact .t _ _ (.fn f caps vs hv g hg hr)
    | nilp => exact .t _ _ .nilp
    | nilf => exact .t _ _ .nilf
    | nili => exact .t _ _ .nili
    | nni t v => exact .t _ _ (.nni t v)
  | nil sz => exact .nil sz
  | sl r off len cap L a c hρ ha hl hn hc0 hc1 hz => exact .sl r off len cap L a c hρ ha hl hn hc0 hc1 hz
  | slP r cap a hρ hc => exact .slP r cap a hρ hc
  | ptr r i j L hρ => exact .ptr r i j L hρ
  | agg vs cs g hs hg hr => exact .agg vs cs g hs hg hr
  | tup vs cs g hs hg hr => exact .tup vs cs g hs hg hr
  | fn f vs cs g hs hg hr => exact .fn f vs cs g hs hg hr
  | und => exact .und
  | bad u => exact .bad u
theorem src_ok (hS : St w F ρ Ow h) {el tx : TypeId} {x : V} {xs : List (List T)} (hx : srcOf P el tx x h = some xs) {u : Value} (hu : RV w F ρ u x) (hel : szOf P el ≠ 0) :
    (∃ news, Src P (szOf P el) tx u xs.length news w ∧ RTs w F news xs.flatten ∧ ∀ e ∈ xs, e.length = szOf P el) := src_ok0 hS hx (unN_rv hu) hel
def cutH (h : Heap) (r : Option Nat) : Heap := match r with | some r => h.set r .dead | none => h
/-- a new row behind an append that had no room -/
theorem grow_st (hS : St w F ρ Ow h) (hO : OkO Ow w ρ h) {el : TypeId} {i : TypeInfo} {z : Value} (hi : P.info? el = some i) (hz : i.zero = some z) (hzs : z.cells.size = i.size) (r : Option Nat) (hr0 : ∀ k, r = some k → ∃ b, h[k]? = some b ∧ b ≠ .dead)
    {olds news : List Value} {es : List (List T)} (hes : ∀ e ∈ es, e.length = i.size) {need c0 : Nat} (hn : es.length = need) (hc0 : c0 < need) (hr : RTs w F (olds ++ news) es.flatten) (h1 : 0 < i.size) :
    ∃ ρ', St (w.drew.alloc (.cells ((olds ++ news).toArray ++ Builtin.zeroCells z.cells (grownCap w need c0 el - need)) el)) F ρ' Ow (nH Ow.N (cutH h r) (.ts i.size es)) ∧
      Nxt Ow w F ρ (w.drew.alloc (.cells ((olds ++ news).toArray ++ Builtin.zeroCells z.cells (grownCap w need c0 el - need)) el)) F ρ' ∧
      RV (w.drew.alloc (.cells ((olds ++ news).toArray ++ Builtin.zeroCells z.cells (grownCap w need c0 el - need)) el)) F ρ' (.slice (some ⟨w.heap.size, 0, none⟩) need (grownCap w need c0 el)) (.sl (nI Ow.N h) 0 need none) := by
  obtain ⟨hS1, hN1⟩ := nxt_drew hS
  have hS2 : St w.drew F ρ Ow (cutH h r) := by
    cases r with
    | none => exact hS1
    | some r => exact kill_st hS1 r
  have hlen : nI Ow.N (cutH h r) = nI Ow.N h := by cases r <;> cases Ow.N <;> simp [nI, cutH]
  have hO2 : OkO Ow w.drew ρ (cutH h r) := by
    cases r with
    | none => exact hO.drew
    | some r => obtain ⟨b, h1, h2⟩ := hr0 r rfl; exact (hO.set h1 h2).drew
  have hfl := forall₂_len hr
  have hfl' := flat_len hes
  have hge := grownCap_ge w need c0 el
  have hsize : ((olds ++ news).toArray ++ Builtin.zeroCells z.cells (grownCap w need c0 el - need)).size = grownCap w need c0 el * i.size := by
    simp only [Array.size_append, List.size_toArray, size_zeroCells, hzs, hfl, hfl', hn, ← Nat.add_mul]
    congr 1
    omega
  have hsz : need * i.size ≤ grownCap w need c0 el * i.size := Nat.mul_le_mul_right _ hge
  obtain ⟨ρ', k1, k2, k3⟩ := new_ts (w := w.drew) hS2 hO2 (arr := (olds ++ news).toArray ++ Builtin.zeroCells z.cells (grownCap w need c0 el - need)) (el := el) (es := es) (sz := i.size) hes (by rw [hsize, hn]; exact hsz)
    (by
      rw [Array.toList_append, List.take_append_of_le_length (by simp [hfl, hfl'])]
      rw [List.take_of_length_le (by simp [hfl, hfl'])]
      exact forall₂_imp hr fun _ _ x => hN1.rt x)
  refine ⟨ρ', k1, hN1.trans k2, ?_⟩
  rw [hlen] at k3
  have := RV.sl (w := w.drew.alloc (.cells ((olds ++ news).toArray ++ Builtin.zeroCells z.cells (grownCap w need c0 el - need)) el)) (F := F) (ρ := ρ') (nI Ow.N h) 0 need none _ (some ⟨w.heap.size, 0, none⟩) (grownCap w need c0 el) k3 (.inl (by simp)) hge (by simp [hn]) (fun _ => by simp [hn]; omega)
    (fun k hk => by cases hk) (fun _ => by simp only [Nat.zero_add]; rw [hsize]; exact Nat.le_refl _)
  exact this

/-- a row that is made longer where it lies -/
theorem place_st (hS : St w F ρ Ow h) (hO : OkO Ow w ρ h) {r off sz : Nat} {es : List (List T)} {L : Loc} (hb : h[r]? = some (.ts sz es)) (hL : ρ r = some (some L)) (hsz : L.sz = sz) (hrow : RowOK w L es (RT w F)) (hF : ¬ F L.b) (hOw : Ow L.b)
    {len c : Nat} (hoff : off + len = es.length) {xs : List (List T)} {news : List Value} (hnews : RTs w F news xs.flatten) (hxs : ∀ e ∈ xs, e.length = sz) (hc : len + xs.length ≤ c) (hz : L.o + (off + c) * L.sz ≤ L.z) :
    ∃ ρ', St (w.setCells L.b (L.o + off * L.sz + len * L.sz) news) F ρ' Ow (nH Ow.N (h.set r .dead) (.ts sz (es.drop off ++ xs))) ∧ Nxt Ow w F ρ (w.setCells L.b (L.o + off * L.sz + len * L.sz) news) F ρ' ∧
      RV (w.setCells L.b (L.o + off * L.sz + len * L.sz) news) F ρ' (.slice (some ⟨L.b, L.o + off * L.sz, none⟩) (len + xs.length) c) (.sl (nI Ow.N h) 0 (len + xs.length) none) ∧ w.there L.b (L.o + off * L.sz + len * L.sz) news.length := by
  subst hsz
  have hrow' := hrow
  obtain ⟨hn, hl, cc, el', fr, hh, hs, hf, hzz, hcc⟩ := hrow
  have hfl := forall₂_len hnews
  have hfl' := flat_len hxs
  have hmul : (off + (len + xs.length)) * L.sz ≤ (off + c) * L.sz := Nat.mul_le_mul_right _ (by omega)
  have e1 : (off + (len + xs.length)) * L.sz = off * L.sz + (len * L.sz + xs.length * L.sz) := by rw [Nat.add_mul, Nat.add_mul]
  obtain ⟨c', k1, k2, k3⟩ := setCells_near news L.b (L.o + off * L.sz + len * L.sz) w cc el' fr hh (by omega)
  have hS1 := kill_st hS r
  have hN := nxt_store hS hF hOw (L.o + off * L.sz + len * L.sz) news
  have hO1 : OkO Ow w ρ (h.set r .dead) := hO.set hb (by simp)
  have hnI : nI Ow.N (h.set r .dead) = nI Ow.N h := by cases Ow.N <;> simp [nI]
  have hN' : Nxt Ow w F ρ (w.setCells L.b (L.o + off * L.sz + len * L.sz) news) F (fun r' => if r' = nI Ow.N h then some (some ⟨L.b, L.o + off * L.sz, L.sz, len + xs.length, L.z⟩) else ρ r') :=
    ⟨hN.os, hN.tape, hN.output, hN.size, hN.keep, hN.agree, hN.grow, hN.new, (hO.new hS).1, (hO.new hS).2⟩
  have hrh : r < h.length := (List.getElem?_eq_some_iff.1 hb).1
  refine ⟨_, hS.next hN' (fun r' hr' => hO.out hS (h0 := h.set r .dead) (by simp) hr') (fun b hb => by rw [setCells_size]; exact hS.fsz b hb) (fun r' b' hr' => ?_), hN', ?_, there_of hh hf (by omega)⟩
  · rw [nH_get hO1.lt, hnI] at hr'
    split at hr'
    rotate_left
    · rw [List.getElem?_set] at hr'
      split at hr'
      · rename_i e; subst e
        cases hr'
        exact .inr ⟨trivial, fun L' _ hw => by simp [writes] at hw⟩
      · rename_i hne
        refine .inl ⟨hr', fun L' hL' hw => ⟨setCells_far _ _ _ _ _ fun e => hne (hS.inj r r' _ b' L L' hb hr' rfl hw hL hL' e.symm), ((hS.blk r' b' hr').notF hw hL').1⟩⟩
    · rename_i he
      subst he
      cases hr'
      refine .inr ⟨.inl ⟨⟨L.b, L.o + off * L.sz, L.sz, len + xs.length, L.z⟩, by simp, rfl, ⟨by simp; omega, fun e he => ?_, c', el', fr, k1, by simpa using k2.trans hs, fun k hk => hf k (by omega), by simp only [Nat.add_mul]; omega, fun i j cs x hi hj => ?_⟩, hF, hOw⟩, fun L1 hL1 hw r2 b2 L2 hne hr2 hw2 hL2 => ?_⟩
      · rcases List.mem_append.1 he with he | he
        · exact hl e (List.mem_of_mem_drop he)
        · exact hxs e he
      · simp only
        rw [k3]
        by_cases hil : i < len
        · rw [List.getElem?_append_left (by simp; omega), List.getElem?_drop] at hi
          have hjl : j < L.sz := by
            have := (List.getElem?_eq_some_iff.1 hj).1
            rwa [hl cs (List.mem_of_getElem? hi)] at this
          have : (i + 1) * L.sz ≤ len * L.sz := Nat.mul_le_mul_right _ (by omega)
          rw [Nat.add_mul] at this
          rw [if_neg (by omega)]
          obtain ⟨u, hu, hru⟩ := hcc _ _ _ _ hi hj
          refine ⟨u, ?_, hN.rt hru⟩
          rw [← hu]
          congr 1
          rw [Nat.add_mul]; omega
        · rw [List.getElem?_append_right (by simp; omega)] at hi
          have hi' : xs[i - len]? = some cs := by rw [← hi]; congr 1; simp; omega
          have hjl : j < L.sz := by
            have := (List.getElem?_eq_some_iff.1 hj).1
            rwa [hxs cs (List.mem_of_getElem? hi')] at this
          have hil' := (List.getElem?_eq_some_iff.1 hi').1
          have a1 : (i - len + 1) * L.sz ≤ xs.length * L.sz := Nat.mul_le_mul_right _ (by omega)
          have a2 : i * L.sz = len * L.sz + (i - len) * L.sz := by rw [← Nat.add_mul]; congr 1; omega
          rw [Nat.add_mul] at a1
          rw [if_pos (by omega)]
          obtain ⟨u, hu, hru⟩ := forall₂_get hnews _ _ (flat_get hxs hi' hj)
          refine ⟨u, ?_, hN.rt hru⟩
          rw [← hu]
          congr 1
          omega
      · simp at hL1
        subst hL1
        simp only [hne, if_false] at hL2
        rw [nH_get hO1.lt, hnI, if_neg hne, List.getElem?_set] at hr2
        split at hr2
        · rename_i e; subst e
          cases hr2
          simp [writes] at hw2
        · rename_i hne2
          exact fun e => hne2 (hS.inj r r2 _ b2 L L2 hb hr2 rfl hw2 hL hL2 e.symm)
  · refine .sl _ _ _ _ ⟨L.b, L.o + off * L.sz, L.sz, len + xs.length, L.z⟩ _ _ (by simp) (.inl (by simp)) hc (by simp) (fun _ => by simp; omega) (fun k hk => by cases hk) (fun _ => ?_)
    simp only [Nat.zero_add]
    rw [Nat.add_mul] at hz
    omega
end Go.Proofs.YtdhejeigbjmncaaDoor.E
