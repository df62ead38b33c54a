/- Joined: E11B E11C E11E E11D E12. Conditions: those of each lemma. -/
import Derived.Test.YtonbkdklidfmfaaGreatDoorjD
set_option linter.unusedVariables false
set_option linter.unusedSimpArgs false
namespace Go.Proofs.YtonbkdklidfmfaaGreatDoor.E
set_option linter.unusedVariables false
set_option linter.unusedSimpArgs false
variable {P : Program} {w : World} {F : Nat → Prop} {ρ : yd} {Ow : Own} {h : Heap}
theorem j8 : ∀ {qs : List (Nat × V)} {sz n : Nat} {css : List (List V)}, wQ sz n qs = some css → ∀ c ∈ css, c.all yc = true
 | [], sz, n, css, hf => by simp only [wQ] at hf; cases hf; simp
 | (i, v) :: qs, sz, n, css, hf => by
  simp only [wQ] at hf
  split at hf
  · rename_i hc
    split at hf
    · rename_i r hr
      cases hf
      intro c hcm
      rcases List.mem_cons.1 hcm with rfl | hcm
      · exact hc.2.2
      · exact j8 hr c hcm
    · cases hf
  · cases hf
theorem nM (hS : St w F ρ Ow h) (hO : OkC Ow w) {t el : TypeId} (hel : zZ P t = some el) {ps : Array (Nat × Value)} {qs : List (Nat × V)}
 (hp : wN (fun (x : Nat × Value) (y : Nat × V) => x.1 = y.1 ∧ RV w F ρ x.2 y.2) ps.toList qs) (hs0 : zB P el ≠ 0) (hs1 : ¬ qs.length * zB P el > 16777216) {css : List (List V)} (hf : wQ (zB P el) 0 qs = some css) {zs : List V} (hz : zeroOf P el = some zs) :
 xK P w F ρ Ow (Instr.buildSlice t qs.length ps) (.sl h.length 0 qs.length (some qs.length)) (h ++ [.vs (zB P el) css]) := by
 obtain ⟨hty, _, _⟩ := wj hel
 obtain ⟨inf, z, i1, i2, i3, i4, i5⟩ := vA (w := w) (F := F) (ρ := ρ) hz
 have hszi : inf.size = zB P el := by simp [zB, Program.cellsOf, i1]
 have harr : ((Array.range (qs.length * zB P el)).map (z.cells[· % z.cells.size]!)).size = qs.length * zB P el := by simp
 obtain ⟨arr', us, e1, e2, e3, e4, e5, e6, e7, e8⟩ := lh (arr := (Array.range (qs.length * zB P el)).map (z.cells[· % z.cells.size]!)) hp hf (by rw [harr]; simp)
 have harr' : arr'.toList = us := by
  apply List.ext_getElem?
  intro m
  rw [Array.getElem?_toList, e7]
  simp only [Nat.zero_mul, Nat.zero_le, true_and, Nat.zero_add, Nat.sub_zero]
  split
  · rfl
  · rename_i hm
    rw [Array.getElem?_eq_none (by rw [harr]; omega), List.getElem?_eq_none (by omega)]
 have hsz' : arr'.size = qs.length * zB P el := by rw [e2, harr]
 obtain ⟨ρ', n1, n2, n3⟩ := iX hS hO.op arr' el (zB P el) css.length (.vs (zB P el) css) (fun ρ' hρ hL hF hOw hA => .inl ⟨_, hL, rfl, r4 (fun e he => e5 e he) (by rw [hsz', e6]; exact Nat.le_refl _)
  (by rw [List.take_of_length_le (by rw [harr', e6, e4]; exact Nat.le_refl _), harr']; exact xM e3 fun _ _ x => x.mono hA (fun _ y => y) hρ), hF, hOw⟩) (bh (j8 hf))
 rw [hO.n] at n1 n3
 simp only [nI, nH] at n1 n3
 refine ⟨_, F, ρ', .slice (some ⟨w.heap.size, 0, none⟩) qs.length qs.length, ?_, ?_, n1, n2⟩
 · by_cases hl : qs.length = 0
   · have hq : qs = [] := List.eq_nil_of_length_eq_zero hl
     subst hq
     cases hp' : ps.toList with
     | cons x l => rw [hp'] at hp; cases hp
     | nil =>
      have ha : arr' = #[] := by
       apply Array.ext'; rw [harr']; exact List.eq_nil_of_length_eq_zero (by simpa using e4)
      simp only [List.length_nil, Nat.zero_mul] at e1
      rw [hp'] at e1
      simp only [Instr.fill, Option.some.injEq] at e1
      have hr0 : ∀ f : Nat → Value, Array.map f (Array.range 0) = #[] := fun f => by apply Array.ext'; simp
      simp [Instr.buildSlice, zF hty, run_sizeOf i1, hp', Instr.fill, newRow, ha, hr0]
   · have hne : ¬ qs.length * inf.size = 0 := by
      rw [hszi]; exact Nat.mul_ne_zero hl hs0
     exact run_buildSlice w t el qs.length ps arr' inf z hty i1 i2 (by rw [hszi]; simpa using hs1) hne (by rw [hszi]; exact e1)
 · refine .sl _ 0 _ _ _ _ _ n3 (.inl (by simp)) (Nat.le_refl _) (by simp [e6]) (fun hcap => by cases hcap) (fun k hk => by cases hk; rfl) (fun _ => ?_)
   simp only [Nat.zero_add]; rw [hsz']; exact Nat.le_refl _
theorem Wh (hS : St w F ρ Ow h) (hO : OkC Ow w) {t el : TypeId} (hel : zZ P t = some el) {zs : List V} (hz : zeroOf P el = some zs) {n : Nat} {k k' : IntKind} (hs0 : zB P el ≠ 0)
 (hb : n * P.bytesOf el ≤ yk) (hm : n ≤ yk) :
 xK P w F ρ Ow (Instr.makeSlice t (.int k n) (.int k' n)) (.sl h.length 0 n (some n)) (h ++ [.vs (zB P el) (List.replicate n zs)]) := by
 obtain ⟨hty, _, _⟩ := wj hel
 obtain ⟨inf, zv, i1, i2, i3, i4, i5⟩ := vA (w := w) (F := F) (ρ := ρ) hz
 have hszi : inf.size = zB P el := by simp [zB, Program.cellsOf, i1]
 have hby : P.bytesOf el = inf.bytes := by simp [Program.bytesOf, i1]
 unfold yk at hb hm
 have hrun := run_make (P := P) w t el inf zv hty i1 i2 k k' n n (by omega) (Int.le_refl _) (by rw [hby] at hb; have : (inf.bytes : Int) * (n : Int) = ((n * inf.bytes : Nat) : Int) := by rw [Nat.mul_comm]; simp
                                                                                                omega) (by omega)
 have hzl : zs.length = zB P el := by rw [← zM i4]; simp [i3, hszi]
 have hrep : ∀ e ∈ List.replicate n zs, e.length = zB P el := fun e he => by rw [List.eq_of_mem_replicate he]; exact hzl
 have hcells : RVs w F ρ (madeCells zv.cells (n * inf.size)).toList (List.replicate n zs).flatten := by
  refine x9 (by simp [wb hrep, size_madeCells, hszi]) fun m u v hu hv => ?_
  have hml : m < n * inf.size := by
   have := (List.getElem?_eq_some_iff.1 hu).1; simpa [size_madeCells] using this
  have hpos : 0 < zB P el := by omega
  rw [hszi] at hml
  have d1 : m / zB P el < n := (Nat.div_lt_iff_lt_mul hpos).2 hml
  have d2 : m % zB P el < zB P el := Nat.mod_lt _ hpos
  have d3 := Nat.div_add_mod m (zB P el)
  have hv' := flat_get hrep (i := m / zB P el) (j := m % zB P el) (cs := zs) (x := zs[m % zB P el]'(by omega)) (by simp [d1]) (List.getElem?_eq_getElem (by omega))
  rw [show m / zB P el * zB P el + m % zB P el = m by rw [Nat.mul_comm]; omega] at hv'
  rw [hv] at hv'; cases hv'
  obtain ⟨u', e1, e2⟩ := yn i4 (m % zB P el) _ (List.getElem?_eq_getElem (by omega))
  have hzs : zv.cells.size = zB P el := by rw [i3, hszi]
  have hu' : u = u' := by
   simp only [madeCells, Array.toList_map, List.getElem?_map, Array.toList_range] at hu
   rw [hszi] at hu
   simp [hml] at hu
   rw [← hu, hzs]
   have : zv.cells[m % zB P el]? = some u' := by simpa using e1
   simp [getElem!_def, this]
  rw [hu']; exact e2
 have hno : noO (.vs (zB P el) (List.replicate n zs)) := bh fun c hc => by rw [List.eq_of_mem_replicate hc]; exact qW hz
 obtain ⟨ρ', n1, n2, n3⟩ := iX hS hO.op (madeCells zv.cells (n * inf.size)) el (zB P el) (List.replicate n zs).length (.vs (zB P el) (List.replicate n zs)) (fun ρ' hρ hL hF hOw hA => .inl ⟨_, hL, rfl, r4 hrep (by simp [size_madeCells, hszi])
  (by rw [List.take_of_length_le (by simp [size_madeCells, hszi])]; exact xM hcells fun _ _ x => x.mono hA (fun _ y => y) hρ), hF, hOw⟩) hno
 rw [hO.n] at n1 n3
 simp only [nI, nH] at n1 n3
 refine ⟨_, F, ρ', .slice (some ⟨w.heap.size, 0, none⟩) n n, ?_, ?_, n1, n2⟩
 · simpa using hrun
 · refine .sl _ 0 _ _ _ _ _ n3 (.inl (by simp)) (Nat.le_refl _) (by simp) (fun hcap => by cases hcap) (fun k hk => by cases hk; rfl) (fun _ => ?_)
   simp [size_madeCells, hszi]
end Go.Proofs.YtonbkdklidfmfaaGreatDoor.E
/- Owned values laid apart, and back; calls whose answer owns its memory. Conditions: those of each lemma. -/
namespace Go.Proofs.YtonbkdklidfmfaaGreatDoor.E
set_option linter.unusedVariables false
set_option linter.unusedSimpArgs false
variable {P : Program} {w : World} {F : Nat → Prop} {ρ : yd} {Ow : Own} {h : Heap}
theorem qY {es : List (List V)} {i j : Nat} {cs : List V} {v : V} (hi : es[i]? = some cs) (hj : j < cs.length) {a b : Nat} {cs' : List V} {x : V} (h1 : (y9 es i j cs v)[a]? = some cs') (h2 : cs'[b]? = some x) :
 (a = i ∧ b = j ∧ x = v) ∨ (¬ (a = i ∧ b = j) ∧ ∃ cs0, es[a]? = some cs0 ∧ cs0[b]? = some x) := by
 unfold y9 at h1
 have hil := (List.getElem?_eq_some_iff.1 hi).1
 rw [List.getElem?_set] at h1
 split at h1
 · rename_i e; subst e
   simp [hil] at h1
   subst h1
   rw [List.getElem?_set] at h2
   split at h2
   · rename_i e2; subst e2
     simp [hj] at h2
     exact .inl ⟨rfl, rfl, h2.symm⟩
   · rename_i hne
     exact .inr ⟨fun e => hne e.2.symm, cs, hi, h2⟩
 · rename_i hne
   exact .inr ⟨fun e => hne e.1.symm, cs', h1, h2⟩
theorem Wq {es : List (List V)} {i j : Nat} {cs : List V} {v : V} (hi : es[i]? = some cs) {a b : Nat} {cs0 : List V} {x : V} (hne : ¬ (a = i ∧ b = j)) (h1 : es[a]? = some cs0) (h2 : cs0[b]? = some x) :
 ∃ cs', (y9 es i j cs v)[a]? = some cs' ∧ cs'[b]? = some x := by
 unfold y9
 have hil := (List.getElem?_eq_some_iff.1 hi).1
 by_cases ha : a = i
 · subst ha
   rw [hi] at h1; cases h1
   exact ⟨cs.set j v, by simp [hil], by rw [List.getElem?_set_ne fun e => hne ⟨rfl, e.symm⟩]; exact h2⟩
 · exact ⟨cs0, by rw [List.getElem?_set_ne (Ne.symm ha)]; exact h1, h2⟩
theorem Tg {es : List (List V)} {i j : Nat} {cs : List V} {v : V} (hi : es[i]? = some cs) (hj : j < cs.length) : ∃ cs', (y9 es i j cs v)[i]? = some cs' ∧ cs'[j]? = some v := by
 have hil := (List.getElem?_eq_some_iff.1 hi).1
 exact ⟨cs.set j v, by simp [y9, hil], by simp [hj]⟩
/-- one cell of a row is another value of the evaluator's -/
theorem mU {L : Loc} {es : List (List V)} {R R' : Value → V → Prop} (hr : xA w L es R) (hR : ∀ u x, R u x → R' u x) {i j : Nat} {cs : List V} {v v0 : V} (hi : es[i]? = some cs) (hj : cs[j]? = some v0)
 (hv : ∀ u, cellAt w L i j u → R' u v) : xA w L (y9 es i j cs v) R' := by
 obtain ⟨hn, hl, c, el, fr, hh, hs, hf, hz, hc⟩ := hr
 have hjl := (List.getElem?_eq_some_iff.1 hj).1
 refine ⟨by simpa [y9] using hn, fun e he => ?_, c, el, fr, hh, hs, hf, hz, fun a b cs' x h1 h2 => ?_⟩
 · rcases List.mem_or_eq_of_mem_set he with he | rfl
   · exact hl e he
   · rw [List.length_set]; exact hl cs (List.mem_of_getElem? hi)
 · rcases qY hi hjl h1 h2 with ⟨rfl, rfl, rfl⟩ | ⟨_, cs0, h3, h4⟩
   · obtain ⟨u, hu, _⟩ := hc a b cs v0 hi hj
     exact ⟨u, hu, hv u ⟨c, el, fr, hh, hu⟩⟩
   · obtain ⟨u, hu, hru⟩ := hc a b cs0 x h3 h4
     exact ⟨u, hu, hR u x hru⟩
theorem Wf {r i j sz : Nat} {es : List (List V)} {cs : List V} {v v0 : V} (hb : h[r]? = some (.vs sz es)) (hi : es[i]? = some cs) (hj : cs[j]? = some v0) {a b : Nat} {x : T} (ho : oAt (h.set r (.vs sz (y9 es i j cs v))) r a b x) :
 (a = i ∧ b = j ∧ v = .o x) ∨ (¬ (a = i ∧ b = j) ∧ oAt h r a b x) := by
 have hrl := (List.getElem?_eq_some_iff.1 hb).1
 obtain ⟨s, e, c, h1, h2, h3⟩ := ho
 simp [hrl] at h1
 obtain ⟨rfl, rfl⟩ := h1
 rcases qY hi (List.getElem?_eq_some_iff.1 hj).1 h2 h3 with ⟨h4, h5, h6⟩ | ⟨h4, cs0, h5, h6⟩
 · exact .inl ⟨h4, h5, h6.symm⟩
 · exact .inr ⟨h4, _, es, cs0, hb, h5, h6⟩
theorem fx {r i j sz : Nat} {es : List (List V)} {cs : List V} {v : V} (hb : h[r]? = some (.vs sz es)) (hi : es[i]? = some cs) {k a b : Nat} {x : T} (hne : ¬ (k = r ∧ a = i ∧ b = j)) (ho : oAt h k a b x) : oAt (h.set r (.vs sz (y9 es i j cs v))) k a b x := by
 have hrl := (List.getElem?_eq_some_iff.1 hb).1
 obtain ⟨s, e, c, h1, h2, h3⟩ := ho
 by_cases hk : k = r
 · subst hk
   rw [hb] at h1; cases h1
   obtain ⟨cs', h4, h5⟩ := Wq (v := v) hi (fun e => hne ⟨rfl, e⟩) h2 h3
   exact ⟨sz, y9 es i j cs v, cs', by simp [hrl], h4, h5⟩
 · exact ⟨s, e, c, by rw [List.getElem?_set_ne (Ne.symm hk)]; exact h1, h2, h3⟩
/-- an owned cell is laid in a row of its own -/
theorem ft (hS : St w F ρ Ow h) (hz : ∀ r, ¬ Ow.z r) {φ : Nat → Nat → Nat → Nat → Prop} (hφ : tG w F ρ Ow h φ) {r i j sz : Nat} {es : List (List V)} {cs : List V} {x0 : T} (hb : h[r]? = some (.vs sz es)) (hi : es[i]? = some cs) (hj : cs[j]? = some (.o x0))
 {L : Loc} (hL : ρ r = some (some L)) {l : Option Loc} {blk : Blk} {n : Nat} (hRV : ∀ u, cellAt w L i j u → RV w F (newAt h ρ l) u (.sl h.length 0 n none)) (hRB : RB w F (newAt h ρ l) Ow h.length blk)
 {ψ : Nat → Nat → Nat → Prop} (hψ : ∀ s e a b cs' x, blk = .vs s e → e[a]? = some cs' → cs'[b]? = some (.o x) → ∃ L' u, l = some L' ∧ cellAt w L' a b u ∧ RO w u x (ψ a b))
 (hact : ∀ a b k, ψ a b k → (∃ s e cs' x, blk = .vs s e ∧ e[a]? = some cs' ∧ cs'[b]? = some (.o x)) ∧ φ r i j k) (hsep : ∀ a b a' b' k, ψ a b k → ψ a' b' k → a = a' ∧ b = b')
 (hne : ∀ a b k L', ψ a b k → l = some L' → k ≠ L'.b) (hl : ∀ L', l = some L' → φ r i j L'.b) :
 ∃ ρ', St w F ρ' Ow (h.set r (.vs sz (y9 es i j cs (.sl h.length 0 n none))) ++ [blk]) ∧ Nxt Ow w F ρ w F ρ' := by
 have hrl := (List.getElem?_eq_some_iff.1 hb).1
 have hjl := (List.getElem?_eq_some_iff.1 hj).1
 have hx := rf hS l
 have hN : Nxt Ow w F ρ w F (newAt h ρ l) := ⟨rfl, rfl, rfl, Nat.le_refl _, fun _ _ _ => rfl, fun _ _ => rfl, fun _ x => x, fun _ x => .inl x, hx, fun r hr => absurd hr (hz r)⟩
 have lowρ : ∀ k, k < h.length → newAt h ρ l k = ρ k := fun k hk => by unfold newAt; rw [if_neg (by omega)]
 have get : ∀ k b, (h.set r (.vs sz (y9 es i j cs (.sl h.length 0 n none))) ++ [blk])[k]? = some b → (k = h.length ∧ b = blk) ∨ (k < h.length ∧ k = r ∧ b = .vs sz (y9 es i j cs (.sl h.length 0 n none))) ∨ (k < h.length ∧ k ≠ r ∧ h[k]? = some b) := fun k b hk => by
  rcases wC hk with ⟨h1, h2⟩ | ⟨h1, h2⟩
  · exact .inl ⟨by simpa using h1, h2⟩
  · replace h1 : k < h.length := by simpa using h1
    by_cases hkr : k = r
    · subst hkr; simp [hrl] at h2; exact .inr (.inl ⟨h1, rfl, h2.symm⟩)
    · rw [List.getElem?_set_ne (Ne.symm hkr)] at h2; exact .inr (.inr ⟨h1, hkr, h2⟩)
 -- where a writable row of the new state lies
 have place : ∀ k b L1, (h.set r (.vs sz (y9 es i j cs (.sl h.length 0 n none))) ++ [blk])[k]? = some b → writes b = true → newAt h ρ l k = some (some L1) → (k = h.length ∧ l = some L1) ∨ (k < h.length ∧ ∃ b0, h[k]? = some b0 ∧ writes b0 = true ∧ ρ k = some (some L1)) := fun k b L1 hk hw hL1 => by
  rcases get k b hk with ⟨rfl, rfl⟩ | ⟨h1, rfl, rfl⟩ | ⟨h1, h2, h3⟩
  · simp [newAt] at hL1; exact .inl ⟨rfl, hL1⟩
  · exact .inr ⟨h1, _, hb, rfl, by rw [← lowρ k h1]; exact hL1⟩
  · exact .inr ⟨h1, b, h3, hw, by rw [← lowρ k h1]; exact hL1⟩
 refine ⟨newAt h ρ l, ⟨fun k b hk => ?_, fun k k' b b' L1 L2 hk hk' hw hw' h1 h2 he => ?_, hS.fsz, r9 hS l (by simp), ?_⟩, hN⟩
 · rcases get k b hk with ⟨rfl, rfl⟩ | ⟨h1, rfl, rfl⟩ | ⟨h1, h2, h3⟩
   · exact hRB
   · rcases hS.blk k _ hb with ⟨L', q1, q2, q3, q4, q5⟩ | ⟨q1, _⟩
     · rw [hL] at q1; cases q1
       exact .inl ⟨L, hx _ _ hL, q2, mU q3 (fun u x hr => hN.rv hr) hi hj hRV, q4, q5⟩
     · rw [hL] at q1; cases q1
   · exact (hS.blk k b h3).mono hN.agree hN.grow hx fun L' hL' hw => ⟨rfl, ((hS.blk k b h3).vF hw hL').1⟩
 · rcases place k b L1 hk hw h1 with ⟨rfl, p1⟩ | ⟨p0, b0, p1, p2, p3⟩ <;> rcases place k' b' L2 hk' hw' h2 with ⟨rfl, q1⟩ | ⟨q0, b1, q1, q2, q3⟩
   · rfl
   · exact absurd he.symm (hφ.apart r i j L1.b k' b1 L2 (hl L1 p1) q1 q2 q3)
   · exact absurd he (hφ.apart r i j L2.b k b0 L1 (hl L2 q1) p1 p2 p3)
   · exact hS.inj k k' b0 b1 L1 L2 p1 q1 p2 q2 p3 q3 he
 · refine ⟨fun k a b m => (k = h.length ∧ ψ a b m) ∨ (k < h.length ∧ ¬ (k = r ∧ a = i ∧ b = j) ∧ φ k a b m), ⟨fun k a b x ho => ?_, fun k a b m hm => ?_, fun k a b k' a' b' m h1 h2 => ?_, fun k a b m k' b' L' h1 h2 h3 h4 he => ?_⟩⟩
   · obtain ⟨s, e, c, h1, h2, h3⟩ := ho
     rcases get k _ h1 with ⟨rfl, rfl⟩ | ⟨h4, rfl, h5⟩ | ⟨h4, h5, h6⟩
     · obtain ⟨L', u, q1, q2, q3⟩ := hψ s e a b c x rfl h2 h3
       exact ⟨L', u, by simp [newAt, q1], q2, q3.mono fun m hm => ⟨.inl ⟨rfl, hm⟩, rfl⟩⟩
     · cases h5
       rcases qY hi hjl h2 h3 with ⟨_, _, h6⟩ | ⟨h6, cs0, h7, h8⟩
       · cases h6
       · obtain ⟨L', u, q1, q2, q3⟩ := hφ.cell k a b x ⟨_, es, cs0, hb, h7, h8⟩
         exact ⟨L', u, hx _ _ q1, q2, q3.mono fun m hm => ⟨.inr ⟨h4, fun e => h6 e.2, hm⟩, rfl⟩⟩
     · obtain ⟨L', u, q1, q2, q3⟩ := hφ.cell k a b x ⟨s, e, c, h6, h2, h3⟩
       exact ⟨L', u, hx _ _ q1, q2, q3.mono fun m hm => ⟨.inr ⟨h4, fun e => h5 e.1, hm⟩, rfl⟩⟩
   · rcases hm with ⟨rfl, hm⟩ | ⟨h1, h2, hm⟩
     · obtain ⟨⟨s, e, c, x, q1, q2, q3⟩, q4⟩ := hact a b m hm
       subst q1
       exact ⟨⟨x, s, e, c, by simp, q2, q3⟩, (hφ.act r i j m q4).2⟩
     · obtain ⟨⟨x, ho⟩, q⟩ := hφ.act k a b m hm
       obtain ⟨s, e, c, q1, q2, q3⟩ := fx (v := .sl h.length 0 n none) hb hi h2 ho
       exact ⟨⟨x, s, e, c, by rw [List.getElem?_append_left (by simpa using h1)]; exact q1, q2, q3⟩, q⟩
   · rcases h1 with ⟨rfl, h1⟩ | ⟨h1, h1', h1''⟩ <;> rcases h2 with ⟨rfl, h2⟩ | ⟨h2, h2', h2''⟩
     · exact ⟨rfl, hsep a b a' b' m h1 h2⟩
     · exact absurd (hφ.sep r i j k' a' b' m (hact a b m h1).2 h2'') fun e => h2' ⟨e.1.symm, e.2.1.symm, e.2.2.symm⟩
     · exact absurd (hφ.sep r i j k a b m (hact a' b' m h2).2 h1'') fun e => h1' ⟨e.1.symm, e.2.1.symm, e.2.2.symm⟩
     · exact hφ.sep k a b k' a' b' m h1'' h2''
   · rcases place k' b' L' h2 h3 h4 with ⟨rfl, p1⟩ | ⟨p0, b0, p1, p2, p3⟩
     · rcases h1 with ⟨rfl, h1⟩ | ⟨h1, h1', h1''⟩
       · exact hne a b m L' h1 p1 he.symm
       · exact h1' (by obtain ⟨e1, e2, e3⟩ := hφ.sep k a b r i j m h1'' (he ▸ hl L' p1); exact ⟨e1, e2, e3⟩)
     · rcases h1 with ⟨rfl, h1⟩ | ⟨h1, h1', h1''⟩
       · exact hφ.apart r i j m k' b0 L' (hact a b m h1).2 p1 p2 p3 he
       · exact hφ.apart k a b m k' b0 L' h1'' p1 p2 p3 he
theorem nC {es : List (List T)} (hf : vJ es = true) {i j : Nat} {cs : List T} {x : T} (hi : es[i]? = some cs) (hj : cs[j]? = some x) : zf x = true ∧ isL x = false := by
 have := List.all_eq_true.1 (List.all_eq_true.1 hf cs (List.mem_of_getElem? hi)) x (List.mem_of_getElem? hj)
 simpa using this
theorem RO.flat' {u : Value} {x : T} {S : Nat → Prop} (h : RO w u x S) (hl : isL x = false) : RT w F u x := by
 cases h with
 | flat _ _ _ hx hf h => exact h.mono (fun _ _ => rfl) fun _ hb => hb.elim
 | empty a sz => simp [isL] at hl
 | list => simp [isL] at hl
theorem Tv {x : T} (h : ∀ sz es, x ≠ .list sz es) : oc x = .t x := by
 cases x <;> first | rfl | exact absurd rfl (h _ _)
theorem oc_o {x y : T} (h : oc x = .o y) : x = y ∧ isL x = true := by
 cases x <;> simp [oc] at h
 exact ⟨h, rfl⟩
/-- a cell of an owned value's row -/
theorem oc_rv {ρ' : yd} {u : Value} {x : T} {S : Nat → Prop} (h : RO w u x S) : RV w F ρ' u (oc x) := by
 cases h with
 | flat u x S hx hf h =>
  rw [Tv fun sz es e => by subst e; simp [isL] at hx]
  exact .t _ _ (h.mono (fun _ _ => rfl) fun _ hb => hb.elim)
 | empty a sz => exact .o _ _
 | list => exact .o _ _
theorem T8 (hS : St w F ρ Ow h) (hz : ∀ r, ¬ Ow.z r) (r i : Nat) (c : Nat × Bool) : ∃ ρ', St w F ρ' Ow (yK r i c h) ∧ Nxt Ow w F ρ w F ρ' := by
 have same : ∃ ρ', St w F ρ' Ow h ∧ Nxt Ow w F ρ w F ρ' := ⟨ρ, hS, Nxt.refl _ _ _ _⟩
 unfold yK
 split
 rotate_left
 · exact same
 rename_i sz es hb
 split
 rotate_left
 · exact same
 rename_i cs hi
 split
 rotate_left
 · exact same
 rename_i sz' es' hj
 obtain ⟨φ, hφ⟩ := hS.own
 obtain ⟨L, u, hL, hu, hro⟩ := hφ.cell r i c.1 _ ⟨sz, es, cs, hb, hi, hj⟩
 have uniq : ∀ u', cellAt w L i c.1 u' → u' = u := fun u' hu' => by
  obtain ⟨c1, e1, f1, q1, q2⟩ := hu
  obtain ⟨c2, e2, f2, p1, p2⟩ := hu'
  rw [q1] at p1; cases p1
  rw [q2] at p2; cases p2; rfl
 have main : ∀ blk : Blk, (blk = .ts sz' es' ∧ vJ es' = true) ∨ blk = .vs sz' (es'.map fun e => e.map oc) → ∃ ρ', St w F ρ' Ow (h.set r (.vs sz (y9 es i c.1 cs (.sl h.length 0 es'.length none))) ++ [blk]) ∧ Nxt Ow w F ρ w F ρ' := by
  intro blk hblk
  cases hro with
  | flat _ _ _ hx => simp [isL] at hx
  | empty a _ _ =>
   refine ft hS hz hφ hb hi hj hL (l := none) (fun u' hu' => by rw [uniq u' hu']; exact .slP _ _ _ (by simp [newAt]) (.inl rfl)) ?_ (ψ := fun _ _ _ => False) (fun s e a b cs' x he h1 h2 => ?_) (fun _ _ _ h => h.elim) (fun _ _ _ _ _ h => h.elim) (fun _ _ _ _ h => h.elim) (fun _ h => by cases h)
   · rcases hblk with ⟨rfl, _⟩ | rfl
     · exact .inr ⟨by simp [newAt], rfl⟩
     · exact .inr ⟨by simp [newAt], rfl⟩
   · rcases hblk with ⟨rfl, _⟩ | rfl
     · cases he
     · cases he; simp at h1
  | list L' c' _ _ cc el fr g fp hn hlen hc hz' hh hs hf hbd hg hr hSb hfp sep =>
   obtain ⟨hF, hOw, hlt⟩ := (hφ.act r i c.1 L'.b hSb).2
   refine ft hS hz hφ hb hi hj hL (l := some L') (n := es'.length) (fun u' hu' => ?_) ?_ (ψ := fun a b m => fp a b m ∧ ∃ s e cs' x, blk = .vs s e ∧ e[a]? = some cs' ∧ cs'[b]? = some (.o x)) (fun s e a b cs' x he h1 h2 => ?_)
    (fun a b m hm => ⟨hm.2, (hfp a b m hm.1).1⟩) (fun a b a' b' m h1 h2 => sep a b a' b' m h1.1 h2.1) (fun a b m L1 hm hL1 => by cases hL1; exact (hfp a b m hm.1).2) (fun L1 hL1 => by cases hL1; exact hSb)
   · rw [uniq u' hu', hn]
     exact .sl _ 0 _ none L' _ c' (by simp [newAt]) (.inl (by simp)) hc (by simp) (fun _ => by simpa using hc) (fun k hk => by cases hk) (fun h0 => by simpa using hz' h0)
   · rcases hblk with ⟨rfl, hfl⟩ | rfl
     · exact .inl ⟨L', by simp [newAt], rfl, ⟨hn, hlen, cc, el, fr, hh, hs, hf, hbd, fun a b cs' x h1 h2 => ⟨_, hg a b cs' x h1 h2, (hr a b cs' x h1 h2).flat' (nC hfl h1 h2).2⟩⟩, hF, hOw⟩
     · refine .inl ⟨L', by simp [newAt], rfl, ⟨by simpa using hn, fun e he => ?_, cc, el, fr, hh, hs, hf, hbd, fun a b cs' x h1 h2 => ?_⟩, hF, hOw⟩
       · simp only [List.mem_map] at he
         obtain ⟨e0, he0, rfl⟩ := he
         rw [List.length_map]; exact hlen e0 he0
       · rw [List.getElem?_map] at h1
         cases h3 : es'[a]? with
         | none => simp [h3] at h1
         | some e0 =>
          simp [h3] at h1
          subst h1
          rw [List.getElem?_map] at h2
          cases h4 : e0[b]? with
          | none => simp [h4] at h2
          | some y =>
           simp [h4] at h2
           subst h2
           exact ⟨_, hg a b e0 y h3 h4, oc_rv (hr a b e0 y h3 h4)⟩
   · rcases hblk with ⟨rfl, hfl⟩ | rfl
     · cases he
     · cases he
       have h1' := h1
       have h2' := h2
       rw [List.getElem?_map] at h1
       cases h3 : es'[a]? with
       | none => simp [h3] at h1
       | some e0 =>
        simp [h3] at h1
        subst h1
        rw [List.getElem?_map] at h2
        cases h4 : e0[b]? with
        | none => simp [h4] at h2
        | some y =>
         simp [h4] at h2
         obtain ⟨rfl, _⟩ := oc_o h2
         exact ⟨L', g a b, rfl, ⟨cc, el, fr, hh, hg a b e0 y h3 h4⟩, (hr a b e0 y h3 h4).mono fun m hm => ⟨⟨hm, _, _, _, y, rfl, h1', h2'⟩, rfl⟩⟩
 split
 · split
   · rename_i hfl
     exact main _ (.inl ⟨rfl, hfl⟩)
   · exact same
 · exact main _ (.inr rfl)
/-- a cell is taken for an owned value's: what it owned before, and what it owns now -/
theorem eQ (hS : St w F ρ Ow h) {φ : Nat → Nat → Nat → Nat → Prop} (hφ : tG w F ρ Ow h φ) {r i j sz : Nat} {es : List (List V)} {cs : List V} {v0 : V} {x0 : T} (hb : h[r]? = some (.vs sz es)) (hi : es[i]? = some cs) (hj : cs[j]? = some v0) (hv0 : ∀ x, v0 ≠ .o x)
 {L : Loc} (hL : ρ r = some (some L)) {S : Nat → Prop} (hro : ∀ u, cellAt w L i j u → RO w u x0 S) {q : Option Nat} (hq : ∀ r', q = some r' → r' ≠ r)
 (hSact : ∀ m, S m → ¬ F m ∧ Ow m ∧ m < w.heap.size) (hSφ : ∀ m k a b, S m → φ k a b m → q = some k) (hSrow : ∀ m k b0 L0, S m → h[k]? = some b0 → writes b0 = true → ρ k = some (some L0) → q ≠ some k → L0.b ≠ m) :
 St w F ρ Ow ((match q with | some r' => (h.set r (.vs sz (y9 es i j cs (.o x0)))).set r' .dead | none => h.set r (.vs sz (y9 es i j cs (.o x0))))) := by
 have hrl := (List.getElem?_eq_some_iff.1 hb).1
 have hjl := (List.getElem?_eq_some_iff.1 hj).1
 generalize hh' : (match q with | some r' => (h.set r (.vs sz (y9 es i j cs (.o x0)))).set r' .dead | none => h.set r (.vs sz (y9 es i j cs (.o x0)))) = h'
 have hlen : h'.length = h.length := by rw [← hh']; cases q <;> simp
 have get : ∀ k b, h'[k]? = some b → (q = some k ∧ b = .dead) ∨ (q ≠ some k ∧ k = r ∧ b = .vs sz (y9 es i j cs (.o x0))) ∨ (q ≠ some k ∧ k ≠ r ∧ h[k]? = some b) := fun k b hk => by
  have step : ∀ b, (h.set r (.vs sz (y9 es i j cs (.o x0))))[k]? = some b → (k = r ∧ b = .vs sz (y9 es i j cs (.o x0))) ∨ (k ≠ r ∧ h[k]? = some b) := fun b hk => by
   by_cases hkr : k = r
   · subst hkr; simp [hrl] at hk; exact .inl ⟨rfl, hk.symm⟩
   · rw [List.getElem?_set_ne (Ne.symm hkr)] at hk; exact .inr ⟨hkr, hk⟩
  subst hh'
  cases q with
  | none =>
   rcases step b hk with ⟨h1, h2⟩ | ⟨h1, h2⟩
   · exact .inr (.inl ⟨by simp, h1, h2⟩)
   · exact .inr (.inr ⟨by simp, h1, h2⟩)
  | some r' =>
   simp only at hk
   by_cases hkr : k = r'
   · subst hkr
     have hkl := (List.getElem?_eq_some_iff.1 hk).1
     simp only [List.length_set] at hkl
     simp [hkl] at hk
     exact .inl ⟨rfl, hk.symm⟩
   · rw [List.getElem?_set_ne (Ne.symm hkr)] at hk
     have hne : (some r' : Option Nat) ≠ some k := fun e => hkr (by cases e; rfl)
     rcases step b hk with ⟨h1, h2⟩ | ⟨h1, h2⟩
     · exact .inr (.inl ⟨hne, h1, h2⟩)
     · exact .inr (.inr ⟨hne, h1, h2⟩)
 have old : ∀ k b, h'[k]? = some b → writes b = true → q ≠ some k ∧ ∃ b0, h[k]? = some b0 ∧ writes b0 = true := fun k b hk hw => by
  rcases get k b hk with ⟨_, rfl⟩ | ⟨h1, rfl, _⟩ | ⟨h1, _, h3⟩
  · simp [writes] at hw
  · exact ⟨h1, _, hb, rfl⟩
  · exact ⟨h1, b, h3, hw⟩
 have keep : ∀ k a b x, q ≠ some k → ¬ (k = r ∧ a = i ∧ b = j) → oAt h k a b x → oAt h' k a b x := fun k a b x hqk hne ho => by
  have := fx (v := .o x0) hb hi hne ho
  subst hh'
  cases q with
  | none => exact this
  | some r' =>
   obtain ⟨s, e, c, h1, h2⟩ := this
   exact ⟨s, e, c, by simp only; rw [List.getElem?_set_ne fun e => hqk (by rw [e])]; exact h1, h2⟩
 have hqr : q ≠ some r := fun e => hq r e rfl
 refine ⟨fun k b hk => ?_, fun k k' b b' L1 L2 hk hk' hw hw' h1 h2 he => ?_, hS.fsz, fun k hk => hS.out k (by omega), ?_⟩
 · rcases get k b hk with ⟨_, rfl⟩ | ⟨_, rfl, rfl⟩ | ⟨_, _, h3⟩
   · trivial
   · rcases hS.blk k _ hb with ⟨L', q1, q2, q3, q4, q5⟩ | ⟨q1, _⟩
     · rw [hL] at q1; cases q1
       exact .inl ⟨L, hL, q2, mU q3 (fun u x hr => hr) hi hj fun u _ => .o _ _, q4, q5⟩
     · rw [hL] at q1; cases q1
   · exact hS.blk k b h3
 · obtain ⟨_, b0, p1, p2⟩ := old k b hk hw
   obtain ⟨_, b1, p3, p4⟩ := old k' b' hk' hw'
   exact hS.inj k k' b0 b1 L1 L2 p1 p3 p2 p4 h1 h2 he
 · refine ⟨fun k a b m => (k = r ∧ a = i ∧ b = j ∧ S m) ∨ (q ≠ some k ∧ φ k a b m), ⟨fun k a b x ho => ?_, fun k a b m hm => ?_, fun k a b k' a' b' m h1 h2 => ?_, fun k a b m k' b' L' h1 h2 h3 h4 he => ?_⟩⟩
   · obtain ⟨s, e, c, h1, h2, h3⟩ := ho
     rcases get k _ h1 with ⟨_, h4⟩ | ⟨h4, rfl, h5⟩ | ⟨h4, h5, h6⟩
     · cases h4
     · cases h5
       rcases qY hi hjl h2 h3 with ⟨rfl, rfl, h6⟩ | ⟨h6, cs0, h7, h8⟩
       · cases h6
         rcases hS.blk k _ hb with ⟨L', q1, q2, q3, q4, q5⟩ | ⟨q1, _⟩
         · rw [hL] at q1; cases q1
           obtain ⟨_, _, cc, el, fr, hh, _, _, _, hc⟩ := q3
           obtain ⟨u, hu, _⟩ := hc a b cs v0 hi hj
           exact ⟨L, u, hL, ⟨cc, el, fr, hh, hu⟩, (hro u ⟨cc, el, fr, hh, hu⟩).mono fun m hm => ⟨.inl ⟨rfl, rfl, rfl, hm⟩, rfl⟩⟩
         · rw [hL] at q1; cases q1
       · obtain ⟨L', u, q1, q2, q3⟩ := hφ.cell k a b x ⟨_, es, cs0, hb, h7, h8⟩
         exact ⟨L', u, q1, q2, q3.mono fun m hm => ⟨.inr ⟨h4, hm⟩, rfl⟩⟩
     · obtain ⟨L', u, q1, q2, q3⟩ := hφ.cell k a b x ⟨s, e, c, h6, h2, h3⟩
       exact ⟨L', u, q1, q2, q3.mono fun m hm => ⟨.inr ⟨h4, hm⟩, rfl⟩⟩
   · rcases hm with ⟨rfl, rfl, rfl, hm⟩ | ⟨h1, hm⟩
     · obtain ⟨cs', h2, h3⟩ := Tg (v := .o x0) hi hjl
       refine ⟨⟨x0, sz, y9 es a b cs (.o x0), cs', ?_, h2, h3⟩, hSact m hm⟩
       subst hh'
       cases q with
       | none => simp [hrl]
       | some r' => simp only; rw [List.getElem?_set_ne fun e => hq r' rfl e]; simp [hrl]
     · obtain ⟨⟨x, ho⟩, h2⟩ := hφ.act k a b m hm
       refine ⟨⟨x, keep k a b x h1 (fun e => ?_) ho⟩, h2⟩
       obtain ⟨rfl, rfl, rfl⟩ := e
       obtain ⟨s, e, c, p1, p2, p3⟩ := ho
       rw [hb] at p1; cases p1
       rw [hi] at p2; cases p2
       rw [hj] at p3; cases p3
       exact hv0 x rfl
   · rcases h1 with ⟨rfl, rfl, rfl, h1⟩ | ⟨h1, h1'⟩ <;> rcases h2 with ⟨rfl, rfl, rfl, h2⟩ | ⟨h2, h2'⟩
     · exact ⟨rfl, rfl, rfl⟩
     · exact absurd (hSφ m k' a' b' h1 h2') h2
     · exact absurd (hSφ m k a b h2 h1') h1
     · exact hφ.sep k a b k' a' b' m h1' h2'
   · obtain ⟨p0, b0, p1, p2⟩ := old k' b' h2 h3
     rcases h1 with ⟨rfl, rfl, rfl, h1⟩ | ⟨h1, h1'⟩
     · exact hSrow m k' b0 L' h1 p1 p2 h4 p0 he
     · exact hφ.apart k a b m k' b0 L' h1' p1 p2 h4 he
theorem iG : ∀ {vs : List V} {xs : List T}, oTs vs = some xs → xs.length = vs.length ∧ ∀ (j : Nat) x, xs[j]? = some x → ∃ v, vs[j]? = some v ∧ oT v = some x
 | [], xs, hx => by simp only [oTs] at hx; cases hx; exact ⟨rfl, fun j x hj => by simp at hj⟩
 | v :: vs, xs, hx => by
  simp only [oTs] at hx
  split at hx
  · rename_i y h1
    split at hx
    · rename_i xs' h2
      cases hx
      obtain ⟨k1, k2⟩ := iG h2
      refine ⟨by simp [k1], fun j x hj => ?_⟩
      cases j with
      | zero => simp at hj; subst hj; exact ⟨v, rfl, h1⟩
      | succ j => simpa using k2 j x (by simpa using hj)
    · cases hx
  · cases hx
theorem fW : ∀ {es : List (List V)} {xs : List (List T)}, vd es = some xs → xs.length = es.length ∧ ∀ (i : Nat) ys, xs[i]? = some ys → ∃ cs, es[i]? = some cs ∧ oTs cs = some ys
 | [], xs, hx => by simp only [vd] at hx; cases hx; exact ⟨rfl, fun i ys hi => by simp at hi⟩
 | c :: cs, xs, hx => by
  simp only [vd] at hx
  split at hx
  · rename_i y h1
    split at hx
    · rename_i xs' h2
      cases hx
      obtain ⟨k1, k2⟩ := fW h2
      refine ⟨by simp [k1], fun i ys hi => ?_⟩
      cases i with
      | zero => simp at hi; subst hi; exact ⟨c, rfl, h1⟩
      | succ i => simpa using k2 i ys (by simpa using hi)
    · cases hx
  · cases hx
theorem TT (hS : St w F ρ Ow h) (r i : Nat) (c : Nat × Bool) : St w F ρ Ow (yL r i c h) := by
 unfold yL
 split
 rotate_left
 · exact hS
 rename_i sz es hb
 split
 rotate_left
 · exact hS
 rename_i cs hi
 obtain ⟨φ, hφ⟩ := hS.own
 -- the row's own place
 have hLrow : ∀ v0, cs[c.1]? = some v0 → ∃ L, ρ r = some (some L) ∧ ∀ u, cellAt w L i c.1 u → RV w F ρ u v0 := fun v0 hj => by
  rcases hS.blk r _ hb with ⟨L, q1, q2, q3, q4, q5⟩ | ⟨_, q1⟩
  · refine ⟨L, q1, fun u hu => ?_⟩
    obtain ⟨_, _, cc, el, fr, hh, _, _, _, hc⟩ := q3
    obtain ⟨u', hu', hr⟩ := hc i c.1 cs v0 hi hj
    obtain ⟨c1, e1, f1, p1, p2⟩ := hu
    rw [hh] at p1; cases p1
    rw [hu'] at p2; cases p2; exact hr
  · subst q1; simp at hi
 split
 · -- a nil slice
   rename_i sz' hj
   obtain ⟨L, hL, hu⟩ := hLrow _ hj
   exact eQ hS hφ (q := none) (S := fun _ => False) (x0 := .list sz' []) hb hi hj (fun x e => by cases e) hL (fun u hu' => by have := hu u hu'; cases this; exact .empty _ _ _) (fun r' e => by cases e) (fun m hm => hm.elim) (fun m k a b hm => hm.elim) (fun m k b0 L0 hm => hm.elim)
 · rename_i r' off len cap hj
   obtain ⟨L, hL, hu⟩ := hLrow _ hj
   split
   rotate_left
   · exact hS
   rename_i hc
   obtain ⟨rfl, hne⟩ := hc
   have main : ∀ (blk : Blk) (sz' : Nat) (xs : List (List T)), h[r']? = some blk → writes blk = true → xs.length = len →
    ((∃ L', ρ r' = some (some L') ∧ L'.sz = sz' ∧ xs.length ≤ L'.n ∧ (∀ e ∈ xs, e.length = L'.sz) ∧ ∃ cc el fr, w.heap[L'.b]? = some (.cells cc el fr) ∧ cc.size = L'.z ∧ (∀ k, k < cc.size → ¬(fr.1 ≤ k ∧ k < fr.2)) ∧ L'.o + L'.n * L'.sz ≤ L'.z ∧
     ∀ a b cs' x, xs[a]? = some cs' → cs'[b]? = some x → ∃ u, cc[L'.o + (a * L'.sz + b)]? = some u ∧ RO w u x (φ r' a b)) ∨ (ρ r' = some none ∧ xs = [])) →
    St w F ρ Ow ((h.set r (.vs sz (y9 es i c.1 cs (.o (.list sz' xs))))).set r' .dead) := by
    intro blk sz' xs hb' hw hlen hplace
    have := eQ hS hφ (q := some r') (S := fun m => (∃ L', ρ r' = some (some L') ∧ m = L'.b) ∨ ∃ a b, φ r' a b m) (x0 := .list sz' xs) hb hi hj (fun x e => by cases e) hL (fun u hu' => ?_) (fun r'' e => by cases e; exact hne) (fun m hm => ?_) (fun m k a b hm hx => ?_) (fun m k b0 L0 hm h1 h2 h3 h4 => ?_)
    · exact this
    · have hrv := hu u hu'
      rcases hplace with ⟨L', p1, p2, p3, p4, cc, el, fr, p5, p6, p7, p8, p9⟩ | ⟨p1, p2⟩
      · cases hrv with
        | slP _ _ a hρ => rw [p1] at hρ; cases hρ
        | sl _ _ _ _ L1 a c' hρ ha hl hn hc0 hc1 hz =>
         rw [p1] at hρ; cases hρ
         by_cases hc0' : c' = 0
         · subst hc0'
           have : len = 0 := by omega
           have hx0 : xs = [] := List.eq_nil_of_length_eq_zero (by omega)
           subst hx0; subst this
           exact .empty a sz' _
         · obtain rfl := ha.resolve_right hc0'
           subst p2
           simp only [Nat.zero_mul, Nat.add_zero, Nat.zero_add] at hz ⊢
           have hmul : len * L'.sz ≤ L'.n * L'.sz := Nat.mul_le_mul_right _ (by omega)
           refine .list ⟨L'.b, L'.o, L'.sz, len, L'.z⟩ c' xs _ cc el fr (fun a b => (cc[L'.o + (a * L'.sz + b)]?).getD undef) (fun a b => φ r' a b) hlen p4 hl hz p5 p6 p7 (by simp only; omega) (fun a b cs' x h1 h2 => ?_) (fun a b cs' x h1 h2 => ?_) (.inl ⟨L', p1, rfl⟩) (fun a b m hm => ⟨.inr ⟨a, b, hm⟩, fun e => hφ.apart r' a b m r' blk L' hm hb' hw p1 e.symm⟩) (fun a b a' b' m h1 h2 => (hφ.sep r' a b r' a' b' m h1 h2).2)
           · obtain ⟨u, hu, _⟩ := p9 a b cs' x h1 h2; simp [hu]
           · obtain ⟨u, hu, hr⟩ := p9 a b cs' x h1 h2; simpa [hu] using hr
      · subst p2
        cases hrv with
        | slP _ _ a hρ => exact .empty a sz' _
        | sl _ _ _ _ L1 a c' hρ => rw [p1] at hρ; cases hρ
    · rcases hm with ⟨L', p1, rfl⟩ | ⟨a, b, hm⟩
      · exact (hS.blk r' blk hb').vF hw p1
      · exact (hφ.act r' a b m hm).2
    · rcases hm with ⟨L', p1, rfl⟩ | ⟨a', b', hm⟩
      · exact absurd rfl (hφ.apart k a b L'.b r' blk L' hx hb' hw p1)
      · rw [(hφ.sep r' a' b' k a b m hm hx).1]
    · rcases hm with ⟨L', p1, rfl⟩ | ⟨a', b', hm⟩
      · exact fun e => h4 (by rw [hS.inj k r' b0 blk L0 L' h1 hb' h2 hw h3 p1 e])
      · exact hφ.apart r' a' b' m k b0 L0 hm h1 h2 h3
   split
   · rename_i sz' es' hb'
     split
     · rename_i hc
       refine main _ sz' es' hb' rfl hc.1 ((hS.blk r' _ hb').imp (fun ⟨L', q1, q2, q3, _⟩ => ?_) id)
       obtain ⟨k1, k2, cc, el, fr, k3, k4, k5, k6, k7⟩ := q3
       exact ⟨L', q1, q2, Nat.le_of_eq k1, k2, cc, el, fr, k3, k4, k5, k6, fun a b cs' x h1 h2 => by
        obtain ⟨u, hu, hr⟩ := k7 a b cs' x h1 h2
        obtain ⟨f1, f2⟩ := nC hc.2 h1 h2
        exact ⟨u, hu, .flat _ _ _ f2 f1 (tn hr f1)⟩⟩
     · split
       · rename_i hc
         refine main _ sz' (es'.take len) hb' rfl (by rw [List.length_take]; omega) ((hS.blk r' _ hb').imp (fun ⟨L', q1, q2, q3, _⟩ => ?_) fun ⟨q1, q2⟩ => ⟨q1, by subst q2; simp⟩)
         obtain ⟨k1, k2, cc, el, fr, k3, k4, k5, k6, k7⟩ := q3
         exact ⟨L', q1, q2, by rw [List.length_take]; omega, fun e he => k2 e (List.mem_of_mem_take he), cc, el, fr, k3, k4, k5, k6, fun a b cs' x h1 h2 => by
          have h1' : es'[a]? = some cs' := by
           rw [List.getElem?_take] at h1
           split at h1
           · exact h1
           · cases h1
          obtain ⟨u, hu, hr⟩ := k7 a b cs' x h1' h2
          obtain ⟨f1, f2⟩ := nC hc.2 h1 h2
          exact ⟨u, hu, .flat _ _ _ f2 f1 (tn hr f1)⟩⟩
       · exact hS
   · rename_i sz' es' hb'
     have vs : ∀ (n : Nat) (xs : List (List T)), vd (es'.take n) = some xs → n = len → len ≤ es'.length → St w F ρ Ow ((h.set r (.vs sz (y9 es i c.1 cs (.o (.list sz' xs))))).set r' .dead) := fun n xs hxs hn hle => by
      subst hn
      obtain ⟨e1, e2⟩ := fW hxs
      have hget : ∀ a cs0, (es'.take n)[a]? = some cs0 → es'[a]? = some cs0 := fun a cs0 h1 => by
       rw [List.getElem?_take] at h1
       split at h1
       · exact h1
       · cases h1
      refine main _ sz' xs hb' rfl (by rw [e1, List.length_take]; omega) ((hS.blk r' _ hb').imp (fun ⟨L', q1, q2, q3, _⟩ => ?_) fun ⟨q1, q2⟩ => ⟨q1, by subst q2; simpa using e1⟩)
      obtain ⟨k1, k2, cc, el, fr, k3, k4, k5, k6, k7⟩ := q3
      refine ⟨L', q1, q2, by rw [e1, List.length_take]; omega, fun e he => ?_, cc, el, fr, k3, k4, k5, k6, fun a b cs' x h1 h2 => ?_⟩
      · obtain ⟨a, ha⟩ := List.mem_iff_getElem?.1 he
        obtain ⟨cs', c1, c2⟩ := e2 a e ha
        rw [(iG c2).1]; exact k2 cs' (List.mem_of_getElem? (hget _ _ c1))
      · obtain ⟨cs0, c1, c2⟩ := e2 a cs' h1
        obtain ⟨v, d1, d2⟩ := (iG c2).2 b x h2
        obtain ⟨u, hu, hr⟩ := k7 a b cs0 v (hget _ _ c1) d1
        refine ⟨u, hu, ?_⟩
        cases v with
        | t y =>
         simp only [oT] at d2
         split at d2
         · rename_i hf
           simp only [Bool.and_eq_true, Bool.not_eq_true'] at hf
           cases d2
           cases hr with
           | t _ _ hr => exact .flat _ _ _ hf.2 hf.1 (tn hr hf.1)
         · cases d2
        | o y =>
         simp only [oT] at d2; cases d2
         obtain ⟨L1, u1, p1, ⟨c1', e1', f1', p2, p3⟩, p4⟩ := hφ.cell r' a b x ⟨_, es', cs0, hb', hget _ _ c1, d1⟩
         rw [q1] at p1; cases p1
         rw [k3] at p2; cases p2
         rw [hu] at p3; cases p3
         exact p4
        | nil sz'' =>
         simp only [oT] at d2; cases d2
         cases hr
         exact .empty _ _ _
        | _ => simp [oT] at d2
     split
     · rename_i hlen
       split
       · rename_i xs hxs
         exact vs len xs (by rw [List.take_of_length_le (by omega)]; exact hxs) rfl (by omega)
       · exact hS
     · split
       · rename_i hle
         split
         · rename_i xs hxs
           exact vs len xs hxs rfl hle
         · exact hS
       · exact hS
   · exact hS
 · exact hS
end Go.Proofs.YtonbkdklidfmfaaGreatDoor.E
/- A row's part made zero; cells forgotten. Conditions: those of each lemma. -/
namespace Go.Proofs.YtonbkdklidfmfaaGreatDoor.E
set_option linter.unusedVariables false
set_option linter.unusedSimpArgs false
variable {P : Program} {w : World} {F : Nat → Prop} {ρ : yd} {Ow : Own} {h : Heap}
theorem Zk {α : Type} {es : List α} {off len : Nat} {z : α} (hlen : off + len ≤ es.length) (i : Nat) : (es.take off ++ List.replicate len z ++ es.drop (off + len))[i]? = if off ≤ i ∧ i < off + len then some z else es[i]? := by
 rw [List.append_assoc]
 by_cases h1 : i < off
 · rw [List.getElem?_append_left (by simp; omega), List.getElem?_take, if_pos h1, if_neg (by omega)]
 · rw [List.getElem?_append_right (by simp; omega)]
   simp only [List.length_take, Nat.min_eq_left (show off ≤ es.length by omega)]
   by_cases h2 : i < off + len
   · rw [List.getElem?_append_left (by simp; omega), if_pos (by omega)]
     simp [show i - off < len by omega]
   · rw [List.getElem?_append_right (by simp; omega), if_neg (by omega), List.getElem?_drop]
     simp only [List.length_replicate]
     congr 1; omega
theorem ku {α : Type} {R R' : Value → α → Prop} {L : Loc} {es : List (List α)} (hr : xA w L es R) (hR : ∀ u x, R u x → R' u x) {off len : Nat} {z : List α} {us : List Value} (hlen : off + len ≤ es.length) (hzl : z.length = L.sz) (hul : us.length = len * L.sz)
 (hus : ∀ a b y, a < len → z[b]? = some y → ∃ u, us[a * L.sz + b]? = some u ∧ R' u y) : xA (w.setCells L.b (L.o + off * L.sz) us) L (es.take off ++ List.replicate len z ++ es.drop (off + len)) R' := by
 obtain ⟨hn, hl, c, el, fr, hh, hs, hf, hz, hc⟩ := hr
 have hin : (off + len) * L.sz ≤ L.n * L.sz := Nat.mul_le_mul_right _ (by omega)
 rw [Nat.add_mul] at hin
 obtain ⟨c', k1, k2, k3⟩ := xa us L.b (L.o + off * L.sz) w c el fr hh (by omega)
 refine ⟨by simp; omega, fun e he => ?_, c', el, fr, k1, by omega, fun k hk => hf k (by omega), hz, fun i j cs x hi hj => ?_⟩
 · simp only [List.mem_append] at he
   rcases he with (he | he) | he
   · exact hl e (List.mem_of_mem_take he)
   · rw [List.eq_of_mem_replicate he]; exact hzl
   · exact hl e (List.mem_of_mem_drop he)
 · rw [Zk hlen] at hi
   rw [k3]
   split at hi
   · rename_i hoi
     cases hi
     have hjl := (List.getElem?_eq_some_iff.1 hj).1
     obtain ⟨a, rfl⟩ : ∃ a, i = off + a := ⟨i - off, by omega⟩
     have h1 : (a + 1) * L.sz ≤ len * L.sz := Nat.mul_le_mul_right _ (by omega)
     rw [Nat.add_mul] at h1
     have e := Nat.add_mul off a L.sz
     rw [if_pos (by omega)]
     obtain ⟨u, h2, h3⟩ := hus a j x (by omega) hj
     exact ⟨u, by rw [show L.o + ((off + a) * L.sz + j) - (L.o + off * L.sz) = a * L.sz + j by omega]; exact h2, h3⟩
   · rename_i hoi
     obtain ⟨u, h1, h2⟩ := hc i j _ _ hi hj
     have hjl : j < L.sz := by
      have := (List.getElem?_eq_some_iff.1 hj).1
      rw [hl cs (List.mem_of_getElem? hi)] at this
      exact this
     rw [if_neg ?_]
     · exact ⟨u, h1, hR _ _ h2⟩
     · rcases Nat.lt_or_ge i off with hlt | hge
       · have : (i + 1) * L.sz ≤ off * L.sz := Nat.mul_le_mul_right _ (by omega)
         rw [Nat.add_mul] at this
         omega
       · have : (off + len) * L.sz ≤ i * L.sz := Nat.mul_le_mul_right _ (by omega)
         rw [Nat.add_mul] at this
         omega
theorem Ty {r off len sz : Nat} {es : List (List V)} {zs : List V} (hlen : off + len ≤ es.length) (hb : h[r]? = some (.vs sz es)) {L : Loc} (hr : xA w L es (RV w F ρ)) {us : List Value} (hul : us.length = len * L.sz) (hok : zs.all yc = true) {i j : Nat} {x : T}
 (ho : oAt (h.set r (.vs sz (es.take off ++ List.replicate len zs ++ es.drop (off + len)))) r i j x) : oAt h r i j x ∧ ∀ u, cellAt w L i j u → cellAt (w.setCells L.b (L.o + off * L.sz) us) L i j u := by
 obtain ⟨hn, hl, c, el, fr, hh, hs, hf, hz, hc⟩ := hr
 have hin : (off + len) * L.sz ≤ L.n * L.sz := Nat.mul_le_mul_right _ (by omega)
 rw [Nat.add_mul] at hin
 obtain ⟨c', k1, k2, k3⟩ := xa us L.b (L.o + off * L.sz) w c el fr hh (by omega)
 have hrl := (List.getElem?_eq_some_iff.1 hb).1
 obtain ⟨sz', es', cs', h1, h2, h3⟩ := ho
 simp only [List.getElem?_set_self hrl, Option.some.injEq, Blk.vs.injEq] at h1
 obtain ⟨rfl, rfl⟩ := h1
 rw [Zk hlen] at h2
 split at h2
 · cases h2
   have := List.all_eq_true.1 hok _ (List.mem_of_getElem? h3)
   simp [yc] at this
 · rename_i hoi
   have hjl : j < L.sz := by
    have := (List.getElem?_eq_some_iff.1 h3).1
    rw [hl cs' (List.mem_of_getElem? h2)] at this
    exact this
   refine ⟨⟨sz, es, cs', hb, h2, h3⟩, fun u hu => ?_⟩
   obtain ⟨c1, el1, fr1, p1, p2⟩ := hu
   rw [hh] at p1; cases p1
   refine ⟨c', el, fr, k1, ?_⟩
   rw [k3, if_neg ?_]
   · exact p2
   · rcases Nat.lt_or_ge i off with hlt | hge
     · have : (i + 1) * L.sz ≤ off * L.sz := Nat.mul_le_mul_right _ (by omega)
       rw [Nat.add_mul] at this
       omega
     · have : (off + len) * L.sz ≤ i * L.sz := Nat.mul_le_mul_right _ (by omega)
       rw [Nat.add_mul] at this
       omega
theorem rP (z : Array Value) (n a b : Nat) (u : Value) (ha : a < n) (hb : z[b]? = some u) : (Builtin.zeroCells z n).toList[a * z.size + b]? = some u := by
 have hbl : b < z.size := (Array.getElem?_eq_some_iff.1 hb).1
 have h1 : (a + 1) * z.size ≤ n * z.size := Nat.mul_le_mul_right _ (by omega)
 rw [Nat.add_mul] at h1
 have hlt : a * z.size + b < n * z.size := by omega
 unfold Builtin.zeroCells
 simp only [Array.toList_map, Array.toList_range, List.getElem?_map, List.getElem?_range hlt, Option.map_some]
 rw [show (a * z.size + b) % z.size = b by rw [Nat.add_comm, Nat.add_mul_mod_self_right, Nat.mod_eq_of_lt hbl]]
 rw [getElem!_pos z b hbl]
 obtain ⟨_, e⟩ := Array.getElem?_eq_some_iff.1 hb
 rw [e]
theorem uD (z : Array Value) (n : Nat) : (Builtin.zeroCells z n).toList.length = n * z.size := by simp [Builtin.zeroCells]
theorem lu : ∀ {vs : List V} {xs : List T}, qb vs = some xs → xs.length = vs.length ∧ ∀ {us : List Value}, RVs w F ρ us vs → RTs w F us xs
 | [], xs, h => by cases h; exact ⟨rfl, fun hu => by cases hu; exact .nil⟩
 | v :: vs, xs, h => by
  simp only [qb] at h
  split at h
  · split at h
    · rename_i ys hy
      cases h
      obtain ⟨h1, h2⟩ := lu hy
      refine ⟨by simp [h1], fun hu => ?_⟩
      cases hu with
      | cons k1 k2 =>
       cases k1 with
       | t _ _ hx => exact .cons hx (h2 k2)
    · cases h
  · split at h
    · rename_i ys hy
      cases h
      obtain ⟨h1, h2⟩ := lu hy
      refine ⟨by simp [h1], fun hu => ?_⟩
      cases hu with
      | cons k1 k2 =>
       cases k1 with
       | nil => exact .cons (.list none 0 0 _ [] (fun _ _ => undef) rfl (Nat.le_refl _) (fun hp => absurd hp (Nat.lt_irrefl _)) (fun e he => by simp at he) (fun i j cs x hi => by simp at hi)) (h2 k2)
    · cases h
  · cases h
/-- 'clear' -/
theorem S5 (hS : St w F ρ Ow h) {t el : TypeId} (hel : zZ P t = some el) {zs : List V} (hz : zeroOf P el = some zs) {r off len : Nat} {cap : Option Nat} {v : V} {h' : Heap} (hc : yG (zB P el) zs r off len h = some (v, h')) {u : Value} (hu : RV w F ρ u (.sl r off len cap)) (ty : TypeId) :
 xK P w F ρ Ow (Builtin.clear_ #[t] ty #[u]) v h' := by
 have htup : ∀ (w' : World) F' ρ', RV w' F' ρ' (.tuple #[]) (.tup []) := fun w' F' ρ' => RV.jA .nil
 obtain ⟨hty, _, _⟩ := wj hel
 obtain ⟨inf, z, i1, i2, i3, i4, i5⟩ := vA (w := w) (F := F) (ρ := ρ) hz
 have hszi : z.cells.size = zB P el := by rw [i3]; simp [zB, Program.cellsOf, i1]
 have hzone := bT i4 (qW hz)
 have hzl : zs.length = zB P el := i5
 have run0 : ∀ a c, (Builtin.clear_ #[t] ty #[.slice a 0 c]).run P w = .ok (.tuple #[]) w := fun a c => by cases a <;> simp [Builtin.clear_, zF hty]
 unfold yG at hc
 -- nothing is there
 have zero : ∀ (b : Blk), h[r]? = some b → len = 0 → v = .tup [] → h' = h.set r b → xK P w F ρ Ow (Builtin.clear_ #[t] ty #[u]) v h' := fun b hb hl hv hh => by
  subst hl hv
  have hhe : h' = h := by
   rw [hh]
   obtain ⟨hlt, hb'⟩ := List.getElem?_eq_some_iff.1 hb
   rw [← hb', List.set_getElem_self hlt]
  subst hhe
  cases hu with
  | sl r off len cap L a c => exact .same hS (run0 a c) (htup _ _ _)
  | slP r cap a => exact .same hS (run0 a 0) (htup _ _ _)
 -- cells are there
 have some_ : ∀ (b blk : Blk), h[r]? = some b → writes b = true → 0 < len → v = .tup [] → h' = h.set r blk → (∀ L, ρ r = some (some L) → L.sz = zB P el ∧ off + len ≤ L.n ∧ (∃ c e fr, w.heap[L.b]? = some (.cells c e fr) ∧ c.size = L.z ∧ (∀ k, k < c.size → ¬(fr.1 ≤ k ∧ k < fr.2)) ∧ L.o + L.n * L.sz ≤ L.z) ∧
  (Nxt Ow w F ρ (w.setCells L.b (L.o + off * L.sz) (Builtin.zeroCells z.cells len).toList) F ρ → RB (w.setCells L.b (L.o + off * L.sz) (Builtin.zeroCells z.cells len).toList) F ρ Ow r blk) ∧
  ∀ i j x, oAt (h.set r blk) r i j x → oAt h r i j x ∧ ∀ u, cellAt w L i j u → cellAt (w.setCells L.b (L.o + off * L.sz) (Builtin.zeroCells z.cells len).toList) L i j u) → xK P w F ρ Ow (Builtin.clear_ #[t] ty #[u]) v h' := fun b blk hb hw hl hv hh hL => by
  subst hv hh
  cases hu with
  | slP r cap a => omega
  | sl r off len cap L a c hρ ha hlc hn hc0 hc1 hzz =>
   obtain ⟨k1, k2, ⟨cc, e, fr, k3, k4, k5, k6⟩, k7, k8⟩ := hL L hρ
   have hce : c ≠ 0 := by omega
   obtain rfl := ha.resolve_right hce
   obtain ⟨g1, g2⟩ := sE hS hb hw hρ (L.o + off * L.sz) (Builtin.zeroCells z.cells len).toList k7 k8
   refine ⟨_, F, ρ, .tuple #[], ?_, htup _ _ _, g1, g2⟩
   have hin : (off + len) * L.sz ≤ L.n * L.sz := Nat.mul_le_mul_right _ (by omega)
   rw [Nat.add_mul] at hin
   have hul : (Builtin.zeroCells z.cells len).toList.length = len * L.sz := by rw [uD, hszi, k1]
   have hth := sD (b := L.b) (o := L.o + off * L.sz) (n := (Builtin.zeroCells z.cells len).toList.length) k3 k5 (by rw [hul]; omega)
   have hst := run_storeCells_cells (P := P) L.b (L.o + off * L.sz) (Builtin.zeroCells z.cells len).toList 0 w (fun j hj => by simpa using (hth j hj).1) (fun j hj => by simpa using (hth j hj).2) (fun v hv => by
    unfold Builtin.zeroCells at hv
    simp only [Array.toList_map, Array.toList_range, List.mem_map, List.mem_range] at hv
    obtain ⟨k, hk, rfl⟩ := hv
    have hpos : 0 < z.cells.size := by
     rcases Nat.eq_zero_or_pos z.cells.size with h0 | h0
     · rw [h0] at hk; simp at hk
     · exact h0
    have hm := Nat.mod_lt k hpos
    rw [getElem!_pos z.cells _ hm]
    exact List.all_eq_true.1 hzone _ (by simp))
   simp only [Nat.add_zero] at hst
   obtain ⟨n, rfl⟩ : ∃ n, len = n + 1 := ⟨len - 1, by omega⟩
   have hzv := uE (P := P) (w := w) i1 i2
   simp [Builtin.clear_, zF hty, hzv, hst]
 split at hc
 · rename_i sz es hb
   split at hc
   · rename_i zt hzt
     split at hc
     · rename_i hcond
       obtain ⟨e1, e2⟩ := hcond
       cases hc
       rcases Nat.eq_zero_or_pos len with h0 | hpos
       · refine zero _ hb h0 rfl ?_
         subst h0; simp
       · refine some_ _ _ hb rfl hpos rfl rfl fun L hL => ?_
         rcases hS.blk r _ hb with ⟨L', h1, h2, h3, h4, h5⟩ | ⟨h1, _⟩
         · rw [hL] at h1; cases h1
           obtain ⟨q1, q2⟩ := lu (w := w) (F := F) (ρ := ρ) hzt
           have q3 := q2 i4
           obtain ⟨hn, hl, cc, e, fr, hh, hs, hf, hzz, hcc⟩ := id h3
           refine ⟨by omega, by omega, ⟨cc, e, fr, hh, hs, hf, hzz⟩, fun hN => .inl ⟨L, hL, h2, ku h3 (fun _ _ x => hN.rt x) e2 (by omega) (by rw [uD, hszi, h2, e1]) fun a b y ha hy => ?_, h4, h5⟩, fun i j x ho => ?_⟩
           · obtain ⟨u', k1, k2⟩ := yn q3 b y hy
             refine ⟨u', ?_, hN.rt k2⟩
             rw [h2, e1, ← hszi]
             exact rP _ _ _ _ _ ha (by simpa using k1)
           · have hrl := (List.getElem?_eq_some_iff.1 hb).1
             obtain ⟨sz1, es1, cs1, q1, _⟩ := ho
             simp [hrl] at q1
         · rw [hL] at h1; cases h1
     · cases hc
   · cases hc
 · rename_i sz es hb
   split at hc
   · rename_i hcond
     obtain ⟨e1, e2⟩ := hcond
     cases hc
     rcases Nat.eq_zero_or_pos len with h0 | hpos
     · refine zero _ hb h0 rfl ?_
       subst h0; simp
     · refine some_ _ _ hb rfl hpos rfl rfl fun L hL => ?_
       rcases hS.blk r _ hb with ⟨L', h1, h2, h3, h4, h5⟩ | ⟨h1, _⟩
       · rw [hL] at h1; cases h1
         obtain ⟨hn, hl, cc, e, fr, hh, hs, hf, hzz, hcc⟩ := id h3
         have hul : (Builtin.zeroCells z.cells len).toList.length = len * L.sz := by rw [uD, hszi, h2, e1]
         refine ⟨by omega, by omega, ⟨cc, e, fr, hh, hs, hf, hzz⟩, fun hN => .inl ⟨L, hL, h2, ku h3 (fun _ _ x => hN.rv x) e2 (by omega) hul fun a b y ha hy => ?_, h4, h5⟩, fun i j x ho => Ty e2 hb h3 hul (qW hz) ho⟩
         obtain ⟨u', k1, k2⟩ := yn i4 b y hy
         refine ⟨u', ?_, hN.rv k2⟩
         rw [h2, e1, ← hszi]
         exact rP _ _ _ _ _ ha (by simpa using k1)
       · rw [hL] at h1; cases h1
   · cases hc
 · cases hc
theorem RI (hS : St w F ρ Ow h) {t : TypeId} {x v : V} {h' : Heap} (hc : yA P t x h = some (v, h')) {u : Value} (hu : RV w F ρ u x) (ty : TypeId) : xK P w F ρ Ow (Builtin.clear_ #[t] ty #[u]) v h' := by
 unfold yA at hc
 split at hc
 rotate_left
 · cases hc
 rename_i el hel
 obtain ⟨hty, _, _⟩ := wj hel
 split at hc
 · cases hc
   cases hu
   exact .same hS (by simp [Builtin.clear_, zF hty]) (RV.jA .nil)
 · split at hc
   · rename_i zs hz
     exact S5 hS hel hz hc hu ty
   · cases hc
 · cases hc
theorem TU (hS : St w F ρ Ow h) (r i : Nat) (c : Nat × Bool) : St w F ρ Ow (yM r i c h) := by
 unfold yM
 split
 rotate_left
 · exact hS
 rename_i sz es hb
 split
 rotate_left
 · exact hS
 rename_i cs hi
 by_cases hjl : c.1 < cs.length
 · obtain ⟨φ, hφ⟩ := hS.own
   have hj : cs[c.1]? = some cs[c.1] := List.getElem?_eq_getElem hjl
   have hrl := (List.getElem?_eq_some_iff.1 hb).1
   have hw : ∀ r' b', (h.set r (.vs sz (y9 es i c.1 cs .bad)))[r']? = some b' → writes b' = true → ∃ b0, h[r']? = some b0 ∧ writes b0 = true := fun r' b' hr hw => by
    rw [List.getElem?_set] at hr
    split at hr
    · rename_i e; subst e; exact ⟨_, hb, rfl⟩
    · exact ⟨_, hr, hw⟩
   refine ⟨fun r' b hr => ?_, fun r1 r2 b1 b2 L1 L2 h1 h2 w1 w2 l1 l2 e => ?_, hS.fsz, fun r' hr' => hS.out r' (by simpa using hr'), ?_⟩
   · rw [List.getElem?_set] at hr
     split at hr
     · rename_i e; subst e
       cases hr
       rcases hS.blk r _ hb with ⟨L, h1, h2, h3, h4, h5⟩ | ⟨h1, h2⟩
       · exact .inl ⟨L, h1, h2, mU h3 (fun _ _ x => x) hi hj fun u _ => .bad u, h4, h5⟩
       · subst h2; simp at hi
     · exact hS.blk r' b hr
   · obtain ⟨b1', k1, k2⟩ := hw r1 b1 h1 w1
     obtain ⟨b2', k3, k4⟩ := hw r2 b2 h2 w2
     exact hS.inj r1 r2 b1' b2' L1 L2 k1 k3 k2 k4 l1 l2 e
   · refine hφ.next (Ext.refl _) (Nat.le_refl _) (fun r' i' j' b hb' => ⟨rfl, (hφ.act r' i' j' b hb').2.1⟩) (fun r' i' j' x ho => ⟨?_, fun L u _ hu => hu⟩) fun r' b L hr hw' hL => ?_
     · by_cases he : r' = r
       · subst he
         rcases Wf hb hi hj ho with ⟨_, _, h3⟩ | ⟨_, h3⟩
         · cases h3
         · exact h3
       · exact av ho (List.getElem?_set_ne fun e => he e.symm)
     · obtain ⟨b0, k1, k2⟩ := hw r' b hr hw'
       exact .inr ⟨r', b0, L, k1, k2, hL, rfl⟩
 · have : cs.set c.1 .bad = cs := List.set_eq_of_length_le (by omega)
   unfold y9
   rw [this]
   obtain ⟨g1, g2⟩ := List.getElem?_eq_some_iff.1 hi
   obtain ⟨g3, g4⟩ := List.getElem?_eq_some_iff.1 hb
   rw [← g2, List.set_getElem_self g1, ← g4, List.set_getElem_self g3]; exact hS
end Go.Proofs.YtonbkdklidfmfaaGreatDoor.E
/- Operations where owned values are made: each is the machine's. Conditions: those of each lemma. -/
namespace Go.Proofs.YtonbkdklidfmfaaGreatDoor.E
set_option linter.unusedVariables false
set_option linter.unusedSimpArgs false
variable {P : Program} {w : World} {F : Nat → Prop} {ρ : yd} {Ow : Own} {h : Heap}
theorem tP (hz : ∀ r, ¬ Ow.z r) (m : GM) (r i : Nat) : ∀ (cs : List (Nat × Bool)) {ρ : yd} {h : Heap}, St w F ρ Ow h → ∃ ρ', St w F ρ' Ow (zK m r i cs h) ∧ Nxt Ow w F ρ w F ρ'
 | [], ρ, h, hS => ⟨ρ, hS, Nxt.refl _ _ _ _⟩
 | c :: cs, ρ, h, hS => by
  simp only [zK]
  cases m with
  | fold => exact tP hz .fold r i cs (TT hS r i c)
  | fgt => exact tP hz .fgt r i cs (TU hS r i c)
  | unf =>
   obtain ⟨ρ1, k1, k2⟩ := T8 hS hz r i c
   obtain ⟨ρ2, k3, k4⟩ := tP hz .unf r i cs k1
   exact ⟨ρ2, k3, k2.trans k4⟩
theorem UG (hz : ∀ r, ¬ Ow.z r) (e : Env) : ∀ (gs : List Gh) {ρ : yd} {h : Heap}, St w F ρ Ow h → ∃ ρ', St w F ρ' Ow (ghH gs e h) ∧ Nxt Ow w F ρ w F ρ'
 | [], ρ, h, hS => ⟨ρ, hS, Nxt.refl _ _ _ _⟩
 | g :: gs, ρ, h, hS => by
  simp only [ghH]
  have one : ∃ ρ', St w F ρ' Ow (y7 g e h) ∧ Nxt Ow w F ρ w F ρ' := by
   unfold y7
   split
   · exact tP hz _ _ _ _ hS
   · exact ⟨ρ, hS, Nxt.refl _ _ _ _⟩
  obtain ⟨ρ1, k1, k2⟩ := one
  obtain ⟨ρ2, k3, k4⟩ := UG hz e gs k1
  exact ⟨ρ2, k3, k2.trans k4⟩
mutual
theorem bU {F' : Nat → Prop} : ∀ (v : V) {u : Value}, RV w F' ρ u v → zO v = true → RV w F ρ u v
 | .t x, u, hu, hx => by
  simp only [zO, Bool.and_eq_true] at hx
  cases hu with
  | t _ _ hy => exact .t _ _ (tn hy hx.1)
 | .nil sz, u, hu, hx => by cases hu; exact .nil sz
 | .sl r off len cap, u, hu, hx => by
  cases hu with
  | sl r off len cap L a c hρ ha hl hn hc0 hc1 hz => exact .sl r off len cap L a c hρ ha hl hn hc0 hc1 hz
  | slP r cap a hρ hc => exact .slP r cap a hρ hc
 | .agg cs, u, hu, hx => by
  simp only [zO] at hx
  cases hu with
  | agg vs cs g hs hg hr => exact RV.gm (mV cs (xB hs hg hr) hx)
 | .tup cs, u, hu, hx => by
  simp only [zO] at hx
  cases hu with
  | tup vs cs g hs hg hr => exact RV.jA (mV cs (xB hs hg hr) hx)
 | .o x, u, hu, hx => .o _ _
 | .ptr r i j, u, hu, hx => by simp [zO] at hx
 | .fn f cs, u, hu, hx => by simp [zO] at hx
 | .und, u, hu, hx => by simp [zO] at hx
 | .bad, u, hu, hx => by simp [zO] at hx
theorem mV {F' : Nat → Prop} : ∀ (vs : List V) {us : List Value}, RVs w F' ρ us vs → zO.rowTs vs = true → RVs w F ρ us vs
 | [], us, hu, hx => by cases hu; exact .nil
 | v :: vs, us, hu, hx => by
  simp only [zO.rowTs, Bool.and_eq_true] at hx
  cases hu with
  | cons h1 h2 => exact .cons (bU v h1 hx.1) (mV vs h2 hx.2)
end
theorem kt : ∀ {vs : List V}, zO.rowTs vs = true → ∀ {j : Nat} {v : V}, vs[j]? = some v → zO v = true
 | [], _, j, v, hj => by simp at hj
 | x :: vs, h, j, v, hj => by
  simp only [zO.rowTs, Bool.and_eq_true] at h
  cases j with
  | zero => simp at hj; subst hj; exact h.1
  | succ j => exact kt h.2 (by simpa using hj)
theorem bV {F' : Nat → Prop} {u : Value} {v : V} (hu : RV w F' ρ u v) (hx : zO v = true) : RV w F ρ u v := bU v hu hx
/-- rows of a call's own, seen by its caller -/
theorem Td {F' : Nat → Prop} {Ow2 : Own} (hS : St w F' ρ Ow h) (hrow : h.all yF = true) {n : Nat} (hF : ∀ b, F b → b < n) (hOw : ∀ b, Ow b → n ≤ b) (hOO : ∀ b, Ow b → Ow2 b) (hn : n ≤ w.heap.size) : St w F ρ Ow2 h := by
 have hnF : ∀ b, Ow b → ¬ F b := fun b hb hx => by have := hF b hx; have := hOw b hb; omega
 refine ⟨fun r b hr => ?_, hS.inj, fun b hb => Nat.lt_of_lt_of_le (hF b hb) hn, hS.out, ?_⟩
 · have hb := hS.blk r b hr
   have hrb := List.all_eq_true.1 hrow b (List.mem_of_getElem? hr)
   cases b with
   | ts sz es =>
    rcases hb with ⟨L, h1, h2, h3, h4, h5⟩ | hb
    · refine .inl ⟨L, h1, h2, ?_, hnF _ h5, hOO _ h5⟩
      obtain ⟨k1, k2, cc, el, fr, k3, k4, k5, k6, k7⟩ := h3
      exact ⟨k1, k2, cc, el, fr, k3, k4, k5, k6, fun i j cs x hi hj => by
       obtain ⟨u, hu, hr⟩ := k7 i j cs x hi hj
       exact ⟨u, hu, tn hr (nC hrb hi hj).1⟩⟩
    · exact .inr hb
   | vs sz es =>
    rcases hb with ⟨L, h1, h2, h3, h4, h5⟩ | hb
    · refine .inl ⟨L, h1, h2, ?_, hnF _ h5, hOO _ h5⟩
      obtain ⟨k1, k2, cc, el, fr, k3, k4, k5, k6, k7⟩ := h3
      exact ⟨k1, k2, cc, el, fr, k3, k4, k5, k6, fun i j cs x hi hj => by
       obtain ⟨u, hu, hr⟩ := k7 i j cs x hi hj
       exact ⟨u, hu, bV hr (kt (List.all_eq_true.1 hrb cs (List.mem_of_getElem? hi)) hj)⟩⟩
    · exact .inr hb
   | fz sz es => simp [yF] at hrb
   | dead => trivial
 · obtain ⟨φ, hφ⟩ := hS.own
   exact ⟨φ, hφ.cell, fun r i j b hb => by
    obtain ⟨k1, k2, k3, k4⟩ := hφ.act r i j b hb
    exact ⟨k1, hnF b k3, hOO b k3, k4⟩, hφ.sep, hφ.apart⟩
theorem Ue (hF : ∀ b, F b → b < w.heap.size) : St w F zL Ow [] :=
 ⟨fun r b hr => by simp at hr, fun r r' b b' L L' hr => by simp at hr, hF, fun _ _ => rfl, fun _ _ _ _ => False, ⟨fun r i j x ho => by obtain ⟨_, _, _, h1, _⟩ := ho; simp at h1, fun _ _ _ _ h => h.elim, fun _ _ _ _ _ _ _ h => h.elim, fun _ _ _ _ _ _ _ h => h.elim⟩⟩
theorem Q6 (hS : St w F ρ Ow h) (hO : ∀ b, w.heap.size ≤ b → Ow b) (hz : ∀ r, ¬ Ow.z r) {rec : Rec} {W0 : World} (hB : vo W0 w F) (hrec : xX P W0 rec) {g : Nat} {args : List V} {v : V} {h' : Heap} (hc : pT rec g args h = some (v, h')) {us : Array Value} (hu : RVs w F ρ us.toList args) :
 (∃ fn, P.funcs[g]? = some fn ∧ (fn.name == "runtime.NumGoroutine") = false ∧ fn.body.isNone = false) ∧
 Calls P g us w fun e w' => ∃ u F' ρ', e = .returned u ∧ RV w' F' ρ' u v ∧ St w' F' ρ' Ow h' ∧ Nxt Ow w F ρ w' F' ρ' := by
 unfold pT at hc
 split at hc
 rotate_left
 · cases hc
 rename_i az has
 split at hc
 rotate_left
 · cases hc
 rename_i v0 h1 hr
 split at hc
 rotate_left
 · cases hc
 rename_i hfl
 simp only [Bool.and_eq_true] at hfl
 obtain ⟨e1, e2⟩ := hrec.opn false g _ _ _ _ hr
 have hk := vX (ρ' := zL) hS (F' := fun b => b < w.heap.size) (fun b hb => hb) args hu has
 refine ⟨e1, (e2 (own fun b => w.heap.size ≤ b) w (fun b => b < w.heap.size) zL us ⟨hB.size, fun b hb => Nat.lt_of_lt_of_le hb hB.size, hB.heap⟩ (Ue fun b hb => hb) (OkC.own _ fun b hb => hb) hk).mono ?_⟩
 rintro e w' ⟨u, F', ρ', rfl, h2, h3, h4, h5⟩
 obtain ⟨φ, hφ⟩ := hS.own
 have hsub : ∀ b, (own fun b => w.heap.size ≤ b) b → (wU Ow w (y8 ρ []) (w9 [] h) (qE [] φ)) b := fun b hb => ⟨hO b hb, .inl hb⟩
 have hsup : ∀ b, (wU Ow w (y8 ρ []) (w9 [] h) (qE [] φ)) b → w.heap.size ≤ b := fun b hb => by
  obtain ⟨_, hb | ⟨i, bl, L, hi, _⟩ | ⟨r, i, j, k, hk, _⟩⟩ := hb
  · exact hb
  · simp [w9] at hi
  · simp at hk
 have hS1 := Td (F := F) h3 hfl.2 (n := w.heap.size) hS.fsz (fun b hb => hb) hsub h4.size
 have hu1 : RV w' F ρ' u v0 := bV h2 hfl.1
 have hN : Nxt (wU Ow w (y8 ρ []) (w9 [] h) (qE [] φ)) w F zL w' F zL :=
  ⟨h4.os, h4.tape, h4.output, h4.size, fun b hb hno => h4.keep b hb (Nat.not_le.2 hb), fun b hb => h4.agree b (hS.fsz b hb), fun b hb => hb, fun b hb => .inl hb, Ext.refl _, fun _ _ => rfl⟩
 obtain ⟨ρ2, k1, k2, k3⟩ := kI (N := none) (ids := []) (by simp) hS hφ (fun r hr => absurd hr (hz r)) hc hu1 hS1 hN (fun r l hr => by simp at hr)
 exact ⟨u, F, ρ2, rfl, k1, k2, k3⟩
theorem Qb (hS : St w F ρ Ow h) (hO : OkC Ow w) {rec : Rec} {W0 : World} (hB : vo W0 w F) (hrec : xX P W0 rec) {g : Nat} {args : List V} {v : V} {h' : Heap} (hc : iq rec g args h = some (v, h')) {us : Array Value} (hu : RVs w F ρ us.toList args) :
 (∃ fn, P.funcs[g]? = some fn ∧ (fn.name == "runtime.NumGoroutine") = false ∧ fn.body.isNone = false) ∧
 Calls P g us w fun e w' => ∃ u F' ρ', e = .returned u ∧ RV w' F' ρ' u v ∧ St w' F' ρ' Ow h' ∧ Nxt Ow w F ρ w' F' ρ' := by
 unfold iq at hc
 split at hc
 rotate_left
 · cases hc
 rename_i v0 h1 hr
 cases hc
 obtain ⟨e1, e2⟩ := hrec.opn false g _ _ _ _ hr
 refine ⟨e1, (e2 Ow w F ρ us hB hS hO hu).mono ?_⟩
 rintro e w' ⟨u, F', ρ', rfl, h2, h3, h4, h5⟩
 refine ⟨u, F', ρ', rfl, h2, h3, ⟨h4.os, h4.tape, h4.output, h4.size, h4.keep, h4.agree, h4.grow, h4.new, fun r l hl => ?_, fun r hr => absurd hr (hO.z r)⟩⟩
 rcases Nat.lt_or_ge r h.length with hlt | hge
 · exact h5 r l hlt hl
 · rw [hS.out r hge] at hl; cases hl
theorem Rq {pol : Pol} {rec : Rec} {W0 : World} (hB : vo W0 w F) (hrec : xX P W0 rec) {f : Nat} {o : Oper} {e : Env} {v : V} {h' : Heap} (hev : xz P pol rec f o e h = some (v, h')) (hS : St w F ρ Ow h) (hO : OkC Ow w) {a : Act} (he : RE w F ρ a e)
 {K : Act → World → Prop} {Q : Exit → Act → World → Prop} (hK : XR Ow w F ρ v h' fun u w' => K (a.put o.dst u) w') : o.wp P a w K Q := by
 obtain ⟨dst, op, ty, pos, after, guard⟩ := o
 cases op with
 | buildSlice t len parts =>
  simp only [xz] at hev
  split at hev
  · rename_i el hel
    split at hev
    · cases hev
    · rename_i hc
      simp only [not_or, Bool.not_eq_true, Option.isNone_eq_false_iff] at hc
      obtain ⟨c1, c2, c3, c4, _⟩ := hc
      split at hev
      · rename_i css hf
        cases hev
        obtain ⟨zs, hz⟩ := Option.isSome_iff_exists.1 c4
        have hp := pf (P := P) he (fun _ => el) parts.toList
        have hl : (xC P e (fun _ => el) parts.toList).length = len := by
         have := zM hp
         simp at this
         simp only [ne_eq, Decidable.not_not] at c3
         omega
        have := nM (ps := parts.map fun (i, x) => (i, a.eval x)) hS hO hel (by simpa using hp) c1 (by rw [hl]; exact c2) hf hz
        rw [hl] at this
        exact xI rfl this hK
      · cases hev
  · cases hev
 | makeSlice t l c =>
  simp only [xz] at hev
  split at hev
  · rename_i el k n k' m hel hl hc
    split at hev
    · rename_i zs hz
      split at hev
      · cases hev
      · rename_i hcond
        simp only [not_or, ne_eq, Decidable.not_not, gt_iff_lt, Nat.not_lt] at hcond
        obtain ⟨c1, c2, c3, c4, c5, c6⟩ := hcond
        cases hev
        have hlv := yQ (P := P) he 0 l
        have hcv := yQ (P := P) he 0 c
        rw [hl] at hlv
        rw [hc] at hcv
        subst c3
        have e1 := s9 hlv
        have e2 := s9 hcv
        obtain ⟨n', rfl⟩ := Int.eq_ofNat_of_zero_le (show 0 ≤ n by omega)
        simp only [Int.toNat_natCast] at *
        refine xI (s := Instr.makeSlice t (a.eval l) (a.eval c)) rfl ?_ hK
        rw [e1, e2]
        exact Wh hS hO hel hz c1 c4 c5
    · cases hev
  · cases hev
 | call c =>
  obtain ⟨callee, args, tys⟩ := c
  cases callee with
  | builtin b =>
   simp only [xz] at hev
   have hargs := tZ (P := P) he args.toList tys.toList
   split at hev
   · rename_i s x t u hx htys
     rw [hx] at hargs
     cases hau : args.toList with
     | nil => rw [hau] at hargs; cases hargs
     | cons y ys =>
      rw [hau] at hargs
      simp only [List.map_cons] at hargs
      cases hargs with
      | cons h1 h2 =>
      cases ys with
      | nil => cases h2
      | cons y2 ys =>
      simp only [List.map_cons] at h2
      cases h2 with
      | cons h3 h4 =>
      cases ys with
      | cons => cases h4
      | nil =>
      have hA : args = #[y, y2] := by apply Array.ext'; simpa using hau
      have hT : tys = #[t, u] := by apply Array.ext'; simpa using htys
      subst hA hT
      refine xI (s := Builtin.append_ #[t, u] ty #[a.eval y, a.eval y2]) ?_ (Sw hS hO hev h1 h3 ty) hK
      simp [execOp, resolve, invoke, builtin]
   · rename_i x t hx htys
     rw [hx] at hargs
     cases hau : args.toList with
     | nil => rw [hau] at hargs; cases hargs
     | cons y ys =>
      rw [hau] at hargs
      simp only [List.map_cons] at hargs
      cases hargs with
      | cons h1 h2 =>
      cases ys with
      | cons => cases h2
      | nil =>
      have hA : args = #[y] := by apply Array.ext'; simpa using hau
      have hT : tys = #[t] := by apply Array.ext'; simpa using htys
      subst hA hT
      refine xI (s := Builtin.clear_ #[t] ty #[a.eval y]) ?_ (RI hS hev h1 ty) hK
      simp [execOp, resolve, invoke, builtin]
   · cases hev
  | value x =>
   simp only [xz] at hev
   split at hev
   rotate_left
   · cases hev
   rename_i g caps hf
   obtain ⟨vs, hvs, hcaps⟩ := UH hf (yQ (P := P) he 0 x)
   have hargs := tZ (P := P) he args.toList tys.toList
   have hall : RVs w F ρ (args.map a.eval ++ vs).toList (yw P e args.toList tys.toList ++ caps) := by rw [Array.toList_append, Array.toList_map]; exact yW hargs hcaps
   have main : (∃ fn, P.funcs[g]? = some fn ∧ (fn.name == "runtime.NumGoroutine") = false ∧ fn.body.isNone = false) ∧
    Calls P g (args.map a.eval ++ vs) w fun e w' => ∃ u F' ρ', e = .returned u ∧ RV w' F' ρ' u v ∧ St w' F' ρ' Ow h' ∧ Nxt Ow w F ρ w' F' ρ' := by
    split at hev
    · exact Q6 hS hO.blk hO.z hB hrec hev hall
    · exact Qb hS hO hB hrec hev hall
    · cases hev
   obtain ⟨⟨fn, f1, f2, f3⟩, hcall⟩ := main
   unfold Oper.wp
   have hex : (execOp a.eval ⟨dst, .call ⟨.value x, args, tys⟩, ty, pos, after, guard⟩).run P w = .ok (.enter g (args.map a.eval ++ vs)) w := by
    simp only [execOp, resolve, hvs, Deferred.ofValue, Sem.run_bind, Sem.run_pure, Result.andThen_ok, invoke, Array.empty_append]
    exact eY f1 f2 f3
   rw [hex, Oper.upon_enter]
   refine hcall.mono ?_
   rintro e' w' ⟨u, F', ρ', rfl, k1, k2, k3⟩
   exact hK w' F' ρ' u k1 k2 k3
  | invoke r m => simp [xz] at hev
 | _ => simp [xz] at hev
theorem Rs {pol : Pol} {rec : Rec} {W0 : World} (hB : vo W0 w F) (hrec : xX P W0 rec) {f : Nat} {o : Oper} {e : Env} {v : V} {h' : Heap} (hev : u6 P pol rec f o e h = some (v, h')) (hS : St w F ρ Ow h) (hO : OkC Ow w) {a : Act} (he : RE w F ρ a e)
 {K : Act → World → Prop} {Q : Exit → Act → World → Prop} (hK : XR Ow w F ρ v h' fun u w' => K (a.put o.dst u) w') : o.wp P a w K Q := by
 unfold u6 at hev
 split at hev
 · split at hev
   · rename_i r hr
     cases hev
     exact Rq hB hrec hr hS hO he hK
   · exact UP hB hrec (by rw [hO.n]; exact hev) hS hO.op (fun r hr => absurd hr (hO.z r)) he hK
 · exact UP hB hrec (by rw [hO.n]; exact hev) hS hO.op (fun r hr => absurd hr (hO.z r)) he hK
end Go.Proofs.YtonbkdklidfmfaaGreatDoor.E
/- The evaluator's regions and code are those of the machine. Conditions: those of each lemma. -/
namespace Go.Proofs.YtonbkdklidfmfaaGreatDoor.E
set_option linter.unusedVariables false
set_option linter.unusedSimpArgs false
variable {P : Program} {w : World} {F : Nat → Prop} {ρ : yd} {Ow : Own} {h : Heap}
theorem iW {a : Act} {e : Env} (he : RE w F ρ a e) {dst : Option Nat} (hd : ∀ d, dst = some d → d < a.tmps.size) {u : Value} {v : V} (hu : RV w F ρ u v) : RE w F ρ (a.put dst u) (put e dst v) := by
 intro t
 cases dst with
 | none => exact he t
 | some d =>
  have hd' := hd d rfl
  simp only [Act.put, put, upd, Array.getD_eq_getD_getElem?]
  by_cases ht : t = d
  · subst ht; simp [hd', hu]
  · have := he t
    simp only [Array.getD_eq_getD_getElem?] at this
    simp [ht, Array.getElem?_setIfInBounds_ne (Ne.symm ht), this]
theorem Nxt.re {w' : World} {F' : Nat → Prop} {ρ' : yd} (hN : Nxt Ow w F ρ w' F' ρ') {a : Act} {e : Env} (he : RE w F ρ a e) : RE w' F' ρ' a e := fun t => hN.rv (he t)
theorem pe (a : Act) (dst : Option Nat) (u : Value) : (a.put dst u).tmps.size = a.tmps.size ∧ (a.put dst u).defers = a.defers := by
 cases dst <;> simp [Act.put]
theorem nu {ops : Array Oper} {o : Oper} {e : Env} {b : Bool} (hw : want ops o e = some b) {a : Act} (he : RE w F ρ a e) : Region.wanted o (yielded ops a.tmps) = b := by
 unfold want at hw
 unfold Region.wanted
 split at hw
 · rename_i hg; cases hw; rw [hg]
 · rename_i j c hg
   rw [hg]
   simp only
   split at hw
   · rename_i d hd
     have hr := he d
     simp only [yielded, hd, Option.bind_some]
     split at hw
     · rename_i c' hc
       rw [hc] at hr
       have := iw hr
       cases hw
       rw [Array.getD_eq_getD_getElem?] at this
       cases ht : a.tmps[d]? with
       | none => rw [ht] at this; simp [undef] at this
       | some x => rw [ht] at this; simp at this; subst this; simp
     · rename_i hc
       rw [hc] at hr
       cases hw
       have hund : a.tmps.getD d undef = undef := by
        generalize hgx : a.tmps.getD d undef = z at hr
        cases hr; rfl
       rw [Array.getD_eq_getD_getElem?] at hund
       cases ht : a.tmps[d]? with
       | none => simp
       | some x => rw [ht] at hund; simp [undef] at hund; subst hund; simp
     · cases hw
   · cases hw
/-- the operations at places, in order -/
def ik (P : Program) (pol : Pol) (rec : Rec) (f : Nat) (ops : Array Oper) : List Nat → Env → Heap → Option (Env × Heap)
 | [], e, h => some (e, h)
 | i :: rest, e, h => match ops[i]? with
  | some o => match wZ P pol rec f ops o e h with
   | some (e', h') => ik P pol rec f ops rest e' h'
   | none => none
  | none => none
theorem eW {pol : Pol} {rec : Rec} {f : Nat} {ops : Array Oper} : ∀ (l : List Nat) (os : List Oper) (e : Env) (h : Heap), l.map (ops[·]?) = os.map some → qF P pol rec f ops os e h = ik P pol rec f ops l e h
 | [], [], e, h, _ => rfl
 | [], _ :: _, e, h, hl => by simp at hl
 | _ :: _, [], e, h, hl => by simp at hl
 | i :: l, o :: os, e, h, hl => by
  simp only [List.map_cons, List.cons.injEq] at hl
  simp only [qF, ik, hl.1]
  cases wZ P pol rec f ops o e h with
  | none => rfl
  | some x => exact eW l os x.1 x.2 hl.2
theorem pZ (ops : Array Oper) : (List.range ops.size).map (ops[·]?) = ops.toList.map some := by
 apply List.ext_getElem?
 intro i
 by_cases hi : i < ops.size
 · simp [hi]
 · simp [hi]
/-- a region's slots lie within the frame -/
def pP (n : Nat) (ops : Array Oper) : Bool := ops.toList.all fun o => match o.dst with | some d => decide (d < n) | none => true
theorem jj {n : Nat} {ops : Array Oper} (hd : pP n ops = true) {i : Nat} {o : Oper} (ho : ops[i]? = some o) : ∀ d, o.dst = some d → d < n := fun d hdst => by
 have := List.all_eq_true.1 hd o (by rw [Array.mem_toList_iff]; exact Array.mem_of_getElem? ho)
 rw [hdst] at this
 simpa using this
/-- what code leaves behind -/
def qG (Ow : Own) (w : World) (F : Nat → Prop) (ρ : yd) (n : Nat) (e' : Env) (h' : Heap) (K : Act → World → Prop) : Prop :=
 ∀ a' w' F' ρ', RE w' F' ρ' a' e' → St w' F' ρ' Ow h' → Nxt Ow w F ρ w' F' ρ' → a'.tmps.size = n → a'.defers = [] → K a' w'
theorem qG.step {w1 : World} {F1 : Nat → Prop} {ρ1 : yd} {n : Nat} {e' : Env} {h' : Heap} {K : Act → World → Prop} (hK : qG Ow w F ρ n e' h' K) (hN : Nxt Ow w F ρ w1 F1 ρ1) : qG Ow w1 F1 ρ1 n e' h' K :=
 fun a' w' F' ρ' h1 h2 h3 h4 h5 => hK a' w' F' ρ' h1 h2 (hN.trans h3) h4 h5
theorem Rt {pol : Pol} {rec : Rec} {W0 : World} (hB : vo W0 w F) (hrec : xX P W0 rec) {f : Nat} {ops : Array Oper} {i : Nat} {o : Oper} (ho : ops[i]? = some o) {e e' : Env} {h' : Heap} (hev : si P pol rec f Ow.N ops o e h = some (e', h')) (hS : St w F ρ Ow h) (hO : OkO Ow w ρ h) (hz : ∀ r, Ow.z r → r < h.length)
 {a : Act} (he : RE w F ρ a e) {n : Nat} (hn : a.tmps.size = n) (hd : a.defers = []) (hdst : pP n ops = true) {Q : Exit → Act → World → Prop} {K : Act → World → Prop} (hK : qG Ow w F ρ n e' h' K) : wpOp P ops Q i K a w := by
 have hdo : ∀ d, o.dst = some d → d < a.tmps.size := fun d hx => by rw [hn]; exact jj hdst ho d hx
 unfold si at hev
 unfold wpOp
 simp only [ho]
 split at hev
 · rename_i hw
   rw [nu hw he]
   simp only [if_true]
   split at hev
   · rename_i v h1 hop
     cases hev
     left
     refine UP hB hrec hop hS hO hz he fun w' F' ρ' u h1 h2 h3 => ?_
     obtain ⟨s1, s2⟩ := pe a o.dst u
     exact hK _ w' F' ρ' (iW (h3.re he) hdo h1) h2 h3 (s1.trans hn) (s2.trans hd)
   · cases hev
 · rename_i hw
   cases hev
   rw [nu hw he]
   simp only [Bool.false_eq_true, if_false]
   obtain ⟨s1, s2⟩ := pe a o.dst undef
   exact hK _ w F ρ (iW he hdo .und) hS (Nxt.refl _ _ _ _) (s1.trans hn) (s2.trans hd)
 · cases hev
theorem af {pol : Pol} {rec : Rec} {W0 : World} (hB : vo W0 w F) (hrec : xX P W0 rec) {f : Nat} {ops : Array Oper} {i : Nat} {o : Oper} (ho : ops[i]? = some o) {e e' : Env} {h' : Heap} (hev : wZ P pol rec f ops o e h = some (e', h')) (hS : St w F ρ Ow h) (hO : OkC Ow w)
 {a : Act} (he : RE w F ρ a e) {n : Nat} (hn : a.tmps.size = n) (hd : a.defers = []) (hdst : pP n ops = true) {Q : Exit → Act → World → Prop} {K : Act → World → Prop} (hK : qG Ow w F ρ n e' h' K) : wpOp P ops Q i K a w := by
 have hdo : ∀ d, o.dst = some d → d < a.tmps.size := fun d hx => by rw [hn]; exact jj hdst ho d hx
 unfold wZ at hev
 unfold wpOp
 simp only [ho]
 split at hev
 · rename_i hw
   rw [nu hw he]
   simp only [if_true]
   split at hev
   · rename_i v h1 hop
     cases hev
     left
     refine Rs hB hrec hop hS hO he fun w' F' ρ' u h1 h2 h3 => ?_
     obtain ⟨s1, s2⟩ := pe a o.dst u
     exact hK _ w' F' ρ' (iW (h3.re he) hdo h1) h2 h3 (s1.trans hn) (s2.trans hd)
   · cases hev
 · rename_i hw
   cases hev
   rw [nu hw he]
   simp only [Bool.false_eq_true, if_false]
   obtain ⟨s1, s2⟩ := pe a o.dst undef
   exact hK _ w F ρ (iW he hdo .und) hS (Nxt.refl _ _ _ _) (s1.trans hn) (s2.trans hd)
 · cases hev
theorem UD {W0 : World} {pol : Pol} {rec : Rec} (hrec : xX P W0 rec) {f : Nat} {ops : Array Oper} {n : Nat} (hdst : pP n ops = true) {Q : Exit → Act → World → Prop} : ∀ (l : List Nat) {w : World} {F : Nat → Prop} {ρ : yd} {h : Heap} {e e' : Env} {h' : Heap} {a : Act},
 ik P pol rec f ops l e h = some (e', h') → vo W0 w F → St w F ρ Ow h → OkC Ow w → RE w F ρ a e → a.tmps.size = n → a.defers = [] → qG Ow w F ρ n e' h' (Q .normal) → wpOps P ops Q l a w
 | [], w, F, ρ, h, e, e', h', a, hev, hB, hS, hO, he, hn, hd, hK => by
  simp only [ik] at hev; cases hev
  exact hK a w F ρ he hS (Nxt.refl _ _ _ _) hn hd
 | i :: rest, w, F, ρ, h, e, e', h', a, hev, hB, hS, hO, he, hn, hd, hK => by
  simp only [ik] at hev
  split at hev
  · rename_i o ho
    split at hev
    · rename_i e1 h1 h1ev
      rw [wpOps_cons]
      refine af hB hrec ho h1ev hS hO he hn hd hdst fun a' w' F' ρ' k1 k2 k3 k4 k5 => ?_
      exact UD hrec hdst rest hev (hB.next k3) k2 (hO.mono k3.size) k1 k4 k5 (hK.step k3)
    · cases hev
  · cases hev
def oD (P : Program) (c : Code) (Q : Exit → Act → World → Prop) (a : Act) (w : World) : Prop :=
 ∀ (b : Frame) (k : List Item) (cs : List Frame), ∃ e a' w', Q e a' w' ∧ Arrives P (lone (b.at a (.inLoop c :: k)) cs w) b k cs e a' w'
theorem kP {c : Code} {Q : Exit → Act → World → Prop} {a : Act} {w : World} (hb : c.wp P (Exit.then (oD P c Q) Q) a w) (b : Frame) (k : List Item) (cs : List Frame) :
 ∃ e a' w', Q e a' w' ∧ Arrives P (lone (b.at a (.code c :: .inLoop c :: k)) cs w) b k cs e a' w' := by
 obtain ⟨e, a1, w1, hq, harr⟩ := hb b (.inLoop c :: k) cs
 cases e with
 | normal =>
  obtain ⟨e2, a2, w2, hq2, harr2⟩ := hq b k cs
  exact ⟨e2, a2, w2, hq2, .of_steps harr harr2⟩
 | exit id => exact ⟨.exit id, a1, w1, hq, fun k' hk => harr k' (by simpa [exitTo] using hk)⟩
 | goto l => exact ⟨.goto l, a1, w1, hq, fun k' hk => harr k' (by simpa [gotoIn] using hk)⟩
 | ret => exact ⟨.ret, a1, w1, hq, harr⟩
 | panic chain => exact ⟨.panic chain, a1, w1, hq, harr⟩
 | outgrown => exact ⟨.outgrown, a1, w1, hq, harr⟩
theorem TF {c : Code} {Q : Exit → Act → World → Prop} {a : Act} {w : World} (hb : c.wp P (Exit.then (oD P c Q) Q) a w) : (Code.loop c).wp P Q a w := fun b k cs => by
 obtain ⟨e, a', w', hq, harr⟩ := kP hb b k cs
 exact ⟨e, a', w', hq, .of_steps (.one step_loop) harr⟩
theorem dZ {c : Code} {Q : Exit → Act → World → Prop} {a : Act} {w : World} (hb : c.wp P (Exit.then (oD P c Q) Q) a w) : oD P c Q a w := fun b k cs => by
 obtain ⟨e, a', w', hq, harr⟩ := kP hb b k cs
 exact ⟨e, a', w', hq, .of_steps (.one step_inLoop) harr⟩
/-- slots and their values -/
def ti (a : Act) (ss : List Nat) : List Value := ss.map fun t => a.tmps.getD t undef
theorem uB {a : Act} {e : Env} (he : RE w F ρ a e) : ∀ ss : List Nat, RVs w F ρ (ti a ss) (ss.map e)
 | [] => .nil
 | s :: ss => .cons (he s) (uB he ss)
theorem tm {a : Act} : ∀ (ss : List Nat) (vals : List V), RVs w F ρ (ti a ss) vals → RE w F ρ a (zb ss vals)
 | [], _, _ => fun t => by simp only [zb]; exact .bad _
 | s :: ss, [], hv => by cases hv
 | s :: ss, v :: vals, hv => by
  cases hv with
  | cons h1 h2 =>
   intro t
   simp only [zb, upd]
   split
   · rename_i e; subst e; exact h1
   · exact tm ss vals h2 t
theorem rQ : ∀ (n m p : Nat), p ≤ n → p ≤ m → sQ n p = sQ m p
 | 0, 0, p, _, _ => rfl
 | 0, m + 1, p, h1, h2 => by have : p = 0 := by omega
                             subst this; simp [sQ]
 | n + 1, 0, p, h1, h2 => by have : p = 0 := by omega
                             subst this; simp [sQ]
 | n + 1, m + 1, p, h1, h2 => by
  simp only [sQ]
  split
  · rfl
  · rw [rQ n m (p / 2) (by omega) (by omega)]
theorem vV {p : Nat} (hp : 1 ≤ p) (d : Nat) (hd : d ≤ 1) : turns (2 * p + d) = turns p ++ [d == 1] := by
 unfold turns
 obtain ⟨n, hn⟩ : ∃ n, 2 * p + d = n + 1 := ⟨2 * p + d - 1, by omega⟩
 rw [hn]
 simp only [sQ]
 rw [if_neg (by omega), ← hn, show (2 * p + d) / 2 = p by omega, show (2 * p + d) % 2 = d by omega, rQ n p p (by omega) (Nat.le_refl _)]
theorem yV : ∀ (ds : List Bool) (c c' : Code) (d : Bool), yX c ds = some c' → yX c (ds ++ [d]) = yX c' [d]
 | [], c, c', d, h => by simp only [yX] at h; cases h; rfl
 | x :: ds, c, c', d, h => by
  cases c with
  | seq a b => simp only [yX, List.cons_append] at h ⊢; exact yV ds _ _ d h
  | cond o a b => simp only [yX, List.cons_append] at h ⊢; exact yV ds _ _ d h
  | block id b => simp only [yX, List.cons_append] at h ⊢; exact yV ds _ _ d h
  | loop b => simp only [yX, List.cons_append] at h ⊢; exact yV ds _ _ d h
  | _ => simp [yX] at h
end Go.Proofs.YtonbkdklidfmfaaGreatDoor.E
