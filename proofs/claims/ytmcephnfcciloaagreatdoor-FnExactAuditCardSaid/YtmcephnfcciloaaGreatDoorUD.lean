/- Joined: E11C E11D E12 E12D. Conditions: those of each lemma. -/
import Derived.Test.YtmcephnfcciloaaGreatDoorUC
set_option linter.unusedVariables false
set_option linter.unusedSimpArgs false
namespace Go.Proofs.YtmcephnfcciloaaGreatDoor.E
set_option linter.unusedVariables false
set_option linter.unusedSimpArgs false
variable {P : Program} {w : World} {F : Nat → Prop} {ρ : ym} {Ow : Own} {h : Heap}
theorem nV {es : List (List V)} {i j : Nat} {cs : List V} {v : V} (hi : es[i]? = some cs) (hj : j < cs.length) {a b : Nat} {cs' : List V} {x : V} (h1 : (xt es i j cs v)[a]? = some cs') (h2 : cs'[b]? = some x) :
    (a = i ∧ b = j ∧ x = v) ∨ (¬ (a = i ∧ b = j) ∧ ∃ cs0, es[a]? = some cs0 ∧ cs0[b]? = some x) := by
  unfold xt at h1
  have hil := (List.getElem?_eq_some_iff.1 hi).1
  rw [List.getElem?_set] at h1
  split at h1
  · rename_i e; subst e
    simp [hil] at h1
    subst h1
    rw [List.getElem?_set] at h2
    split at h2
    · rename_i e2; subst e2
      simp [hj] at h2
      exact .inl ⟨rfl, rfl, h2.symm⟩
    · rename_i hne
      exact .inr ⟨fun e => hne e.2.symm, cs, hi, h2⟩
  · rename_i hne
    exact .inr ⟨fun e => hne e.1.symm, cs', h1, h2⟩
theorem Xm {es : List (List V)} {i j : Nat} {cs : List V} {v : V} (hi : es[i]? = some cs) {a b : Nat} {cs0 : List V} {x : V} (hne : ¬ (a = i ∧ b = j)) (h1 : es[a]? = some cs0) (h2 : cs0[b]? = some x) :
    ∃ cs', (xt es i j cs v)[a]? = some cs' ∧ cs'[b]? = some x := by
  unfold xt
  have hil := (List.getElem?_eq_some_iff.1 hi).1
  by_cases ha : a = i
  · subst ha
    rw [hi] at h1; cases h1
    exact ⟨cs.set j v, by simp [hil], by rw [List.getElem?_set_ne fun e => hne ⟨rfl, e.symm⟩]; exact h2⟩
  · exact ⟨cs0, by rw [List.getElem?_set_ne (Ne.symm ha)]; exact h1, h2⟩
theorem UA {es : List (List V)} {i j : Nat} {cs : List V} {v : V} (hi : es[i]? = some cs) (hj : j < cs.length) : ∃ cs', (xt es i j cs v)[i]? = some cs' ∧ cs'[j]? = some v := by
  have hil := (List.getElem?_eq_some_iff.1 hi).1
  exact ⟨cs.set j v, by simp [xt, hil], by simp [hj]⟩
/-- one cell of a row is another value of the evaluator's -/
theorem gp {L : Loc} {es : List (List V)} {R R' : Value → V → Prop} (hr : xE w L es R) (hR : ∀ u x, R u x → R' u x) {i j : Nat} {cs : List V} {v v0 : V} (hi : es[i]? = some cs) (hj : cs[j]? = some v0)
    (hv : ∀ u, cellAt w L i j u → R' u v) : xE w L (xt es i j cs v) R' := by
  obtain ⟨hn, hl, c, el, fr, hh, hs, hf, hz, hc⟩ := hr
  have hjl := (List.getElem?_eq_some_iff.1 hj).1
  refine ⟨by simpa [xt] using hn, fun e he => ?_, c, el, fr, hh, hs, hf, hz, fun a b cs' x h1 h2 => ?_⟩
  · rcases List.mem_or_eq_of_mem_set he with he | rfl
    · exact hl e he
    · rw [List.length_set]; exact hl cs (List.mem_of_getElem? hi)
  · rcases nV hi hjl h1 h2 with ⟨rfl, rfl, rfl⟩ | ⟨_, cs0, h3, h4⟩
    · obtain ⟨u, hu, _⟩ := hc a b cs v0 hi hj
      exact ⟨u, hu, hv u ⟨c, el, fr, hh, hu⟩⟩
    · obtain ⟨u, hu, hru⟩ := hc a b cs0 x h3 h4
      exact ⟨u, hu, hR u x hru⟩
theorem gj {r i j sz : Nat} {es : List (List V)} {cs : List V} {v : V} (hb : h[r]? = some (.vs sz es)) (hi : es[i]? = some cs) {k a b : Nat} {x : T} (hne : ¬ (k = r ∧ a = i ∧ b = j)) (ho : oAt h k a b x) : oAt (h.set r (.vs sz (xt es i j cs v))) k a b x := by
  have hrl := (List.getElem?_eq_some_iff.1 hb).1
  obtain ⟨s, e, c, h1, h2, h3⟩ := ho
  by_cases hk : k = r
  · subst hk
    rw [hb] at h1; cases h1
    obtain ⟨cs', h4, h5⟩ := Xm (v := v) hi (fun e => hne ⟨rfl, e⟩) h2 h3
    exact ⟨sz, xt es i j cs v, cs', by simp [hrl], h4, h5⟩
  · exact ⟨s, e, c, by rw [List.getElem?_set_ne (Ne.symm hk)]; exact h1, h2, h3⟩
/-- an owned cell is laid in a row of its own -/
theorem gd (hS : St w F ρ Ow h) (hz : ∀ r, ¬ Ow.z r) {φ : Nat → Nat → Nat → Nat → Prop} (hφ : uI w F ρ Ow h φ) {r i j sz : Nat} {es : List (List V)} {cs : List V} {x0 : T} (hb : h[r]? = some (.vs sz es)) (hi : es[i]? = some cs) (hj : cs[j]? = some (.o x0))
    {L : Loc} (hL : ρ r = some (some L)) {l : Option Loc} {blk : Blk} {n : Nat} (hRV : ∀ u, cellAt w L i j u → RV w F (newAt h ρ l) u (.sl h.length 0 n none)) (hRB : RB w F (newAt h ρ l) Ow h.length blk)
    {ψ : Nat → Nat → Nat → Prop} (hψ : ∀ s e a b cs' x, blk = .vs s e → e[a]? = some cs' → cs'[b]? = some (.o x) → ∃ L' u, l = some L' ∧ cellAt w L' a b u ∧ RO w u x (ψ a b))
    (hact : ∀ a b k, ψ a b k → (∃ s e cs' x, blk = .vs s e ∧ e[a]? = some cs' ∧ cs'[b]? = some (.o x)) ∧ φ r i j k) (hsep : ∀ a b a' b' k, ψ a b k → ψ a' b' k → a = a' ∧ b = b')
    (hne : ∀ a b k L', ψ a b k → l = some L' → k ≠ L'.b) (hl : ∀ L', l = some L' → φ r i j L'.b) :
    ∃ ρ', St w F ρ' Ow (h.set r (.vs sz (xt es i j cs (.sl h.length 0 n none))) ++ [blk]) ∧ Nxt Ow w F ρ w F ρ' := by
  have hrl := (List.getElem?_eq_some_iff.1 hb).1
  have hjl := (List.getElem?_eq_some_iff.1 hj).1
  have hx := sj hS l
  have hN : Nxt Ow w F ρ w F (newAt h ρ l) := ⟨rfl, rfl, rfl, Nat.le_refl _, fun _ _ _ => rfl, fun _ _ => rfl, fun _ x => x, fun _ x => .inl x, hx, fun r hr => absurd hr (hz r)⟩
  have lowρ : ∀ k, k < h.length → newAt h ρ l k = ρ k := fun k hk => by unfold newAt; rw [if_neg (by omega)]
  have get : ∀ k b, (h.set r (.vs sz (xt es i j cs (.sl h.length 0 n none))) ++ [blk])[k]? = some b → (k = h.length ∧ b = blk) ∨ (k < h.length ∧ k = r ∧ b = .vs sz (xt es i j cs (.sl h.length 0 n none))) ∨ (k < h.length ∧ k ≠ r ∧ h[k]? = some b) := fun k b hk => by
    rcases wa hk with ⟨h1, h2⟩ | ⟨h1, h2⟩
    · exact .inl ⟨by simpa using h1, h2⟩
    · replace h1 : k < h.length := by simpa using h1
      by_cases hkr : k = r
      · subst hkr; simp [hrl] at h2; exact .inr (.inl ⟨h1, rfl, h2.symm⟩)
      · rw [List.getElem?_set_ne (Ne.symm hkr)] at h2; exact .inr (.inr ⟨h1, hkr, h2⟩)
  -- where a writable row of the new state lies
  have place : ∀ k b L1, (h.set r (.vs sz (xt es i j cs (.sl h.length 0 n none))) ++ [blk])[k]? = some b → writes b = true → newAt h ρ l k = some (some L1) → (k = h.length ∧ l = some L1) ∨ (k < h.length ∧ ∃ b0, h[k]? = some b0 ∧ writes b0 = true ∧ ρ k = some (some L1)) := fun k b L1 hk hw hL1 => by
    rcases get k b hk with ⟨rfl, rfl⟩ | ⟨h1, rfl, rfl⟩ | ⟨h1, h2, h3⟩
    · simp [newAt] at hL1; exact .inl ⟨rfl, hL1⟩
    · exact .inr ⟨h1, _, hb, rfl, by rw [← lowρ k h1]; exact hL1⟩
    · exact .inr ⟨h1, b, h3, hw, by rw [← lowρ k h1]; exact hL1⟩
  refine ⟨newAt h ρ l, ⟨fun k b hk => ?_, fun k k' b b' L1 L2 hk hk' hw hw' h1 h2 he => ?_, hS.fsz, si hS l (by simp), ?_⟩, hN⟩
  · rcases get k b hk with ⟨rfl, rfl⟩ | ⟨h1, rfl, rfl⟩ | ⟨h1, h2, h3⟩
    · exact hRB
    · rcases hS.blk k _ hb with ⟨L', q1, q2, q3, q4, q5⟩ | ⟨q1, _⟩
      · rw [hL] at q1; cases q1
        exact .inl ⟨L, hx _ _ hL, q2, gp q3 (fun u x hr => hN.rv hr) hi hj hRV, q4, q5⟩
      · rw [hL] at q1; cases q1
    · exact (hS.blk k b h3).mono hN.agree hN.grow hx fun L' hL' hw => ⟨rfl, ((hS.blk k b h3).wX hw hL').1⟩
  · rcases place k b L1 hk hw h1 with ⟨rfl, p1⟩ | ⟨p0, b0, p1, p2, p3⟩ <;> rcases place k' b' L2 hk' hw' h2 with ⟨rfl, q1⟩ | ⟨q0, b1, q1, q2, q3⟩
    · rfl
    · exact absurd he.symm (hφ.apart r i j L1.b k' b1 L2 (hl L1 p1) q1 q2 q3)
    · exact absurd he (hφ.apart r i j L2.b k b0 L1 (hl L2 q1) p1 p2 p3)
    · exact hS.inj k k' b0 b1 L1 L2 p1 q1 p2 q2 p3 q3 he
  · refine ⟨fun k a b m => (k = h.length ∧ ψ a b m) ∨ (k < h.length ∧ ¬ (k = r ∧ a = i ∧ b = j) ∧ φ k a b m), ⟨fun k a b x ho => ?_, fun k a b m hm => ?_, fun k a b k' a' b' m h1 h2 => ?_, fun k a b m k' b' L' h1 h2 h3 h4 he => ?_⟩⟩
    · obtain ⟨s, e, c, h1, h2, h3⟩ := ho
      rcases get k _ h1 with ⟨rfl, rfl⟩ | ⟨h4, rfl, h5⟩ | ⟨h4, h5, h6⟩
      · obtain ⟨L', u, q1, q2, q3⟩ := hψ s e a b c x rfl h2 h3
        exact ⟨L', u, by simp [newAt, q1], q2, q3.mono fun m hm => ⟨.inl ⟨rfl, hm⟩, rfl⟩⟩
      · cases h5
        rcases nV hi hjl h2 h3 with ⟨_, _, h6⟩ | ⟨h6, cs0, h7, h8⟩
        · cases h6
        · obtain ⟨L', u, q1, q2, q3⟩ := hφ.cell k a b x ⟨_, es, cs0, hb, h7, h8⟩
          exact ⟨L', u, hx _ _ q1, q2, q3.mono fun m hm => ⟨.inr ⟨h4, fun e => h6 e.2, hm⟩, rfl⟩⟩
      · obtain ⟨L', u, q1, q2, q3⟩ := hφ.cell k a b x ⟨s, e, c, h6, h2, h3⟩
        exact ⟨L', u, hx _ _ q1, q2, q3.mono fun m hm => ⟨.inr ⟨h4, fun e => h5 e.1, hm⟩, rfl⟩⟩
    · rcases hm with ⟨rfl, hm⟩ | ⟨h1, h2, hm⟩
      · obtain ⟨⟨s, e, c, x, q1, q2, q3⟩, q4⟩ := hact a b m hm
        subst q1
        exact ⟨⟨x, s, e, c, by simp, q2, q3⟩, (hφ.act r i j m q4).2⟩
      · obtain ⟨⟨x, ho⟩, q⟩ := hφ.act k a b m hm
        obtain ⟨s, e, c, q1, q2, q3⟩ := gj (v := .sl h.length 0 n none) hb hi h2 ho
        exact ⟨⟨x, s, e, c, by rw [List.getElem?_append_left (by simpa using h1)]; exact q1, q2, q3⟩, q⟩
    · rcases h1 with ⟨rfl, h1⟩ | ⟨h1, h1', h1''⟩ <;> rcases h2 with ⟨rfl, h2⟩ | ⟨h2, h2', h2''⟩
      · exact ⟨rfl, hsep a b a' b' m h1 h2⟩
      · exact absurd (hφ.sep r i j k' a' b' m (hact a b m h1).2 h2'') fun e => h2' ⟨e.1.symm, e.2.1.symm, e.2.2.symm⟩
      · exact absurd (hφ.sep r i j k a b m (hact a' b' m h2).2 h1'') fun e => h1' ⟨e.1.symm, e.2.1.symm, e.2.2.symm⟩
      · exact hφ.sep k a b k' a' b' m h1'' h2''
    · rcases place k' b' L' h2 h3 h4 with ⟨rfl, p1⟩ | ⟨p0, b0, p1, p2, p3⟩
      · rcases h1 with ⟨rfl, h1⟩ | ⟨h1, h1', h1''⟩
        · exact hne a b m L' h1 p1 he.symm
        · exact h1' (by obtain ⟨e1, e2, e3⟩ := hφ.sep k a b r i j m h1'' (he ▸ hl L' p1); exact ⟨e1, e2, e3⟩)
      · rcases h1 with ⟨rfl, h1⟩ | ⟨h1, h1', h1''⟩
        · exact hφ.apart r i j m k' b0 L' (hact a b m h1).2 p1 p2 p3 he
        · exact hφ.apart k a b m k' b0 L' h1'' p1 p2 p3 he
theorem js {es : List (List T)} (hf : qD es = true) {i j : Nat} {cs : List T} {x : T} (hi : es[i]? = some cs) (hj : cs[j]? = some x) : zk x = true ∧ isL x = false := by
  have := List.all_eq_true.1 (List.all_eq_true.1 hf cs (List.mem_of_getElem? hi)) x (List.mem_of_getElem? hj)
  simpa using this
theorem RO.flat' {u : Value} {x : T} {S : Nat → Prop} (h : RO w u x S) (hl : isL x = false) : RT w F u x := by
  cases h with
  | flat _ _ _ hx hf h => exact h.mono (fun _ _ => rfl) fun _ hb => hb.elim
  | empty a sz => simp [isL] at hl
  | list => simp [isL] at hl
theorem UK {x : T} (h : ∀ sz es, x ≠ .list sz es) : oc x = .t x := by
  cases x <;> first | rfl | exact absurd rfl (h _ _)
theorem oc_o {x y : T} (h : oc x = .o y) : x = y ∧ isL x = true := by
  cases x <;> simp [oc] at h
  exact ⟨h, rfl⟩
/-- a cell of an owned value's row -/
theorem oc_rv {ρ' : ym} {u : Value} {x : T} {S : Nat → Prop} (h : RO w u x S) : RV w F ρ' u (oc x) := by
  cases h with
  | flat u x S hx hf h =>
    rw [UK fun sz es e => by subst e; simp [isL] at hx]
    exact .t _ _ (h.mono (fun _ _ => rfl) fun _ hb => hb.elim)
  | empty a sz => exact .o _ _
  | list => exact .o _ _
theorem Ur (hS : St w F ρ Ow h) (hz : ∀ r, ¬ Ow.z r) (r i : Nat) (c : Nat × Bool) : ∃ ρ', St w F ρ' Ow (sS r i c h) ∧ Nxt Ow w F ρ w F ρ' := by
  have same : ∃ ρ', St w F ρ' Ow h ∧ Nxt Ow w F ρ w F ρ' := ⟨ρ, hS, Nxt.refl _ _ _ _⟩
  unfold sS
  split
  rotate_left
  · exact same
  rename_i sz es hb
  split
  rotate_left
  · exact same
  rename_i cs hi
  split
  rotate_left
  · exact same
  rename_i sz' es' hj
  obtain ⟨φ, hφ⟩ := hS.own
  obtain ⟨L, u, hL, hu, hro⟩ := hφ.cell r i c.1 _ ⟨sz, es, cs, hb, hi, hj⟩
  have uniq : ∀ u', cellAt w L i c.1 u' → u' = u := fun u' hu' => by
    obtain ⟨c1, e1, f1, q1, q2⟩ := hu
    obtain ⟨c2, e2, f2, p1, p2⟩ := hu'
    rw [q1] at p1; cases p1
    rw [q2] at p2; cases p2; rfl
  have main : ∀ blk : Blk, (blk = .ts sz' es' ∧ qD es' = true) ∨ blk = .vs sz' (es'.map fun e => e.map oc) → ∃ ρ', St w F ρ' Ow (h.set r (.vs sz (xt es i c.1 cs (.sl h.length 0 es'.length none))) ++ [blk]) ∧ Nxt Ow w F ρ w F ρ' := by
    intro blk hblk
    cases hro with
    | flat _ _ _ hx => simp [isL] at hx
    | empty a _ _ =>
      refine gd hS hz hφ hb hi hj hL (l := none) (fun u' hu' => by rw [uniq u' hu']; exact .slP _ _ _ (by simp [newAt]) (.inl rfl)) ?_ (ψ := fun _ _ _ => False) (fun s e a b cs' x he h1 h2 => ?_) (fun _ _ _ h => h.elim) (fun _ _ _ _ _ h => h.elim) (fun _ _ _ _ h => h.elim) (fun _ h => by cases h)
      · rcases hblk with ⟨rfl, _⟩ | rfl
        · exact .inr ⟨by simp [newAt], rfl⟩
        · exact .inr ⟨by simp [newAt], rfl⟩
      · rcases hblk with ⟨rfl, _⟩ | rfl
        · cases he
        · cases he; simp at h1
    | list L' c' _ _ cc el fr g fp hn hlen hc hz' hh hs hf hbd hg hr hSb hfp sep =>
      obtain ⟨hF, hOw, hlt⟩ := (hφ.act r i c.1 L'.b hSb).2
      refine gd hS hz hφ hb hi hj hL (l := some L') (n := es'.length) (fun u' hu' => ?_) ?_ (ψ := fun a b m => fp a b m ∧ ∃ s e cs' x, blk = .vs s e ∧ e[a]? = some cs' ∧ cs'[b]? = some (.o x)) (fun s e a b cs' x he h1 h2 => ?_)
        (fun a b m hm => ⟨hm.2, (hfp a b m hm.1).1⟩) (fun a b a' b' m h1 h2 => sep a b a' b' m h1.1 h2.1) (fun a b m L1 hm hL1 => by cases hL1; exact (hfp a b m hm.1).2) (fun L1 hL1 => by cases hL1; exact hSb)
      · rw [uniq u' hu', hn]
        exact .sl _ 0 _ none L' _ c' (by simp [newAt]) (.inl (by simp)) hc (by simp) (fun _ => by simpa using hc) (fun k hk => by cases hk) (fun h0 => by simpa using hz' h0)
      · rcases hblk with ⟨rfl, hfl⟩ | rfl
        · exact .inl ⟨L', by simp [newAt], rfl, ⟨hn, hlen, cc, el, fr, hh, hs, hf, hbd, fun a b cs' x h1 h2 => ⟨_, hg a b cs' x h1 h2, (hr a b cs' x h1 h2).flat' (js hfl h1 h2).2⟩⟩, hF, hOw⟩
        · refine .inl ⟨L', by simp [newAt], rfl, ⟨by simpa using hn, fun e he => ?_, cc, el, fr, hh, hs, hf, hbd, fun a b cs' x h1 h2 => ?_⟩, hF, hOw⟩
          · simp only [List.mem_map] at he
            obtain ⟨e0, he0, rfl⟩ := he
            rw [List.length_map]; exact hlen e0 he0
          · rw [List.getElem?_map] at h1
            cases h3 : es'[a]? with
            | none => simp [h3] at h1
            | some e0 =>
              simp [h3] at h1
              subst h1
              rw [List.getElem?_map] at h2
              cases h4 : e0[b]? with
              | none => simp [h4] at h2
              | some y =>
                simp [h4] at h2
                subst h2
                exact ⟨_, hg a b e0 y h3 h4, oc_rv (hr a b e0 y h3 h4)⟩
      · rcases hblk with ⟨rfl, hfl⟩ | rfl
        · cases he
        · cases he
          have h1' := h1
          have h2' := h2
          rw [List.getElem?_map] at h1
          cases h3 : es'[a]? with
          | none => simp [h3] at h1
          | some e0 =>
            simp [h3] at h1
            subst h1
            rw [List.getElem?_map] at h2
            cases h4 : e0[b]? with
            | none => simp [h4] at h2
            | some y =>
              simp [h4] at h2
              obtain ⟨rfl, _⟩ := oc_o h2
              exact ⟨L', g a b, rfl, ⟨cc, el, fr, hh, hg a b e0 y h3 h4⟩, (hr a b e0 y h3 h4).mono fun m hm => ⟨⟨hm, _, _, _, y, rfl, h1', h2'⟩, rfl⟩⟩
  split
  · split
    · rename_i hfl
      exact main _ (.inl ⟨rfl, hfl⟩)
    · exact same
  · exact main _ (.inr rfl)
/-- a cell is taken for an owned value's: what it owned before, and what it owns now -/
theorem fL (hS : St w F ρ Ow h) {φ : Nat → Nat → Nat → Nat → Prop} (hφ : uI w F ρ Ow h φ) {r i j sz : Nat} {es : List (List V)} {cs : List V} {v0 : V} {x0 : T} (hb : h[r]? = some (.vs sz es)) (hi : es[i]? = some cs) (hj : cs[j]? = some v0) (hv0 : ∀ x, v0 ≠ .o x)
    {L : Loc} (hL : ρ r = some (some L)) {S : Nat → Prop} (hro : ∀ u, cellAt w L i j u → RO w u x0 S) {q : Option Nat} (hq : ∀ r', q = some r' → r' ≠ r)
    (hSact : ∀ m, S m → ¬ F m ∧ Ow m ∧ m < w.heap.size) (hSφ : ∀ m k a b, S m → φ k a b m → q = some k) (hSrow : ∀ m k b0 L0, S m → h[k]? = some b0 → writes b0 = true → ρ k = some (some L0) → q ≠ some k → L0.b ≠ m) :
    St w F ρ Ow ((match q with | some r' => (h.set r (.vs sz (xt es i j cs (.o x0)))).set r' .dead | none => h.set r (.vs sz (xt es i j cs (.o x0))))) := by
  have hrl := (List.getElem?_eq_some_iff.1 hb).1
  have hjl := (List.getElem?_eq_some_iff.1 hj).1
  generalize hh' : (match q with | some r' => (h.set r (.vs sz (xt es i j cs (.o x0)))).set r' .dead | none => h.set r (.vs sz (xt es i j cs (.o x0)))) = h'
  have hlen : h'.length = h.length := by rw [← hh']; cases q <;> simp
  have get : ∀ k b, h'[k]? = some b → (q = some k ∧ b = .dead) ∨ (q ≠ some k ∧ k = r ∧ b = .vs sz (xt es i j cs (.o x0))) ∨ (q ≠ some k ∧ k ≠ r ∧ h[k]? = some b) := fun k b hk => by
    have step : ∀ b, (h.set r (.vs sz (xt es i j cs (.o x0))))[k]? = some b → (k = r ∧ b = .vs sz (xt es i j cs (.o x0))) ∨ (k ≠ r ∧ h[k]? = some b) := fun b hk => by
      by_cases hkr : k = r
      · subst hkr; simp [hrl] at hk; exact .inl ⟨rfl, hk.symm⟩
      · rw [List.getElem?_set_ne (Ne.symm hkr)] at hk; exact .inr ⟨hkr, hk⟩
    subst hh'
    cases q with
    | none =>
      rcases step b hk with ⟨h1, h2⟩ | ⟨h1, h2⟩
      · exact .inr (.inl ⟨by simp, h1, h2⟩)
      · exact .inr (.inr ⟨by simp, h1, h2⟩)
    | some r' =>
      simp only at hk
      by_cases hkr : k = r'
      · subst hkr
        have hkl := (List.getElem?_eq_some_iff.1 hk).1
        simp only [List.length_set] at hkl
        simp [hkl] at hk
        exact .inl ⟨rfl, hk.symm⟩
      · rw [List.getElem?_set_ne (Ne.symm hkr)] at hk
        have hne : (some r' : Option Nat) ≠ some k := fun e => hkr (by cases e; rfl)
        rcases step b hk with ⟨h1, h2⟩ | ⟨h1, h2⟩
        · exact .inr (.inl ⟨hne, h1, h2⟩)
        · exact .inr (.inr ⟨hne, h1, h2⟩)
  have old : ∀ k b, h'[k]? = some b → writes b = true → q ≠ some k ∧ ∃ b0, h[k]? = some b0 ∧ writes b0 = true := fun k b hk hw => by
    rcases get k b hk with ⟨_, rfl⟩ | ⟨h1, rfl, _⟩ | ⟨h1, _, h3⟩
    · simp [writes] at hw
    · exact ⟨h1, _, hb, rfl⟩
    · exact ⟨h1, b, h3, hw⟩
  have keep : ∀ k a b x, q ≠ some k → ¬ (k = r ∧ a = i ∧ b = j) → oAt h k a b x → oAt h' k a b x := fun k a b x hqk hne ho => by
    have := gj (v := .o x0) hb hi hne ho
    subst hh'
    cases q with
    | none => exact this
    | some r' =>
      obtain ⟨s, e, c, h1, h2⟩ := this
      exact ⟨s, e, c, by simp only; rw [List.getElem?_set_ne fun e => hqk (by rw [e])]; exact h1, h2⟩
  have hqr : q ≠ some r := fun e => hq r e rfl
  refine ⟨fun k b hk => ?_, fun k k' b b' L1 L2 hk hk' hw hw' h1 h2 he => ?_, hS.fsz, fun k hk => hS.out k (by omega), ?_⟩
  · rcases get k b hk with ⟨_, rfl⟩ | ⟨_, rfl, rfl⟩ | ⟨_, _, h3⟩
    · trivial
    · rcases hS.blk k _ hb with ⟨L', q1, q2, q3, q4, q5⟩ | ⟨q1, _⟩
      · rw [hL] at q1; cases q1
        exact .inl ⟨L, hL, q2, gp q3 (fun u x hr => hr) hi hj fun u _ => .o _ _, q4, q5⟩
      · rw [hL] at q1; cases q1
    · exact hS.blk k b h3
  · obtain ⟨_, b0, p1, p2⟩ := old k b hk hw
    obtain ⟨_, b1, p3, p4⟩ := old k' b' hk' hw'
    exact hS.inj k k' b0 b1 L1 L2 p1 p3 p2 p4 h1 h2 he
  · refine ⟨fun k a b m => (k = r ∧ a = i ∧ b = j ∧ S m) ∨ (q ≠ some k ∧ φ k a b m), ⟨fun k a b x ho => ?_, fun k a b m hm => ?_, fun k a b k' a' b' m h1 h2 => ?_, fun k a b m k' b' L' h1 h2 h3 h4 he => ?_⟩⟩
    · obtain ⟨s, e, c, h1, h2, h3⟩ := ho
      rcases get k _ h1 with ⟨_, h4⟩ | ⟨h4, rfl, h5⟩ | ⟨h4, h5, h6⟩
      · cases h4
      · cases h5
        rcases nV hi hjl h2 h3 with ⟨rfl, rfl, h6⟩ | ⟨h6, cs0, h7, h8⟩
        · cases h6
          rcases hS.blk k _ hb with ⟨L', q1, q2, q3, q4, q5⟩ | ⟨q1, _⟩
          · rw [hL] at q1; cases q1
            obtain ⟨_, _, cc, el, fr, hh, _, _, _, hc⟩ := q3
            obtain ⟨u, hu, _⟩ := hc a b cs v0 hi hj
            exact ⟨L, u, hL, ⟨cc, el, fr, hh, hu⟩, (hro u ⟨cc, el, fr, hh, hu⟩).mono fun m hm => ⟨.inl ⟨rfl, rfl, rfl, hm⟩, rfl⟩⟩
          · rw [hL] at q1; cases q1
        · obtain ⟨L', u, q1, q2, q3⟩ := hφ.cell k a b x ⟨_, es, cs0, hb, h7, h8⟩
          exact ⟨L', u, q1, q2, q3.mono fun m hm => ⟨.inr ⟨h4, hm⟩, rfl⟩⟩
      · obtain ⟨L', u, q1, q2, q3⟩ := hφ.cell k a b x ⟨s, e, c, h6, h2, h3⟩
        exact ⟨L', u, q1, q2, q3.mono fun m hm => ⟨.inr ⟨h4, hm⟩, rfl⟩⟩
    · rcases hm with ⟨rfl, rfl, rfl, hm⟩ | ⟨h1, hm⟩
      · obtain ⟨cs', h2, h3⟩ := UA (v := .o x0) hi hjl
        refine ⟨⟨x0, sz, xt es a b cs (.o x0), cs', ?_, h2, h3⟩, hSact m hm⟩
        subst hh'
        cases q with
        | none => simp [hrl]
        | some r' => simp only; rw [List.getElem?_set_ne fun e => hq r' rfl e]; simp [hrl]
      · obtain ⟨⟨x, ho⟩, h2⟩ := hφ.act k a b m hm
        refine ⟨⟨x, keep k a b x h1 (fun e => ?_) ho⟩, h2⟩
        obtain ⟨rfl, rfl, rfl⟩ := e
        obtain ⟨s, e, c, p1, p2, p3⟩ := ho
        rw [hb] at p1; cases p1
        rw [hi] at p2; cases p2
        rw [hj] at p3; cases p3
        exact hv0 x rfl
    · rcases h1 with ⟨rfl, rfl, rfl, h1⟩ | ⟨h1, h1'⟩ <;> rcases h2 with ⟨rfl, rfl, rfl, h2⟩ | ⟨h2, h2'⟩
      · exact ⟨rfl, rfl, rfl⟩
      · exact absurd (hSφ m k' a' b' h1 h2') h2
      · exact absurd (hSφ m k a b h2 h1') h1
      · exact hφ.sep k a b k' a' b' m h1' h2'
    · obtain ⟨p0, b0, p1, p2⟩ := old k' b' h2 h3
      rcases h1 with ⟨rfl, rfl, rfl, h1⟩ | ⟨h1, h1'⟩
      · exact hSrow m k' b0 L' h1 p1 p2 h4 p0 he
      · exact hφ.apart k a b m k' b0 L' h1' p1 p2 h4 he
theorem jm : ∀ {vs : List V} {xs : List T}, oTs vs = some xs → xs.length = vs.length ∧ ∀ (j : Nat) x, xs[j]? = some x → ∃ v, vs[j]? = some v ∧ oT v = some x
  | [], xs, hx => by simp only [oTs] at hx; cases hx; exact ⟨rfl, fun j x hj => by simp at hj⟩
  | v :: vs, xs, hx => by
    simp only [oTs] at hx
    split at hx
    · rename_i y h1
      split at hx
      · rename_i xs' h2
        cases hx
        obtain ⟨k1, k2⟩ := jm h2
        refine ⟨by simp [k1], fun j x hj => ?_⟩
        cases j with
        | zero => simp at hj; subst hj; exact ⟨v, rfl, h1⟩
        | succ j => simpa using k2 j x (by simpa using hj)
      · cases hx
    · cases hx
theorem gN : ∀ {es : List (List V)} {xs : List (List T)}, Um es = some xs → xs.length = es.length ∧ ∀ (i : Nat) ys, xs[i]? = some ys → ∃ cs, es[i]? = some cs ∧ oTs cs = some ys
  | [], xs, hx => by simp only [Um] at hx; cases hx; exact ⟨rfl, fun i ys hi => by simp at hi⟩
  | c :: cs, xs, hx => by
    simp only [Um] at hx
    split at hx
    · rename_i y h1
      split at hx
      · rename_i xs' h2
        cases hx
        obtain ⟨k1, k2⟩ := gN h2
        refine ⟨by simp [k1], fun i ys hi => ?_⟩
        cases i with
        | zero => simp at hi; subst hi; exact ⟨c, rfl, h1⟩
        | succ i => simpa using k2 i ys (by simpa using hi)
      · cases hx
    · cases hx
theorem T6 (hS : St w F ρ Ow h) (r i : Nat) (c : Nat × Bool) : St w F ρ Ow (sV r i c h) := by
  unfold sV
  split
  rotate_left
  · exact hS
  rename_i sz es hb
  split
  rotate_left
  · exact hS
  rename_i cs hi
  obtain ⟨φ, hφ⟩ := hS.own
  -- the row's own place
  have hLrow : ∀ v0, cs[c.1]? = some v0 → ∃ L, ρ r = some (some L) ∧ ∀ u, cellAt w L i c.1 u → RV w F ρ u v0 := fun v0 hj => by
    rcases hS.blk r _ hb with ⟨L, q1, q2, q3, q4, q5⟩ | ⟨_, q1⟩
    · refine ⟨L, q1, fun u hu => ?_⟩
      obtain ⟨_, _, cc, el, fr, hh, _, _, _, hc⟩ := q3
      obtain ⟨u', hu', hr⟩ := hc i c.1 cs v0 hi hj
      obtain ⟨c1, e1, f1, p1, p2⟩ := hu
      rw [hh] at p1; cases p1
      rw [hu'] at p2; cases p2; exact hr
    · subst q1; simp at hi
  split
  · -- a nil slice
    rename_i sz' hj
    obtain ⟨L, hL, hu⟩ := hLrow _ hj
    exact fL hS hφ (q := none) (S := fun _ => False) (x0 := .list sz' []) hb hi hj (fun x e => by cases e) hL (fun u hu' => by have := hu u hu'; cases this; exact .empty _ _ _) (fun r' e => by cases e) (fun m hm => hm.elim) (fun m k a b hm => hm.elim) (fun m k b0 L0 hm => hm.elim)
  · rename_i r' off len cap hj
    obtain ⟨L, hL, hu⟩ := hLrow _ hj
    split
    rotate_left
    · exact hS
    rename_i hc
    obtain ⟨rfl, hne⟩ := hc
    have main : ∀ (blk : Blk) (sz' : Nat) (xs : List (List T)), h[r']? = some blk → writes blk = true → xs.length = len →
        ((∃ L', ρ r' = some (some L') ∧ L'.sz = sz' ∧ xs.length = L'.n ∧ (∀ e ∈ xs, e.length = L'.sz) ∧ ∃ cc el fr, w.heap[L'.b]? = some (.cells cc el fr) ∧ cc.size = L'.z ∧ (∀ k, k < cc.size → ¬(fr.1 ≤ k ∧ k < fr.2)) ∧ L'.o + L'.n * L'.sz ≤ L'.z ∧
          ∀ a b cs' x, xs[a]? = some cs' → cs'[b]? = some x → ∃ u, cc[L'.o + (a * L'.sz + b)]? = some u ∧ RO w u x (φ r' a b)) ∨ (ρ r' = some none ∧ xs = [])) →
        St w F ρ Ow ((h.set r (.vs sz (xt es i c.1 cs (.o (.list sz' xs))))).set r' .dead) := by
      intro blk sz' xs hb' hw hlen hplace
      have := fL hS hφ (q := some r') (S := fun m => (∃ L', ρ r' = some (some L') ∧ m = L'.b) ∨ ∃ a b, φ r' a b m) (x0 := .list sz' xs) hb hi hj (fun x e => by cases e) hL (fun u hu' => ?_) (fun r'' e => by cases e; exact hne) (fun m hm => ?_) (fun m k a b hm hx => ?_) (fun m k b0 L0 hm h1 h2 h3 h4 => ?_)
      · exact this
      · have hrv := hu u hu'
        rcases hplace with ⟨L', p1, p2, p3, p4, cc, el, fr, p5, p6, p7, p8, p9⟩ | ⟨p1, p2⟩
        · cases hrv with
          | slP _ _ a hρ => rw [p1] at hρ; cases hρ
          | sl _ _ _ _ L1 a c' hρ ha hl hn hc0 hc1 hz =>
            rw [p1] at hρ; cases hρ
            by_cases hc0' : c' = 0
            · subst hc0'
              have : len = 0 := by omega
              have hx0 : xs = [] := List.eq_nil_of_length_eq_zero (by omega)
              subst hx0; subst this
              exact .empty a sz' _
            · obtain rfl := ha.resolve_right hc0'
              subst p2
              rw [show len = L'.n by omega]
              simp only [Nat.zero_mul, Nat.add_zero, Nat.zero_add] at hz ⊢
              refine .list L' c' xs _ cc el fr (fun a b => (cc[L'.o + (a * L'.sz + b)]?).getD undef) (fun a b => φ r' a b) p3 p4 (by omega) hz p5 p6 p7 p8 (fun a b cs' x h1 h2 => ?_) (fun a b cs' x h1 h2 => ?_) (.inl ⟨L', p1, rfl⟩) (fun a b m hm => ⟨.inr ⟨a, b, hm⟩, fun e => hφ.apart r' a b m r' blk L' hm hb' hw p1 e.symm⟩) (fun a b a' b' m h1 h2 => (hφ.sep r' a b r' a' b' m h1 h2).2)
              · obtain ⟨u, hu, _⟩ := p9 a b cs' x h1 h2; simp [hu]
              · obtain ⟨u, hu, hr⟩ := p9 a b cs' x h1 h2; simpa [hu] using hr
        · subst p2
          cases hrv with
          | slP _ _ a hρ => exact .empty a sz' _
          | sl _ _ _ _ L1 a c' hρ => rw [p1] at hρ; cases hρ
      · rcases hm with ⟨L', p1, rfl⟩ | ⟨a, b, hm⟩
        · exact (hS.blk r' blk hb').wX hw p1
        · exact (hφ.act r' a b m hm).2
      · rcases hm with ⟨L', p1, rfl⟩ | ⟨a', b', hm⟩
        · exact absurd rfl (hφ.apart k a b L'.b r' blk L' hx hb' hw p1)
        · rw [(hφ.sep r' a' b' k a b m hm hx).1]
      · rcases hm with ⟨L', p1, rfl⟩ | ⟨a', b', hm⟩
        · exact fun e => h4 (by rw [hS.inj k r' b0 blk L0 L' h1 hb' h2 hw h3 p1 e])
        · exact hφ.apart r' a' b' m k b0 L0 hm h1 h2 h3
    split
    · rename_i sz' es' hb'
      split
      · rename_i hc
        refine main _ sz' es' hb' rfl hc.1 ((hS.blk r' _ hb').imp (fun ⟨L', q1, q2, q3, _⟩ => ?_) id)
        obtain ⟨k1, k2, cc, el, fr, k3, k4, k5, k6, k7⟩ := q3
        exact ⟨L', q1, q2, k1, k2, cc, el, fr, k3, k4, k5, k6, fun a b cs' x h1 h2 => by
          obtain ⟨u, hu, hr⟩ := k7 a b cs' x h1 h2
          obtain ⟨f1, f2⟩ := js hc.2 h1 h2
          exact ⟨u, hu, .flat _ _ _ f2 f1 (tW hr f1)⟩⟩
      · exact hS
    · rename_i sz' es' hb'
      split
      · rename_i hlen
        split
        · rename_i xs hxs
          obtain ⟨e1, e2⟩ := gN hxs
          refine main _ sz' xs hb' rfl (by omega) ((hS.blk r' _ hb').imp (fun ⟨L', q1, q2, q3, _⟩ => ?_) fun ⟨q1, q2⟩ => ⟨q1, by subst q2; simpa using e1⟩)
          obtain ⟨k1, k2, cc, el, fr, k3, k4, k5, k6, k7⟩ := q3
          refine ⟨L', q1, q2, by omega, fun e he => ?_, cc, el, fr, k3, k4, k5, k6, fun a b cs' x h1 h2 => ?_⟩
          · obtain ⟨a, ha⟩ := List.mem_iff_getElem?.1 he
            obtain ⟨cs', c1, c2⟩ := e2 a e ha
            rw [(jm c2).1]; exact k2 cs' (List.mem_of_getElem? c1)
          · obtain ⟨cs0, c1, c2⟩ := e2 a cs' h1
            obtain ⟨v, d1, d2⟩ := (jm c2).2 b x h2
            obtain ⟨u, hu, hr⟩ := k7 a b cs0 v c1 d1
            refine ⟨u, hu, ?_⟩
            cases v with
            | t y =>
              simp only [oT] at d2
              split at d2
              · rename_i hf
                simp only [Bool.and_eq_true, Bool.not_eq_true'] at hf
                cases d2
                cases hr with
                | t _ _ hr => exact .flat _ _ _ hf.2 hf.1 (tW hr hf.1)
              · cases d2
            | o y =>
              simp only [oT] at d2; cases d2
              obtain ⟨L1, u1, p1, ⟨c1', e1', f1', p2, p3⟩, p4⟩ := hφ.cell r' a b x ⟨_, es', cs0, hb', c1, d1⟩
              rw [q1] at p1; cases p1
              rw [k3] at p2; cases p2
              rw [hu] at p3; cases p3
              exact p4
            | nil sz'' =>
              simp only [oT] at d2; cases d2
              cases hr
              exact .empty _ _ _
            | _ => simp [oT] at d2
        · exact hS
      · exact hS
    · exact hS
  · exact hS
end Go.Proofs.YtmcephnfcciloaaGreatDoor.E
/- Operations where owned values are made: each is the machine's. Conditions: those of each lemma. -/
namespace Go.Proofs.YtmcephnfcciloaaGreatDoor.E
set_option linter.unusedVariables false
set_option linter.unusedSimpArgs false
variable {P : Program} {w : World} {F : Nat → Prop} {ρ : ym} {Ow : Own} {h : Heap}
theorem rn (hz : ∀ r, ¬ Ow.z r) (fold : Bool) (r i : Nat) : ∀ (cs : List (Nat × Bool)) {ρ : ym} {h : Heap}, St w F ρ Ow h → ∃ ρ', St w F ρ' Ow (yZ fold r i cs h) ∧ Nxt Ow w F ρ w F ρ'
  | [], ρ, h, hS => ⟨ρ, hS, Nxt.refl _ _ _ _⟩
  | c :: cs, ρ, h, hS => by
    simp only [yZ]
    cases fold with
    | true => exact rn hz true r i cs (T6 hS r i c)
    | false =>
      obtain ⟨ρ1, k1, k2⟩ := Ur hS hz r i c
      obtain ⟨ρ2, k3, k4⟩ := rn hz false r i cs k1
      exact ⟨ρ2, k3, k2.trans k4⟩
theorem U1 (hz : ∀ r, ¬ Ow.z r) (e : Env) : ∀ (gs : List Gh) {ρ : ym} {h : Heap}, St w F ρ Ow h → ∃ ρ', St w F ρ' Ow (ghH gs e h) ∧ Nxt Ow w F ρ w F ρ'
  | [], ρ, h, hS => ⟨ρ, hS, Nxt.refl _ _ _ _⟩
  | g :: gs, ρ, h, hS => by
    simp only [ghH]
    have one : ∃ ρ', St w F ρ' Ow (v8 g e h) ∧ Nxt Ow w F ρ w F ρ' := by
      unfold v8
      split
      · exact rn hz _ _ _ _ hS
      · exact ⟨ρ, hS, Nxt.refl _ _ _ _⟩
    obtain ⟨ρ1, k1, k2⟩ := one
    obtain ⟨ρ2, k3, k4⟩ := U1 hz e gs k1
    exact ⟨ρ2, k3, k2.trans k4⟩
mutual
theorem b7 {F' : Nat → Prop} : ∀ (v : V) {u : Value}, RV w F' ρ u v → xf v = true → RV w F ρ u v
  | .t x, u, hu, hx => by
    simp only [xf, Bool.and_eq_true] at hx
    cases hu with
    | t _ _ hy => exact .t _ _ (tW hy hx.1)
  | .nil sz, u, hu, hx => by cases hu; exact .nil sz
  | .sl r off len cap, u, hu, hx => by
    cases hu with
    | sl r off len cap L a c hρ ha hl hn hc0 hc1 hz => exact .sl r off len cap L a c hρ ha hl hn hc0 hc1 hz
    | slP r cap a hρ hc => exact .slP r cap a hρ hc
  | .agg cs, u, hu, hx => by
    simp only [xf] at hx
    cases hu with
    | agg vs cs g hs hg hr => exact RV.ib (nY cs (xz hs hg hr) hx)
  | .tup cs, u, hu, hx => by
    simp only [xf] at hx
    cases hu with
    | tup vs cs g hs hg hr => exact RV.eG (nY cs (xz hs hg hr) hx)
  | .o x, u, hu, hx => .o _ _
  | .ptr r i j, u, hu, hx => by simp [xf] at hx
  | .fn f cs, u, hu, hx => by simp [xf] at hx
  | .und, u, hu, hx => by simp [xf] at hx
  | .bad, u, hu, hx => by simp [xf] at hx
theorem nY {F' : Nat → Prop} : ∀ (vs : List V) {us : List Value}, RVs w F' ρ us vs → xf.rowTs vs = true → RVs w F ρ us vs
  | [], us, hu, hx => by cases hu; exact .nil
  | v :: vs, us, hu, hx => by
    simp only [xf.rowTs, Bool.and_eq_true] at hx
    cases hu with
    | cons h1 h2 => exact .cons (b7 v h1 hx.1) (nY vs h2 hx.2)
end
theorem ln : ∀ {vs : List V}, xf.rowTs vs = true → ∀ {j : Nat} {v : V}, vs[j]? = some v → xf v = true
  | [], _, j, v, hj => by simp at hj
  | x :: vs, h, j, v, hj => by
    simp only [xf.rowTs, Bool.and_eq_true] at h
    cases j with
    | zero => simp at hj; subst hj; exact h.1
    | succ j => exact ln h.2 (by simpa using hj)
theorem b8 {F' : Nat → Prop} {u : Value} {v : V} (hu : RV w F' ρ u v) (hx : xf v = true) : RV w F ρ u v := b7 v hu hx
/-- rows of a call's own, seen by its caller -/
theorem Ux {F' : Nat → Prop} {Ow2 : Own} (hS : St w F' ρ Ow h) (hrow : h.all tr = true) {n : Nat} (hF : ∀ b, F b → b < n) (hOw : ∀ b, Ow b → n ≤ b) (hOO : ∀ b, Ow b → Ow2 b) (hn : n ≤ w.heap.size) : St w F ρ Ow2 h := by
  have hnF : ∀ b, Ow b → ¬ F b := fun b hb hx => by have := hF b hx; have := hOw b hb; omega
  refine ⟨fun r b hr => ?_, hS.inj, fun b hb => Nat.lt_of_lt_of_le (hF b hb) hn, hS.out, ?_⟩
  · have hb := hS.blk r b hr
    have hrb := List.all_eq_true.1 hrow b (List.mem_of_getElem? hr)
    cases b with
    | ts sz es =>
      rcases hb with ⟨L, h1, h2, h3, h4, h5⟩ | hb
      · refine .inl ⟨L, h1, h2, ?_, hnF _ h5, hOO _ h5⟩
        obtain ⟨k1, k2, cc, el, fr, k3, k4, k5, k6, k7⟩ := h3
        exact ⟨k1, k2, cc, el, fr, k3, k4, k5, k6, fun i j cs x hi hj => by
          obtain ⟨u, hu, hr⟩ := k7 i j cs x hi hj
          exact ⟨u, hu, tW hr (js hrb hi hj).1⟩⟩
      · exact .inr hb
    | vs sz es =>
      rcases hb with ⟨L, h1, h2, h3, h4, h5⟩ | hb
      · refine .inl ⟨L, h1, h2, ?_, hnF _ h5, hOO _ h5⟩
        obtain ⟨k1, k2, cc, el, fr, k3, k4, k5, k6, k7⟩ := h3
        exact ⟨k1, k2, cc, el, fr, k3, k4, k5, k6, fun i j cs x hi hj => by
          obtain ⟨u, hu, hr⟩ := k7 i j cs x hi hj
          exact ⟨u, hu, b8 hr (ln (List.all_eq_true.1 hrb cs (List.mem_of_getElem? hi)) hj)⟩⟩
      · exact .inr hb
    | fz sz es => simp [tr] at hrb
    | dead => trivial
  · obtain ⟨φ, hφ⟩ := hS.own
    exact ⟨φ, hφ.cell, fun r i j b hb => by
      obtain ⟨k1, k2, k3, k4⟩ := hφ.act r i j b hb
      exact ⟨k1, hnF b k3, hOO b k3, k4⟩, hφ.sep, hφ.apart⟩
theorem VC (hF : ∀ b, F b → b < w.heap.size) : St w F y7 Ow [] :=
  ⟨fun r b hr => by simp at hr, fun r r' b b' L L' hr => by simp at hr, hF, fun _ _ => rfl, fun _ _ _ _ => False, ⟨fun r i j x ho => by obtain ⟨_, _, _, h1, _⟩ := ho; simp at h1, fun _ _ _ _ h => h.elim, fun _ _ _ _ _ _ _ h => h.elim, fun _ _ _ _ _ _ _ h => h.elim⟩⟩
theorem SR (hS : St w F ρ Ow h) (hO : ∀ b, w.heap.size ≤ b → Ow b) (hz : ∀ r, ¬ Ow.z r) {rec : Rec} {W0 : World} (hB : v7 W0 w F) (hrec : xY P W0 rec) {g : Nat} {args : List V} {v : V} {h' : Heap} (hc : qF rec g args h = some (v, h')) {us : Array Value} (hu : RVs w F ρ us.toList args) :
    (∃ fn, P.funcs[g]? = some fn ∧ (fn.name == "runtime.NumGoroutine") = false ∧ fn.body.isNone = false) ∧
    Calls P g us w fun e w' => ∃ u F' ρ', e = .returned u ∧ RV w' F' ρ' u v ∧ St w' F' ρ' Ow h' ∧ Nxt Ow w F ρ w' F' ρ' := by
  unfold qF at hc
  split at hc
  rotate_left
  · cases hc
  rename_i az has
  split at hc
  rotate_left
  · cases hc
  rename_i v0 h1 hr
  split at hc
  rotate_left
  · cases hc
  rename_i hfl
  simp only [Bool.and_eq_true] at hfl
  obtain ⟨e1, e2⟩ := hrec.opn false g _ _ _ _ hr
  have hk := vt (ρ' := y7) hS (F' := fun b => b < w.heap.size) (fun b hb => hb) args hu has
  refine ⟨e1, (e2 (own fun b => w.heap.size ≤ b) w (fun b => b < w.heap.size) y7 us ⟨hB.size, fun b hb => Nat.lt_of_lt_of_le hb hB.size, hB.heap⟩ (VC fun b hb => hb) (OkC.own _ fun b hb => hb) hk).mono ?_⟩
  rintro e w' ⟨u, F', ρ', rfl, h2, h3, h4, h5⟩
  obtain ⟨φ, hφ⟩ := hS.own
  have hsub : ∀ b, (own fun b => w.heap.size ≤ b) b → (wx Ow w (yj ρ []) (xR [] h) (rA [] φ)) b := fun b hb => ⟨hO b hb, .inl hb⟩
  have hsup : ∀ b, (wx Ow w (yj ρ []) (xR [] h) (rA [] φ)) b → w.heap.size ≤ b := fun b hb => by
    obtain ⟨_, hb | ⟨i, bl, L, hi, _⟩ | ⟨r, i, j, k, hk, _⟩⟩ := hb
    · exact hb
    · simp [xR] at hi
    · simp at hk
  have hS1 := Ux (F := F) h3 hfl.2 (n := w.heap.size) hS.fsz (fun b hb => hb) hsub h4.size
  have hu1 : RV w' F ρ' u v0 := b8 h2 hfl.1
  have hN : Nxt (wx Ow w (yj ρ []) (xR [] h) (rA [] φ)) w F y7 w' F y7 :=
    ⟨h4.os, h4.tape, h4.output, h4.size, fun b hb hno => h4.keep b hb (Nat.not_le.2 hb), fun b hb => h4.agree b (hS.fsz b hb), fun b hb => hb, fun b hb => .inl hb, Ext.refl _, fun _ _ => rfl⟩
  obtain ⟨ρ2, k1, k2, k3⟩ := lD (N := none) (ids := []) (by simp) hS hφ (fun r hr => absurd hr (hz r)) hc hu1 hS1 hN (fun r l hr => by simp at hr)
  exact ⟨u, F, ρ2, rfl, k1, k2, k3⟩
theorem Sq {pol : Pol} {rec : Rec} {W0 : World} (hB : v7 W0 w F) (hrec : xY P W0 rec) {f : Nat} {o : Oper} {e : Env} {v : V} {h' : Heap} (hev : xa P pol rec f o e h = some (v, h')) (hS : St w F ρ Ow h) (hO : OkC Ow w) {a : Act} (he : RE w F ρ a e)
    {K : Act → World → Prop} {Q : Exit → Act → World → Prop} (hK : YR Ow w F ρ v h' fun u w' => K (a.put o.dst u) w') : o.wp P a w K Q := by
  obtain ⟨dst, op, ty, pos, after, guard⟩ := o
  cases op with
  | buildSlice t len parts =>
    simp only [xa] at hev
    split at hev
    · rename_i el hel
      split at hev
      · cases hev
      · rename_i hc
        simp only [not_or, Bool.not_eq_true, Option.isNone_eq_false_iff] at hc
        obtain ⟨c1, c2, c3, c4, _⟩ := hc
        split at hev
        · rename_i css hf
          cases hev
          obtain ⟨zs, hz⟩ := Option.isSome_iff_exists.1 c4
          have hp := qe (P := P) he (fun _ => el) parts.toList
          have hl : (xb P e (fun _ => el) parts.toList).length = len := by
            have := y8 hp
            simp at this
            simp only [ne_eq, Decidable.not_not] at c3
            omega
          have := oL (ps := parts.map fun (i, x) => (i, a.eval x)) hS hO hel (by simpa using hp) c1 (by rw [hl]; exact c2) hf hz
          rw [hl] at this
          exact xF rfl this hK
        · cases hev
    · cases hev
  | makeSlice t l c =>
    simp only [xa] at hev
    split at hev
    · rename_i el k n k' m hel hl hc
      split at hev
      · rename_i zs hz
        split at hev
        · cases hev
        · rename_i hcond
          simp only [not_or, ne_eq, Decidable.not_not, gt_iff_lt, Nat.not_lt] at hcond
          obtain ⟨c1, c2, c3, c4, c5, c6⟩ := hcond
          cases hev
          have hlv := yD (P := P) he 0 l
          have hcv := yD (P := P) he 0 c
          rw [hl] at hlv
          rw [hc] at hcv
          subst c3
          have e1 := th hlv
          have e2 := th hcv
          obtain ⟨n', rfl⟩ := Int.eq_ofNat_of_zero_le (show 0 ≤ n by omega)
          simp only [Int.toNat_natCast] at *
          refine xF (s := Instr.makeSlice t (a.eval l) (a.eval c)) rfl ?_ hK
          rw [e1, e2]
          exact Xd hS hO hel hz c1 c4 c5
      · cases hev
    · cases hev
  | call c =>
    obtain ⟨callee, args, tys⟩ := c
    cases callee with
    | builtin b =>
      simp only [xa] at hev
      have hargs := tc (P := P) he args.toList tys.toList
      split at hev
      · rename_i s x t u hx htys
        rw [hx] at hargs
        cases hau : args.toList with
        | nil => rw [hau] at hargs; cases hargs
        | cons y ys =>
          rw [hau] at hargs
          simp only [List.map_cons] at hargs
          cases hargs with
          | cons h1 h2 =>
          cases ys with
          | nil => cases h2
          | cons y2 ys =>
          simp only [List.map_cons] at h2
          cases h2 with
          | cons h3 h4 =>
          cases ys with
          | cons => cases h4
          | nil =>
          have hA : args = #[y, y2] := by apply Array.ext'; simpa using hau
          have hT : tys = #[t, u] := by apply Array.ext'; simpa using htys
          subst hA hT
          refine xF (s := Builtin.append_ #[t, u] ty #[a.eval y, a.eval y2]) ?_ (TD hS hO hev h1 h3 ty) hK
          simp [execOp, resolve, invoke, builtin]
      · cases hev
    | value x =>
      simp only [xa] at hev
      split at hev
      rotate_left
      · cases hev
      rename_i g caps hf
      obtain ⟨vs, hvs, hcaps⟩ := U2 hf (yD (P := P) he 0 x)
      have hargs := tc (P := P) he args.toList tys.toList
      have hall : RVs w F ρ (args.map a.eval ++ vs).toList (yI P e args.toList tys.toList ++ caps) := by rw [Array.toList_append, Array.toList_map]; exact yG hargs hcaps
      have main : (∃ fn, P.funcs[g]? = some fn ∧ (fn.name == "runtime.NumGoroutine") = false ∧ fn.body.isNone = false) ∧
          Calls P g (args.map a.eval ++ vs) w fun e w' => ∃ u F' ρ', e = .returned u ∧ RV w' F' ρ' u v ∧ St w' F' ρ' Ow h' ∧ Nxt Ow w F ρ w' F' ρ' := by
        split at hev
        · exact SR hS hO.blk hO.z hB hrec hev hall
        · cases hev
      obtain ⟨⟨fn, f1, f2, f3⟩, hcall⟩ := main
      unfold Oper.wp
      have hex : (execOp a.eval ⟨dst, .call ⟨.value x, args, tys⟩, ty, pos, after, guard⟩).run P w = .ok (.enter g (args.map a.eval ++ vs)) w := by
        simp only [execOp, resolve, hvs, Deferred.ofValue, Sem.run_bind, Sem.run_pure, Result.andThen_ok, invoke, Array.empty_append]
        exact fS f1 f2 f3
      rw [hex, Oper.upon_enter]
      refine hcall.mono ?_
      rintro e' w' ⟨u, F', ρ', rfl, k1, k2, k3⟩
      exact hK w' F' ρ' u k1 k2 k3
    | invoke r m => simp [xa] at hev
  | _ => simp [xa] at hev
theorem Ss {pol : Pol} {rec : Rec} {W0 : World} (hB : v7 W0 w F) (hrec : xY P W0 rec) {f : Nat} {o : Oper} {e : Env} {v : V} {h' : Heap} (hev : vy P pol rec f o e h = some (v, h')) (hS : St w F ρ Ow h) (hO : OkC Ow w) {a : Act} (he : RE w F ρ a e)
    {K : Act → World → Prop} {Q : Exit → Act → World → Prop} (hK : YR Ow w F ρ v h' fun u w' => K (a.put o.dst u) w') : o.wp P a w K Q := by
  unfold vy at hev
  split at hev
  · split at hev
    · rename_i r hr
      cases hev
      exact Sq hB hrec hr hS hO he hK
    · exact Uf hB hrec (by rw [hO.n]; exact hev) hS hO.op (fun r hr => absurd hr (hO.z r)) he hK
  · exact Uf hB hrec (by rw [hO.n]; exact hev) hS hO.op (fun r hr => absurd hr (hO.z r)) he hK
end Go.Proofs.YtmcephnfcciloaaGreatDoor.E
/- The evaluator's regions and code are those of the machine. Conditions: those of each lemma. -/
namespace Go.Proofs.YtmcephnfcciloaaGreatDoor.E
set_option linter.unusedVariables false
set_option linter.unusedSimpArgs false
variable {P : Program} {w : World} {F : Nat → Prop} {ρ : ym} {Ow : Own} {h : Heap}
theorem jN {a : Act} {e : Env} (he : RE w F ρ a e) {dst : Option Nat} (hd : ∀ d, dst = some d → d < a.tmps.size) {u : Value} {v : V} (hu : RV w F ρ u v) : RE w F ρ (a.put dst u) (put e dst v) := by
  intro t
  cases dst with
  | none => exact he t
  | some d =>
    have hd' := hd d rfl
    simp only [Act.put, put, upd, Array.getD_eq_getD_getElem?]
    by_cases ht : t = d
    · subst ht; simp [hd', hu]
    · have := he t
      simp only [Array.getD_eq_getD_getElem?] at this
      simp [ht, Array.getElem?_setIfInBounds_ne (Ne.symm ht), this]
theorem Nxt.re {w' : World} {F' : Nat → Prop} {ρ' : ym} (hN : Nxt Ow w F ρ w' F' ρ') {a : Act} {e : Env} (he : RE w F ρ a e) : RE w' F' ρ' a e := fun t => hN.rv (he t)
theorem qd (a : Act) (dst : Option Nat) (u : Value) : (a.put dst u).tmps.size = a.tmps.size ∧ (a.put dst u).defers = a.defers := by
  cases dst <;> simp [Act.put]
theorem oy {ops : Array Oper} {o : Oper} {e : Env} {b : Bool} (hw : want ops o e = some b) {a : Act} (he : RE w F ρ a e) : Region.wanted o (yielded ops a.tmps) = b := by
  unfold want at hw
  unfold Region.wanted
  split at hw
  · rename_i hg; cases hw; rw [hg]
  · rename_i j c hg
    rw [hg]
    simp only
    split at hw
    · rename_i d hd
      have hr := he d
      simp only [yielded, hd, Option.bind_some]
      split at hw
      · rename_i c' hc
        rw [hc] at hr
        have := jf hr
        cases hw
        rw [Array.getD_eq_getD_getElem?] at this
        cases ht : a.tmps[d]? with
        | none => rw [ht] at this; simp [undef] at this
        | some x => rw [ht] at this; simp at this; subst this; simp
      · rename_i hc
        rw [hc] at hr
        cases hw
        have hund : a.tmps.getD d undef = undef := by
          generalize hgx : a.tmps.getD d undef = z at hr
          cases hr; rfl
        rw [Array.getD_eq_getD_getElem?] at hund
        cases ht : a.tmps[d]? with
        | none => simp
        | some x => rw [ht] at hund; simp [undef] at hund; subst hund; simp
      · cases hw
    · cases hw
/-- the operations at places, in order -/
def j9 (P : Program) (pol : Pol) (rec : Rec) (f : Nat) (ops : Array Oper) : List Nat → Env → Heap → Option (Env × Heap)
  | [], e, h => some (e, h)
  | i :: rest, e, h => match ops[i]? with
    | some o => match wC P pol rec f ops o e h with
      | some (e', h') => j9 P pol rec f ops rest e' h'
      | none => none
    | none => none
theorem fQ {pol : Pol} {rec : Rec} {f : Nat} {ops : Array Oper} : ∀ (l : List Nat) (os : List Oper) (e : Env) (h : Heap), l.map (ops[·]?) = os.map some → rB P pol rec f ops os e h = j9 P pol rec f ops l e h
  | [], [], e, h, _ => rfl
  | [], _ :: _, e, h, hl => by simp at hl
  | _ :: _, [], e, h, hl => by simp at hl
  | i :: l, o :: os, e, h, hl => by
    simp only [List.map_cons, List.cons.injEq] at hl
    simp only [rB, j9, hl.1]
    cases wC P pol rec f ops o e h with
    | none => rfl
    | some x => exact fQ l os x.1 x.2 hl.2
theorem qL (ops : Array Oper) : (List.range ops.size).map (ops[·]?) = ops.toList.map some := by
  apply List.ext_getElem?
  intro i
  by_cases hi : i < ops.size
  · simp [hi]
  · simp [hi]
/-- a region's slots lie within the frame -/
def qE (n : Nat) (ops : Array Oper) : Bool := ops.toList.all fun o => match o.dst with | some d => decide (d < n) | none => true
theorem kt {n : Nat} {ops : Array Oper} (hd : qE n ops = true) {i : Nat} {o : Oper} (ho : ops[i]? = some o) : ∀ d, o.dst = some d → d < n := fun d hdst => by
  have := List.all_eq_true.1 hd o (by rw [Array.mem_toList_iff]; exact Array.mem_of_getElem? ho)
  rw [hdst] at this
  simpa using this
/-- what code leaves behind -/
def rD (Ow : Own) (w : World) (F : Nat → Prop) (ρ : ym) (n : Nat) (e' : Env) (h' : Heap) (K : Act → World → Prop) : Prop :=
  ∀ a' w' F' ρ', RE w' F' ρ' a' e' → St w' F' ρ' Ow h' → Nxt Ow w F ρ w' F' ρ' → a'.tmps.size = n → a'.defers = [] → K a' w'
theorem rD.step {w1 : World} {F1 : Nat → Prop} {ρ1 : ym} {n : Nat} {e' : Env} {h' : Heap} {K : Act → World → Prop} (hK : rD Ow w F ρ n e' h' K) (hN : Nxt Ow w F ρ w1 F1 ρ1) : rD Ow w1 F1 ρ1 n e' h' K :=
  fun a' w' F' ρ' h1 h2 h3 h4 h5 => hK a' w' F' ρ' h1 h2 (hN.trans h3) h4 h5
theorem Su {pol : Pol} {rec : Rec} {W0 : World} (hB : v7 W0 w F) (hrec : xY P W0 rec) {f : Nat} {ops : Array Oper} {i : Nat} {o : Oper} (ho : ops[i]? = some o) {e e' : Env} {h' : Heap} (hev : tq P pol rec f Ow.N ops o e h = some (e', h')) (hS : St w F ρ Ow h) (hO : OkO Ow w ρ h) (hz : ∀ r, Ow.z r → r < h.length)
    {a : Act} (he : RE w F ρ a e) {n : Nat} (hn : a.tmps.size = n) (hd : a.defers = []) (hdst : qE n ops = true) {Q : Exit → Act → World → Prop} {K : Act → World → Prop} (hK : rD Ow w F ρ n e' h' K) : wpOp P ops Q i K a w := by
  have hdo : ∀ d, o.dst = some d → d < a.tmps.size := fun d hx => by rw [hn]; exact kt hdst ho d hx
  unfold tq at hev
  unfold wpOp
  simp only [ho]
  split at hev
  · rename_i hw
    rw [oy hw he]
    simp only [if_true]
    split at hev
    · rename_i v h1 hop
      cases hev
      left
      refine Uf hB hrec hop hS hO hz he fun w' F' ρ' u h1 h2 h3 => ?_
      obtain ⟨s1, s2⟩ := qd a o.dst u
      exact hK _ w' F' ρ' (jN (h3.re he) hdo h1) h2 h3 (s1.trans hn) (s2.trans hd)
    · cases hev
  · rename_i hw
    cases hev
    rw [oy hw he]
    simp only [Bool.false_eq_true, if_false]
    obtain ⟨s1, s2⟩ := qd a o.dst undef
    exact hK _ w F ρ (jN he hdo .und) hS (Nxt.refl _ _ _ _) (s1.trans hn) (s2.trans hd)
  · cases hev
theorem bq {pol : Pol} {rec : Rec} {W0 : World} (hB : v7 W0 w F) (hrec : xY P W0 rec) {f : Nat} {ops : Array Oper} {i : Nat} {o : Oper} (ho : ops[i]? = some o) {e e' : Env} {h' : Heap} (hev : wC P pol rec f ops o e h = some (e', h')) (hS : St w F ρ Ow h) (hO : OkC Ow w)
    {a : Act} (he : RE w F ρ a e) {n : Nat} (hn : a.tmps.size = n) (hd : a.defers = []) (hdst : qE n ops = true) {Q : Exit → Act → World → Prop} {K : Act → World → Prop} (hK : rD Ow w F ρ n e' h' K) : wpOp P ops Q i K a w := by
  have hdo : ∀ d, o.dst = some d → d < a.tmps.size := fun d hx => by rw [hn]; exact kt hdst ho d hx
  unfold wC at hev
  unfold wpOp
  simp only [ho]
  split at hev
  · rename_i hw
    rw [oy hw he]
    simp only [if_true]
    split at hev
    · rename_i v h1 hop
      cases hev
      left
      refine Ss hB hrec hop hS hO he fun w' F' ρ' u h1 h2 h3 => ?_
      obtain ⟨s1, s2⟩ := qd a o.dst u
      exact hK _ w' F' ρ' (jN (h3.re he) hdo h1) h2 h3 (s1.trans hn) (s2.trans hd)
    · cases hev
  · rename_i hw
    cases hev
    rw [oy hw he]
    simp only [Bool.false_eq_true, if_false]
    obtain ⟨s1, s2⟩ := qd a o.dst undef
    exact hK _ w F ρ (jN he hdo .und) hS (Nxt.refl _ _ _ _) (s1.trans hn) (s2.trans hd)
  · cases hev
theorem VY {W0 : World} {pol : Pol} {rec : Rec} (hrec : xY P W0 rec) {f : Nat} {ops : Array Oper} {n : Nat} (hdst : qE n ops = true) {Q : Exit → Act → World → Prop} : ∀ (l : List Nat) {w : World} {F : Nat → Prop} {ρ : ym} {h : Heap} {e e' : Env} {h' : Heap} {a : Act},
    j9 P pol rec f ops l e h = some (e', h') → v7 W0 w F → St w F ρ Ow h → OkC Ow w → RE w F ρ a e → a.tmps.size = n → a.defers = [] → rD Ow w F ρ n e' h' (Q .normal) → wpOps P ops Q l a w
  | [], w, F, ρ, h, e, e', h', a, hev, hB, hS, hO, he, hn, hd, hK => by
    simp only [j9] at hev; cases hev
    exact hK a w F ρ he hS (Nxt.refl _ _ _ _) hn hd
  | i :: rest, w, F, ρ, h, e, e', h', a, hev, hB, hS, hO, he, hn, hd, hK => by
    simp only [j9] at hev
    split at hev
    · rename_i o ho
      split at hev
      · rename_i e1 h1 h1ev
        rw [wpOps_cons]
        refine bq hB hrec ho h1ev hS hO he hn hd hdst fun a' w' F' ρ' k1 k2 k3 k4 k5 => ?_
        exact VY hrec hdst rest hev (hB.next k3) k2 (hO.mono k3.size) k1 k4 k5 (hK.step k3)
      · cases hev
    · cases hev
def pq (P : Program) (c : Code) (Q : Exit → Act → World → Prop) (a : Act) (w : World) : Prop :=
  ∀ (b : Frame) (k : List Item) (cs : List Frame), ∃ e a' w', Q e a' w' ∧ Arrives P (lone (b.at a (.inLoop c :: k)) cs w) b k cs e a' w'
theorem lO {c : Code} {Q : Exit → Act → World → Prop} {a : Act} {w : World} (hb : c.wp P (Exit.then (pq P c Q) Q) a w) (b : Frame) (k : List Item) (cs : List Frame) :
    ∃ e a' w', Q e a' w' ∧ Arrives P (lone (b.at a (.code c :: .inLoop c :: k)) cs w) b k cs e a' w' := by
  obtain ⟨e, a1, w1, hq, harr⟩ := hb b (.inLoop c :: k) cs
  cases e with
  | normal =>
    obtain ⟨e2, a2, w2, hq2, harr2⟩ := hq b k cs
    exact ⟨e2, a2, w2, hq2, .of_steps harr harr2⟩
  | exit id => exact ⟨.exit id, a1, w1, hq, fun k' hk => harr k' (by simpa [exitTo] using hk)⟩
  | goto l => exact ⟨.goto l, a1, w1, hq, fun k' hk => harr k' (by simpa [gotoIn] using hk)⟩
  | ret => exact ⟨.ret, a1, w1, hq, harr⟩
  | panic chain => exact ⟨.panic chain, a1, w1, hq, harr⟩
  | outgrown => exact ⟨.outgrown, a1, w1, hq, harr⟩
theorem UT {c : Code} {Q : Exit → Act → World → Prop} {a : Act} {w : World} (hb : c.wp P (Exit.then (pq P c Q) Q) a w) : (Code.loop c).wp P Q a w := fun b k cs => by
  obtain ⟨e, a', w', hq, harr⟩ := lO hb b k cs
  exact ⟨e, a', w', hq, .of_steps (.one step_loop) harr⟩
theorem eY {c : Code} {Q : Exit → Act → World → Prop} {a : Act} {w : World} (hb : c.wp P (Exit.then (pq P c Q) Q) a w) : pq P c Q a w := fun b k cs => by
  obtain ⟨e, a', w', hq, harr⟩ := lO hb b k cs
  exact ⟨e, a', w', hq, .of_steps (.one step_inLoop) harr⟩
/-- slots and their values -/
def ur (a : Act) (ss : List Nat) : List Value := ss.map fun t => a.tmps.getD t undef
theorem vT {a : Act} {e : Env} (he : RE w F ρ a e) : ∀ ss : List Nat, RVs w F ρ (ur a ss) (ss.map e)
  | [] => .nil
  | s :: ss => .cons (he s) (vT he ss)
theorem uw {a : Act} : ∀ (ss : List Nat) (vals : List V), RVs w F ρ (ur a ss) vals → RE w F ρ a (ze ss vals)
  | [], _, _ => fun t => by simp only [ze]; exact .bad _
  | s :: ss, [], hv => by cases hv
  | s :: ss, v :: vals, hv => by
    cases hv with
    | cons h1 h2 =>
      intro t
      simp only [ze, upd]
      split
      · rename_i e; subst e; exact h1
      · exact uw ss vals h2 t
theorem sI : ∀ (n m p : Nat), p ≤ n → p ≤ m → tY n p = tY m p
  | 0, 0, p, _, _ => rfl
  | 0, m + 1, p, h1, h2 => by have : p = 0 := by omega
                              subst this; simp [tY]
  | n + 1, 0, p, h1, h2 => by have : p = 0 := by omega
                              subst this; simp [tY]
  | n + 1, m + 1, p, h1, h2 => by
    simp only [tY]
    split
    · rfl
    · rw [sI n m (p / 2) (by omega) (by omega)]
theorem vr {p : Nat} (hp : 1 ≤ p) (d : Nat) (hd : d ≤ 1) : turns (2 * p + d) = turns p ++ [d == 1] := by
  unfold turns
  obtain ⟨n, hn⟩ : ∃ n, 2 * p + d = n + 1 := ⟨2 * p + d - 1, by omega⟩
  rw [hn]
  simp only [tY]
  rw [if_neg (by omega), ← hn, show (2 * p + d) / 2 = p by omega, show (2 * p + d) % 2 = d by omega, sI n p p (by omega) (Nat.le_refl _)]
theorem yF : ∀ (ds : List Bool) (c c' : Code) (d : Bool), yH c ds = some c' → yH c (ds ++ [d]) = yH c' [d]
  | [], c, c', d, h => by simp only [yH] at h; cases h; rfl
  | x :: ds, c, c', d, h => by
    cases c with
    | seq a b => simp only [yH, List.cons_append] at h ⊢; exact yF ds _ _ d h
    | cond o a b => simp only [yH, List.cons_append] at h ⊢; exact yF ds _ _ d h
    | block id b => simp only [yH, List.cons_append] at h ⊢; exact yF ds _ _ d h
    | loop b => simp only [yH, List.cons_append] at h ⊢; exact yF ds _ _ d h
    | _ => simp [yH] at h
end Go.Proofs.YtmcephnfcciloaaGreatDoor.E
/- Regions whose order is open: every order comes to the same. Conditions: those of each lemma. -/
namespace Go.Proofs.YtmcephnfcciloaaGreatDoor.E
set_option linter.unusedVariables false
set_option linter.unusedSimpArgs false
variable {P : Program} {w : World} {F : Nat → Prop} {ρ : ym} {Ow : Own} {h : Heap} {pol : Pol} {rec : Rec} {f : Nat} {N : Option Nat} {ops : Array Oper}
/-- two environments that agree where the operation looks -/
def wP (ops : Array Oper) (o : Oper) (e e' : Env) : Prop := ∀ t ∈ o.looksAt ops, e t = e' t
theorem wP.opv {o : Oper} {e e' : Env} (hs : wP ops o e e') (ty : TypeId) {x : Operand} (hx : x ∈ o.op.operands) : opv P e ty x = opv P e' ty x := by
  cases x with
  | tmp t =>
    refine hs t ?_
    simp only [Oper.looksAt, List.mem_append, List.mem_filterMap]
    exact .inl ⟨.tmp t, by simpa using hx, rfl⟩
  | _ => rfl
theorem wG {e e' : Env} : ∀ (xs : List Operand) (ts : List TypeId), (∀ x ∈ xs, ∀ ty, opv P e ty x = opv P e' ty x) → yI P e xs ts = yI P e' xs ts
  | [], _, _ => rfl
  | x :: xs, [], h => by simp only [yI]; rw [h x (by simp), wG xs [] fun y hy => h y (by simp [hy])]
  | x :: xs, t :: ts, h => by simp only [yI]; rw [h x (by simp), wG xs ts fun y hy => h y (by simp [hy])]
theorem rf {e e' : Env} (x : Option Operand) (h : ∀ y, x = some y → opv P e 0 y = opv P e' 0 y) : sT P e x = sT P e' x := by
  cases x with
  | none => rfl
  | some y => simp only [sT, h y rfl]
theorem oO {o : Oper} {e e' : Env} (hs : wP ops o e e') : want ops o e = want ops o e' := by
  unfold want
  split
  · rfl
  · rename_i j b hg
    split
    · rename_i d hd
      have : d ∈ o.looksAt ops := by
        unfold Oper.looksAt
        rw [hg]
        simp only [hd, List.mem_append]
        exact .inr (by simp)
      rw [hs d this]
    · rfl
theorem vk {e e' : Env} (ty : Nat → TypeId) : ∀ (ps : List (Nat × Operand)), (∀ x ∈ ps.map (·.2), ∀ t, opv P e t x = opv P e' t x) → xb P e ty ps = xb P e' ty ps
  | [], _ => rfl
  | (i, x) :: r, h => by simp only [xb]; rw [h x (by simp), vk ty r fun y hy => h y (by simp at hy ⊢; exact .inr hy)]
theorem oU {o : Oper} (hs : soft pol f o = true) : yB pol f o = true ∨ xK pol f o = true := by simpa [soft] using hs
theorem rq {o : Oper} (hn : soft pol f o = true) {e e' : Env} (hs : wP ops o e e') : yc P pol rec f N o e h = yc P pol rec f N o e' h := by
  have ho : ∀ {x : Operand}, x ∈ o.op.operands → ∀ ty, opv P e ty x = opv P e' ty x := fun hx ty => hs.opv ty hx
  have hn' := oU hn
  obtain ⟨dst, op, ty, pos, after, guard⟩ := o
  cases op with
  | move x => simp only [yc, ho (x := x) (by simp [Op.operands])]
  | assign x => simp only [yc, ho (x := x) (by simp [Op.operands])]
  | pick c a b => simp only [yc, ho (x := c) (by simp [Op.operands]), ho (x := a) (by simp [Op.operands]), ho (x := b) (by simp [Op.operands])]
  | alloc t => rfl
  | box t x => simp only [yc, ho (x := x) (by simp [Op.operands])]
  | buildSlice t len parts =>
    simp only [yc]
    cases yg P t with
    | none => rfl
    | some el => simp only; rw [vk _ parts.toList fun x hx t => ho (by simp only [Op.operands, List.mem_toArray]; exact hx) t]
  | build t parts =>
    simp only [yc]
    rw [vk _ parts.toList fun x hx t => ho (by simp only [Op.operands, List.mem_toArray]; exact hx) t]
  | makeSlice t l c => simp only [yc, ho (x := l) (by simp [Op.operands]), ho (x := c) (by simp [Op.operands])]
  | load t x => simp only [yc, ho (x := x) (by simp [Op.operands])]
  | binOp op t x y u => simp only [yc, ho (x := x) (by simp [Op.operands]), ho (x := y) (by simp [Op.operands])]
  | unOp op t x => simp only [yc, ho (x := x) (by simp [Op.operands])]
  | convert s d x => simp only [yc, ho (x := x) (by simp [Op.operands])]
  | slice t x lo hi mx =>
    simp only [yc, ho (x := x) (by simp [Op.operands])]
    rw [rf lo fun y hy => ho (by simp [Op.operands, hy]) 0, rf hi fun y hy => ho (by simp [Op.operands, hy]) 0, rf mx fun y hy => ho (by simp [Op.operands, hy]) 0]
  | nilCheck x => simp only [yc, ho (x := x) (by simp [Op.operands])]
  | fieldAddr s x i => simp only [yc, ho (x := x) (by simp [Op.operands])]
  | field s x i => simp only [yc, ho (x := x) (by simp [Op.operands])]
  | indexAddr t x i => simp only [yc, ho (x := x) (by simp [Op.operands]), ho (x := i) (by simp [Op.operands])]
  | index t x i => simp only [yc, ho (x := x) (by simp [Op.operands]), ho (x := i) (by simp [Op.operands])]
  | extract x i => simp only [yc, ho (x := x) (by simp [Op.operands])]
  | call c =>
    obtain ⟨callee, args, tys⟩ := c
    cases callee with
    | builtin b =>
      simp only [yc]
      rw [wG args.toList tys.toList fun y hy ty => ho (by simpa [Op.operands, Call.operands] using hy) ty]
    | value x =>
      simp only [yc]
      rw [wG args.toList tys.toList fun y hy ty => ho (by simp [Op.operands, Call.operands]; right; simpa using hy) ty, ho (x := x) (by simp [Op.operands, Call.operands])]
    | invoke r m => simp [yB, xK] at hn'
  | _ => simp [yB, xK] at hn'
theorem wR {e e' : Env} : ∀ (xs : List Operand), (∀ t, .tmp t ∈ xs → e t = e' t) → zf e xs = zf e' xs
  | [], _ => rfl
  | .tmp t :: r, h => by simp only [zf]; rw [h t (by simp), wR r fun t ht => h t (by simp [ht])]
  | .const _ :: r, h => by simp only [zf]; exact wR r fun t ht => h t (by simp [ht])
  | .func _ :: r, h => by simp only [zf]; exact wR r fun t ht => h t (by simp [ht])
  | .global _ :: r, h => by simp only [zf]; exact wR r fun t ht => h t (by simp [ht])
theorem wg {o : Oper} {e e' : Env} (hs : wP ops o e e') : yw N o e h = yw N o e' h := by
  unfold yw
  rw [wR _ fun t ht => hs t ?_]
  simp only [Oper.looksAt, List.mem_append, List.mem_filterMap]
  exact .inl ⟨.tmp t, ht, rfl⟩
structure xw (fp : List Nat) (h h1 h2 h3 : Heap) : Prop where
  l1 : h1.length = h.length
  l3 : h3.length = h2.length
  on : ∀ r ∈ fp, h3[r]? = h1[r]?
  off1 : ∀ r : Nat, r ∉ fp → h1[r]? = h[r]?
  off3 : ∀ r : Nat, r ∉ fp → h3[r]? = h2[r]?
theorem xw.same {fp : List Nat} {h2 : Heap} (ha : ∀ r ∈ fp, h2[r]? = h[r]?) : xw fp h h h2 h2 := ⟨rfl, rfl, ha, fun _ _ => rfl, fun _ _ => rfl⟩
theorem xw.mono {A B : List Nat} {h1 h2 h3 : Heap} (hl : xw A h h1 h2 h3) (hAB : ∀ r ∈ A, r ∈ B) (ha : ∀ r ∈ B, h2[r]? = h[r]?) : xw B h h1 h2 h3 := by
  refine ⟨hl.l1, hl.l3, fun r hr => ?_, fun r hr => hl.off1 r fun x => hr (hAB r x), fun r hr => hl.off3 r fun x => hr (hAB r x)⟩
  by_cases hA : r ∈ A
  · exact hl.on r hA
  · rw [hl.off3 r hA, hl.off1 r hA]; exact ha r hr
theorem xw.comp {A : List Nat} {h1 h2 h3 h1' h3' : Heap} (hl : xw A h h1 h2 h3) (hk : xw A h1 h1' h3 h3') : xw A h h1' h2 h3' :=
  ⟨hk.l1.trans hl.l1, hk.l3.trans hl.l3, hk.on, fun r hr => (hk.off1 r hr).trans (hl.off1 r hr), fun r hr => (hk.off3 r hr).trans (hl.off3 r hr)⟩
theorem xw.set {fp : List Nat} {h2 : Heap} {r : Nat} (hr : r ∈ fp) (hl : h2.length = h.length) (ha : ∀ r ∈ fp, h2[r]? = h[r]?) (b : Blk) : xw fp h (h.set r b) h2 (h2.set r b) := by
  refine ⟨by simp, by simp, fun k hk => ?_, fun k hk => ?_, fun k hk => ?_⟩
  · rw [List.getElem?_set, List.getElem?_set, hl, ha k hk]
  · exact List.getElem?_set_ne (fun e : r = k => hk (e ▸ hr))
  · exact List.getElem?_set_ne (fun e : r = k => hk (e ▸ hr))
mutual
theorem Xl {fp : List Nat} : ∀ (v : V) {h h1 h2 : Heap} {v' : V}, h2.length = h.length → (∀ r ∈ refs v, r ∈ fp) → (∀ r ∈ fp, h2[r]? = h[r]?) → zy h v = some (v', h1) → ∃ h3, zy h2 v = some (v', h3) ∧ xw fp h h1 h2 h3
  | .sl r off len cap, h, h1, h2, v', hl, hf, ha, hg => by
    have hr : r ∈ fp := hf r (by simp [refs])
    simp only [zy] at hg ⊢
    rw [ha r hr]
    split at hg
    · rename_i sz es hb
      cases hg
      exact ⟨_, rfl, xw.set hr hl ha _⟩
    · rename_i sz es hb
      cases hg; exact ⟨_, rfl, xw.same ha⟩
    · rename_i sz es hb
      split at hg
      · rename_i xs hx
        cases hg
        exact ⟨_, rfl, xw.set hr hl ha _⟩
      · cases hg
    · cases hg
  | .nil sz, h, h1, h2, v', hl, hf, ha, hg => by simp only [zy] at hg ⊢; cases hg; exact ⟨_, rfl, xw.same ha⟩
  | .agg cs, h, h1, h2, v', hl, hf, ha, hg => by
    simp only [zy] at hg ⊢
    split at hg
    · rename_i cs' h1' hc
      cases hg
      obtain ⟨h3, e1, e2⟩ := sn cs hl (fun r hr => hf r (by simpa [refs] using hr)) ha hc
      exact ⟨h3, by rw [e1], e2⟩
    · cases hg
  | .tup cs, h, h1, h2, v', hl, hf, ha, hg => by
    simp only [zy] at hg ⊢
    split at hg
    · rename_i cs' h1' hc
      cases hg
      obtain ⟨h3, e1, e2⟩ := sn cs hl (fun r hr => hf r (by simpa [refs] using hr)) ha hc
      exact ⟨h3, by rw [e1], e2⟩
    · cases hg
  | .t x, h, h1, h2, v', hl, hf, ha, hg => by simp only [zy] at hg ⊢; cases hg; exact ⟨_, rfl, xw.same ha⟩
  | .fn f cs, h, h1, h2, v', hl, hf, ha, hg => by
    simp only [zy] at hg ⊢
    split at hg
    · cases hg; exact ⟨_, rfl, xw.same ha⟩
    · cases hg
  | .ptr r i j, h, h1, h2, v', hl, hf, ha, hg => by simp [zy] at hg
  | .und, h, h1, h2, v', hl, hf, ha, hg => by simp [zy] at hg
  | .bad, h, h1, h2, v', hl, hf, ha, hg => by simp [zy] at hg
theorem sn {fp : List Nat} : ∀ (vs : List V) {h h1 h2 : Heap} {vs' : List V}, h2.length = h.length → (∀ r ∈ refs.refss vs, r ∈ fp) → (∀ r ∈ fp, h2[r]? = h[r]?) → zy.gives h vs = some (vs', h1) → ∃ h3, zy.gives h2 vs = some (vs', h3) ∧ xw fp h h1 h2 h3
  | [], h, h1, h2, vs', hl, hf, ha, hg => by simp only [zy.gives] at hg ⊢; cases hg; exact ⟨_, rfl, xw.same ha⟩
  | v :: vs, h, h1, h2, vs', hl, hf, ha, hg => by
    simp only [zy.gives] at hg ⊢
    split at hg
    · rename_i x ha1 e1
      split at hg
      · rename_i xs hb1 e2
        cases hg
        obtain ⟨h3, k1, k2⟩ := Xl v hl (fun r hr => hf r (by simp [refs.refss, hr])) ha e1
        obtain ⟨h4, k3, k4⟩ := sn vs (by rw [k2.l3, k2.l1, hl]) (fun r hr => hf r (by simp [refs.refss, hr])) k2.on e2
        exact ⟨h4, by rw [k1]; simp only; rw [k3], k2.comp k4⟩
      · cases hg
    · cases hg
end
theorem Zm {fp : List Nat} {vs : List V} {h1 h2 : Heap} {xs : List T} (hl : h2.length = h.length) (hf : ∀ r ∈ refs.refss vs, r ∈ fp) (ha : ∀ r ∈ fp, h2[r]? = h[r]?) (hg : sG h vs = some (xs, h1)) : ∃ h3, sG h2 vs = some (xs, h3) ∧ xw fp h h1 h2 h3 := by
  unfold sG at hg ⊢
  split at hg
  · rename_i ys h1' e1
    obtain ⟨h3, k1, k2⟩ := sn vs hl hf ha e1
    split at hg
    · rename_i ts ht
      cases hg
      exact ⟨h3, by rw [k1]; simp only; rw [ht], k2⟩
    · cases hg
  · cases hg
theorem vj : ∀ (xs ys : List V), refs.refss (xs ++ ys) = refs.refss xs ++ refs.refss ys
  | [], ys => by simp [refs.refss]
  | x :: xs, ys => by simp [refs.refss, vj xs ys]
theorem rm {fp : List Nat} : ∀ {css : List (List V)} {h h1 h2 : Heap} {es : List (List T)}, h2.length = h.length → (∀ r ∈ refs.refss css.flatten, r ∈ fp) → (∀ r ∈ fp, h2[r]? = h[r]?) → xA h css = some (es, h1) → ∃ h3, xA h2 css = some (es, h3) ∧ xw fp h h1 h2 h3
  | [], h, h1, h2, es, hl, hf, ha, hg => by simp only [xA] at hg ⊢; cases hg; exact ⟨_, rfl, xw.same ha⟩
  | c :: css, h, h1, h2, es, hl, hf, ha, hg => by
    simp only [xA] at hg ⊢
    simp only [List.flatten_cons, vj, List.mem_append] at hf
    split at hg
    · rename_i x h1' e1
      split at hg
      · rename_i xs h1'' e2
        cases hg
        obtain ⟨h3, k1, k2⟩ := Zm hl (fun r hr => hf r (.inl hr)) ha e1
        obtain ⟨h4, k3, k4⟩ := rm (by rw [k2.l3, k2.l1, hl]) (fun r hr => hf r (.inr hr)) k2.on e2
        exact ⟨h4, by rw [k1]; simp only; rw [k3], k2.comp k4⟩
      · cases hg
    · cases hg
theorem n8 (ty : TypeId) (v : Value) : refs (zl P ty v) = [] := by
  unfold zl
  split <;> try rfl
  split <;> rfl
theorem uF : ∀ (vs : List Value) (ts : List TypeId), refs.refss (xc P vs ts) = []
  | [], ts => by cases ts <;> rfl
  | v :: vs, [] => by simp [xc, refs.refss, refs, uF vs []]
  | v :: vs, t :: ts => by simp [xc, refs.refss, n8, uF vs ts]
theorem qc {e : Env} {ty : TypeId} {x : Operand} {r : Nat} (hr : r ∈ refs (opv P e ty x)) : ∃ t, x = .tmp t ∧ r ∈ refs (e t) := by
  cases x with
  | tmp t => exact ⟨t, rfl, hr⟩
  | const v =>
    exfalso
    simp only [opv] at hr
    unfold cst at hr
    split at hr
    · simp [refs, uF] at hr
    · simp [n8] at hr
  | func g => simp [opv, refs] at hr
  | global g => simp [opv, refs] at hr
theorem wk {e : Env} {t r : Nat} (hr : r ∈ refs (e t)) : ∀ {xs : List Operand}, .tmp t ∈ xs → r ∈ zf e xs
  | .tmp t' :: xs, hx => by
    simp only [zf, List.mem_append]
    rcases List.mem_cons.1 hx with h1 | h1
    · cases h1; exact .inl hr
    · exact .inr (wk hr h1)
  | .const _ :: xs, hx => by simp only [zf]; exact wk hr (by simpa using hx)
  | .func _ :: xs, hx => by simp only [zf]; exact wk hr (by simpa using hx)
  | .global _ :: xs, hx => by simp only [zf]; exact wk hr (by simpa using hx)
theorem we {r : Nat} : ∀ (l seen : List Nat), r ∈ yC seen l ↔ r ∈ seen ∨ r ∈ l
  | [], seen => by simp [yC]
  | x :: l, seen => by
    simp only [yC]
    split
    · rename_i hx
      rw [we l seen, List.mem_cons]
      constructor
      · rintro (h | h)
        · exact .inl h
        · exact .inr (.inr h)
      · rintro (h | h | h)
        · exact .inl h
        · subst h; exact .inl hx
        · exact .inr h
    · rw [we l (seen ++ [x])]
      simp only [List.mem_append, List.mem_cons, List.not_mem_nil, or_false]
      constructor
      · rintro ((h | h) | h)
        · exact .inl h
        · exact .inr (.inl h)
        · exact .inr (.inr h)
      · rintro (h | h | h)
        · exact .inl (.inl h)
        · exact .inl (.inr h)
        · exact .inr h
theorem sf {r : Nat} (h : Heap) (n : Nat) (ids : List Nat) (hr : r ∈ ids) : r ∈ reach h n ids := by
  obtain ⟨t, ht⟩ := qK h n ids
  rw [ht]; simp [hr]
theorem nf (h : Heap) : ∀ (n : Nat) (A B : List Nat), (∀ r ∈ A, r ∈ B) → ∀ r ∈ reach h n A, r ∈ reach h n B
  | 0, A, B, hAB, r, hr => hAB r hr
  | n + 1, A, B, hAB, r, hr => by
    simp only [reach] at hr ⊢
    refine nf h n _ _ (fun x hx => ?_) r hr
    rw [we] at hx ⊢
    rcases hx with hx | hx
    · exact .inl (hAB x hx)
    · simp only [List.mem_flatMap] at hx ⊢
      obtain ⟨y, h1, h2⟩ := hx
      exact .inr ⟨y, hAB y h1, h2⟩
theorem tF {h h2 : Heap} : ∀ (n : Nat) (ids : List Nat), (∀ r ∈ reach h n ids, h2[r]? = h[r]?) → reach h2 n ids = reach h n ids
  | 0, ids, ha => rfl
  | n + 1, ids, ha => by
    have e : ids.flatMap (x5 h2) = ids.flatMap (x5 h) := by
      have key : ∀ l : List Nat, (∀ r ∈ l, r ∈ ids) → l.flatMap (x5 h2) = l.flatMap (x5 h) := fun l => by
        induction l with
        | nil => intro _; rfl
        | cons r l ih =>
          intro hl
          have e1 : x5 h2 r = x5 h r := by
            unfold x5
            rw [ha r (sf h (n + 1) ids (hl r (by simp)))]
          simp only [List.flatMap_cons, e1, ih fun r' hr' => hl r' (by simp [hr'])]
      exact key ids fun _ h => h
    simp only [reach] at ha ⊢
    rw [e]
    exact tF n _ ha
/-- what stands in a row of the reach is there a step later -/
theorem eT (h : Heap) (n : Nat) (ids : List Nat) {r r' : Nat} (hr : r ∈ ids) (hr' : r' ∈ x5 h r) : r' ∈ reach h (n + 1) ids := by
  simp only [reach]
  refine sf h n _ ?_
  rw [we]
  exact .inr (List.mem_flatMap.2 ⟨r, hr, hr'⟩)
theorem kc {deep : Bool} {ids : List Nat} {r : Nat} (hr : r ∈ ids) : r ∈ om deep ids h := by
  unfold om
  split
  · exact sf h 3 _ ((we _ _).2 (.inr hr))
  · exact hr
theorem tV {o : Oper} {e : Env} {ty : TypeId} {x : Operand} (hx : x ∈ o.op.operands) {r : Nat} (hr : r ∈ refs (opv P e ty x)) : r ∈ yw N o e h := by
  obtain ⟨t, rfl, h1⟩ := qc hr
  unfold yw
  exact List.mem_append.2 (.inr (kc (wk h1 (by simpa using hx))))
theorem qj {o : Oper} {e : Env} {h2 : Heap} (ha : ∀ r ∈ yw N o e h, h2[r]? = h[r]?) : yw N o e h2 = yw N o e h := by
  unfold yw at ha ⊢
  congr 1
  unfold om at ha ⊢
  split
  · rename_i hd
    refine tF 3 _ fun r hr => ha r ?_
    rw [if_pos hd]
    exact List.mem_append.2 (.inr hr)
  · rfl
theorem ie (v : V) : refs.refss (zb v) = refs v := by
  cases v <;> simp [zb, refs.refss, refs]
theorem rp {sz : Nat} : ∀ {n : Nat} {ps : List (Nat × V)} {css : List (List V)}, wq sz n ps = some css → ∀ r ∈ refs.refss css.flatten, ∃ v, v ∈ ps.map (·.2) ∧ r ∈ refs v
  | n, [], css, hf => by simp only [wq] at hf; cases hf; intro r hr; simp [refs.refss] at hr
  | n, (i, v) :: ps, css, hf => by
    simp only [wq] at hf
    split at hf
    · split at hf
      · rename_i cs hcs
        cases hf
        intro r hr
        simp only [List.flatten_cons, vj, List.mem_append, ie] at hr
        rcases hr with hr | hr
        · exact ⟨v, by simp, hr⟩
        · obtain ⟨v', h1, h2⟩ := rp hcs r hr
          exact ⟨v', by simp at h1 ⊢; exact .inr h1, h2⟩
      · cases hf
    · cases hf
theorem r8 {e : Env} {ty : Nat → TypeId} : ∀ {ps : List (Nat × Operand)} {v : V}, v ∈ (xb P e ty ps).map (·.2) → ∃ x t, x ∈ ps.map (·.2) ∧ v = opv P e t x
  | [], v, hv => by simp [xb] at hv
  | (i, x) :: ps, v, hv => by
    simp only [xb, List.map_cons, List.mem_cons] at hv
    rcases hv with rfl | hv
    · exact ⟨x, _, by simp, rfl⟩
    · obtain ⟨y, t, h1, h2⟩ := r8 hv
      exact ⟨y, t, by simp at h1 ⊢; exact .inr h1, h2⟩
theorem ij {h2 : Heap} {r i j n : Nat} (ha : h2[r]? = h[r]?) : vX h2 r i j n = vX h r i j n := by unfold vX; rw [ha]
theorem Xf {h2 : Heap} {ty : TypeId} {x : V} (ha : ∀ r ∈ refs x, h2[r]? = h[r]?) : load P ty x h2 = load P ty x h := by
  cases x with
  | ptr r i j => simp only [load, ij (ha r (by simp [refs]))]
  | t y => cases y <;> rfl
  | _ => rfl
theorem Ta {h2 : Heap} {ty : TypeId} {x : V} {lo hi mx : Option V} (ha : ∀ r ∈ refs x, h2[r]? = h[r]?) : cut P ty x lo hi mx h2 = cut P ty x lo hi mx h := by
  cases x with
  | sl r off len cap => simp only [cut, ha r (by simp [refs])]
  | t y => cases y <;> rfl
  | _ => rfl
theorem ik {h2 : Heap} {ty : TypeId} {x i : V} (ha : ∀ r ∈ refs x, h2[r]? = h[r]?) : z7 P ty x i h2 = z7 P ty x i h := by
  cases i with
  | t z =>
    cases z with
    | int k n =>
      cases x with
      | sl r off len cap => simp only [z7, ha r (by simp [refs])]
      | t y => cases y <;> rfl
      | _ => rfl
    | _ => rfl
  | _ => rfl
theorem Xv {h2 : Heap} {s d : TypeId} {x : V} (ha : ∀ r ∈ refs x, h2[r]? = h[r]?) : conv P s d x h2 = conv P s d x h := by
  cases x with
  | sl r off len cap => simp only [conv, ha r (by simp [refs])]
  | t y => cases y with
    | list sz es => rcases sz with _ | _ | n <;> rfl
    | _ => rfl
  | _ => rfl
theorem eQ {h2 : Heap} {el tx : TypeId} {x : V} (ha : ∀ r ∈ refs x, h2[r]? = h[r]?) : zc P el tx x h2 = zc P el tx x h := by
  unfold zc
  cases yg P tx with
  | none => rfl
  | some _ =>
    cases x with
    | sl r off len cap => simp only [ha r (by simp [refs])]
    | t y => cases y <;> rfl
    | _ => rfl
theorem X7 (x : V) : refs (unN x) = refs x := by
  unfold unN
  split <;> rfl
theorem aY {h2 : Heap} {el tx : TypeId} {x : V} (ha : ∀ r ∈ refs x, h2[r]? = h[r]?) : j5 P el tx x h2 = j5 P el tx x h := eQ (by rw [X7]; exact ha)
theorem Z2 {h2 : Heap} {v : V} (ha : ∀ r ∈ refs v, h2[r]? = h[r]?) : zi h2 v = zi h v := by
  cases v with
  | sl r off len cap => simp only [zi, zj, ha r (by simp [refs])]
  | _ => rfl
theorem r5 {h2 : Heap} : ∀ {vs : List V}, (∀ r ∈ refs.refss vs, h2[r]? = h[r]?) → xy h2 vs = xy h vs
  | [], _ => rfl
  | v :: vs, ha => by
    simp only [xy]
    rw [Z2 fun r hr => ha r (by simp [refs.refss, hr]), r5 fun r hr => ha r (by simp [refs.refss, hr])]
theorem lj {h2 : Heap} : ∀ {es : List (List V)}, (∀ c ∈ es, ∀ r ∈ refs.refss c, h2[r]? = h[r]?) → vP h2 es = vP h es
  | [], _ => rfl
  | c :: es, ha => by
    simp only [vP]
    rw [r5 (ha c (by simp)), lj fun c' hc' => ha c' (by simp [hc'])]
theorem Z8 {vs ws : List V} (hs : ∀ v ∈ vs, v ∈ ws) : ∀ r ∈ refs.refss vs, r ∈ refs.refss ws := by
  have key : ∀ (l : List V) (r : Nat), r ∈ refs.refss l ↔ ∃ v ∈ l, r ∈ refs v := fun l => by
    induction l with
    | nil => intro r; simp [refs.refss]
    | cons v l ih => intro r; simp [refs.refss, ih]
  intro r hr
  rw [key] at hr ⊢
  obtain ⟨v, h1, h2⟩ := hr
  exact ⟨v, hs v h1, h2⟩
/-- agreement two rows deep -/
def Deep (h h2 : Heap) (A : List Nat) : Prop := ∀ r ∈ A, h2[r]? = h[r]? ∧ ∀ r' ∈ x5 h r, h2[r']? = h[r']?
theorem Z4 {h2 : Heap} {A : List Nat} (ha : Deep h h2 A) {r off len : Nat} (hr : r ∈ A) : zn h2 h2[r]? off len = zn h h[r]? off len := by
  obtain ⟨h1, h3⟩ := ha r hr
  rw [h1]
  unfold zn
  split
  · rfl
  · rfl
  · rename_i sz es hb
    rw [lj fun c hc r' hr' => h3 r' ?_]
    unfold x5
    rw [hb]
    exact List.mem_flatMap.2 ⟨c, List.mem_of_mem_drop (List.mem_of_mem_take hc), hr'⟩
  · rfl
theorem Z6 {h2 : Heap} {A : List Nat} (ha : Deep h h2 A) {r i j : Nat} (hr : r ∈ A) : zo h2 h2[r]? i j = zo h h[r]? i j := by
  obtain ⟨h1, h3⟩ := ha r hr
  rw [h1]
  unfold zo
  split
  · rfl
  · rfl
  · rename_i sz es hb
    cases hes : es[i]? with
    | none => rfl
    | some cs =>
      simp only
      rw [r5 fun r' hr' => h3 r' ?_]
      unfold x5
      rw [hb]
      exact List.mem_flatMap.2 ⟨cs, List.mem_of_getElem? hes, Z8 (fun v hv => List.mem_of_mem_drop hv) r' hr'⟩
  · rfl
mutual
theorem Z3 {h2 : Heap} {A : List Nat} (ha : Deep h h2 A) : ∀ (v : V), (∀ r ∈ refs v, r ∈ A) → zd h2 v = zd h v
  | .sl r off len cap, hr => by simp only [zd]; exact Z4 ha (hr r (by simp [refs]))
  | .ptr r i j, hr => by simp only [zd]; exact Z6 ha (hr r (by simp [refs]))
  | .agg cs, hr => by simp only [zd]; rw [vA ha cs fun r h => hr r (by simpa [refs] using h)]
  | .tup cs, hr => by simp only [zd]; rw [vA ha cs fun r h => hr r (by simpa [refs] using h)]
  | .fn f cs, hr => by simp only [zd]; rw [vA ha cs fun r h => hr r (by simpa [refs] using h)]
  | .t _, _ => rfl
  | .nil _, _ => rfl
  | .o _, _ => rfl
  | .und, _ => rfl
  | .bad, _ => rfl
theorem vA {h2 : Heap} {A : List Nat} (ha : Deep h h2 A) : ∀ (vs : List V), (∀ r ∈ refs.refss vs, r ∈ A) → zd.snapVs h2 vs = zd.snapVs h vs
  | [], _ => rfl
  | v :: vs, hr => by
    simp only [zd.snapVs]
    rw [Z3 ha v fun r h => hr r (by simp [refs.refss, h]), vA ha vs fun r h => hr r (by simp [refs.refss, h])]
end
/-- the rows of a call's arguments are among those that it may touch -/
theorem kE {x : Operand} {args : List Operand} {tys : List TypeId} {e : Env} {g : Nat} {caps : List V} (hf : fnV (opv P e 0 x) = some (g, caps)) : ∀ r ∈ refs.refss (yI P e args tys ++ caps), r ∈ zf e (x :: args) := by
  have hop : ∀ (az : List Operand) (ts : List TypeId), ∀ r ∈ refs.refss (yI P e az ts), r ∈ zf e az := by
    intro az
    induction az with
    | nil => intro ts r hr; simp [yI, refs.refss] at hr
    | cons a az ih =>
      intro ts r hr
      have one : ∀ ty, r ∈ refs (opv P e ty a) → r ∈ zf e (a :: az) := fun ty h1 => by
        obtain ⟨t, rfl, h2⟩ := qc h1
        exact wk h2 (by simp)
      have two : r ∈ zf e az → r ∈ zf e (a :: az) := fun h1 => by cases a <;> simp [zf, h1]
      cases ts with
      | nil =>
        simp only [yI, refs.refss, List.mem_append] at hr
        exact hr.elim (one 0) fun h1 => two (ih [] r h1)
      | cons t ts =>
        simp only [yI, refs.refss, List.mem_append] at hr
        exact hr.elim (one t) fun h1 => two (ih ts r h1)
  intro r hr
  rw [vj] at hr
  rcases List.mem_append.1 hr with h1 | h1
  · have := hop args tys r h1
    cases x <;> simp [zf, this]
  · have hc : r ∈ refs (opv P e 0 x) := by
      unfold fnV at hf
      split at hf
      · cases hf
        exfalso
        have : ∀ l : List T, refs.refss (l.map V.t) = [] := fun l => by induction l with
          | nil => rfl
          | cons a l ih => simp [refs.refss, refs, ih]
        rw [this] at h1; cases h1
      · rename_i g' cs' hx; cases hf; rw [hx]; simpa [refs] using h1
      · cases hf
    obtain ⟨t, rfl, h2⟩ := qc hc
    exact wk h2 (by simp)
theorem ZF {ids : List Nat} {h2 : Heap} (hl : h2.length = h.length) (ha : ∀ r ∈ ids, h2[r]? = h[r]?) : wE ids h2 = wE ids h := by
  funext r
  unfold wE
  split
  · cases hr : ids[r]? with
    | none => rfl
    | some k =>
      have e1 : xe h2 k = xe h k := by unfold xe; rw [ha k (List.mem_of_getElem? hr)]
      simp only [e1]
  · rw [hl]
theorem pI {mp : Nat → Option Nat} {h0 h02 : Heap} {fp : List Nat} : ∀ (ids : List Nat) (bs : Heap) {h h2 : Heap}, (∀ r ∈ ids, r ∈ fp) → (∀ r ∈ ids, h02[r]? = h0[r]?) → h2.length = h.length → (∀ r ∈ fp, h2[r]? = h[r]?) → xw fp h (z6 mp h0 ids bs h) h2 (z6 mp h02 ids bs h2)
  | [], bs, h, h2, _, _, _, ha => by simp only [z6]; exact xw.same ha
  | i :: is, [], h, h2, _, _, _, ha => by simp only [z6]; exact xw.same ha
  | i :: is, b :: bs, h, h2, hs, h0e, hl, ha => by
    simp only [z6]
    have hlive : xe h02 i = xe h0 i := by simp only [xe, h0e i (by simp)]
    rw [hlive]
    have h1 : xw fp h (if xe h0 i = true then h.set i (zB mp b) else h) h2 (if xe h0 i = true then h2.set i (zB mp b) else h2) := by
      split
      · exact xw.set (hs i (by simp)) hl ha _
      · exact xw.same ha
    exact h1.comp (pI is bs (fun r hr => hs r (by simp [hr])) (fun r hr => h0e r (by simp [hr])) (by rw [h1.l3, h1.l1, hl]) h1.on)
theorem kP {ids fp : List Nat} (hsub : ∀ r ∈ ids, r ∈ fp) {h2 : Heap} (hl : h2.length = h.length) (ha : ∀ r ∈ fp, h2[r]? = h[r]?) {i : Nat} {v v' : V} {h1' h1 : Heap} (hb : yN (some i) ids v h1' h = some (v', h1)) :
    ∃ h3, yN (some i) ids v h1' h2 = some (v', h3) ∧ xw fp h h1 h2 h3 := by
  unfold yN at hb ⊢
  split at hb
  · cases hb
  · rename_i hc
    cases hb
    rw [if_neg hc, ZF hl fun r hr => ha r (hsub r hr)]
    simp only [Option.isSome_some, Bool.true_and, Bool.or_eq_true, decide_eq_true_eq, not_or, Nat.not_lt] at hc
    have hd : h1'.drop ids.length = [] := List.drop_of_length_le hc.2
    rw [hd]
    simp only [List.map_nil, List.append_nil]
    exact ⟨_, rfl, pI ids h1' hsub (fun r hr => ha r (hsub r hr)) hl ha⟩
theorem Zc {args : List V} {h2 : Heap} (ha : ∀ r ∈ xg h args, h2[r]? = h[r]?) : xg h2 args = xg h args ∧ yo 0 args h2 = yo 0 args h := by
  have e1 : xg h2 args = xg h args := tF 3 _ ha
  refine ⟨e1, ?_⟩
  have e2 : reach h2 3 (yC (List.range 0) (refs.refss args)) = reach h 3 (yC (List.range 0) (refs.refss args)) := e1
  unfold yo
  rw [e2]
  simp only [Prod.mk.injEq, true_and]
  refine List.map_congr_left fun r hr => ?_
  rw [ha r hr]
theorem lH {o : Oper} (hn : yB pol f o = true) {e : Env} {v : V} {h' : Heap} (hev : yc P pol rec f N o e h = some (v, h')) : h' = h := by
  obtain ⟨dst, op, ty, pos, after, guard⟩ := o
  cases op with
  | call c =>
    obtain ⟨callee, args, tys⟩ := c
    cases callee with
    | builtin b =>
      simp only [yc] at hev
      cases b <;> simp only [yB, Bool.false_eq_true] at hn <;> simp only [blt] at hev
      all_goals (repeat' split at hev)
      all_goals first | (cases hev; done) | (cases hev; rfl) | (rename_i hh; cases hh; done) | (rename_i hh _; cases hh; done) | contradiction
    | value x =>
      simp only [yB] at hn
      simp only [yc, wO] at hev
      cases hp : pol.pm f (dst.getD 0) with
      | frz => simp [hp] at hn
      | opn gv => simp [hp] at hn
      | _ =>
        simp only [hp] at hev
        (repeat' split at hev) <;> first | (cases hev; done) | (cases hev; rfl)
    | invoke r m => simp [yB] at hn
  | _ =>
    first
      | (simp [yB] at hn; done)
      | (simp only [yc] at hev; (repeat' split at hev) <;> first | (cases hev; done) | (cases hev; rfl))
theorem gQ {o : Oper} (hn : yB pol f o = true) {e : Env} {h2 : Heap} (ha : ∀ r ∈ yw N o e h, h2[r]? = h[r]?) {v : V} (hev : yc P pol rec f N o e h = some (v, h)) : yc P pol rec f N o e h2 = some (v, h2) := by
  have hx : ∀ {x : Operand} {ty : TypeId}, x ∈ o.op.operands → ∀ r ∈ refs (opv P e ty x), h2[r]? = h[r]? := fun hx r hr => ha r (tV hx hr)
  obtain ⟨dst, op, ty, pos, after, guard⟩ := o
  cases op with
  | load t a =>
    simp only [yc] at hev ⊢
    rw [Xf (hx (by simp [Op.operands]))]
    split at hev
    · cases hev; rfl
    · cases hev
  | slice t x lo hi mx =>
    simp only [yc] at hev ⊢
    rw [Ta (hx (by simp [Op.operands]))]
    split at hev
    · cases hev; rfl
    · cases hev
  | indexAddr t x i =>
    simp only [yc] at hev ⊢
    rw [ik (hx (by simp [Op.operands]))]
    split at hev
    · cases hev; rfl
    · cases hev
  | convert s d x =>
    simp only [yc] at hev ⊢
    rw [Xv (hx (by simp [Op.operands]))]
    split at hev
    · cases hev; rfl
    · cases hev
  | call c =>
    obtain ⟨callee, args, tys⟩ := c
    cases callee with
    | builtin b =>
      simp only [yc] at hev ⊢
      cases b <;> simp only [yB, Bool.false_eq_true] at hn <;> simp only [blt] at hev ⊢
      all_goals (repeat' split at hev)
      all_goals first | (cases hev; done) | (cases hev; simp_all; done) | (rename_i hk hc; cases hev; rw [if_pos hk, if_neg hc]; done) | (rename_i hk hc; cases hev; rw [if_pos hk, if_pos hc]; done) | (rename_i hh; cases hh; done) | (rename_i hh _; cases hh; done) | contradiction
    | value x =>
      have hdeep : pg ⟨dst, .call ⟨.value x, args, tys⟩, ty, pos, after, guard⟩ = true → Deep h h2 (zf e (x :: args.toList)) := fun hd r hr => by
        have ha' : ∀ k ∈ reach h 3 (yC [] (zf e (x :: args.toList))), h2[k]? = h[k]? := fun k hk => by
          refine ha k ?_
          unfold yw om
          rw [if_pos hd]
          refine List.mem_append.2 (.inr ?_)
          simpa [Op.operands, Call.operands] using hk
        have hr' : r ∈ yC [] (zf e (x :: args.toList)) := (we _ _).2 (.inr hr)
        exact ⟨ha' r (sf h 3 _ hr'), fun r' h1 => ha' r' (eT h 2 _ hr' h1)⟩
      simp only [yB] at hn
      simp only [yc, wO] at hev ⊢
      cases hp : pol.pm f (dst.getD 0) with
      | frz => simp [hp] at hn
      | opn gv => simp [hp] at hn
      | brw => simp [hp] at hn
      | pure =>
        simp only [hp] at hev ⊢
        split at hev
        · rename_i g caps hg
          rw [vA (hdeep (by simp [pg])) _ (kE hg)]
          (repeat' split at hev) <;> first | (cases hev; done) | (cases hev; simp_all; done)
        · cases hev
    | invoke r m => simp [yB] at hn
  | _ =>
    first
      | (simp [yB] at hn; done)
      | (simp only [yc] at hev ⊢; (repeat' split at hev) <;> first | (cases hev; done) | (cases hev; simp_all; done) | (cases hev; rfl))
theorem UR {o : Oper} (hn : xK pol f o = true) {i : Nat} {e : Env} {h1 h2 : Heap} (hl : h2.length = h.length) (ha : ∀ r ∈ yw (some i) o e h, h2[r]? = h[r]?) {v : V} (hev : yc P pol rec f (some i) o e h = some (v, h1)) :
    ∃ h3, yc P pol rec f (some i) o e h2 = some (v, h3) ∧ xw (yw (some i) o e h) h h1 h2 h3 := by
  have hx : ∀ {x : Operand} {ty : TypeId}, x ∈ o.op.operands → ∀ r ∈ refs (opv P e ty x), r ∈ yw (some i) o e h := fun hx r hr => tV hx hr
  have hi : i ∈ yw (some i) o e h := by simp [yw]
  obtain ⟨dst, op, ty, pos, after, guard⟩ := o
  cases op with
  | alloc t =>
    simp only [yc, nI, nH] at hev ⊢
    split at hev
    · split at hev
      · cases hev
      · rename_i zs hz hemp
        cases hev
        simp only [hemp]
        exact ⟨_, rfl, xw.set hi hl ha _⟩
    · cases hev
  | box t x =>
    simp only [yc, nI, nH] at hev ⊢
    split at hev
    · cases hev
    · rename_i hc
      cases hev
      rw [if_neg hc]
      exact ⟨_, rfl, xw.set hi hl ha _⟩
  | makeSlice t l c =>
    simp only [yc, nI, nH] at hev ⊢
    split at hev
    · split at hev
      · split at hev
        · split at hev
          · cases hev
          · rename_i hc
            cases hev
            simp only [*]
            exact ⟨_, rfl, xw.set hi hl ha _⟩
        · cases hev
      · cases hev
    · cases hev
  | buildSlice t len parts =>
    simp only [yc, nI, nH] at hev ⊢
    split at hev
    · rename_i el hel
      split at hev
      · cases hev
      · rename_i hc
        split at hev
        · rename_i css hf
          split at hev
          · rename_i es h' hg
            cases hev
            obtain ⟨h3, k1, k2⟩ := rm hl (fun r hr => by
              obtain ⟨v, v1, v2⟩ := rp hf r hr
              obtain ⟨x, t', x1, rfl⟩ := r8 v1
              exact hx (by simp only [Op.operands, List.mem_toArray]; exact x1) r v2) ha hg
            rw [if_neg hc]
            simp only [k1]
            exact ⟨_, rfl, k2.comp (xw.set hi (by rw [k2.l3, k2.l1, hl]) k2.on _)⟩
          · cases hev
        · cases hev
    · cases hev
  | call c =>
    obtain ⟨callee, args, tys⟩ := c
    cases callee with
    | builtin b =>
      cases b with
      | append =>
        simp only [yc] at hev ⊢
        have hops : ∀ x ∈ args.toList, x ∈ (Op.call ⟨.builtin .append, args, tys⟩).operands := fun x hx => by simpa [Op.operands, Call.operands] using hx
        generalize args.toList = al at hev hops ⊢
        generalize tys.toList = tl at hev ⊢
        have two : ∃ a b t u, yI P e al tl = [opv P e t a, opv P e u b] ∧ a ∈ al ∧ b ∈ al := by
          match al, tl with
          | [a, b], [t, u] => exact ⟨a, b, t, u, rfl, by simp, by simp⟩
          | [a, b], [t] => exact ⟨a, b, t, 0, rfl, by simp, by simp⟩
          | [a, b], [] => exact ⟨a, b, 0, 0, rfl, by simp, by simp⟩
          | [a, b], t :: u :: _ :: _ => exact ⟨a, b, t, u, rfl, by simp, by simp⟩
          | [], _ => simp [yI, blt] at hev
          | [_], [] => simp [yI, blt] at hev
          | [_], _ :: _ => simp [yI, blt] at hev
          | _ :: _ :: _ :: _, [] => simp [yI, blt] at hev
          | _ :: _ :: _ :: _, [_] => simp [yI, blt] at hev
          | _ :: _ :: _ :: _, [_, _] => simp [yI, blt] at hev
          | _ :: _ :: _ :: _, _ :: _ :: _ :: _ => simp [yI, blt] at hev
        obtain ⟨a, b, t, u, e1, ha1, hb1⟩ := two
        rw [e1] at hev ⊢
        have hra := hx (ty := t) (hops a ha1)
        have hrb := hx (ty := u) (hops b hb1)
        generalize opv P e t a = s at hev hra ⊢
        generalize opv P e u b = x at hev hrb ⊢
        simp only [blt] at hev ⊢
        split at hev
        rotate_left
        · cases hev
        · unfold app at hev ⊢
          split at hev
          · cases hev
          · rename_i el hel
            rw [aY (h := h) fun r hr => ha r (hrb r hr)]
            split at hev
            · cases hev
            · rename_i xs hsrc
              split at hev
              · split at hev
                · rename_i hc
                  cases hev
                  exact ⟨_, if_pos hc, xw.set hi hl ha _⟩
                · cases hev
              · rename_i r off len cap
                have hr : r ∈ yw (some i) ⟨dst, .call ⟨.builtin .append, args, tys⟩, ty, pos, after, guard⟩ e h := hra r (by simp [refs])
                simp only [ha r hr]
                split at hev
                · split at hev
                  · rename_i hc
                    cases hev
                    exact ⟨_, if_pos hc, (xw.set hr hl ha _).comp (xw.set hi (by simp [hl]) (xw.set hr hl ha _).on _)⟩
                  · cases hev
                · cases hev
              · cases hev
      | _ => simp [xK] at hn
    | value x =>
      simp only [xK] at hn
      cases hp : pol.pm f (dst.getD 0) with
      | opn gv =>
        simp only [yc, wO, hp] at hev ⊢
        split at hev
        · rename_i g caps hg
          have hsub : ∀ r ∈ xg h (yI P e args.toList tys.toList ++ caps), r ∈ yw (some i) ⟨dst, .call ⟨.value x, args, tys⟩, ty, pos, after, guard⟩ e h := fun r hr => by
            unfold yw om
            rw [if_pos (by simp [pg])]
            refine List.mem_append.2 (.inr (nf h 3 _ _ (fun k hk => ?_) r hr))
            rw [we] at hk ⊢
            rcases hk with hk | hk
            · cases hk
            · exact .inr (by simpa [Op.operands, Call.operands] using kE hg k hk)
          obtain ⟨p1, p2⟩ := Zc (h2 := h2) fun r hr => ha r (hsub r hr)
          rw [p2]
          split at hev
          · rename_i v' h1' hr
            rw [p1]
            exact kP hsub hl ha hev
          · cases hev
        · cases hev
      | _ => simp [hp] at hn
    | invoke r m => simp [xK] at hn
  | _ => simp [xK] at hn
theorem oB {e : Env} {dst : Option Nat} {v : V} {t : Nat} (h : dst ≠ some t) : put e dst v t = e t := by
  cases dst with
  | none => rfl
  | some d => simp only [put, upd]; rw [if_neg]; intro he; exact h (by rw [he])
theorem gw (e : Env) {x y : Option Nat} (v u : V) (h : ∀ d, x = some d → y ≠ some d) : put (put e x v) y u = put (put e y u) x v := by
  funext t
  cases x with
  | none => rfl
  | some d =>
    cases y with
    | none => rfl
    | some d' =>
      have hne : d ≠ d' := fun e => h d rfl (by rw [e])
      simp only [put, upd]
      by_cases h1 : t = d'
      · subst h1; simp [Ne.symm hne]
      · simp [h1]
theorem sx {b : Blk} {r : Nat} (hd : h[r]? = some .dead) (hne : N ≠ some r) : (nH N h b)[r]? = some .dead := by
  cases N with
  | none => simp only [nH]; rw [List.getElem?_append_left (List.getElem?_eq_some_iff.1 hd).1]; exact hd
  | some i =>
    simp only [nH]
    rw [List.getElem?_set_ne (fun e : i = r => hne (by rw [e]))]
    exact hd
theorem nU {b b' : Blk} {r k : Nat} (hd : h[k]? = some .dead) (hb : h[r]? = some b) (hn : b ≠ .dead) : (h.set r b')[k]? = some .dead := by
  rw [List.getElem?_set_ne (fun e : r = k => by subst e; rw [hd] at hb; cases hb; exact hn rfl)]
  exact hd
theorem kN {r i j : Nat} {vs : List V} {h' : Heap} (hs : uZ h r i j vs = some h') {k : Nat} (hd : h[k]? = some .dead) : h'[k]? = some .dead := by
  unfold uZ at hs
  split at hs
  · rename_i sz es hb
    split at hs
    · split at hs
      · cases hs; exact nU hd hb (by simp)
      · cases hs
    · cases hs
  · rename_i sz es hb
    split at hs
    · split at hs
      · split at hs
        · rename_i xs h2 hg
          split at hs
          · rename_i sz' es' hb'
            cases hs
            unfold sG at hg
            split at hg
            · rename_i ys h3 h3e
              split at hg
              · cases hg; exact nU ((wH vs h3e).2 k hd) hb' (by simp)
              · cases hg
            · cases hg
          · cases hs
        · cases hs
      · cases hs
    · cases hs
  · cases hs
theorem W2 {ty tx : TypeId} {s x v : V} {h' : Heap} (hc : app P N ty tx s x h = some (v, h')) {k : Nat} (hd : h[k]? = some .dead) (hne : N ≠ some k) : h'[k]? = some .dead := by
  unfold app at hc
  split at hc
  · cases hc
  · split at hc
    · cases hc
    · split at hc
      · split at hc
        · cases hc; exact sx hd hne
        · cases hc
      · split at hc
        · rename_i sz es hb
          split at hc
          · cases hc; exact sx (nU hd hb (by simp)) hne
          · cases hc
        · cases hc
      · cases hc
theorem XV {b : Builtin} {tys : List TypeId} {args : List V} {v : V} {h' : Heap} (hc : blt P N b tys args h = some (v, h')) {k : Nat} (hd : h[k]? = some .dead) (hne : N ≠ some k) : h'[k]? = some .dead := by
  unfold blt at hc
  split at hc
  · split at hc
    · split at hc
      · cases hc; exact hd
      · cases hc
    · cases hc
  · split at hc
    · exact W2 hc hd hne
    · cases hc
  · split at hc
    · cases hc; exact hd
    · cases hc
  · split at hc
    · cases hc; exact hd
    · cases hc
  · cases hc
theorem mV {ids : List Nat} {v v' : V} {h1 h' : Heap} (hb : yN N ids v h1 h = some (v', h')) {k : Nat} (hd : h[k]? = some .dead) : h'[k]? = some .dead := by
  unfold yN at hb
  split at hb
  · cases hb
  · cases hb
    have hk := (List.getElem?_eq_some_iff.1 hd).1
    rw [List.getElem?_append_left (by rw [yT]; exact hk), wQ _ _ _ _ _ fun _ => by simp [xe, hd]]
    exact hd
theorem Zq {o : Oper} {e : Env} {v : V} {h' : Heap} (hev : yc P pol rec f N o e h = some (v, h')) {k : Nat} (hd : h[k]? = some .dead) (hne : N ≠ some k) : h'[k]? = some .dead := by
  obtain ⟨dst, op, ty, pos, after, guard⟩ := o
  cases op with
  | alloc t =>
    simp only [yc] at hev
    (repeat' split at hev) <;> first | (cases hev; done) | (cases hev; exact sx hd hne)
  | box t x =>
    simp only [yc] at hev
    (repeat' split at hev) <;> first | (cases hev; done) | (cases hev; exact sx hd hne)
  | makeSlice t l c =>
    simp only [yc] at hev
    (repeat' split at hev) <;> first | (cases hev; done) | (cases hev; exact sx hd hne)
  | makeFunc fn first caps =>
    simp only [yc] at hev
    cases fn with
    | func g => simp only at hev; split at hev <;> first | (cases hev; done) | (cases hev; exact hd)
    | _ => cases hev
  | buildSlice t len parts =>
    simp only [yc] at hev
    split at hev
    · split at hev
      · cases hev
      · split at hev
        · split at hev
          · rename_i es h1 hg
            cases hev
            exact sx ((tH hg).2 k hd) hne
          · cases hev
        · cases hev
    · cases hev
  | store t a x =>
    simp only [yc] at hev
    split at hev
    · rename_i h1 hs
      cases hev
      unfold store at hs
      split at hs
      · split at hs
        · exact kN hs hd
        · cases hs
      · cases hs
    · cases hev
  | call c =>
    obtain ⟨callee, args, tys⟩ := c
    cases callee with
    | builtin b => simp only [yc] at hev; exact XV hev hd hne
    | value x =>
      simp only [yc] at hev
      split at hev
      · rename_i g caps hg
        unfold wO at hev
        split at hev
        · split at hev
          · split at hev
            · cases hev; exact hd
            · cases hev
          · split at hev
            · split at hev
              · split at hev
                · cases hev; exact hd
                · cases hev
              · cases hev
            · cases hev
        · split at hev
          · rename_i az h1 hgv
            split at hev
            · cases hev; exact (wH _ hgv).2 k hd
            · cases hev
          · cases hev
        · split at hev
          · exact mV hev hd
          · cases hev
        · cases hev
      · cases hev
    | invoke r m => simp [yc] at hev
  | _ =>
    first
      | (simp [yc] at hev; done)
      | (simp only [yc] at hev; (repeat' split at hev) <;> first | (cases hev; done) | (cases hev; exact hd))
def ev1 (P : Program) (pol : Pol) (rec : Rec) (f : Nat) (N : Option Nat) (ops : Array Oper) (o : Oper) (e : Env) (h : Heap) : Option (V × Heap) :=
  match want ops o e with
  | some true => yc P pol rec f N o e h
  | some false => some (.und, h)
  | none => none
theorem kn (o : Oper) (e : Env) : tq P pol rec f N ops o e h = match ev1 P pol rec f N ops o e h with | some (v, h') => some (put e o.dst v, h') | none => none := by
  unfold tq ev1
  cases want ops o e with
  | none => rfl
  | some b => cases b with
    | false => rfl
    | true => simp only; cases yc P pol rec f N o e h <;> rfl
theorem qV {o : Oper} (hn : soft pol f o = true) {e e' : Env} (hs : wP ops o e e') : ev1 P pol rec f N ops o e h = ev1 P pol rec f N ops o e' h := by
  unfold ev1; rw [oO hs, rq hn hs]
theorem mu {o : Oper} (hn : yB pol f o = true) {e : Env} {v : V} {h' : Heap} (hev : ev1 P pol rec f N ops o e h = some (v, h')) : h' = h := by
  unfold ev1 at hev
  split at hev
  · exact lH hn hev
  · cases hev; rfl
  · cases hev
theorem Xr {o : Oper} {e : Env} {v : V} {h' : Heap} (hev : ev1 P pol rec f N ops o e h = some (v, h')) {k : Nat} (hd : h[k]? = some .dead) (hne : N ≠ some k) : h'[k]? = some .dead := by
  unfold ev1 at hev
  split at hev
  · exact Zq hev hd hne
  · cases hev; exact hd
  · cases hev
theorem oH {o : Oper} (hs : soft pol f o = true) (hN : xK pol f o = true → N.isSome = true) {e : Env} {h1 h2 : Heap} (hl : h2.length = h.length) (ha : ∀ r ∈ yw N o e h, h2[r]? = h[r]?) {v : V} (hev : ev1 P pol rec f N ops o e h = some (v, h1)) :
    ∃ h3, ev1 P pol rec f N ops o e h2 = some (v, h3) ∧ xw (yw N o e h) h h1 h2 h3 := by
  unfold ev1 at hev ⊢
  split at hev
  · rcases oU hs with hn | hn
    · have := lH hn hev
      subst this
      exact ⟨h2, gQ hn ha hev, xw.same ha⟩
    · obtain ⟨i, hi⟩ := Option.isSome_iff_exists.1 (hN hn)
      subst hi
      exact UR hn hl ha hev
  · cases hev; exact ⟨h2, rfl, xw.same ha⟩
  · cases hev
theorem Xs {xs ys : List Nat} (hd : TO xs ys = true) : ∀ r ∈ xs, r ∉ ys := fun r hr => by
  have := List.all_eq_true.1 hd r hr
  simpa using this
theorem Xq {a b : Oper} {Na Nb : Option Nat} (ha : soft pol f a = true) (hb : soft pol f b = true) (hNa : xK pol f a = true → Na.isSome = true) (hNb : xK pol f b = true → Nb.isSome = true) (hap : a.apart ops b = true) {e : Env} {va vb : V} {h1 h2 : Heap}
    (hc : (yB pol f a = true ∧ yB pol f b = true) ∨ TO (yw Na a e h) (yw Nb b (put e a.dst va) h1) = true)
    (h1e : ev1 P pol rec f Na ops a e h = some (va, h1)) (h2e : ev1 P pol rec f Nb ops b (put e a.dst va) h1 = some (vb, h2)) :
    ∃ h3, ev1 P pol rec f Nb ops b e h = some (vb, h3) ∧ ev1 P pol rec f Na ops a (put e b.dst vb) h3 = some (va, h2) ∧ yw Nb b e h = yw Nb b (put e a.dst va) h1 ∧ yw Na a (put e b.dst vb) h3 = yw Na a e h := by
  obtain ⟨k1, k2, k3⟩ := Oper.apart_spec hap
  have s1 : wP ops b (put e a.dst va) e := fun t ht => oB fun hx => k1 t hx ht
  have s2 : wP ops a (put e b.dst vb) e := fun t ht => oB fun hx => k3 t hx ht
  rw [qV hb s1] at h2e
  rw [wg s1] at hc ⊢
  rcases hc with ⟨hna, hnb⟩ | hd
  · have e1 := mu hna h1e
    subst e1
    have e2 := mu hnb h2e
    subst e2
    exact ⟨h2, h2e, by rw [qV ha s2]; exact h1e, rfl, wg s2⟩
  · have hd1 := Xs hd
    obtain ⟨_, f1e, f1⟩ := oH ha hNa rfl (fun _ _ => rfl) h1e
    rw [h1e] at f1e; cases f1e
    obtain ⟨_, f2e, f2⟩ := oH hb hNb rfl (fun _ _ => rfl) h2e
    rw [h2e] at f2e; cases f2e
    have agB : ∀ r ∈ yw Nb b e h1, h[r]? = h1[r]? := fun r hr => (f1.off1 r fun x => hd1 r x hr).symm
    obtain ⟨h3, g1, g2⟩ := oH hb hNb (h2 := h) f1.l1.symm agB h2e
    have agA : ∀ r ∈ yw Na a e h, h3[r]? = h[r]? := fun r hr => g2.off3 r (hd1 r hr)
    obtain ⟨h4, g3, g4⟩ := oH ha hNa (h2 := h3) g2.l3 agA h1e
    refine ⟨h3, g1, ?_, qj agB, (wg s2).trans (qj agA)⟩
    rw [qV ha s2, g3]
    have : h4 = h2 := by
      apply List.ext_getElem?
      intro r
      by_cases hra : r ∈ yw Na a e h
      · rw [g4.on r hra, f2.off1 r (hd1 r hra)]
      · rw [g4.off3 r hra]
        by_cases hrb : r ∈ yw Nb b e h1
        · rw [g2.on r hrb]
        · rw [g2.off3 r hrb, f2.off1 r hrb, f1.off1 r hra]
    rw [this]
def evN (P : Program) (pol : Pol) (rec : Rec) (f : Nat) (ops : Array Oper) (Ns : Nat → Option Nat) (fp : Nat → List Nat) : List Nat → Env → Heap → Option (Env × Heap)
  | [], e, h => some (e, h)
  | i :: rest, e, h => match ops[i]? with
    | some o => if yw (Ns i) o e h = fp i then (match ev1 P pol rec f (Ns i) ops o e h with
      | some (v, h') => evN P pol rec f ops Ns fp rest (put e o.dst v) h'
      | none => none) else none
    | none => none
/-- two places that may change -/
def Chg (pol : Pol) (f : Nat) (ops : Array Oper) (fp : Nat → List Nat) (i j : Nat) : Prop :=
  ∀ oi oj, ops[i]? = some oi → ops[j]? = some oj → oi.apart ops oj = true ∧ soft pol f oi = true ∧ soft pol f oj = true ∧ ((yB pol f oi = true ∧ yB pol f oj = true) ∨ TO (fp i) (fp j) = true)
theorem kr {Ns : Nat → Option Nat} {fp : Nat → List Nat} (hNs : ∀ i o, ops[i]? = some o → xK pol f o = true → (Ns i).isSome = true) {i : Nat} (B : List Nat) : ∀ (A : List Nat), (∀ j ∈ A, Chg pol f ops fp j i) → ∀ {h : Heap} {e : Env} {r : Env × Heap},
    evN P pol rec f ops Ns fp (A ++ i :: B) e h = some r → evN P pol rec f ops Ns fp (i :: (A ++ B)) e h = some r
  | [], _, h, e, r, hev => hev
  | j :: A, hA, h, e, r, hev => by
    simp only [List.cons_append, evN] at hev
    split at hev
    · rename_i oj hoj
      split at hev
      · rename_i hfj
        split at hev
        · rename_i va h1 h1e
          have h2 := kr hNs B A (fun k hk => hA k (by simp [hk])) hev
          simp only [evN] at h2
          split at h2
          · rename_i oi hoi
            split at h2
            · rename_i hfi
              split at h2
              · rename_i vb h2' h2e
                obtain ⟨c1, c2, c3, c4⟩ := hA j (by simp) oj oi hoj hoi
                obtain ⟨k1, k2, k3⟩ := Oper.apart_spec c1
                obtain ⟨h3, g1, g2, g3, g4⟩ := Xq c2 c3 (hNs j oj hoj) (hNs i oi hoi) c1 (by rw [hfj, hfi]; exact c4) h1e h2e
                have f1 : yw (Ns i) oi e h = fp i := by rw [g3]; exact hfi
                have f2 : yw (Ns j) oj (put e oi.dst vb) h3 = fp j := by rw [g4]; exact hfj
                simp only [evN, hoi, f1, if_true, g1, List.cons_append, hoj, f2, g2]
                rw [← gw e va vb k2]
                exact h2
              · cases h2
            · cases h2
          · cases h2
        · cases hev
      · cases hev
    · cases hev
theorem vC (hp : oC ops = true) {j : Nat} {oj : Oper} (hj : ops[j]? = some oj) : (∀ e ∈ oj.after, Region.binds .any e = true → e.on < j) ∧
    ∀ i oi, i < j → ops[i]? = some oi → (∀ e ∈ oj.after, Region.binds .any e = true → e.on ≠ i) → oi.apart ops oj = true := by
  have hlt : j < ops.size := (Array.getElem?_eq_some_iff.1 hj).1
  have h1 := List.all_eq_true.1 hp j (List.mem_range.2 hlt)
  simp only [hj, Bool.and_eq_true, Array.all_eq_true_iff_forall_mem, List.all_eq_true, List.mem_range] at h1
  refine ⟨fun e he hb => ?_, fun i oi hi hoi hno => ?_⟩
  · have := h1.1 e he
    simpa [hb] using this
  · have := h1.2 i hi
    simp only [hoi, Bool.or_eq_true] at this
    rcases this with h2 | h2
    · obtain ⟨e, he, hb⟩ := Array.any_eq_true'.1 h2
      simp only [Bool.and_eq_true, beq_iff_eq] at hb
      exact absurd hb.2 (hno e he hb.1)
    · exact h2
theorem Sr {z : Nat → Prop} {M : Option Nat} (hS : St w F ρ Ow h) : St w F ρ ⟨Ow.b, z, M⟩ h := ⟨fun r b hr => by have := hS.blk r b hr; cases b <;> exact this, hS.inj, hS.fsz, hS.out, hS.own.imp fun φ k => ⟨k.cell, k.act, k.sep, k.apart⟩⟩
theorem Sh {z : Nat → Prop} {M : Option Nat} (hS : St w F ρ ⟨Ow.b, z, M⟩ h) : St w F ρ Ow h := ⟨fun r b hr => by have := hS.blk r b hr; cases b <;> exact this, hS.inj, hS.fsz, hS.out, hS.own.imp fun φ k => ⟨k.cell, k.act, k.sep, k.apart⟩⟩
theorem UO {z : Nat → Prop} {M : Option Nat} {w' : World} {F' : Nat → Prop} {ρ' : ym} (hO : OkC Ow w) (hN : Nxt ⟨Ow.b, z, M⟩ w F ρ w' F' ρ') : Nxt Ow w F ρ w' F' ρ' :=
  ⟨hN.os, hN.tape, hN.output, hN.size, hN.keep, hN.agree, hN.grow, hN.new, hN.ext, fun r hr => absurd hr (hO.z r)⟩
/-- one waits for another, by some steps -/
inductive Path (ops : Array Oper) (i : Nat) : Nat → Prop
  | dir {j : Nat} {oj : Oper} {e : Edge} (hj : ops[j]? = some oj) (he : e ∈ oj.after) (hb : Region.binds .any e = true) (h : e.on = i) : Path ops i j
  | via {j : Nat} {oj : Oper} {e : Edge} (hj : ops[j]? = some oj) (he : e ∈ oj.after) (hb : Region.binds .any e = true) (h : Path ops i e.on) : Path ops i j
theorem jj {i : Nat} : ∀ (n j : Nat), eB ops n i j = true → Path ops i j
  | 0, j, h => by cases h
  | n + 1, j, h => by
    unfold eB at h
    split at h
    · rename_i oj hj
      obtain ⟨e, he, hb⟩ := Array.any_eq_true'.1 h
      simp only [Bool.and_eq_true, Bool.or_eq_true, beq_iff_eq] at hb
      rcases hb.2 with h1 | h1
      · exact .dir hj he hb.1 h1
      · exact .via hj he hb.1 (jj n e.on h1)
    · cases h
theorem pz {listed : Array Bool} (hcl : ∀ k ok, listed.getD k false = true → ops[k]? = some ok → ∀ ed ∈ ok.after, Region.binds .any ed = true → listed.getD ed.on false = true) {i x : Nat} (hp : Path ops i x) :
    (∀ ox, ops[x]? = some ox → ∀ ed ∈ ox.after, Region.binds .any ed = true → listed.getD ed.on false = true) → listed.getD i false = true := by
  induction hp with
  | dir hj he hb h => intro hx; rw [← h]; exact hx _ hj _ he hb
  | via hj he hb h ih => intro hx; exact ih (fun ox hox ed hed hbd => hcl _ ox (hx _ hj _ he hb) hox ed hed hbd)
theorem U9 {W0 : World} (hrec : xY P W0 rec) {n : Nat} (hdst : qE n ops = true) (hpairs : oC ops = true) {Ns : Nat → Option Nat} {fp : Nat → List Nat} (hNs : ∀ i o, ops[i]? = some o → xK pol f o = true → (Ns i).isSome = true)
    (hinj : ∀ i j r, Ns i = some r → Ns j = some r → i = j)
    (hchg : ∀ i j oj, i < j → ops[j]? = some oj → ¬ Path ops i j → Chg pol f ops fp i j) {Q : Exit → Act → World → Prop} :
    ∀ (fuel : Nat) (R : List Nat) (listed : Array Bool) {w : World} {F : Nat → Prop} {ρ : ym} {h : Heap} {e e' : Env} {h' : Heap} {a : Act}, R.length = fuel → R.Pairwise (· < ·) → listed.size = ops.size → (∀ i, i ∈ R ↔ i < ops.size ∧ listed.getD i true = false) →
      (∀ i ∈ R, ∀ r, Ns i = some r → h[r]? = some .dead ∧ ρ r = none) →
      (∀ k ok, listed.getD k false = true → ops[k]? = some ok → ∀ ed ∈ ok.after, Region.binds .any ed = true → listed.getD ed.on false = true) →
      evN P pol rec f ops Ns fp R e h = some (e', h') → v7 W0 w F → St w F ρ Ow h → OkC Ow w → RE w F ρ a e → a.tmps.size = n → a.defers = [] → rD Ow w F ρ n e' h' (Q .normal) → wpAny P .any ops Q fuel listed a w := by
  intro fuel
  induction fuel with
  | zero =>
    intro R listed w F ρ h e e' h' a hl hs hsz hR hdead hcl hev hB hS hO he hn hd hK
    have : R = [] := List.eq_nil_of_length_eq_zero hl
    subst this
    simp only [evN] at hev
    cases hev
    refine ⟨?_, hK a w F ρ he hS (Nxt.refl _ _ _ _) hn hd⟩
    apply List.eq_nil_iff_forall_not_mem.2
    intro j hj
    obtain ⟨hju, oj, hoj, _⟩ := mem_ready.1 hj
    have := (hR j).2 ⟨(Array.getElem?_eq_some_iff.1 hoj).1, hju⟩
    cases this
  | succ fuel ih =>
    intro R listed w F ρ h e e' h' a hl hs hsz hR hdead hcl hev hB hS hO he hn hd hK
    refine ⟨fun hnil => ?_, fun i hi => ?_⟩
    · exfalso
      cases R with
      | nil => simp at hl
      | cons j R =>
        obtain ⟨hj1, hj2⟩ := (hR j).1 (by simp)
        obtain ⟨oj, hoj⟩ : ∃ o, ops[j]? = some o := ⟨_, Array.getElem?_eq_getElem hj1⟩
        have : j ∈ Region.ready .any ops listed := mem_ready.2 ⟨hj2, oj, hoj, fun ed hed hb => by
          have hlt := (vC hpairs hoj).1 ed hed hb
          cases hx : listed.getD ed.on false with
          | true => rfl
          | false =>
            have hx' : listed.getD ed.on true = false := by
              simp only [Array.getD_eq_getD_getElem?] at hx ⊢
              have hin : ed.on < listed.size := by omega
              simp [hin] at hx ⊢; exact hx
            have := (hR ed.on).2 ⟨by omega, hx'⟩
            rcases List.mem_cons.1 this with h1 | h1
            · omega
            · have := (List.pairwise_cons.1 hs).1 _ h1; omega⟩
        rw [hnil] at this
        cases this
    · obtain ⟨hiu, oi, hoi, hall'⟩ := mem_ready.1 hi
      have hmem := (hR i).2 ⟨(Array.getElem?_eq_some_iff.1 hoi).1, hiu⟩
      obtain ⟨A, B, rfl⟩ := List.append_of_mem hmem
      have hpw := List.pairwise_append.1 hs
      have hnA : i ∉ A := fun h1 => by have := hpw.2.2 i h1 i (by simp); omega
      have hnB : i ∉ B := fun h1 => by have := (List.pairwise_cons.1 hpw.2.1).1 i h1; omega
      have hfront := kr (P := P) (rec := rec) hNs B A (fun j hj => by
        obtain ⟨hj1, hj2⟩ := (hR j).1 (by simp [hj])
        refine hchg j i oi (hpw.2.2 j hj i (by simp)) hoi fun hpt => ?_
        have h1 := pz hcl hpt fun ox hox ed hed hb => by
          rw [hoi] at hox; cases hox; exact hall' ed hed hb
        simp only [Array.getD_eq_getD_getElem?] at h1 hj2
        have hin : j < listed.size := by omega
        simp [hin] at h1 hj2
        rw [hj2] at h1; cases h1) hev
      simp only [evN, hoi] at hfront
      split at hfront
      rotate_left
      · cases hfront
      split at hfront
      · rename_i v h1 h1ev
        have hO' : OkO ⟨Ow.b, fun r => ∃ j ∈ A ++ B, Ns j = some r, Ns i⟩ w ρ h := by
          refine ⟨hO.blk, ?_, fun k hk => hdead i (by simp) k hk⟩
          rintro ⟨j, hj, hjr⟩
          cases hNi : Ns i with
          | none =>
            simp only [hNi, nI] at hjr
            have hdj := (hdead j (by simp at hj ⊢; rcases hj with h | h; exact .inl h; exact .inr (.inr h)) _ hjr).1
            rw [List.getElem?_eq_none (Nat.le_refl _)] at hdj; cases hdj
          | some k =>
            simp only [hNi, nI] at hjr
            have := hinj i j k hNi hjr
            subst this
            rcases List.mem_append.1 hj with hx | hx
            · exact hnA hx
            · exact hnB hx
        refine Su hB hrec (Ow := ⟨Ow.b, fun r => ∃ j ∈ A ++ B, Ns j = some r, Ns i⟩) hoi (by rw [kn]; simp only; rw [h1ev]) (Sr hS) hO' (fun r ⟨j, hj, hjr⟩ => (List.getElem?_eq_some_iff.1 (hdead j (by simp at hj ⊢; rcases hj with h | h; exact .inl h; exact .inr (.inr h)) r hjr).1).1) he hn hd hdst fun a' w' F' ρ' k1 k2 k3 k4 k5 => ?_
        have k3' := UO hO k3
        have hcl' : ∀ k ok, (listed.setIfInBounds i true).getD k false = true → ops[k]? = some ok → ∀ ed ∈ ok.after, Region.binds .any ed = true → (listed.setIfInBounds i true).getD ed.on false = true := fun k ok hk hok ed hed hb => by
          have key : listed.getD ed.on false = true := by
            by_cases hki : k = i
            · subst hki
              rw [hoi] at hok; cases hok
              exact hall' ed hed hb
            · rw [getD_set_ne false (Ne.symm hki)] at hk
              exact hcl k ok hk hok ed hed hb
          by_cases hei : ed.on = i
          · rw [hei] at key ⊢
            simp only [Array.getD_eq_getD_getElem?] at key ⊢
            by_cases hin : i < listed.size
            · simp [hin]
            · simp [hin] at key
          · rw [getD_set_ne false (Ne.symm hei)]; exact key
        refine ih (A ++ B) (listed.setIfInBounds i true) (by simp at hl ⊢; omega) ?_ (by simpa using hsz) (fun j => ?_) (fun j hj r hjr => ?_) hcl' hfront (hB.next k3') (Sh k2) (hO.mono k3'.size) k1 k4 k5 (hK.step k3')
        · refine List.pairwise_append.2 ⟨hpw.1, (List.pairwise_cons.1 hpw.2.1).2, fun x hx y hy => hpw.2.2 x hx y (by simp [hy])⟩
        · by_cases hji : j = i
          · subst hji
            constructor
            · intro hj
              exfalso
              rcases List.mem_append.1 hj with h1 | h1
              · exact hnA h1
              · exact hnB h1
            · rintro ⟨hj1, hj2⟩
              exfalso
              have hin : j < listed.size := by omega
              simp [Array.getD_eq_getD_getElem?, hin] at hj2
          · rw [getD_set_ne true (Ne.symm hji), ← hR j]
            simp [hji]
        · obtain ⟨d1, d2⟩ := hdead j (by simp at hj ⊢; rcases hj with h | h; exact .inl h; exact .inr (.inr h)) r hjr
          refine ⟨Xr h1ev d1 fun hx => ?_, (k3.res r ⟨j, hj, hjr⟩).trans d2⟩
          have := hinj i j r hx hjr
          subst this
          rcases List.mem_append.1 hj with hx | hx
          · exact hnA hx
          · exact hnB hx
      · cases hfront
theorem jv {Ns : Nat → Option Nat} {fp : Nat → List Nat} : ∀ (l : List Nat) (Nl : List (Option Nat)) (os : List Oper) {fps : List (List Nat)} {e e' : Env} {h h' : Heap}, l.map (ops[·]?) = os.map some → l.map Ns = Nl → evD P pol rec f ops Nl os e h = some (fps, e', h') → l.map fp = fps →
    evN P pol rec f ops Ns fp l e h = some (e', h')
  | [], [], [], fps, e, e', h, h', _, _, hev, _ => by simp only [evD] at hev; cases hev; rfl
  | i :: l, N :: Nl, o :: os, fps, e, e', h, h', ho, hN, hev, hf => by
    simp only [List.map_cons, List.cons.injEq] at ho hN
    simp only [evD] at hev
    rw [kn] at hev
    cases h1 : ev1 P pol rec f N ops o e h with
    | none => simp [h1] at hev
    | some x =>
      obtain ⟨v, hx⟩ := x
      simp only [h1] at hev
      split at hev
      · rename_i fs e'' h'' h2
        cases hev
        simp only [List.map_cons, List.cons.injEq] at hf
        simp only [evN, ho.1, hN.1, hf.1, if_true, h1]
        exact jv l Nl os ho.2 hN.2 h2 hf.2
      · cases hev
  | [], _ :: _, _, fps, e, e', h, h', ho, hN, hev, hf => by simp at hN
  | _ :: _, [], _, fps, e, e', h, h', ho, hN, hev, hf => by simp at hN
  | [], [], _ :: _, fps, e, e', h, h', ho, hN, hev, hf => by simp at ho
  | _ :: _, _ :: _, [], fps, e, e', h, h', ho, hN, hev, hf => by simp at ho
theorem ju : ∀ (Nl : List (Option Nat)) (os : List Oper) {fps : List (List Nat)} {e e' : Env} {h h' : Heap}, evD P pol rec f ops Nl os e h = some (fps, e', h') → fps.length = os.length ∧ Nl.length = os.length
  | [], [], fps, e, e', h, h', hev => by simp only [evD] at hev; cases hev; exact ⟨rfl, rfl⟩
  | N :: Nl, o :: os, fps, e, e', h, h', hev => by
    simp only [evD] at hev
    split at hev
    · split at hev
      · rename_i fs e'' h'' h2
        cases hev
        have := ju Nl os h2
        simp [this.1, this.2]
      · cases hev
    · cases hev
  | [], _ :: _, fps, e, e', h, h', hev => by simp [evD] at hev
  | _ :: _, [], fps, e, e', h, h', hev => by simp [evD] at hev
theorem km : ∀ (os : List Oper) {e e' : Env} {h h' : Heap}, wN P pol rec f ops os e h = some (e', h') → ∃ fps, evD P pol rec f ops (List.replicate os.length none) os e h = some (fps, e', h')
  | [], e, e', h, h', hev => by simp only [wN] at hev; cases hev; exact ⟨[], rfl⟩
  | o :: os, e, e', h, h', hev => by
    simp only [wN] at hev
    split at hev
    · rename_i e1 h1 h1e
      obtain ⟨fps, k⟩ := km os hev
      refine ⟨yw none o e h :: fps, ?_⟩
      simp only [List.length_cons, List.replicate_succ, evD, h1e, k]
    · cases hev
theorem tP : ∀ (os : List Oper) (b i : Nat) (r : Nat), (ve pol f b os)[i]? = some (some r) → b ≤ r ∧ r < b + wD pol f os
  | [], b, i, r, h => by simp [ve] at h
  | o :: os, b, i, r, h => by
    simp only [ve] at h
    simp only [wD]
    split at h
    · rename_i hn
      simp only [hn, if_true]
      cases i with
      | zero => simp at h; omega
      | succ i =>
        have := tP os (b + 1) i r (by simpa using h)
        omega
    · rename_i hn
      simp only [hn]
      cases i with
      | zero => simp at h
      | succ i =>
        have := tP os b i r (by simpa using h)
        simpa using this
theorem mh : ∀ (os : List Oper) (b i j : Nat) (r : Nat), (ve pol f b os)[i]? = some (some r) → (ve pol f b os)[j]? = some (some r) → i = j
  | [], b, i, j, r, h, _ => by simp [ve] at h
  | o :: os, b, i, j, r, h1, h2 => by
    simp only [ve] at h1 h2
    split at h1
    · rename_i hn
      simp only [hn, if_true] at h2
      cases i with
      | zero => cases j with
        | zero => rfl
        | succ j =>
          have := tP os (b + 1) j r (by simpa using h2)
          simp at h1; omega
      | succ i => cases j with
        | zero =>
          have := tP os (b + 1) i r (by simpa using h1)
          simp at h2; omega
        | succ j => rw [mh os (b + 1) i j r (by simpa using h1) (by simpa using h2)]
    · rename_i hn
      simp only [hn] at h2
      cases i with
      | zero => simp at h1
      | succ i => cases j with
        | zero => simp at h2
        | succ j => rw [mh os b i j r (by simpa using h1) (by simpa using h2)]
theorem mg : ∀ (os : List Oper) (b i : Nat) (o : Oper), os[i]? = some o → xK pol f o = true → ∃ r, (ve pol f b os)[i]? = some (some r)
  | [], b, i, o, h, _ => by simp at h
  | o' :: os, b, i, o, h, hn => by
    simp only [ve]
    cases i with
    | zero => simp at h; subst h; simp only [hn, if_true]; exact ⟨b, rfl⟩
    | succ i =>
      split
      · simpa using mg os (b + 1) i o (by simpa using h) hn
      · simpa using mg os b i o (by simpa using h) hn
theorem Sp (hS : St w F ρ Ow h) (k : Nat) : St w F ρ Ow (h ++ List.replicate k .dead) := by
  have hget : ∀ r b, (h ++ List.replicate k Blk.dead)[r]? = some b → h[r]? = some b ∨ b = Blk.dead := fun r b hr => by
    rcases Nat.lt_or_ge r h.length with hlt | hge
    · rw [List.getElem?_append_left hlt] at hr; exact .inl hr
    · rw [List.getElem?_append_right hge, List.getElem?_replicate] at hr
      split at hr
      · cases hr; exact .inr rfl
      · cases hr
  refine ⟨fun r b hr => ?_, fun r r' b b' L L' hr hr' hw hw' h1 h2 h3 => ?_, hS.fsz, fun r hr => hS.out r (by simp at hr; omega), ?_⟩
  · rcases hget r b hr with h1 | rfl
    · exact hS.blk r b h1
    · trivial
  · rcases hget r b hr with k1 | rfl
    · rcases hget r' b' hr' with k2 | rfl
      · exact hS.inj r r' b b' L L' k1 k2 hw hw' h1 h2 h3
      · simp [writes] at hw'
    · simp [writes] at hw
  · refine hS.owned (Nxt.refl Ow w F ρ) (fun b _ hF _ _ => ⟨rfl, hF⟩) (fun r i j x ho => ⟨?_, fun _ _ _ hx => hx⟩) fun r b L hr hw hL => ?_
    · obtain ⟨sz, es, cs, h1, h2⟩ := ho
      rcases hget r _ h1 with h3 | h3
      · exact ⟨sz, es, cs, h3, h2⟩
      · cases h3
    · rcases hget r b hr with h3 | rfl
      · exact .inr (hS.same (Ext.refl _) h3 hw hL)
      · simp [writes] at hw
theorem range_map_get {α : Type} (l : List α) (d : α) : (List.range l.length).map (fun i => l.getD i d) = l := by
  apply List.ext_getElem?
  intro i
  by_cases hi : i < l.length
  · simp [hi]
  · simp [hi]
theorem ar {W0 : World} (hB : v7 W0 w F) (hrec : xY P W0 rec) {n : Nat} (hdst : qE n ops = true) (hok : ph P ops = true) {id : Nat} {Q : Exit → Act → World → Prop} {e e' : Env} {h' : Heap} {a : Act}
    (hev : (if !(ops.toList.all (yB pol f)) then s9 P pol rec f ops e h else wN P pol rec f ops ops.toList e h) = some (e', h')) (hS : St w F ρ Ow h)
    (hO : OkC Ow w) (he : RE w F ρ a e) (hn : a.tmps.size = n) (hd : a.defers = []) (hK : rD Ow w F ρ n e' h' (Q .normal)) : (Code.region id ops true).wp P Q a w := by
  simp only [ph, Bool.and_eq_true] at hok
  obtain ⟨hm, hpairs⟩ := hok
  obtain ⟨hS1, hN⟩ := mf hS
  have hO1 : OkC Ow w.drew := hO.mono (Nat.le_refl _)
  have hops : (List.range ops.size).map (ops[·]?) = ops.toList.map some := qL ops
  have hlast : ∀ i, i ∈ List.range ops.size ↔ i < ops.size ∧ (Array.replicate ops.size false).getD i true = false := fun i => by
    simp only [List.mem_range]
    constructor
    · intro hi; exact ⟨hi, by simp [Array.getD_eq_getD_getElem?, hi]⟩
    · exact fun hi => hi.1
  by_cases hall : ops.toList.all (yB pol f) = true
  · simp only [hall, Bool.not_true, Bool.false_eq_true, if_false] at hev
    have non : ∀ i o, ops[i]? = some o → yB pol f o = true := fun i o ho => List.all_eq_true.1 hall o (by rw [Array.mem_toList_iff]; exact Array.mem_of_getElem? ho)
    obtain ⟨fps, hD⟩ := km _ hev
    obtain ⟨l1, _⟩ := ju _ _ hD
    have hE := jv (Ns := fun _ => none) (fp := fun i => fps.getD i []) (List.range ops.size) _ _ hops (by simp [List.map_const']) hD (by
      rw [show ops.size = fps.length by simpa using l1.symm]; exact range_map_get fps [])
    refine wp_region_any hm (U9 (w := w.drew) hrec hdst hpairs (Ns := fun _ => none) (fp := fun i => fps.getD i []) (fun i o ho hnw => ?_) (fun i j r hr => by cases hr) (fun i j oj hij hoj hnp oi oj' hoi hoj' => ?_) ops.size (List.range ops.size) (Array.replicate ops.size false) (by simp) List.pairwise_lt_range (by simp) hlast (fun i _ r hr => by cases hr) (fun k ok hk => by simp only [Array.getD_eq_getD_getElem?, Array.getElem?_replicate] at hk; split at hk <;> simp at hk) hE (hB.next hN) hS1 hO1 (hN.re he) hn hd (hK.step hN))
    · exfalso
      have h1 := non i o ho
      obtain ⟨dst, op, ty, pos, after, guard⟩ := o
      cases op with
      | call c =>
        obtain ⟨callee, args, tys⟩ := c
        cases callee with
        | builtin b => cases b <;> simp [yB, xK] at h1 hnw
        | value x => cases hp : pol.pm f (dst.getD 0) <;> simp [yB, xK, hp] at h1 hnw
        | invoke r m => simp [xK] at hnw
      | _ => simp [yB, xK] at h1 hnw
    · rw [hoj] at hoj'; cases hoj'
      have hno : ∀ e ∈ oj.after, Region.binds .any e = true → e.on ≠ i := fun e he hb heq => hnp (.dir hoj he hb heq)
      exact ⟨(vC hpairs hoj).2 i oi hij hoi hno, by simp [soft, non i oi hoi], by simp [soft, non j oj hoj], .inl ⟨non i oi hoi, non j oj hoj⟩⟩
  · simp only [hall, Bool.not_false, if_true] at hev
    unfold s9 at hev
    split at hev
    · rename_i fps e1 h1 hD
      split at hev
      · rename_i hdyn
        cases hev
        obtain ⟨l1, l2⟩ := ju _ _ hD
        have hE := jv (Ns := fun i => (ve pol f h.length ops.toList).getD i none) (fp := fun i => fps.getD i []) (List.range ops.size) _ _ hops (by
          rw [show ops.size = (ve pol f h.length ops.toList).length by simpa using l2.symm]; exact range_map_get _ none) hD (by
          rw [show ops.size = fps.length by simpa using l1.symm]; exact range_map_get fps [])
        have hget : ∀ i r, (ve pol f h.length ops.toList).getD i none = some r → (ve pol f h.length ops.toList)[i]? = some (some r) := fun i r hr => by
          rw [List.getD_eq_getElem?_getD] at hr
          cases hx : (ve pol f h.length ops.toList)[i]? with
          | none => simp [hx] at hr
          | some y => simp [hx] at hr; rw [hr]
        refine wp_region_any hm (U9 (w := w.drew) hrec hdst hpairs (Ns := fun i => (ve pol f h.length ops.toList).getD i none) (fp := fun i => fps.getD i []) (fun i o ho hnw => ?_) (fun i j r hr hr' => mh _ _ _ _ _ (hget i r hr) (hget j r hr')) (fun i j oj hij hoj hnp oi oj' hoi hoj' => ?_) ops.size (List.range ops.size) (Array.replicate ops.size false) (by simp) List.pairwise_lt_range (by simp) hlast (fun i _ r hr => ?_) (fun k ok hk => by simp only [Array.getD_eq_getD_getElem?, Array.getElem?_replicate] at hk; split at hk <;> simp at hk) hE (hB.next hN) (Sp hS1 _) hO1 (hN.re he) hn hd (hK.step hN))
        · obtain ⟨r, hr⟩ := mg ops.toList h.length i o (by simpa using ho) hnw
          rw [List.getD_eq_getElem?_getD, hr]; rfl
        · rw [hoj] at hoj'; cases hoj'
          have hno : ∀ e ∈ oj.after, Region.binds .any e = true → e.on ≠ i := fun e he hb heq => hnp (.dir hoj he hb heq)
          have hlt : j < ops.size := (Array.getElem?_eq_some_iff.1 hoj).1
          have h2 := List.all_eq_true.1 hdyn j (List.mem_range.2 hlt)
          simp only [hoj, List.all_eq_true, List.mem_range] at h2
          have h3 := h2 i hij
          simp only [hoi, VF, Bool.or_eq_true, Bool.and_eq_true] at h3
          rcases h3 with h3 | h3 | h3
          rotate_right
          · exact absurd (jj 3 j h3) hnp
          · obtain ⟨ed, he1, hb⟩ := Array.any_eq_true'.1 h3
            simp only [Bool.and_eq_true, beq_iff_eq] at hb
            exact absurd hb.2 (hno ed he1 hb.1)
          · exact ⟨(vC hpairs hoj).2 i oi hij hoi hno, h3.1.1, h3.1.2, h3.2⟩
        · obtain ⟨r1, r2⟩ := tP _ _ _ _ (hget i r hr)
          refine ⟨?_, hS1.out r r1⟩
          rw [List.getElem?_append_right r1, List.getElem?_replicate, if_pos (by omega)]
      · cases hev
    · cases hev
end Go.Proofs.YtmcephnfcciloaaGreatDoor.E
