/- Joined: E11C E11D E12. Conditions: those of each lemma. -/
import Derived.Test.YtmcephnfcciloaaGreatDoorYC
set_option linter.unusedVariables false
set_option linter.unusedSimpArgs false
namespace Go.Proofs.YtmcephnfcciloaaGreatDoor.E
set_option linter.unusedVariables false
set_option linter.unusedSimpArgs false
variable {P : Program} {w : World} {F : Nat → Prop} {ρ : yn} {Ow : Own} {h : Heap}
theorem mU {es : List (List V)} {i j : Nat} {cs : List V} {v : V} (hi : es[i]? = some cs) (hj : j < cs.length) {a b : Nat} {cs' : List V} {x : V} (h1 : (xD es i j cs v)[a]? = some cs') (h2 : cs'[b]? = some x) :
    (a = i ∧ b = j ∧ x = v) ∨ (¬ (a = i ∧ b = j) ∧ ∃ cs0, es[a]? = some cs0 ∧ cs0[b]? = some x) := by
  unfold xD at h1
  have hil := (List.getElem?_eq_some_iff.1 hi).1
  rw [List.getElem?_set] at h1
  split at h1
  · rename_i e; subst e
    simp [hil] at h1
    subst h1
    rw [List.getElem?_set] at h2
    split at h2
    · rename_i e2; subst e2
      simp [hj] at h2
      exact .inl ⟨rfl, rfl, h2.symm⟩
    · rename_i hne
      exact .inr ⟨fun e => hne e.2.symm, cs, hi, h2⟩
  · rename_i hne
    exact .inr ⟨fun e => hne e.1.symm, cs', h1, h2⟩
theorem Wl {es : List (List V)} {i j : Nat} {cs : List V} {v : V} (hi : es[i]? = some cs) {a b : Nat} {cs0 : List V} {x : V} (hne : ¬ (a = i ∧ b = j)) (h1 : es[a]? = some cs0) (h2 : cs0[b]? = some x) :
    ∃ cs', (xD es i j cs v)[a]? = some cs' ∧ cs'[b]? = some x := by
  unfold xD
  have hil := (List.getElem?_eq_some_iff.1 hi).1
  by_cases ha : a = i
  · subst ha
    rw [hi] at h1; cases h1
    exact ⟨cs.set j v, by simp [hil], by rw [List.getElem?_set_ne fun e => hne ⟨rfl, e.symm⟩]; exact h2⟩
  · exact ⟨cs0, by rw [List.getElem?_set_ne (Ne.symm ha)]; exact h1, h2⟩
theorem Tu {es : List (List V)} {i j : Nat} {cs : List V} {v : V} (hi : es[i]? = some cs) (hj : j < cs.length) : ∃ cs', (xD es i j cs v)[i]? = some cs' ∧ cs'[j]? = some v := by
  have hil := (List.getElem?_eq_some_iff.1 hi).1
  exact ⟨cs.set j v, by simp [xD, hil], by simp [hj]⟩
/-- one cell of a row is another value of the evaluator's -/
theorem fB {L : Loc} {es : List (List V)} {R R' : Value → V → Prop} (hr : xM w L es R) (hR : ∀ u x, R u x → R' u x) {i j : Nat} {cs : List V} {v v0 : V} (hi : es[i]? = some cs) (hj : cs[j]? = some v0)
    (hv : ∀ u, cellAt w L i j u → R' u v) : xM w L (xD es i j cs v) R' := by
  obtain ⟨hn, hl, c, el, fr, hh, hs, hf, hz, hc⟩ := hr
  have hjl := (List.getElem?_eq_some_iff.1 hj).1
  refine ⟨by simpa [xD] using hn, fun e he => ?_, c, el, fr, hh, hs, hf, hz, fun a b cs' x h1 h2 => ?_⟩
  · rcases List.mem_or_eq_of_mem_set he with he | rfl
    · exact hl e he
    · rw [List.length_set]; exact hl cs (List.mem_of_getElem? hi)
  · rcases mU hi hjl h1 h2 with ⟨rfl, rfl, rfl⟩ | ⟨_, cs0, h3, h4⟩
    · obtain ⟨u, hu, _⟩ := hc a b cs v0 hi hj
      exact ⟨u, hu, hv u ⟨c, el, fr, hh, hu⟩⟩
    · obtain ⟨u, hu, hru⟩ := hc a b cs0 x h3 h4
      exact ⟨u, hu, hR u x hru⟩
theorem fu {r i j sz : Nat} {es : List (List V)} {cs : List V} {v : V} (hb : h[r]? = some (.vs sz es)) (hi : es[i]? = some cs) {k a b : Nat} {x : T} (hne : ¬ (k = r ∧ a = i ∧ b = j)) (ho : oAt h k a b x) : oAt (h.set r (.vs sz (xD es i j cs v))) k a b x := by
  have hrl := (List.getElem?_eq_some_iff.1 hb).1
  obtain ⟨s, e, c, h1, h2, h3⟩ := ho
  by_cases hk : k = r
  · subst hk
    rw [hb] at h1; cases h1
    obtain ⟨cs', h4, h5⟩ := Wl (v := v) hi (fun e => hne ⟨rfl, e⟩) h2 h3
    exact ⟨sz, xD es i j cs v, cs', by simp [hrl], h4, h5⟩
  · exact ⟨s, e, c, by rw [List.getElem?_set_ne (Ne.symm hk)]; exact h1, h2, h3⟩
/-- an owned cell is laid in a row of its own -/
theorem fl (hS : St w F ρ Ow h) (hz : ∀ r, ¬ Ow.z r) {φ : Nat → Nat → Nat → Nat → Prop} (hφ : td w F ρ Ow h φ) {r i j sz : Nat} {es : List (List V)} {cs : List V} {x0 : T} (hb : h[r]? = some (.vs sz es)) (hi : es[i]? = some cs) (hj : cs[j]? = some (.o x0))
    {L : Loc} (hL : ρ r = some (some L)) {l : Option Loc} {blk : Blk} {n : Nat} (hRV : ∀ u, cellAt w L i j u → RV w F (newAt h ρ l) u (.sl h.length 0 n none)) (hRB : RB w F (newAt h ρ l) Ow h.length blk)
    {ψ : Nat → Nat → Nat → Prop} (hψ : ∀ s e a b cs' x, blk = .vs s e → e[a]? = some cs' → cs'[b]? = some (.o x) → ∃ L' u, l = some L' ∧ cellAt w L' a b u ∧ RO w u x (ψ a b))
    (hact : ∀ a b k, ψ a b k → (∃ s e cs' x, blk = .vs s e ∧ e[a]? = some cs' ∧ cs'[b]? = some (.o x)) ∧ φ r i j k) (hsep : ∀ a b a' b' k, ψ a b k → ψ a' b' k → a = a' ∧ b = b')
    (hne : ∀ a b k L', ψ a b k → l = some L' → k ≠ L'.b) (hl : ∀ L', l = some L' → φ r i j L'.b) :
    ∃ ρ', St w F ρ' Ow (h.set r (.vs sz (xD es i j cs (.sl h.length 0 n none))) ++ [blk]) ∧ Nxt Ow w F ρ w F ρ' := by
  have hrl := (List.getElem?_eq_some_iff.1 hb).1
  have hjl := (List.getElem?_eq_some_iff.1 hj).1
  have hx := sP hS l
  have hN : Nxt Ow w F ρ w F (newAt h ρ l) := ⟨rfl, rfl, rfl, Nat.le_refl _, fun _ _ _ => rfl, fun _ _ => rfl, fun _ x => x, fun _ x => .inl x, hx, fun r hr => absurd hr (hz r)⟩
  have lowρ : ∀ k, k < h.length → newAt h ρ l k = ρ k := fun k hk => by unfold newAt; rw [if_neg (by omega)]
  have get : ∀ k b, (h.set r (.vs sz (xD es i j cs (.sl h.length 0 n none))) ++ [blk])[k]? = some b → (k = h.length ∧ b = blk) ∨ (k < h.length ∧ k = r ∧ b = .vs sz (xD es i j cs (.sl h.length 0 n none))) ∨ (k < h.length ∧ k ≠ r ∧ h[k]? = some b) := fun k b hk => by
    rcases wm hk with ⟨h1, h2⟩ | ⟨h1, h2⟩
    · exact .inl ⟨by simpa using h1, h2⟩
    · replace h1 : k < h.length := by simpa using h1
      by_cases hkr : k = r
      · subst hkr; simp [hrl] at h2; exact .inr (.inl ⟨h1, rfl, h2.symm⟩)
      · rw [List.getElem?_set_ne (Ne.symm hkr)] at h2; exact .inr (.inr ⟨h1, hkr, h2⟩)
  -- where a writable row of the new state lies
  have place : ∀ k b L1, (h.set r (.vs sz (xD es i j cs (.sl h.length 0 n none))) ++ [blk])[k]? = some b → writes b = true → newAt h ρ l k = some (some L1) → (k = h.length ∧ l = some L1) ∨ (k < h.length ∧ ∃ b0, h[k]? = some b0 ∧ writes b0 = true ∧ ρ k = some (some L1)) := fun k b L1 hk hw hL1 => by
    rcases get k b hk with ⟨rfl, rfl⟩ | ⟨h1, rfl, rfl⟩ | ⟨h1, h2, h3⟩
    · simp [newAt] at hL1; exact .inl ⟨rfl, hL1⟩
    · exact .inr ⟨h1, _, hb, rfl, by rw [← lowρ k h1]; exact hL1⟩
    · exact .inr ⟨h1, b, h3, hw, by rw [← lowρ k h1]; exact hL1⟩
  refine ⟨newAt h ρ l, ⟨fun k b hk => ?_, fun k k' b b' L1 L2 hk hk' hw hw' h1 h2 he => ?_, hS.fsz, sO hS l (by simp), ?_⟩, hN⟩
  · rcases get k b hk with ⟨rfl, rfl⟩ | ⟨h1, rfl, rfl⟩ | ⟨h1, h2, h3⟩
    · exact hRB
    · rcases hS.blk k _ hb with ⟨L', q1, q2, q3, q4, q5⟩ | ⟨q1, _⟩
      · rw [hL] at q1; cases q1
        exact .inl ⟨L, hx _ _ hL, q2, fB q3 (fun u x hr => hN.rv hr) hi hj hRV, q4, q5⟩
      · rw [hL] at q1; cases q1
    · exact (hS.blk k b h3).mono hN.agree hN.grow hx fun L' hL' hw => ⟨rfl, ((hS.blk k b h3).vn hw hL').1⟩
  · rcases place k b L1 hk hw h1 with ⟨rfl, p1⟩ | ⟨p0, b0, p1, p2, p3⟩ <;> rcases place k' b' L2 hk' hw' h2 with ⟨rfl, q1⟩ | ⟨q0, b1, q1, q2, q3⟩
    · rfl
    · exact absurd he.symm (hφ.apart r i j L1.b k' b1 L2 (hl L1 p1) q1 q2 q3)
    · exact absurd he (hφ.apart r i j L2.b k b0 L1 (hl L2 q1) p1 p2 p3)
    · exact hS.inj k k' b0 b1 L1 L2 p1 q1 p2 q2 p3 q3 he
  · refine ⟨fun k a b m => (k = h.length ∧ ψ a b m) ∨ (k < h.length ∧ ¬ (k = r ∧ a = i ∧ b = j) ∧ φ k a b m), ⟨fun k a b x ho => ?_, fun k a b m hm => ?_, fun k a b k' a' b' m h1 h2 => ?_, fun k a b m k' b' L' h1 h2 h3 h4 he => ?_⟩⟩
    · obtain ⟨s, e, c, h1, h2, h3⟩ := ho
      rcases get k _ h1 with ⟨rfl, rfl⟩ | ⟨h4, rfl, h5⟩ | ⟨h4, h5, h6⟩
      · obtain ⟨L', u, q1, q2, q3⟩ := hψ s e a b c x rfl h2 h3
        exact ⟨L', u, by simp [newAt, q1], q2, q3.mono fun m hm => ⟨.inl ⟨rfl, hm⟩, rfl⟩⟩
      · cases h5
        rcases mU hi hjl h2 h3 with ⟨_, _, h6⟩ | ⟨h6, cs0, h7, h8⟩
        · cases h6
        · obtain ⟨L', u, q1, q2, q3⟩ := hφ.cell k a b x ⟨_, es, cs0, hb, h7, h8⟩
          exact ⟨L', u, hx _ _ q1, q2, q3.mono fun m hm => ⟨.inr ⟨h4, fun e => h6 e.2, hm⟩, rfl⟩⟩
      · obtain ⟨L', u, q1, q2, q3⟩ := hφ.cell k a b x ⟨s, e, c, h6, h2, h3⟩
        exact ⟨L', u, hx _ _ q1, q2, q3.mono fun m hm => ⟨.inr ⟨h4, fun e => h5 e.1, hm⟩, rfl⟩⟩
    · rcases hm with ⟨rfl, hm⟩ | ⟨h1, h2, hm⟩
      · obtain ⟨⟨s, e, c, x, q1, q2, q3⟩, q4⟩ := hact a b m hm
        subst q1
        exact ⟨⟨x, s, e, c, by simp, q2, q3⟩, (hφ.act r i j m q4).2⟩
      · obtain ⟨⟨x, ho⟩, q⟩ := hφ.act k a b m hm
        obtain ⟨s, e, c, q1, q2, q3⟩ := fu (v := .sl h.length 0 n none) hb hi h2 ho
        exact ⟨⟨x, s, e, c, by rw [List.getElem?_append_left (by simpa using h1)]; exact q1, q2, q3⟩, q⟩
    · rcases h1 with ⟨rfl, h1⟩ | ⟨h1, h1', h1''⟩ <;> rcases h2 with ⟨rfl, h2⟩ | ⟨h2, h2', h2''⟩
      · exact ⟨rfl, hsep a b a' b' m h1 h2⟩
      · exact absurd (hφ.sep r i j k' a' b' m (hact a b m h1).2 h2'') fun e => h2' ⟨e.1.symm, e.2.1.symm, e.2.2.symm⟩
      · exact absurd (hφ.sep r i j k a b m (hact a' b' m h2).2 h1'') fun e => h1' ⟨e.1.symm, e.2.1.symm, e.2.2.symm⟩
      · exact hφ.sep k a b k' a' b' m h1'' h2''
    · rcases place k' b' L' h2 h3 h4 with ⟨rfl, p1⟩ | ⟨p0, b0, p1, p2, p3⟩
      · rcases h1 with ⟨rfl, h1⟩ | ⟨h1, h1', h1''⟩
        · exact hne a b m L' h1 p1 he.symm
        · exact h1' (by obtain ⟨e1, e2, e3⟩ := hφ.sep k a b r i j m h1'' (he ▸ hl L' p1); exact ⟨e1, e2, e3⟩)
      · rcases h1 with ⟨rfl, h1⟩ | ⟨h1, h1', h1''⟩
        · exact hφ.apart r i j m k' b0 L' (hact a b m h1).2 p1 p2 p3 he
        · exact hφ.apart k a b m k' b0 L' h1'' p1 p2 p3 he
theorem ix {es : List (List T)} (hf : pq es = true) {i j : Nat} {cs : List T} {x : T} (hi : es[i]? = some cs) (hj : cs[j]? = some x) : zk x = true ∧ isL x = false := by
  have := List.all_eq_true.1 (List.all_eq_true.1 hf cs (List.mem_of_getElem? hi)) x (List.mem_of_getElem? hj)
  simpa using this
theorem RO.flat' {u : Value} {x : T} {S : Nat → Prop} (h : RO w u x S) (hl : isL x = false) : RT w F u x := by
  cases h with
  | flat _ _ _ hx hf h => exact h.mono (fun _ _ => rfl) fun _ hb => hb.elim
  | empty a sz => simp [isL] at hl
  | list => simp [isL] at hl
theorem TE {x : T} (h : ∀ sz es, x ≠ .list sz es) : oc x = .t x := by
  cases x <;> first | rfl | exact absurd rfl (h _ _)
theorem oc_o {x y : T} (h : oc x = .o y) : x = y ∧ isL x = true := by
  cases x <;> simp [oc] at h
  exact ⟨h, rfl⟩
/-- a cell of an owned value's row -/
theorem oc_rv {ρ' : yn} {u : Value} {x : T} {S : Nat → Prop} (h : RO w u x S) : RV w F ρ' u (oc x) := by
  cases h with
  | flat u x S hx hf h =>
    rw [TE fun sz es e => by subst e; simp [isL] at hx]
    exact .t _ _ (h.mono (fun _ _ => rfl) fun _ hb => hb.elim)
  | empty a sz => exact .o _ _
  | list => exact .o _ _
theorem Tk (hS : St w F ρ Ow h) (hz : ∀ r, ¬ Ow.z r) (r i : Nat) (c : Nat × Bool) : ∃ ρ', St w F ρ' Ow (qh r i c h) ∧ Nxt Ow w F ρ w F ρ' := by
  have same : ∃ ρ', St w F ρ' Ow h ∧ Nxt Ow w F ρ w F ρ' := ⟨ρ, hS, Nxt.refl _ _ _ _⟩
  unfold qh
  split
  rotate_left
  · exact same
  rename_i sz es hb
  split
  rotate_left
  · exact same
  rename_i cs hi
  split
  rotate_left
  · exact same
  rename_i sz' es' hj
  obtain ⟨φ, hφ⟩ := hS.own
  obtain ⟨L, u, hL, hu, hro⟩ := hφ.cell r i c.1 _ ⟨sz, es, cs, hb, hi, hj⟩
  have uniq : ∀ u', cellAt w L i c.1 u' → u' = u := fun u' hu' => by
    obtain ⟨c1, e1, f1, q1, q2⟩ := hu
    obtain ⟨c2, e2, f2, p1, p2⟩ := hu'
    rw [q1] at p1; cases p1
    rw [q2] at p2; cases p2; rfl
  have main : ∀ blk : Blk, (blk = .ts sz' es' ∧ pq es' = true) ∨ blk = .vs sz' (es'.map fun e => e.map oc) → ∃ ρ', St w F ρ' Ow (h.set r (.vs sz (xD es i c.1 cs (.sl h.length 0 es'.length none))) ++ [blk]) ∧ Nxt Ow w F ρ w F ρ' := by
    intro blk hblk
    cases hro with
    | flat _ _ _ hx => simp [isL] at hx
    | empty a _ _ =>
      refine fl hS hz hφ hb hi hj hL (l := none) (fun u' hu' => by rw [uniq u' hu']; exact .slP _ _ _ (by simp [newAt]) (.inl rfl)) ?_ (ψ := fun _ _ _ => False) (fun s e a b cs' x he h1 h2 => ?_) (fun _ _ _ h => h.elim) (fun _ _ _ _ _ h => h.elim) (fun _ _ _ _ h => h.elim) (fun _ h => by cases h)
      · rcases hblk with ⟨rfl, _⟩ | rfl
        · exact .inr ⟨by simp [newAt], rfl⟩
        · exact .inr ⟨by simp [newAt], rfl⟩
      · rcases hblk with ⟨rfl, _⟩ | rfl
        · cases he
        · cases he; simp at h1
    | list L' c' _ _ cc el fr g fp hn hlen hc hz' hh hs hf hbd hg hr hSb hfp sep =>
      obtain ⟨hF, hOw, hlt⟩ := (hφ.act r i c.1 L'.b hSb).2
      refine fl hS hz hφ hb hi hj hL (l := some L') (n := es'.length) (fun u' hu' => ?_) ?_ (ψ := fun a b m => fp a b m ∧ ∃ s e cs' x, blk = .vs s e ∧ e[a]? = some cs' ∧ cs'[b]? = some (.o x)) (fun s e a b cs' x he h1 h2 => ?_)
        (fun a b m hm => ⟨hm.2, (hfp a b m hm.1).1⟩) (fun a b a' b' m h1 h2 => sep a b a' b' m h1.1 h2.1) (fun a b m L1 hm hL1 => by cases hL1; exact (hfp a b m hm.1).2) (fun L1 hL1 => by cases hL1; exact hSb)
      · rw [uniq u' hu', hn]
        exact .sl _ 0 _ none L' _ c' (by simp [newAt]) (.inl (by simp)) hc (by simp) (fun _ => by simpa using hc) (fun k hk => by cases hk) (fun h0 => by simpa using hz' h0)
      · rcases hblk with ⟨rfl, hfl⟩ | rfl
        · exact .inl ⟨L', by simp [newAt], rfl, ⟨hn, hlen, cc, el, fr, hh, hs, hf, hbd, fun a b cs' x h1 h2 => ⟨_, hg a b cs' x h1 h2, (hr a b cs' x h1 h2).flat' (ix hfl h1 h2).2⟩⟩, hF, hOw⟩
        · refine .inl ⟨L', by simp [newAt], rfl, ⟨by simpa using hn, fun e he => ?_, cc, el, fr, hh, hs, hf, hbd, fun a b cs' x h1 h2 => ?_⟩, hF, hOw⟩
          · simp only [List.mem_map] at he
            obtain ⟨e0, he0, rfl⟩ := he
            rw [List.length_map]; exact hlen e0 he0
          · rw [List.getElem?_map] at h1
            cases h3 : es'[a]? with
            | none => simp [h3] at h1
            | some e0 =>
              simp [h3] at h1
              subst h1
              rw [List.getElem?_map] at h2
              cases h4 : e0[b]? with
              | none => simp [h4] at h2
              | some y =>
                simp [h4] at h2
                subst h2
                exact ⟨_, hg a b e0 y h3 h4, oc_rv (hr a b e0 y h3 h4)⟩
      · rcases hblk with ⟨rfl, hfl⟩ | rfl
        · cases he
        · cases he
          have h1' := h1
          have h2' := h2
          rw [List.getElem?_map] at h1
          cases h3 : es'[a]? with
          | none => simp [h3] at h1
          | some e0 =>
            simp [h3] at h1
            subst h1
            rw [List.getElem?_map] at h2
            cases h4 : e0[b]? with
            | none => simp [h4] at h2
            | some y =>
              simp [h4] at h2
              obtain ⟨rfl, _⟩ := oc_o h2
              exact ⟨L', g a b, rfl, ⟨cc, el, fr, hh, hg a b e0 y h3 h4⟩, (hr a b e0 y h3 h4).mono fun m hm => ⟨⟨hm, _, _, _, y, rfl, h1', h2'⟩, rfl⟩⟩
  split
  · split
    · rename_i hfl
      exact main _ (.inl ⟨rfl, hfl⟩)
    · exact same
  · exact main _ (.inr rfl)
/-- a cell is taken for an owned value's: what it owned before, and what it owns now -/
theorem eU (hS : St w F ρ Ow h) {φ : Nat → Nat → Nat → Nat → Prop} (hφ : td w F ρ Ow h φ) {r i j sz : Nat} {es : List (List V)} {cs : List V} {v0 : V} {x0 : T} (hb : h[r]? = some (.vs sz es)) (hi : es[i]? = some cs) (hj : cs[j]? = some v0) (hv0 : ∀ x, v0 ≠ .o x)
    {L : Loc} (hL : ρ r = some (some L)) {S : Nat → Prop} (hro : ∀ u, cellAt w L i j u → RO w u x0 S) {q : Option Nat} (hq : ∀ r', q = some r' → r' ≠ r)
    (hSact : ∀ m, S m → ¬ F m ∧ Ow m ∧ m < w.heap.size) (hSφ : ∀ m k a b, S m → φ k a b m → q = some k) (hSrow : ∀ m k b0 L0, S m → h[k]? = some b0 → writes b0 = true → ρ k = some (some L0) → q ≠ some k → L0.b ≠ m) :
    St w F ρ Ow ((match q with | some r' => (h.set r (.vs sz (xD es i j cs (.o x0)))).set r' .dead | none => h.set r (.vs sz (xD es i j cs (.o x0))))) := by
  have hrl := (List.getElem?_eq_some_iff.1 hb).1
  have hjl := (List.getElem?_eq_some_iff.1 hj).1
  generalize hh' : (match q with | some r' => (h.set r (.vs sz (xD es i j cs (.o x0)))).set r' .dead | none => h.set r (.vs sz (xD es i j cs (.o x0)))) = h'
  have hlen : h'.length = h.length := by rw [← hh']; cases q <;> simp
  have get : ∀ k b, h'[k]? = some b → (q = some k ∧ b = .dead) ∨ (q ≠ some k ∧ k = r ∧ b = .vs sz (xD es i j cs (.o x0))) ∨ (q ≠ some k ∧ k ≠ r ∧ h[k]? = some b) := fun k b hk => by
    have step : ∀ b, (h.set r (.vs sz (xD es i j cs (.o x0))))[k]? = some b → (k = r ∧ b = .vs sz (xD es i j cs (.o x0))) ∨ (k ≠ r ∧ h[k]? = some b) := fun b hk => by
      by_cases hkr : k = r
      · subst hkr; simp [hrl] at hk; exact .inl ⟨rfl, hk.symm⟩
      · rw [List.getElem?_set_ne (Ne.symm hkr)] at hk; exact .inr ⟨hkr, hk⟩
    subst hh'
    cases q with
    | none =>
      rcases step b hk with ⟨h1, h2⟩ | ⟨h1, h2⟩
      · exact .inr (.inl ⟨by simp, h1, h2⟩)
      · exact .inr (.inr ⟨by simp, h1, h2⟩)
    | some r' =>
      simp only at hk
      by_cases hkr : k = r'
      · subst hkr
        have hkl := (List.getElem?_eq_some_iff.1 hk).1
        simp only [List.length_set] at hkl
        simp [hkl] at hk
        exact .inl ⟨rfl, hk.symm⟩
      · rw [List.getElem?_set_ne (Ne.symm hkr)] at hk
        have hne : (some r' : Option Nat) ≠ some k := fun e => hkr (by cases e; rfl)
        rcases step b hk with ⟨h1, h2⟩ | ⟨h1, h2⟩
        · exact .inr (.inl ⟨hne, h1, h2⟩)
        · exact .inr (.inr ⟨hne, h1, h2⟩)
  have old : ∀ k b, h'[k]? = some b → writes b = true → q ≠ some k ∧ ∃ b0, h[k]? = some b0 ∧ writes b0 = true := fun k b hk hw => by
    rcases get k b hk with ⟨_, rfl⟩ | ⟨h1, rfl, _⟩ | ⟨h1, _, h3⟩
    · simp [writes] at hw
    · exact ⟨h1, _, hb, rfl⟩
    · exact ⟨h1, b, h3, hw⟩
  have keep : ∀ k a b x, q ≠ some k → ¬ (k = r ∧ a = i ∧ b = j) → oAt h k a b x → oAt h' k a b x := fun k a b x hqk hne ho => by
    have := fu (v := .o x0) hb hi hne ho
    subst hh'
    cases q with
    | none => exact this
    | some r' =>
      obtain ⟨s, e, c, h1, h2⟩ := this
      exact ⟨s, e, c, by simp only; rw [List.getElem?_set_ne fun e => hqk (by rw [e])]; exact h1, h2⟩
  have hqr : q ≠ some r := fun e => hq r e rfl
  refine ⟨fun k b hk => ?_, fun k k' b b' L1 L2 hk hk' hw hw' h1 h2 he => ?_, hS.fsz, fun k hk => hS.out k (by omega), ?_⟩
  · rcases get k b hk with ⟨_, rfl⟩ | ⟨_, rfl, rfl⟩ | ⟨_, _, h3⟩
    · trivial
    · rcases hS.blk k _ hb with ⟨L', q1, q2, q3, q4, q5⟩ | ⟨q1, _⟩
      · rw [hL] at q1; cases q1
        exact .inl ⟨L, hL, q2, fB q3 (fun u x hr => hr) hi hj fun u _ => .o _ _, q4, q5⟩
      · rw [hL] at q1; cases q1
    · exact hS.blk k b h3
  · obtain ⟨_, b0, p1, p2⟩ := old k b hk hw
    obtain ⟨_, b1, p3, p4⟩ := old k' b' hk' hw'
    exact hS.inj k k' b0 b1 L1 L2 p1 p3 p2 p4 h1 h2 he
  · refine ⟨fun k a b m => (k = r ∧ a = i ∧ b = j ∧ S m) ∨ (q ≠ some k ∧ φ k a b m), ⟨fun k a b x ho => ?_, fun k a b m hm => ?_, fun k a b k' a' b' m h1 h2 => ?_, fun k a b m k' b' L' h1 h2 h3 h4 he => ?_⟩⟩
    · obtain ⟨s, e, c, h1, h2, h3⟩ := ho
      rcases get k _ h1 with ⟨_, h4⟩ | ⟨h4, rfl, h5⟩ | ⟨h4, h5, h6⟩
      · cases h4
      · cases h5
        rcases mU hi hjl h2 h3 with ⟨rfl, rfl, h6⟩ | ⟨h6, cs0, h7, h8⟩
        · cases h6
          rcases hS.blk k _ hb with ⟨L', q1, q2, q3, q4, q5⟩ | ⟨q1, _⟩
          · rw [hL] at q1; cases q1
            obtain ⟨_, _, cc, el, fr, hh, _, _, _, hc⟩ := q3
            obtain ⟨u, hu, _⟩ := hc a b cs v0 hi hj
            exact ⟨L, u, hL, ⟨cc, el, fr, hh, hu⟩, (hro u ⟨cc, el, fr, hh, hu⟩).mono fun m hm => ⟨.inl ⟨rfl, rfl, rfl, hm⟩, rfl⟩⟩
          · rw [hL] at q1; cases q1
        · obtain ⟨L', u, q1, q2, q3⟩ := hφ.cell k a b x ⟨_, es, cs0, hb, h7, h8⟩
          exact ⟨L', u, q1, q2, q3.mono fun m hm => ⟨.inr ⟨h4, hm⟩, rfl⟩⟩
      · obtain ⟨L', u, q1, q2, q3⟩ := hφ.cell k a b x ⟨s, e, c, h6, h2, h3⟩
        exact ⟨L', u, q1, q2, q3.mono fun m hm => ⟨.inr ⟨h4, hm⟩, rfl⟩⟩
    · rcases hm with ⟨rfl, rfl, rfl, hm⟩ | ⟨h1, hm⟩
      · obtain ⟨cs', h2, h3⟩ := Tu (v := .o x0) hi hjl
        refine ⟨⟨x0, sz, xD es a b cs (.o x0), cs', ?_, h2, h3⟩, hSact m hm⟩
        subst hh'
        cases q with
        | none => simp [hrl]
        | some r' => simp only; rw [List.getElem?_set_ne fun e => hq r' rfl e]; simp [hrl]
      · obtain ⟨⟨x, ho⟩, h2⟩ := hφ.act k a b m hm
        refine ⟨⟨x, keep k a b x h1 (fun e => ?_) ho⟩, h2⟩
        obtain ⟨rfl, rfl, rfl⟩ := e
        obtain ⟨s, e, c, p1, p2, p3⟩ := ho
        rw [hb] at p1; cases p1
        rw [hi] at p2; cases p2
        rw [hj] at p3; cases p3
        exact hv0 x rfl
    · rcases h1 with ⟨rfl, rfl, rfl, h1⟩ | ⟨h1, h1'⟩ <;> rcases h2 with ⟨rfl, rfl, rfl, h2⟩ | ⟨h2, h2'⟩
      · exact ⟨rfl, rfl, rfl⟩
      · exact absurd (hSφ m k' a' b' h1 h2') h2
      · exact absurd (hSφ m k a b h2 h1') h1
      · exact hφ.sep k a b k' a' b' m h1' h2'
    · obtain ⟨p0, b0, p1, p2⟩ := old k' b' h2 h3
      rcases h1 with ⟨rfl, rfl, rfl, h1⟩ | ⟨h1, h1'⟩
      · exact hSrow m k' b0 L' h1 p1 p2 h4 p0 he
      · exact hφ.apart k a b m k' b0 L' h1' p1 p2 h4 he
theorem iq : ∀ {vs : List V} {xs : List T}, oTs vs = some xs → xs.length = vs.length ∧ ∀ (j : Nat) x, xs[j]? = some x → ∃ v, vs[j]? = some v ∧ oT v = some x
  | [], xs, hx => by simp only [oTs] at hx; cases hx; exact ⟨rfl, fun j x hj => by simp at hj⟩
  | v :: vs, xs, hx => by
    simp only [oTs] at hx
    split at hx
    · rename_i y h1
      split at hx
      · rename_i xs' h2
        cases hx
        obtain ⟨k1, k2⟩ := iq h2
        refine ⟨by simp [k1], fun j x hj => ?_⟩
        cases j with
        | zero => simp at hj; subst hj; exact ⟨v, rfl, h1⟩
        | succ j => simpa using k2 j x (by simpa using hj)
      · cases hx
    · cases hx
theorem fX : ∀ {es : List (List V)} {xs : List (List T)}, Td es = some xs → xs.length = es.length ∧ ∀ (i : Nat) ys, xs[i]? = some ys → ∃ cs, es[i]? = some cs ∧ oTs cs = some ys
  | [], xs, hx => by simp only [Td] at hx; cases hx; exact ⟨rfl, fun i ys hi => by simp at hi⟩
  | c :: cs, xs, hx => by
    simp only [Td] at hx
    split at hx
    · rename_i y h1
      split at hx
      · rename_i xs' h2
        cases hx
        obtain ⟨k1, k2⟩ := fX h2
        refine ⟨by simp [k1], fun i ys hi => ?_⟩
        cases i with
        | zero => simp at hi; subst hi; exact ⟨c, rfl, h1⟩
        | succ i => simpa using k2 i ys (by simpa using hi)
      · cases hx
    · cases hx
theorem S2 (hS : St w F ρ Ow h) (r i : Nat) (c : Nat × Bool) : St w F ρ Ow (qi r i c h) := by
  unfold qi
  split
  rotate_left
  · exact hS
  rename_i sz es hb
  split
  rotate_left
  · exact hS
  rename_i cs hi
  obtain ⟨φ, hφ⟩ := hS.own
  -- the row's own place
  have hLrow : ∀ v0, cs[c.1]? = some v0 → ∃ L, ρ r = some (some L) ∧ ∀ u, cellAt w L i c.1 u → RV w F ρ u v0 := fun v0 hj => by
    rcases hS.blk r _ hb with ⟨L, q1, q2, q3, q4, q5⟩ | ⟨_, q1⟩
    · refine ⟨L, q1, fun u hu => ?_⟩
      obtain ⟨_, _, cc, el, fr, hh, _, _, _, hc⟩ := q3
      obtain ⟨u', hu', hr⟩ := hc i c.1 cs v0 hi hj
      obtain ⟨c1, e1, f1, p1, p2⟩ := hu
      rw [hh] at p1; cases p1
      rw [hu'] at p2; cases p2; exact hr
    · subst q1; simp at hi
  split
  · -- a nil slice
    rename_i sz' hj
    obtain ⟨L, hL, hu⟩ := hLrow _ hj
    exact eU hS hφ (q := none) (S := fun _ => False) (x0 := .list sz' []) hb hi hj (fun x e => by cases e) hL (fun u hu' => by have := hu u hu'; cases this; exact .empty _ _ _) (fun r' e => by cases e) (fun m hm => hm.elim) (fun m k a b hm => hm.elim) (fun m k b0 L0 hm => hm.elim)
  · rename_i r' off len cap hj
    obtain ⟨L, hL, hu⟩ := hLrow _ hj
    split
    rotate_left
    · exact hS
    rename_i hc
    obtain ⟨rfl, hne⟩ := hc
    have main : ∀ (blk : Blk) (sz' : Nat) (xs : List (List T)), h[r']? = some blk → writes blk = true → xs.length = len →
        ((∃ L', ρ r' = some (some L') ∧ L'.sz = sz' ∧ xs.length = L'.n ∧ (∀ e ∈ xs, e.length = L'.sz) ∧ ∃ cc el fr, w.heap[L'.b]? = some (.cells cc el fr) ∧ cc.size = L'.z ∧ (∀ k, k < cc.size → ¬(fr.1 ≤ k ∧ k < fr.2)) ∧ L'.o + L'.n * L'.sz ≤ L'.z ∧
          ∀ a b cs' x, xs[a]? = some cs' → cs'[b]? = some x → ∃ u, cc[L'.o + (a * L'.sz + b)]? = some u ∧ RO w u x (φ r' a b)) ∨ (ρ r' = some none ∧ xs = [])) →
        St w F ρ Ow ((h.set r (.vs sz (xD es i c.1 cs (.o (.list sz' xs))))).set r' .dead) := by
      intro blk sz' xs hb' hw hlen hplace
      have := eU hS hφ (q := some r') (S := fun m => (∃ L', ρ r' = some (some L') ∧ m = L'.b) ∨ ∃ a b, φ r' a b m) (x0 := .list sz' xs) hb hi hj (fun x e => by cases e) hL (fun u hu' => ?_) (fun r'' e => by cases e; exact hne) (fun m hm => ?_) (fun m k a b hm hx => ?_) (fun m k b0 L0 hm h1 h2 h3 h4 => ?_)
      · exact this
      · have hrv := hu u hu'
        rcases hplace with ⟨L', p1, p2, p3, p4, cc, el, fr, p5, p6, p7, p8, p9⟩ | ⟨p1, p2⟩
        · cases hrv with
          | slP _ _ a hρ => rw [p1] at hρ; cases hρ
          | sl _ _ _ _ L1 a c' hρ ha hl hn hc0 hc1 hz =>
            rw [p1] at hρ; cases hρ
            by_cases hc0' : c' = 0
            · subst hc0'
              have : len = 0 := by omega
              have hx0 : xs = [] := List.eq_nil_of_length_eq_zero (by omega)
              subst hx0; subst this
              exact .empty a sz' _
            · obtain rfl := ha.resolve_right hc0'
              subst p2
              rw [show len = L'.n by omega]
              simp only [Nat.zero_mul, Nat.add_zero, Nat.zero_add] at hz ⊢
              refine .list L' c' xs _ cc el fr (fun a b => (cc[L'.o + (a * L'.sz + b)]?).getD undef) (fun a b => φ r' a b) p3 p4 (by omega) hz p5 p6 p7 p8 (fun a b cs' x h1 h2 => ?_) (fun a b cs' x h1 h2 => ?_) (.inl ⟨L', p1, rfl⟩) (fun a b m hm => ⟨.inr ⟨a, b, hm⟩, fun e => hφ.apart r' a b m r' blk L' hm hb' hw p1 e.symm⟩) (fun a b a' b' m h1 h2 => (hφ.sep r' a b r' a' b' m h1 h2).2)
              · obtain ⟨u, hu, _⟩ := p9 a b cs' x h1 h2; simp [hu]
              · obtain ⟨u, hu, hr⟩ := p9 a b cs' x h1 h2; simpa [hu] using hr
        · subst p2
          cases hrv with
          | slP _ _ a hρ => exact .empty a sz' _
          | sl _ _ _ _ L1 a c' hρ => rw [p1] at hρ; cases hρ
      · rcases hm with ⟨L', p1, rfl⟩ | ⟨a, b, hm⟩
        · exact (hS.blk r' blk hb').vn hw p1
        · exact (hφ.act r' a b m hm).2
      · rcases hm with ⟨L', p1, rfl⟩ | ⟨a', b', hm⟩
        · exact absurd rfl (hφ.apart k a b L'.b r' blk L' hx hb' hw p1)
        · rw [(hφ.sep r' a' b' k a b m hm hx).1]
      · rcases hm with ⟨L', p1, rfl⟩ | ⟨a', b', hm⟩
        · exact fun e => h4 (by rw [hS.inj k r' b0 blk L0 L' h1 hb' h2 hw h3 p1 e])
        · exact hφ.apart r' a' b' m k b0 L0 hm h1 h2 h3
    split
    · rename_i sz' es' hb'
      split
      · rename_i hc
        refine main _ sz' es' hb' rfl hc.1 ((hS.blk r' _ hb').imp (fun ⟨L', q1, q2, q3, _⟩ => ?_) id)
        obtain ⟨k1, k2, cc, el, fr, k3, k4, k5, k6, k7⟩ := q3
        exact ⟨L', q1, q2, k1, k2, cc, el, fr, k3, k4, k5, k6, fun a b cs' x h1 h2 => by
          obtain ⟨u, hu, hr⟩ := k7 a b cs' x h1 h2
          obtain ⟨f1, f2⟩ := ix hc.2 h1 h2
          exact ⟨u, hu, .flat _ _ _ f2 f1 (sv hr f1)⟩⟩
      · exact hS
    · rename_i sz' es' hb'
      split
      · rename_i hlen
        split
        · rename_i xs hxs
          obtain ⟨e1, e2⟩ := fX hxs
          refine main _ sz' xs hb' rfl (by omega) ((hS.blk r' _ hb').imp (fun ⟨L', q1, q2, q3, _⟩ => ?_) fun ⟨q1, q2⟩ => ⟨q1, by subst q2; simpa using e1⟩)
          obtain ⟨k1, k2, cc, el, fr, k3, k4, k5, k6, k7⟩ := q3
          refine ⟨L', q1, q2, by omega, fun e he => ?_, cc, el, fr, k3, k4, k5, k6, fun a b cs' x h1 h2 => ?_⟩
          · obtain ⟨a, ha⟩ := List.mem_iff_getElem?.1 he
            obtain ⟨cs', c1, c2⟩ := e2 a e ha
            rw [(iq c2).1]; exact k2 cs' (List.mem_of_getElem? c1)
          · obtain ⟨cs0, c1, c2⟩ := e2 a cs' h1
            obtain ⟨v, d1, d2⟩ := (iq c2).2 b x h2
            obtain ⟨u, hu, hr⟩ := k7 a b cs0 v c1 d1
            refine ⟨u, hu, ?_⟩
            cases v with
            | t y =>
              simp only [oT] at d2
              split at d2
              · rename_i hf
                simp only [Bool.and_eq_true, Bool.not_eq_true'] at hf
                cases d2
                cases hr with
                | t _ _ hr => exact .flat _ _ _ hf.2 hf.1 (sv hr hf.1)
              · cases d2
            | o y =>
              simp only [oT] at d2; cases d2
              obtain ⟨L1, u1, p1, ⟨c1', e1', f1', p2, p3⟩, p4⟩ := hφ.cell r' a b x ⟨_, es', cs0, hb', c1, d1⟩
              rw [q1] at p1; cases p1
              rw [k3] at p2; cases p2
              rw [hu] at p3; cases p3
              exact p4
            | nil sz'' =>
              simp only [oT] at d2; cases d2
              cases hr
              exact .empty _ _ _
            | _ => simp [oT] at d2
        · exact hS
      · exact hS
    · exact hS
  · exact hS
end Go.Proofs.YtmcephnfcciloaaGreatDoor.E
/- Operations where owned values are made: each is the machine's. Conditions: those of each lemma. -/
namespace Go.Proofs.YtmcephnfcciloaaGreatDoor.E
set_option linter.unusedVariables false
set_option linter.unusedSimpArgs false
variable {P : Program} {w : World} {F : Nat → Prop} {ρ : yn} {Ow : Own} {h : Heap}
theorem rW (hz : ∀ r, ¬ Ow.z r) (fold : Bool) (r i : Nat) : ∀ (cs : List (Nat × Bool)) {ρ : yn} {h : Heap}, St w F ρ Ow h → ∃ ρ', St w F ρ' Ow (xk fold r i cs h) ∧ Nxt Ow w F ρ w F ρ'
  | [], ρ, h, hS => ⟨ρ, hS, Nxt.refl _ _ _ _⟩
  | c :: cs, ρ, h, hS => by
    simp only [xk]
    cases fold with
    | true => exact rW hz true r i cs (S2 hS r i c)
    | false =>
      obtain ⟨ρ1, k1, k2⟩ := Tk hS hz r i c
      obtain ⟨ρ2, k3, k4⟩ := rW hz false r i cs k1
      exact ⟨ρ2, k3, k2.trans k4⟩
theorem UQ (hz : ∀ r, ¬ Ow.z r) (e : Env) : ∀ (gs : List Gh) {ρ : yn} {h : Heap}, St w F ρ Ow h → ∃ ρ', St w F ρ' Ow (ghH gs e h) ∧ Nxt Ow w F ρ w F ρ'
  | [], ρ, h, hS => ⟨ρ, hS, Nxt.refl _ _ _ _⟩
  | g :: gs, ρ, h, hS => by
    simp only [ghH]
    have one : ∃ ρ', St w F ρ' Ow (vL g e h) ∧ Nxt Ow w F ρ w F ρ' := by
      unfold vL
      split
      · exact rW hz _ _ _ _ hS
      · exact ⟨ρ, hS, Nxt.refl _ _ _ _⟩
    obtain ⟨ρ1, k1, k2⟩ := one
    obtain ⟨ρ2, k3, k4⟩ := UQ hz e gs k1
    exact ⟨ρ2, k3, k2.trans k4⟩
mutual
theorem aw {F' : Nat → Prop} : ∀ (v : V) {u : Value}, RV w F' ρ u v → xo v = true → RV w F ρ u v
  | .t x, u, hu, hx => by
    simp only [xo, Bool.and_eq_true] at hx
    cases hu with
    | t _ _ hy => exact .t _ _ (sv hy hx.1)
  | .nil sz, u, hu, hx => by cases hu; exact .nil sz
  | .sl r off len cap, u, hu, hx => by
    cases hu with
    | sl r off len cap L a c hρ ha hl hn hc0 hc1 hz => exact .sl r off len cap L a c hρ ha hl hn hc0 hc1 hz
    | slP r cap a hρ hc => exact .slP r cap a hρ hc
  | .agg cs, u, hu, hx => by
    simp only [xo] at hx
    cases hu with
    | agg vs cs g hs hg hr => exact RV.gd (mX cs (xG hs hg hr) hx)
  | .tup cs, u, hu, hx => by
    simp only [xo] at hx
    cases hu with
    | tup vs cs g hs hg hr => exact RV.dV (mX cs (xG hs hg hr) hx)
  | .o x, u, hu, hx => .o _ _
  | .ptr r i j, u, hu, hx => by simp [xo] at hx
  | .fn f cs, u, hu, hx => by simp [xo] at hx
  | .und, u, hu, hx => by simp [xo] at hx
  | .bad, u, hu, hx => by simp [xo] at hx
theorem mX {F' : Nat → Prop} : ∀ (vs : List V) {us : List Value}, RVs w F' ρ us vs → xo.rowTs vs = true → RVs w F ρ us vs
  | [], us, hu, hx => by cases hu; exact .nil
  | v :: vs, us, hu, hx => by
    simp only [xo.rowTs, Bool.and_eq_true] at hx
    cases hu with
    | cons h1 h2 => exact .cons (aw v h1 hx.1) (mX vs h2 hx.2)
end
theorem ku : ∀ {vs : List V}, xo.rowTs vs = true → ∀ {j : Nat} {v : V}, vs[j]? = some v → xo v = true
  | [], _, j, v, hj => by simp at hj
  | x :: vs, h, j, v, hj => by
    simp only [xo.rowTs, Bool.and_eq_true] at h
    cases j with
    | zero => simp at hj; subst hj; exact h.1
    | succ j => exact ku h.2 (by simpa using hj)
theorem ax {F' : Nat → Prop} {u : Value} {v : V} (hu : RV w F' ρ u v) (hx : xo v = true) : RV w F ρ u v := aw v hu hx
/-- rows of a call's own, seen by its caller -/
theorem Tq {F' : Nat → Prop} {Ow2 : Own} (hS : St w F' ρ Ow h) (hrow : h.all sB = true) {n : Nat} (hF : ∀ b, F b → b < n) (hOw : ∀ b, Ow b → n ≤ b) (hOO : ∀ b, Ow b → Ow2 b) (hn : n ≤ w.heap.size) : St w F ρ Ow2 h := by
  have hnF : ∀ b, Ow b → ¬ F b := fun b hb hx => by have := hF b hx; have := hOw b hb; omega
  refine ⟨fun r b hr => ?_, hS.inj, fun b hb => Nat.lt_of_lt_of_le (hF b hb) hn, hS.out, ?_⟩
  · have hb := hS.blk r b hr
    have hrb := List.all_eq_true.1 hrow b (List.mem_of_getElem? hr)
    cases b with
    | ts sz es =>
      rcases hb with ⟨L, h1, h2, h3, h4, h5⟩ | hb
      · refine .inl ⟨L, h1, h2, ?_, hnF _ h5, hOO _ h5⟩
        obtain ⟨k1, k2, cc, el, fr, k3, k4, k5, k6, k7⟩ := h3
        exact ⟨k1, k2, cc, el, fr, k3, k4, k5, k6, fun i j cs x hi hj => by
          obtain ⟨u, hu, hr⟩ := k7 i j cs x hi hj
          exact ⟨u, hu, sv hr (ix hrb hi hj).1⟩⟩
      · exact .inr hb
    | vs sz es =>
      rcases hb with ⟨L, h1, h2, h3, h4, h5⟩ | hb
      · refine .inl ⟨L, h1, h2, ?_, hnF _ h5, hOO _ h5⟩
        obtain ⟨k1, k2, cc, el, fr, k3, k4, k5, k6, k7⟩ := h3
        exact ⟨k1, k2, cc, el, fr, k3, k4, k5, k6, fun i j cs x hi hj => by
          obtain ⟨u, hu, hr⟩ := k7 i j cs x hi hj
          exact ⟨u, hu, ax hr (ku (List.all_eq_true.1 hrb cs (List.mem_of_getElem? hi)) hj)⟩⟩
      · exact .inr hb
    | fz sz es => simp [sB] at hrb
    | dead => trivial
  · obtain ⟨φ, hφ⟩ := hS.own
    exact ⟨φ, hφ.cell, fun r i j b hb => by
      obtain ⟨k1, k2, k3, k4⟩ := hφ.act r i j b hb
      exact ⟨k1, hnF b k3, hOO b k3, k4⟩, hφ.sep, hφ.apart⟩
theorem Un (hF : ∀ b, F b → b < w.heap.size) : St w F y7 Ow [] :=
  ⟨fun r b hr => by simp at hr, fun r r' b b' L L' hr => by simp at hr, hF, fun _ _ => rfl, fun _ _ _ _ => False, ⟨fun r i j x ho => by obtain ⟨_, _, _, h1, _⟩ := ho; simp at h1, fun _ _ _ _ h => h.elim, fun _ _ _ _ _ _ _ h => h.elim, fun _ _ _ _ _ _ _ h => h.elim⟩⟩
theorem RY (hS : St w F ρ Ow h) (hO : ∀ b, w.heap.size ≤ b → Ow b) (hz : ∀ r, ¬ Ow.z r) {rec : Rec} {W0 : World} (hB : vq W0 w F) (hrec : we P W0 rec) {g : Nat} {args : List V} {v : V} {h' : Heap} (hc : pw rec g args h = some (v, h')) {us : Array Value} (hu : RVs w F ρ us.toList args) :
    (∃ fn, P.funcs[g]? = some fn ∧ (fn.name == "runtime.NumGoroutine") = false ∧ fn.body.isNone = false) ∧
    Calls P g us w fun e w' => ∃ u F' ρ', e = .returned u ∧ RV w' F' ρ' u v ∧ St w' F' ρ' Ow h' ∧ Nxt Ow w F ρ w' F' ρ' := by
  unfold pw at hc
  split at hc
  rotate_left
  · cases hc
  rename_i az has
  split at hc
  rotate_left
  · cases hc
  rename_i v0 h1 hr
  split at hc
  rotate_left
  · cases hc
  rename_i hfl
  simp only [Bool.and_eq_true] at hfl
  obtain ⟨e1, e2⟩ := hrec.opn false g _ _ _ _ hr
  have hk := vG (ρ' := y7) hS (F' := fun b => b < w.heap.size) (fun b hb => hb) args hu has
  refine ⟨e1, (e2 (own fun b => w.heap.size ≤ b) w (fun b => b < w.heap.size) y7 us ⟨hB.size, fun b hb => Nat.lt_of_lt_of_le hb hB.size, hB.heap⟩ (Un fun b hb => hb) (OkC.own _ fun b hb => hb) hk).mono ?_⟩
  rintro e w' ⟨u, F', ρ', rfl, h2, h3, h4, h5⟩
  obtain ⟨φ, hφ⟩ := hS.own
  have hsub : ∀ b, (own fun b => w.heap.size ≤ b) b → (wK Ow w (yj ρ []) (w7 [] h) (qd [] φ)) b := fun b hb => ⟨hO b hb, .inl hb⟩
  have hsup : ∀ b, (wK Ow w (yj ρ []) (w7 [] h) (qd [] φ)) b → w.heap.size ≤ b := fun b hb => by
    obtain ⟨_, hb | ⟨i, bl, L, hi, _⟩ | ⟨r, i, j, k, hk, _⟩⟩ := hb
    · exact hb
    · simp [w7] at hi
    · simp at hk
  have hS1 := Tq (F := F) h3 hfl.2 (n := w.heap.size) hS.fsz (fun b hb => hb) hsub h4.size
  have hu1 : RV w' F ρ' u v0 := ax h2 hfl.1
  have hN : Nxt (wK Ow w (yj ρ []) (w7 [] h) (qd [] φ)) w F y7 w' F y7 :=
    ⟨h4.os, h4.tape, h4.output, h4.size, fun b hb hno => h4.keep b hb (Nat.not_le.2 hb), fun b hb => h4.agree b (hS.fsz b hb), fun b hb => hb, fun b hb => .inl hb, Ext.refl _, fun _ _ => rfl⟩
  obtain ⟨ρ2, k1, k2, k3⟩ := kI (N := none) (ids := []) (by simp) hS hφ (fun r hr => absurd hr (hz r)) hc hu1 hS1 hN (fun r l hr => by simp at hr)
  exact ⟨u, F, ρ2, rfl, k1, k2, k3⟩
theorem Rp {pol : Pol} {rec : Rec} {W0 : World} (hB : vq W0 w F) (hrec : we P W0 rec) {f : Nat} {o : Oper} {e : Env} {v : V} {h' : Heap} (hev : xc P pol rec f o e h = some (v, h')) (hS : St w F ρ Ow h) (hO : OkC Ow w) {a : Act} (he : RE w F ρ a e)
    {K : Act → World → Prop} {Q : Exit → Act → World → Prop} (hK : XO Ow w F ρ v h' fun u w' => K (a.put o.dst u) w') : o.wp P a w K Q := by
  obtain ⟨dst, op, ty, pos, after, guard⟩ := o
  cases op with
  | buildSlice t len parts =>
    simp only [xc] at hev
    split at hev
    · rename_i el hel
      split at hev
      · cases hev
      · rename_i hc
        simp only [not_or, Bool.not_eq_true, Option.isNone_eq_false_iff] at hc
        obtain ⟨c1, c2, c3, c4, _⟩ := hc
        split at hev
        · rename_i css hf
          cases hev
          obtain ⟨zs, hz⟩ := Option.isSome_iff_exists.1 c4
          have hp := qH (P := P) he (fun _ => el) parts.toList
          have hl : (xf P e (fun _ => el) parts.toList).length = len := by
            have := y8 hp
            simp at this
            simp only [ne_eq, Decidable.not_not] at c3
            omega
          have := nG (ps := parts.map fun (i, x) => (i, a.eval x)) hS hO hel (by simpa using hp) c1 (by rw [hl]; exact c2) hf hz
          rw [hl] at this
          exact xN rfl this hK
        · cases hev
    · cases hev
  | makeSlice t l c =>
    simp only [xc] at hev
    split at hev
    · rename_i el k n k' m hel hl hc
      split at hev
      · rename_i zs hz
        split at hev
        · cases hev
        · rename_i hcond
          simp only [not_or, ne_eq, Decidable.not_not, gt_iff_lt, Nat.not_lt] at hcond
          obtain ⟨c1, c2, c3, c4, c5, c6⟩ := hcond
          cases hev
          have hlv := yG (P := P) he 0 l
          have hcv := yG (P := P) he 0 c
          rw [hl] at hlv
          rw [hc] at hcv
          subst c3
          have e1 := tM hlv
          have e2 := tM hcv
          obtain ⟨n', rfl⟩ := Int.eq_ofNat_of_zero_le (show 0 ≤ n by omega)
          simp only [Int.toNat_natCast] at *
          refine xN (s := Instr.makeSlice t (a.eval l) (a.eval c)) rfl ?_ hK
          rw [e1, e2]
          exact Wc hS hO hel hz c1 c4 c5
      · cases hev
    · cases hev
  | call c =>
    obtain ⟨callee, args, tys⟩ := c
    cases callee with
    | builtin b =>
      simp only [xc] at hev
      have hargs := tH (P := P) he args.toList tys.toList
      split at hev
      · rename_i s x t u hx htys
        rw [hx] at hargs
        cases hau : args.toList with
        | nil => rw [hau] at hargs; cases hargs
        | cons y ys =>
          rw [hau] at hargs
          simp only [List.map_cons] at hargs
          cases hargs with
          | cons h1 h2 =>
          cases ys with
          | nil => cases h2
          | cons y2 ys =>
          simp only [List.map_cons] at h2
          cases h2 with
          | cons h3 h4 =>
          cases ys with
          | cons => cases h4
          | nil =>
          have hA : args = #[y, y2] := by apply Array.ext'; simpa using hau
          have hT : tys = #[t, u] := by apply Array.ext'; simpa using htys
          subst hA hT
          refine xN (s := Builtin.append_ #[t, u] ty #[a.eval y, a.eval y2]) ?_ (SB hS hO hev h1 h3 ty) hK
          simp [execOp, resolve, invoke, builtin]
      · cases hev
    | value x =>
      simp only [xc] at hev
      split at hev
      rotate_left
      · cases hev
      rename_i g caps hf
      obtain ⟨vs, hvs, hcaps⟩ := UR hf (yG (P := P) he 0 x)
      have hargs := tH (P := P) he args.toList tys.toList
      have hall : RVs w F ρ (args.map a.eval ++ vs).toList (yF P e args.toList tys.toList ++ caps) := by rw [Array.toList_append, Array.toList_map]; exact yK hargs hcaps
      have main : (∃ fn, P.funcs[g]? = some fn ∧ (fn.name == "runtime.NumGoroutine") = false ∧ fn.body.isNone = false) ∧
          Calls P g (args.map a.eval ++ vs) w fun e w' => ∃ u F' ρ', e = .returned u ∧ RV w' F' ρ' u v ∧ St w' F' ρ' Ow h' ∧ Nxt Ow w F ρ w' F' ρ' := by
        split at hev
        · exact RY hS hO.blk hO.z hB hrec hev hall
        · cases hev
      obtain ⟨⟨fn, f1, f2, f3⟩, hcall⟩ := main
      unfold Oper.wp
      have hex : (execOp a.eval ⟨dst, .call ⟨.value x, args, tys⟩, ty, pos, after, guard⟩).run P w = .ok (.enter g (args.map a.eval ++ vs)) w := by
        simp only [execOp, resolve, hvs, Deferred.ofValue, Sem.run_bind, Sem.run_pure, Result.andThen_ok, invoke, Array.empty_append]
        exact df f1 f2 f3
      rw [hex, Oper.upon_enter]
      refine hcall.mono ?_
      rintro e' w' ⟨u, F', ρ', rfl, k1, k2, k3⟩
      exact hK w' F' ρ' u k1 k2 k3
    | invoke r m => simp [xc] at hev
  | _ => simp [xc] at hev
theorem Rr {pol : Pol} {rec : Rec} {W0 : World} (hB : vq W0 w F) (hrec : we P W0 rec) {f : Nat} {o : Oper} {e : Env} {v : V} {h' : Heap} (hev : vN P pol rec f o e h = some (v, h')) (hS : St w F ρ Ow h) (hO : OkC Ow w) {a : Act} (he : RE w F ρ a e)
    {K : Act → World → Prop} {Q : Exit → Act → World → Prop} (hK : XO Ow w F ρ v h' fun u w' => K (a.put o.dst u) w') : o.wp P a w K Q := by
  unfold vN at hev
  split at hev
  · split at hev
    · rename_i r hr
      cases hev
      exact Rp hB hrec hr hS hO he hK
    · exact T5 hB hrec (by rw [hO.n]; exact hev) hS hO.op (fun r hr => absurd hr (hO.z r)) he hK
  · exact T5 hB hrec (by rw [hO.n]; exact hev) hS hO.op (fun r hr => absurd hr (hO.z r)) he hK
end Go.Proofs.YtmcephnfcciloaaGreatDoor.E
/- The evaluator's regions and code are those of the machine. Conditions: those of each lemma. -/
namespace Go.Proofs.YtmcephnfcciloaaGreatDoor.E
set_option linter.unusedVariables false
set_option linter.unusedSimpArgs false
variable {P : Program} {w : World} {F : Nat → Prop} {ρ : yn} {Ow : Own} {h : Heap}
theorem iS {a : Act} {e : Env} (he : RE w F ρ a e) {dst : Option Nat} (hd : ∀ d, dst = some d → d < a.tmps.size) {u : Value} {v : V} (hu : RV w F ρ u v) : RE w F ρ (a.put dst u) (put e dst v) := by
  intro t
  cases dst with
  | none => exact he t
  | some d =>
    have hd' := hd d rfl
    simp only [Act.put, put, upd, Array.getD_eq_getD_getElem?]
    by_cases ht : t = d
    · subst ht; simp [hd', hu]
    · have := he t
      simp only [Array.getD_eq_getD_getElem?] at this
      simp [ht, Array.getElem?_setIfInBounds_ne (Ne.symm ht), this]
theorem Nxt.re {w' : World} {F' : Nat → Prop} {ρ' : yn} (hN : Nxt Ow w F ρ w' F' ρ') {a : Act} {e : Env} (he : RE w F ρ a e) : RE w' F' ρ' a e := fun t => hN.rv (he t)
theorem qG (a : Act) (dst : Option Nat) (u : Value) : (a.put dst u).tmps.size = a.tmps.size ∧ (a.put dst u).defers = a.defers := by
  cases dst <;> simp [Act.put]
theorem nq {ops : Array Oper} {o : Oper} {e : Env} {b : Bool} (hw : want ops o e = some b) {a : Act} (he : RE w F ρ a e) : Region.wanted o (yielded ops a.tmps) = b := by
  unfold want at hw
  unfold Region.wanted
  split at hw
  · rename_i hg; cases hw; rw [hg]
  · rename_i j c hg
    rw [hg]
    simp only
    split at hw
    · rename_i d hd
      have hr := he d
      simp only [yielded, hd, Option.bind_some]
      split at hw
      · rename_i c' hc
        rw [hc] at hr
        have := ic hr
        cases hw
        rw [Array.getD_eq_getD_getElem?] at this
        cases ht : a.tmps[d]? with
        | none => rw [ht] at this; simp [undef] at this
        | some x => rw [ht] at this; simp at this; subst this; simp
      · rename_i hc
        rw [hc] at hr
        cases hw
        have hund : a.tmps.getD d undef = undef := by
          generalize hgx : a.tmps.getD d undef = z at hr
          cases hr; rfl
        rw [Array.getD_eq_getD_getElem?] at hund
        cases ht : a.tmps[d]? with
        | none => simp
        | some x => rw [ht] at hund; simp [undef] at hund; subst hund; simp
      · cases hw
    · cases hw
/-- the operations at places, in order -/
def jW (P : Program) (pol : Pol) (rec : Rec) (f : Nat) (ops : Array Oper) : List Nat → Env → Heap → Option (Env × Heap)
  | [], e, h => some (e, h)
  | i :: rest, e, h => match ops[i]? with
    | some o => match wP P pol rec f ops o e h with
      | some (e', h') => jW P pol rec f ops rest e' h'
      | none => none
    | none => none
theorem dd {pol : Pol} {rec : Rec} {f : Nat} {ops : Array Oper} : ∀ (l : List Nat) (os : List Oper) (e : Env) (h : Heap), l.map (ops[·]?) = os.map some → qe P pol rec f ops os e h = jW P pol rec f ops l e h
  | [], [], e, h, _ => rfl
  | [], _ :: _, e, h, hl => by simp at hl
  | _ :: _, [], e, h, hl => by simp at hl
  | i :: l, o :: os, e, h, hl => by
    simp only [List.map_cons, List.cons.injEq] at hl
    simp only [qe, jW, hl.1]
    cases wP P pol rec f ops o e h with
    | none => rfl
    | some x => exact dd l os x.1 x.2 hl.2
theorem pD (ops : Array Oper) : (List.range ops.size).map (ops[·]?) = ops.toList.map some := by
  apply List.ext_getElem?
  intro i
  by_cases hi : i < ops.size
  · simp [hi]
  · simp [hi]
/-- a region's slots lie within the frame -/
def pt (n : Nat) (ops : Array Oper) : Bool := ops.toList.all fun o => match o.dst with | some d => decide (d < n) | none => true
theorem jm {n : Nat} {ops : Array Oper} (hd : pt n ops = true) {i : Nat} {o : Oper} (ho : ops[i]? = some o) : ∀ d, o.dst = some d → d < n := fun d hdst => by
  have := List.all_eq_true.1 hd o (by rw [Array.mem_toList_iff]; exact Array.mem_of_getElem? ho)
  rw [hdst] at this
  simpa using this
/-- what code leaves behind -/
def qg (Ow : Own) (w : World) (F : Nat → Prop) (ρ : yn) (n : Nat) (e' : Env) (h' : Heap) (K : Act → World → Prop) : Prop :=
  ∀ a' w' F' ρ', RE w' F' ρ' a' e' → St w' F' ρ' Ow h' → Nxt Ow w F ρ w' F' ρ' → a'.tmps.size = n → a'.defers = [] → K a' w'
theorem qg.step {w1 : World} {F1 : Nat → Prop} {ρ1 : yn} {n : Nat} {e' : Env} {h' : Heap} {K : Act → World → Prop} (hK : qg Ow w F ρ n e' h' K) (hN : Nxt Ow w F ρ w1 F1 ρ1) : qg Ow w1 F1 ρ1 n e' h' K :=
  fun a' w' F' ρ' h1 h2 h3 h4 h5 => hK a' w' F' ρ' h1 h2 (hN.trans h3) h4 h5
theorem Rs {pol : Pol} {rec : Rec} {W0 : World} (hB : vq W0 w F) (hrec : we P W0 rec) {f : Nat} {ops : Array Oper} {i : Nat} {o : Oper} (ho : ops[i]? = some o) {e e' : Env} {h' : Heap} (hev : tQ P pol rec f Ow.N ops o e h = some (e', h')) (hS : St w F ρ Ow h) (hO : OkO Ow w ρ h) (hz : ∀ r, Ow.z r → r < h.length)
    {a : Act} (he : RE w F ρ a e) {n : Nat} (hn : a.tmps.size = n) (hd : a.defers = []) (hdst : pt n ops = true) {Q : Exit → Act → World → Prop} {K : Act → World → Prop} (hK : qg Ow w F ρ n e' h' K) : wpOp P ops Q i K a w := by
  have hdo : ∀ d, o.dst = some d → d < a.tmps.size := fun d hx => by rw [hn]; exact jm hdst ho d hx
  unfold tQ at hev
  unfold wpOp
  simp only [ho]
  split at hev
  · rename_i hw
    rw [nq hw he]
    simp only [if_true]
    split at hev
    · rename_i v h1 hop
      cases hev
      left
      refine T5 hB hrec hop hS hO hz he fun w' F' ρ' u h1 h2 h3 => ?_
      obtain ⟨s1, s2⟩ := qG a o.dst u
      exact hK _ w' F' ρ' (iS (h3.re he) hdo h1) h2 h3 (s1.trans hn) (s2.trans hd)
    · cases hev
  · rename_i hw
    cases hev
    rw [nq hw he]
    simp only [Bool.false_eq_true, if_false]
    obtain ⟨s1, s2⟩ := qG a o.dst undef
    exact hK _ w F ρ (iS he hdo .und) hS (Nxt.refl _ _ _ _) (s1.trans hn) (s2.trans hd)
  · cases hev
theorem aH {pol : Pol} {rec : Rec} {W0 : World} (hB : vq W0 w F) (hrec : we P W0 rec) {f : Nat} {ops : Array Oper} {i : Nat} {o : Oper} (ho : ops[i]? = some o) {e e' : Env} {h' : Heap} (hev : wP P pol rec f ops o e h = some (e', h')) (hS : St w F ρ Ow h) (hO : OkC Ow w)
    {a : Act} (he : RE w F ρ a e) {n : Nat} (hn : a.tmps.size = n) (hd : a.defers = []) (hdst : pt n ops = true) {Q : Exit → Act → World → Prop} {K : Act → World → Prop} (hK : qg Ow w F ρ n e' h' K) : wpOp P ops Q i K a w := by
  have hdo : ∀ d, o.dst = some d → d < a.tmps.size := fun d hx => by rw [hn]; exact jm hdst ho d hx
  unfold wP at hev
  unfold wpOp
  simp only [ho]
  split at hev
  · rename_i hw
    rw [nq hw he]
    simp only [if_true]
    split at hev
    · rename_i v h1 hop
      cases hev
      left
      refine Rr hB hrec hop hS hO he fun w' F' ρ' u h1 h2 h3 => ?_
      obtain ⟨s1, s2⟩ := qG a o.dst u
      exact hK _ w' F' ρ' (iS (h3.re he) hdo h1) h2 h3 (s1.trans hn) (s2.trans hd)
    · cases hev
  · rename_i hw
    cases hev
    rw [nq hw he]
    simp only [Bool.false_eq_true, if_false]
    obtain ⟨s1, s2⟩ := qG a o.dst undef
    exact hK _ w F ρ (iS he hdo .und) hS (Nxt.refl _ _ _ _) (s1.trans hn) (s2.trans hd)
  · cases hev
theorem UN {W0 : World} {pol : Pol} {rec : Rec} (hrec : we P W0 rec) {f : Nat} {ops : Array Oper} {n : Nat} (hdst : pt n ops = true) {Q : Exit → Act → World → Prop} : ∀ (l : List Nat) {w : World} {F : Nat → Prop} {ρ : yn} {h : Heap} {e e' : Env} {h' : Heap} {a : Act},
    jW P pol rec f ops l e h = some (e', h') → vq W0 w F → St w F ρ Ow h → OkC Ow w → RE w F ρ a e → a.tmps.size = n → a.defers = [] → qg Ow w F ρ n e' h' (Q .normal) → wpOps P ops Q l a w
  | [], w, F, ρ, h, e, e', h', a, hev, hB, hS, hO, he, hn, hd, hK => by
    simp only [jW] at hev; cases hev
    exact hK a w F ρ he hS (Nxt.refl _ _ _ _) hn hd
  | i :: rest, w, F, ρ, h, e, e', h', a, hev, hB, hS, hO, he, hn, hd, hK => by
    simp only [jW] at hev
    split at hev
    · rename_i o ho
      split at hev
      · rename_i e1 h1 h1ev
        rw [wpOps_cons]
        refine aH hB hrec ho h1ev hS hO he hn hd hdst fun a' w' F' ρ' k1 k2 k3 k4 k5 => ?_
        exact UN hrec hdst rest hev (hB.next k3) k2 (hO.mono k3.size) k1 k4 k5 (hK.step k3)
      · cases hev
    · cases hev
def oh (P : Program) (c : Code) (Q : Exit → Act → World → Prop) (a : Act) (w : World) : Prop :=
  ∀ (b : Frame) (k : List Item) (cs : List Frame), ∃ e a' w', Q e a' w' ∧ Arrives P (lone (b.at a (.inLoop c :: k)) cs w) b k cs e a' w'
theorem kS {c : Code} {Q : Exit → Act → World → Prop} {a : Act} {w : World} (hb : c.wp P (Exit.then (oh P c Q) Q) a w) (b : Frame) (k : List Item) (cs : List Frame) :
    ∃ e a' w', Q e a' w' ∧ Arrives P (lone (b.at a (.code c :: .inLoop c :: k)) cs w) b k cs e a' w' := by
  obtain ⟨e, a1, w1, hq, harr⟩ := hb b (.inLoop c :: k) cs
  cases e with
  | normal =>
    obtain ⟨e2, a2, w2, hq2, harr2⟩ := hq b k cs
    exact ⟨e2, a2, w2, hq2, .of_steps harr harr2⟩
  | exit id => exact ⟨.exit id, a1, w1, hq, fun k' hk => harr k' (by simpa [exitTo] using hk)⟩
  | goto l => exact ⟨.goto l, a1, w1, hq, fun k' hk => harr k' (by simpa [gotoIn] using hk)⟩
  | ret => exact ⟨.ret, a1, w1, hq, harr⟩
  | panic chain => exact ⟨.panic chain, a1, w1, hq, harr⟩
  | outgrown => exact ⟨.outgrown, a1, w1, hq, harr⟩
theorem TO {c : Code} {Q : Exit → Act → World → Prop} {a : Act} {w : World} (hb : c.wp P (Exit.then (oh P c Q) Q) a w) : (Code.loop c).wp P Q a w := fun b k cs => by
  obtain ⟨e, a', w', hq, harr⟩ := kS hb b k cs
  exact ⟨e, a', w', hq, .of_steps (.one step_loop) harr⟩
theorem cw {c : Code} {Q : Exit → Act → World → Prop} {a : Act} {w : World} (hb : c.wp P (Exit.then (oh P c Q) Q) a w) : oh P c Q a w := fun b k cs => by
  obtain ⟨e, a', w', hq, harr⟩ := kS hb b k cs
  exact ⟨e, a', w', hq, .of_steps (.one step_inLoop) harr⟩
/-- slots and their values -/
def uN (a : Act) (ss : List Nat) : List Value := ss.map fun t => a.tmps.getD t undef
theorem uc {a : Act} {e : Env} (he : RE w F ρ a e) : ∀ ss : List Nat, RVs w F ρ (uN a ss) (ss.map e)
  | [] => .nil
  | s :: ss => .cons (he s) (uc he ss)
theorem uP {a : Act} : ∀ (ss : List Nat) (vals : List V), RVs w F ρ (uN a ss) vals → RE w F ρ a (zf ss vals)
  | [], _, _ => fun t => by simp only [zf]; exact .bad _
  | s :: ss, [], hv => by cases hv
  | s :: ss, v :: vals, hv => by
    cases hv with
    | cons h1 h2 =>
      intro t
      simp only [zf, upd]
      split
      · rename_i e; subst e; exact h1
      · exact uP ss vals h2 t
theorem rp : ∀ (n m p : Nat), p ≤ n → p ≤ m → sy n p = sy m p
  | 0, 0, p, _, _ => rfl
  | 0, m + 1, p, h1, h2 => by have : p = 0 := by omega
                              subst this; simp [sy]
  | n + 1, 0, p, h1, h2 => by have : p = 0 := by omega
                              subst this; simp [sy]
  | n + 1, m + 1, p, h1, h2 => by
    simp only [sy]
    split
    · rfl
    · rw [rp n m (p / 2) (by omega) (by omega)]
theorem vF {p : Nat} (hp : 1 ≤ p) (d : Nat) (hd : d ≤ 1) : turns (2 * p + d) = turns p ++ [d == 1] := by
  unfold turns
  obtain ⟨n, hn⟩ : ∃ n, 2 * p + d = n + 1 := ⟨2 * p + d - 1, by omega⟩
  rw [hn]
  simp only [sy]
  rw [if_neg (by omega), ← hn, show (2 * p + d) / 2 = p by omega, show (2 * p + d) % 2 = d by omega, rp n p p (by omega) (Nat.le_refl _)]
theorem yJ : ∀ (ds : List Bool) (c c' : Code) (d : Bool), yL c ds = some c' → yL c (ds ++ [d]) = yL c' [d]
  | [], c, c', d, h => by simp only [yL] at h; cases h; rfl
  | x :: ds, c, c', d, h => by
    cases c with
    | seq a b => simp only [yL, List.cons_append] at h ⊢; exact yJ ds _ _ d h
    | cond o a b => simp only [yL, List.cons_append] at h ⊢; exact yJ ds _ _ d h
    | block id b => simp only [yL, List.cons_append] at h ⊢; exact yJ ds _ _ d h
    | loop b => simp only [yL, List.cons_append] at h ⊢; exact yJ ds _ _ d h
    | _ => simp [yL] at h
end Go.Proofs.YtmcephnfcciloaaGreatDoor.E
