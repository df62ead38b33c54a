/- Joined: E12D E12X. Conditions: those of each lemma. -/
import Derived.Test.YtijninlbpifonaaGreatDoorZD
set_option linter.unusedVariables false
set_option linter.unusedSimpArgs false
namespace Go.Proofs.YtijninlbpifonaaGreatDoor.E
set_option linter.unusedVariables false
set_option linter.unusedSimpArgs false
variable {P : Program} {w : World} {F : Nat → Prop} {ρ : yq} {Ow : Own} {h : Heap} {pol : Pol} {rec : Rec} {f : Nat} {N : Option Nat} {ops : Array Oper}
/-- two environments that agree where the operation looks -/
def wq (ops : Array Oper) (o : Oper) (e e' : Env) : Prop := ∀ t ∈ o.looksAt ops, e t = e' t
theorem wq.opv {o : Oper} {e e' : Env} (hs : wq ops o e e') (ty : TypeId) {x : Operand} (hx : x ∈ o.op.operands) : opv P e ty x = opv P e' ty x := by
 cases x with
 | tmp t =>
  refine hs t ?_
  simp only [Oper.looksAt, List.mem_append, List.mem_filterMap]
  exact .inl ⟨.tmp t, by simpa using hx, rfl⟩
 | _ => rfl
theorem wJ {e e' : Env} : ∀ (xs : List Operand) (ts : List TypeId), (∀ x ∈ xs, ∀ ty, opv P e ty x = opv P e' ty x) → yB P e xs ts = yB P e' xs ts
 | [], _, _ => rfl
 | x :: xs, [], h => by simp only [yB]; rw [h x (by simp), wJ xs [] fun y hy => h y (by simp [hy])]
 | x :: xs, t :: ts, h => by simp only [yB]; rw [h x (by simp), wJ xs ts fun y hy => h y (by simp [hy])]
theorem qf {e e' : Env} (x : Option Operand) (h : ∀ y, x = some y → opv P e 0 y = opv P e' 0 y) : rT P e x = rT P e' x := by
 cases x with
 | none => rfl
 | some y => simp only [rT, h y rfl]
theorem nY {o : Oper} {e e' : Env} (hs : wq ops o e e') : want ops o e = want ops o e' := by
 unfold want
 split
 · rfl
 · rename_i j b hg
   split
   · rename_i d hd
     have : d ∈ o.looksAt ops := by
      unfold Oper.looksAt
      rw [hg]
      simp only [hd, List.mem_append]
      exact .inr (by simp)
     rw [hs d this]
   · rfl
theorem vm {e e' : Env} (ty : Nat → TypeId) : ∀ (ps : List (Nat × Operand)), (∀ x ∈ ps.map (·.2), ∀ t, opv P e t x = opv P e' t x) → xc P e ty ps = xc P e' ty ps
 | [], _ => rfl
 | (i, x) :: r, h => by simp only [xc]; rw [h x (by simp), vm ty r fun y hy => h y (by simp at hy ⊢; exact .inr hy)]
theorem rZ {o : Oper} (hs : soft pol f o = true) : yF pol f o = true ∨ x7 pol f o = true := by simpa [soft] using hs
theorem qj {o : Oper} (hn : soft pol f o = true) {e e' : Env} (hs : wq ops o e e') : yf P pol rec f N o e h = yf P pol rec f N o e' h := by
 have ho : ∀ {x : Operand}, x ∈ o.op.operands → ∀ ty, opv P e ty x = opv P e' ty x := fun hx ty => hs.opv ty hx
 have hn' := rZ hn
 obtain ⟨dst, op, ty, pos, after, guard⟩ := o
 cases op with
 | move x => simp only [yf, ho (x := x) (by simp [Op.operands])]
 | assign x => simp only [yf, ho (x := x) (by simp [Op.operands])]
 | pick c a b => simp only [yf, ho (x := c) (by simp [Op.operands]), ho (x := a) (by simp [Op.operands]), ho (x := b) (by simp [Op.operands])]
 | alloc t => rfl
 | box t x => simp only [yf, ho (x := x) (by simp [Op.operands])]
 | buildSlice t len parts =>
  simp only [yf]
  cases yd P t with
  | none => rfl
  | some el => simp only; rw [vm _ parts.toList fun x hx t => ho (by simp only [Op.operands, List.mem_toArray]; exact hx) t]
 | build t parts =>
  simp only [yf]
  rw [vm _ parts.toList fun x hx t => ho (by simp only [Op.operands, List.mem_toArray]; exact hx) t]
 | makeSlice t l c => simp only [yf, ho (x := l) (by simp [Op.operands]), ho (x := c) (by simp [Op.operands])]
 | load t x => simp only [yf, ho (x := x) (by simp [Op.operands])]
 | binOp op t x y u => simp only [yf, ho (x := x) (by simp [Op.operands]), ho (x := y) (by simp [Op.operands])]
 | unOp op t x => simp only [yf, ho (x := x) (by simp [Op.operands])]
 | convert s d x => simp only [yf, ho (x := x) (by simp [Op.operands])]
 | slice t x lo hi mx =>
  simp only [yf, ho (x := x) (by simp [Op.operands])]
  rw [qf lo fun y hy => ho (by simp [Op.operands, hy]) 0, qf hi fun y hy => ho (by simp [Op.operands, hy]) 0, qf mx fun y hy => ho (by simp [Op.operands, hy]) 0]
 | nilCheck x => simp only [yf, ho (x := x) (by simp [Op.operands])]
 | fieldAddr s x i => simp only [yf, ho (x := x) (by simp [Op.operands])]
 | field s x i => simp only [yf, ho (x := x) (by simp [Op.operands])]
 | indexAddr t x i => simp only [yf, ho (x := x) (by simp [Op.operands]), ho (x := i) (by simp [Op.operands])]
 | index t x i => simp only [yf, ho (x := x) (by simp [Op.operands]), ho (x := i) (by simp [Op.operands])]
 | extract x i => simp only [yf, ho (x := x) (by simp [Op.operands])]
 | call c =>
  obtain ⟨callee, args, tys⟩ := c
  cases callee with
  | builtin b =>
   simp only [yf]
   rw [wJ args.toList tys.toList fun y hy ty => ho (by simpa [Op.operands, Call.operands] using hy) ty]
  | value x =>
   simp only [yf]
   rw [wJ args.toList tys.toList fun y hy ty => ho (by simp [Op.operands, Call.operands]; right; simpa using hy) ty, ho (x := x) (by simp [Op.operands, Call.operands])]
  | invoke r m => simp [yF, x7] at hn'
 | _ => simp [yF, x7] at hn'
theorem wh {e e' : Env} : ∀ (xs : List Operand), (∀ t, .tmp t ∈ xs → e t = e' t) → zd e xs = zd e' xs
 | [], _ => rfl
 | .tmp t :: r, h => by simp only [zd]; rw [h t (by simp), wh r fun t ht => h t (by simp [ht])]
 | .const _ :: r, h => by simp only [zd]; exact wh r fun t ht => h t (by simp [ht])
 | .func _ :: r, h => by simp only [zd]; exact wh r fun t ht => h t (by simp [ht])
 | .global _ :: r, h => by simp only [zd]; exact wh r fun t ht => h t (by simp [ht])
theorem wL {o : Oper} {e e' : Env} (hs : wq ops o e e') : yG N o e h = yG N o e' h := by
 unfold yG
 rw [wh _ fun t ht => hs t ?_]
 simp only [Oper.looksAt, List.mem_append, List.mem_filterMap]
 exact .inl ⟨.tmp t, ht, rfl⟩
structure xB (fp : List Nat) (h h1 h2 h3 : Heap) : Prop where
 l1 : h1.length = h.length
 l3 : h3.length = h2.length
 on : ∀ r ∈ fp, h3[r]? = h1[r]?
 off1 : ∀ r : Nat, r ∉ fp → h1[r]? = h[r]?
 off3 : ∀ r : Nat, r ∉ fp → h3[r]? = h2[r]?
theorem xB.same {fp : List Nat} {h2 : Heap} (ha : ∀ r ∈ fp, h2[r]? = h[r]?) : xB fp h h h2 h2 := ⟨rfl, rfl, ha, fun _ _ => rfl, fun _ _ => rfl⟩
theorem xB.mono {A B : List Nat} {h1 h2 h3 : Heap} (hl : xB A h h1 h2 h3) (hAB : ∀ r ∈ A, r ∈ B) (ha : ∀ r ∈ B, h2[r]? = h[r]?) : xB B h h1 h2 h3 := by
 refine ⟨hl.l1, hl.l3, fun r hr => ?_, fun r hr => hl.off1 r fun x => hr (hAB r x), fun r hr => hl.off3 r fun x => hr (hAB r x)⟩
 by_cases hA : r ∈ A
 · exact hl.on r hA
 · rw [hl.off3 r hA, hl.off1 r hA]; exact ha r hr
theorem xB.comp {A : List Nat} {h1 h2 h3 h1' h3' : Heap} (hl : xB A h h1 h2 h3) (hk : xB A h1 h1' h3 h3') : xB A h h1' h2 h3' :=
 ⟨hk.l1.trans hl.l1, hk.l3.trans hl.l3, hk.on, fun r hr => (hk.off1 r hr).trans (hl.off1 r hr), fun r hr => (hk.off3 r hr).trans (hl.off3 r hr)⟩
theorem xB.set {fp : List Nat} {h2 : Heap} {r : Nat} (hr : r ∈ fp) (hl : h2.length = h.length) (ha : ∀ r ∈ fp, h2[r]? = h[r]?) (b : Blk) : xB fp h (h.set r b) h2 (h2.set r b) := by
 refine ⟨by simp, by simp, fun k hk => ?_, fun k hk => ?_, fun k hk => ?_⟩
 · rw [List.getElem?_set, List.getElem?_set, hl, ha k hk]
 · exact List.getElem?_set_ne (fun e : r = k => hk (e ▸ hr))
 · exact List.getElem?_set_ne (fun e : r = k => hk (e ▸ hr))
mutual
theorem VB {fp : List Nat} : ∀ (v : V) {h h1 h2 : Heap} {v' : V}, h2.length = h.length → (∀ r ∈ refs v, r ∈ fp) → (∀ r ∈ fp, h2[r]? = h[r]?) → zC h v = some (v', h1) → ∃ h3, zC h2 v = some (v', h3) ∧ xB fp h h1 h2 h3
 | .sl r off len cap, h, h1, h2, v', hl, hf, ha, hg => by
  have hr : r ∈ fp := hf r (by simp [refs])
  simp only [zC] at hg ⊢
  rw [ha r hr]
  split at hg
  · rename_i sz es hb
    cases hg
    exact ⟨_, rfl, xB.set hr hl ha _⟩
  · rename_i sz es hb
    cases hg; exact ⟨_, rfl, xB.same ha⟩
  · rename_i sz es hb
    split at hg
    · rename_i xs hx
      cases hg
      exact ⟨_, rfl, xB.set hr hl ha _⟩
    · cases hg
  · cases hg
 | .nil sz, h, h1, h2, v', hl, hf, ha, hg => by simp only [zC] at hg ⊢; cases hg; exact ⟨_, rfl, xB.same ha⟩
 | .agg cs, h, h1, h2, v', hl, hf, ha, hg => by
  simp only [zC] at hg ⊢
  split at hg
  · rename_i cs' h1' hc
    cases hg
    obtain ⟨h3, e1, e2⟩ := sX cs hl (fun r hr => hf r (by simpa [refs] using hr)) ha hc
    exact ⟨h3, by rw [e1], e2⟩
  · cases hg
 | .tup cs, h, h1, h2, v', hl, hf, ha, hg => by
  simp only [zC] at hg ⊢
  split at hg
  · rename_i cs' h1' hc
    cases hg
    obtain ⟨h3, e1, e2⟩ := sX cs hl (fun r hr => hf r (by simpa [refs] using hr)) ha hc
    exact ⟨h3, by rw [e1], e2⟩
  · cases hg
 | .t x, h, h1, h2, v', hl, hf, ha, hg => by simp only [zC] at hg ⊢; cases hg; exact ⟨_, rfl, xB.same ha⟩
 | .fn f cs, h, h1, h2, v', hl, hf, ha, hg => by
  simp only [zC] at hg ⊢
  split at hg
  · cases hg; exact ⟨_, rfl, xB.same ha⟩
  · cases hg
 | .ptr r i j, h, h1, h2, v', hl, hf, ha, hg => by simp [zC] at hg
 | .und, h, h1, h2, v', hl, hf, ha, hg => by simp [zC] at hg
 | .bad, h, h1, h2, v', hl, hf, ha, hg => by simp [zC] at hg
theorem sX {fp : List Nat} : ∀ (vs : List V) {h h1 h2 : Heap} {vs' : List V}, h2.length = h.length → (∀ r ∈ refs.refss vs, r ∈ fp) → (∀ r ∈ fp, h2[r]? = h[r]?) → zC.gives h vs = some (vs', h1) → ∃ h3, zC.gives h2 vs = some (vs', h3) ∧ xB fp h h1 h2 h3
 | [], h, h1, h2, vs', hl, hf, ha, hg => by simp only [zC.gives] at hg ⊢; cases hg; exact ⟨_, rfl, xB.same ha⟩
 | v :: vs, h, h1, h2, vs', hl, hf, ha, hg => by
  simp only [zC.gives] at hg ⊢
  split at hg
  · rename_i x ha1 e1
    split at hg
    · rename_i xs hb1 e2
      cases hg
      obtain ⟨h3, k1, k2⟩ := VB v hl (fun r hr => hf r (by simp [refs.refss, hr])) ha e1
      obtain ⟨h4, k3, k4⟩ := sX vs (by rw [k2.l3, k2.l1, hl]) (fun r hr => hf r (by simp [refs.refss, hr])) k2.on e2
      exact ⟨h4, by rw [k1]; simp only; rw [k3], k2.comp k4⟩
    · cases hg
  · cases hg
end
theorem Xc {fp : List Nat} {vs : List V} {h1 h2 : Heap} {xs : List T} (hl : h2.length = h.length) (hf : ∀ r ∈ refs.refss vs, r ∈ fp) (ha : ∀ r ∈ fp, h2[r]? = h[r]?) (hg : rF h vs = some (xs, h1)) : ∃ h3, rF h2 vs = some (xs, h3) ∧ xB fp h h1 h2 h3 := by
 unfold rF at hg ⊢
 split at hg
 · rename_i ys h1' e1
   obtain ⟨h3, k1, k2⟩ := sX vs hl hf ha e1
   split at hg
   · rename_i ts ht
     cases hg
     exact ⟨h3, by rw [k1]; simp only; rw [ht], k2⟩
   · cases hg
 · cases hg
theorem vk : ∀ (xs ys : List V), refs.refss (xs ++ ys) = refs.refss xs ++ refs.refss ys
 | [], ys => by simp [refs.refss]
 | x :: xs, ys => by simp [refs.refss, vk xs ys]
theorem qh {fp : List Nat} : ∀ {css : List (List V)} {h h1 h2 : Heap} {es : List (List T)}, h2.length = h.length → (∀ r ∈ refs.refss css.flatten, r ∈ fp) → (∀ r ∈ fp, h2[r]? = h[r]?) → xC h css = some (es, h1) → ∃ h3, xC h2 css = some (es, h3) ∧ xB fp h h1 h2 h3
 | [], h, h1, h2, es, hl, hf, ha, hg => by simp only [xC] at hg ⊢; cases hg; exact ⟨_, rfl, xB.same ha⟩
 | c :: css, h, h1, h2, es, hl, hf, ha, hg => by
  simp only [xC] at hg ⊢
  simp only [List.flatten_cons, vk, List.mem_append] at hf
  split at hg
  · rename_i x h1' e1
    split at hg
    · rename_i xs h1'' e2
      cases hg
      obtain ⟨h3, k1, k2⟩ := Xc hl (fun r hr => hf r (.inl hr)) ha e1
      obtain ⟨h4, k3, k4⟩ := qh (by rw [k2.l3, k2.l1, hl]) (fun r hr => hf r (.inr hr)) k2.on e2
      exact ⟨h4, by rw [k1]; simp only; rw [k3], k2.comp k4⟩
    · cases hg
  · cases hg
theorem mj (ty : TypeId) (v : Value) : refs (zl P ty v) = [] := by
 unfold zl
 split <;> try rfl
 split <;> rfl
theorem uX : ∀ (vs : List Value) (ts : List TypeId), refs.refss (xe P vs ts) = []
 | [], ts => by cases ts <;> rfl
 | v :: vs, [] => by simp [xe, refs.refss, refs, uX vs []]
 | v :: vs, t :: ts => by simp [xe, refs.refss, mj, uX vs ts]
theorem sr {e : Env} {ty : TypeId} {x : Operand} {r : Nat} (hr : r ∈ refs (opv P e ty x)) : ∃ t, x = .tmp t ∧ r ∈ refs (e t) := by
 cases x with
 | tmp t => exact ⟨t, rfl, hr⟩
 | const v =>
  exfalso
  simp only [opv] at hr
  unfold cst at hr
  split at hr
  · simp [refs, uX] at hr
  · simp [mj] at hr
 | func g => simp [opv, refs] at hr
 | global g => simp [opv, refs] at hr
theorem xJ {e : Env} {t r : Nat} (hr : r ∈ refs (e t)) : ∀ {xs : List Operand}, .tmp t ∈ xs → r ∈ zd e xs
 | .tmp t' :: xs, hx => by
  simp only [zd, List.mem_append]
  rcases List.mem_cons.1 hx with h1 | h1
  · cases h1; exact .inl hr
  · exact .inr (xJ hr h1)
 | .const _ :: xs, hx => by simp only [zd]; exact xJ hr (by simpa using hx)
 | .func _ :: xs, hx => by simp only [zd]; exact xJ hr (by simpa using hx)
 | .global _ :: xs, hx => by simp only [zd]; exact xJ hr (by simpa using hx)
theorem wg {r : Nat} : ∀ (l seen : List Nat), r ∈ yH seen l ↔ r ∈ seen ∨ r ∈ l
 | [], seen => by simp [yH]
 | x :: l, seen => by
  simp only [yH]
  split
  · rename_i hx
    rw [wg l seen, List.mem_cons]
    constructor
    · rintro (h | h)
      · exact .inl h
      · exact .inr (.inr h)
    · rintro (h | h | h)
      · exact .inl h
      · subst h; exact .inl hx
      · exact .inr h
  · rw [wg l (seen ++ [x])]
    simp only [List.mem_append, List.mem_cons, List.not_mem_nil, or_false]
    constructor
    · rintro ((h | h) | h)
      · exact .inl h
      · exact .inr (.inl h)
      · exact .inr (.inr h)
    · rintro (h | h | h)
      · exact .inl (.inl h)
      · exact .inl (.inr h)
      · exact .inr h
theorem sR {r : Nat} (h : Heap) (n : Nat) (ids : List Nat) (hr : r ∈ ids) : r ∈ reach h n ids := by
 obtain ⟨t, ht⟩ := pI h n ids
 rw [ht]; simp [hr]
theorem mm (h : Heap) : ∀ (n : Nat) (A B : List Nat), (∀ r ∈ A, r ∈ B) → ∀ r ∈ reach h n A, r ∈ reach h n B
 | 0, A, B, hAB, r, hr => hAB r hr
 | n + 1, A, B, hAB, r, hr => by
  simp only [reach] at hr ⊢
  refine mm h n _ _ (fun x hx => ?_) r hr
  rw [wg] at hx ⊢
  rcases hx with hx | hx
  · exact .inl (hAB x hx)
  · simp only [List.mem_flatMap] at hx ⊢
    obtain ⟨y, h1, h2⟩ := hx
    exact .inr ⟨y, hAB y h1, h2⟩
theorem s9 {h h2 : Heap} : ∀ (n : Nat) (ids : List Nat), (∀ r ∈ reach h n ids, h2[r]? = h[r]?) → reach h2 n ids = reach h n ids
 | 0, ids, ha => rfl
 | n + 1, ids, ha => by
  have e : ids.flatMap (x9 h2) = ids.flatMap (x9 h) := by
   have key : ∀ l : List Nat, (∀ r ∈ l, r ∈ ids) → l.flatMap (x9 h2) = l.flatMap (x9 h) := fun l => by
    induction l with
    | nil => intro _; rfl
    | cons r l ih =>
     intro hl
     have e1 : x9 h2 r = x9 h r := by
      unfold x9
      rw [ha r (sR h (n + 1) ids (hl r (by simp)))]
     simp only [List.flatMap_cons, e1, ih fun r' hr' => hl r' (by simp [hr'])]
   exact key ids fun _ h => h
  simp only [reach] at ha ⊢
  rw [e]
  exact s9 n _ ha
/-- what stands in a row of the reach is there a step later -/
theorem cO (h : Heap) (n : Nat) (ids : List Nat) {r r' : Nat} (hr : r ∈ ids) (hr' : r' ∈ x9 h r) : r' ∈ reach h (n + 1) ids := by
 simp only [reach]
 refine sR h n _ ?_
 rw [wg]
 exact .inr (List.mem_flatMap.2 ⟨r, hr, hr'⟩)
theorem pU {deep : Bool} {ids : List Nat} {r : Nat} (hr : r ∈ ids) : r ∈ ny deep ids h := by
 unfold ny
 split
 · exact sR h 3 _ ((wg _ _).2 (.inr hr))
 · exact hr
theorem sC {o : Oper} {e : Env} {ty : TypeId} {x : Operand} (hx : x ∈ o.op.operands) {r : Nat} (hr : r ∈ refs (opv P e ty x)) : r ∈ yG N o e h := by
 obtain ⟨t, rfl, h1⟩ := sr hr
 unfold yG
 exact List.mem_append.2 (.inr (pU (xJ h1 (by simpa using hx))))
theorem pc {o : Oper} {e : Env} {h2 : Heap} (ha : ∀ r ∈ yG N o e h, h2[r]? = h[r]?) : yG N o e h2 = yG N o e h := by
 unfold yG at ha ⊢
 congr 1
 unfold ny at ha ⊢
 split
 · rename_i hd
   refine s9 3 _ fun r hr => ha r ?_
   rw [if_pos hd]
   exact List.mem_append.2 (.inr hr)
 · rfl
theorem gG (v : V) : refs.refss (zb v) = refs v := by
 cases v <;> simp [zb, refs.refss, refs]
theorem qi {sz : Nat} : ∀ {n : Nat} {ps : List (Nat × V)} {css : List (List V)}, wy sz n ps = some css → ∀ r ∈ refs.refss css.flatten, ∃ v, v ∈ ps.map (·.2) ∧ r ∈ refs v
 | n, [], css, hf => by simp only [wy] at hf; cases hf; intro r hr; simp [refs.refss] at hr
 | n, (i, v) :: ps, css, hf => by
  simp only [wy] at hf
  split at hf
  · split at hf
    · rename_i cs hcs
      cases hf
      intro r hr
      simp only [List.flatten_cons, vk, List.mem_append, gG] at hr
      rcases hr with hr | hr
      · exact ⟨v, by simp, hr⟩
      · obtain ⟨v', h1, h2⟩ := qi hcs r hr
        exact ⟨v', by simp at h1 ⊢; exact .inr h1, h2⟩
    · cases hf
  · cases hf
theorem qd {e : Env} {ty : Nat → TypeId} : ∀ {ps : List (Nat × Operand)} {v : V}, v ∈ (xc P e ty ps).map (·.2) → ∃ x t, x ∈ ps.map (·.2) ∧ v = opv P e t x
 | [], v, hv => by simp [xc] at hv
 | (i, x) :: ps, v, hv => by
  simp only [xc, List.map_cons, List.mem_cons] at hv
  rcases hv with rfl | hv
  · exact ⟨x, _, by simp, rfl⟩
  · obtain ⟨y, t, h1, h2⟩ := qd hv
    exact ⟨y, t, by simp at h1 ⊢; exact .inr h1, h2⟩
theorem gL {h2 : Heap} {r i j n : Nat} (ha : h2[r]? = h[r]?) : u9 h2 r i j n = u9 h r i j n := by unfold u9; rw [ha]
theorem Vt {h2 : Heap} {ty : TypeId} {x : V} (ha : ∀ r ∈ refs x, h2[r]? = h[r]?) : load P ty x h2 = load P ty x h := by
 cases x with
 | ptr r i j => simp only [load, gL (ha r (by simp [refs]))]
 | t y => cases y <;> rfl
 | _ => rfl
theorem SQ {h2 : Heap} {ty : TypeId} {x : V} {lo hi mx : Option V} (ha : ∀ r ∈ refs x, h2[r]? = h[r]?) : cut P ty x lo hi mx h2 = cut P ty x lo hi mx h := by
 cases x with
 | sl r off len cap => simp only [cut, ha r (by simp [refs])]
 | t y => cases y <;> rfl
 | _ => rfl
theorem gP {h2 : Heap} {ty : TypeId} {x i : V} (ha : ∀ r ∈ refs x, h2[r]? = h[r]?) : z7 P ty x i h2 = z7 P ty x i h := by
 cases i with
 | t z =>
  cases z with
  | int k n =>
   cases x with
   | sl r off len cap => simp only [z7, ha r (by simp [refs])]
   | t y => cases y <;> rfl
   | _ => rfl
  | _ => rfl
 | _ => rfl
theorem VN {h2 : Heap} {s d : TypeId} {x : V} (ha : ∀ r ∈ refs x, h2[r]? = h[r]?) : conv P s d x h2 = conv P s d x h := by
 cases x with
 | sl r off len cap => simp only [conv, ha r (by simp [refs])]
 | t y => cases y with
  | list sz es => rcases sz with _ | _ | n <;> rfl
  | _ => rfl
 | _ => rfl
theorem cJ {h2 : Heap} {el tx : TypeId} {x : V} (ha : ∀ r ∈ refs x, h2[r]? = h[r]?) : zc P el tx x h2 = zc P el tx x h := by
 unfold zc
 cases yd P tx with
 | none => rfl
 | some _ =>
  cases x with
  | sl r off len cap => simp only [ha r (by simp [refs])]
  | t y => cases y <;> rfl
  | _ => rfl
theorem Vk (x : V) : refs (unN x) = refs x := by
 unfold unN
 split <;> rfl
theorem YL {h2 : Heap} {el tx : TypeId} {x : V} (ha : ∀ r ∈ refs x, h2[r]? = h[r]?) : iy P el tx x h2 = iy P el tx x h := cJ (by rw [Vk]; exact ha)
theorem YR {h2 : Heap} {v : V} (ha : ∀ r ∈ refs v, h2[r]? = h[r]?) : zm h2 v = zm h v := by
 cases v with
 | sl r off len cap => simp only [zm, zj, ha r (by simp [refs])]
 | _ => rfl
theorem qa {h2 : Heap} : ∀ {vs : List V}, (∀ r ∈ refs.refss vs, h2[r]? = h[r]?) → xY h2 vs = xY h vs
 | [], _ => rfl
 | v :: vs, ha => by
  simp only [xY]
  rw [YR fun r hr => ha r (by simp [refs.refss, hr]), qa fun r hr => ha r (by simp [refs.refss, hr])]
theorem kH {h2 : Heap} : ∀ {es : List (List V)}, (∀ c ∈ es, ∀ r ∈ refs.refss c, h2[r]? = h[r]?) → tc h2 es = tc h es
 | [], _ => rfl
 | c :: es, ha => by
  simp only [tc]
  rw [qa (ha c (by simp)), kH fun c' hc' => ha c' (by simp [hc'])]
theorem YX {vs ws : List V} (hs : ∀ v ∈ vs, v ∈ ws) : ∀ r ∈ refs.refss vs, r ∈ refs.refss ws := by
 have key : ∀ (l : List V) (r : Nat), r ∈ refs.refss l ↔ ∃ v ∈ l, r ∈ refs v := fun l => by
  induction l with
  | nil => intro r; simp [refs.refss]
  | cons v l ih => intro r; simp [refs.refss, ih]
 intro r hr
 rw [key] at hr ⊢
 obtain ⟨v, h1, h2⟩ := hr
 exact ⟨v, hs v h1, h2⟩
/-- agreement two rows deep -/
def Deep (h h2 : Heap) (A : List Nat) : Prop := ∀ r ∈ A, h2[r]? = h[r]? ∧ ∀ r' ∈ x9 h r, h2[r']? = h[r']?
theorem YT {h2 : Heap} {A : List Nat} (ha : Deep h h2 A) {r off len : Nat} (hr : r ∈ A) : zn h2 h2[r]? off len = zn h h[r]? off len := by
 obtain ⟨h1, h3⟩ := ha r hr
 rw [h1]
 unfold zn
 split
 · rfl
 · rfl
 · rename_i sz es hb
   rw [kH fun c hc r' hr' => h3 r' ?_]
   unfold x9
   rw [hb]
   exact List.mem_flatMap.2 ⟨c, List.mem_of_mem_drop (List.mem_of_mem_take hc), hr'⟩
 · rfl
theorem YU {h2 : Heap} {A : List Nat} (ha : Deep h h2 A) {r i j : Nat} (hr : r ∈ A) : zo h2 h2[r]? i j = zo h h[r]? i j := by
 obtain ⟨h1, h3⟩ := ha r hr
 rw [h1]
 unfold zo
 split
 · rfl
 · rfl
 · rename_i sz es hb
   cases hes : es[i]? with
   | none => rfl
   | some cs =>
    simp only
    rw [qa fun r' hr' => h3 r' ?_]
    unfold x9
    rw [hb]
    exact List.mem_flatMap.2 ⟨cs, List.mem_of_getElem? hes, YX (fun v hv => List.mem_of_mem_drop hv) r' hr'⟩
 · rfl
mutual
theorem YS {h2 : Heap} {A : List Nat} (ha : Deep h h2 A) : ∀ (v : V), (∀ r ∈ refs v, r ∈ A) → ze h2 v = ze h v
 | .sl r off len cap, hr => by simp only [ze]; exact YT ha (hr r (by simp [refs]))
 | .ptr r i j, hr => by simp only [ze]; exact YU ha (hr r (by simp [refs]))
 | .agg cs, hr => by simp only [ze]; rw [vE ha cs fun r h => hr r (by simpa [refs] using h)]
 | .tup cs, hr => by simp only [ze]; rw [vE ha cs fun r h => hr r (by simpa [refs] using h)]
 | .fn f cs, hr => by simp only [ze]; rw [vE ha cs fun r h => hr r (by simpa [refs] using h)]
 | .t _, _ => rfl
 | .nil _, _ => rfl
 | .o _, _ => rfl
 | .und, _ => rfl
 | .bad, _ => rfl
theorem vE {h2 : Heap} {A : List Nat} (ha : Deep h h2 A) : ∀ (vs : List V), (∀ r ∈ refs.refss vs, r ∈ A) → ze.snapVs h2 vs = ze.snapVs h vs
 | [], _ => rfl
 | v :: vs, hr => by
  simp only [ze.snapVs]
  rw [YS ha v fun r h => hr r (by simp [refs.refss, h]), vE ha vs fun r h => hr r (by simp [refs.refss, h])]
end
/-- the rows of a call's arguments are among those that it may touch -/
theorem jH {x : Operand} {args : List Operand} {tys : List TypeId} {e : Env} {g : Nat} {caps : List V} (hf : fnV (opv P e 0 x) = some (g, caps)) : ∀ r ∈ refs.refss (yB P e args tys ++ caps), r ∈ zd e (x :: args) := by
 have hop : ∀ (az : List Operand) (ts : List TypeId), ∀ r ∈ refs.refss (yB P e az ts), r ∈ zd e az := by
  intro az
  induction az with
  | nil => intro ts r hr; simp [yB, refs.refss] at hr
  | cons a az ih =>
   intro ts r hr
   have one : ∀ ty, r ∈ refs (opv P e ty a) → r ∈ zd e (a :: az) := fun ty h1 => by
    obtain ⟨t, rfl, h2⟩ := sr h1
    exact xJ h2 (by simp)
   have two : r ∈ zd e az → r ∈ zd e (a :: az) := fun h1 => by cases a <;> simp [zd, h1]
   cases ts with
   | nil =>
    simp only [yB, refs.refss, List.mem_append] at hr
    exact hr.elim (one 0) fun h1 => two (ih [] r h1)
   | cons t ts =>
    simp only [yB, refs.refss, List.mem_append] at hr
    exact hr.elim (one t) fun h1 => two (ih ts r h1)
 intro r hr
 rw [vk] at hr
 rcases List.mem_append.1 hr with h1 | h1
 · have := hop args tys r h1
   cases x <;> simp [zd, this]
 · have hc : r ∈ refs (opv P e 0 x) := by
    unfold fnV at hf
    split at hf
    · cases hf
      exfalso
      have : ∀ l : List T, refs.refss (l.map V.t) = [] := fun l => by induction l with
       | nil => rfl
       | cons a l ih => simp [refs.refss, refs, ih]
      rw [this] at h1; cases h1
    · rename_i g' cs' hx; cases hf; rw [hx]; simpa [refs] using h1
    · cases hf
   obtain ⟨t, rfl, h2⟩ := sr hc
   exact xJ h2 (by simp)
theorem Xy {ids : List Nat} {h2 : Heap} (hl : h2.length = h.length) (ha : ∀ r ∈ ids, h2[r]? = h[r]?) : wG ids h2 = wG ids h := by
 funext r
 unfold wG
 split
 · cases hr : ids[r]? with
   | none => rfl
   | some k =>
    have e1 : xg h2 k = xg h k := by unfold xg; rw [ha k (List.mem_of_getElem? hr)]
    simp only [e1]
 · rw [hl]
theorem oN {mp : Nat → Option Nat} {h0 h02 : Heap} {fp : List Nat} : ∀ (ids : List Nat) (bs : Heap) {h h2 : Heap}, (∀ r ∈ ids, r ∈ fp) → (∀ r ∈ ids, h02[r]? = h0[r]?) → h2.length = h.length → (∀ r ∈ fp, h2[r]? = h[r]?) → xB fp h (z6 mp h0 ids bs h) h2 (z6 mp h02 ids bs h2)
 | [], bs, h, h2, _, _, _, ha => by simp only [z6]; exact xB.same ha
 | i :: is, [], h, h2, _, _, _, ha => by simp only [z6]; exact xB.same ha
 | i :: is, b :: bs, h, h2, hs, h0e, hl, ha => by
  simp only [z6]
  have hlive : xg h02 i = xg h0 i := by simp only [xg, h0e i (by simp)]
  rw [hlive]
  have h1 : xB fp h (if xg h0 i = true then h.set i (zG mp b) else h) h2 (if xg h0 i = true then h2.set i (zG mp b) else h2) := by
   split
   · exact xB.set (hs i (by simp)) hl ha _
   · exact xB.same ha
  exact h1.comp (oN is bs (fun r hr => hs r (by simp [hr])) (fun r hr => h0e r (by simp [hr])) (by rw [h1.l3, h1.l1, hl]) h1.on)
theorem jX {ids fp : List Nat} (hsub : ∀ r ∈ ids, r ∈ fp) {h2 : Heap} (hl : h2.length = h.length) (ha : ∀ r ∈ fp, h2[r]? = h[r]?) {i : Nat} {v v' : V} {h1' h1 : Heap} (hb : yT (some i) ids v h1' h = some (v', h1)) :
 ∃ h3, yT (some i) ids v h1' h2 = some (v', h3) ∧ xB fp h h1 h2 h3 := by
 unfold yT at hb ⊢
 split at hb
 · cases hb
 · rename_i hc
   cases hb
   rw [if_neg hc, Xy hl fun r hr => ha r (hsub r hr)]
   simp only [Option.isSome_some, Bool.true_and, Bool.or_eq_true, decide_eq_true_eq, not_or, Nat.not_lt] at hc
   have hd : h1'.drop ids.length = [] := List.drop_of_length_le hc.2
   rw [hd]
   simp only [List.map_nil, List.append_nil]
   exact ⟨_, rfl, oN ids h1' hsub (fun r hr => ha r (hsub r hr)) hl ha⟩
theorem X0 {args : List V} {h2 : Heap} (ha : ∀ r ∈ xh h args, h2[r]? = h[r]?) : xh h2 args = xh h args ∧ yu 0 args h2 = yu 0 args h := by
 have e1 : xh h2 args = xh h args := s9 3 _ ha
 refine ⟨e1, ?_⟩
 have e2 : reach h2 3 (yH (List.range 0) (refs.refss args)) = reach h 3 (yH (List.range 0) (refs.refss args)) := e1
 unfold yu
 rw [e2]
 simp only [Prod.mk.injEq, true_and]
 refine List.map_congr_left fun r hr => ?_
 rw [ha r hr]
theorem kZ {o : Oper} (hn : yF pol f o = true) {e : Env} {v : V} {h' : Heap} (hev : yf P pol rec f N o e h = some (v, h')) : h' = h := by
 obtain ⟨dst, op, ty, pos, after, guard⟩ := o
 cases op with
 | call c =>
  obtain ⟨callee, args, tys⟩ := c
  cases callee with
  | builtin b =>
   simp only [yf] at hev
   cases b <;> simp only [yF, Bool.false_eq_true] at hn <;> simp only [blt] at hev
   all_goals (repeat' split at hev)
   all_goals first | (cases hev; done) | (cases hev; rfl) | (rename_i hh; cases hh; done) | (rename_i hh _; cases hh; done) | contradiction
  | value x =>
   simp only [yF] at hn
   simp only [yf, wF] at hev
   cases hp : pol.pm f (dst.getD 0) with
   | frz => simp [hp] at hn
   | opn gv => simp [hp] at hn
   | _ =>
    simp only [hp] at hev
    (repeat' split at hev) <;> first | (cases hev; done) | (cases hev; rfl)
  | invoke r m => simp [yF] at hn
 | _ =>
  first
   | (simp [yF] at hn; done)
   | (simp only [yf] at hev; (repeat' split at hev) <;> first | (cases hev; done) | (cases hev; rfl))
theorem eG {o : Oper} (hn : yF pol f o = true) {e : Env} {h2 : Heap} (ha : ∀ r ∈ yG N o e h, h2[r]? = h[r]?) {v : V} (hev : yf P pol rec f N o e h = some (v, h)) : yf P pol rec f N o e h2 = some (v, h2) := by
 have hx : ∀ {x : Operand} {ty : TypeId}, x ∈ o.op.operands → ∀ r ∈ refs (opv P e ty x), h2[r]? = h[r]? := fun hx r hr => ha r (sC hx hr)
 obtain ⟨dst, op, ty, pos, after, guard⟩ := o
 cases op with
 | load t a =>
  simp only [yf] at hev ⊢
  rw [Vt (hx (by simp [Op.operands]))]
  split at hev
  · cases hev; rfl
  · cases hev
 | slice t x lo hi mx =>
  simp only [yf] at hev ⊢
  rw [SQ (hx (by simp [Op.operands]))]
  split at hev
  · cases hev; rfl
  · cases hev
 | indexAddr t x i =>
  simp only [yf] at hev ⊢
  rw [gP (hx (by simp [Op.operands]))]
  split at hev
  · cases hev; rfl
  · cases hev
 | convert s d x =>
  simp only [yf] at hev ⊢
  rw [VN (hx (by simp [Op.operands]))]
  split at hev
  · cases hev; rfl
  · cases hev
 | call c =>
  obtain ⟨callee, args, tys⟩ := c
  cases callee with
  | builtin b =>
   simp only [yf] at hev ⊢
   cases b <;> simp only [yF, Bool.false_eq_true] at hn <;> simp only [blt] at hev ⊢
   all_goals (repeat' split at hev)
   all_goals first | (cases hev; done) | (cases hev; simp_all; done) | (rename_i hk hc; cases hev; rw [if_pos hk, if_neg hc]; done) | (rename_i hk hc; cases hev; rw [if_pos hk, if_pos hc]; done) | (rename_i hh; cases hh; done) | (rename_i hh _; cases hh; done) | contradiction
  | value x =>
   have hdeep : oo ⟨dst, .call ⟨.value x, args, tys⟩, ty, pos, after, guard⟩ = true → Deep h h2 (zd e (x :: args.toList)) := fun hd r hr => by
    have ha' : ∀ k ∈ reach h 3 (yH [] (zd e (x :: args.toList))), h2[k]? = h[k]? := fun k hk => by
     refine ha k ?_
     unfold yG ny
     rw [if_pos hd]
     refine List.mem_append.2 (.inr ?_)
     simpa [Op.operands, Call.operands] using hk
    have hr' : r ∈ yH [] (zd e (x :: args.toList)) := (wg _ _).2 (.inr hr)
    exact ⟨ha' r (sR h 3 _ hr'), fun r' h1 => ha' r' (cO h 2 _ hr' h1)⟩
   simp only [yF] at hn
   simp only [yf, wF] at hev ⊢
   cases hp : pol.pm f (dst.getD 0) with
   | frz => simp [hp] at hn
   | opn gv => simp [hp] at hn
   | brw => simp [hp] at hn
   | all => simp [hp] at hn
   | pure =>
    simp only [hp] at hev ⊢
    split at hev
    · rename_i g caps hg
      rw [vE (hdeep (by simp [oo])) _ (jH hg)]
      (repeat' split at hev) <;> first | (cases hev; done) | (cases hev; simp_all; done)
    · cases hev
  | invoke r m => simp [yF] at hn
 | _ =>
  first
   | (simp [yF] at hn; done)
   | (simp only [yf] at hev ⊢; (repeat' split at hev) <;> first | (cases hev; done) | (cases hev; simp_all; done) | (cases hev; rfl))
theorem Sl {o : Oper} (hn : x7 pol f o = true) {i : Nat} {e : Env} {h1 h2 : Heap} (hl : h2.length = h.length) (ha : ∀ r ∈ yG (some i) o e h, h2[r]? = h[r]?) {v : V} (hev : yf P pol rec f (some i) o e h = some (v, h1)) :
 ∃ h3, yf P pol rec f (some i) o e h2 = some (v, h3) ∧ xB (yG (some i) o e h) h h1 h2 h3 := by
 have hx : ∀ {x : Operand} {ty : TypeId}, x ∈ o.op.operands → ∀ r ∈ refs (opv P e ty x), r ∈ yG (some i) o e h := fun hx r hr => sC hx hr
 have hi : i ∈ yG (some i) o e h := by simp [yG]
 obtain ⟨dst, op, ty, pos, after, guard⟩ := o
 cases op with
 | alloc t =>
  simp only [yf, nI, nH] at hev ⊢
  split at hev
  · split at hev
    · cases hev
    · rename_i zs hz hemp
      cases hev
      simp only [hemp]
      exact ⟨_, rfl, xB.set hi hl ha _⟩
  · cases hev
 | box t x =>
  simp only [yf, nI, nH] at hev ⊢
  split at hev
  · cases hev
  · rename_i hc
    cases hev
    rw [if_neg hc]
    exact ⟨_, rfl, xB.set hi hl ha _⟩
 | makeSlice t l c =>
  simp only [yf, nI, nH] at hev ⊢
  split at hev
  · split at hev
    · split at hev
      · split at hev
        · cases hev
        · rename_i hc
          cases hev
          simp only [*]
          exact ⟨_, rfl, xB.set hi hl ha _⟩
      · cases hev
    · cases hev
  · cases hev
 | buildSlice t len parts =>
  simp only [yf, nI, nH] at hev ⊢
  split at hev
  · rename_i el hel
    split at hev
    · cases hev
    · rename_i hc
      split at hev
      · rename_i css hf
        split at hev
        · rename_i es h' hg
          cases hev
          obtain ⟨h3, k1, k2⟩ := qh hl (fun r hr => by
           obtain ⟨v, v1, v2⟩ := qi hf r hr
           obtain ⟨x, t', x1, rfl⟩ := qd v1
           exact hx (by simp only [Op.operands, List.mem_toArray]; exact x1) r v2) ha hg
          rw [if_neg hc]
          simp only [k1]
          exact ⟨_, rfl, k2.comp (xB.set hi (by rw [k2.l3, k2.l1, hl]) k2.on _)⟩
        · cases hev
      · cases hev
  · cases hev
 | call c =>
  obtain ⟨callee, args, tys⟩ := c
  cases callee with
  | builtin b =>
   cases b with
   | append =>
    simp only [yf] at hev ⊢
    have hops : ∀ x ∈ args.toList, x ∈ (Op.call ⟨.builtin .append, args, tys⟩).operands := fun x hx => by simpa [Op.operands, Call.operands] using hx
    generalize args.toList = al at hev hops ⊢
    generalize tys.toList = tl at hev ⊢
    have two : ∃ a b t u, yB P e al tl = [opv P e t a, opv P e u b] ∧ a ∈ al ∧ b ∈ al := by
     match al, tl with
     | [a, b], [t, u] => exact ⟨a, b, t, u, rfl, by simp, by simp⟩
     | [a, b], [t] => exact ⟨a, b, t, 0, rfl, by simp, by simp⟩
     | [a, b], [] => exact ⟨a, b, 0, 0, rfl, by simp, by simp⟩
     | [a, b], t :: u :: _ :: _ => exact ⟨a, b, t, u, rfl, by simp, by simp⟩
     | [], _ => simp [yB, blt] at hev
     | [_], [] => simp [yB, blt] at hev
     | [_], _ :: _ => simp [yB, blt] at hev
     | _ :: _ :: _ :: _, [] => simp [yB, blt] at hev
     | _ :: _ :: _ :: _, [_] => simp [yB, blt] at hev
     | _ :: _ :: _ :: _, [_, _] => simp [yB, blt] at hev
     | _ :: _ :: _ :: _, _ :: _ :: _ :: _ => simp [yB, blt] at hev
    obtain ⟨a, b, t, u, e1, ha1, hb1⟩ := two
    rw [e1] at hev ⊢
    have hra := hx (ty := t) (hops a ha1)
    have hrb := hx (ty := u) (hops b hb1)
    generalize opv P e t a = s at hev hra ⊢
    generalize opv P e u b = x at hev hrb ⊢
    simp only [blt] at hev ⊢
    split at hev
    rotate_left
    · cases hev
    · unfold app at hev ⊢
      split at hev
      · cases hev
      · rename_i el hel
        rw [YL (h := h) fun r hr => ha r (hrb r hr)]
        split at hev
        · cases hev
        · rename_i xs hsrc
          split at hev
          · split at hev
            · rename_i hc
              cases hev
              exact ⟨_, if_pos hc, xB.set hi hl ha _⟩
            · cases hev
          · rename_i r off len cap
            have hr : r ∈ yG (some i) ⟨dst, .call ⟨.builtin .append, args, tys⟩, ty, pos, after, guard⟩ e h := hra r (by simp [refs])
            simp only [ha r hr]
            split at hev
            · split at hev
              · rename_i hc
                cases hev
                exact ⟨_, if_pos hc, (xB.set hr hl ha _).comp (xB.set hi (by simp [hl]) (xB.set hr hl ha _).on _)⟩
              · cases hev
            · cases hev
          · cases hev
   | _ => simp [x7] at hn
  | value x =>
   simp only [x7] at hn
   cases hp : pol.pm f (dst.getD 0) with
   | opn gv =>
    simp only [yf, wF, hp] at hev ⊢
    split at hev
    · rename_i g caps hg
      have hsub : ∀ r ∈ xh h (yB P e args.toList tys.toList ++ caps), r ∈ yG (some i) ⟨dst, .call ⟨.value x, args, tys⟩, ty, pos, after, guard⟩ e h := fun r hr => by
       unfold yG ny
       rw [if_pos (by simp [oo])]
       refine List.mem_append.2 (.inr (mm h 3 _ _ (fun k hk => ?_) r hr))
       rw [wg] at hk ⊢
       rcases hk with hk | hk
       · cases hk
       · exact .inr (by simpa [Op.operands, Call.operands] using jH hg k hk)
      obtain ⟨p1, p2⟩ := X0 (h2 := h2) fun r hr => ha r (hsub r hr)
      rw [p2]
      split at hev
      · rename_i v' h1' hr
        rw [p1]
        exact jX hsub hl ha hev
      · cases hev
    · cases hev
   | _ => simp [hp] at hn
  | invoke r m => simp [x7] at hn
 | _ => simp [x7] at hn
theorem nJ {e : Env} {dst : Option Nat} {v : V} {t : Nat} (h : dst ≠ some t) : put e dst v t = e t := by
 cases dst with
 | none => rfl
 | some d => simp only [put, upd]; rw [if_neg]; intro he; exact h (by rw [he])
theorem ef (e : Env) {x y : Option Nat} (v u : V) (h : ∀ d, x = some d → y ≠ some d) : put (put e x v) y u = put (put e y u) x v := by
 funext t
 cases x with
 | none => rfl
 | some d =>
  cases y with
  | none => rfl
  | some d' =>
   have hne : d ≠ d' := fun e => h d rfl (by rw [e])
   simp only [put, upd]
   by_cases h1 : t = d'
   · subst h1; simp [Ne.symm hne]
   · simp [h1]
theorem rn {b : Blk} {r : Nat} (hd : h[r]? = some .dead) (hne : N ≠ some r) : (nH N h b)[r]? = some .dead := by
 cases N with
 | none => simp only [nH]; rw [List.getElem?_append_left (List.getElem?_eq_some_iff.1 hd).1]; exact hd
 | some i =>
  simp only [nH]
  rw [List.getElem?_set_ne (fun e : i = r => hne (by rw [e]))]
  exact hd
theorem mY {b b' : Blk} {r k : Nat} (hd : h[k]? = some .dead) (hb : h[r]? = some b) (hn : b ≠ .dead) : (h.set r b')[k]? = some .dead := by
 rw [List.getElem?_set_ne (fun e : r = k => by subst e; rw [hd] at hb; cases hb; exact hn rfl)]
 exact hd
theorem jV {r i j : Nat} {vs : List V} {h' : Heap} (hs : tG h r i j vs = some h') {k : Nat} (hd : h[k]? = some .dead) : h'[k]? = some .dead := by
 unfold tG at hs
 split at hs
 · rename_i sz es hb
   split at hs
   · split at hs
     · cases hs; exact mY hd hb (by simp)
     · cases hs
   · cases hs
 · rename_i sz es hb
   split at hs
   · split at hs
     · split at hs
       · rename_i xs h2 hg
         split at hs
         · rename_i sz' es' hb'
           cases hs
           unfold rF at hg
           split at hg
           · rename_i ys h3 h3e
             split at hg
             · cases hg; exact mY ((wK vs h3e).2 k hd) hb' (by simp)
             · cases hg
           · cases hg
         · cases hs
       · cases hs
     · cases hs
   · cases hs
 · cases hs
theorem Uj {ty tx : TypeId} {s x v : V} {h' : Heap} (hc : app P N ty tx s x h = some (v, h')) {k : Nat} (hd : h[k]? = some .dead) (hne : N ≠ some k) : h'[k]? = some .dead := by
 unfold app at hc
 split at hc
 · cases hc
 · split at hc
   · cases hc
   · split at hc
     · split at hc
       · cases hc; exact rn hd hne
       · cases hc
     · split at hc
       · rename_i sz es hb
         split at hc
         · cases hc; exact rn (mY hd hb (by simp)) hne
         · cases hc
       · cases hc
     · cases hc
theorem Ue {b : Builtin} {tys : List TypeId} {args : List V} {v : V} {h' : Heap} (hc : blt P N b tys args h = some (v, h')) {k : Nat} (hd : h[k]? = some .dead) (hne : N ≠ some k) : h'[k]? = some .dead := by
 unfold blt at hc
 split at hc
 · split at hc
   · split at hc
     · cases hc; exact hd
     · cases hc
   · cases hc
 · split at hc
   · exact Uj hc hd hne
   · cases hc
 · split at hc
   · cases hc; exact hd
   · cases hc
 · split at hc
   · cases hc; exact hd
   · cases hc
 · cases hc
theorem kc {ids : List Nat} {v v' : V} {h1 h' : Heap} (hb : yT N ids v h1 h = some (v', h')) {k : Nat} (hd : h[k]? = some .dead) : h'[k]? = some .dead := by
 unfold yT at hb
 split at hb
 · cases hb
 · cases hb
   have hk := (List.getElem?_eq_some_iff.1 hd).1
   rw [List.getElem?_append_left (by rw [yY]; exact hk), wT _ _ _ _ _ fun _ => by simp [xg, hd]]
   exact hd
theorem Xf {o : Oper} {e : Env} {v : V} {h' : Heap} (hev : yf P pol rec f N o e h = some (v, h')) {k : Nat} (hd : h[k]? = some .dead) (hne : N ≠ some k) : h'[k]? = some .dead := by
 obtain ⟨dst, op, ty, pos, after, guard⟩ := o
 cases op with
 | alloc t =>
  simp only [yf] at hev
  (repeat' split at hev) <;> first | (cases hev; done) | (cases hev; exact rn hd hne)
 | box t x =>
  simp only [yf] at hev
  (repeat' split at hev) <;> first | (cases hev; done) | (cases hev; exact rn hd hne)
 | makeSlice t l c =>
  simp only [yf] at hev
  (repeat' split at hev) <;> first | (cases hev; done) | (cases hev; exact rn hd hne)
 | makeFunc fn first caps =>
  simp only [yf] at hev
  cases fn with
  | func g => simp only at hev; split at hev <;> first | (cases hev; done) | (cases hev; exact hd)
  | _ => cases hev
 | buildSlice t len parts =>
  simp only [yf] at hev
  split at hev
  · split at hev
    · cases hev
    · split at hev
      · split at hev
        · rename_i es h1 hg
          cases hev
          exact rn ((sb hg).2 k hd) hne
        · cases hev
      · cases hev
  · cases hev
 | store t a x =>
  simp only [yf] at hev
  split at hev
  · rename_i h1 hs
    cases hev
    unfold store at hs
    split at hs
    · split at hs
      · exact jV hs hd
      · cases hs
    · cases hs
  · cases hev
 | call c =>
  obtain ⟨callee, args, tys⟩ := c
  cases callee with
  | builtin b => simp only [yf] at hev; exact Ue hev hd hne
  | value x =>
   simp only [yf] at hev
   split at hev
   · rename_i g caps hg
     unfold wF at hev
     split at hev
     · split at hev
       · split at hev
         · cases hev; exact hd
         · cases hev
       · split at hev
         · split at hev
           · split at hev
             · cases hev; exact hd
             · cases hev
           · cases hev
         · cases hev
     · split at hev
       · rename_i az h1 hgv
         split at hev
         · cases hev; exact (wK _ hgv).2 k hd
         · cases hev
       · cases hev
     · split at hev
       · exact kc hev hd
       · cases hev
     · cases hev
     · cases hev
   · cases hev
  | invoke r m => simp [yf] at hev
 | _ =>
  first
   | (simp [yf] at hev; done)
   | (simp only [yf] at hev; (repeat' split at hev) <;> first | (cases hev; done) | (cases hev; exact hd))
def ev1 (P : Program) (pol : Pol) (rec : Rec) (f : Nat) (N : Option Nat) (ops : Array Oper) (o : Oper) (e : Env) (h : Heap) : Option (V × Heap) :=
 match want ops o e with
 | some true => yf P pol rec f N o e h
 | some false => some (.und, h)
 | none => none
theorem js (o : Oper) (e : Env) : vB P pol rec f N ops o e h = match ev1 P pol rec f N ops o e h with | some (v, h') => some (put e o.dst v, h') | none => none := by
 unfold vB ev1
 cases want ops o e with
 | none => rfl
 | some b => cases b with
  | false => rfl
  | true => simp only; cases yf P pol rec f N o e h <;> rfl
theorem o4 {o : Oper} (hn : soft pol f o = true) {e e' : Env} (hs : wq ops o e e') : ev1 P pol rec f N ops o e h = ev1 P pol rec f N ops o e' h := by
 unfold ev1; rw [nY hs, qj hn hs]
theorem pd {o : Oper} (hn : yF pol f o = true) {e : Env} {v : V} {h' : Heap} (hev : ev1 P pol rec f N ops o e h = some (v, h')) : h' = h := by
 unfold ev1 at hev
 split at hev
 · exact kZ hn hev
 · cases hev; rfl
 · cases hev
theorem VI {o : Oper} {e : Env} {v : V} {h' : Heap} (hev : ev1 P pol rec f N ops o e h = some (v, h')) {k : Nat} (hd : h[k]? = some .dead) (hne : N ≠ some k) : h'[k]? = some .dead := by
 unfold ev1 at hev
 split at hev
 · exact Xf hev hd hne
 · cases hev; exact hd
 · cases hev
theorem pq {o : Oper} (hs : soft pol f o = true) (hN : x7 pol f o = true → N.isSome = true) {e : Env} {h1 h2 : Heap} (hl : h2.length = h.length) (ha : ∀ r ∈ yG N o e h, h2[r]? = h[r]?) {v : V} (hev : ev1 P pol rec f N ops o e h = some (v, h1)) :
 ∃ h3, ev1 P pol rec f N ops o e h2 = some (v, h3) ∧ xB (yG N o e h) h h1 h2 h3 := by
 unfold ev1 at hev ⊢
 split at hev
 · rcases rZ hs with hn | hn
   · have := kZ hn hev
     subst this
     exact ⟨h2, eG hn ha hev, xB.same ha⟩
   · obtain ⟨i, hi⟩ := Option.isSome_iff_exists.1 (hN hn)
     subst hi
     exact Sl hn hl ha hev
 · cases hev; exact ⟨h2, rfl, xB.same ha⟩
 · cases hev
theorem dJ {xs ys : List Nat} (hd : G5 xs ys = true) : ∀ r ∈ xs, r ∉ ys := fun r hr => by
 have := List.all_eq_true.1 hd r hr
 simpa using this
theorem uF {e : Env} {r : Nat} : ∀ {xs : List Operand}, r ∈ zd e xs → ∃ t, .tmp t ∈ xs ∧ r ∈ refs (e t)
 | .tmp t :: xs, hr => by
  simp only [zd, List.mem_append] at hr
  rcases hr with hr | hr
  · exact ⟨t, by simp, hr⟩
  · obtain ⟨t', h1, h2⟩ := uF hr
    exact ⟨t', by simp [h1], h2⟩
 | .const _ :: xs, hr => by simp only [zd] at hr; obtain ⟨t', h1, h2⟩ := uF hr; exact ⟨t', by simp [h1], h2⟩
 | .func _ :: xs, hr => by simp only [zd] at hr; obtain ⟨t', h1, h2⟩ := uF hr; exact ⟨t', by simp [h1], h2⟩
 | .global _ :: xs, hr => by simp only [zd] at hr; obtain ⟨t', h1, h2⟩ := uF hr; exact ⟨t', by simp [h1], h2⟩
theorem ZV {x : Operand} : ∀ {xs : List Operand}, x ∈ hdL xs → x ∈ xs
 | y :: _, h => by simp only [hdL, List.mem_singleton] at h; simp [h]
theorem s7 (o : Oper) (e : Env) : (∀ h, w8 N o e h = []) ∧ (∀ (P : Program) (pol : Pol) (rec : Rec) (f : Nat), x7 pol f o = false) ∨ (∀ h, w8 N o e h = yG N o e h) ∨
 ∃ args tys, o.op = .call ⟨.builtin .append, args, tys⟩ ∧ ∀ h, w8 N o e h = nL N ++ zd e (hdL args.toList) := by
 obtain ⟨dst, op, ty, pos, after, guard⟩ := o
 cases op with
 | call c =>
  obtain ⟨callee, args, tys⟩ := c
  cases callee with
  | builtin b =>
   cases b with
   | append => exact .inr (.inr ⟨args, tys, rfl, fun _ => rfl⟩)
   | _ => exact .inr (.inl fun _ => rfl)
  | _ => exact .inr (.inl fun _ => rfl)
 | _ => first | exact .inl ⟨fun _ => rfl, fun _ _ _ _ => rfl⟩ | exact .inr (.inl fun _ => rfl)
theorem Sm {o : Oper} {e : Env} {r : Nat} (hr : r ∈ nL N) : r ∈ yG N o e h := by
 unfold yG
 cases N with
 | none => simp [nL] at hr
 | some i => simp only [nL] at hr; exact List.mem_append.2 (.inl hr)
theorem kC {o : Oper} {e : Env} {r : Nat} (hr : r ∈ w8 N o e h) : r ∈ yG N o e h := by
 rcases s7 (N := N) o e with ⟨h1, _⟩ | h1 | ⟨args, tys, h0, h1⟩
 · rw [h1] at hr; cases hr
 · rw [h1] at hr; exact hr
 · rw [h1] at hr
   rcases List.mem_append.1 hr with hr | hr
   · exact Sm hr
   · obtain ⟨t, h2, h3⟩ := uF hr
     unfold yG
     refine List.mem_append.2 (.inr (pU (xJ h3 ?_)))
     rw [h0]
     have := ZV h2
     simpa [Op.operands, Call.operands] using this
theorem Rm {i : Nat} {ty tx : TypeId} {s x v : V} {h1 : Heap} (hc : app P (some i) ty tx s x h = some (v, h1)) {r : Nat} (hr : r ≠ i) (hs : r ∉ refs s) : h1[r]? = h[r]? := by
 unfold app at hc
 split at hc
 · cases hc
 · split at hc
   · cases hc
   · split at hc
     · split at hc
       · cases hc
         exact List.getElem?_set_ne (fun e : i = r => hr e.symm)
       · cases hc
     · rename_i k off len cap
       have hk : k ≠ r := fun e => hs (by simp [refs, e])
       split at hc
       · split at hc
         · cases hc
           simp only [nH]
           rw [List.getElem?_set_ne (fun e : i = r => hr e.symm), List.getElem?_set_ne hk]
         · cases hc
       · cases hc
     · cases hc
theorem po {o : Oper} (hs : soft pol f o = true) (hN : x7 pol f o = true → N.isSome = true) {e : Env} {v : V} {h1 : Heap} (hev : ev1 P pol rec f N ops o e h = some (v, h1)) {r : Nat} (hr : r ∉ w8 N o e h) : h1[r]? = h[r]? := by
 rcases s7 (N := N) o e with ⟨_, hw⟩ | hw | ⟨args, tys, h0, hw⟩
 · rcases rZ hs with hn | hn
   · rw [pd hn hev]
   · rw [hw P pol rec f] at hn; cases hn
 · rw [hw] at hr
   obtain ⟨_, f1e, f1⟩ := pq hs hN rfl (fun _ _ => rfl) hev
   exact f1.off1 r hr
 · rw [hw] at hr
   obtain ⟨i, hi⟩ := Option.isSome_iff_exists.1 (hN (by unfold x7; rw [h0]))
   subst hi
   obtain ⟨dst, op, ty, pos, after, guard⟩ := o
   simp only at h0
   subst h0
   unfold ev1 at hev
   split at hev
   · simp only [yf] at hev
     have hne : r ≠ i := fun e => hr (by simp [nL, e])
     have hnot : r ∉ zd e (hdL args.toList) := fun x => hr (List.mem_append.2 (.inr x))
     generalize args.toList = al at hev hnot
     generalize tys.toList = tl at hev
     have key : ∀ (a b : Operand) (t u : TypeId) (tl' : List TypeId), al = [a, b] → yB P e al tl = [opv P e t a, opv P e u b] → h1[r]? = h[r]? := fun a b t u tl' ha h2 => by
      rw [h2] at hev
      simp only [blt] at hev
      split at hev
      rotate_left
      · cases hev
      · refine Rm hev hne fun hx => hnot ?_
        obtain ⟨t', rfl, h3⟩ := sr hx
        rw [ha]
        exact xJ h3 (by simp [hdL])
     match al, tl with
     | [a, b], [t, u] => exact key a b t u [] rfl rfl
     | [a, b], [t] => exact key a b t 0 [] rfl rfl
     | [a, b], [] => exact key a b 0 0 [] rfl rfl
     | [a, b], t :: u :: _ :: _ => exact key a b t u [] rfl rfl
     | [], _ => simp [yB, blt] at hev
     | [_], [] => simp [yB, blt] at hev
     | [_], _ :: _ => simp [yB, blt] at hev
     | _ :: _ :: _ :: _, [] => simp [yB, blt] at hev
     | _ :: _ :: _ :: _, [_] => simp [yB, blt] at hev
     | _ :: _ :: _ :: _, [_, _] => simp [yB, blt] at hev
     | _ :: _ :: _ :: _, _ :: _ :: _ :: _ => simp [yB, blt] at hev
   · cases hev; rfl
   · cases hev
theorem gE {o : Oper} {e e' : Env} (hs : wq ops o e e') : w8 N o e h = w8 N o e' h := by
 have hf : yG N o e h = yG N o e' h := wL hs
 obtain ⟨dst, op, ty, pos, after, guard⟩ := o
 cases op with
 | call c =>
  obtain ⟨callee, args, tys⟩ := c
  cases callee with
  | builtin b =>
   cases b with
   | append =>
    show nL N ++ zd e (hdL args.toList) = nL N ++ zd e' (hdL args.toList)
    rw [wh _ fun t ht => hs t ?_]
    simp only [Oper.looksAt, List.mem_append, List.mem_filterMap]
    exact .inl ⟨.tmp t, by have := ZV ht; simpa [Op.operands, Call.operands] using this, rfl⟩
   | _ => simp only [w8]; exact hf
  | _ => simp only [w8]; exact hf
 | _ => simp only [w8]; try exact hf
theorem sd {o : Oper} {e e' : Env} (hs : wq ops o e e') : xE N o e h = xE N o e' h := by
 unfold xE; rw [gE hs, wL hs]
theorem sY {o : Oper} {e : Env} {h2 : Heap} (ha : ∀ r ∈ yG N o e h, h2[r]? = h[r]?) : xE N o e h2 = xE N o e h := by
 have h1 : w8 N o e h2 = w8 N o e h := by
  rcases s7 (N := N) o e with ⟨hw, _⟩ | hw | ⟨args, tys, h0, hw⟩
  · rw [hw, hw]
  · rw [hw, hw]; exact pc ha
  · rw [hw, hw]
 unfold xE
 rw [h1, pc ha]
theorem uM (N : Option Nat) (o : Oper) (e : Env) (h : Heap) : wrE (xE N o e h) = w8 N o e h := by simp [wrE, xE]
theorem cf (N : Option Nat) (o : Oper) (e : Env) (h : Heap) : alE (xE N o e h) = yG N o e h := by simp [alE, xE]
theorem VH {a b : Oper} {Na Nb : Option Nat} (ha : soft pol f a = true) (hb : soft pol f b = true) (hNa : x7 pol f a = true → Na.isSome = true) (hNb : x7 pol f b = true → Nb.isSome = true) (hap : a.apart ops b = true) {e : Env} {va vb : V} {h1 h2 : Heap}
 (hc : (yF pol f a = true ∧ yF pol f b = true) ∨ YA (xE Na a e h) (xE Nb b (put e a.dst va) h1) = true)
 (h1e : ev1 P pol rec f Na ops a e h = some (va, h1)) (h2e : ev1 P pol rec f Nb ops b (put e a.dst va) h1 = some (vb, h2)) :
 ∃ h3, ev1 P pol rec f Nb ops b e h = some (vb, h3) ∧ ev1 P pol rec f Na ops a (put e b.dst vb) h3 = some (va, h2) ∧ xE Nb b e h = xE Nb b (put e a.dst va) h1 ∧ xE Na a (put e b.dst vb) h3 = xE Na a e h := by
 obtain ⟨k1, k2, k3⟩ := Oper.apart_spec hap
 have s1 : wq ops b (put e a.dst va) e := fun t ht => nJ fun hx => k1 t hx ht
 have s2 : wq ops a (put e b.dst vb) e := fun t ht => nJ fun hx => k3 t hx ht
 rw [o4 hb s1] at h2e
 rw [sd s1] at hc ⊢
 rcases hc with ⟨hna, hnb⟩ | hd
 · have e1 := pd hna h1e
   subst e1
   have e2 := pd hnb h2e
   subst e2
   exact ⟨h2, h2e, by rw [o4 ha s2]; exact h1e, rfl, sd s2⟩
 · unfold YA at hd
   rw [uM, uM, cf, cf, Bool.and_eq_true] at hd
   have hd1 := dJ hd.1
   have hd2 := dJ hd.2
   obtain ⟨_, f2e, f2⟩ := pq hb hNb rfl (fun _ _ => rfl) h2e
   rw [h2e] at f2e; cases f2e
   obtain ⟨_, f1e, f1⟩ := pq ha hNa rfl (fun _ _ => rfl) h1e
   rw [h1e] at f1e; cases f1e
   have agB : ∀ r ∈ yG Nb b e h1, h[r]? = h1[r]? := fun r hr => (po ha hNa h1e fun x => hd1 r x hr).symm
   obtain ⟨h3, g1, g2⟩ := pq hb hNb (h2 := h) f1.l1.symm agB h2e
   have hwb : w8 Nb b e h = w8 Nb b e h1 := by
    have := congrArg wrE (sY (N := Nb) agB)
    rwa [uM, uM] at this
   have agA : ∀ r ∈ yG Na a e h, h3[r]? = h[r]? := fun r hr => po hb hNb g1 fun x => by rw [hwb] at x; exact hd2 r x hr
   obtain ⟨h4, g3, g4⟩ := pq ha hNa (h2 := h3) g2.l3 agA h1e
   have hwa : w8 Na a e h3 = w8 Na a e h := by
    have := congrArg wrE (sY (N := Na) agA)
    rwa [uM, uM] at this
   refine ⟨h3, g1, ?_, sY agB, (sd s2).trans (sY agA)⟩
   rw [o4 ha s2, g3]
   have : h4 = h2 := by
    apply List.ext_getElem?
    intro r
    by_cases hra : r ∈ w8 Na a e h
    · rw [g4.on r (kC hra), po hb hNb h2e fun x => hd1 r hra (kC x)]
    · rw [po ha hNa g3 (by rw [hwa]; exact hra)]
      by_cases hrb : r ∈ yG Nb b e h1
      · rw [g2.on r hrb]
      · rw [g2.off3 r hrb, f2.off1 r hrb, po ha hNa h1e hra]
   rw [this]
def evN (P : Program) (pol : Pol) (rec : Rec) (f : Nat) (ops : Array Oper) (Ns : Nat → Option Nat) (fp : Nat → List Nat) : List Nat → Env → Heap → Option (Env × Heap)
 | [], e, h => some (e, h)
 | i :: rest, e, h => match ops[i]? with
  | some o => if xE (Ns i) o e h = fp i then (match ev1 P pol rec f (Ns i) ops o e h with
   | some (v, h') => evN P pol rec f ops Ns fp rest (put e o.dst v) h'
   | none => none) else none
  | none => none
/-- two places that may change -/
def Chg (pol : Pol) (f : Nat) (ops : Array Oper) (fp : Nat → List Nat) (i j : Nat) : Prop :=
 ∀ oi oj, ops[i]? = some oi → ops[j]? = some oj → oi.apart ops oj = true ∧ soft pol f oi = true ∧ soft pol f oj = true ∧ ((yF pol f oi = true ∧ yF pol f oj = true) ∨ YA (fp i) (fp j) = true)
theorem ju {Ns : Nat → Option Nat} {fp : Nat → List Nat} (hNs : ∀ i o, ops[i]? = some o → x7 pol f o = true → (Ns i).isSome = true) {i : Nat} (B : List Nat) : ∀ (A : List Nat), (∀ j ∈ A, Chg pol f ops fp j i) → ∀ {h : Heap} {e : Env} {r : Env × Heap},
 evN P pol rec f ops Ns fp (A ++ i :: B) e h = some r → evN P pol rec f ops Ns fp (i :: (A ++ B)) e h = some r
 | [], _, h, e, r, hev => hev
 | j :: A, hA, h, e, r, hev => by
  simp only [List.cons_append, evN] at hev
  split at hev
  · rename_i oj hoj
    split at hev
    · rename_i hfj
      split at hev
      · rename_i va h1 h1e
        have h2 := ju hNs B A (fun k hk => hA k (by simp [hk])) hev
        simp only [evN] at h2
        split at h2
        · rename_i oi hoi
          split at h2
          · rename_i hfi
            split at h2
            · rename_i vb h2' h2e
              obtain ⟨c1, c2, c3, c4⟩ := hA j (by simp) oj oi hoj hoi
              obtain ⟨k1, k2, k3⟩ := Oper.apart_spec c1
              obtain ⟨h3, g1, g2, g3, g4⟩ := VH c2 c3 (hNs j oj hoj) (hNs i oi hoi) c1 (by rw [hfj, hfi]; exact c4) h1e h2e
              have f1 : xE (Ns i) oi e h = fp i := by rw [g3]; exact hfi
              have f2 : xE (Ns j) oj (put e oi.dst vb) h3 = fp j := by rw [g4]; exact hfj
              simp only [evN, hoi, f1, if_true, g1, List.cons_append, hoj, f2, g2]
              rw [← ef e va vb k2]
              exact h2
            · cases h2
          · cases h2
        · cases h2
      · cases hev
    · cases hev
  · cases hev
theorem vG (hp : nK ops = true) {j : Nat} {oj : Oper} (hj : ops[j]? = some oj) : (∀ e ∈ oj.after, Region.binds .any e = true → e.on < j) ∧
 ∀ i oi, i < j → ops[i]? = some oi → (∀ e ∈ oj.after, Region.binds .any e = true → e.on ≠ i) → oi.apart ops oj = true := by
 have hlt : j < ops.size := (Array.getElem?_eq_some_iff.1 hj).1
 have h1 := List.all_eq_true.1 hp j (List.mem_range.2 hlt)
 simp only [hj, Bool.and_eq_true, Array.all_eq_true_iff_forall_mem, List.all_eq_true, List.mem_range] at h1
 refine ⟨fun e he hb => ?_, fun i oi hi hoi hno => ?_⟩
 · have := h1.1 e he
   simpa [hb] using this
 · have := h1.2 i hi
   simp only [hoi, Bool.or_eq_true] at this
   rcases this with h2 | h2
   · obtain ⟨e, he, hb⟩ := Array.any_eq_true'.1 h2
     simp only [Bool.and_eq_true, beq_iff_eq] at hb
     exact absurd hb.2 (hno e he hb.1)
   · exact h2
theorem Qf {z : Nat → Prop} {M : Option Nat} (hS : St w F ρ Ow h) : St w F ρ ⟨Ow.b, z, M⟩ h := ⟨fun r b hr => by have := hS.blk r b hr; cases b <;> exact this, hS.inj, hS.fsz, hS.out, hS.own.imp fun φ k => ⟨k.cell, k.act, k.sep, k.apart⟩⟩
theorem Q6 {z : Nat → Prop} {M : Option Nat} (hS : St w F ρ ⟨Ow.b, z, M⟩ h) : St w F ρ Ow h := ⟨fun r b hr => by have := hS.blk r b hr; cases b <;> exact this, hS.inj, hS.fsz, hS.out, hS.own.imp fun φ k => ⟨k.cell, k.act, k.sep, k.apart⟩⟩
theorem Si {z : Nat → Prop} {M : Option Nat} {w' : World} {F' : Nat → Prop} {ρ' : yq} (hO : OkC Ow w) (hN : Nxt ⟨Ow.b, z, M⟩ w F ρ w' F' ρ') : Nxt Ow w F ρ w' F' ρ' :=
 ⟨hN.os, hN.tape, hN.output, hN.size, hN.keep, hN.agree, hN.grow, hN.new, hN.ext, fun r hr => absurd hr (hO.z r)⟩
/-- one waits for another, by some steps -/
inductive Path (ops : Array Oper) (i : Nat) : Nat → Prop
 | dir {j : Nat} {oj : Oper} {e : Edge} (hj : ops[j]? = some oj) (he : e ∈ oj.after) (hb : Region.binds .any e = true) (h : e.on = i) : Path ops i j
 | via {j : Nat} {oj : Oper} {e : Edge} (hj : ops[j]? = some oj) (he : e ∈ oj.after) (hb : Region.binds .any e = true) (h : Path ops i e.on) : Path ops i j
theorem iM {i : Nat} : ∀ (n j : Nat), cj ops n i j = true → Path ops i j
 | 0, j, h => by cases h
 | n + 1, j, h => by
  unfold cj at h
  split at h
  · rename_i oj hj
    obtain ⟨e, he, hb⟩ := Array.any_eq_true'.1 h
    simp only [Bool.and_eq_true, Bool.or_eq_true, beq_iff_eq] at hb
    rcases hb.2 with h1 | h1
    · exact .dir hj he hb.1 h1
    · exact .via hj he hb.1 (iM n e.on h1)
  · cases h
theorem oC {listed : Array Bool} (hcl : ∀ k ok, listed.getD k false = true → ops[k]? = some ok → ∀ ed ∈ ok.after, Region.binds .any ed = true → listed.getD ed.on false = true) {i x : Nat} (hp : Path ops i x) :
 (∀ ox, ops[x]? = some ox → ∀ ed ∈ ox.after, Region.binds .any ed = true → listed.getD ed.on false = true) → listed.getD i false = true := by
 induction hp with
 | dir hj he hb h => intro hx; rw [← h]; exact hx _ hj _ he hb
 | via hj he hb h ih => intro hx; exact ih (fun ox hox ed hed hbd => hcl _ ox (hx _ hj _ he hb) hox ed hed hbd)
theorem Tw {W0 : World} (hrec : xN P W0 rec) {n : Nat} (hdst : pB n ops = true) (hpairs : nK ops = true) {Ns : Nat → Option Nat} {fp : Nat → List Nat} (hNs : ∀ i o, ops[i]? = some o → x7 pol f o = true → (Ns i).isSome = true)
 (hinj : ∀ i j r, Ns i = some r → Ns j = some r → i = j)
 (hchg : ∀ i j oj, i < j → ops[j]? = some oj → ¬ Path ops i j → Chg pol f ops fp i j) {Q : Exit → Act → World → Prop} :
 ∀ (fuel : Nat) (R : List Nat) (listed : Array Bool) {w : World} {F : Nat → Prop} {ρ : yq} {h : Heap} {e e' : Env} {h' : Heap} {a : Act}, R.length = fuel → R.Pairwise (· < ·) → listed.size = ops.size → (∀ i, i ∈ R ↔ i < ops.size ∧ listed.getD i true = false) →
  (∀ i ∈ R, ∀ r, Ns i = some r → h[r]? = some .dead ∧ ρ r = none) →
  (∀ k ok, listed.getD k false = true → ops[k]? = some ok → ∀ ed ∈ ok.after, Region.binds .any ed = true → listed.getD ed.on false = true) →
  evN P pol rec f ops Ns fp R e h = some (e', h') → wE W0 w F → St w F ρ Ow h → OkC Ow w → RE w F ρ a e → a.tmps.size = n → a.defers = [] → qq Ow w F ρ n e' h' (Q .normal) → wpAny P .any ops Q fuel listed a w := by
 intro fuel
 induction fuel with
 | zero =>
  intro R listed w F ρ h e e' h' a hl hs hsz hR hdead hcl hev hB hS hO he hn hd hK
  have : R = [] := List.eq_nil_of_length_eq_zero hl
  subst this
  simp only [evN] at hev
  cases hev
  refine ⟨?_, hK a w F ρ he hS (Nxt.refl _ _ _ _) hn hd⟩
  apply List.eq_nil_iff_forall_not_mem.2
  intro j hj
  obtain ⟨hju, oj, hoj, _⟩ := mem_ready.1 hj
  have := (hR j).2 ⟨(Array.getElem?_eq_some_iff.1 hoj).1, hju⟩
  cases this
 | succ fuel ih =>
  intro R listed w F ρ h e e' h' a hl hs hsz hR hdead hcl hev hB hS hO he hn hd hK
  refine ⟨fun hnil => ?_, fun i hi => ?_⟩
  · exfalso
    cases R with
    | nil => simp at hl
    | cons j R =>
     obtain ⟨hj1, hj2⟩ := (hR j).1 (by simp)
     obtain ⟨oj, hoj⟩ : ∃ o, ops[j]? = some o := ⟨_, Array.getElem?_eq_getElem hj1⟩
     have : j ∈ Region.ready .any ops listed := mem_ready.2 ⟨hj2, oj, hoj, fun ed hed hb => by
      have hlt := (vG hpairs hoj).1 ed hed hb
      cases hx : listed.getD ed.on false with
      | true => rfl
      | false =>
       have hx' : listed.getD ed.on true = false := by
        simp only [Array.getD_eq_getD_getElem?] at hx ⊢
        have hin : ed.on < listed.size := by omega
        simp [hin] at hx ⊢; exact hx
       have := (hR ed.on).2 ⟨by omega, hx'⟩
       rcases List.mem_cons.1 this with h1 | h1
       · omega
       · have := (List.pairwise_cons.1 hs).1 _ h1; omega⟩
     rw [hnil] at this
     cases this
  · obtain ⟨hiu, oi, hoi, hall'⟩ := mem_ready.1 hi
    have hmem := (hR i).2 ⟨(Array.getElem?_eq_some_iff.1 hoi).1, hiu⟩
    obtain ⟨A, B, rfl⟩ := List.append_of_mem hmem
    have hpw := List.pairwise_append.1 hs
    have hnA : i ∉ A := fun h1 => by have := hpw.2.2 i h1 i (by simp); omega
    have hnB : i ∉ B := fun h1 => by have := (List.pairwise_cons.1 hpw.2.1).1 i h1; omega
    have hfront := ju (P := P) (rec := rec) hNs B A (fun j hj => by
     obtain ⟨hj1, hj2⟩ := (hR j).1 (by simp [hj])
     refine hchg j i oi (hpw.2.2 j hj i (by simp)) hoi fun hpt => ?_
     have h1 := oC hcl hpt fun ox hox ed hed hb => by
      rw [hoi] at hox; cases hox; exact hall' ed hed hb
     simp only [Array.getD_eq_getD_getElem?] at h1 hj2
     have hin : j < listed.size := by omega
     simp [hin] at h1 hj2
     rw [hj2] at h1; cases h1) hev
    simp only [evN, hoi] at hfront
    split at hfront
    rotate_left
    · cases hfront
    split at hfront
    · rename_i v h1 h1ev
      have hO' : OkO ⟨Ow.b, fun r => ∃ j ∈ A ++ B, Ns j = some r, Ns i⟩ w ρ h := by
       refine ⟨hO.blk, ?_, fun k hk => hdead i (by simp) k hk⟩
       rintro ⟨j, hj, hjr⟩
       cases hNi : Ns i with
       | none =>
        simp only [hNi, nI] at hjr
        have hdj := (hdead j (by simp at hj ⊢; rcases hj with h | h; exact .inl h; exact .inr (.inr h)) _ hjr).1
        rw [List.getElem?_eq_none (Nat.le_refl _)] at hdj; cases hdj
       | some k =>
        simp only [hNi, nI] at hjr
        have := hinj i j k hNi hjr
        subst this
        rcases List.mem_append.1 hj with hx | hx
        · exact hnA hx
        · exact hnB hx
      refine Qh hB hrec (Ow := ⟨Ow.b, fun r => ∃ j ∈ A ++ B, Ns j = some r, Ns i⟩) hoi (by rw [js]; simp only; rw [h1ev]) (Qf hS) hO' (fun r ⟨j, hj, hjr⟩ => (List.getElem?_eq_some_iff.1 (hdead j (by simp at hj ⊢; rcases hj with h | h; exact .inl h; exact .inr (.inr h)) r hjr).1).1) he hn hd hdst fun a' w' F' ρ' k1 k2 k3 k4 k5 => ?_
      have k3' := Si hO k3
      have hcl' : ∀ k ok, (listed.setIfInBounds i true).getD k false = true → ops[k]? = some ok → ∀ ed ∈ ok.after, Region.binds .any ed = true → (listed.setIfInBounds i true).getD ed.on false = true := fun k ok hk hok ed hed hb => by
       have key : listed.getD ed.on false = true := by
        by_cases hki : k = i
        · subst hki
          rw [hoi] at hok; cases hok
          exact hall' ed hed hb
        · rw [getD_set_ne false (Ne.symm hki)] at hk
          exact hcl k ok hk hok ed hed hb
       by_cases hei : ed.on = i
       · rw [hei] at key ⊢
         simp only [Array.getD_eq_getD_getElem?] at key ⊢
         by_cases hin : i < listed.size
         · simp [hin]
         · simp [hin] at key
       · rw [getD_set_ne false (Ne.symm hei)]; exact key
      refine ih (A ++ B) (listed.setIfInBounds i true) (by simp at hl ⊢; omega) ?_ (by simpa using hsz) (fun j => ?_) (fun j hj r hjr => ?_) hcl' hfront (hB.next k3') (Q6 k2) (hO.mono k3'.size) k1 k4 k5 (hK.step k3')
      · refine List.pairwise_append.2 ⟨hpw.1, (List.pairwise_cons.1 hpw.2.1).2, fun x hx y hy => hpw.2.2 x hx y (by simp [hy])⟩
      · by_cases hji : j = i
        · subst hji
          constructor
          · intro hj
            exfalso
            rcases List.mem_append.1 hj with h1 | h1
            · exact hnA h1
            · exact hnB h1
          · rintro ⟨hj1, hj2⟩
            exfalso
            have hin : j < listed.size := by omega
            simp [Array.getD_eq_getD_getElem?, hin] at hj2
        · rw [getD_set_ne true (Ne.symm hji), ← hR j]
          simp [hji]
      · obtain ⟨d1, d2⟩ := hdead j (by simp at hj ⊢; rcases hj with h | h; exact .inl h; exact .inr (.inr h)) r hjr
        refine ⟨VI h1ev d1 fun hx => ?_, (k3.res r ⟨j, hj, hjr⟩).trans d2⟩
        have := hinj i j r hx hjr
        subst this
        rcases List.mem_append.1 hj with hx | hx
        · exact hnA hx
        · exact hnB hx
    · cases hfront
theorem iX {Ns : Nat → Option Nat} {fp : Nat → List Nat} : ∀ (l : List Nat) (Nl : List (Option Nat)) (os : List Oper) {fps : List (List Nat)} {e e' : Env} {h h' : Heap}, l.map (ops[·]?) = os.map some → l.map Ns = Nl → evD P pol rec f ops Nl os e h = some (fps, e', h') → l.map fp = fps →
 evN P pol rec f ops Ns fp l e h = some (e', h')
 | [], [], [], fps, e, e', h, h', _, _, hev, _ => by simp only [evD] at hev; cases hev; rfl
 | i :: l, N :: Nl, o :: os, fps, e, e', h, h', ho, hN, hev, hf => by
  simp only [List.map_cons, List.cons.injEq] at ho hN
  simp only [evD] at hev
  rw [js] at hev
  cases h1 : ev1 P pol rec f N ops o e h with
  | none => simp [h1] at hev
  | some x =>
   obtain ⟨v, hx⟩ := x
   simp only [h1] at hev
   split at hev
   · rename_i fs e'' h'' h2
     cases hev
     simp only [List.map_cons, List.cons.injEq] at hf
     simp only [evN, ho.1, hN.1, hf.1, if_true, h1]
     exact iX l Nl os ho.2 hN.2 h2 hf.2
   · cases hev
 | [], _ :: _, _, fps, e, e', h, h', ho, hN, hev, hf => by simp at hN
 | _ :: _, [], _, fps, e, e', h, h', ho, hN, hev, hf => by simp at hN
 | [], [], _ :: _, fps, e, e', h, h', ho, hN, hev, hf => by simp at ho
 | _ :: _, _ :: _, [], fps, e, e', h, h', ho, hN, hev, hf => by simp at ho
theorem iW : ∀ (Nl : List (Option Nat)) (os : List Oper) {fps : List (List Nat)} {e e' : Env} {h h' : Heap}, evD P pol rec f ops Nl os e h = some (fps, e', h') → fps.length = os.length ∧ Nl.length = os.length
 | [], [], fps, e, e', h, h', hev => by simp only [evD] at hev; cases hev; exact ⟨rfl, rfl⟩
 | N :: Nl, o :: os, fps, e, e', h, h', hev => by
  simp only [evD] at hev
  split at hev
  · split at hev
    · rename_i fs e'' h'' h2
      cases hev
      have := iW Nl os h2
      simp [this.1, this.2]
    · cases hev
  · cases hev
 | [], _ :: _, fps, e, e', h, h', hev => by simp [evD] at hev
 | _ :: _, [], fps, e, e', h, h', hev => by simp [evD] at hev
theorem jr : ∀ (os : List Oper) {e e' : Env} {h h' : Heap}, w7 P pol rec f ops os e h = some (e', h') → ∃ fps, evD P pol rec f ops (List.replicate os.length none) os e h = some (fps, e', h')
 | [], e, e', h, h', hev => by simp only [w7] at hev; cases hev; exact ⟨[], rfl⟩
 | o :: os, e, e', h, h', hev => by
  simp only [w7] at hev
  split at hev
  · rename_i e1 h1 h1e
    obtain ⟨fps, k⟩ := jr os hev
    refine ⟨xE none o e h :: fps, ?_⟩
    simp only [List.length_cons, List.replicate_succ, evD, h1e, k]
  · cases hev
theorem sw : ∀ (os : List Oper) (b i : Nat) (r : Nat), (wI pol f b os)[i]? = some (some r) → b ≤ r ∧ r < b + xZ pol f os
 | [], b, i, r, h => by simp [wI] at h
 | o :: os, b, i, r, h => by
  simp only [wI] at h
  simp only [xZ]
  split at h
  · rename_i hn
    simp only [hn, if_true]
    cases i with
    | zero => simp at h; omega
    | succ i =>
     have := sw os (b + 1) i r (by simpa using h)
     omega
  · rename_i hn
    simp only [hn]
    cases i with
    | zero => simp at h
    | succ i =>
     have := sw os b i r (by simpa using h)
     simpa using this
theorem lh : ∀ (os : List Oper) (b i j : Nat) (r : Nat), (wI pol f b os)[i]? = some (some r) → (wI pol f b os)[j]? = some (some r) → i = j
 | [], b, i, j, r, h, _ => by simp [wI] at h
 | o :: os, b, i, j, r, h1, h2 => by
  simp only [wI] at h1 h2
  split at h1
  · rename_i hn
    simp only [hn, if_true] at h2
    cases i with
    | zero => cases j with
     | zero => rfl
     | succ j =>
      have := sw os (b + 1) j r (by simpa using h2)
      simp at h1; omega
    | succ i => cases j with
     | zero =>
      have := sw os (b + 1) i r (by simpa using h1)
      simp at h2; omega
     | succ j => rw [lh os (b + 1) i j r (by simpa using h1) (by simpa using h2)]
  · rename_i hn
    simp only [hn] at h2
    cases i with
    | zero => simp at h1
    | succ i => cases j with
     | zero => simp at h2
     | succ j => rw [lh os b i j r (by simpa using h1) (by simpa using h2)]
theorem lg : ∀ (os : List Oper) (b i : Nat) (o : Oper), os[i]? = some o → x7 pol f o = true → ∃ r, (wI pol f b os)[i]? = some (some r)
 | [], b, i, o, h, _ => by simp at h
 | o' :: os, b, i, o, h, hn => by
  simp only [wI]
  cases i with
  | zero => simp at h; subst h; simp only [hn, if_true]; exact ⟨b, rfl⟩
  | succ i =>
   split
   · simpa using lg os (b + 1) i o (by simpa using h) hn
   · simpa using lg os b i o (by simpa using h) hn
theorem Qd (hS : St w F ρ Ow h) (k : Nat) : St w F ρ Ow (h ++ List.replicate k .dead) := by
 have hget : ∀ r b, (h ++ List.replicate k Blk.dead)[r]? = some b → h[r]? = some b ∨ b = Blk.dead := fun r b hr => by
  rcases Nat.lt_or_ge r h.length with hlt | hge
  · rw [List.getElem?_append_left hlt] at hr; exact .inl hr
  · rw [List.getElem?_append_right hge, List.getElem?_replicate] at hr
    split at hr
    · cases hr; exact .inr rfl
    · cases hr
 refine ⟨fun r b hr => ?_, fun r r' b b' L L' hr hr' hw hw' h1 h2 h3 => ?_, hS.fsz, fun r hr => hS.out r (by simp at hr; omega), ?_⟩
 · rcases hget r b hr with h1 | rfl
   · exact hS.blk r b h1
   · trivial
 · rcases hget r b hr with k1 | rfl
   · rcases hget r' b' hr' with k2 | rfl
     · exact hS.inj r r' b b' L L' k1 k2 hw hw' h1 h2 h3
     · simp [writes] at hw'
   · simp [writes] at hw
 · refine hS.owned (Nxt.refl Ow w F ρ) (fun b _ hF _ _ => ⟨rfl, hF⟩) (fun r i j x ho => ⟨?_, fun _ _ _ hx => hx⟩) fun r b L hr hw hL => ?_
   · obtain ⟨sz, es, cs, h1, h2⟩ := ho
     rcases hget r _ h1 with h3 | h3
     · exact ⟨sz, es, cs, h3, h2⟩
     · cases h3
   · rcases hget r b hr with h3 | rfl
     · exact .inr (hS.same (Ext.refl _) h3 hw hL)
     · simp [writes] at hw
theorem range_map_get {α : Type} (l : List α) (d : α) : (List.range l.length).map (fun i => l.getD i d) = l := by
 apply List.ext_getElem?
 intro i
 by_cases hi : i < l.length
 · simp [hi]
 · simp [hi]
theorem Yb {W0 : World} (hB : wE W0 w F) (hrec : xN P W0 rec) {n : Nat} (hdst : pB n ops = true) (hok : oq P ops = true) {id : Nat} {Q : Exit → Act → World → Prop} {e e' : Env} {h' : Heap} {a : Act}
 (hev : (if !(ops.toList.all (yF pol f)) then vP P pol rec f ops e h else w7 P pol rec f ops ops.toList e h) = some (e', h')) (hS : St w F ρ Ow h)
 (hO : OkC Ow w) (he : RE w F ρ a e) (hn : a.tmps.size = n) (hd : a.defers = []) (hK : qq Ow w F ρ n e' h' (Q .normal)) : (Code.region id ops true).wp P Q a w := by
 simp only [oq, Bool.and_eq_true] at hok
 obtain ⟨hm, hpairs⟩ := hok
 obtain ⟨hS1, hN⟩ := lf hS
 have hO1 : OkC Ow w.drew := hO.mono (Nat.le_refl _)
 have hops : (List.range ops.size).map (ops[·]?) = ops.toList.map some := pJ ops
 have hlast : ∀ i, i ∈ List.range ops.size ↔ i < ops.size ∧ (Array.replicate ops.size false).getD i true = false := fun i => by
  simp only [List.mem_range]
  constructor
  · intro hi; exact ⟨hi, by simp [Array.getD_eq_getD_getElem?, hi]⟩
  · exact fun hi => hi.1
 by_cases hall : ops.toList.all (yF pol f) = true
 · simp only [hall, Bool.not_true, Bool.false_eq_true, if_false] at hev
   have non : ∀ i o, ops[i]? = some o → yF pol f o = true := fun i o ho => List.all_eq_true.1 hall o (by rw [Array.mem_toList_iff]; exact Array.mem_of_getElem? ho)
   obtain ⟨fps, hD⟩ := jr _ hev
   obtain ⟨l1, _⟩ := iW _ _ hD
   have hE := iX (Ns := fun _ => none) (fp := fun i => fps.getD i []) (List.range ops.size) _ _ hops (by simp [List.map_const']) hD (by
    rw [show ops.size = fps.length by simpa using l1.symm]; exact range_map_get fps [])
   refine wp_region_any hm (Tw (w := w.drew) hrec hdst hpairs (Ns := fun _ => none) (fp := fun i => fps.getD i []) (fun i o ho hnw => ?_) (fun i j r hr => by cases hr) (fun i j oj hij hoj hnp oi oj' hoi hoj' => ?_) ops.size (List.range ops.size) (Array.replicate ops.size false) (by simp) List.pairwise_lt_range (by simp) hlast (fun i _ r hr => by cases hr) (fun k ok hk => by simp only [Array.getD_eq_getD_getElem?, Array.getElem?_replicate] at hk; split at hk <;> simp at hk) hE (hB.next hN) hS1 hO1 (hN.re he) hn hd (hK.step hN))
   · exfalso
     have h1 := non i o ho
     obtain ⟨dst, op, ty, pos, after, guard⟩ := o
     cases op with
     | call c =>
      obtain ⟨callee, args, tys⟩ := c
      cases callee with
      | builtin b => cases b <;> simp [yF, x7] at h1 hnw
      | value x => cases hp : pol.pm f (dst.getD 0) <;> simp [yF, x7, hp] at h1 hnw
      | invoke r m => simp [x7] at hnw
     | _ => simp [yF, x7] at h1 hnw
   · rw [hoj] at hoj'; cases hoj'
     have hno : ∀ e ∈ oj.after, Region.binds .any e = true → e.on ≠ i := fun e he hb heq => hnp (.dir hoj he hb heq)
     exact ⟨(vG hpairs hoj).2 i oi hij hoi hno, by simp [soft, non i oi hoi], by simp [soft, non j oj hoj], .inl ⟨non i oi hoi, non j oj hoj⟩⟩
 · simp only [hall, Bool.not_false, if_true] at hev
   unfold vP at hev
   split at hev
   · rename_i fps e1 h1 hD
     split at hev
     · rename_i hdyn
       cases hev
       obtain ⟨l1, l2⟩ := iW _ _ hD
       have hE := iX (Ns := fun i => (wI pol f h.length ops.toList).getD i none) (fp := fun i => fps.getD i []) (List.range ops.size) _ _ hops (by
        rw [show ops.size = (wI pol f h.length ops.toList).length by simpa using l2.symm]; exact range_map_get _ none) hD (by
        rw [show ops.size = fps.length by simpa using l1.symm]; exact range_map_get fps [])
       have hget : ∀ i r, (wI pol f h.length ops.toList).getD i none = some r → (wI pol f h.length ops.toList)[i]? = some (some r) := fun i r hr => by
        rw [List.getD_eq_getElem?_getD] at hr
        cases hx : (wI pol f h.length ops.toList)[i]? with
        | none => simp [hx] at hr
        | some y => simp [hx] at hr; rw [hr]
       refine wp_region_any hm (Tw (w := w.drew) hrec hdst hpairs (Ns := fun i => (wI pol f h.length ops.toList).getD i none) (fp := fun i => fps.getD i []) (fun i o ho hnw => ?_) (fun i j r hr hr' => lh _ _ _ _ _ (hget i r hr) (hget j r hr')) (fun i j oj hij hoj hnp oi oj' hoi hoj' => ?_) ops.size (List.range ops.size) (Array.replicate ops.size false) (by simp) List.pairwise_lt_range (by simp) hlast (fun i _ r hr => ?_) (fun k ok hk => by simp only [Array.getD_eq_getD_getElem?, Array.getElem?_replicate] at hk; split at hk <;> simp at hk) hE (hB.next hN) (Qd hS1 _) hO1 (hN.re he) hn hd (hK.step hN))
       · obtain ⟨r, hr⟩ := lg ops.toList h.length i o (by simpa using ho) hnw
         rw [List.getD_eq_getElem?_getD, hr]; rfl
       · rw [hoj] at hoj'; cases hoj'
         have hno : ∀ e ∈ oj.after, Region.binds .any e = true → e.on ≠ i := fun e he hb heq => hnp (.dir hoj he hb heq)
         have hlt : j < ops.size := (Array.getElem?_eq_some_iff.1 hoj).1
         have h2 := List.all_eq_true.1 hdyn j (List.mem_range.2 hlt)
         simp only [hoj, List.all_eq_true, List.mem_range] at h2
         have h3 := h2 i hij
         simp only [hoi, T0, Bool.or_eq_true, Bool.and_eq_true] at h3
         rcases h3 with h3 | h3 | h3
         rotate_right
         · exact absurd (iM 6 j h3) hnp
         · obtain ⟨ed, he1, hb⟩ := Array.any_eq_true'.1 h3
           simp only [Bool.and_eq_true, beq_iff_eq] at hb
           exact absurd hb.2 (hno ed he1 hb.1)
         · exact ⟨(vG hpairs hoj).2 i oi hij hoi hno, h3.1.1, h3.1.2, h3.2⟩
       · obtain ⟨r1, r2⟩ := sw _ _ _ _ (hget i r hr)
         refine ⟨?_, hS1.out r r1⟩
         rw [List.getElem?_append_right r1, List.getElem?_replicate, if_pos (by omega)]
     · cases hev
   · cases hev
end Go.Proofs.YtijninlbpifonaaGreatDoor.E
/- Regions of open order whose writes stand in a chain: what may change places with a write does not look at what it writes. Conditions: those of each lemma. -/
namespace Go.Proofs.YtijninlbpifonaaGreatDoor.E
set_option linter.unusedVariables false
set_option linter.unusedSimpArgs false
variable {P : Program} {w : World} {F : Nat → Prop} {ρ : yq} {Ow : Own} {h : Heap} {pol : Pol} {rec : Rec} {f : Nat} {N : Option Nat} {ops : Array Oper}
theorem eA {o : Oper} (h1 : yF pol f o = true) (h2 : okK pol f o = true) : False := by
 obtain ⟨dst, op, ty, pos, after, guard⟩ := o
 cases op with
 | call c =>
  obtain ⟨callee, args, tys⟩ := c
  cases callee with
  | builtin b => cases b <;> simp [yF, okK] at h1 h2
  | value x => cases hp : pol.pm f (dst.getD 0) <;> simp [yF, okK, hp] at h1 h2
  | invoke r m => simp [okK] at h2
 | _ => simp [yF, okK] at h1 h2
theorem cR {o : Oper} (hn : yF pol f o = true) {e : Env} : xa P pol rec f o e h = none := by
 obtain ⟨dst, op, ty, pos, after, guard⟩ := o
 cases op with
 | call c =>
  obtain ⟨callee, args, tys⟩ := c
  cases callee with
  | builtin b => cases b <;> simp [yF] at hn <;> simp [xa]
  | value x =>
   simp only [yF] at hn
   unfold xa
   simp only
   split
   · split
     · rename_i hp; rw [hp] at hn; cases hn
     · rename_i hp; rw [hp] at hn; cases hn
     · rfl
   · rfl
  | invoke r m => simp [yF] at hn
 | _ => first | rfl | simp [yF] at hn
theorem qk {o : Oper} (hn : yF pol f o = true) {e : Env} : vA P pol rec f o e h = yf P pol rec f none o e h := by
 unfold vA
 rw [cR hn]
 split <;> rfl
/-- one operation's value -/
def sK (P : Program) (pol : Pol) (rec : Rec) (f : Nat) (ops : Array Oper) (o : Oper) (e : Env) (h : Heap) : Option (V × Heap) :=
 match want ops o e with
 | some true => vA P pol rec f o e h
 | some false => some (.und, h)
 | none => none
theorem jt (o : Oper) (e : Env) : xM P pol rec f ops o e h = match sK P pol rec f ops o e h with | some (v, h') => some (put e o.dst v, h') | none => none := by
 unfold xM sK
 cases want ops o e with
 | none => rfl
 | some b => cases b with
  | false => rfl
  | true => simp only; cases vA P pol rec f o e h <;> rfl
theorem gI {o : Oper} (hn : okK pol f o = true) {e e' : Env} (hs : wq ops o e e') : xa P pol rec f o e h = xa P pol rec f o e' h := by
 have ho : ∀ {x : Operand}, x ∈ o.op.operands → ∀ ty, opv P e ty x = opv P e' ty x := fun hx ty => hs.opv ty hx
 obtain ⟨dst, op, ty, pos, after, guard⟩ := o
 cases op with
 | buildSlice t len parts =>
  simp only [xa]
  cases yd P t with
  | none => rfl
  | some el => simp only; rw [vm _ parts.toList fun x hx t => ho (by simp only [Op.operands, List.mem_toArray]; exact hx) t]
 | makeSlice t l c => simp only [xa, ho (x := l) (by simp [Op.operands]), ho (x := c) (by simp [Op.operands])]
 | call c =>
  obtain ⟨callee, args, tys⟩ := c
  cases callee with
  | builtin b =>
   simp only [xa]
   rw [wJ args.toList tys.toList fun y hy ty => ho (by simpa [Op.operands, Call.operands] using hy) ty]
  | value x =>
   simp only [xa]
   rw [wJ args.toList tys.toList fun y hy ty => ho (by simp [Op.operands, Call.operands]; right; simpa using hy) ty, ho (x := x) (by simp [Op.operands, Call.operands])]
  | invoke r m => rfl
 | _ => rfl
theorem gR {o : Oper} (hn : okK pol f o = true) {e e' : Env} (hs : wq ops o e e') : yf P pol rec f N o e h = yf P pol rec f N o e' h := by
 by_cases hsf : soft pol f o = true
 · exact qj hsf hs
 · obtain ⟨dst, op, ty, pos, after, guard⟩ := o
   cases op with
   | call c =>
    obtain ⟨callee, args, tys⟩ := c
    cases callee with
    | builtin b => cases b <;> simp [okK, soft, yF, x7] at hn hsf
    | value x =>
     have ho : opv P e 0 x = opv P e' 0 x := hs.opv 0 (by simp [Op.operands, Call.operands])
     simp only [yf, ho]
     cases fnV (opv P e' 0 x) with
     | none => rfl
     | some y =>
      simp only [okK] at hn
      cases hp : pol.pm f (dst.getD 0) <;> simp [hp] at hn
      simp only [wF, hp]
    | invoke r m => simp [okK] at hn
   | _ => simp [okK, soft, yF, x7] at hn hsf
theorem uL {o : Oper} (hn : yF pol f o = true ∨ okK pol f o = true) {e e' : Env} (hs : wq ops o e e') : sK P pol rec f ops o e h = sK P pol rec f ops o e' h := by
 unfold sK
 rw [nY hs]
 rcases hn with hn | hn
 · rw [qk hn, qk hn, qj (by simp [soft, hn]) hs]
 · unfold vA
   rw [gI hn hs, gR hn hs]
theorem Z1 {o : Oper} (hn : yF pol f o = true) {e : Env} : sK P pol rec f ops o e h = ev1 P pol rec f none ops o e h := by
 unfold sK ev1; rw [qk hn]
 all_goals rfl
/-- new rows behind, what was not named as it was -/
def vH (fp : List Nat) (h h1 : Heap) : Prop := ∀ r, r < h.length → r ∉ fp → h1[r]? = h[r]?
theorem vH.app {fp : List Nat} {k : Heap} : vH fp h (h ++ k) := fun r hr _ => List.getElem?_append_left hr
theorem vH.loc {fp : List Nat} {h1 h2 : Heap} {k : Heap} (hl : h1.length = h.length) (hk : vH fp h h1) (e : h2 = h1 ++ k) : vH fp h h2 := fun r hr hn => by
 rw [e, List.getElem?_append_left (by omega)]; exact hk r hr hn
theorem Uc {g : Nat} {args : List V} {v : V} {h1 : Heap} (hev : pC rec g args h = some (v, h1)) {fp : List Nat} : vH fp h h1 := by
 unfold pC at hev
 split at hev
 · split at hev
   · split at hev
     · unfold yT at hev
       split at hev
       · cases hev
       · cases hev
         simp only [z6]
         exact vH.app
     · cases hev
   · cases hev
 · cases hev
theorem jM {ty tx : TypeId} {s x v : V} {h h1 : Heap} (hev : kB P ty tx s x h = some (v, h1)) {fp : List Nat} (hs : ∀ r ∈ refs s, r ∈ fp) : vH fp h h1 := by
 unfold kB at hev
 split at hev
 · split at hev
   · rename_i r off len cap r2 off2 len2 cap2
     split at hev
     · split at hev
       · cases hev
         refine vH.loc (h1 := h.set r .dead) (by simp) (fun k hk hn => ?_) rfl
         exact List.getElem?_set_ne fun e : r = k => hn (hs k (by simp [refs, e]))
       · cases hev
     · cases hev
   · cases hev
 · cases hev
theorem jj {dst : Option Nat} {cl : Callee} {args : Array Operand} {tys : Array TypeId} {ty : TypeId} {pos : String} {after : Array Edge} {guard : Option (Nat × Bool)} {e : Env} {s : V} {r : Nat} (hm : s ∈ yB P e args.toList tys.toList) (hr : r ∈ refs s) :
 r ∈ yG none ⟨dst, .call ⟨cl, args, tys⟩, ty, pos, after, guard⟩ e h := by
 have hx : ∀ (xs : List Operand) (ts : List TypeId), s ∈ yB P e xs ts → ∃ x ∈ xs, ∃ t, s = opv P e t x := by
  intro xs
  induction xs with
  | nil => intro ts h; simp [yB] at h
  | cons y ys ih =>
   intro ts h
   cases ts with
   | nil =>
    simp only [yB, List.mem_cons] at h
    rcases h with h | h
    · exact ⟨y, by simp, 0, h⟩
    · obtain ⟨x, h1, t, h2⟩ := ih [] h; exact ⟨x, by simp [h1], t, h2⟩
   | cons t ts =>
    simp only [yB, List.mem_cons] at h
    rcases h with h | h
    · exact ⟨y, by simp, t, h⟩
    · obtain ⟨x, h1, t, h2⟩ := ih ts h; exact ⟨x, by simp [h1], t, h2⟩
 obtain ⟨x, h1, t, rfl⟩ := hx _ _ hm
 refine sC (P := P) (ty := t) ?_ hr
 cases cl <;> simp [Op.operands, Call.operands] <;> first | exact .inr (by simpa using h1) | simpa using h1
theorem Xl {sz : Nat} {zs : List V} {r off len : Nat} {v : V} {h1 : Heap} (hc : jS sz zs r off len h = some (v, h1)) {fp : List Nat} (hs : r ∈ fp) : vH fp h h1 := by
 have key : ∀ b, h1 = h.set r b → vH fp h h1 := fun b e k hk hn => by
  rw [e]; exact List.getElem?_set_ne fun e' : r = k => hn (e' ▸ hs)
 unfold jS at hc
 split at hc
 · split at hc
   · split at hc
     · cases hc; exact key _ rfl
     · cases hc
   · cases hc
 · split at hc
   · cases hc; exact key _ rfl
   · cases hc
 · cases hc
theorem Xk {t : TypeId} {x v : V} {h1 : Heap} (hc : kA P t x h = some (v, h1)) {fp : List Nat} (hs : ∀ r ∈ refs x, r ∈ fp) : vH fp h h1 := by
 unfold kA at hc
 split at hc
 · split at hc
   · cases hc; exact fun r _ _ => rfl
   · split at hc
     · exact Xl hc (hs _ (by simp [refs]))
     · cases hc
   · cases hc
 · cases hc
theorem Vo {o : Oper} (hn : okK pol f o = true) {e : Env} {v : V} {h1 : Heap} (hev : xa P pol rec f o e h = some (v, h1)) : vH (yG none o e h) h h1 := by
 have hf : ∀ {x : Operand} {ty : TypeId}, x ∈ o.op.operands → ∀ r ∈ refs (opv P e ty x), r ∈ yG none o e h := fun hx r hr => sC hx hr
 obtain ⟨dst, op, ty, pos, after, guard⟩ := o
 cases op with
 | buildSlice t len parts =>
  simp only [xa] at hev
  (repeat' split at hev) <;> first | (cases hev; done) | (cases hev; exact vH.app)
 | makeSlice t l c =>
  simp only [xa] at hev
  (repeat' split at hev) <;> first | (cases hev; done) | (cases hev; exact vH.app)
 | call c =>
  obtain ⟨callee, args, tys⟩ := c
  cases callee with
  | builtin b =>
   simp only [xa] at hev
   split at hev
   · rename_i s x t u ha ht
     have hs : ∀ r ∈ refs s, r ∈ yG none ⟨dst, .call ⟨.builtin .append, args, tys⟩, ty, pos, after, guard⟩ e h := fun r hr => by
      have hm : s ∈ yB P e args.toList tys.toList := by rw [ha]; simp
      have : r ∈ refs.refss (yB P e args.toList tys.toList) := by rw [ha]; simp [refs.refss, hr]
      unfold yG
      refine List.mem_append.2 (.inr (pU ?_))
      have hx : ∀ (xs : List Operand) (ts : List TypeId), r ∈ refs.refss (yB P e xs ts) → r ∈ zd e xs := by
       intro xs
       induction xs with
       | nil => intro ts h; simp [yB, refs.refss] at h
       | cons y ys ih =>
        intro ts h
        have key : ∀ (ty : TypeId) ts', r ∈ refs (opv P e ty y) ∨ r ∈ refs.refss (yB P e ys ts') → r ∈ zd e (y :: ys) := fun ty ts' h => by
         rcases h with h | h
         · obtain ⟨t, rfl, ht⟩ := sr h
           exact xJ ht (by simp)
         · have := ih ts' h
           cases y <;> simp only [zd] <;> first | exact this | exact List.mem_append.2 (.inr this)
        cases ts with
        | nil => simp only [yB, refs.refss, List.mem_append] at h; exact key 0 [] h
        | cons t ts => simp only [yB, refs.refss, List.mem_append] at h; exact key t ts h
      have := hx _ _ this
      simpa [Op.operands, Call.operands] using this
     unfold jT at hev
     split at hev
     · rename_i sz
       have hk := jM (fp := [h.length]) hev (fun r hr => by simpa [refs] using hr)
       intro r hr hn
       have := hk r (by simp; omega) (by simp; omega)
       rw [this, List.getElem?_append_left hr]
     · exact jM hev hs
   · rename_i x t ha ht
     exact Xk hev fun r hr => jj (s := x) (by rw [ha]; simp) hr
   · cases hev
  | value x =>
   simp only [xa] at hev
   split at hev
   · split at hev
     · exact Uc hev
     · rename_i hp; simp [okK, hp] at hn
     · cases hev
   · cases hev
  | invoke r m => simp [xa] at hev
 | _ => simp [xa] at hev
theorem Ui {ty tx : TypeId} {s x v : V} {h1 : Heap} (hc : app P none ty tx s x h = some (v, h1)) {fp : List Nat} (hs : ∀ r ∈ refs s, r ∈ fp) : vH fp h h1 := by
 unfold app at hc
 split at hc
 · cases hc
 · split at hc
   · cases hc
   · split at hc
     · split at hc
       · cases hc; simp only [nH]; exact vH.app
       · cases hc
     · rename_i r off len cap
       split at hc
       · split at hc
         · cases hc
           simp only [nH]
           refine vH.loc (h1 := h.set r .dead) (by simp) (fun k hk hn => ?_) rfl
           exact List.getElem?_set_ne fun e : r = k => hn (hs k (by simp [refs, e]))
         · cases hc
       · cases hc
     · cases hc
theorem Ud {tys : List TypeId} {args : List V} {v : V} {h1 : Heap} (hc : blt P none .append tys args h = some (v, h1)) {fp : List Nat} (hs : ∀ s ∈ args, ∀ r ∈ refs s, r ∈ fp) : vH fp h h1 := by
 unfold blt at hc
 split at hc
 · rename_i hb; cases hb
 · split at hc
   · exact Ui hc (hs _ (by simp))
   · cases hc
 · rename_i hb; cases hb
 · rename_i hb; cases hb
 · cases hc
theorem ez {o : Oper} (hn : okK pol f o = true) {e : Env} {v : V} {h1 : Heap} (hev : yf P pol rec f none o e h = some (v, h1)) : vH (yG none o e h) h h1 := by
 have hf : ∀ {x : Operand} {ty : TypeId}, x ∈ o.op.operands → ∀ r ∈ refs (opv P e ty x), r ∈ yG none o e h := fun hx r hr => sC hx hr
 obtain ⟨dst, op, ty, pos, after, guard⟩ := o
 cases op with
 | alloc t =>
  simp only [yf] at hev
  (repeat' split at hev) <;> first | (cases hev; done) | (cases hev; exact vH.app)
 | box t x =>
  simp only [yf] at hev
  (repeat' split at hev) <;> first | (cases hev; done) | (cases hev; exact vH.app)
 | makeSlice t l c =>
  simp only [yf] at hev
  (repeat' split at hev) <;> first | (cases hev; done) | (cases hev; exact vH.app)
 | buildSlice t len parts =>
  simp only [yf] at hev
  split at hev
  · rename_i el hel
    split at hev
    · cases hev
    · split at hev
      · rename_i css hcs
        split at hev
        · rename_i es h' hg
          cases hev
          have hsub : ∀ r ∈ refs.refss css.flatten, r ∈ yG none ⟨dst, .buildSlice t len parts, ty, pos, after, guard⟩ e h := fun r hr => by
           obtain ⟨u, hu, hr2⟩ := qi hcs r hr
           obtain ⟨x, t', hx, rfl⟩ := qd hu
           exact hf (x := x) (ty := t') (by simp only [Op.operands, List.mem_toArray]; exact hx) r hr2
          obtain ⟨h3, g1, g2⟩ := qh (fp := yG none ⟨dst, .buildSlice t len parts, ty, pos, after, guard⟩ e h) rfl hsub (fun _ _ => rfl) hg
          refine vH.loc (h1 := h') g2.l1 (fun k hk hn => g2.off1 k hn) rfl
        · cases hev
      · cases hev
  · cases hev
 | call c =>
  obtain ⟨callee, args, tys⟩ := c
  cases callee with
  | builtin b =>
   cases b <;> simp [okK] at hn
   simp only [yf] at hev
   exact Ud hev fun s hm r hr => jj hm hr
  | value x =>
   simp only [okK] at hn
   simp only [yf] at hev
   split at hev
   · cases hp : pol.pm f (dst.getD 0) <;> simp [hp] at hn
     simp only [wF, hp] at hev
     cases hev
   · cases hev
  | invoke r m => simp [okK] at hn
 | _ => simp [okK] at hn
theorem Z3 {o : Oper} (hn : okK pol f o = true) {e : Env} {v : V} {h1 : Heap} (hev : sK P pol rec f ops o e h = some (v, h1)) : vH (yG none o e h) h h1 := by
 unfold sK at hev
 split at hev
 · unfold vA at hev
   split at hev
   · split at hev
     · rename_i r hr; cases hev; exact Vo hn hr
     · exact ez hn hev
   · exact ez hn hev
 · cases hev; exact fun r _ _ => rfl
 · cases hev
theorem sk {o : Oper} (hn : yF pol f o = true) {e : Env} {v : V} {h' : Heap} (hev : sK P pol rec f ops o e h = some (v, h')) : h' = h := by
 rw [Z1 hn] at hev; exact pd hn hev
theorem Z2 {o : Oper} (hn : yF pol f o = true) {e : Env} {h2 : Heap} (ha : ∀ r ∈ yG none o e h, h2[r]? = h[r]?) {v : V} (hev : sK P pol rec f ops o e h = some (v, h)) : sK P pol rec f ops o e h2 = some (v, h2) := by
 rw [Z1 hn] at hev ⊢
 unfold ev1 at hev ⊢
 split at hev
 · exact eG hn ha hev
 · cases hev; rfl
 · cases hev
theorem TP {a b : Oper} (hap : a.apart ops b = true) {e : Env} {va vb : V} {h1 h2 : Heap}
 (hc : (yF pol f a = true ∧ yF pol f b = true) ∨ (yF pol f a = true ∧ okK pol f b = true ∧ ∀ r ∈ yG none a e h, r < h.length ∧ r ∉ yG none b (put e a.dst va) h1) ∨
  (okK pol f a = true ∧ yF pol f b = true ∧ ∀ r ∈ yG none b (put e a.dst va) h1, r < h.length ∧ r ∉ yG none a e h))
 (h1e : sK P pol rec f ops a e h = some (va, h1)) (h2e : sK P pol rec f ops b (put e a.dst va) h1 = some (vb, h2)) :
 ∃ h3, sK P pol rec f ops b e h = some (vb, h3) ∧ sK P pol rec f ops a (put e b.dst vb) h3 = some (va, h2) ∧ yG none b e h = yG none b (put e a.dst va) h1 ∧ yG none a (put e b.dst vb) h3 = yG none a e h ∧
  (yF pol f b = true ∨ h.length = h1.length) ∧ (yF pol f a = true ∨ h3.length = h.length) := by
 obtain ⟨k1, k2, k3⟩ := Oper.apart_spec hap
 have s1 : wq ops b (put e a.dst va) e := fun t ht => nJ fun hx => k1 t hx ht
 have s2 : wq ops a (put e b.dst vb) e := fun t ht => nJ fun hx => k3 t hx ht
 rw [wL s1] at hc ⊢
 rcases hc with ⟨hna, hnb⟩ | ⟨hna, hkb, hd⟩ | ⟨hka, hnb, hd⟩
 · have e1 := sk hna h1e
   subst e1
   have e2 := sk hnb h2e
   subst e2
   rw [uL (.inl hnb) s1] at h2e
   exact ⟨h2, h2e, by rw [uL (.inl hna) s2]; exact h1e, rfl, wL s2, .inl hnb, .inl hna⟩
 · have e1 := sk hna h1e
   subst e1
   rw [uL (.inr hkb) s1] at h2e
   have hk := Z3 hkb h2e
   have ag : ∀ r ∈ yG none a e h1, h2[r]? = h1[r]? := fun r hr => hk r (hd r hr).1 (hd r hr).2
   exact ⟨h2, h2e, by rw [uL (.inl hna) s2]; exact Z2 hna ag h1e, rfl, (wL s2).trans (pc ag), .inr rfl, .inl hna⟩
 · have e2 := sk hnb h2e
   subst e2
   rw [uL (.inl hnb) s1] at h2e
   have hk := Z3 hka h1e
   have ag : ∀ r ∈ yG none b e h2, h[r]? = h2[r]? := fun r hr => (hk r (hd r hr).1 (hd r hr).2).symm
   exact ⟨h, Z2 hnb ag h2e, by rw [uL (.inr hka) s2]; exact h1e, pc ag, wL s2, .inl hnb, .inr rfl⟩
/-- the operations at places; of each, what was noted of it -/
def evY (P : Program) (pol : Pol) (rec : Rec) (f : Nat) (ops : Array Oper) (fp : Nat → List Nat) : List Nat → Env → Heap → Option (Env × Heap)
 | [], e, h => some (e, h)
 | i :: rest, e, h => match ops[i]? with
  | some o => if yG none o e h = (fp i).tail ∧ (yF pol f o = true ∨ (fp i).head? = some h.length) then (match sK P pol rec f ops o e h with
   | some (v, h') => evY P pol rec f ops fp rest (put e o.dst v) h'
   | none => none) else none
  | none => none
def ChgY (pol : Pol) (f : Nat) (ops : Array Oper) (fp : Nat → List Nat) (i j : Nat) : Prop :=
 ∀ oi oj, ops[i]? = some oi → ops[j]? = some oj → oi.apart ops oj = true ∧
  ((yF pol f oi = true ∧ yF pol f oj = true) ∨ (yF pol f oi = true ∧ okK pol f oj = true ∧ Z8 (fp i) (fp j) = true) ∨ (okK pol f oi = true ∧ yF pol f oj = true ∧ Z8 (fp j) (fp i) = true))
theorem fW {rs ws fa fb : List Nat} {n : Nat} (hs : Z8 rs ws = true) (ha : fa = rs.tail) (hb : fb = ws.tail) (hn : ws.head? = some n) : ∀ r ∈ fa, r < n ∧ r ∉ fb := by
 subst ha hb
 cases rs with
 | nil => simp [Z8] at hs
 | cons x fs =>
  cases ws with
  | nil => simp at hn
  | cons k ws =>
   simp only [List.head?_cons, Option.some.injEq] at hn
   subst hn
   simp only [Z8, List.all_eq_true, Bool.and_eq_true, decide_eq_true_eq, Bool.not_eq_true', List.tail_cons] at hs ⊢
   intro r hr
   obtain ⟨h1, h2⟩ := hs r hr
   exact ⟨h1, fun hm => by simp [hm] at h2⟩
theorem jq {fp : Nat → List Nat} {i : Nat} (B : List Nat) : ∀ (A : List Nat), (∀ j ∈ A, ChgY pol f ops fp j i) → ∀ {h : Heap} {e : Env} {r : Env × Heap},
 evY P pol rec f ops fp (A ++ i :: B) e h = some r → evY P pol rec f ops fp (i :: (A ++ B)) e h = some r
 | [], _, h, e, r, hev => hev
 | j :: A, hA, h, e, r, hev => by
  simp only [List.cons_append, evY] at hev
  split at hev
  · rename_i oj hoj
    split at hev
    · rename_i hfj
      split at hev
      · rename_i va h1 h1e
        have h2 := jq B A (fun k hk => hA k (by simp [hk])) hev
        simp only [evY] at h2
        split at h2
        · rename_i oi hoi
          split at h2
          · rename_i hfi
            split at h2
            · rename_i vb h2' h2e
              obtain ⟨c1, c2⟩ := hA j (by simp) oj oi hoj hoi
              obtain ⟨k1, k2, k3⟩ := Oper.apart_spec c1
              have c3 : (yF pol f oj = true ∧ yF pol f oi = true) ∨ (yF pol f oj = true ∧ okK pol f oi = true ∧ ∀ r ∈ yG none oj e h, r < h.length ∧ r ∉ yG none oi (put e oj.dst va) h1) ∨
               (okK pol f oj = true ∧ yF pol f oi = true ∧ ∀ r ∈ yG none oi (put e oj.dst va) h1, r < h.length ∧ r ∉ yG none oj e h) := by
               rcases c2 with c2 | ⟨c2, c4, c5⟩ | ⟨c2, c4, c5⟩
               · exact .inl c2
               · have e1 := sk c2 h1e
                 subst e1
                 rcases hfi.2 with hx | hx
                 · exact (eA hx c4).elim
                 · exact .inr (.inl ⟨c2, c4, fW c5 hfj.1 hfi.1 hx⟩)
               · rcases hfj.2 with hx | hx
                 · exact (eA hx c2).elim
                 · exact .inr (.inr ⟨c2, c4, fW c5 hfi.1 hfj.1 hx⟩)
              obtain ⟨h3, g1, g2, g3, g4, g5, g6⟩ := TP c1 c3 h1e h2e
              have f1 : yG none oi e h = (fp i).tail ∧ (yF pol f oi = true ∨ (fp i).head? = some h.length) := ⟨by rw [g3]; exact hfi.1, by
               rcases g5 with g5 | g5
               · exact .inl g5
               · rw [g5]; exact hfi.2⟩
              have f2 : yG none oj (put e oi.dst vb) h3 = (fp j).tail ∧ (yF pol f oj = true ∨ (fp j).head? = some h3.length) := ⟨by rw [g4]; exact hfj.1, by
               rcases g6 with g6 | g6
               · exact .inl g6
               · rw [g6]; exact hfj.2⟩
              simp only [evY, hoi, g1, List.cons_append, hoj, g2]
              rw [if_pos f1, if_pos f2, ← ef e va vb k2]
              exact h2
            · cases h2
          · cases h2
        · cases h2
      · cases hev
    · cases hev
  · cases hev
theorem Rn {W0 : World} (hrec : xN P W0 rec) {n : Nat} (hdst : pB n ops = true) (hpairs : nK ops = true) {fp : Nat → List Nat}
 (hchg : ∀ i j oj, i < j → ops[j]? = some oj → ¬ Path ops i j → ChgY pol f ops fp i j) {Q : Exit → Act → World → Prop} :
 ∀ (fuel : Nat) (R : List Nat) (listed : Array Bool) {w : World} {F : Nat → Prop} {ρ : yq} {h : Heap} {e e' : Env} {h' : Heap} {a : Act}, R.length = fuel → R.Pairwise (· < ·) → listed.size = ops.size → (∀ i, i ∈ R ↔ i < ops.size ∧ listed.getD i true = false) →
  (∀ k ok, listed.getD k false = true → ops[k]? = some ok → ∀ ed ∈ ok.after, Region.binds .any ed = true → listed.getD ed.on false = true) →
  evY P pol rec f ops fp R e h = some (e', h') → wE W0 w F → St w F ρ Ow h → OkC Ow w → RE w F ρ a e → a.tmps.size = n → a.defers = [] → qq Ow w F ρ n e' h' (Q .normal) → wpAny P .any ops Q fuel listed a w := by
 intro fuel
 induction fuel with
 | zero =>
  intro R listed w F ρ h e e' h' a hl hs hsz hR hcl hev hB hS hO he hn hd hK
  have : R = [] := List.eq_nil_of_length_eq_zero hl
  subst this
  simp only [evY] at hev
  cases hev
  refine ⟨?_, hK a w F ρ he hS (Nxt.refl _ _ _ _) hn hd⟩
  apply List.eq_nil_iff_forall_not_mem.2
  intro j hj
  obtain ⟨hju, oj, hoj, _⟩ := mem_ready.1 hj
  have := (hR j).2 ⟨(Array.getElem?_eq_some_iff.1 hoj).1, hju⟩
  cases this
 | succ fuel ih =>
  intro R listed w F ρ h e e' h' a hl hs hsz hR hcl hev hB hS hO he hn hd hK
  refine ⟨fun hnil => ?_, fun i hi => ?_⟩
  · exfalso
    cases R with
    | nil => simp at hl
    | cons j R =>
     obtain ⟨hj1, hj2⟩ := (hR j).1 (by simp)
     obtain ⟨oj, hoj⟩ : ∃ o, ops[j]? = some o := ⟨_, Array.getElem?_eq_getElem hj1⟩
     have : j ∈ Region.ready .any ops listed := mem_ready.2 ⟨hj2, oj, hoj, fun ed hed hb => by
      have hlt := (vG hpairs hoj).1 ed hed hb
      cases hx : listed.getD ed.on false with
      | true => rfl
      | false =>
       have hx' : listed.getD ed.on true = false := by
        simp only [Array.getD_eq_getD_getElem?] at hx ⊢
        have hin : ed.on < listed.size := by omega
        simp [hin] at hx ⊢; exact hx
       have := (hR ed.on).2 ⟨by omega, hx'⟩
       rcases List.mem_cons.1 this with h1 | h1
       · omega
       · have := (List.pairwise_cons.1 hs).1 _ h1; omega⟩
     rw [hnil] at this
     cases this
  · obtain ⟨hiu, oi, hoi, hall'⟩ := mem_ready.1 hi
    have hmem := (hR i).2 ⟨(Array.getElem?_eq_some_iff.1 hoi).1, hiu⟩
    obtain ⟨A, B, rfl⟩ := List.append_of_mem hmem
    have hpw := List.pairwise_append.1 hs
    have hnA : i ∉ A := fun h1 => by have := hpw.2.2 i h1 i (by simp); omega
    have hnB : i ∉ B := fun h1 => by have := (List.pairwise_cons.1 hpw.2.1).1 i h1; omega
    have hfront := jq (P := P) (rec := rec) (fp := fp) B A (fun j hj => by
     obtain ⟨hj1, hj2⟩ := (hR j).1 (by simp [hj])
     refine hchg j i oi (hpw.2.2 j hj i (by simp)) hoi fun hpt => ?_
     have h1 := oC hcl hpt fun ox hox ed hed hb => by
      rw [hoi] at hox; cases hox; exact hall' ed hed hb
     simp only [Array.getD_eq_getD_getElem?] at h1 hj2
     have hin : j < listed.size := by omega
     simp [hin] at h1 hj2
     rw [hj2] at h1; cases h1) hev
    simp only [evY, hoi] at hfront
    split at hfront
    rotate_left
    · cases hfront
    split at hfront
    · rename_i v1 h1 h1ev
      refine Zr hB hrec hoi (by rw [jt, h1ev]) hS hO he hn hd hdst fun a' w' F' ρ' k1 k2 k3 k4 k5 => ?_
      have hcl' : ∀ k ok, (listed.setIfInBounds i true).getD k false = true → ops[k]? = some ok → ∀ ed ∈ ok.after, Region.binds .any ed = true → (listed.setIfInBounds i true).getD ed.on false = true := fun k ok hk hok ed hed hb => by
       have key : listed.getD ed.on false = true := by
        by_cases hki : k = i
        · subst hki
          rw [hoi] at hok; cases hok
          exact hall' ed hed hb
        · rw [getD_set_ne false (Ne.symm hki)] at hk
          exact hcl k ok hk hok ed hed hb
       by_cases hei : ed.on = i
       · rw [hei] at key ⊢
         simp only [Array.getD_eq_getD_getElem?] at key ⊢
         by_cases hin : i < listed.size
         · simp [hin]
         · simp [hin] at key
       · rw [getD_set_ne false (Ne.symm hei)]; exact key
      refine ih (A ++ B) (listed.setIfInBounds i true) (by simp at hl ⊢; omega) ?_ (by simpa using hsz) (fun j => ?_) hcl' hfront (hB.next k3) k2 (hO.mono k3.size) k1 k4 k5 (hK.step k3)
      · refine List.pairwise_append.2 ⟨hpw.1, (List.pairwise_cons.1 hpw.2.1).2, fun x hx y hy => hpw.2.2 x hx y (by simp [hy])⟩
      · by_cases hji : j = i
        · subst hji
          constructor
          · intro hj
            exfalso
            rcases List.mem_append.1 hj with h1 | h1
            · exact hnA h1
            · exact hnB h1
          · rintro ⟨hj1, hj2⟩
            exfalso
            have hin : j < listed.size := by omega
            simp [Array.getD_eq_getD_getElem?, hin] at hj2
        · rw [getD_set_ne true (Ne.symm hji), ← hR j]
          simp [hji]
    · cases hfront
theorem Y9 {fp : Nat → List Nat} : ∀ (l : List Nat) (os : List Oper) {rs : List (List Nat)} {e e' : Env} {h h' : Heap}, l.map (ops[·]?) = os.map some → evR P pol rec f ops os e h = some (rs, e', h') → l.map fp = rs → evY P pol rec f ops fp l e h = some (e', h')
 | [], [], rs, e, e', h, h', _, hev, _ => by simp only [evR] at hev; cases hev; rfl
 | i :: l, o :: os, rs, e, e', h, h', ho, hev, hf => by
  simp only [List.map_cons, List.cons.injEq] at ho
  simp only [evR] at hev
  rw [jt] at hev
  cases h1 : sK P pol rec f ops o e h with
  | none => simp [h1] at hev
  | some x =>
   obtain ⟨v, hx⟩ := x
   simp only [h1] at hev
   split at hev
   · rename_i rs' e'' h'' h2
     cases hev
     simp only [List.map_cons, List.cons.injEq] at hf
     simp only [evY, ho.1, hf.1, List.tail_cons, List.head?_cons, or_true, and_self, if_true, h1]
     exact Y9 l os ho.2 h2 hf.2
   · cases hev
 | [], _ :: _, rs, e, e', h, h', ho, hev, hf => by simp at ho
 | _ :: _, [], rs, e, e', h, h', ho, hev, hf => by simp at ho
theorem Y8 : ∀ (os : List Oper) {rs : List (List Nat)} {e e' : Env} {h h' : Heap}, evR P pol rec f ops os e h = some (rs, e', h') → rs.length = os.length
 | [], rs, e, e', h, h', hev => by simp only [evR] at hev; cases hev; rfl
 | o :: os, rs, e, e', h, h', hev => by
  simp only [evR] at hev
  split at hev
  · split at hev
    · rename_i rs' e'' h'' h2
      cases hev
      simp [Y8 os h2]
    · cases hev
  · cases hev
/-- a region of open order whose writes stand in a chain -/
theorem VR {W0 : World} (hB : wE W0 w F) (hrec : xN P W0 rec) {n : Nat} (hdst : pB n ops = true) (hok : oq P ops = true) {id : Nat} {Q : Exit → Act → World → Prop} {e e' : Env} {h' : Heap} {a : Act}
 (hev : evZ P pol rec f ops e h = some (e', h')) (hS : St w F ρ Ow h)
 (hO : OkC Ow w) (he : RE w F ρ a e) (hn : a.tmps.size = n) (hd : a.defers = []) (hK : qq Ow w F ρ n e' h' (Q .normal)) : (Code.region id ops true).wp P Q a w := by
 simp only [oq, Bool.and_eq_true] at hok
 obtain ⟨hm, hpairs⟩ := hok
 obtain ⟨hS1, hN⟩ := lf hS
 have hO1 : OkC Ow w.drew := hO.mono (Nat.le_refl _)
 have hops : (List.range ops.size).map (ops[·]?) = ops.toList.map some := pJ ops
 have hlast : ∀ i, i ∈ List.range ops.size ↔ i < ops.size ∧ (Array.replicate ops.size false).getD i true = false := fun i => by
  simp only [List.mem_range]
  constructor
  · intro hi; exact ⟨hi, by simp [Array.getD_eq_getD_getElem?, hi]⟩
  · exact fun hi => hi.1
 unfold evZ at hev
 split at hev
 · rename_i rs e1 h1 hR
   split at hev
   · rename_i hz
     cases hev
     have hl := Y8 _ hR
     have hE := Y9 (fp := fun i => rs.getD i []) (List.range ops.size) _ hops hR (by
      rw [show ops.size = rs.length by simpa using hl.symm]; exact range_map_get rs [])
     refine wp_region_any hm (Rn (w := w.drew) hrec hdst hpairs (fp := fun i => rs.getD i []) (fun i j oj hij hoj hnp oi oj' hoi hoj' => ?_) ops.size (List.range ops.size) (Array.replicate ops.size false) (by simp) List.pairwise_lt_range (by simp) hlast (fun k ok hk => by simp only [Array.getD_eq_getD_getElem?, Array.getElem?_replicate] at hk; split at hk <;> simp at hk) hE (hB.next hN) hS1 hO1 (hN.re he) hn hd (hK.step hN))
     rw [hoj] at hoj'; cases hoj'
     have hno : ∀ e ∈ oj.after, Region.binds .any e = true → e.on ≠ i := fun e he hb heq => hnp (.dir hoj he hb heq)
     have hlt : j < ops.size := (Array.getElem?_eq_some_iff.1 hoj).1
     have h2 := List.all_eq_true.1 hz j (List.mem_range.2 hlt)
     simp only [hoj, List.all_eq_true, List.mem_range] at h2
     have h3 := h2 i hij
     simp only [hoi, RC, Bool.or_eq_true, Bool.and_eq_true] at h3
     refine ⟨(vG hpairs hoj).2 i oi hij hoi hno, ?_⟩
     rcases h3 with h3 | h3 | h3 | h3
     · exact absurd (iM 8 j h3) hnp
     · exact .inl h3
     · exact .inr (.inl ⟨h3.1.1, h3.1.2, h3.2⟩)
     · exact .inr (.inr ⟨h3.1.1, h3.1.2, h3.2⟩)
   · cases hev
 · cases hev
end Go.Proofs.YtijninlbpifonaaGreatDoor.E
