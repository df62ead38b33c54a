/- Joined: E12D E12X. Conditions: those of each lemma. -/
import Derived.Test.YtonbkdklidfmfaaGreatDoorjE
set_option linter.unusedVariables false
set_option linter.unusedSimpArgs false
namespace Go.Proofs.YtonbkdklidfmfaaGreatDoor.E
set_option linter.unusedVariables false
set_option linter.unusedSimpArgs false
variable {P : Program} {w : World} {F : Nat → Prop} {ρ : yd} {Ow : Own} {h : Heap} {pol : Pol} {rec : Rec} {f : Nat} {N : Option Nat} {ops : Array Oper}
/-- two environments that agree where the operation looks -/
def wP (ops : Array Oper) (o : Oper) (e e' : Env) : Prop := ∀ t ∈ o.looksAt ops, e t = e' t
theorem wP.opv {o : Oper} {e e' : Env} (hs : wP ops o e e') (ty : TypeId) {x : Operand} (hx : x ∈ o.op.operands) : opv P e ty x = opv P e' ty x := by
 cases x with
 | tmp t =>
  refine hs t ?_
  simp only [Oper.looksAt, List.mem_append, List.mem_filterMap]
  exact .inl ⟨.tmp t, by simpa using hx, rfl⟩
 | _ => rfl
theorem wG {e e' : Env} : ∀ (xs : List Operand) (ts : List TypeId), (∀ x ∈ xs, ∀ ty, opv P e ty x = opv P e' ty x) → yw P e xs ts = yw P e' xs ts
 | [], _, _ => rfl
 | x :: xs, [], h => by simp only [yw]; rw [h x (by simp), wG xs [] fun y hy => h y (by simp [hy])]
 | x :: xs, t :: ts, h => by simp only [yw]; rw [h x (by simp), wG xs ts fun y hy => h y (by simp [hy])]
theorem qm {e e' : Env} (x : Option Operand) (h : ∀ y, x = some y → opv P e 0 y = opv P e' 0 y) : q9 P e x = q9 P e' x := by
 cases x with
 | none => rfl
 | some y => simp only [q9, h y rfl]
theorem nO {o : Oper} {e e' : Env} (hs : wP ops o e e') : want ops o e = want ops o e' := by
 unfold want
 split
 · rfl
 · rename_i j b hg
   split
   · rename_i d hd
     have : d ∈ o.looksAt ops := by
      unfold Oper.looksAt
      rw [hg]
      simp only [hd, List.mem_append]
      exact .inr (by simp)
     rw [hs d this]
   · rfl
theorem vQ {e e' : Env} (ty : Nat → TypeId) : ∀ (ps : List (Nat × Operand)), (∀ x ∈ ps.map (·.2), ∀ t, opv P e t x = opv P e' t x) → xC P e ty ps = xC P e' ty ps
 | [], _ => rfl
 | (i, x) :: r, h => by simp only [xC]; rw [h x (by simp), vQ ty r fun y hy => h y (by simp at hy ⊢; exact .inr hy)]
theorem qe {o : Oper} (hs : soft pol f o = true) : yI pol f o = true ∨ xJ pol f o = true := by simpa [soft] using hs
theorem qy {o : Oper} (hn : soft pol f o = true) {e e' : Env} (hs : wP ops o e e') : zX P pol rec f N o e h = zX P pol rec f N o e' h := by
 have ho : ∀ {x : Operand}, x ∈ o.op.operands → ∀ ty, opv P e ty x = opv P e' ty x := fun hx ty => hs.opv ty hx
 have hn' := qe hn
 obtain ⟨dst, op, ty, pos, after, guard⟩ := o
 cases op with
 | move x => simp only [zX, ho (x := x) (by simp [Op.operands])]
 | assign x => simp only [zX, ho (x := x) (by simp [Op.operands])]
 | pick c a b => simp only [zX, ho (x := c) (by simp [Op.operands]), ho (x := a) (by simp [Op.operands]), ho (x := b) (by simp [Op.operands])]
 | alloc t => rfl
 | box t x => simp only [zX, ho (x := x) (by simp [Op.operands])]
 | buildSlice t len parts =>
  simp only [zX]
  cases zZ P t with
  | none => rfl
  | some el => simp only; rw [vQ _ parts.toList fun x hx t => ho (by simp only [Op.operands, List.mem_toArray]; exact hx) t]
 | build t parts =>
  simp only [zX]
  rw [vQ _ parts.toList fun x hx t => ho (by simp only [Op.operands, List.mem_toArray]; exact hx) t]
 | makeSlice t l c => simp only [zX, ho (x := l) (by simp [Op.operands]), ho (x := c) (by simp [Op.operands])]
 | load t x => simp only [zX, ho (x := x) (by simp [Op.operands])]
 | binOp op t x y u => simp only [zX, ho (x := x) (by simp [Op.operands]), ho (x := y) (by simp [Op.operands])]
 | unOp op t x => simp only [zX, ho (x := x) (by simp [Op.operands])]
 | convert s d x => simp only [zX, ho (x := x) (by simp [Op.operands])]
 | slice t x lo hi mx =>
  simp only [zX, ho (x := x) (by simp [Op.operands])]
  rw [qm lo fun y hy => ho (by simp [Op.operands, hy]) 0, qm hi fun y hy => ho (by simp [Op.operands, hy]) 0, qm mx fun y hy => ho (by simp [Op.operands, hy]) 0]
 | nilCheck x => simp only [zX, ho (x := x) (by simp [Op.operands])]
 | fieldAddr s x i => simp only [zX, ho (x := x) (by simp [Op.operands])]
 | field s x i => simp only [zX, ho (x := x) (by simp [Op.operands])]
 | indexAddr t x i => simp only [zX, ho (x := x) (by simp [Op.operands]), ho (x := i) (by simp [Op.operands])]
 | index t x i => simp only [zX, ho (x := x) (by simp [Op.operands]), ho (x := i) (by simp [Op.operands])]
 | extract x i => simp only [zX, ho (x := x) (by simp [Op.operands])]
 | call c =>
  obtain ⟨callee, args, tys⟩ := c
  cases callee with
  | builtin b =>
   simp only [zX]
   rw [wG args.toList tys.toList fun y hy ty => ho (by simpa [Op.operands, Call.operands] using hy) ty]
  | value x =>
   simp only [zX]
   rw [wG args.toList tys.toList fun y hy ty => ho (by simp [Op.operands, Call.operands]; right; simpa using hy) ty, ho (x := x) (by simp [Op.operands, Call.operands])]
  | invoke r m => simp [yI, xJ] at hn'
 | _ => simp [yI, xJ] at hn'
theorem wI {e e' : Env} : ∀ (xs : List Operand), (∀ t, .tmp t ∈ xs → e t = e' t) → za e xs = za e' xs
 | [], _ => rfl
 | .tmp t :: r, h => by simp only [za]; rw [h t (by simp), wI r fun t ht => h t (by simp [ht])]
 | .const _ :: r, h => by simp only [za]; exact wI r fun t ht => h t (by simp [ht])
 | .func _ :: r, h => by simp only [za]; exact wI r fun t ht => h t (by simp [ht])
 | .global _ :: r, h => by simp only [za]; exact wI r fun t ht => h t (by simp [ht])
theorem vh {o : Oper} {e e' : Env} (hs : wP ops o e e') : yz N o e h = yz N o e' h := by
 unfold yz
 rw [wI _ fun t ht => hs t ?_]
 simp only [Oper.looksAt, List.mem_append, List.mem_filterMap]
 exact .inl ⟨.tmp t, ht, rfl⟩
structure xQ (fp : List Nat) (h h1 h2 h3 : Heap) : Prop where
 l1 : h1.length = h.length
 l3 : h3.length = h2.length
 on : ∀ r ∈ fp, h3[r]? = h1[r]?
 off1 : ∀ r : Nat, r ∉ fp → h1[r]? = h[r]?
 off3 : ∀ r : Nat, r ∉ fp → h3[r]? = h2[r]?
theorem xQ.same {fp : List Nat} {h2 : Heap} (ha : ∀ r ∈ fp, h2[r]? = h[r]?) : xQ fp h h h2 h2 := ⟨rfl, rfl, ha, fun _ _ => rfl, fun _ _ => rfl⟩
theorem xQ.mono {A B : List Nat} {h1 h2 h3 : Heap} (hl : xQ A h h1 h2 h3) (hAB : ∀ r ∈ A, r ∈ B) (ha : ∀ r ∈ B, h2[r]? = h[r]?) : xQ B h h1 h2 h3 := by
 refine ⟨hl.l1, hl.l3, fun r hr => ?_, fun r hr => hl.off1 r fun x => hr (hAB r x), fun r hr => hl.off3 r fun x => hr (hAB r x)⟩
 by_cases hA : r ∈ A
 · exact hl.on r hA
 · rw [hl.off3 r hA, hl.off1 r hA]; exact ha r hr
theorem xQ.comp {A : List Nat} {h1 h2 h3 h1' h3' : Heap} (hl : xQ A h h1 h2 h3) (hk : xQ A h1 h1' h3 h3') : xQ A h h1' h2 h3' :=
 ⟨hk.l1.trans hl.l1, hk.l3.trans hl.l3, hk.on, fun r hr => (hk.off1 r hr).trans (hl.off1 r hr), fun r hr => (hk.off3 r hr).trans (hl.off3 r hr)⟩
theorem xQ.set {fp : List Nat} {h2 : Heap} {r : Nat} (hr : r ∈ fp) (hl : h2.length = h.length) (ha : ∀ r ∈ fp, h2[r]? = h[r]?) (b : Blk) : xQ fp h (h.set r b) h2 (h2.set r b) := by
 refine ⟨by simp, by simp, fun k hk => ?_, fun k hk => ?_, fun k hk => ?_⟩
 · rw [List.getElem?_set, List.getElem?_set, hl, ha k hk]
 · exact List.getElem?_set_ne (fun e : r = k => hk (e ▸ hr))
 · exact List.getElem?_set_ne (fun e : r = k => hk (e ▸ hr))
mutual
theorem Wp {fp : List Nat} : ∀ (v : V) {h h1 h2 : Heap} {v' : V}, h2.length = h.length → (∀ r ∈ refs v, r ∈ fp) → (∀ r ∈ fp, h2[r]? = h[r]?) → yR h v = some (v', h1) → ∃ h3, yR h2 v = some (v', h3) ∧ xQ fp h h1 h2 h3
 | .sl r off len cap, h, h1, h2, v', hl, hf, ha, hg => by
  have hr : r ∈ fp := hf r (by simp [refs])
  simp only [yR] at hg ⊢
  rw [ha r hr]
  split at hg
  · rename_i sz es hb
    cases hg
    exact ⟨_, rfl, xQ.set hr hl ha _⟩
  · rename_i sz es hb
    cases hg; exact ⟨_, rfl, xQ.same ha⟩
  · rename_i sz es hb
    split at hg
    · rename_i xs hx
      cases hg
      exact ⟨_, rfl, xQ.set hr hl ha _⟩
    · cases hg
  · cases hg
 | .nil sz, h, h1, h2, v', hl, hf, ha, hg => by simp only [yR] at hg ⊢; cases hg; exact ⟨_, rfl, xQ.same ha⟩
 | .agg cs, h, h1, h2, v', hl, hf, ha, hg => by
  simp only [yR] at hg ⊢
  split at hg
  · rename_i cs' h1' hc
    cases hg
    obtain ⟨h3, e1, e2⟩ := rn cs hl (fun r hr => hf r (by simpa [refs] using hr)) ha hc
    exact ⟨h3, by rw [e1], e2⟩
  · cases hg
 | .tup cs, h, h1, h2, v', hl, hf, ha, hg => by
  simp only [yR] at hg ⊢
  split at hg
  · rename_i cs' h1' hc
    cases hg
    obtain ⟨h3, e1, e2⟩ := rn cs hl (fun r hr => hf r (by simpa [refs] using hr)) ha hc
    exact ⟨h3, by rw [e1], e2⟩
  · cases hg
 | .t x, h, h1, h2, v', hl, hf, ha, hg => by simp only [yR] at hg ⊢; cases hg; exact ⟨_, rfl, xQ.same ha⟩
 | .fn f cs, h, h1, h2, v', hl, hf, ha, hg => by
  simp only [yR] at hg ⊢
  split at hg
  · cases hg; exact ⟨_, rfl, xQ.same ha⟩
  · cases hg
 | .ptr r i j, h, h1, h2, v', hl, hf, ha, hg => by simp [yR] at hg
 | .und, h, h1, h2, v', hl, hf, ha, hg => by simp [yR] at hg
 | .bad, h, h1, h2, v', hl, hf, ha, hg => by simp [yR] at hg
theorem rn {fp : List Nat} : ∀ (vs : List V) {h h1 h2 : Heap} {vs' : List V}, h2.length = h.length → (∀ r ∈ refs.refss vs, r ∈ fp) → (∀ r ∈ fp, h2[r]? = h[r]?) → yR.gives h vs = some (vs', h1) → ∃ h3, yR.gives h2 vs = some (vs', h3) ∧ xQ fp h h1 h2 h3
 | [], h, h1, h2, vs', hl, hf, ha, hg => by simp only [yR.gives] at hg ⊢; cases hg; exact ⟨_, rfl, xQ.same ha⟩
 | v :: vs, h, h1, h2, vs', hl, hf, ha, hg => by
  simp only [yR.gives] at hg ⊢
  split at hg
  · rename_i x ha1 e1
    split at hg
    · rename_i xs hb1 e2
      cases hg
      obtain ⟨h3, k1, k2⟩ := Wp v hl (fun r hr => hf r (by simp [refs.refss, hr])) ha e1
      obtain ⟨h4, k3, k4⟩ := rn vs (by rw [k2.l3, k2.l1, hl]) (fun r hr => hf r (by simp [refs.refss, hr])) k2.on e2
      exact ⟨h4, by rw [k1]; simp only; rw [k3], k2.comp k4⟩
    · cases hg
  · cases hg
end
theorem Yk {fp : List Nat} {vs : List V} {h1 h2 : Heap} {xs : List T} (hl : h2.length = h.length) (hf : ∀ r ∈ refs.refss vs, r ∈ fp) (ha : ∀ r ∈ fp, h2[r]? = h[r]?) (hg : rM h vs = some (xs, h1)) : ∃ h3, rM h2 vs = some (xs, h3) ∧ xQ fp h h1 h2 h3 := by
 unfold rM at hg ⊢
 split at hg
 · rename_i ys h1' e1
   obtain ⟨h3, k1, k2⟩ := rn vs hl hf ha e1
   split at hg
   · rename_i ts ht
     cases hg
     exact ⟨h3, by rw [k1]; simp only; rw [ht], k2⟩
   · cases hg
 · cases hg
theorem vO : ∀ (xs ys : List V), refs.refss (xs ++ ys) = refs.refss xs ++ refs.refss ys
 | [], ys => by simp [refs.refss]
 | x :: xs, ys => by simp [refs.refss, vO xs ys]
theorem qq {fp : List Nat} : ∀ {css : List (List V)} {h h1 h2 : Heap} {es : List (List T)}, h2.length = h.length → (∀ r ∈ refs.refss css.flatten, r ∈ fp) → (∀ r ∈ fp, h2[r]? = h[r]?) → xS h css = some (es, h1) → ∃ h3, xS h2 css = some (es, h3) ∧ xQ fp h h1 h2 h3
 | [], h, h1, h2, es, hl, hf, ha, hg => by simp only [xS] at hg ⊢; cases hg; exact ⟨_, rfl, xQ.same ha⟩
 | c :: css, h, h1, h2, es, hl, hf, ha, hg => by
  simp only [xS] at hg ⊢
  simp only [List.flatten_cons, vO, List.mem_append] at hf
  split at hg
  · rename_i x h1' e1
    split at hg
    · rename_i xs h1'' e2
      cases hg
      obtain ⟨h3, k1, k2⟩ := Yk hl (fun r hr => hf r (.inl hr)) ha e1
      obtain ⟨h4, k3, k4⟩ := qq (by rw [k2.l3, k2.l1, hl]) (fun r hr => hf r (.inr hr)) k2.on e2
      exact ⟨h4, by rw [k1]; simp only; rw [k3], k2.comp k4⟩
    · cases hg
  · cases hg
theorem nY (ty : TypeId) (v : Value) : refs (wo P ty v) = [] := by
 unfold wo
 split <;> try rfl
 split <;> rfl
theorem tB : ∀ (vs : List Value) (ts : List TypeId), refs.refss (xD P vs ts) = []
 | [], ts => by cases ts <;> rfl
 | v :: vs, [] => by simp [xD, refs.refss, refs, tB vs []]
 | v :: vs, t :: ts => by simp [xD, refs.refss, nY, tB vs ts]
theorem sG {e : Env} {ty : TypeId} {x : Operand} {r : Nat} (hr : r ∈ refs (opv P e ty x)) : ∃ t, x = .tmp t ∧ r ∈ refs (e t) := by
 cases x with
 | tmp t => exact ⟨t, rfl, hr⟩
 | const v =>
  exfalso
  simp only [opv] at hr
  unfold cst at hr
  split at hr
  · simp [refs, tB] at hr
  · simp [nY] at hr
 | func g => simp [opv, refs] at hr
 | global g => simp [opv, refs] at hr
theorem xV {e : Env} {t r : Nat} (hr : r ∈ refs (e t)) : ∀ {xs : List Operand}, .tmp t ∈ xs → r ∈ za e xs
 | .tmp t' :: xs, hx => by
  simp only [za, List.mem_append]
  rcases List.mem_cons.1 hx with h1 | h1
  · cases h1; exact .inl hr
  · exact .inr (xV hr h1)
 | .const _ :: xs, hx => by simp only [za]; exact xV hr (by simpa using hx)
 | .func _ :: xs, hx => by simp only [za]; exact xV hr (by simpa using hx)
 | .global _ :: xs, hx => by simp only [za]; exact xV hr (by simpa using hx)
theorem w7 {r : Nat} : ∀ (l seen : List Nat), r ∈ yJ seen l ↔ r ∈ seen ∨ r ∈ l
 | [], seen => by simp [yJ]
 | x :: l, seen => by
  simp only [yJ]
  split
  · rename_i hx
    rw [w7 l seen, List.mem_cons]
    constructor
    · rintro (h | h)
      · exact .inl h
      · exact .inr (.inr h)
    · rintro (h | h | h)
      · exact .inl h
      · subst h; exact .inl hx
      · exact .inr h
  · rw [w7 l (seen ++ [x])]
    simp only [List.mem_append, List.mem_cons, List.not_mem_nil, or_false]
    constructor
    · rintro ((h | h) | h)
      · exact .inl h
      · exact .inr (.inl h)
      · exact .inr (.inr h)
    · rintro (h | h | h)
      · exact .inl (.inl h)
      · exact .inl (.inr h)
      · exact .inr h
theorem r6 {r : Nat} (h : Heap) (n : Nat) (ids : List Nat) (hr : r ∈ ids) : r ∈ reach h n ids := by
 obtain ⟨t, ht⟩ := pY h n ids
 rw [ht]; simp [hr]
theorem qh (h : Heap) : ∀ (n : Nat) (A B : List Nat), (∀ r ∈ A, r ∈ B) → ∀ r ∈ reach h n A, r ∈ reach h n B
 | 0, A, B, hAB, r, hr => hAB r hr
 | n + 1, A, B, hAB, r, hr => by
  simp only [reach] at hr ⊢
  refine qh h n _ _ (fun x hx => ?_) r hr
  rw [w7] at hx ⊢
  rcases hx with hx | hx
  · exact .inl (hAB x hx)
  · simp only [List.mem_flatMap] at hx ⊢
    obtain ⟨y, h1, h2⟩ := hx
    exact .inr ⟨y, hAB y h1, h2⟩
theorem sw {h h2 : Heap} : ∀ (n : Nat) (ids : List Nat), (∀ r ∈ reach h n ids, h2[r]? = h[r]?) → reach h2 n ids = reach h n ids
 | 0, ids, ha => rfl
 | n + 1, ids, ha => by
  have e : ids.flatMap (xu h2) = ids.flatMap (xu h) := by
   have key : ∀ l : List Nat, (∀ r ∈ l, r ∈ ids) → l.flatMap (xu h2) = l.flatMap (xu h) := fun l => by
    induction l with
    | nil => intro _; rfl
    | cons r l ih =>
     intro hl
     have e1 : xu h2 r = xu h r := by
      unfold xu
      rw [ha r (r6 h (n + 1) ids (hl r (by simp)))]
     simp only [List.flatMap_cons, e1, ih fun r' hr' => hl r' (by simp [hr'])]
   exact key ids fun _ h => h
  simp only [reach] at ha ⊢
  rw [e]
  exact sw n _ ha
/-- what stands in a row of the reach is there a step later -/
theorem dU (h : Heap) (n : Nat) (ids : List Nat) {r r' : Nat} (hr : r ∈ ids) (hr' : r' ∈ xu h r) : r' ∈ reach h (n + 1) ids := by
 simp only [reach]
 refine r6 h n _ ?_
 rw [w7]
 exact .inr (List.mem_flatMap.2 ⟨r, hr, hr'⟩)
theorem o9 {deep : Bool} {ids : List Nat} {r : Nat} (hr : r ∈ ids) : r ∈ pO deep ids h := by
 unfold pO
 split
 · exact r6 h 3 _ ((w7 _ _).2 (.inr hr))
 · exact hr
theorem sN {o : Oper} {e : Env} {ty : TypeId} {x : Operand} (hx : x ∈ o.op.operands) {r : Nat} (hr : r ∈ refs (opv P e ty x)) : r ∈ yz N o e h := by
 obtain ⟨t, rfl, h1⟩ := sG hr
 unfold yz
 exact List.mem_append.2 (.inr (o9 (xV h1 (by simpa using hx))))
theorem pr {o : Oper} {e : Env} {h2 : Heap} (ha : ∀ r ∈ yz N o e h, h2[r]? = h[r]?) : yz N o e h2 = yz N o e h := by
 unfold yz at ha ⊢
 congr 1
 unfold pO at ha ⊢
 split
 · rename_i hd
   refine sw 3 _ fun r hr => ha r ?_
   rw [if_pos hd]
   exact List.mem_append.2 (.inr hr)
 · rfl
theorem gu (v : V) : refs.refss (z8 v) = refs v := by
 cases v <;> simp [z8, refs.refss, refs]
theorem qw {sz : Nat} : ∀ {n : Nat} {ps : List (Nat × V)} {css : List (List V)}, wQ sz n ps = some css → ∀ r ∈ refs.refss css.flatten, ∃ v, v ∈ ps.map (·.2) ∧ r ∈ refs v
 | n, [], css, hf => by simp only [wQ] at hf; cases hf; intro r hr; simp [refs.refss] at hr
 | n, (i, v) :: ps, css, hf => by
  simp only [wQ] at hf
  split at hf
  · split at hf
    · rename_i cs hcs
      cases hf
      intro r hr
      simp only [List.flatten_cons, vO, List.mem_append, gu] at hr
      rcases hr with hr | hr
      · exact ⟨v, by simp, hr⟩
      · obtain ⟨v', h1, h2⟩ := qw hcs r hr
        exact ⟨v', by simp at h1 ⊢; exact .inr h1, h2⟩
    · cases hf
  · cases hf
theorem qk {e : Env} {ty : Nat → TypeId} : ∀ {ps : List (Nat × Operand)} {v : V}, v ∈ (xC P e ty ps).map (·.2) → ∃ x t, x ∈ ps.map (·.2) ∧ v = opv P e t x
 | [], v, hv => by simp [xC] at hv
 | (i, x) :: ps, v, hv => by
  simp only [xC, List.map_cons, List.mem_cons] at hv
  rcases hv with rfl | hv
  · exact ⟨x, _, by simp, rfl⟩
  · obtain ⟨y, t, h1, h2⟩ := qk hv
    exact ⟨y, t, by simp at h1 ⊢; exact .inr h1, h2⟩
theorem gz {h2 : Heap} {r i j n : Nat} (ha : h2[r]? = h[r]?) : uI h2 r i j n = uI h r i j n := by unfold uI; rw [ha]
theorem Wi {h2 : Heap} {ty : TypeId} {x : V} (ha : ∀ r ∈ refs x, h2[r]? = h[r]?) : load P ty x h2 = load P ty x h := by
 cases x with
 | ptr r i j => simp only [load, gz (ha r (by simp [refs]))]
 | t y => cases y <;> rfl
 | _ => rfl
theorem TY {h2 : Heap} {ty : TypeId} {x : V} {lo hi mx : Option V} (ha : ∀ r ∈ refs x, h2[r]? = h[r]?) : cut P ty x lo hi mx h2 = cut P ty x lo hi mx h := by
 cases x with
 | sl r off len cap => simp only [cut, ha r (by simp [refs])]
 | t y => cases y <;> rfl
 | _ => rfl
theorem gD {h2 : Heap} {ty : TypeId} {x i : V} (ha : ∀ r ∈ refs x, h2[r]? = h[r]?) : vB P ty x i h2 = vB P ty x i h := by
 cases i with
 | t z =>
  cases z with
  | int k n =>
   cases x with
   | sl r off len cap => simp only [vB, ha r (by simp [refs])]
   | t y => cases y <;> rfl
   | _ => rfl
  | _ => rfl
 | _ => rfl
theorem Wz {h2 : Heap} {s d : TypeId} {x : V} (ha : ∀ r ∈ refs x, h2[r]? = h[r]?) : conv P s d x h2 = conv P s d x h := by
 cases x with
 | sl r off len cap => simp only [conv, ha r (by simp [refs])]
 | t y => cases y with
  | list sz es => rcases sz with _ | _ | n <;> rfl
  | _ => rfl
 | _ => rfl
theorem dS {h2 : Heap} {el tx : TypeId} {x : V} (ha : ∀ r ∈ refs x, h2[r]? = h[r]?) : wY P el tx x h2 = wY P el tx x h := by
 unfold wY
 cases zZ P tx with
 | none => rfl
 | some _ =>
  cases x with
  | sl r off len cap => simp only [ha r (by simp [refs])]
  | t y => cases y <;> rfl
  | _ => rfl
theorem Wb (x : V) : refs (unN x) = refs x := by
 unfold unN
 split <;> rfl
theorem ZX {h2 : Heap} {el tx : TypeId} {x : V} (ha : ∀ r ∈ refs x, h2[r]? = h[r]?) : ic P el tx x h2 = ic P el tx x h := dS (by rw [Wb]; exact ha)
theorem Y4 {h2 : Heap} {v : V} (ha : ∀ r ∈ refs v, h2[r]? = h[r]?) : sg h2 v = sg h v := by
 cases v with
 | ptr r i j => simp only [sg, ha r (by simp [refs])]
 | _ => rfl
theorem nV {h2 : Heap} : ∀ {vs : List V}, (∀ r ∈ refs.refss vs, h2[r]? = h[r]?) → vN h2 vs = vN h vs
 | [], _ => rfl
 | v :: vs, ha => by
  simp only [vN]
  rw [Y4 fun r hr => ha r (by simp [refs.refss, hr]), nV fun r hr => ha r (by simp [refs.refss, hr])]
theorem Y5 {h2 : Heap} {v : V} (ha : ∀ r ∈ refs v, h2[r]? = h[r]?) : wL h2 v = wL h v := by
 cases v with
 | sl r off len cap => simp only [wL, ha r (by simp [refs])]
 | fn f caps => simp only [wL]; rw [nV fun r hr => ha r (by simpa [refs] using hr)]
 | _ => rfl
theorem Y0 {h2 : Heap} {v : V} (ha : ∀ r ∈ refs v, h2[r]? = h[r]?) : zg h2 v = zg h v := by
 cases v with
 | o x => rfl
 | _ => exact Y5 ha
theorem qf {h2 : Heap} : ∀ {vs : List V}, (∀ r ∈ refs.refss vs, h2[r]? = h[r]?) → xR h2 vs = xR h vs
 | [], _ => rfl
 | v :: vs, ha => by
  simp only [xR]
  rw [Y0 fun r hr => ha r (by simp [refs.refss, hr]), qf fun r hr => ha r (by simp [refs.refss, hr])]
theorem kn {h2 : Heap} : ∀ {es : List (List V)}, (∀ c ∈ es, ∀ r ∈ refs.refss c, h2[r]? = h[r]?) → uw h2 es = uw h es
 | [], _ => rfl
 | c :: es, ha => by
  simp only [uw]
  rw [qf (ha c (by simp)), kn fun c' hc' => ha c' (by simp [hc'])]
theorem Y6 {vs ws : List V} (hs : ∀ v ∈ vs, v ∈ ws) : ∀ r ∈ refs.refss vs, r ∈ refs.refss ws := by
 have key : ∀ (l : List V) (r : Nat), r ∈ refs.refss l ↔ ∃ v ∈ l, r ∈ refs v := fun l => by
  induction l with
  | nil => intro r; simp [refs.refss]
  | cons v l ih => intro r; simp [refs.refss, ih]
 intro r hr
 rw [key] at hr ⊢
 obtain ⟨v, h1, h2⟩ := hr
 exact ⟨v, hs v h1, h2⟩
/-- agreement two rows deep -/
def Deep (h h2 : Heap) (A : List Nat) : Prop := ∀ r ∈ A, h2[r]? = h[r]? ∧ ∀ r' ∈ xu h r, h2[r']? = h[r']?
theorem Y2 {h2 : Heap} {A : List Nat} (ha : Deep h h2 A) {r off len : Nat} (hr : r ∈ A) : se h2 h2[r]? off len = se h h[r]? off len := by
 obtain ⟨h1, h3⟩ := ha r hr
 rw [h1]
 unfold se
 split
 · rfl
 · rfl
 · rename_i sz es hb
   rw [kn fun c hc r' hr' => h3 r' ?_]
   unfold xu
   rw [hb]
   exact List.mem_flatMap.2 ⟨c, List.mem_of_mem_drop (List.mem_of_mem_take hc), hr'⟩
 · rfl
theorem Y3 {h2 : Heap} {A : List Nat} (ha : Deep h h2 A) {r i j : Nat} (hr : r ∈ A) : sf h2 h2[r]? i j = sf h h[r]? i j := by
 obtain ⟨h1, h3⟩ := ha r hr
 rw [h1]
 unfold sf
 split
 · rfl
 · rfl
 · rename_i sz es hb
   cases hes : es[i]? with
   | none => rfl
   | some cs =>
    simp only
    rw [qf fun r' hr' => h3 r' ?_]
    unfold xu
    rw [hb]
    exact List.mem_flatMap.2 ⟨cs, List.mem_of_getElem? hes, Y6 (fun v hv => List.mem_of_mem_drop hv) r' hr'⟩
 · rfl
mutual
theorem Y1 {h2 : Heap} {A : List Nat} (ha : Deep h h2 A) : ∀ (v : V), (∀ r ∈ refs v, r ∈ A) → yv h2 v = yv h v
 | .sl r off len cap, hr => by simp only [yv]; exact Y2 ha (hr r (by simp [refs]))
 | .ptr r i j, hr => by simp only [yv]; exact Y3 ha (hr r (by simp [refs]))
 | .agg cs, hr => by simp only [yv]; rw [u9 ha cs fun r h => hr r (by simpa [refs] using h)]
 | .tup cs, hr => by simp only [yv]; rw [u9 ha cs fun r h => hr r (by simpa [refs] using h)]
 | .fn f cs, hr => by simp only [yv]; rw [u9 ha cs fun r h => hr r (by simpa [refs] using h)]
 | .t _, _ => rfl
 | .nil _, _ => rfl
 | .o _, _ => rfl
 | .und, _ => rfl
 | .bad, _ => rfl
theorem u9 {h2 : Heap} {A : List Nat} (ha : Deep h h2 A) : ∀ (vs : List V), (∀ r ∈ refs.refss vs, r ∈ A) → yv.snapVs h2 vs = yv.snapVs h vs
 | [], _ => rfl
 | v :: vs, hr => by
  simp only [yv.snapVs]
  rw [Y1 ha v fun r h => hr r (by simp [refs.refss, h]), u9 ha vs fun r h => hr r (by simp [refs.refss, h])]
end
/-- the rows of a call's arguments are among those that it may touch -/
theorem oq {x : Operand} {args : List Operand} {tys : List TypeId} {e : Env} {g : Nat} {caps : List V} (hf : fnV (opv P e 0 x) = some (g, caps)) : ∀ r ∈ refs.refss (yw P e args tys ++ caps), r ∈ za e (x :: args) := by
 have hop : ∀ (az : List Operand) (ts : List TypeId), ∀ r ∈ refs.refss (yw P e az ts), r ∈ za e az := by
  intro az
  induction az with
  | nil => intro ts r hr; simp [yw, refs.refss] at hr
  | cons a az ih =>
   intro ts r hr
   have one : ∀ ty, r ∈ refs (opv P e ty a) → r ∈ za e (a :: az) := fun ty h1 => by
    obtain ⟨t, rfl, h2⟩ := sG h1
    exact xV h2 (by simp)
   have two : r ∈ za e az → r ∈ za e (a :: az) := fun h1 => by cases a <;> simp [za, h1]
   cases ts with
   | nil =>
    simp only [yw, refs.refss, List.mem_append] at hr
    exact hr.elim (one 0) fun h1 => two (ih [] r h1)
   | cons t ts =>
    simp only [yw, refs.refss, List.mem_append] at hr
    exact hr.elim (one t) fun h1 => two (ih ts r h1)
 intro r hr
 rw [vO] at hr
 rcases List.mem_append.1 hr with h1 | h1
 · have := hop args tys r h1
   cases x <;> simp [za, this]
 · have hc : r ∈ refs (opv P e 0 x) := by
    unfold fnV at hf
    split at hf
    · cases hf
      exfalso
      have : ∀ l : List T, refs.refss (l.map V.t) = [] := fun l => by induction l with
       | nil => rfl
       | cons a l ih => simp [refs.refss, refs, ih]
      rw [this] at h1; cases h1
    · rename_i g' cs' hx; cases hf; rw [hx]; simpa [refs] using h1
    · cases hf
   obtain ⟨t, rfl, h2⟩ := sG hc
   exact xV h2 (by simp)
theorem YA {ids : List Nat} {h2 : Heap} (hl : h2.length = h.length) (ha : ∀ r ∈ ids, h2[r]? = h[r]?) : vc ids h2 = vc ids h := by
 funext r
 unfold vc
 split
 · cases hr : ids[r]? with
   | none => rfl
   | some k =>
    have e1 : xE h2 k = xE h k := by unfold xE; rw [ha k (List.mem_of_getElem? hr)]
    simp only [e1]
 · rw [hl]
theorem oV {mp : Nat → Option Nat} {h0 h02 : Heap} {fp : List Nat} : ∀ (ids : List Nat) (bs : Heap) {h h2 : Heap}, (∀ r ∈ ids, r ∈ fp) → (∀ r ∈ ids, h02[r]? = h0[r]?) → h2.length = h.length → (∀ r ∈ fp, h2[r]? = h[r]?) → xQ fp h (z6 mp h0 ids bs h) h2 (z6 mp h02 ids bs h2)
 | [], bs, h, h2, _, _, _, ha => by simp only [z6]; exact xQ.same ha
 | i :: is, [], h, h2, _, _, _, ha => by simp only [z6]; exact xQ.same ha
 | i :: is, b :: bs, h, h2, hs, h0e, hl, ha => by
  simp only [z6]
  have hlive : xE h02 i = xE h0 i := by simp only [xE, h0e i (by simp)]
  rw [hlive]
  have h1 : xQ fp h (if xE h0 i = true then h.set i (zo mp b) else h) h2 (if xE h0 i = true then h2.set i (zo mp b) else h2) := by
   split
   · exact xQ.set (hs i (by simp)) hl ha _
   · exact xQ.same ha
  exact h1.comp (oV is bs (fun r hr => hs r (by simp [hr])) (fun r hr => h0e r (by simp [hr])) (by rw [h1.l3, h1.l1, hl]) h1.on)
theorem jI {ids fp : List Nat} (hsub : ∀ r ∈ ids, r ∈ fp) {h2 : Heap} (hl : h2.length = h.length) (ha : ∀ r ∈ fp, h2[r]? = h[r]?) {i : Nat} {v v' : V} {h1' h1 : Heap} (hb : yZ (some i) ids v h1' h = some (v', h1)) :
 ∃ h3, yZ (some i) ids v h1' h2 = some (v', h3) ∧ xQ fp h h1 h2 h3 := by
 unfold yZ at hb ⊢
 split at hb
 · cases hb
 · rename_i hc
   cases hb
   rw [if_neg hc, YA hl fun r hr => ha r (hsub r hr)]
   simp only [Option.isSome_some, Bool.true_and, Bool.or_eq_true, decide_eq_true_eq, not_or, Nat.not_lt] at hc
   have hd : h1'.drop ids.length = [] := List.drop_of_length_le hc.2
   rw [hd]
   simp only [List.map_nil, List.append_nil]
   exact ⟨_, rfl, oV ids h1' hsub (fun r hr => ha r (hsub r hr)) hl ha⟩
theorem Yb {args : List V} {h2 : Heap} (ha : ∀ r ∈ xr h args, h2[r]? = h[r]?) : xr h2 args = xr h args ∧ yl 0 args h2 = yl 0 args h := by
 have e1 : xr h2 args = xr h args := sw 3 _ ha
 refine ⟨e1, ?_⟩
 have e2 : reach h2 3 (yJ (List.range 0) (refs.refss args)) = reach h 3 (yJ (List.range 0) (refs.refss args)) := e1
 unfold yl
 rw [e2]
 simp only [Prod.mk.injEq, true_and]
 refine List.map_congr_left fun r hr => ?_
 rw [ha r hr]
theorem kM {o : Oper} (hn : yI pol f o = true) {e : Env} {v : V} {h' : Heap} (hev : zX P pol rec f N o e h = some (v, h')) : h' = h := by
 obtain ⟨dst, op, ty, pos, after, guard⟩ := o
 cases op with
 | call c =>
  obtain ⟨callee, args, tys⟩ := c
  cases callee with
  | builtin b =>
   simp only [zX] at hev
   cases b <;> simp only [yI, Bool.false_eq_true] at hn <;> simp only [blt] at hev
   all_goals (repeat' split at hev)
   all_goals first | (cases hev; done) | (cases hev; rfl) | (rename_i hh; cases hh; done) | (rename_i hh _; cases hh; done) | contradiction
  | value x =>
   simp only [yI] at hn
   simp only [zX, wy] at hev
   cases hp : pol.pm f (dst.getD 0) with
   | frz => simp [hp] at hn
   | opn gv => simp [hp] at hn
   | _ =>
    simp only [hp] at hev
    (repeat' split at hev) <;> first | (cases hev; done) | (cases hev; rfl)
  | invoke r m => simp [yI] at hn
 | _ =>
  first
   | (simp [yI] at hn; done)
   | (simp only [zX] at hev; (repeat' split at hev) <;> first | (cases hev; done) | (cases hev; rfl))
theorem fY {o : Oper} (hn : yI pol f o = true) {e : Env} {h2 : Heap} (ha : ∀ r ∈ yz N o e h, h2[r]? = h[r]?) {v : V} (hev : zX P pol rec f N o e h = some (v, h)) : zX P pol rec f N o e h2 = some (v, h2) := by
 have hx : ∀ {x : Operand} {ty : TypeId}, x ∈ o.op.operands → ∀ r ∈ refs (opv P e ty x), h2[r]? = h[r]? := fun hx r hr => ha r (sN hx hr)
 obtain ⟨dst, op, ty, pos, after, guard⟩ := o
 cases op with
 | load t a =>
  simp only [zX] at hev ⊢
  rw [Wi (hx (by simp [Op.operands]))]
  split at hev
  · cases hev; rfl
  · cases hev
 | slice t x lo hi mx =>
  simp only [zX] at hev ⊢
  rw [TY (hx (by simp [Op.operands]))]
  split at hev
  · cases hev; rfl
  · cases hev
 | indexAddr t x i =>
  simp only [zX] at hev ⊢
  rw [gD (hx (by simp [Op.operands]))]
  split at hev
  · cases hev; rfl
  · cases hev
 | convert s d x =>
  simp only [zX] at hev ⊢
  rw [Wz (hx (by simp [Op.operands]))]
  split at hev
  · cases hev; rfl
  · cases hev
 | call c =>
  obtain ⟨callee, args, tys⟩ := c
  cases callee with
  | builtin b =>
   simp only [zX] at hev ⊢
   cases b <;> simp only [yI, Bool.false_eq_true] at hn <;> simp only [blt] at hev ⊢
   all_goals (repeat' split at hev)
   all_goals first | (cases hev; done) | (cases hev; simp_all; done) | (rename_i hk hc; cases hev; rw [if_pos hk, if_neg hc]; done) | (rename_i hk hc; cases hev; rw [if_pos hk, if_pos hc]; done) | (rename_i hh; cases hh; done) | (rename_i hh _; cases hh; done) | contradiction
  | value x =>
   have hdeep : qL ⟨dst, .call ⟨.value x, args, tys⟩, ty, pos, after, guard⟩ = true → Deep h h2 (za e (x :: args.toList)) := fun hd r hr => by
    have ha' : ∀ k ∈ reach h 3 (yJ [] (za e (x :: args.toList))), h2[k]? = h[k]? := fun k hk => by
     refine ha k ?_
     unfold yz pO
     rw [if_pos hd]
     refine List.mem_append.2 (.inr ?_)
     simpa [Op.operands, Call.operands] using hk
    have hr' : r ∈ yJ [] (za e (x :: args.toList)) := (w7 _ _).2 (.inr hr)
    exact ⟨ha' r (r6 h 3 _ hr'), fun r' h1 => ha' r' (dU h 2 _ hr' h1)⟩
   simp only [yI] at hn
   simp only [zX, wy] at hev ⊢
   cases hp : pol.pm f (dst.getD 0) with
   | frz => simp [hp] at hn
   | opn gv => simp [hp] at hn
   | brw => simp [hp] at hn
   | all => simp [hp] at hn
   | pure =>
    simp only [hp] at hev ⊢
    split at hev
    · rename_i g caps hg
      rw [u9 (hdeep (by simp [qL])) _ (oq hg)]
      (repeat' split at hev) <;> first | (cases hev; done) | (cases hev; simp_all; done)
    · cases hev
  | invoke r m => simp [yI] at hn
 | _ =>
  first
   | (simp [yI] at hn; done)
   | (simp only [zX] at hev ⊢; (repeat' split at hev) <;> first | (cases hev; done) | (cases hev; simp_all; done) | (cases hev; rfl))
theorem TC {o : Oper} (hn : xJ pol f o = true) {i : Nat} {e : Env} {h1 h2 : Heap} (hl : h2.length = h.length) (ha : ∀ r ∈ yz (some i) o e h, h2[r]? = h[r]?) {v : V} (hev : zX P pol rec f (some i) o e h = some (v, h1)) :
 ∃ h3, zX P pol rec f (some i) o e h2 = some (v, h3) ∧ xQ (yz (some i) o e h) h h1 h2 h3 := by
 have hx : ∀ {x : Operand} {ty : TypeId}, x ∈ o.op.operands → ∀ r ∈ refs (opv P e ty x), r ∈ yz (some i) o e h := fun hx r hr => sN hx hr
 have hi : i ∈ yz (some i) o e h := by simp [yz]
 obtain ⟨dst, op, ty, pos, after, guard⟩ := o
 cases op with
 | alloc t =>
  simp only [zX, nI, nH] at hev ⊢
  split at hev
  · split at hev
    · cases hev
    · rename_i zs hz hemp
      cases hev
      simp only [hemp]
      exact ⟨_, rfl, xQ.set hi hl ha _⟩
  · cases hev
 | box t x =>
  simp only [zX, nI, nH] at hev ⊢
  split at hev
  · cases hev
  · rename_i hc
    cases hev
    rw [if_neg hc]
    exact ⟨_, rfl, xQ.set hi hl ha _⟩
 | makeSlice t l c =>
  simp only [zX, nI, nH] at hev ⊢
  split at hev
  · split at hev
    · split at hev
      · split at hev
        · cases hev
        · rename_i hc
          cases hev
          simp only [*]
          exact ⟨_, rfl, xQ.set hi hl ha _⟩
      · cases hev
    · cases hev
  · cases hev
 | buildSlice t len parts =>
  simp only [zX, nI, nH] at hev ⊢
  split at hev
  · rename_i el hel
    split at hev
    · cases hev
    · rename_i hc
      split at hev
      · rename_i css hf
        split at hev
        · rename_i es h' hg
          cases hev
          obtain ⟨h3, k1, k2⟩ := qq hl (fun r hr => by
           obtain ⟨v, v1, v2⟩ := qw hf r hr
           obtain ⟨x, t', x1, rfl⟩ := qk v1
           exact hx (by simp only [Op.operands, List.mem_toArray]; exact x1) r v2) ha hg
          rw [if_neg hc]
          simp only [k1]
          exact ⟨_, rfl, k2.comp (xQ.set hi (by rw [k2.l3, k2.l1, hl]) k2.on _)⟩
        · cases hev
      · cases hev
  · cases hev
 | call c =>
  obtain ⟨callee, args, tys⟩ := c
  cases callee with
  | builtin b =>
   cases b with
   | append =>
    simp only [zX] at hev ⊢
    have hops : ∀ x ∈ args.toList, x ∈ (Op.call ⟨.builtin .append, args, tys⟩).operands := fun x hx => by simpa [Op.operands, Call.operands] using hx
    generalize args.toList = al at hev hops ⊢
    generalize tys.toList = tl at hev ⊢
    have two : ∃ a b t u, yw P e al tl = [opv P e t a, opv P e u b] ∧ a ∈ al ∧ b ∈ al := by
     match al, tl with
     | [a, b], [t, u] => exact ⟨a, b, t, u, rfl, by simp, by simp⟩
     | [a, b], [t] => exact ⟨a, b, t, 0, rfl, by simp, by simp⟩
     | [a, b], [] => exact ⟨a, b, 0, 0, rfl, by simp, by simp⟩
     | [a, b], t :: u :: _ :: _ => exact ⟨a, b, t, u, rfl, by simp, by simp⟩
     | [], _ => simp [yw, blt] at hev
     | [_], [] => simp [yw, blt] at hev
     | [_], _ :: _ => simp [yw, blt] at hev
     | _ :: _ :: _ :: _, [] => simp [yw, blt] at hev
     | _ :: _ :: _ :: _, [_] => simp [yw, blt] at hev
     | _ :: _ :: _ :: _, [_, _] => simp [yw, blt] at hev
     | _ :: _ :: _ :: _, _ :: _ :: _ :: _ => simp [yw, blt] at hev
    obtain ⟨a, b, t, u, e1, ha1, hb1⟩ := two
    rw [e1] at hev ⊢
    have hra := hx (ty := t) (hops a ha1)
    have hrb := hx (ty := u) (hops b hb1)
    generalize opv P e t a = s at hev hra ⊢
    generalize opv P e u b = x at hev hrb ⊢
    simp only [blt] at hev ⊢
    split at hev
    rotate_left
    · cases hev
    · unfold app at hev ⊢
      split at hev
      · cases hev
      · rename_i el hel
        rw [ZX (h := h) fun r hr => ha r (hrb r hr)]
        split at hev
        · cases hev
        · rename_i xs hsrc
          split at hev
          · split at hev
            · rename_i hc
              cases hev
              exact ⟨_, if_pos hc, xQ.set hi hl ha _⟩
            · cases hev
          · rename_i r off len cap
            have hr : r ∈ yz (some i) ⟨dst, .call ⟨.builtin .append, args, tys⟩, ty, pos, after, guard⟩ e h := hra r (by simp [refs])
            simp only [ha r hr]
            split at hev
            · split at hev
              · rename_i hc
                cases hev
                exact ⟨_, if_pos hc, (xQ.set hr hl ha _).comp (xQ.set hi (by simp [hl]) (xQ.set hr hl ha _).on _)⟩
              · cases hev
            · cases hev
          · cases hev
   | _ => simp [xJ] at hn
  | value x =>
   simp only [xJ] at hn
   cases hp : pol.pm f (dst.getD 0) with
   | opn gv =>
    simp only [zX, wy, hp] at hev ⊢
    split at hev
    · rename_i g caps hg
      have hsub : ∀ r ∈ xr h (yw P e args.toList tys.toList ++ caps), r ∈ yz (some i) ⟨dst, .call ⟨.value x, args, tys⟩, ty, pos, after, guard⟩ e h := fun r hr => by
       unfold yz pO
       rw [if_pos (by simp [qL])]
       refine List.mem_append.2 (.inr (qh h 3 _ _ (fun k hk => ?_) r hr))
       rw [w7] at hk ⊢
       rcases hk with hk | hk
       · cases hk
       · exact .inr (by simpa [Op.operands, Call.operands] using oq hg k hk)
      obtain ⟨p1, p2⟩ := Yb (h2 := h2) fun r hr => ha r (hsub r hr)
      rw [p2]
      split at hev
      · rename_i v' h1' hr
        rw [p1]
        exact jI hsub hl ha hev
      · cases hev
    · cases hev
   | _ => simp [hp] at hn
  | invoke r m => simp [xJ] at hn
 | _ => simp [xJ] at hn
theorem ny {e : Env} {dst : Option Nat} {v : V} {t : Nat} (h : dst ≠ some t) : put e dst v t = e t := by
 cases dst with
 | none => rfl
 | some d => simp only [put, upd]; rw [if_neg]; intro he; exact h (by rw [he])
theorem fF (e : Env) {x y : Option Nat} (v u : V) (h : ∀ d, x = some d → y ≠ some d) : put (put e x v) y u = put (put e y u) x v := by
 funext t
 cases x with
 | none => rfl
 | some d =>
  cases y with
  | none => rfl
  | some d' =>
   have hne : d ≠ d' := fun e => h d rfl (by rw [e])
   simp only [put, upd]
   by_cases h1 : t = d'
   · subst h1; simp [Ne.symm hne]
   · simp [h1]
theorem rC {b : Blk} {r : Nat} (hd : h[r]? = some .dead) (hne : N ≠ some r) : (nH N h b)[r]? = some .dead := by
 cases N with
 | none => simp only [nH]; rw [List.getElem?_append_left (List.getElem?_eq_some_iff.1 hd).1]; exact hd
 | some i =>
  simp only [nH]
  rw [List.getElem?_set_ne (fun e : i = r => hne (by rw [e]))]
  exact hd
theorem mR {b b' : Blk} {r k : Nat} (hd : h[k]? = some .dead) (hb : h[r]? = some b) (hn : b ≠ .dead) : (h.set r b')[k]? = some .dead := by
 rw [List.getElem?_set_ne (fun e : r = k => by subst e; rw [hd] at hb; cases hb; exact hn rfl)]
 exact hd
theorem jD {r i j : Nat} {vs : List V} {h' : Heap} (hs : tX h r i j vs = some h') {k : Nat} (hd : h[k]? = some .dead) : h'[k]? = some .dead := by
 unfold tX at hs
 split at hs
 · rename_i sz es hb
   split at hs
   · split at hs
     · cases hs; exact mR hd hb (by simp)
     · cases hs
   · cases hs
 · rename_i sz es hb
   split at hs
   · split at hs
     · split at hs
       · rename_i xs h2 hg
         split at hs
         · rename_i sz' es' hb'
           cases hs
           unfold rM at hg
           split at hg
           · rename_i ys h3 h3e
             split at hg
             · cases hg; exact mR ((vg vs h3e).2 k hd) hb' (by simp)
             · cases hg
           · cases hg
         · cases hs
       · cases hs
     · cases hs
   · cases hs
 · cases hs
theorem V7 {ty tx : TypeId} {s x v : V} {h' : Heap} (hc : app P N ty tx s x h = some (v, h')) {k : Nat} (hd : h[k]? = some .dead) (hne : N ≠ some k) : h'[k]? = some .dead := by
 unfold app at hc
 split at hc
 · cases hc
 · split at hc
   · cases hc
   · split at hc
     · split at hc
       · cases hc; exact rC hd hne
       · cases hc
     · split at hc
       · rename_i sz es hb
         split at hc
         · cases hc; exact rC (mR hd hb (by simp)) hne
         · cases hc
       · cases hc
     · cases hc
theorem V0 {b : Builtin} {tys : List TypeId} {args : List V} {v : V} {h' : Heap} (hc : blt P N b tys args h = some (v, h')) {k : Nat} (hd : h[k]? = some .dead) (hne : N ≠ some k) : h'[k]? = some .dead := by
 unfold blt at hc
 split at hc
 · split at hc
   · split at hc
     · cases hc; exact hd
     · cases hc
   · cases hc
 · split at hc
   · exact V7 hc hd hne
   · cases hc
 · split at hc
   · cases hc; exact hd
   · cases hc
 · split at hc
   · cases hc; exact hd
   · cases hc
 · cases hc
theorem lS {ids : List Nat} {v v' : V} {h1 h' : Heap} (hb : yZ N ids v h1 h = some (v', h')) {k : Nat} (hd : h[k]? = some .dead) : h'[k]? = some .dead := by
 unfold yZ at hb
 split at hb
 · cases hb
 · cases hb
   have hk := (List.getElem?_eq_some_iff.1 hd).1
   rw [List.getElem?_append_left (by rw [xf]; exact hk), wH _ _ _ _ _ fun _ => by simp [xE, hd]]
   exact hd
theorem Ym {o : Oper} {e : Env} {v : V} {h' : Heap} (hev : zX P pol rec f N o e h = some (v, h')) {k : Nat} (hd : h[k]? = some .dead) (hne : N ≠ some k) : h'[k]? = some .dead := by
 obtain ⟨dst, op, ty, pos, after, guard⟩ := o
 cases op with
 | alloc t =>
  simp only [zX] at hev
  (repeat' split at hev) <;> first | (cases hev; done) | (cases hev; exact rC hd hne)
 | box t x =>
  simp only [zX] at hev
  (repeat' split at hev) <;> first | (cases hev; done) | (cases hev; exact rC hd hne)
 | makeSlice t l c =>
  simp only [zX] at hev
  (repeat' split at hev) <;> first | (cases hev; done) | (cases hev; exact rC hd hne)
 | makeFunc fn first caps =>
  simp only [zX] at hev
  cases fn with
  | func g => simp only at hev; split at hev <;> first | (cases hev; done) | (cases hev; exact hd)
  | _ => cases hev
 | buildSlice t len parts =>
  simp only [zX] at hev
  split at hev
  · split at hev
    · cases hev
    · split at hev
      · split at hev
        · rename_i es h1 hg
          cases hev
          exact rC ((sy hg).2 k hd) hne
        · cases hev
      · cases hev
  · cases hev
 | store t a x =>
  simp only [zX] at hev
  split at hev
  · rename_i h1 hs
    cases hev
    unfold store at hs
    split at hs
    · split at hs
      · exact jD hs hd
      · cases hs
    · cases hs
  · cases hev
 | call c =>
  obtain ⟨callee, args, tys⟩ := c
  cases callee with
  | builtin b => simp only [zX] at hev; exact V0 hev hd hne
  | value x =>
   simp only [zX] at hev
   split at hev
   · rename_i g caps hg
     unfold wy at hev
     split at hev
     · split at hev
       · split at hev
         · cases hev; exact hd
         · cases hev
       · split at hev
         · split at hev
           · split at hev
             · cases hev; exact hd
             · cases hev
           · cases hev
         · cases hev
     · split at hev
       · rename_i az h1 hgv
         split at hev
         · cases hev; exact (vg _ hgv).2 k hd
         · cases hev
       · cases hev
     · split at hev
       · exact lS hev hd
       · cases hev
     · cases hev
     · cases hev
   · cases hev
  | invoke r m => simp [zX] at hev
 | _ =>
  first
   | (simp [zX] at hev; done)
   | (simp only [zX] at hev; (repeat' split at hev) <;> first | (cases hev; done) | (cases hev; exact hd))
def ev1 (P : Program) (pol : Pol) (rec : Rec) (f : Nat) (N : Option Nat) (ops : Array Oper) (o : Oper) (e : Env) (h : Heap) : Option (V × Heap) :=
 match want ops o e with
 | some true => zX P pol rec f N o e h
 | some false => some (.und, h)
 | none => none
theorem jg (o : Oper) (e : Env) : si P pol rec f N ops o e h = match ev1 P pol rec f N ops o e h with | some (v, h') => some (put e o.dst v, h') | none => none := by
 unfold si ev1
 cases want ops o e with
 | none => rfl
 | some b => cases b with
  | false => rfl
  | true => simp only; cases zX P pol rec f N o e h <;> rfl
theorem oh {o : Oper} (hn : soft pol f o = true) {e e' : Env} (hs : wP ops o e e') : ev1 P pol rec f N ops o e h = ev1 P pol rec f N ops o e' h := by
 unfold ev1; rw [nO hs, qy hn hs]
theorem pw {o : Oper} (hn : yI pol f o = true) {e : Env} {v : V} {h' : Heap} (hev : ev1 P pol rec f N ops o e h = some (v, h')) : h' = h := by
 unfold ev1 at hev
 split at hev
 · exact kM hn hev
 · cases hev; rfl
 · cases hev
theorem Ww {o : Oper} {e : Env} {v : V} {h' : Heap} (hev : ev1 P pol rec f N ops o e h = some (v, h')) {k : Nat} (hd : h[k]? = some .dead) (hne : N ≠ some k) : h'[k]? = some .dead := by
 unfold ev1 at hev
 split at hev
 · exact Ym hev hd hne
 · cases hev; exact hd
 · cases hev
theorem pI {o : Oper} (hs : soft pol f o = true) (hN : xJ pol f o = true → N.isSome = true) {e : Env} {h1 h2 : Heap} (hl : h2.length = h.length) (ha : ∀ r ∈ yz N o e h, h2[r]? = h[r]?) {v : V} (hev : ev1 P pol rec f N ops o e h = some (v, h1)) :
 ∃ h3, ev1 P pol rec f N ops o e h2 = some (v, h3) ∧ xQ (yz N o e h) h h1 h2 h3 := by
 unfold ev1 at hev ⊢
 split at hev
 · rcases qe hs with hn | hn
   · have := kM hn hev
     subst this
     exact ⟨h2, fY hn ha hev, xQ.same ha⟩
   · obtain ⟨i, hi⟩ := Option.isSome_iff_exists.1 (hN hn)
     subst hi
     exact TC hn hl ha hev
 · cases hev; exact ⟨h2, rfl, xQ.same ha⟩
 · cases hev
theorem da {xs ys : List Nat} (hd : Kv xs ys = true) : ∀ r ∈ xs, r ∉ ys := fun r hr => by
 have := List.all_eq_true.1 hd r hr
 simpa using this
theorem uX {e : Env} {r : Nat} : ∀ {xs : List Operand}, r ∈ za e xs → ∃ t, .tmp t ∈ xs ∧ r ∈ refs (e t)
 | .tmp t :: xs, hr => by
  simp only [za, List.mem_append] at hr
  rcases hr with hr | hr
  · exact ⟨t, by simp, hr⟩
  · obtain ⟨t', h1, h2⟩ := uX hr
    exact ⟨t', by simp [h1], h2⟩
 | .const _ :: xs, hr => by simp only [za] at hr; obtain ⟨t', h1, h2⟩ := uX hr; exact ⟨t', by simp [h1], h2⟩
 | .func _ :: xs, hr => by simp only [za] at hr; obtain ⟨t', h1, h2⟩ := uX hr; exact ⟨t', by simp [h1], h2⟩
 | .global _ :: xs, hr => by simp only [za] at hr; obtain ⟨t', h1, h2⟩ := uX hr; exact ⟨t', by simp [h1], h2⟩
theorem aX {x : Operand} : ∀ {xs : List Operand}, x ∈ hdL xs → x ∈ xs
 | y :: _, h => by simp only [hdL, List.mem_singleton] at h; simp [h]
theorem sq (o : Oper) (e : Env) : (∀ h, wz N o e h = []) ∧ (∀ (P : Program) (pol : Pol) (rec : Rec) (f : Nat), xJ pol f o = false) ∨ (∀ h, wz N o e h = yz N o e h) ∨
 ∃ args tys, o.op = .call ⟨.builtin .append, args, tys⟩ ∧ ∀ h, wz N o e h = nL N ++ za e (hdL args.toList) := by
 obtain ⟨dst, op, ty, pos, after, guard⟩ := o
 cases op with
 | call c =>
  obtain ⟨callee, args, tys⟩ := c
  cases callee with
  | builtin b =>
   cases b with
   | append => exact .inr (.inr ⟨args, tys, rfl, fun _ => rfl⟩)
   | _ => exact .inr (.inl fun _ => rfl)
  | _ => exact .inr (.inl fun _ => rfl)
 | _ => first | exact .inl ⟨fun _ => rfl, fun _ _ _ _ => rfl⟩ | exact .inr (.inl fun _ => rfl)
theorem TD {o : Oper} {e : Env} {r : Nat} (hr : r ∈ nL N) : r ∈ yz N o e h := by
 unfold yz
 cases N with
 | none => simp [nL] at hr
 | some i => simp only [nL] at hr; exact List.mem_append.2 (.inl hr)
theorem kc {o : Oper} {e : Env} {r : Nat} (hr : r ∈ wz N o e h) : r ∈ yz N o e h := by
 rcases sq (N := N) o e with ⟨h1, _⟩ | h1 | ⟨args, tys, h0, h1⟩
 · rw [h1] at hr; cases hr
 · rw [h1] at hr; exact hr
 · rw [h1] at hr
   rcases List.mem_append.1 hr with hr | hr
   · exact TD hr
   · obtain ⟨t, h2, h3⟩ := uX hr
     unfold yz
     refine List.mem_append.2 (.inr (o9 (xV h3 ?_)))
     rw [h0]
     have := aX h2
     simpa [Op.operands, Call.operands] using this
theorem Sx {i : Nat} {ty tx : TypeId} {s x v : V} {h1 : Heap} (hc : app P (some i) ty tx s x h = some (v, h1)) {r : Nat} (hr : r ≠ i) (hs : r ∉ refs s) : h1[r]? = h[r]? := by
 unfold app at hc
 split at hc
 · cases hc
 · split at hc
   · cases hc
   · split at hc
     · split at hc
       · cases hc
         exact List.getElem?_set_ne (fun e : i = r => hr e.symm)
       · cases hc
     · rename_i k off len cap
       have hk : k ≠ r := fun e => hs (by simp [refs, e])
       split at hc
       · split at hc
         · cases hc
           simp only [nH]
           rw [List.getElem?_set_ne (fun e : i = r => hr e.symm), List.getElem?_set_ne hk]
         · cases hc
       · cases hc
     · cases hc
theorem pH {o : Oper} (hs : soft pol f o = true) (hN : xJ pol f o = true → N.isSome = true) {e : Env} {v : V} {h1 : Heap} (hev : ev1 P pol rec f N ops o e h = some (v, h1)) {r : Nat} (hr : r ∉ wz N o e h) : h1[r]? = h[r]? := by
 rcases sq (N := N) o e with ⟨_, hw⟩ | hw | ⟨args, tys, h0, hw⟩
 · rcases qe hs with hn | hn
   · rw [pw hn hev]
   · rw [hw P pol rec f] at hn; cases hn
 · rw [hw] at hr
   obtain ⟨_, f1e, f1⟩ := pI hs hN rfl (fun _ _ => rfl) hev
   exact f1.off1 r hr
 · rw [hw] at hr
   obtain ⟨i, hi⟩ := Option.isSome_iff_exists.1 (hN (by unfold xJ; rw [h0]))
   subst hi
   obtain ⟨dst, op, ty, pos, after, guard⟩ := o
   simp only at h0
   subst h0
   unfold ev1 at hev
   split at hev
   · simp only [zX] at hev
     have hne : r ≠ i := fun e => hr (by simp [nL, e])
     have hnot : r ∉ za e (hdL args.toList) := fun x => hr (List.mem_append.2 (.inr x))
     generalize args.toList = al at hev hnot
     generalize tys.toList = tl at hev
     have key : ∀ (a b : Operand) (t u : TypeId) (tl' : List TypeId), al = [a, b] → yw P e al tl = [opv P e t a, opv P e u b] → h1[r]? = h[r]? := fun a b t u tl' ha h2 => by
      rw [h2] at hev
      simp only [blt] at hev
      split at hev
      rotate_left
      · cases hev
      · refine Sx hev hne fun hx => hnot ?_
        obtain ⟨t', rfl, h3⟩ := sG hx
        rw [ha]
        exact xV h3 (by simp [hdL])
     match al, tl with
     | [a, b], [t, u] => exact key a b t u [] rfl rfl
     | [a, b], [t] => exact key a b t 0 [] rfl rfl
     | [a, b], [] => exact key a b 0 0 [] rfl rfl
     | [a, b], t :: u :: _ :: _ => exact key a b t u [] rfl rfl
     | [], _ => simp [yw, blt] at hev
     | [_], [] => simp [yw, blt] at hev
     | [_], _ :: _ => simp [yw, blt] at hev
     | _ :: _ :: _ :: _, [] => simp [yw, blt] at hev
     | _ :: _ :: _ :: _, [_] => simp [yw, blt] at hev
     | _ :: _ :: _ :: _, [_, _] => simp [yw, blt] at hev
     | _ :: _ :: _ :: _, _ :: _ :: _ :: _ => simp [yw, blt] at hev
   · cases hev; rfl
   · cases hev
theorem gn {o : Oper} {e e' : Env} (hs : wP ops o e e') : wz N o e h = wz N o e' h := by
 have hf : yz N o e h = yz N o e' h := vh hs
 obtain ⟨dst, op, ty, pos, after, guard⟩ := o
 cases op with
 | call c =>
  obtain ⟨callee, args, tys⟩ := c
  cases callee with
  | builtin b =>
   cases b with
   | append =>
    show nL N ++ za e (hdL args.toList) = nL N ++ za e' (hdL args.toList)
    rw [wI _ fun t ht => hs t ?_]
    simp only [Oper.looksAt, List.mem_append, List.mem_filterMap]
    exact .inl ⟨.tmp t, by have := aX ht; simpa [Op.operands, Call.operands] using this, rfl⟩
   | _ => simp only [wz]; exact hf
  | _ => simp only [wz]; exact hf
 | _ => simp only [wz]; try exact hf
theorem sA {o : Oper} {e e' : Env} (hs : wP ops o e e') : xT N o e h = xT N o e' h := by
 unfold xT; rw [gn hs, vh hs]
theorem rq {o : Oper} {e : Env} {h2 : Heap} (ha : ∀ r ∈ yz N o e h, h2[r]? = h[r]?) : xT N o e h2 = xT N o e h := by
 have h1 : wz N o e h2 = wz N o e h := by
  rcases sq (N := N) o e with ⟨hw, _⟩ | hw | ⟨args, tys, h0, hw⟩
  · rw [hw, hw]
  · rw [hw, hw]; exact pr ha
  · rw [hw, hw]
 unfold xT
 rw [h1, pr ha]
theorem th (N : Option Nat) (o : Oper) (e : Env) (h : Heap) : wrE (xT N o e h) = wz N o e h := by simp [wrE, xT]
theorem dy (N : Option Nat) (o : Oper) (e : Env) (h : Heap) : alE (xT N o e h) = yz N o e h := by simp [alE, xT]
theorem Wv {a b : Oper} {Na Nb : Option Nat} (ha : soft pol f a = true) (hb : soft pol f b = true) (hNa : xJ pol f a = true → Na.isSome = true) (hNb : xJ pol f b = true → Nb.isSome = true) (hap : a.apart ops b = true) {e : Env} {va vb : V} {h1 h2 : Heap}
 (hc : (yI pol f a = true ∧ yI pol f b = true) ∨ ZN (xT Na a e h) (xT Nb b (put e a.dst va) h1) = true)
 (h1e : ev1 P pol rec f Na ops a e h = some (va, h1)) (h2e : ev1 P pol rec f Nb ops b (put e a.dst va) h1 = some (vb, h2)) :
 ∃ h3, ev1 P pol rec f Nb ops b e h = some (vb, h3) ∧ ev1 P pol rec f Na ops a (put e b.dst vb) h3 = some (va, h2) ∧ xT Nb b e h = xT Nb b (put e a.dst va) h1 ∧ xT Na a (put e b.dst vb) h3 = xT Na a e h := by
 obtain ⟨k1, k2, k3⟩ := Oper.apart_spec hap
 have s1 : wP ops b (put e a.dst va) e := fun t ht => ny fun hx => k1 t hx ht
 have s2 : wP ops a (put e b.dst vb) e := fun t ht => ny fun hx => k3 t hx ht
 rw [oh hb s1] at h2e
 rw [sA s1] at hc ⊢
 rcases hc with ⟨hna, hnb⟩ | hd
 · have e1 := pw hna h1e
   subst e1
   have e2 := pw hnb h2e
   subst e2
   exact ⟨h2, h2e, by rw [oh ha s2]; exact h1e, rfl, sA s2⟩
 · unfold ZN at hd
   rw [th, th, dy, dy, Bool.and_eq_true] at hd
   have hd1 := da hd.1
   have hd2 := da hd.2
   obtain ⟨_, f2e, f2⟩ := pI hb hNb rfl (fun _ _ => rfl) h2e
   rw [h2e] at f2e; cases f2e
   obtain ⟨_, f1e, f1⟩ := pI ha hNa rfl (fun _ _ => rfl) h1e
   rw [h1e] at f1e; cases f1e
   have agB : ∀ r ∈ yz Nb b e h1, h[r]? = h1[r]? := fun r hr => (pH ha hNa h1e fun x => hd1 r x hr).symm
   obtain ⟨h3, g1, g2⟩ := pI hb hNb (h2 := h) f1.l1.symm agB h2e
   have hwb : wz Nb b e h = wz Nb b e h1 := by
    have := congrArg wrE (rq (N := Nb) agB)
    rwa [th, th] at this
   have agA : ∀ r ∈ yz Na a e h, h3[r]? = h[r]? := fun r hr => pH hb hNb g1 fun x => by rw [hwb] at x; exact hd2 r x hr
   obtain ⟨h4, g3, g4⟩ := pI ha hNa (h2 := h3) g2.l3 agA h1e
   have hwa : wz Na a e h3 = wz Na a e h := by
    have := congrArg wrE (rq (N := Na) agA)
    rwa [th, th] at this
   refine ⟨h3, g1, ?_, rq agB, (sA s2).trans (rq agA)⟩
   rw [oh ha s2, g3]
   have : h4 = h2 := by
    apply List.ext_getElem?
    intro r
    by_cases hra : r ∈ wz Na a e h
    · rw [g4.on r (kc hra), pH hb hNb h2e fun x => hd1 r hra (kc x)]
    · rw [pH ha hNa g3 (by rw [hwa]; exact hra)]
      by_cases hrb : r ∈ yz Nb b e h1
      · rw [g2.on r hrb]
      · rw [g2.off3 r hrb, f2.off1 r hrb, pH ha hNa h1e hra]
   rw [this]
def evN (P : Program) (pol : Pol) (rec : Rec) (f : Nat) (ops : Array Oper) (Ns : Nat → Option Nat) (fp : Nat → List Nat) : List Nat → Env → Heap → Option (Env × Heap)
 | [], e, h => some (e, h)
 | i :: rest, e, h => match ops[i]? with
  | some o => if xT (Ns i) o e h = fp i then (match ev1 P pol rec f (Ns i) ops o e h with
   | some (v, h') => evN P pol rec f ops Ns fp rest (put e o.dst v) h'
   | none => none) else none
  | none => none
/-- two places that may change -/
def Chg (pol : Pol) (f : Nat) (ops : Array Oper) (fp : Nat → List Nat) (i j : Nat) : Prop :=
 ∀ oi oj, ops[i]? = some oi → ops[j]? = some oj → oi.apart ops oj = true ∧ soft pol f oi = true ∧ soft pol f oj = true ∧ ((yI pol f oi = true ∧ yI pol f oj = true) ∨ ZN (fp i) (fp j) = true)
theorem ji {Ns : Nat → Option Nat} {fp : Nat → List Nat} (hNs : ∀ i o, ops[i]? = some o → xJ pol f o = true → (Ns i).isSome = true) {i : Nat} (B : List Nat) : ∀ (A : List Nat), (∀ j ∈ A, Chg pol f ops fp j i) → ∀ {h : Heap} {e : Env} {r : Env × Heap},
 evN P pol rec f ops Ns fp (A ++ i :: B) e h = some r → evN P pol rec f ops Ns fp (i :: (A ++ B)) e h = some r
 | [], _, h, e, r, hev => hev
 | j :: A, hA, h, e, r, hev => by
  simp only [List.cons_append, evN] at hev
  split at hev
  · rename_i oj hoj
    split at hev
    · rename_i hfj
      split at hev
      · rename_i va h1 h1e
        have h2 := ji hNs B A (fun k hk => hA k (by simp [hk])) hev
        simp only [evN] at h2
        split at h2
        · rename_i oi hoi
          split at h2
          · rename_i hfi
            split at h2
            · rename_i vb h2' h2e
              obtain ⟨c1, c2, c3, c4⟩ := hA j (by simp) oj oi hoj hoi
              obtain ⟨k1, k2, k3⟩ := Oper.apart_spec c1
              obtain ⟨h3, g1, g2, g3, g4⟩ := Wv c2 c3 (hNs j oj hoj) (hNs i oi hoi) c1 (by rw [hfj, hfi]; exact c4) h1e h2e
              have f1 : xT (Ns i) oi e h = fp i := by rw [g3]; exact hfi
              have f2 : xT (Ns j) oj (put e oi.dst vb) h3 = fp j := by rw [g4]; exact hfj
              simp only [evN, hoi, f1, if_true, g1, List.cons_append, hoj, f2, g2]
              rw [← fF e va vb k2]
              exact h2
            · cases h2
          · cases h2
        · cases h2
      · cases hev
    · cases hev
  · cases hev
theorem ud (hp : nz ops = true) {j : Nat} {oj : Oper} (hj : ops[j]? = some oj) : (∀ e ∈ oj.after, Region.binds .any e = true → e.on < j) ∧
 ∀ i oi, i < j → ops[i]? = some oi → (∀ e ∈ oj.after, Region.binds .any e = true → e.on ≠ i) → oi.apart ops oj = true := by
 have hlt : j < ops.size := (Array.getElem?_eq_some_iff.1 hj).1
 have h1 := List.all_eq_true.1 hp j (List.mem_range.2 hlt)
 simp only [hj, Bool.and_eq_true, Array.all_eq_true_iff_forall_mem, List.all_eq_true, List.mem_range] at h1
 refine ⟨fun e he hb => ?_, fun i oi hi hoi hno => ?_⟩
 · have := h1.1 e he
   simpa [hb] using this
 · have := h1.2 i hi
   simp only [hoi, Bool.or_eq_true] at this
   rcases this with h2 | h2
   · obtain ⟨e, he, hb⟩ := Array.any_eq_true'.1 h2
     simp only [Bool.and_eq_true, beq_iff_eq] at hb
     exact absurd hb.2 (hno e he hb.1)
   · exact h2
theorem Rr {z : Nat → Prop} {M : Option Nat} (hS : St w F ρ Ow h) : St w F ρ ⟨Ow.b, z, M⟩ h := ⟨fun r b hr => by have := hS.blk r b hr; cases b <;> exact this, hS.inj, hS.fsz, hS.out, hS.own.imp fun φ k => ⟨k.cell, k.act, k.sep, k.apart⟩⟩
theorem Ri {z : Nat → Prop} {M : Option Nat} (hS : St w F ρ ⟨Ow.b, z, M⟩ h) : St w F ρ Ow h := ⟨fun r b hr => by have := hS.blk r b hr; cases b <;> exact this, hS.inj, hS.fsz, hS.out, hS.own.imp fun φ k => ⟨k.cell, k.act, k.sep, k.apart⟩⟩
theorem Tz {z : Nat → Prop} {M : Option Nat} {w' : World} {F' : Nat → Prop} {ρ' : yd} (hO : OkC Ow w) (hN : Nxt ⟨Ow.b, z, M⟩ w F ρ w' F' ρ') : Nxt Ow w F ρ w' F' ρ' :=
 ⟨hN.os, hN.tape, hN.output, hN.size, hN.keep, hN.agree, hN.grow, hN.new, hN.ext, fun r hr => absurd hr (hO.z r)⟩
/-- one waits for another, by some steps -/
inductive Path (ops : Array Oper) (i : Nat) : Nat → Prop
 | dir {j : Nat} {oj : Oper} {e : Edge} (hj : ops[j]? = some oj) (he : e ∈ oj.after) (hb : Region.binds .any e = true) (h : e.on = i) : Path ops i j
 | via {j : Nat} {oj : Oper} {e : Edge} (hj : ops[j]? = some oj) (he : e ∈ oj.after) (hb : Region.binds .any e = true) (h : Path ops i e.on) : Path ops i j
theorem iB {i : Nat} : ∀ (n j : Nat), dD ops n i j = true → Path ops i j
 | 0, j, h => by cases h
 | n + 1, j, h => by
  unfold dD at h
  split at h
  · rename_i oj hj
    obtain ⟨e, he, hb⟩ := Array.any_eq_true'.1 h
    simp only [Bool.and_eq_true, Bool.or_eq_true, beq_iff_eq] at hb
    rcases hb.2 with h1 | h1
    · exact .dir hj he hb.1 h1
    · exact .via hj he hb.1 (iB n e.on h1)
  · cases h
theorem oG {listed : Array Bool} (hcl : ∀ k ok, listed.getD k false = true → ops[k]? = some ok → ∀ ed ∈ ok.after, Region.binds .any ed = true → listed.getD ed.on false = true) {i x : Nat} (hp : Path ops i x) :
 (∀ ox, ops[x]? = some ox → ∀ ed ∈ ox.after, Region.binds .any ed = true → listed.getD ed.on false = true) → listed.getD i false = true := by
 induction hp with
 | dir hj he hb h => intro hx; rw [← h]; exact hx _ hj _ he hb
 | via hj he hb h ih => intro hx; exact ih (fun ox hox ed hed hbd => hcl _ ox (hx _ hj _ he hb) hox ed hed hbd)
theorem UL {W0 : World} (hrec : xX P W0 rec) {n : Nat} (hdst : pP n ops = true) (hpairs : nz ops = true) {Ns : Nat → Option Nat} {fp : Nat → List Nat} (hNs : ∀ i o, ops[i]? = some o → xJ pol f o = true → (Ns i).isSome = true)
 (hinj : ∀ i j r, Ns i = some r → Ns j = some r → i = j)
 (hchg : ∀ i j oj, i < j → ops[j]? = some oj → ¬ Path ops i j → Chg pol f ops fp i j) {Q : Exit → Act → World → Prop} :
 ∀ (fuel : Nat) (R : List Nat) (listed : Array Bool) {w : World} {F : Nat → Prop} {ρ : yd} {h : Heap} {e e' : Env} {h' : Heap} {a : Act}, R.length = fuel → R.Pairwise (· < ·) → listed.size = ops.size → (∀ i, i ∈ R ↔ i < ops.size ∧ listed.getD i true = false) →
  (∀ i ∈ R, ∀ r, Ns i = some r → h[r]? = some .dead ∧ ρ r = none) →
  (∀ k ok, listed.getD k false = true → ops[k]? = some ok → ∀ ed ∈ ok.after, Region.binds .any ed = true → listed.getD ed.on false = true) →
  evN P pol rec f ops Ns fp R e h = some (e', h') → vo W0 w F → St w F ρ Ow h → OkC Ow w → RE w F ρ a e → a.tmps.size = n → a.defers = [] → qG Ow w F ρ n e' h' (Q .normal) → wpAny P .any ops Q fuel listed a w := by
 intro fuel
 induction fuel with
 | zero =>
  intro R listed w F ρ h e e' h' a hl hs hsz hR hdead hcl hev hB hS hO he hn hd hK
  have : R = [] := List.eq_nil_of_length_eq_zero hl
  subst this
  simp only [evN] at hev
  cases hev
  refine ⟨?_, hK a w F ρ he hS (Nxt.refl _ _ _ _) hn hd⟩
  apply List.eq_nil_iff_forall_not_mem.2
  intro j hj
  obtain ⟨hju, oj, hoj, _⟩ := mem_ready.1 hj
  have := (hR j).2 ⟨(Array.getElem?_eq_some_iff.1 hoj).1, hju⟩
  cases this
 | succ fuel ih =>
  intro R listed w F ρ h e e' h' a hl hs hsz hR hdead hcl hev hB hS hO he hn hd hK
  refine ⟨fun hnil => ?_, fun i hi => ?_⟩
  · exfalso
    cases R with
    | nil => simp at hl
    | cons j R =>
     obtain ⟨hj1, hj2⟩ := (hR j).1 (by simp)
     obtain ⟨oj, hoj⟩ : ∃ o, ops[j]? = some o := ⟨_, Array.getElem?_eq_getElem hj1⟩
     have : j ∈ Region.ready .any ops listed := mem_ready.2 ⟨hj2, oj, hoj, fun ed hed hb => by
      have hlt := (ud hpairs hoj).1 ed hed hb
      cases hx : listed.getD ed.on false with
      | true => rfl
      | false =>
       have hx' : listed.getD ed.on true = false := by
        simp only [Array.getD_eq_getD_getElem?] at hx ⊢
        have hin : ed.on < listed.size := by omega
        simp [hin] at hx ⊢; exact hx
       have := (hR ed.on).2 ⟨by omega, hx'⟩
       rcases List.mem_cons.1 this with h1 | h1
       · omega
       · have := (List.pairwise_cons.1 hs).1 _ h1; omega⟩
     rw [hnil] at this
     cases this
  · obtain ⟨hiu, oi, hoi, hall'⟩ := mem_ready.1 hi
    have hmem := (hR i).2 ⟨(Array.getElem?_eq_some_iff.1 hoi).1, hiu⟩
    obtain ⟨A, B, rfl⟩ := List.append_of_mem hmem
    have hpw := List.pairwise_append.1 hs
    have hnA : i ∉ A := fun h1 => by have := hpw.2.2 i h1 i (by simp); omega
    have hnB : i ∉ B := fun h1 => by have := (List.pairwise_cons.1 hpw.2.1).1 i h1; omega
    have hfront := ji (P := P) (rec := rec) hNs B A (fun j hj => by
     obtain ⟨hj1, hj2⟩ := (hR j).1 (by simp [hj])
     refine hchg j i oi (hpw.2.2 j hj i (by simp)) hoi fun hpt => ?_
     have h1 := oG hcl hpt fun ox hox ed hed hb => by
      rw [hoi] at hox; cases hox; exact hall' ed hed hb
     simp only [Array.getD_eq_getD_getElem?] at h1 hj2
     have hin : j < listed.size := by omega
     simp [hin] at h1 hj2
     rw [hj2] at h1; cases h1) hev
    simp only [evN, hoi] at hfront
    split at hfront
    rotate_left
    · cases hfront
    split at hfront
    · rename_i v h1 h1ev
      have hO' : OkO ⟨Ow.b, fun r => ∃ j ∈ A ++ B, Ns j = some r, Ns i⟩ w ρ h := by
       refine ⟨hO.blk, ?_, fun k hk => hdead i (by simp) k hk⟩
       rintro ⟨j, hj, hjr⟩
       cases hNi : Ns i with
       | none =>
        simp only [hNi, nI] at hjr
        have hdj := (hdead j (by simp at hj ⊢; rcases hj with h | h; exact .inl h; exact .inr (.inr h)) _ hjr).1
        rw [List.getElem?_eq_none (Nat.le_refl _)] at hdj; cases hdj
       | some k =>
        simp only [hNi, nI] at hjr
        have := hinj i j k hNi hjr
        subst this
        rcases List.mem_append.1 hj with hx | hx
        · exact hnA hx
        · exact hnB hx
      refine Rt hB hrec (Ow := ⟨Ow.b, fun r => ∃ j ∈ A ++ B, Ns j = some r, Ns i⟩) hoi (by rw [jg]; simp only; rw [h1ev]) (Rr hS) hO' (fun r ⟨j, hj, hjr⟩ => (List.getElem?_eq_some_iff.1 (hdead j (by simp at hj ⊢; rcases hj with h | h; exact .inl h; exact .inr (.inr h)) r hjr).1).1) he hn hd hdst fun a' w' F' ρ' k1 k2 k3 k4 k5 => ?_
      have k3' := Tz hO k3
      have hcl' : ∀ k ok, (listed.setIfInBounds i true).getD k false = true → ops[k]? = some ok → ∀ ed ∈ ok.after, Region.binds .any ed = true → (listed.setIfInBounds i true).getD ed.on false = true := fun k ok hk hok ed hed hb => by
       have key : listed.getD ed.on false = true := by
        by_cases hki : k = i
        · subst hki
          rw [hoi] at hok; cases hok
          exact hall' ed hed hb
        · rw [getD_set_ne false (Ne.symm hki)] at hk
          exact hcl k ok hk hok ed hed hb
       by_cases hei : ed.on = i
       · rw [hei] at key ⊢
         simp only [Array.getD_eq_getD_getElem?] at key ⊢
         by_cases hin : i < listed.size
         · simp [hin]
         · simp [hin] at key
       · rw [getD_set_ne false (Ne.symm hei)]; exact key
      refine ih (A ++ B) (listed.setIfInBounds i true) (by simp at hl ⊢; omega) ?_ (by simpa using hsz) (fun j => ?_) (fun j hj r hjr => ?_) hcl' hfront (hB.next k3') (Ri k2) (hO.mono k3'.size) k1 k4 k5 (hK.step k3')
      · refine List.pairwise_append.2 ⟨hpw.1, (List.pairwise_cons.1 hpw.2.1).2, fun x hx y hy => hpw.2.2 x hx y (by simp [hy])⟩
      · by_cases hji : j = i
        · subst hji
          constructor
          · intro hj
            exfalso
            rcases List.mem_append.1 hj with h1 | h1
            · exact hnA h1
            · exact hnB h1
          · rintro ⟨hj1, hj2⟩
            exfalso
            have hin : j < listed.size := by omega
            simp [Array.getD_eq_getD_getElem?, hin] at hj2
        · rw [getD_set_ne true (Ne.symm hji), ← hR j]
          simp [hji]
      · obtain ⟨d1, d2⟩ := hdead j (by simp at hj ⊢; rcases hj with h | h; exact .inl h; exact .inr (.inr h)) r hjr
        refine ⟨Ww h1ev d1 fun hx => ?_, (k3.res r ⟨j, hj, hjr⟩).trans d2⟩
        have := hinj i j r hx hjr
        subst this
        rcases List.mem_append.1 hj with hx | hx
        · exact hnA hx
        · exact hnB hx
    · cases hfront
theorem iL {Ns : Nat → Option Nat} {fp : Nat → List Nat} : ∀ (l : List Nat) (Nl : List (Option Nat)) (os : List Oper) {fps : List (List Nat)} {e e' : Env} {h h' : Heap}, l.map (ops[·]?) = os.map some → l.map Ns = Nl → evD P pol rec f ops Nl os e h = some (fps, e', h') → l.map fp = fps →
 evN P pol rec f ops Ns fp l e h = some (e', h')
 | [], [], [], fps, e, e', h, h', _, _, hev, _ => by simp only [evD] at hev; cases hev; rfl
 | i :: l, N :: Nl, o :: os, fps, e, e', h, h', ho, hN, hev, hf => by
  simp only [List.map_cons, List.cons.injEq] at ho hN
  simp only [evD] at hev
  rw [jg] at hev
  cases h1 : ev1 P pol rec f N ops o e h with
  | none => simp [h1] at hev
  | some x =>
   obtain ⟨v, hx⟩ := x
   simp only [h1] at hev
   split at hev
   · rename_i fs e'' h'' h2
     cases hev
     simp only [List.map_cons, List.cons.injEq] at hf
     simp only [evN, ho.1, hN.1, hf.1, if_true, h1]
     exact iL l Nl os ho.2 hN.2 h2 hf.2
   · cases hev
 | [], _ :: _, _, fps, e, e', h, h', ho, hN, hev, hf => by simp at hN
 | _ :: _, [], _, fps, e, e', h, h', ho, hN, hev, hf => by simp at hN
 | [], [], _ :: _, fps, e, e', h, h', ho, hN, hev, hf => by simp at ho
 | _ :: _, _ :: _, [], fps, e, e', h, h', ho, hN, hev, hf => by simp at ho
theorem iK : ∀ (Nl : List (Option Nat)) (os : List Oper) {fps : List (List Nat)} {e e' : Env} {h h' : Heap}, evD P pol rec f ops Nl os e h = some (fps, e', h') → fps.length = os.length ∧ Nl.length = os.length
 | [], [], fps, e, e', h, h', hev => by simp only [evD] at hev; cases hev; exact ⟨rfl, rfl⟩
 | N :: Nl, o :: os, fps, e, e', h, h', hev => by
  simp only [evD] at hev
  split at hev
  · split at hev
    · rename_i fs e'' h'' h2
      cases hev
      have := iK Nl os h2
      simp [this.1, this.2]
    · cases hev
  · cases hev
 | [], _ :: _, fps, e, e', h, h', hev => by simp [evD] at hev
 | _ :: _, [], fps, e, e', h, h', hev => by simp [evD] at hev
theorem jf : ∀ (os : List Oper) {e e' : Env} {h h' : Heap}, vw P pol rec f ops os e h = some (e', h') → ∃ fps, evD P pol rec f ops (List.replicate os.length none) os e h = some (fps, e', h')
 | [], e, e', h, h', hev => by simp only [vw] at hev; cases hev; exact ⟨[], rfl⟩
 | o :: os, e, e', h, h', hev => by
  simp only [vw] at hev
  split at hev
  · rename_i e1 h1 h1e
    obtain ⟨fps, k⟩ := jf os hev
    refine ⟨xT none o e h :: fps, ?_⟩
    simp only [List.length_cons, List.replicate_succ, evD, h1e, k]
  · cases hev
theorem sI : ∀ (os : List Oper) (b i : Nat) (r : Nat), (vL pol f b os)[i]? = some (some r) → b ≤ r ∧ r < b + v7 pol f os
 | [], b, i, r, h => by simp [vL] at h
 | o :: os, b, i, r, h => by
  simp only [vL] at h
  simp only [v7]
  split at h
  · rename_i hn
    simp only [hn, if_true]
    cases i with
    | zero => simp at h; omega
    | succ i =>
     have := sI os (b + 1) i r (by simpa using h)
     omega
  · rename_i hn
    simp only [hn]
    cases i with
    | zero => simp at h
    | succ i =>
     have := sI os b i r (by simpa using h)
     simpa using this
theorem l7 : ∀ (os : List Oper) (b i j : Nat) (r : Nat), (vL pol f b os)[i]? = some (some r) → (vL pol f b os)[j]? = some (some r) → i = j
 | [], b, i, j, r, h, _ => by simp [vL] at h
 | o :: os, b, i, j, r, h1, h2 => by
  simp only [vL] at h1 h2
  split at h1
  · rename_i hn
    simp only [hn, if_true] at h2
    cases i with
    | zero => cases j with
     | zero => rfl
     | succ j =>
      have := sI os (b + 1) j r (by simpa using h2)
      simp at h1; omega
    | succ i => cases j with
     | zero =>
      have := sI os (b + 1) i r (by simpa using h1)
      simp at h2; omega
     | succ j => rw [l7 os (b + 1) i j r (by simpa using h1) (by simpa using h2)]
  · rename_i hn
    simp only [hn] at h2
    cases i with
    | zero => simp at h1
    | succ i => cases j with
     | zero => simp at h2
     | succ j => rw [l7 os b i j r (by simpa using h1) (by simpa using h2)]
theorem l6 : ∀ (os : List Oper) (b i : Nat) (o : Oper), os[i]? = some o → xJ pol f o = true → ∃ r, (vL pol f b os)[i]? = some (some r)
 | [], b, i, o, h, _ => by simp at h
 | o' :: os, b, i, o, h, hn => by
  simp only [vL]
  cases i with
  | zero => simp at h; subst h; simp only [hn, if_true]; exact ⟨b, rfl⟩
  | succ i =>
   split
   · simpa using l6 os (b + 1) i o (by simpa using h) hn
   · simpa using l6 os b i o (by simpa using h) hn
theorem Rp (hS : St w F ρ Ow h) (k : Nat) : St w F ρ Ow (h ++ List.replicate k .dead) := by
 have hget : ∀ r b, (h ++ List.replicate k Blk.dead)[r]? = some b → h[r]? = some b ∨ b = Blk.dead := fun r b hr => by
  rcases Nat.lt_or_ge r h.length with hlt | hge
  · rw [List.getElem?_append_left hlt] at hr; exact .inl hr
  · rw [List.getElem?_append_right hge, List.getElem?_replicate] at hr
    split at hr
    · cases hr; exact .inr rfl
    · cases hr
 refine ⟨fun r b hr => ?_, fun r r' b b' L L' hr hr' hw hw' h1 h2 h3 => ?_, hS.fsz, fun r hr => hS.out r (by simp at hr; omega), ?_⟩
 · rcases hget r b hr with h1 | rfl
   · exact hS.blk r b h1
   · trivial
 · rcases hget r b hr with k1 | rfl
   · rcases hget r' b' hr' with k2 | rfl
     · exact hS.inj r r' b b' L L' k1 k2 hw hw' h1 h2 h3
     · simp [writes] at hw'
   · simp [writes] at hw
 · refine hS.owned (Nxt.refl Ow w F ρ) (fun b _ hF _ _ => ⟨rfl, hF⟩) (fun r i j x ho => ⟨?_, fun _ _ _ hx => hx⟩) fun r b L hr hw hL => ?_
   · obtain ⟨sz, es, cs, h1, h2⟩ := ho
     rcases hget r _ h1 with h3 | h3
     · exact ⟨sz, es, cs, h3, h2⟩
     · cases h3
   · rcases hget r b hr with h3 | rfl
     · exact .inr (hS.same (Ext.refl _) h3 hw hL)
     · simp [writes] at hw
theorem range_map_get {α : Type} (l : List α) (d : α) : (List.range l.length).map (fun i => l.getD i d) = l := by
 apply List.ext_getElem?
 intro i
 by_cases hi : i < l.length
 · simp [hi]
 · simp [hi]
theorem Zf {W0 : World} (hB : vo W0 w F) (hrec : xX P W0 rec) {n : Nat} (hdst : pP n ops = true) (hok : oz P ops = true) {id : Nat} {Q : Exit → Act → World → Prop} {e e' : Env} {h' : Heap} {a : Act}
 (hev : (if !(ops.toList.all (yI pol f)) then sU P pol rec f ops e h else vw P pol rec f ops ops.toList e h) = some (e', h')) (hS : St w F ρ Ow h)
 (hO : OkC Ow w) (he : RE w F ρ a e) (hn : a.tmps.size = n) (hd : a.defers = []) (hK : qG Ow w F ρ n e' h' (Q .normal)) : (Code.region id ops true).wp P Q a w := by
 simp only [oz, Bool.and_eq_true] at hok
 obtain ⟨hm, hpairs⟩ := hok
 obtain ⟨hS1, hN⟩ := l0 hS
 have hO1 : OkC Ow w.drew := hO.mono (Nat.le_refl _)
 have hops : (List.range ops.size).map (ops[·]?) = ops.toList.map some := pZ ops
 have hlast : ∀ i, i ∈ List.range ops.size ↔ i < ops.size ∧ (Array.replicate ops.size false).getD i true = false := fun i => by
  simp only [List.mem_range]
  constructor
  · intro hi; exact ⟨hi, by simp [Array.getD_eq_getD_getElem?, hi]⟩
  · exact fun hi => hi.1
 by_cases hall : ops.toList.all (yI pol f) = true
 · simp only [hall, Bool.not_true, Bool.false_eq_true, if_false] at hev
   have non : ∀ i o, ops[i]? = some o → yI pol f o = true := fun i o ho => List.all_eq_true.1 hall o (by rw [Array.mem_toList_iff]; exact Array.mem_of_getElem? ho)
   obtain ⟨fps, hD⟩ := jf _ hev
   obtain ⟨l1, _⟩ := iK _ _ hD
   have hE := iL (Ns := fun _ => none) (fp := fun i => fps.getD i []) (List.range ops.size) _ _ hops (by simp [List.map_const']) hD (by
    rw [show ops.size = fps.length by simpa using l1.symm]; exact range_map_get fps [])
   refine wp_region_any hm (UL (w := w.drew) hrec hdst hpairs (Ns := fun _ => none) (fp := fun i => fps.getD i []) (fun i o ho hnw => ?_) (fun i j r hr => by cases hr) (fun i j oj hij hoj hnp oi oj' hoi hoj' => ?_) ops.size (List.range ops.size) (Array.replicate ops.size false) (by simp) List.pairwise_lt_range (by simp) hlast (fun i _ r hr => by cases hr) (fun k ok hk => by simp only [Array.getD_eq_getD_getElem?, Array.getElem?_replicate] at hk; split at hk <;> simp at hk) hE (hB.next hN) hS1 hO1 (hN.re he) hn hd (hK.step hN))
   · exfalso
     have h1 := non i o ho
     obtain ⟨dst, op, ty, pos, after, guard⟩ := o
     cases op with
     | call c =>
      obtain ⟨callee, args, tys⟩ := c
      cases callee with
      | builtin b => cases b <;> simp [yI, xJ] at h1 hnw
      | value x => cases hp : pol.pm f (dst.getD 0) <;> simp [yI, xJ, hp] at h1 hnw
      | invoke r m => simp [xJ] at hnw
     | _ => simp [yI, xJ] at h1 hnw
   · rw [hoj] at hoj'; cases hoj'
     have hno : ∀ e ∈ oj.after, Region.binds .any e = true → e.on ≠ i := fun e he hb heq => hnp (.dir hoj he hb heq)
     exact ⟨(ud hpairs hoj).2 i oi hij hoi hno, by simp [soft, non i oi hoi], by simp [soft, non j oj hoj], .inl ⟨non i oi hoi, non j oj hoj⟩⟩
 · simp only [hall, Bool.not_false, if_true] at hev
   unfold sU at hev
   split at hev
   · rename_i fps e1 h1 hD
     split at hev
     · rename_i hdyn
       cases hev
       obtain ⟨l1, l2⟩ := iK _ _ hD
       have hE := iL (Ns := fun i => (vL pol f h.length ops.toList).getD i none) (fp := fun i => fps.getD i []) (List.range ops.size) _ _ hops (by
        rw [show ops.size = (vL pol f h.length ops.toList).length by simpa using l2.symm]; exact range_map_get _ none) hD (by
        rw [show ops.size = fps.length by simpa using l1.symm]; exact range_map_get fps [])
       have hget : ∀ i r, (vL pol f h.length ops.toList).getD i none = some r → (vL pol f h.length ops.toList)[i]? = some (some r) := fun i r hr => by
        rw [List.getD_eq_getElem?_getD] at hr
        cases hx : (vL pol f h.length ops.toList)[i]? with
        | none => simp [hx] at hr
        | some y => simp [hx] at hr; rw [hr]
       refine wp_region_any hm (UL (w := w.drew) hrec hdst hpairs (Ns := fun i => (vL pol f h.length ops.toList).getD i none) (fp := fun i => fps.getD i []) (fun i o ho hnw => ?_) (fun i j r hr hr' => l7 _ _ _ _ _ (hget i r hr) (hget j r hr')) (fun i j oj hij hoj hnp oi oj' hoi hoj' => ?_) ops.size (List.range ops.size) (Array.replicate ops.size false) (by simp) List.pairwise_lt_range (by simp) hlast (fun i _ r hr => ?_) (fun k ok hk => by simp only [Array.getD_eq_getD_getElem?, Array.getElem?_replicate] at hk; split at hk <;> simp at hk) hE (hB.next hN) (Rp hS1 _) hO1 (hN.re he) hn hd (hK.step hN))
       · obtain ⟨r, hr⟩ := l6 ops.toList h.length i o (by simpa using ho) hnw
         rw [List.getD_eq_getElem?_getD, hr]; rfl
       · rw [hoj] at hoj'; cases hoj'
         have hno : ∀ e ∈ oj.after, Region.binds .any e = true → e.on ≠ i := fun e he hb heq => hnp (.dir hoj he hb heq)
         have hlt : j < ops.size := (Array.getElem?_eq_some_iff.1 hoj).1
         have h2 := List.all_eq_true.1 hdyn j (List.mem_range.2 hlt)
         simp only [hoj, List.all_eq_true, List.mem_range] at h2
         have h3 := h2 i hij
         simp only [hoi, Ug, Bool.or_eq_true, Bool.and_eq_true] at h3
         rcases h3 with h3 | h3 | h3
         rotate_right
         · exact absurd (iB 6 j h3) hnp
         · obtain ⟨ed, he1, hb⟩ := Array.any_eq_true'.1 h3
           simp only [Bool.and_eq_true, beq_iff_eq] at hb
           exact absurd hb.2 (hno ed he1 hb.1)
         · exact ⟨(ud hpairs hoj).2 i oi hij hoi hno, h3.1.1, h3.1.2, h3.2⟩
       · obtain ⟨r1, r2⟩ := sI _ _ _ _ (hget i r hr)
         refine ⟨?_, hS1.out r r1⟩
         rw [List.getElem?_append_right r1, List.getElem?_replicate, if_pos (by omega)]
     · cases hev
   · cases hev
end Go.Proofs.YtonbkdklidfmfaaGreatDoor.E
/- Regions of open order whose writes stand in a chain: what may change places with a write does not look at what it writes. Conditions: those of each lemma. -/
namespace Go.Proofs.YtonbkdklidfmfaaGreatDoor.E
set_option linter.unusedVariables false
set_option linter.unusedSimpArgs false
variable {P : Program} {w : World} {F : Nat → Prop} {ρ : yd} {Ow : Own} {h : Heap} {pol : Pol} {rec : Rec} {f : Nat} {N : Option Nat} {ops : Array Oper}
theorem fT {o : Oper} (h1 : yI pol f o = true) (h2 : okK pol f o = true) : False := by
 obtain ⟨dst, op, ty, pos, after, guard⟩ := o
 cases op with
 | call c =>
  obtain ⟨callee, args, tys⟩ := c
  cases callee with
  | builtin b => cases b <;> simp [yI, okK] at h1 h2
  | value x => cases hp : pol.pm f (dst.getD 0) <;> simp [yI, okK, hp] at h1 h2
  | invoke r m => simp [okK] at h2
 | _ => simp [yI, okK] at h1 h2
theorem dY {o : Oper} (hn : yI pol f o = true) {e : Env} : xz P pol rec f o e h = none := by
 obtain ⟨dst, op, ty, pos, after, guard⟩ := o
 cases op with
 | call c =>
  obtain ⟨callee, args, tys⟩ := c
  cases callee with
  | builtin b => cases b <;> simp [yI] at hn <;> simp [xz]
  | value x =>
   simp only [yI] at hn
   unfold xz
   simp only
   split
   · split
     · rename_i hp; rw [hp] at hn; cases hn
     · rename_i hp; rw [hp] at hn; cases hn
     · rfl
   · rfl
  | invoke r m => simp [yI] at hn
 | _ => first | rfl | simp [yI] at hn
theorem qz {o : Oper} (hn : yI pol f o = true) {e : Env} : u6 P pol rec f o e h = zX P pol rec f none o e h := by
 unfold u6
 rw [dY hn]
 split <;> rfl
/-- one operation's value -/
def sT (P : Program) (pol : Pol) (rec : Rec) (f : Nat) (ops : Array Oper) (o : Oper) (e : Env) (h : Heap) : Option (V × Heap) :=
 match want ops o e with
 | some true => u6 P pol rec f o e h
 | some false => some (.und, h)
 | none => none
theorem jh (o : Oper) (e : Env) : wZ P pol rec f ops o e h = match sT P pol rec f ops o e h with | some (v, h') => some (put e o.dst v, h') | none => none := by
 unfold wZ sT
 cases want ops o e with
 | none => rfl
 | some b => cases b with
  | false => rfl
  | true => simp only; cases u6 P pol rec f o e h <;> rfl
theorem gx {o : Oper} (hn : okK pol f o = true) {e e' : Env} (hs : wP ops o e e') : xz P pol rec f o e h = xz P pol rec f o e' h := by
 have ho : ∀ {x : Operand}, x ∈ o.op.operands → ∀ ty, opv P e ty x = opv P e' ty x := fun hx ty => hs.opv ty hx
 obtain ⟨dst, op, ty, pos, after, guard⟩ := o
 cases op with
 | buildSlice t len parts =>
  simp only [xz]
  cases zZ P t with
  | none => rfl
  | some el => simp only; rw [vQ _ parts.toList fun x hx t => ho (by simp only [Op.operands, List.mem_toArray]; exact hx) t]
 | makeSlice t l c => simp only [xz, ho (x := l) (by simp [Op.operands]), ho (x := c) (by simp [Op.operands])]
 | call c =>
  obtain ⟨callee, args, tys⟩ := c
  cases callee with
  | builtin b =>
   simp only [xz]
   rw [wG args.toList tys.toList fun y hy ty => ho (by simpa [Op.operands, Call.operands] using hy) ty]
  | value x =>
   simp only [xz]
   rw [wG args.toList tys.toList fun y hy ty => ho (by simp [Op.operands, Call.operands]; right; simpa using hy) ty, ho (x := x) (by simp [Op.operands, Call.operands])]
  | invoke r m => rfl
 | _ => rfl
theorem gF {o : Oper} (hn : okK pol f o = true) {e e' : Env} (hs : wP ops o e e') : zX P pol rec f N o e h = zX P pol rec f N o e' h := by
 by_cases hsf : soft pol f o = true
 · exact qy hsf hs
 · obtain ⟨dst, op, ty, pos, after, guard⟩ := o
   cases op with
   | call c =>
    obtain ⟨callee, args, tys⟩ := c
    cases callee with
    | builtin b => cases b <;> simp [okK, soft, yI, xJ] at hn hsf
    | value x =>
     have ho : opv P e 0 x = opv P e' 0 x := hs.opv 0 (by simp [Op.operands, Call.operands])
     simp only [zX, ho]
     cases fnV (opv P e' 0 x) with
     | none => rfl
     | some y =>
      simp only [okK] at hn
      have hargs : yw P e args.toList tys.toList = yw P e' args.toList tys.toList := wG args.toList tys.toList fun y hy ty => hs.opv ty (by simp [Op.operands, Call.operands]; right; simpa using hy)
      cases hp : pol.pm f (dst.getD 0) <;> simp [hp] at hn
      · simp only [wy, hp, hargs]
      · simp only [wy, hp]
    | invoke r m => simp [okK] at hn
   | _ => simp [okK, soft, yI, xJ] at hn hsf
theorem tg {o : Oper} (hn : yI pol f o = true ∨ okK pol f o = true) {e e' : Env} (hs : wP ops o e e') : sT P pol rec f ops o e h = sT P pol rec f ops o e' h := by
 unfold sT
 rw [nO hs]
 rcases hn with hn | hn
 · rw [qz hn, qz hn, qy (by simp [soft, hn]) hs]
 · unfold u6
   rw [gx hn hs, gF hn hs]
theorem bJ {o : Oper} (hn : yI pol f o = true) {e : Env} : sT P pol rec f ops o e h = ev1 P pol rec f none ops o e h := by
 unfold sT ev1; rw [qz hn]
 all_goals rfl
/-- new rows behind, what was not named as it was -/
def vT (fp : List Nat) (h h1 : Heap) : Prop := ∀ r, r < h.length → r ∉ fp → h1[r]? = h[r]?
theorem vT.app {fp : List Nat} {k : Heap} : vT fp h (h ++ k) := fun r hr _ => List.getElem?_append_left hr
theorem vT.loc {fp : List Nat} {h1 h2 : Heap} {k : Heap} (hl : h1.length = h.length) (hk : vT fp h h1) (e : h2 = h1 ++ k) : vT fp h h2 := fun r hr hn => by
 rw [e, List.getElem?_append_left (by omega)]; exact hk r hr hn
theorem WY {g : Nat} {args : List V} {v : V} {h1 : Heap} (hev : pT rec g args h = some (v, h1)) {fp : List Nat} : vT fp h h1 := by
 unfold pT at hev
 split at hev
 · split at hev
   · split at hev
     · unfold yZ at hev
       split at hev
       · cases hev
       · cases hev
         simp only [z6]
         exact vT.app
     · cases hev
   · cases hev
 · cases hev
theorem jz {ty tx : TypeId} {s x v : V} {h h1 : Heap} (hev : yB P ty tx s x h = some (v, h1)) {fp : List Nat} (hs : ∀ r ∈ refs s, r ∈ fp) : vT fp h h1 := by
 unfold yB at hev
 split at hev
 · split at hev
   · rename_i r off len cap r2 off2 len2 cap2
     split at hev
     · split at hev
       · cases hev
         refine vT.loc (h1 := h.set r .dead) (by simp) (fun k hk hn => ?_) rfl
         exact List.getElem?_set_ne fun e : r = k => hn (hs k (by simp [refs, e]))
       · cases hev
     · cases hev
   · cases hev
 · cases hev
theorem j4 {dst : Option Nat} {cl : Callee} {args : Array Operand} {tys : Array TypeId} {ty : TypeId} {pos : String} {after : Array Edge} {guard : Option (Nat × Bool)} {e : Env} {s : V} {r : Nat} (hm : s ∈ yw P e args.toList tys.toList) (hr : r ∈ refs s) :
 r ∈ yz none ⟨dst, .call ⟨cl, args, tys⟩, ty, pos, after, guard⟩ e h := by
 have hx : ∀ (xs : List Operand) (ts : List TypeId), s ∈ yw P e xs ts → ∃ x ∈ xs, ∃ t, s = opv P e t x := by
  intro xs
  induction xs with
  | nil => intro ts h; simp [yw] at h
  | cons y ys ih =>
   intro ts h
   cases ts with
   | nil =>
    simp only [yw, List.mem_cons] at h
    rcases h with h | h
    · exact ⟨y, by simp, 0, h⟩
    · obtain ⟨x, h1, t, h2⟩ := ih [] h; exact ⟨x, by simp [h1], t, h2⟩
   | cons t ts =>
    simp only [yw, List.mem_cons] at h
    rcases h with h | h
    · exact ⟨y, by simp, t, h⟩
    · obtain ⟨x, h1, t, h2⟩ := ih ts h; exact ⟨x, by simp [h1], t, h2⟩
 obtain ⟨x, h1, t, rfl⟩ := hx _ _ hm
 refine sN (P := P) (ty := t) ?_ hr
 cases cl <;> simp [Op.operands, Call.operands] <;> first | exact .inr (by simpa using h1) | simpa using h1
theorem Ys {sz : Nat} {zs : List V} {r off len : Nat} {v : V} {h1 : Heap} (hc : yG sz zs r off len h = some (v, h1)) {fp : List Nat} (hs : r ∈ fp) : vT fp h h1 := by
 have key : ∀ b, h1 = h.set r b → vT fp h h1 := fun b e k hk hn => by
  rw [e]; exact List.getElem?_set_ne fun e' : r = k => hn (e' ▸ hs)
 unfold yG at hc
 split at hc
 · split at hc
   · split at hc
     · cases hc; exact key _ rfl
     · cases hc
   · cases hc
 · split at hc
   · cases hc; exact key _ rfl
   · cases hc
 · cases hc
theorem Yr {t : TypeId} {x v : V} {h1 : Heap} (hc : yA P t x h = some (v, h1)) {fp : List Nat} (hs : ∀ r ∈ refs x, r ∈ fp) : vT fp h h1 := by
 unfold yA at hc
 split at hc
 · split at hc
   · cases hc; exact fun r _ _ => rfl
   · split at hc
     · exact Ys hc (hs _ (by simp [refs]))
     · cases hc
   · cases hc
 · cases hc
theorem We {o : Oper} (hn : okK pol f o = true) {e : Env} {v : V} {h1 : Heap} (hev : xz P pol rec f o e h = some (v, h1)) : vT (yz none o e h) h h1 := by
 have hf : ∀ {x : Operand} {ty : TypeId}, x ∈ o.op.operands → ∀ r ∈ refs (opv P e ty x), r ∈ yz none o e h := fun hx r hr => sN hx hr
 obtain ⟨dst, op, ty, pos, after, guard⟩ := o
 cases op with
 | buildSlice t len parts =>
  simp only [xz] at hev
  (repeat' split at hev) <;> first | (cases hev; done) | (cases hev; exact vT.app)
 | makeSlice t l c =>
  simp only [xz] at hev
  (repeat' split at hev) <;> first | (cases hev; done) | (cases hev; exact vT.app)
 | call c =>
  obtain ⟨callee, args, tys⟩ := c
  cases callee with
  | builtin b =>
   simp only [xz] at hev
   split at hev
   · rename_i s x t u ha ht
     have hs : ∀ r ∈ refs s, r ∈ yz none ⟨dst, .call ⟨.builtin .append, args, tys⟩, ty, pos, after, guard⟩ e h := fun r hr => by
      have hm : s ∈ yw P e args.toList tys.toList := by rw [ha]; simp
      have : r ∈ refs.refss (yw P e args.toList tys.toList) := by rw [ha]; simp [refs.refss, hr]
      unfold yz
      refine List.mem_append.2 (.inr (o9 ?_))
      have hx : ∀ (xs : List Operand) (ts : List TypeId), r ∈ refs.refss (yw P e xs ts) → r ∈ za e xs := by
       intro xs
       induction xs with
       | nil => intro ts h; simp [yw, refs.refss] at h
       | cons y ys ih =>
        intro ts h
        have key : ∀ (ty : TypeId) ts', r ∈ refs (opv P e ty y) ∨ r ∈ refs.refss (yw P e ys ts') → r ∈ za e (y :: ys) := fun ty ts' h => by
         rcases h with h | h
         · obtain ⟨t, rfl, ht⟩ := sG h
           exact xV ht (by simp)
         · have := ih ts' h
           cases y <;> simp only [za] <;> first | exact this | exact List.mem_append.2 (.inr this)
        cases ts with
        | nil => simp only [yw, refs.refss, List.mem_append] at h; exact key 0 [] h
        | cons t ts => simp only [yw, refs.refss, List.mem_append] at h; exact key t ts h
      have := hx _ _ this
      simpa [Op.operands, Call.operands] using this
     unfold yH at hev
     split at hev
     · rename_i sz
       have hk := jz (fp := [h.length]) hev (fun r hr => by simpa [refs] using hr)
       intro r hr hn
       have := hk r (by simp; omega) (by simp; omega)
       rw [this, List.getElem?_append_left hr]
     · exact jz hev hs
   · rename_i x t ha ht
     exact Yr hev fun r hr => j4 (s := x) (by rw [ha]; simp) hr
   · cases hev
  | value x =>
   simp only [xz] at hev
   split at hev
   · split at hev
     · exact WY hev
     · rename_i hp; simp [okK, hp] at hn
     · cases hev
   · cases hev
  | invoke r m => simp [xz] at hev
 | _ => simp [xz] at hev
theorem V6 {ty tx : TypeId} {s x v : V} {h1 : Heap} (hc : app P none ty tx s x h = some (v, h1)) {fp : List Nat} (hs : ∀ r ∈ refs s, r ∈ fp) : vT fp h h1 := by
 unfold app at hc
 split at hc
 · cases hc
 · split at hc
   · cases hc
   · split at hc
     · split at hc
       · cases hc; simp only [nH]; exact vT.app
       · cases hc
     · rename_i r off len cap
       split at hc
       · split at hc
         · cases hc
           simp only [nH]
           refine vT.loc (h1 := h.set r .dead) (by simp) (fun k hk hn => ?_) rfl
           exact List.getElem?_set_ne fun e : r = k => hn (hs k (by simp [refs, e]))
         · cases hc
       · cases hc
     · cases hc
theorem WZ {tys : List TypeId} {args : List V} {v : V} {h1 : Heap} (hc : blt P none .append tys args h = some (v, h1)) {fp : List Nat} (hs : ∀ s ∈ args, ∀ r ∈ refs s, r ∈ fp) : vT fp h h1 := by
 unfold blt at hc
 split at hc
 · rename_i hb; cases hb
 · split at hc
   · exact V6 hc (hs _ (by simp))
   · cases hc
 · rename_i hb; cases hb
 · rename_i hb; cases hb
 · cases hc
theorem lR {ids fp : List Nat} (hsub : ∀ r ∈ ids, r ∈ fp) {v v' : V} {h1' h1 : Heap} (hb : yZ none ids v h1' h = some (v', h1)) : vT fp h h1 := by
 unfold yZ at hb
 split at hb
 · cases hb
 · cases hb
   intro r hr hn
   rw [List.getElem?_append_left (by rw [xf]; exact hr), wH _ _ _ _ _ fun hx => absurd (hsub r hx) hn]
theorem fS {o : Oper} (hn : okK pol f o = true) {e : Env} {v : V} {h1 : Heap} (hev : zX P pol rec f none o e h = some (v, h1)) : vT (yz none o e h) h h1 := by
 have hf : ∀ {x : Operand} {ty : TypeId}, x ∈ o.op.operands → ∀ r ∈ refs (opv P e ty x), r ∈ yz none o e h := fun hx r hr => sN hx hr
 obtain ⟨dst, op, ty, pos, after, guard⟩ := o
 cases op with
 | alloc t =>
  simp only [zX] at hev
  (repeat' split at hev) <;> first | (cases hev; done) | (cases hev; exact vT.app)
 | box t x =>
  simp only [zX] at hev
  (repeat' split at hev) <;> first | (cases hev; done) | (cases hev; exact vT.app)
 | makeSlice t l c =>
  simp only [zX] at hev
  (repeat' split at hev) <;> first | (cases hev; done) | (cases hev; exact vT.app)
 | buildSlice t len parts =>
  simp only [zX] at hev
  split at hev
  · rename_i el hel
    split at hev
    · cases hev
    · split at hev
      · rename_i css hcs
        split at hev
        · rename_i es h' hg
          cases hev
          have hsub : ∀ r ∈ refs.refss css.flatten, r ∈ yz none ⟨dst, .buildSlice t len parts, ty, pos, after, guard⟩ e h := fun r hr => by
           obtain ⟨u, hu, hr2⟩ := qw hcs r hr
           obtain ⟨x, t', hx, rfl⟩ := qk hu
           exact hf (x := x) (ty := t') (by simp only [Op.operands, List.mem_toArray]; exact hx) r hr2
          obtain ⟨h3, g1, g2⟩ := qq (fp := yz none ⟨dst, .buildSlice t len parts, ty, pos, after, guard⟩ e h) rfl hsub (fun _ _ => rfl) hg
          refine vT.loc (h1 := h') g2.l1 (fun k hk hn => g2.off1 k hn) rfl
        · cases hev
      · cases hev
  · cases hev
 | call c =>
  obtain ⟨callee, args, tys⟩ := c
  cases callee with
  | builtin b =>
   cases b <;> simp [okK] at hn
   simp only [zX] at hev
   exact WZ hev fun s hm r hr => j4 hm hr
  | value x =>
   simp only [okK] at hn
   simp only [zX] at hev
   split at hev
   · rename_i g caps hg
     cases hp : pol.pm f (dst.getD 0) <;> simp [hp] at hn
     · simp only [wy, hp] at hev
       have hsub : ∀ r ∈ xr h (yw P e args.toList tys.toList ++ caps), r ∈ yz none ⟨dst, .call ⟨.value x, args, tys⟩, ty, pos, after, guard⟩ e h := fun r hr => by
        unfold yz pO
        rw [if_pos (by simp [qL])]
        refine List.mem_append.2 (.inr (qh h 3 _ _ (fun k hk => ?_) r hr))
        rw [w7] at hk ⊢
        rcases hk with hk | hk
        · cases hk
        · exact .inr (by simpa [Op.operands, Call.operands] using oq hg k hk)
       split at hev
       · rename_i v' h1' hr
         exact lR hsub hev
       · cases hev
     · simp only [wy, hp] at hev
       cases hev
   · cases hev
  | invoke r m => simp [okK] at hn
 | _ => simp [okK] at hn
theorem bL {o : Oper} (hn : okK pol f o = true) {e : Env} {v : V} {h1 : Heap} (hev : sT P pol rec f ops o e h = some (v, h1)) : vT (yz none o e h) h h1 := by
 unfold sT at hev
 split at hev
 · unfold u6 at hev
   split at hev
   · split at hev
     · rename_i r hr; cases hev; exact We hn hr
     · exact fS hn hev
   · exact fS hn hev
 · cases hev; exact fun r _ _ => rfl
 · cases hev
theorem sC {o : Oper} (hn : yI pol f o = true) {e : Env} {v : V} {h' : Heap} (hev : sT P pol rec f ops o e h = some (v, h')) : h' = h := by
 rw [bJ hn] at hev; exact pw hn hev
theorem bK {o : Oper} (hn : yI pol f o = true) {e : Env} {h2 : Heap} (ha : ∀ r ∈ yz none o e h, h2[r]? = h[r]?) {v : V} (hev : sT P pol rec f ops o e h = some (v, h)) : sT P pol rec f ops o e h2 = some (v, h2) := by
 rw [bJ hn] at hev ⊢
 unfold ev1 at hev ⊢
 split at hev
 · exact fY hn ha hev
 · cases hev; rfl
 · cases hev
theorem T7 {a b : Oper} (hap : a.apart ops b = true) {e : Env} {va vb : V} {h1 h2 : Heap}
 (hc : (yI pol f a = true ∧ yI pol f b = true) ∨ (yI pol f a = true ∧ okK pol f b = true ∧ ∀ r ∈ yz none a e h, r < h.length ∧ r ∉ yz none b (put e a.dst va) h1) ∨
  (okK pol f a = true ∧ yI pol f b = true ∧ ∀ r ∈ yz none b (put e a.dst va) h1, r < h.length ∧ r ∉ yz none a e h))
 (h1e : sT P pol rec f ops a e h = some (va, h1)) (h2e : sT P pol rec f ops b (put e a.dst va) h1 = some (vb, h2)) :
 ∃ h3, sT P pol rec f ops b e h = some (vb, h3) ∧ sT P pol rec f ops a (put e b.dst vb) h3 = some (va, h2) ∧ yz none b e h = yz none b (put e a.dst va) h1 ∧ yz none a (put e b.dst vb) h3 = yz none a e h ∧
  (yI pol f b = true ∨ h.length = h1.length) ∧ (yI pol f a = true ∨ h3.length = h.length) := by
 obtain ⟨k1, k2, k3⟩ := Oper.apart_spec hap
 have s1 : wP ops b (put e a.dst va) e := fun t ht => ny fun hx => k1 t hx ht
 have s2 : wP ops a (put e b.dst vb) e := fun t ht => ny fun hx => k3 t hx ht
 rw [vh s1] at hc ⊢
 rcases hc with ⟨hna, hnb⟩ | ⟨hna, hkb, hd⟩ | ⟨hka, hnb, hd⟩
 · have e1 := sC hna h1e
   subst e1
   have e2 := sC hnb h2e
   subst e2
   rw [tg (.inl hnb) s1] at h2e
   exact ⟨h2, h2e, by rw [tg (.inl hna) s2]; exact h1e, rfl, vh s2, .inl hnb, .inl hna⟩
 · have e1 := sC hna h1e
   subst e1
   rw [tg (.inr hkb) s1] at h2e
   have hk := bL hkb h2e
   have ag : ∀ r ∈ yz none a e h1, h2[r]? = h1[r]? := fun r hr => hk r (hd r hr).1 (hd r hr).2
   exact ⟨h2, h2e, by rw [tg (.inl hna) s2]; exact bK hna ag h1e, rfl, (vh s2).trans (pr ag), .inr rfl, .inl hna⟩
 · have e2 := sC hnb h2e
   subst e2
   rw [tg (.inl hnb) s1] at h2e
   have hk := bL hka h1e
   have ag : ∀ r ∈ yz none b e h2, h[r]? = h2[r]? := fun r hr => (hk r (hd r hr).1 (hd r hr).2).symm
   exact ⟨h, bK hnb ag h2e, by rw [tg (.inr hka) s2]; exact h1e, pr ag, vh s2, .inl hnb, .inr rfl⟩
/-- the operations at places; of each, what was noted of it -/
def evY (P : Program) (pol : Pol) (rec : Rec) (f : Nat) (ops : Array Oper) (fp : Nat → List Nat) : List Nat → Env → Heap → Option (Env × Heap)
 | [], e, h => some (e, h)
 | i :: rest, e, h => match ops[i]? with
  | some o => if yz none o e h = (fp i).tail ∧ (yI pol f o = true ∨ (fp i).head? = some h.length) then (match sT P pol rec f ops o e h with
   | some (v, h') => evY P pol rec f ops fp rest (put e o.dst v) h'
   | none => none) else none
  | none => none
def ChgY (pol : Pol) (f : Nat) (ops : Array Oper) (fp : Nat → List Nat) (i j : Nat) : Prop :=
 ∀ oi oj, ops[i]? = some oi → ops[j]? = some oj → oi.apart ops oj = true ∧
  ((yI pol f oi = true ∧ yI pol f oj = true) ∨ (yI pol f oi = true ∧ okK pol f oj = true ∧ bQ (fp i) (fp j) = true) ∨ (okK pol f oi = true ∧ yI pol f oj = true ∧ bQ (fp j) (fp i) = true))
theorem fy {rs ws fa fb : List Nat} {n : Nat} (hs : bQ rs ws = true) (ha : fa = rs.tail) (hb : fb = ws.tail) (hn : ws.head? = some n) : ∀ r ∈ fa, r < n ∧ r ∉ fb := by
 subst ha hb
 cases rs with
 | nil => simp [bQ] at hs
 | cons x fs =>
  cases ws with
  | nil => simp at hn
  | cons k ws =>
   simp only [List.head?_cons, Option.some.injEq] at hn
   subst hn
   simp only [bQ, List.all_eq_true, Bool.and_eq_true, decide_eq_true_eq, Bool.not_eq_true', List.tail_cons] at hs ⊢
   intro r hr
   obtain ⟨h1, h2⟩ := hs r hr
   exact ⟨h1, fun hm => by simp [hm] at h2⟩
theorem je {fp : Nat → List Nat} {i : Nat} (B : List Nat) : ∀ (A : List Nat), (∀ j ∈ A, ChgY pol f ops fp j i) → ∀ {h : Heap} {e : Env} {r : Env × Heap},
 evY P pol rec f ops fp (A ++ i :: B) e h = some r → evY P pol rec f ops fp (i :: (A ++ B)) e h = some r
 | [], _, h, e, r, hev => hev
 | j :: A, hA, h, e, r, hev => by
  simp only [List.cons_append, evY] at hev
  split at hev
  · rename_i oj hoj
    split at hev
    · rename_i hfj
      split at hev
      · rename_i va h1 h1e
        have h2 := je B A (fun k hk => hA k (by simp [hk])) hev
        simp only [evY] at h2
        split at h2
        · rename_i oi hoi
          split at h2
          · rename_i hfi
            split at h2
            · rename_i vb h2' h2e
              obtain ⟨c1, c2⟩ := hA j (by simp) oj oi hoj hoi
              obtain ⟨k1, k2, k3⟩ := Oper.apart_spec c1
              have c3 : (yI pol f oj = true ∧ yI pol f oi = true) ∨ (yI pol f oj = true ∧ okK pol f oi = true ∧ ∀ r ∈ yz none oj e h, r < h.length ∧ r ∉ yz none oi (put e oj.dst va) h1) ∨
               (okK pol f oj = true ∧ yI pol f oi = true ∧ ∀ r ∈ yz none oi (put e oj.dst va) h1, r < h.length ∧ r ∉ yz none oj e h) := by
               rcases c2 with c2 | ⟨c2, c4, c5⟩ | ⟨c2, c4, c5⟩
               · exact .inl c2
               · have e1 := sC c2 h1e
                 subst e1
                 rcases hfi.2 with hx | hx
                 · exact (fT hx c4).elim
                 · exact .inr (.inl ⟨c2, c4, fy c5 hfj.1 hfi.1 hx⟩)
               · rcases hfj.2 with hx | hx
                 · exact (fT hx c2).elim
                 · exact .inr (.inr ⟨c2, c4, fy c5 hfi.1 hfj.1 hx⟩)
              obtain ⟨h3, g1, g2, g3, g4, g5, g6⟩ := T7 c1 c3 h1e h2e
              have f1 : yz none oi e h = (fp i).tail ∧ (yI pol f oi = true ∨ (fp i).head? = some h.length) := ⟨by rw [g3]; exact hfi.1, by
               rcases g5 with g5 | g5
               · exact .inl g5
               · rw [g5]; exact hfi.2⟩
              have f2 : yz none oj (put e oi.dst vb) h3 = (fp j).tail ∧ (yI pol f oj = true ∨ (fp j).head? = some h3.length) := ⟨by rw [g4]; exact hfj.1, by
               rcases g6 with g6 | g6
               · exact .inl g6
               · rw [g6]; exact hfj.2⟩
              simp only [evY, hoi, g1, List.cons_append, hoj, g2]
              rw [if_pos f1, if_pos f2, ← fF e va vb k2]
              exact h2
            · cases h2
          · cases h2
        · cases h2
      · cases hev
    · cases hev
  · cases hev
theorem Sy {W0 : World} (hrec : xX P W0 rec) {n : Nat} (hdst : pP n ops = true) (hpairs : nz ops = true) {fp : Nat → List Nat}
 (hchg : ∀ i j oj, i < j → ops[j]? = some oj → ¬ Path ops i j → ChgY pol f ops fp i j) {Q : Exit → Act → World → Prop} :
 ∀ (fuel : Nat) (R : List Nat) (listed : Array Bool) {w : World} {F : Nat → Prop} {ρ : yd} {h : Heap} {e e' : Env} {h' : Heap} {a : Act}, R.length = fuel → R.Pairwise (· < ·) → listed.size = ops.size → (∀ i, i ∈ R ↔ i < ops.size ∧ listed.getD i true = false) →
  (∀ k ok, listed.getD k false = true → ops[k]? = some ok → ∀ ed ∈ ok.after, Region.binds .any ed = true → listed.getD ed.on false = true) →
  evY P pol rec f ops fp R e h = some (e', h') → vo W0 w F → St w F ρ Ow h → OkC Ow w → RE w F ρ a e → a.tmps.size = n → a.defers = [] → qG Ow w F ρ n e' h' (Q .normal) → wpAny P .any ops Q fuel listed a w := by
 intro fuel
 induction fuel with
 | zero =>
  intro R listed w F ρ h e e' h' a hl hs hsz hR hcl hev hB hS hO he hn hd hK
  have : R = [] := List.eq_nil_of_length_eq_zero hl
  subst this
  simp only [evY] at hev
  cases hev
  refine ⟨?_, hK a w F ρ he hS (Nxt.refl _ _ _ _) hn hd⟩
  apply List.eq_nil_iff_forall_not_mem.2
  intro j hj
  obtain ⟨hju, oj, hoj, _⟩ := mem_ready.1 hj
  have := (hR j).2 ⟨(Array.getElem?_eq_some_iff.1 hoj).1, hju⟩
  cases this
 | succ fuel ih =>
  intro R listed w F ρ h e e' h' a hl hs hsz hR hcl hev hB hS hO he hn hd hK
  refine ⟨fun hnil => ?_, fun i hi => ?_⟩
  · exfalso
    cases R with
    | nil => simp at hl
    | cons j R =>
     obtain ⟨hj1, hj2⟩ := (hR j).1 (by simp)
     obtain ⟨oj, hoj⟩ : ∃ o, ops[j]? = some o := ⟨_, Array.getElem?_eq_getElem hj1⟩
     have : j ∈ Region.ready .any ops listed := mem_ready.2 ⟨hj2, oj, hoj, fun ed hed hb => by
      have hlt := (ud hpairs hoj).1 ed hed hb
      cases hx : listed.getD ed.on false with
      | true => rfl
      | false =>
       have hx' : listed.getD ed.on true = false := by
        simp only [Array.getD_eq_getD_getElem?] at hx ⊢
        have hin : ed.on < listed.size := by omega
        simp [hin] at hx ⊢; exact hx
       have := (hR ed.on).2 ⟨by omega, hx'⟩
       rcases List.mem_cons.1 this with h1 | h1
       · omega
       · have := (List.pairwise_cons.1 hs).1 _ h1; omega⟩
     rw [hnil] at this
     cases this
  · obtain ⟨hiu, oi, hoi, hall'⟩ := mem_ready.1 hi
    have hmem := (hR i).2 ⟨(Array.getElem?_eq_some_iff.1 hoi).1, hiu⟩
    obtain ⟨A, B, rfl⟩ := List.append_of_mem hmem
    have hpw := List.pairwise_append.1 hs
    have hnA : i ∉ A := fun h1 => by have := hpw.2.2 i h1 i (by simp); omega
    have hnB : i ∉ B := fun h1 => by have := (List.pairwise_cons.1 hpw.2.1).1 i h1; omega
    have hfront := je (P := P) (rec := rec) (fp := fp) B A (fun j hj => by
     obtain ⟨hj1, hj2⟩ := (hR j).1 (by simp [hj])
     refine hchg j i oi (hpw.2.2 j hj i (by simp)) hoi fun hpt => ?_
     have h1 := oG hcl hpt fun ox hox ed hed hb => by
      rw [hoi] at hox; cases hox; exact hall' ed hed hb
     simp only [Array.getD_eq_getD_getElem?] at h1 hj2
     have hin : j < listed.size := by omega
     simp [hin] at h1 hj2
     rw [hj2] at h1; cases h1) hev
    simp only [evY, hoi] at hfront
    split at hfront
    rotate_left
    · cases hfront
    split at hfront
    · rename_i v1 h1 h1ev
      refine af hB hrec hoi (by rw [jh, h1ev]) hS hO he hn hd hdst fun a' w' F' ρ' k1 k2 k3 k4 k5 => ?_
      have hcl' : ∀ k ok, (listed.setIfInBounds i true).getD k false = true → ops[k]? = some ok → ∀ ed ∈ ok.after, Region.binds .any ed = true → (listed.setIfInBounds i true).getD ed.on false = true := fun k ok hk hok ed hed hb => by
       have key : listed.getD ed.on false = true := by
        by_cases hki : k = i
        · subst hki
          rw [hoi] at hok; cases hok
          exact hall' ed hed hb
        · rw [getD_set_ne false (Ne.symm hki)] at hk
          exact hcl k ok hk hok ed hed hb
       by_cases hei : ed.on = i
       · rw [hei] at key ⊢
         simp only [Array.getD_eq_getD_getElem?] at key ⊢
         by_cases hin : i < listed.size
         · simp [hin]
         · simp [hin] at key
       · rw [getD_set_ne false (Ne.symm hei)]; exact key
      refine ih (A ++ B) (listed.setIfInBounds i true) (by simp at hl ⊢; omega) ?_ (by simpa using hsz) (fun j => ?_) hcl' hfront (hB.next k3) k2 (hO.mono k3.size) k1 k4 k5 (hK.step k3)
      · refine List.pairwise_append.2 ⟨hpw.1, (List.pairwise_cons.1 hpw.2.1).2, fun x hx y hy => hpw.2.2 x hx y (by simp [hy])⟩
      · by_cases hji : j = i
        · subst hji
          constructor
          · intro hj
            exfalso
            rcases List.mem_append.1 hj with h1 | h1
            · exact hnA h1
            · exact hnB h1
          · rintro ⟨hj1, hj2⟩
            exfalso
            have hin : j < listed.size := by omega
            simp [Array.getD_eq_getD_getElem?, hin] at hj2
        · rw [getD_set_ne true (Ne.symm hji), ← hR j]
          simp [hji]
    · cases hfront
theorem Zd {fp : Nat → List Nat} : ∀ (l : List Nat) (os : List Oper) {rs : List (List Nat)} {e e' : Env} {h h' : Heap}, l.map (ops[·]?) = os.map some → evR P pol rec f ops os e h = some (rs, e', h') → l.map fp = rs → evY P pol rec f ops fp l e h = some (e', h')
 | [], [], rs, e, e', h, h', _, hev, _ => by simp only [evR] at hev; cases hev; rfl
 | i :: l, o :: os, rs, e, e', h, h', ho, hev, hf => by
  simp only [List.map_cons, List.cons.injEq] at ho
  simp only [evR] at hev
  rw [jh] at hev
  cases h1 : sT P pol rec f ops o e h with
  | none => simp [h1] at hev
  | some x =>
   obtain ⟨v, hx⟩ := x
   simp only [h1] at hev
   split at hev
   · rename_i rs' e'' h'' h2
     cases hev
     simp only [List.map_cons, List.cons.injEq] at hf
     simp only [evY, ho.1, hf.1, List.tail_cons, List.head?_cons, or_true, and_self, if_true, h1]
     exact Zd l os ho.2 h2 hf.2
   · cases hev
 | [], _ :: _, rs, e, e', h, h', ho, hev, hf => by simp at ho
 | _ :: _, [], rs, e, e', h, h', ho, hev, hf => by simp at ho
theorem Zc : ∀ (os : List Oper) {rs : List (List Nat)} {e e' : Env} {h h' : Heap}, evR P pol rec f ops os e h = some (rs, e', h') → rs.length = os.length
 | [], rs, e, e', h, h', hev => by simp only [evR] at hev; cases hev; rfl
 | o :: os, rs, e, e', h, h', hev => by
  simp only [evR] at hev
  split at hev
  · split at hev
    · rename_i rs' e'' h'' h2
      cases hev
      simp [Zc os h2]
    · cases hev
  · cases hev
/-- a region of open order whose writes stand in a chain -/
theorem WA {W0 : World} (hB : vo W0 w F) (hrec : xX P W0 rec) {n : Nat} (hdst : pP n ops = true) (hok : oz P ops = true) {id : Nat} {Q : Exit → Act → World → Prop} {e e' : Env} {h' : Heap} {a : Act}
 (hev : evZ P pol rec f ops e h = some (e', h')) (hS : St w F ρ Ow h)
 (hO : OkC Ow w) (he : RE w F ρ a e) (hn : a.tmps.size = n) (hd : a.defers = []) (hK : qG Ow w F ρ n e' h' (Q .normal)) : (Code.region id ops true).wp P Q a w := by
 simp only [oz, Bool.and_eq_true] at hok
 obtain ⟨hm, hpairs⟩ := hok
 obtain ⟨hS1, hN⟩ := l0 hS
 have hO1 : OkC Ow w.drew := hO.mono (Nat.le_refl _)
 have hops : (List.range ops.size).map (ops[·]?) = ops.toList.map some := pZ ops
 have hlast : ∀ i, i ∈ List.range ops.size ↔ i < ops.size ∧ (Array.replicate ops.size false).getD i true = false := fun i => by
  simp only [List.mem_range]
  constructor
  · intro hi; exact ⟨hi, by simp [Array.getD_eq_getD_getElem?, hi]⟩
  · exact fun hi => hi.1
 unfold evZ at hev
 split at hev
 · rename_i rs e1 h1 hR
   split at hev
   · rename_i hz
     cases hev
     have hl := Zc _ hR
     have hE := Zd (fp := fun i => rs.getD i []) (List.range ops.size) _ hops hR (by
      rw [show ops.size = rs.length by simpa using hl.symm]; exact range_map_get rs [])
     refine wp_region_any hm (Sy (w := w.drew) hrec hdst hpairs (fp := fun i => rs.getD i []) (fun i j oj hij hoj hnp oi oj' hoi hoj' => ?_) ops.size (List.range ops.size) (Array.replicate ops.size false) (by simp) List.pairwise_lt_range (by simp) hlast (fun k ok hk => by simp only [Array.getD_eq_getD_getElem?, Array.getElem?_replicate] at hk; split at hk <;> simp at hk) hE (hB.next hN) hS1 hO1 (hN.re he) hn hd (hK.step hN))
     rw [hoj] at hoj'; cases hoj'
     have hno : ∀ e ∈ oj.after, Region.binds .any e = true → e.on ≠ i := fun e he hb heq => hnp (.dir hoj he hb heq)
     have hlt : j < ops.size := (Array.getElem?_eq_some_iff.1 hoj).1
     have h2 := List.all_eq_true.1 hz j (List.mem_range.2 hlt)
     simp only [hoj, List.all_eq_true, List.mem_range] at h2
     have h3 := h2 i hij
     simp only [hoi, SN, Bool.or_eq_true, Bool.and_eq_true] at h3
     refine ⟨(ud hpairs hoj).2 i oi hij hoi hno, ?_⟩
     rcases h3 with h3 | h3 | h3 | h3
     · exact absurd (iB 8 j h3) hnp
     · exact .inl h3
     · exact .inr (.inl ⟨h3.1.1, h3.1.2, h3.2⟩)
     · exact .inr (.inr ⟨h3.1.1, h3.1.2, h3.2⟩)
   · cases hev
 · cases hev
end Go.Proofs.YtonbkdklidfmfaaGreatDoor.E
