/- Joined: E12X E13 E14 E15. Conditions: those of each lemma. -/
import Derived.Test.YtmcephnfcciloaaGreatDoorUD
import Derived.ProofKit
import Derived.ReadAgain
import Derived.ChangeSame
set_option linter.unusedVariables false
set_option linter.unusedSimpArgs false
namespace Go.Proofs.YtmcephnfcciloaaGreatDoor.E
set_option linter.unusedVariables false
set_option linter.unusedSimpArgs false
variable {P : Program} {w : World} {F : Nat → Prop} {ρ : ym} {Ow : Own} {h : Heap} {pol : Pol} {rec : Rec} {f : Nat} {N : Option Nat} {ops : Array Oper}
theorem gK {o : Oper} (h1 : yB pol f o = true) (h2 : okK pol f o = true) : False := by
  obtain ⟨dst, op, ty, pos, after, guard⟩ := o
  cases op with
  | call c =>
    obtain ⟨callee, args, tys⟩ := c
    cases callee with
    | builtin b => cases b <;> simp [yB, okK] at h1 h2
    | value x => cases hp : pol.pm f (dst.getD 0) <;> simp [yB, okK, hp] at h1 h2
    | invoke r m => simp [okK] at h2
  | _ => simp [yB, okK] at h1 h2
theorem eW {o : Oper} (hn : yB pol f o = true) {e : Env} : xa P pol rec f o e h = none := by
  obtain ⟨dst, op, ty, pos, after, guard⟩ := o
  cases op with
  | call c =>
    obtain ⟨callee, args, tys⟩ := c
    cases callee with
    | builtin b => cases b <;> simp [yB] at hn <;> simp [xa]
    | value x =>
      simp only [yB] at hn
      unfold xa
      simp only
      split
      · split
        · rename_i hp; rw [hp] at hn; cases hn
        · rfl
      · rfl
    | invoke r m => simp [yB] at hn
  | _ => first | rfl | simp [yB] at hn
theorem rr {o : Oper} (hn : yB pol f o = true) {e : Env} : vy P pol rec f o e h = yc P pol rec f none o e h := by
  unfold vy
  rw [eW hn]
  split <;> rfl
/-- one operation's value -/
def s8 (P : Program) (pol : Pol) (rec : Rec) (f : Nat) (ops : Array Oper) (o : Oper) (e : Env) (h : Heap) : Option (V × Heap) :=
  match want ops o e with
  | some true => vy P pol rec f o e h
  | some false => some (.und, h)
  | none => none
theorem ko (o : Oper) (e : Env) : wC P pol rec f ops o e h = match s8 P pol rec f ops o e h with | some (v, h') => some (put e o.dst v, h') | none => none := by
  unfold wC s8
  cases want ops o e with
  | none => rfl
  | some b => cases b with
    | false => rfl
    | true => simp only; cases vy P pol rec f o e h <;> rfl
theorem ig {o : Oper} (hn : okK pol f o = true) {e e' : Env} (hs : wP ops o e e') : xa P pol rec f o e h = xa P pol rec f o e' h := by
  have ho : ∀ {x : Operand}, x ∈ o.op.operands → ∀ ty, opv P e ty x = opv P e' ty x := fun hx ty => hs.opv ty hx
  obtain ⟨dst, op, ty, pos, after, guard⟩ := o
  cases op with
  | buildSlice t len parts =>
    simp only [xa]
    cases yg P t with
    | none => rfl
    | some el => simp only; rw [vk _ parts.toList fun x hx t => ho (by simp only [Op.operands, List.mem_toArray]; exact hx) t]
  | makeSlice t l c => simp only [xa, ho (x := l) (by simp [Op.operands]), ho (x := c) (by simp [Op.operands])]
  | call c =>
    obtain ⟨callee, args, tys⟩ := c
    cases callee with
    | builtin b =>
      simp only [xa]
      rw [wG args.toList tys.toList fun y hy ty => ho (by simpa [Op.operands, Call.operands] using hy) ty]
    | value x =>
      simp only [xa]
      rw [wG args.toList tys.toList fun y hy ty => ho (by simp [Op.operands, Call.operands]; right; simpa using hy) ty, ho (x := x) (by simp [Op.operands, Call.operands])]
    | invoke r m => rfl
  | _ => rfl
theorem im {o : Oper} (hn : okK pol f o = true) {e e' : Env} (hs : wP ops o e e') : yc P pol rec f N o e h = yc P pol rec f N o e' h := by
  by_cases hsf : soft pol f o = true
  · exact rq hsf hs
  · obtain ⟨dst, op, ty, pos, after, guard⟩ := o
    cases op with
    | call c =>
      obtain ⟨callee, args, tys⟩ := c
      cases callee with
      | builtin b => cases b <;> simp [okK, soft, yB, xK] at hn hsf
      | value x =>
        have ho : opv P e 0 x = opv P e' 0 x := hs.opv 0 (by simp [Op.operands, Call.operands])
        simp only [yc, ho]
        cases fnV (opv P e' 0 x) with
        | none => rfl
        | some y =>
          simp only [okK] at hn
          cases hp : pol.pm f (dst.getD 0) <;> simp [hp] at hn
          simp only [wO, hp]
      | invoke r m => simp [okK] at hn
    | _ => simp [okK, soft, yB, xK] at hn hsf
theorem uo {o : Oper} (hn : yB pol f o = true ∨ okK pol f o = true) {e e' : Env} (hs : wP ops o e e') : s8 P pol rec f ops o e h = s8 P pol rec f ops o e' h := by
  unfold s8
  rw [oO hs]
  rcases hn with hn | hn
  · rw [rr hn, rr hn, rq (by simp [soft, hn]) hs]
  · unfold vy
    rw [ig hn hs, im hn hs]
theorem cT {o : Oper} (hn : yB pol f o = true) {e : Env} : s8 P pol rec f ops o e h = ev1 P pol rec f none ops o e h := by
  unfold s8 ev1; rw [rr hn]
  all_goals rfl
/-- new rows behind, what was not named as it was -/
def uc (fp : List Nat) (h h1 : Heap) : Prop := ∀ r, r < h.length → r ∉ fp → h1[r]? = h[r]?
theorem uc.app {fp : List Nat} {k : Heap} : uc fp h (h ++ k) := fun r hr _ => List.getElem?_append_left hr
theorem uc.loc {fp : List Nat} {h1 h2 : Heap} {k : Heap} (hl : h1.length = h.length) (hk : uc fp h h1) (e : h2 = h1 ++ k) : uc fp h h2 := fun r hr hn => by
  rw [e, List.getElem?_append_left (by omega)]; exact hk r hr hn
theorem XT {g : Nat} {args : List V} {v : V} {h1 : Heap} (hev : qF rec g args h = some (v, h1)) {fp : List Nat} : uc fp h h1 := by
  unfold qF at hev
  split at hev
  · split at hev
    · split at hev
      · unfold yN at hev
        split at hev
        · cases hev
        · cases hev
          simp only [z6]
          exact uc.app
      · cases hev
    · cases hev
  · cases hev
theorem kJ {ty tx : TypeId} {s x v : V} {h h1 : Heap} (hev : tm P ty tx s x h = some (v, h1)) {fp : List Nat} (hs : ∀ r ∈ refs s, r ∈ fp) : uc fp h h1 := by
  unfold tm at hev
  split at hev
  · split at hev
    · rename_i r off len cap r2 off2 len2 cap2
      split at hev
      · split at hev
        · cases hev
          refine uc.loc (h1 := h.set r .dead) (by simp) (fun k hk hn => ?_) rfl
          exact List.getElem?_set_ne fun e : r = k => hn (hs k (by simp [refs, e]))
        · cases hev
      · cases hev
    · cases hev
  · cases hev
theorem Xc {o : Oper} {e : Env} {v : V} {h1 : Heap} (hev : xa P pol rec f o e h = some (v, h1)) : uc (yw none o e h) h h1 := by
  have hf : ∀ {x : Operand} {ty : TypeId}, x ∈ o.op.operands → ∀ r ∈ refs (opv P e ty x), r ∈ yw none o e h := fun hx r hr => tV hx hr
  obtain ⟨dst, op, ty, pos, after, guard⟩ := o
  cases op with
  | buildSlice t len parts =>
    simp only [xa] at hev
    (repeat' split at hev) <;> first | (cases hev; done) | (cases hev; exact uc.app)
  | makeSlice t l c =>
    simp only [xa] at hev
    (repeat' split at hev) <;> first | (cases hev; done) | (cases hev; exact uc.app)
  | call c =>
    obtain ⟨callee, args, tys⟩ := c
    cases callee with
    | builtin b =>
      simp only [xa] at hev
      split at hev
      · rename_i s x t u ha ht
        have hs : ∀ r ∈ refs s, r ∈ yw none ⟨dst, .call ⟨.builtin .append, args, tys⟩, ty, pos, after, guard⟩ e h := fun r hr => by
          have hm : s ∈ yI P e args.toList tys.toList := by rw [ha]; simp
          have : r ∈ refs.refss (yI P e args.toList tys.toList) := by rw [ha]; simp [refs.refss, hr]
          unfold yw
          refine List.mem_append.2 (.inr (kc ?_))
          have hx : ∀ (xs : List Operand) (ts : List TypeId), r ∈ refs.refss (yI P e xs ts) → r ∈ zf e xs := by
            intro xs
            induction xs with
            | nil => intro ts h; simp [yI, refs.refss] at h
            | cons y ys ih =>
              intro ts h
              have key : ∀ (ty : TypeId) ts', r ∈ refs (opv P e ty y) ∨ r ∈ refs.refss (yI P e ys ts') → r ∈ zf e (y :: ys) := fun ty ts' h => by
                rcases h with h | h
                · obtain ⟨t, rfl, ht⟩ := qc h
                  exact wk ht (by simp)
                · have := ih ts' h
                  cases y <;> simp only [zf] <;> first | exact this | exact List.mem_append.2 (.inr this)
              cases ts with
              | nil => simp only [yI, refs.refss, List.mem_append] at h; exact key 0 [] h
              | cons t ts => simp only [yI, refs.refss, List.mem_append] at h; exact key t ts h
          have := hx _ _ this
          simpa [Op.operands, Call.operands] using this
        unfold tA at hev
        split at hev
        · rename_i sz
          have hk := kJ (fp := [h.length]) hev (fun r hr => by simpa [refs] using hr)
          intro r hr hn
          have := hk r (by simp; omega) (by simp; omega)
          rw [this, List.getElem?_append_left hr]
        · exact kJ hev hs
      · cases hev
    | value x =>
      simp only [xa] at hev
      split at hev
      · split at hev
        · exact XT hev
        · cases hev
      · cases hev
    | invoke r m => simp [xa] at hev
  | _ => simp [xa] at hev
theorem W1 {ty tx : TypeId} {s x v : V} {h1 : Heap} (hc : app P none ty tx s x h = some (v, h1)) {fp : List Nat} (hs : ∀ r ∈ refs s, r ∈ fp) : uc fp h h1 := by
  unfold app at hc
  split at hc
  · cases hc
  · split at hc
    · cases hc
    · split at hc
      · split at hc
        · cases hc; simp only [nH]; exact uc.app
        · cases hc
      · rename_i r off len cap
        split at hc
        · split at hc
          · cases hc
            simp only [nH]
            refine uc.loc (h1 := h.set r .dead) (by simp) (fun k hk hn => ?_) rfl
            exact List.getElem?_set_ne fun e : r = k => hn (hs k (by simp [refs, e]))
          · cases hc
        · cases hc
      · cases hc
theorem Zn {dst : Option Nat} {cl : Callee} {args : Array Operand} {tys : Array TypeId} {ty : TypeId} {pos : String} {after : Array Edge} {guard : Option (Nat × Bool)} {e : Env} {s : V} {r : Nat} (hm : s ∈ yI P e args.toList tys.toList) (hr : r ∈ refs s) :
    r ∈ yw none ⟨dst, .call ⟨cl, args, tys⟩, ty, pos, after, guard⟩ e h := by
  have hx : ∀ (xs : List Operand) (ts : List TypeId), s ∈ yI P e xs ts → ∃ x ∈ xs, ∃ t, s = opv P e t x := by
    intro xs
    induction xs with
    | nil => intro ts h; simp [yI] at h
    | cons y ys ih =>
      intro ts h
      cases ts with
      | nil =>
        simp only [yI, List.mem_cons] at h
        rcases h with h | h
        · exact ⟨y, by simp, 0, h⟩
        · obtain ⟨x, h1, t, h2⟩ := ih [] h; exact ⟨x, by simp [h1], t, h2⟩
      | cons t ts =>
        simp only [yI, List.mem_cons] at h
        rcases h with h | h
        · exact ⟨y, by simp, t, h⟩
        · obtain ⟨x, h1, t, h2⟩ := ih ts h; exact ⟨x, by simp [h1], t, h2⟩
  obtain ⟨x, h1, t, rfl⟩ := hx _ _ hm
  refine tV (P := P) (ty := t) ?_ hr
  cases cl <;> simp [Op.operands, Call.operands] <;> first | exact .inr (by simpa using h1) | simpa using h1
theorem XU {tys : List TypeId} {args : List V} {v : V} {h1 : Heap} (hc : blt P none .append tys args h = some (v, h1)) {fp : List Nat} (hs : ∀ s ∈ args, ∀ r ∈ refs s, r ∈ fp) : uc fp h h1 := by
  unfold blt at hc
  split at hc
  · rename_i hb; cases hb
  · split at hc
    · exact W1 hc (hs _ (by simp))
    · cases hc
  · rename_i hb; cases hb
  · rename_i hb; cases hb
  · cases hc
theorem gJ {o : Oper} (hn : okK pol f o = true) {e : Env} {v : V} {h1 : Heap} (hev : yc P pol rec f none o e h = some (v, h1)) : uc (yw none o e h) h h1 := by
  have hf : ∀ {x : Operand} {ty : TypeId}, x ∈ o.op.operands → ∀ r ∈ refs (opv P e ty x), r ∈ yw none o e h := fun hx r hr => tV hx hr
  obtain ⟨dst, op, ty, pos, after, guard⟩ := o
  cases op with
  | alloc t =>
    simp only [yc] at hev
    (repeat' split at hev) <;> first | (cases hev; done) | (cases hev; exact uc.app)
  | box t x =>
    simp only [yc] at hev
    (repeat' split at hev) <;> first | (cases hev; done) | (cases hev; exact uc.app)
  | makeSlice t l c =>
    simp only [yc] at hev
    (repeat' split at hev) <;> first | (cases hev; done) | (cases hev; exact uc.app)
  | buildSlice t len parts =>
    simp only [yc] at hev
    split at hev
    · rename_i el hel
      split at hev
      · cases hev
      · split at hev
        · rename_i css hcs
          split at hev
          · rename_i es h' hg
            cases hev
            have hsub : ∀ r ∈ refs.refss css.flatten, r ∈ yw none ⟨dst, .buildSlice t len parts, ty, pos, after, guard⟩ e h := fun r hr => by
              obtain ⟨u, hu, hr2⟩ := rp hcs r hr
              obtain ⟨x, t', hx, rfl⟩ := r8 hu
              exact hf (x := x) (ty := t') (by simp only [Op.operands, List.mem_toArray]; exact hx) r hr2
            obtain ⟨h3, g1, g2⟩ := rm (fp := yw none ⟨dst, .buildSlice t len parts, ty, pos, after, guard⟩ e h) rfl hsub (fun _ _ => rfl) hg
            refine uc.loc (h1 := h') g2.l1 (fun k hk hn => g2.off1 k hn) rfl
          · cases hev
        · cases hev
    · cases hev
  | call c =>
    obtain ⟨callee, args, tys⟩ := c
    cases callee with
    | builtin b =>
      cases b <;> simp [okK] at hn
      simp only [yc] at hev
      exact XU hev fun s hm r hr => Zn hm hr
    | value x =>
      simp only [okK] at hn
      simp only [yc] at hev
      split at hev
      · cases hp : pol.pm f (dst.getD 0) <;> simp [hp] at hn
        simp only [wO, hp] at hev
        cases hev
      · cases hev
    | invoke r m => simp [okK] at hn
  | _ => simp [okK] at hn
theorem cV {o : Oper} (hn : okK pol f o = true) {e : Env} {v : V} {h1 : Heap} (hev : s8 P pol rec f ops o e h = some (v, h1)) : uc (yw none o e h) h h1 := by
  unfold s8 at hev
  split at hev
  · unfold vy at hev
    split at hev
    · split at hev
      · rename_i r hr; cases hev; exact Xc hr
      · exact gJ hn hev
    · exact gJ hn hev
  · cases hev; exact fun r _ _ => rfl
  · cases hev
theorem tK {o : Oper} (hn : yB pol f o = true) {e : Env} {v : V} {h' : Heap} (hev : s8 P pol rec f ops o e h = some (v, h')) : h' = h := by
  rw [cT hn] at hev; exact mu hn hev
theorem cU {o : Oper} (hn : yB pol f o = true) {e : Env} {h2 : Heap} (ha : ∀ r ∈ yw none o e h, h2[r]? = h[r]?) {v : V} (hev : s8 P pol rec f ops o e h = some (v, h)) : s8 P pol rec f ops o e h2 = some (v, h2) := by
  rw [cT hn] at hev ⊢
  unfold ev1 at hev ⊢
  split at hev
  · exact gQ hn ha hev
  · cases hev; rfl
  · cases hev
theorem Uq {a b : Oper} (hap : a.apart ops b = true) {e : Env} {va vb : V} {h1 h2 : Heap}
    (hc : (yB pol f a = true ∧ yB pol f b = true) ∨ (yB pol f a = true ∧ okK pol f b = true ∧ ∀ r ∈ yw none a e h, r < h.length ∧ r ∉ yw none b (put e a.dst va) h1) ∨
      (okK pol f a = true ∧ yB pol f b = true ∧ ∀ r ∈ yw none b (put e a.dst va) h1, r < h.length ∧ r ∉ yw none a e h))
    (h1e : s8 P pol rec f ops a e h = some (va, h1)) (h2e : s8 P pol rec f ops b (put e a.dst va) h1 = some (vb, h2)) :
    ∃ h3, s8 P pol rec f ops b e h = some (vb, h3) ∧ s8 P pol rec f ops a (put e b.dst vb) h3 = some (va, h2) ∧ yw none b e h = yw none b (put e a.dst va) h1 ∧ yw none a (put e b.dst vb) h3 = yw none a e h ∧
      (yB pol f b = true ∨ h.length = h1.length) ∧ (yB pol f a = true ∨ h3.length = h.length) := by
  obtain ⟨k1, k2, k3⟩ := Oper.apart_spec hap
  have s1 : wP ops b (put e a.dst va) e := fun t ht => oB fun hx => k1 t hx ht
  have s2 : wP ops a (put e b.dst vb) e := fun t ht => oB fun hx => k3 t hx ht
  rw [wg s1] at hc ⊢
  rcases hc with ⟨hna, hnb⟩ | ⟨hna, hkb, hd⟩ | ⟨hka, hnb, hd⟩
  · have e1 := tK hna h1e
    subst e1
    have e2 := tK hnb h2e
    subst e2
    rw [uo (.inl hnb) s1] at h2e
    exact ⟨h2, h2e, by rw [uo (.inl hna) s2]; exact h1e, rfl, wg s2, .inl hnb, .inl hna⟩
  · have e1 := tK hna h1e
    subst e1
    rw [uo (.inr hkb) s1] at h2e
    have hk := cV hkb h2e
    have ag : ∀ r ∈ yw none a e h1, h2[r]? = h1[r]? := fun r hr => hk r (hd r hr).1 (hd r hr).2
    exact ⟨h2, h2e, by rw [uo (.inl hna) s2]; exact cU hna ag h1e, rfl, (wg s2).trans (qj ag), .inr rfl, .inl hna⟩
  · have e2 := tK hnb h2e
    subst e2
    rw [uo (.inl hnb) s1] at h2e
    have hk := cV hka h1e
    have ag : ∀ r ∈ yw none b e h2, h[r]? = h2[r]? := fun r hr => (hk r (hd r hr).1 (hd r hr).2).symm
    exact ⟨h, cU hnb ag h2e, by rw [uo (.inr hka) s2]; exact h1e, qj ag, wg s2, .inl hnb, .inr rfl⟩
/-- the operations at places; of each, what was noted of it -/
def evY (P : Program) (pol : Pol) (rec : Rec) (f : Nat) (ops : Array Oper) (fp : Nat → List Nat) : List Nat → Env → Heap → Option (Env × Heap)
  | [], e, h => some (e, h)
  | i :: rest, e, h => match ops[i]? with
    | some o => if yw none o e h = (fp i).tail ∧ (yB pol f o = true ∨ (fp i).head? = some h.length) then (match s8 P pol rec f ops o e h with
      | some (v, h') => evY P pol rec f ops fp rest (put e o.dst v) h'
      | none => none) else none
    | none => none
def ChgY (pol : Pol) (f : Nat) (ops : Array Oper) (fp : Nat → List Nat) (i j : Nat) : Prop :=
  ∀ oi oj, ops[i]? = some oi → ops[j]? = some oj → oi.apart ops oj = true ∧
    ((yB pol f oi = true ∧ yB pol f oj = true) ∨ (yB pol f oi = true ∧ okK pol f oj = true ∧ cZ (fp i) (fp j) = true) ∨ (okK pol f oi = true ∧ yB pol f oj = true ∧ cZ (fp j) (fp i) = true))
theorem gk {rs ws fa fb : List Nat} {n : Nat} (hs : cZ rs ws = true) (ha : fa = rs.tail) (hb : fb = ws.tail) (hn : ws.head? = some n) : ∀ r ∈ fa, r < n ∧ r ∉ fb := by
  subst ha hb
  cases rs with
  | nil => simp [cZ] at hs
  | cons x fs =>
    cases ws with
    | nil => simp at hn
    | cons k ws =>
      simp only [List.head?_cons, Option.some.injEq] at hn
      subst hn
      simp only [cZ, List.all_eq_true, Bool.and_eq_true, decide_eq_true_eq, Bool.not_eq_true', List.tail_cons] at hs ⊢
      intro r hr
      obtain ⟨h1, h2⟩ := hs r hr
      exact ⟨h1, fun hm => by simp [hm] at h2⟩
theorem kj {fp : Nat → List Nat} {i : Nat} (B : List Nat) : ∀ (A : List Nat), (∀ j ∈ A, ChgY pol f ops fp j i) → ∀ {h : Heap} {e : Env} {r : Env × Heap},
    evY P pol rec f ops fp (A ++ i :: B) e h = some r → evY P pol rec f ops fp (i :: (A ++ B)) e h = some r
  | [], _, h, e, r, hev => hev
  | j :: A, hA, h, e, r, hev => by
    simp only [List.cons_append, evY] at hev
    split at hev
    · rename_i oj hoj
      split at hev
      · rename_i hfj
        split at hev
        · rename_i va h1 h1e
          have h2 := kj B A (fun k hk => hA k (by simp [hk])) hev
          simp only [evY] at h2
          split at h2
          · rename_i oi hoi
            split at h2
            · rename_i hfi
              split at h2
              · rename_i vb h2' h2e
                obtain ⟨c1, c2⟩ := hA j (by simp) oj oi hoj hoi
                obtain ⟨k1, k2, k3⟩ := Oper.apart_spec c1
                have c3 : (yB pol f oj = true ∧ yB pol f oi = true) ∨ (yB pol f oj = true ∧ okK pol f oi = true ∧ ∀ r ∈ yw none oj e h, r < h.length ∧ r ∉ yw none oi (put e oj.dst va) h1) ∨
                    (okK pol f oj = true ∧ yB pol f oi = true ∧ ∀ r ∈ yw none oi (put e oj.dst va) h1, r < h.length ∧ r ∉ yw none oj e h) := by
                  rcases c2 with c2 | ⟨c2, c4, c5⟩ | ⟨c2, c4, c5⟩
                  · exact .inl c2
                  · have e1 := tK c2 h1e
                    subst e1
                    rcases hfi.2 with hx | hx
                    · exact (gK hx c4).elim
                    · exact .inr (.inl ⟨c2, c4, gk c5 hfj.1 hfi.1 hx⟩)
                  · rcases hfj.2 with hx | hx
                    · exact (gK hx c2).elim
                    · exact .inr (.inr ⟨c2, c4, gk c5 hfi.1 hfj.1 hx⟩)
                obtain ⟨h3, g1, g2, g3, g4, g5, g6⟩ := Uq c1 c3 h1e h2e
                have f1 : yw none oi e h = (fp i).tail ∧ (yB pol f oi = true ∨ (fp i).head? = some h.length) := ⟨by rw [g3]; exact hfi.1, by
                  rcases g5 with g5 | g5
                  · exact .inl g5
                  · rw [g5]; exact hfi.2⟩
                have f2 : yw none oj (put e oi.dst vb) h3 = (fp j).tail ∧ (yB pol f oj = true ∨ (fp j).head? = some h3.length) := ⟨by rw [g4]; exact hfj.1, by
                  rcases g6 with g6 | g6
                  · exact .inl g6
                  · rw [g6]; exact hfj.2⟩
                simp only [evY, hoi, g1, List.cons_append, hoj, g2]
                rw [if_pos f1, if_pos f2, ← gw e va vb k2]
                exact h2
              · cases h2
            · cases h2
          · cases h2
        · cases hev
      · cases hev
    · cases hev
theorem TE {W0 : World} (hrec : xY P W0 rec) {n : Nat} (hdst : qE n ops = true) (hpairs : oC ops = true) {fp : Nat → List Nat}
    (hchg : ∀ i j oj, i < j → ops[j]? = some oj → ¬ Path ops i j → ChgY pol f ops fp i j) {Q : Exit → Act → World → Prop} :
    ∀ (fuel : Nat) (R : List Nat) (listed : Array Bool) {w : World} {F : Nat → Prop} {ρ : ym} {h : Heap} {e e' : Env} {h' : Heap} {a : Act}, R.length = fuel → R.Pairwise (· < ·) → listed.size = ops.size → (∀ i, i ∈ R ↔ i < ops.size ∧ listed.getD i true = false) →
      (∀ k ok, listed.getD k false = true → ops[k]? = some ok → ∀ ed ∈ ok.after, Region.binds .any ed = true → listed.getD ed.on false = true) →
      evY P pol rec f ops fp R e h = some (e', h') → v7 W0 w F → St w F ρ Ow h → OkC Ow w → RE w F ρ a e → a.tmps.size = n → a.defers = [] → rD Ow w F ρ n e' h' (Q .normal) → wpAny P .any ops Q fuel listed a w := by
  intro fuel
  induction fuel with
  | zero =>
    intro R listed w F ρ h e e' h' a hl hs hsz hR hcl hev hB hS hO he hn hd hK
    have : R = [] := List.eq_nil_of_length_eq_zero hl
    subst this
    simp only [evY] at hev
    cases hev
    refine ⟨?_, hK a w F ρ he hS (Nxt.refl _ _ _ _) hn hd⟩
    apply List.eq_nil_iff_forall_not_mem.2
    intro j hj
    obtain ⟨hju, oj, hoj, _⟩ := mem_ready.1 hj
    have := (hR j).2 ⟨(Array.getElem?_eq_some_iff.1 hoj).1, hju⟩
    cases this
  | succ fuel ih =>
    intro R listed w F ρ h e e' h' a hl hs hsz hR hcl hev hB hS hO he hn hd hK
    refine ⟨fun hnil => ?_, fun i hi => ?_⟩
    · exfalso
      cases R with
      | nil => simp at hl
      | cons j R =>
        obtain ⟨hj1, hj2⟩ := (hR j).1 (by simp)
        obtain ⟨oj, hoj⟩ : ∃ o, ops[j]? = some o := ⟨_, Array.getElem?_eq_getElem hj1⟩
        have : j ∈ Region.ready .any ops listed := mem_ready.2 ⟨hj2, oj, hoj, fun ed hed hb => by
          have hlt := (vC hpairs hoj).1 ed hed hb
          cases hx : listed.getD ed.on false with
          | true => rfl
          | false =>
            have hx' : listed.getD ed.on true = false := by
              simp only [Array.getD_eq_getD_getElem?] at hx ⊢
              have hin : ed.on < listed.size := by omega
              simp [hin] at hx ⊢; exact hx
            have := (hR ed.on).2 ⟨by omega, hx'⟩
            rcases List.mem_cons.1 this with h1 | h1
            · omega
            · have := (List.pairwise_cons.1 hs).1 _ h1; omega⟩
        rw [hnil] at this
        cases this
    · obtain ⟨hiu, oi, hoi, hall'⟩ := mem_ready.1 hi
      have hmem := (hR i).2 ⟨(Array.getElem?_eq_some_iff.1 hoi).1, hiu⟩
      obtain ⟨A, B, rfl⟩ := List.append_of_mem hmem
      have hpw := List.pairwise_append.1 hs
      have hnA : i ∉ A := fun h1 => by have := hpw.2.2 i h1 i (by simp); omega
      have hnB : i ∉ B := fun h1 => by have := (List.pairwise_cons.1 hpw.2.1).1 i h1; omega
      have hfront := kj (P := P) (rec := rec) (fp := fp) B A (fun j hj => by
        obtain ⟨hj1, hj2⟩ := (hR j).1 (by simp [hj])
        refine hchg j i oi (hpw.2.2 j hj i (by simp)) hoi fun hpt => ?_
        have h1 := pz hcl hpt fun ox hox ed hed hb => by
          rw [hoi] at hox; cases hox; exact hall' ed hed hb
        simp only [Array.getD_eq_getD_getElem?] at h1 hj2
        have hin : j < listed.size := by omega
        simp [hin] at h1 hj2
        rw [hj2] at h1; cases h1) hev
      simp only [evY, hoi] at hfront
      split at hfront
      rotate_left
      · cases hfront
      split at hfront
      · rename_i v1 h1 h1ev
        refine bq hB hrec hoi (by rw [ko, h1ev]) hS hO he hn hd hdst fun a' w' F' ρ' k1 k2 k3 k4 k5 => ?_
        have hcl' : ∀ k ok, (listed.setIfInBounds i true).getD k false = true → ops[k]? = some ok → ∀ ed ∈ ok.after, Region.binds .any ed = true → (listed.setIfInBounds i true).getD ed.on false = true := fun k ok hk hok ed hed hb => by
          have key : listed.getD ed.on false = true := by
            by_cases hki : k = i
            · subst hki
              rw [hoi] at hok; cases hok
              exact hall' ed hed hb
            · rw [getD_set_ne false (Ne.symm hki)] at hk
              exact hcl k ok hk hok ed hed hb
          by_cases hei : ed.on = i
          · rw [hei] at key ⊢
            simp only [Array.getD_eq_getD_getElem?] at key ⊢
            by_cases hin : i < listed.size
            · simp [hin]
            · simp [hin] at key
          · rw [getD_set_ne false (Ne.symm hei)]; exact key
        refine ih (A ++ B) (listed.setIfInBounds i true) (by simp at hl ⊢; omega) ?_ (by simpa using hsz) (fun j => ?_) hcl' hfront (hB.next k3) k2 (hO.mono k3.size) k1 k4 k5 (hK.step k3)
        · refine List.pairwise_append.2 ⟨hpw.1, (List.pairwise_cons.1 hpw.2.1).2, fun x hx y hy => hpw.2.2 x hx y (by simp [hy])⟩
        · by_cases hji : j = i
          · subst hji
            constructor
            · intro hj
              exfalso
              rcases List.mem_append.1 hj with h1 | h1
              · exact hnA h1
              · exact hnB h1
            · rintro ⟨hj1, hj2⟩
              exfalso
              have hin : j < listed.size := by omega
              simp [Array.getD_eq_getD_getElem?, hin] at hj2
          · rw [getD_set_ne true (Ne.symm hji), ← hR j]
            simp [hji]
      · cases hfront
theorem ao {fp : Nat → List Nat} : ∀ (l : List Nat) (os : List Oper) {rs : List (List Nat)} {e e' : Env} {h h' : Heap}, l.map (ops[·]?) = os.map some → evR P pol rec f ops os e h = some (rs, e', h') → l.map fp = rs → evY P pol rec f ops fp l e h = some (e', h')
  | [], [], rs, e, e', h, h', _, hev, _ => by simp only [evR] at hev; cases hev; rfl
  | i :: l, o :: os, rs, e, e', h, h', ho, hev, hf => by
    simp only [List.map_cons, List.cons.injEq] at ho
    simp only [evR] at hev
    rw [ko] at hev
    cases h1 : s8 P pol rec f ops o e h with
    | none => simp [h1] at hev
    | some x =>
      obtain ⟨v, hx⟩ := x
      simp only [h1] at hev
      split at hev
      · rename_i rs' e'' h'' h2
        cases hev
        simp only [List.map_cons, List.cons.injEq] at hf
        simp only [evY, ho.1, hf.1, List.tail_cons, List.head?_cons, or_true, and_self, if_true, h1]
        exact ao l os ho.2 h2 hf.2
      · cases hev
  | [], _ :: _, rs, e, e', h, h', ho, hev, hf => by simp at ho
  | _ :: _, [], rs, e, e', h, h', ho, hev, hf => by simp at ho
theorem an : ∀ (os : List Oper) {rs : List (List Nat)} {e e' : Env} {h h' : Heap}, evR P pol rec f ops os e h = some (rs, e', h') → rs.length = os.length
  | [], rs, e, e', h, h', hev => by simp only [evR] at hev; cases hev; rfl
  | o :: os, rs, e, e', h, h', hev => by
    simp only [evR] at hev
    split at hev
    · split at hev
      · rename_i rs' e'' h'' h2
        cases hev
        simp [an os h2]
      · cases hev
    · cases hev
/-- a region of open order whose writes stand in a chain -/
theorem Xy {W0 : World} (hB : v7 W0 w F) (hrec : xY P W0 rec) {n : Nat} (hdst : qE n ops = true) (hok : ph P ops = true) {id : Nat} {Q : Exit → Act → World → Prop} {e e' : Env} {h' : Heap} {a : Act}
    (hev : evZ P pol rec f ops e h = some (e', h')) (hS : St w F ρ Ow h)
    (hO : OkC Ow w) (he : RE w F ρ a e) (hn : a.tmps.size = n) (hd : a.defers = []) (hK : rD Ow w F ρ n e' h' (Q .normal)) : (Code.region id ops true).wp P Q a w := by
  simp only [ph, Bool.and_eq_true] at hok
  obtain ⟨hm, hpairs⟩ := hok
  obtain ⟨hS1, hN⟩ := mf hS
  have hO1 : OkC Ow w.drew := hO.mono (Nat.le_refl _)
  have hops : (List.range ops.size).map (ops[·]?) = ops.toList.map some := qL ops
  have hlast : ∀ i, i ∈ List.range ops.size ↔ i < ops.size ∧ (Array.replicate ops.size false).getD i true = false := fun i => by
    simp only [List.mem_range]
    constructor
    · intro hi; exact ⟨hi, by simp [Array.getD_eq_getD_getElem?, hi]⟩
    · exact fun hi => hi.1
  unfold evZ at hev
  split at hev
  · rename_i rs e1 h1 hR
    split at hev
    · rename_i hz
      cases hev
      have hl := an _ hR
      have hE := ao (fp := fun i => rs.getD i []) (List.range ops.size) _ hops hR (by
        rw [show ops.size = rs.length by simpa using hl.symm]; exact range_map_get rs [])
      refine wp_region_any hm (TE (w := w.drew) hrec hdst hpairs (fp := fun i => rs.getD i []) (fun i j oj hij hoj hnp oi oj' hoi hoj' => ?_) ops.size (List.range ops.size) (Array.replicate ops.size false) (by simp) List.pairwise_lt_range (by simp) hlast (fun k ok hk => by simp only [Array.getD_eq_getD_getElem?, Array.getElem?_replicate] at hk; split at hk <;> simp at hk) hE (hB.next hN) hS1 hO1 (hN.re he) hn hd (hK.step hN))
      rw [hoj] at hoj'; cases hoj'
      have hno : ∀ e ∈ oj.after, Region.binds .any e = true → e.on ≠ i := fun e he hb heq => hnp (.dir hoj he hb heq)
      have hlt : j < ops.size := (Array.getElem?_eq_some_iff.1 hoj).1
      have h2 := List.all_eq_true.1 hz j (List.mem_range.2 hlt)
      simp only [hoj, List.all_eq_true, List.mem_range] at h2
      have h3 := h2 i hij
      simp only [hoi, TT, Bool.or_eq_true, Bool.and_eq_true] at h3
      refine ⟨(vC hpairs hoj).2 i oi hij hoi hno, ?_⟩
      rcases h3 with h3 | h3 | h3 | h3
      · exact absurd (jj 8 j h3) hnp
      · exact .inl h3
      · exact .inr (.inl ⟨h3.1.1, h3.1.2, h3.2⟩)
      · exact .inr (.inr ⟨h3.1.1, h3.1.2, h3.2⟩)
    · cases hev
  · cases hev
end Go.Proofs.YtmcephnfcciloaaGreatDoor.E
/- The evaluator's code and calls are the machine's: whatever the evaluator answers, the machine returns. Conditions: those of each lemma. -/
namespace Go.Proofs.YtmcephnfcciloaaGreatDoor.E
set_option linter.unusedVariables false
set_option linter.unusedSimpArgs false
variable {P : Program} {w : World} {F : Nat → Prop} {ρ : ym} {Ow : Own} {h : Heap}
def exi : Exi → Exit
  | .normal => .normal
  | .exit id => .exit id
  | .ret => .ret
/-- code whose regions' slots lie within the frame -/
def x7 (d : Array Oper → Bool) (n : Nat) : Code → Bool
  | .region _ ops draw => qE n ops && (!draw || d ops)
  | .seq a b => x7 d n a && x7 d n b
  | .cond _ a b => x7 d n a && x7 d n b
  | .block _ c => x7 d n c
  | .loop c => x7 d n c
  | _ => true
theorem uj {d : Array Oper → Bool} {n : Nat} : ∀ (ds : List Bool) {c c' : Code}, x7 d n c = true → yH c ds = some c' → x7 d n c' = true
  | [], c, c', hc, h => by simp only [yH] at h; cases h; exact hc
  | x :: ds, c, c', hc, h => by
    cases c with
    | seq a b =>
      simp only [yH] at h; simp only [x7, Bool.and_eq_true] at hc
      refine uj ds (c := if x then b else a) ?_ h
      split
      · exact hc.2
      · exact hc.1
    | cond o a b =>
      simp only [yH] at h; simp only [x7, Bool.and_eq_true] at hc
      refine uj ds (c := if x then b else a) ?_ h
      split
      · exact hc.2
      · exact hc.1
    | block id b => simp only [yH] at h; exact uj ds (c := b) hc h
    | loop b => simp only [yH] at h; exact uj ds (c := b) hc h
    | _ => simp [yH] at h
/-- what is known of inner loops -/
def jX (P : Program) (W0 : World) (pol : Pol) (rec : Rec) : Prop :=
  ∀ f p m vals h x outs h', rec (.loop f p m vals h) = some (.loop x outs h') →
    ∃ fn c b, P.funcs[f]? = some fn ∧ fn.body = some c ∧ yH c (turns p) = some (.loop b) ∧
      (1 ≤ p → x7 (ou P pol f) fn.ntmps c = true → ∀ (Ow : Own) (w : World) (F : Nat → Prop) (ρ : ym) (a : Act) (Q : Exit → Act → World → Prop), v7 W0 w F → St w F ρ Ow h → OkC Ow w → RVs w F ρ (ur a (pol.live f p)) vals → a.tmps.size = fn.ntmps → a.defers = [] →
        (∀ a' w' F' ρ', RE w' F' ρ' a' (ze (pol.outs f p) outs) → St w' F' ρ' Ow h' → Nxt Ow w F y7 w' F' y7 → (∀ r l, r < m → ρ r = some l → ρ' r = some l) → a'.tmps.size = fn.ntmps → a'.defers = [] → Q (exi x) a' w') →
        (Code.loop b).wp P Q a w ∧ pq P b Q a w)
theorem Nxt.forget {w1 : World} {F1 : Nat → Prop} {ρ1 ρa : ym} (h : Nxt Ow w F ρ w1 F1 ρ1) (he : Ext ρa ρa) : Nxt Ow w F ρa w1 F1 ρa :=
  ⟨h.os, h.tape, h.output, h.size, h.keep, h.agree, h.grow, h.new, he, fun _ _ => rfl⟩
/-- after code: its exit, slots, rows; the rows' numbers may be others -/
def jZ (Ow : Own) (w : World) (F : Nat → Prop) (ρ : ym) (m : Nat) (n : Nat) (x : Exi) (e' : Env) (h' : Heap) (Q : Exit → Act → World → Prop) : Prop :=
  ∀ a' w' F' ρ', RE w' F' ρ' a' e' → St w' F' ρ' Ow h' → Nxt Ow w F y7 w' F' y7 → (∀ r l, r < m → ρ r = some l → ρ' r = some l) → a'.tmps.size = n → a'.defers = [] → Q (exi x) a' w'
theorem jZ.step {w1 : World} {F1 : Nat → Prop} {ρ1 : ym} {m : Nat} {n : Nat} {x : Exi} {e' : Env} {h' : Heap} {Q : Exit → Act → World → Prop} (hK : jZ Ow w F ρ m n x e' h' Q) (hN : Nxt Ow w F y7 w1 F1 y7) (hx : ∀ r l, r < m → ρ r = some l → ρ1 r = some l) : jZ Ow w1 F1 ρ1 m n x e' h' Q :=
  fun a' w' F' ρ' h1 h2 h3 h4 h5 h6 => hK a' w' F' ρ' h1 h2 (hN.trans h3) (fun r l hr hl => h4 r l hr (hx r l hr hl)) h5 h6
theorem wB {W0 : World} {pol : Pol} {rec : Rec} (hrec : xY P W0 rec) (hloop : jX P W0 pol rec) {f : Nat} {fn : Func} {body : Code} (hf : P.funcs[f]? = some fn) (hbody : fn.body = some body) (hbOK : x7 (ou P pol f) fn.ntmps body = true) {m : Nat} :
    ∀ (c : Code) (p : Nat) {w : World} {F : Nat → Prop} {ρ : ym} {h : Heap} {e : Env} {x : Exi} {e' : Env} {h' : Heap} {a : Act} {Q : Exit → Act → World → Prop},
      evC P pol rec f m c p e h = some (x, e', h') → 1 ≤ p → yH body (turns p) = some c → v7 W0 w F → St w F ρ Ow h → OkC Ow w → RE w F ρ a e → a.tmps.size = fn.ntmps → a.defers = [] →
      jZ Ow w F ρ m fn.ntmps x e' h' Q → c.wp P Q a w
  | .skip, p, w, F, ρ, h, e, x, e', h', a, Q, hev, hp, hat, hB, hS, hO, he, hn, hd, hQ => by
    simp only [evC] at hev; cases hev
    exact wp_skip (hQ a w F ρ he hS (Nxt.refl _ _ _ _) (fun _ _ _ x => x) hn hd)
  | .exit id, p, w, F, ρ, h, e, x, e', h', a, Q, hev, hp, hat, hB, hS, hO, he, hn, hd, hQ => by
    simp only [evC] at hev; cases hev
    exact wp_exit (hQ a w F ρ he hS (Nxt.refl _ _ _ _) (fun _ _ _ x => x) hn hd)
  | .ret, p, w, F, ρ, h, e, x, e', h', a, Q, hev, hp, hat, hB, hS, hO, he, hn, hd, hQ => by
    simp only [evC] at hev; cases hev
    exact wp_ret (hQ a w F ρ he hS (Nxt.refl _ _ _ _) (fun _ _ _ x => x) hn hd)
  | .seq c1 c2, p, w, F, ρ, h, e, x, e', h', a, Q, hev, hp, hat, hB, hS, hO, he, hn, hd, hQ => by
    simp only [evC] at hev
    have a1 : yH body (turns (2 * p)) = some c1 := by
      have := vr hp 0 (by omega); simp only [Nat.add_zero] at this
      rw [this, yF _ _ _ _ hat]; rfl
    have a2 : yH body (turns (2 * p + 1)) = some c2 := by
      rw [vr hp 1 (by omega), yF _ _ _ _ hat]; rfl
    refine wp_seq ?_
    split at hev
    · rename_i e1 h1 h1ev
      refine wB hrec hloop hf hbody hbOK c1 (2 * p) h1ev (by omega) a1 hB hS hO he hn hd fun a' w' F' ρ' k1 k2 k3 kx k4 k5 => ?_
      exact wB hrec hloop hf hbody hbOK c2 (2 * p + 1) hev (by omega) a2 (hB.next k3) k2 (hO.mono k3.size) k1 k4 k5 (hQ.step k3 kx)
    · rename_i hne
      refine wB hrec hloop hf hbody hbOK c1 (2 * p) hev (by omega) a1 hB hS hO he hn hd fun a' w' F' ρ' k1 k2 k3 kx k4 k5 => ?_
      have := hQ a' w' F' ρ' k1 k2 k3 kx k4 k5
      cases x with
      | normal => exact absurd hev (hne e' h')
      | exit id => exact this
      | ret => exact this
  | .cond c c1 c2, p, w, F, ρ, h, e, x, e', h', a, Q, hev, hp, hat, hB, hS, hO, he, hn, hd, hQ => by
    simp only [evC] at hev
    have a1 : yH body (turns (2 * p)) = some c1 := by
      have := vr hp 0 (by omega); simp only [Nat.add_zero] at this
      rw [this, yF _ _ _ _ hat]; rfl
    have a2 : yH body (turns (2 * p + 1)) = some c2 := by
      rw [vr hp 1 (by omega), yF _ _ _ _ hat]; rfl
    split at hev
    · rename_i t hc
      have hcv := yD (P := P) he 0 c
      rw [hc] at hcv
      refine wp_cond (t := t) (jf hcv) ?_
      cases t with
      | true => simp only [if_true] at hev ⊢; exact wB hrec hloop hf hbody hbOK c1 (2 * p) hev (by omega) a1 hB hS hO he hn hd hQ
      | false => simp only [Bool.false_eq_true, if_false] at hev ⊢; exact wB hrec hloop hf hbody hbOK c2 (2 * p + 1) hev (by omega) a2 hB hS hO he hn hd hQ
    · cases hev
  | .block id c, p, w, F, ρ, h, e, x, e', h', a, Q, hev, hp, hat, hB, hS, hO, he, hn, hd, hQ => by
    simp only [evC] at hev
    have a1 : yH body (turns (2 * p)) = some c := by
      have := vr hp 0 (by omega); simp only [Nat.add_zero] at this
      rw [this, yF _ _ _ _ hat]; rfl
    refine wp_block ?_
    split at hev
    · rename_i id' e1 h1 h1ev
      refine wB hrec hloop hf hbody hbOK c (2 * p) h1ev (by omega) a1 hB hS hO he hn hd fun a' w' F' ρ' k1 k2 k3 kx k4 k5 => ?_
      simp only [exi, Exit.inBlock]
      split at hev
      · rename_i hid
        cases hev
        rw [if_pos hid]
        exact hQ a' w' F' ρ' k1 k2 k3 kx k4 k5
      · rename_i hid
        cases hev
        rw [if_neg hid]
        exact hQ a' w' F' ρ' k1 k2 k3 kx k4 k5
    · rename_i hne
      refine wB hrec hloop hf hbody hbOK c (2 * p) hev (by omega) a1 hB hS hO he hn hd fun a' w' F' ρ' k1 k2 k3 kx k4 k5 => ?_
      have := hQ a' w' F' ρ' k1 k2 k3 kx k4 k5
      cases x with
      | normal => exact this
      | exit id' => exact absurd hev (hne id' e' h')
      | ret => exact this
  | .loop b, p, w, F, ρ, h, e, x, e', h', a, Q, hev, hp, hat, hB, hS, hO, he, hn, hd, hQ => by
    simp only [evC] at hev
    split at hev
    · rename_i x' outs h1 hr
      cases hev
      obtain ⟨fn', c', b', f1, f2, f3, f4⟩ := hloop f p m _ _ _ _ _ hr
      rw [hf] at f1; cases f1
      rw [hbody] at f2; cases f2
      rw [hat] at f3; cases f3
      obtain ⟨ρ', k1, k2, kp⟩ := jk (m := m) hS (vT he (pol.live f p))
      exact (f4 hp hbOK Ow w F ρ' a Q hB k2 hO k1 hn hd (hQ.step (Nxt.refl _ _ _ _) fun r l hr hl => (kp r hr).trans hl)).1
    · cases hev
  | .region id ops draw, p, w, F, ρ, h, e, x, e', h', a, Q, hev, hp, hat, hB, hS, hO, he, hn, hd, hQ => by
    simp only [evC] at hev
    split at hev
    · cases hev
    · rename_i hdr
      have hcOK := uj _ hbOK hat
      simp only [x7, Bool.and_eq_true] at hcOK
      obtain ⟨hdst, hdraw⟩ := hcOK
      split at hev
      · rename_i e1 h1 hops
        cases hev
        cases draw with
        | false =>
          simp only [Bool.false_and, Bool.false_eq_true, if_false] at hops
          rw [fQ (List.range ops.size) ops.toList e _ (qL ops)] at hops
          obtain ⟨ρ1, g1, g2⟩ := U1 hO.z e (pol.gh f id) hS
          exact wp_region (VY hrec hdst _ hops hB g1 hO (g2.re he) hn hd fun a' w' F' ρ' k1 k2 k3 k4 k5 => hQ a' w' F' ρ' k1 k2 (k3.forget (Ext.refl _)) (fun r l _ hl => k3.ext r l (g2.ext r l hl)) k4 k5)
        | true =>
          have hdr' : pol.dr f = true := by simpa using hdr
          have hok : ph P ops = true := by simpa [ou, hdr'] using hdraw
          simp only [Bool.true_and, if_true] at hops
          by_cases hc : (pol.own f && pol.dm f id) = true
          · by_cases hall : ops.toList.all (yB pol f) = true
            · simp only [hall, Bool.not_true, Bool.false_eq_true, if_false] at hops
              have hops' : (if !(ops.toList.all (yB pol f)) then s9 P pol rec f ops e h else wN P pol rec f ops ops.toList e h) = some (e', h') := by
                simp only [hall, Bool.not_true, Bool.false_eq_true, if_false]; exact hops
              exact ar hB hrec hdst hok hops' hS hO he hn hd fun a' w' F' ρ' k1 k2 k3 k4 k5 => hQ a' w' F' ρ' k1 k2 (k3.forget (Ext.refl _)) (fun r l _ hl => k3.ext r l hl) k4 k5
            · simp only [hall, hc, Bool.not_false, if_true] at hops
              exact Xy hB hrec hdst hok hops hS hO he hn hd fun a' w' F' ρ' k1 k2 k3 k4 k5 => hQ a' w' F' ρ' k1 k2 (k3.forget (Ext.refl _)) (fun r l _ hl => k3.ext r l hl) k4 k5
          · simp only [hc, Bool.false_eq_true, if_false] at hops
            exact ar hB hrec hdst hok hops hS hO he hn hd fun a' w' F' ρ' k1 k2 k3 k4 k5 => hQ a' w' F' ρ' k1 k2 (k3.forget (Ext.refl _)) (fun r l _ hl => k3.ext r l hl) k4 k5
      · cases hev
  | .rangeFunc _ _ _ _, p, w, F, ρ, h, e, x, e', h', a, Q, hev, hp, hat, hB, hS, hO, he, hn, hd, hQ => by simp [evC] at hev
  | .scope _, p, w, F, ρ, h, e, x, e', h', a, Q, hev, hp, hat, hB, hS, hO, he, hn, hd, hQ => by simp [evC] at hev
  | .label _, p, w, F, ρ, h, e, x, e', h', a, Q, hev, hp, hat, hB, hS, hO, he, hn, hd, hQ => by simp [evC] at hev
  | .goto _, p, w, F, ρ, h, e, x, e', h', a, Q, hev, hp, hat, hB, hS, hO, he, hn, hd, hQ => by simp [evC] at hev
  | .refuse _, p, w, F, ρ, h, e, x, e', h', a, Q, hev, hp, hat, hB, hS, hO, he, hn, hd, hQ => by simp [evC] at hev
def pd (a : Act) : ResultVar → Sem Value
  | .tmp t => pure (a.tmps.getD t undef)
  | .cell b t => do loadVar t (← asAddr (a.tmps.getD b undef))
theorem jh (hS : St w F ρ Ow h) {a : Act} {e : Env} (he : RE w F ρ a e) : ∀ (rs : List ResultVar) {vs : List V}, wW P e h rs = some vs →
    ∃ us : List Value, (rs.mapM (pd a)).run P w = .ok us w ∧ RVs w F ρ us vs
  | [], vs, hr => by simp only [wW] at hr; cases hr; exact ⟨[], rfl, .nil⟩
  | .tmp t :: rs, vs, hr => by
    simp only [wW] at hr
    split at hr
    · rename_i vs' h1
      cases hr
      obtain ⟨us, e1, e2⟩ := jh hS he rs h1
      refine ⟨a.tmps.getD t undef :: us, ?_, .cons (he t) e2⟩
      have e5 : (pd a (.tmp t)).run P w = .ok (a.tmps.getD t undef) w := rfl
      rw [List.mapM_cons, Sem.run_bind, e5]
      simp only [Result.andThen_ok]
      rw [Sem.run_bind, e1]
      rfl
    · cases hr
  | .cell b t :: rs, vs, hr => by
    simp only [wW] at hr
    split at hr
    · rename_i v hl
      split at hr
      · rename_i vs' h1
        cases hr
        obtain ⟨us, e1, e2⟩ := jh hS he rs h1
        obtain ⟨u, e3, e4⟩ := bI (P := P) hS hl (he b)
        have hptr : ∃ ad, a.tmps.getD b undef = .pointer (some ad) := by
          have hb := he b
          unfold load at hl
          generalize hgx : a.tmps.getD b undef = z at hb
          generalize hge : e b = eb at hb hl
          cases hb with
          | ptr => exact ⟨_, rfl⟩
          | t _ _ hx => cases hx <;> first | exact ⟨_, rfl⟩ | simp at hl
          | _ => simp at hl
        obtain ⟨ad, hptr⟩ := hptr
        refine ⟨u :: us, ?_, .cons e4 e2⟩
        have e3' : (loadVar t ad).run P w = .ok u w := by
          rw [hptr] at e3
          simpa [Instr.loadAt, Instr.sureAddr] using e3
        have e5 : (pd a (.cell b t)).run P w = .ok u w := by simp [pd, hptr, asAddr, e3']
        rw [List.mapM_cons, Sem.run_bind, e5]
        simp only [Result.andThen_ok]
        rw [Sem.run_bind, e1]
        rfl
      · cases hr
    · cases hr
theorem oZ (hS : St w F ρ Ow h) {a : Act} {e : Env} (he : RE w F ρ a e) {fn : Func} {vs : List V} (hr : wW P e h fn.results.toList = some vs) : ∃ u, (results fn a.tmps).run P w = .ok u w ∧ RV w F ρ u (zC vs) := by
  obtain ⟨us, e1, e2⟩ := jh hS he fn.results.toList hr
  have hm : (fn.results.mapM (pd a)).run P w = .ok us.toArray w := by
    rw [Array.mapM_eq_mapM_toList, Sem.run_map, e1]; rfl
  have hres : results fn a.tmps = (do let vs ← fn.results.mapM (pd a); pure (if h : vs.size = 1 then vs[0] else .tuple vs)) := by
    unfold results
    congr 2
  rw [hres, Sem.run_bind, hm]
  simp only [Result.andThen_ok, Sem.run_pure]
  refine ⟨_, rfl, ?_⟩
  cases e2 with
  | nil => exact RV.eG .nil
  | cons h1 h2 =>
    cases h2 with
    | nil => simpa [zC] using h1
    | cons h3 h4 =>
      rw [dif_neg (by simp)]
      simp only [zC]
      exact RV.eG (.cons h1 (.cons h3 h4))
theorem r7 : ∀ (us : List Value) (n : Nat) (pre : List Value) (post : List Value), n = us.length → ur ⟨(pre ++ us ++ post).toArray, []⟩ ((List.range' pre.length n)) = us
  | [], n, pre, post, hn => by subst hn; rfl
  | u :: us, n, pre, post, hn => by
    subst hn
    simp only [List.length_cons, List.range'_succ, ur, List.map_cons]
    have h1 := r7 us us.length (pre ++ [u]) post rfl
    simp only [List.length_append, List.length_singleton, ur, List.append_assoc, List.singleton_append, List.cons_append, List.nil_append] at h1
    simp only [List.append_assoc, List.cons_append]
    rw [h1]
    congr 1
    simp [List.getElem?_append_right]
/-- what is shown by other means is so -/
def ExtPK (P : Program) (W0 : World) (pol : Pol) : Prop :=
  ∀ g args v, pol.ext g args = some v →
    (∃ fn, P.funcs[g]? = some fn ∧ (fn.name == "runtime.NumGoroutine") = false ∧ fn.body.isNone = false) ∧
    ∀ (w : World) (F : Nat → Prop) (us : Array Value), v7 W0 w F → (∀ b, F b → b < w.heap.size) → RVs w F y7 us.toList args →
      Calls P g us w fun e w' => ∃ u F', e = .returned u ∧ RV w' F' y7 u v ∧ (∀ b, F' b → b < w'.heap.size) ∧ Nxt (own fun b => w.heap.size ≤ b) w F y7 w' F' y7
/-- one function, called with rows of the caller's: shown by other means -/
def pr (P : Program) (W0 : World) (g : Nat) (e : List V → Heap → Option (V × Heap)) : Prop :=
  ∀ args h v h', e args h = some (v, h') →
    (∃ fn, P.funcs[g]? = some fn ∧ (fn.name == "runtime.NumGoroutine") = false ∧ fn.body.isNone = false) ∧
    ∀ (Ow : Own) (w : World) (F : Nat → Prop) (ρ : ym) (us : Array Value), v7 W0 w F → St w F ρ Ow h → OkC Ow w → RVs w F ρ us.toList args →
      Calls P g us w fun e w' => ∃ u F' ρ', e = .returned u ∧ RV w' F' ρ' u v ∧ St w' F' ρ' Ow h' ∧ Nxt Ow w F y7 w' F' y7 ∧ ∀ r l, r < h.length → ρ r = some l → ρ' r = some l
structure mR (P : Program) (W0 : World) (pol : Pol) : Prop where
  p : ExtPK P W0 pol
  o : ∀ g, pr P W0 g (pol.extO g)
theorem Uw {W0 : World} {pol : Pol} {rec : Rec} (hE : mR P W0 pol) (hP : ∀ f fn c, pol.no f = false → P.funcs[f]? = some fn → fn.body = some c → x7 (ou P pol f) fn.ntmps c = true) (hrec : xY P W0 rec) (hloop : jX P W0 pol rec) : xY P W0 (step P pol rec) ∧ jX P W0 pol (step P pol rec) := by
  refine ⟨⟨?_, ?_⟩, ?_⟩
  · intro g args v hs
    simp only [step] at hs
    split at hs
    · rename_i v' hx
      split at hs
      · cases hs; exact hE.p g args _ hx
      · cases hs
    split at hs
    · rename_i fn hf
      split at hs
      · rename_i c hb
        split at hs
        · cases hs
        · rename_i hc
          simp only [Bool.or_eq_true, decide_eq_true_eq, not_or, Bool.not_eq_true, Nat.not_lt] at hc
          obtain ⟨⟨c1, c2⟩, c3⟩ := hc
          refine ⟨⟨fn, hf, c2, by simp [hb]⟩, fun w F us hB hF hu => ?_⟩
          have hul := y8 hu
          have hbOK := hP g fn c c1 hf hb
          have hS0 : St w F y7 (own fun b => w.heap.size ≤ b) [] := VC hF
          have hE0 : RE w F y7 ⟨us ++ Array.replicate (fn.ntmps - us.size) undef, []⟩ (ze (List.range args.length) args) := by
            refine uw _ _ ?_
            have := r7 us.toList args.length [] (List.replicate (fn.ntmps - us.size) undef) hul.symm
            simp only [List.length_nil, List.nil_append] at this
            rw [List.range_eq_range']
            have e0 : (⟨us ++ Array.replicate (fn.ntmps - us.size) undef, []⟩ : Act) = ⟨(us.toList ++ List.replicate (fn.ntmps - us.size) undef).toArray, []⟩ := by
              congr 1
              apply Array.ext'
              simp
            rw [e0, this]
            exact hu
          have hn0 : (us ++ Array.replicate (fn.ntmps - us.size) undef).size = fn.ntmps := by simp at hul ⊢; omega
          have finish : ∀ (x : Exi) e' h', (exi x = .normal ∨ exi x = .ret) → (match wW P e' h' fn.results.toList with
              | some vs => match zy h' (zC vs) with
                | some (v, h'') => some (xN.call v (h''.take 0))
                | none => none
              | none => none) = some (.call v []) → evC P pol rec g 0 c 1 (ze (List.range args.length) args) [] = some (x, e', h') →
              Calls P g us w fun e w' => ∃ u F', e = .returned u ∧ RV w' F' y7 u v ∧ (∀ b, F' b → b < w'.heap.size) ∧ Nxt (own fun b => w.heap.size ≤ b) w F y7 w' F' y7 := by
            intro x e' h' hx hfin hev
            refine calls_of_wp hf hb (wB (m := 0) hrec hloop hf hb hbOK c 1 hev (Nat.le_refl _) rfl hB hS0 (OkC.own _ fun b hb => hb) hE0 hn0 rfl fun a' w' F' ρ' k1 k2 k3 kx k4 k5 => ?_)
            split at hfin
            · rename_i vs hvs
              split at hfin
              · rename_i v' h2 hg
                cases hfin
                obtain ⟨u, r1, r2⟩ := oZ k2 k1 hvs
                obtain ⟨F2, g1, g2, g3⟩ := jr y7 (zC vs) k2 r2 hg
                have : a'.defers = [] ∧ ∃ v', (results fn a'.tmps).run P w' = .ok v' w' ∧ ∃ u F', Ending.returned v' = .returned u ∧ RV w' F' y7 u v ∧ (∀ b, F' b → b < w'.heap.size) ∧ Nxt (own fun b => w.heap.size ≤ b) w F y7 w' F' y7 :=
                  ⟨k5, u, r1, u, F2, rfl, g1, g2.fsz, k3.trans (g3.forget (Ext.refl _))⟩
                rcases hx with hx | hx <;> rw [hx] <;> exact this
              · cases hfin
            · cases hfin
          split at hs
          · rename_i e' h' hev
            exact finish .normal e' h' (.inl rfl) hs hev
          · rename_i e' h' hev
            exact finish .ret e' h' (.inr rfl) hs hev
          · cases hs
      · cases hs
    · cases hs
  · intro gv g args h v h' hs
    simp only [step] at hs
    split at hs
    · rename_i x hx
      cases gv with
      | true => cases hs
      | false =>
        simp only [Bool.false_eq_true, if_false] at hs
        cases hs
        exact hE.o g args h _ _ hx
    split at hs
    · rename_i fn hf
      split at hs
      · rename_i c hb
        split at hs
        · cases hs
        · rename_i hc
          simp only [Bool.or_eq_true, decide_eq_true_eq, not_or, Bool.not_eq_true, Nat.not_lt] at hc
          obtain ⟨⟨c1, c2⟩, c3⟩ := hc
          refine ⟨⟨fn, hf, c2, by simp [hb]⟩, fun Ow w F ρ us hB hS hO hu => ?_⟩
          have hul := y8 hu
          have hbOK := hP g fn c c1 hf hb
          have hE0 : RE w F ρ ⟨us ++ Array.replicate (fn.ntmps - us.size) undef, []⟩ (ze (List.range args.length) args) := by
            refine uw _ _ ?_
            have := r7 us.toList args.length [] (List.replicate (fn.ntmps - us.size) undef) hul.symm
            simp only [List.length_nil, List.nil_append] at this
            rw [List.range_eq_range']
            have e0 : (⟨us ++ Array.replicate (fn.ntmps - us.size) undef, []⟩ : Act) = ⟨(us.toList ++ List.replicate (fn.ntmps - us.size) undef).toArray, []⟩ := by
              congr 1
              apply Array.ext'
              simp
            rw [e0, this]
            exact hu
          have hn0 : (us ++ Array.replicate (fn.ntmps - us.size) undef).size = fn.ntmps := by simp at hul ⊢; omega
          have finish : ∀ (x : Exi) e' h1, (exi x = .normal ∨ exi x = .ret) → oY gv h.length (wW P e' h1 fn.results.toList) h1 = some (.call v h') → evC P pol rec g h.length c 1 (ze (List.range args.length) args) h = some (x, e', h1) →
              Calls P g us w fun e w' => ∃ u F' ρ', e = .returned u ∧ RV w' F' ρ' u v ∧ St w' F' ρ' Ow h' ∧ Nxt Ow w F y7 w' F' y7 ∧ ∀ r l, r < h.length → ρ r = some l → ρ' r = some l := by
            intro x e' h1 hx hfin hev
            refine calls_of_wp hf hb (wB (m := h.length) hrec hloop hf hb hbOK c 1 hev (Nat.le_refl _) rfl hB hS hO hE0 hn0 rfl fun a' w' F' ρ' k1 k2 k3 kx k4 k5 => ?_)
            unfold oY at hfin
            split at hfin
            · rename_i vs hvs
              obtain ⟨u, r1, r2⟩ := oZ k2 k1 hvs
              cases gv with
              | false =>
                simp only [Bool.false_eq_true, if_false] at hfin
                cases hfin
                have hnd : (reach h1 3 (yC (List.range h.length) (refs.refss vs))).Nodup := tM h1 3 _ (wI _ _ List.nodup_range)
                have hfirst := r9 h.length vs h1
                have hS2 := qf hnd k2
                have hv : ∀ l : List V, ren (idx (reach h1 3 (yC (List.range h.length) (refs.refss vs)))) (zC l) = zC (ren.rens (idx (reach h1 3 (yC (List.range h.length) (refs.refss vs)))) l) := fun l => by
                  match l with
                  | [] => rfl
                  | [a] => rfl
                  | a :: b :: l => rfl
                have : a'.defers = [] ∧ ∃ v', (results fn a'.tmps).run P w' = .ok v' w' ∧ ∃ u F' ρ', Ending.returned v' = .returned u ∧ RV w' F' ρ' u (zC (yo h.length vs h1).1) ∧ St w' F' ρ' Ow (yo h.length vs h1).2 ∧ Nxt Ow w F y7 w' F' y7 ∧ ∀ r l, r < h.length → ρ r = some l → ρ' r = some l :=
                  ⟨k5, u, r1, u, F', yj ρ' _, rfl, by have := Sn (reach h1 3 (yC (List.range h.length) (refs.refss vs))) _ r2; rw [hv] at this; exact this, hS2, k3, fun r l hr hl => by simp [yj, hfirst r hr, kx r l hr hl]⟩
                rcases hx with hx | hx <;> rw [hx] <;> exact this
              | true =>
                simp only [if_true] at hfin
                split at hfin
                · rename_i v' h2 hg
                  cases hfin
                  obtain ⟨F2, g1, g2, g3⟩ := jr y7 (zC vs) k2 r2 hg
                  have hnd : (reach h2 3 (yC (List.range h.length) (refs.refss []))).Nodup := tM h2 3 _ (wI _ _ List.nodup_range)
                  have hfirst := r9 h.length [] h2
                  have hS2 := qf hnd g2
                  have : a'.defers = [] ∧ ∃ v', (results fn a'.tmps).run P w' = .ok v' w' ∧ ∃ u F' ρ', Ending.returned v' = .returned u ∧ RV w' F' ρ' u v ∧ St w' F' ρ' Ow (yo h.length [] h2).2 ∧ Nxt Ow w F y7 w' F' y7 ∧ ∀ r l, r < h.length → ρ r = some l → ρ' r = some l :=
                    ⟨k5, u, r1, u, F2, yj ρ' _, rfl, g1.mono (fun _ _ => rfl) (fun _ x => x) (nq _), hS2, k3.trans (g3.forget (Ext.refl _)), fun r l hr hl => by simp [yj, hfirst r hr, kx r l hr hl]⟩
                  rcases hx with hx | hx <;> rw [hx] <;> exact this
                · cases hfin
            · cases hfin
          split at hs
          · rename_i e' h1 hev
            exact finish .normal e' h1 (.inl rfl) hs hev
          · rename_i e' h1 hev
            exact finish .ret e' h1 (.inr rfl) hs hev
          · cases hs
      · cases hs
    · cases hs
  · intro f p m vals h x outs h' hs
    simp only [step] at hs
    split at hs
    · rename_i fn hf
      split at hs
      · rename_i c hb
        split at hs
        · rename_i b hat
          refine ⟨fn, c, b, hf, hb, hat, fun hp hbOK Ow w F ρ a Q hB hS hO hv hn hd hQ => ?_⟩
          have hat' : yH c (turns (2 * p)) = some b := by
            have := vr hp 0 (by omega); simp only [Nat.add_zero] at this
            rw [this, yF _ _ _ _ hat]; rfl
          have body : b.wp P (Exit.then (pq P b Q) Q) a w := by
            split at hs
            · rename_i e1 h1 hev
              refine wB hrec hloop hf hb hbOK b (2 * p) hev (by omega) hat' hB hS hO (uw _ _ hv) hn hd fun a' w' F' ρ' k1 k2 k3 kx k4 k5 => ?_
              obtain ⟨fn2, c2, b2, i1, i2, i3, i4⟩ := hloop f p m _ _ _ _ _ hs
              rw [hf] at i1; cases i1
              rw [hb] at i2; cases i2
              rw [hat] at i3; cases i3
              obtain ⟨ρ2, j1, j2, jp⟩ := jk (m := m) k2 (vT k1 (pol.live f p))
              exact (i4 hp hbOK Ow w' F' ρ2 a' Q (hB.next k3) j2 (hO.mono k3.size) j1 k4 k5 fun a2 w2 F2 ρ2' l1 l2 l3 lx l4 l5 => hQ a2 w2 F2 ρ2' l1 l2 (k3.trans l3) (fun r l hr hl => lx r l hr ((jp r hr).trans (kx r l hr hl))) l4 l5).2
            · rename_i x' e1 h1 hne hev
              cases hs
              refine wB hrec hloop hf hb hbOK b (2 * p) hev (by omega) hat' hB hS hO (uw _ _ hv) hn hd fun a' w' F' ρ' k1 k2 k3 kx k4 k5 => ?_
              obtain ⟨ρ2, j1, j2, jp⟩ := jk (m := m) k2 (vT k1 (pol.outs f p))
              have := hQ a' w' F' ρ2 (uw _ _ j1) j2 k3 (fun r l hr hl => (jp r hr).trans (kx r l hr hl)) k4 k5
              cases x with
              | normal => exact absurd rfl hne
              | exit id => exact this
              | ret => exact this
            · cases hs
          exact ⟨UT body, eY body⟩
        · cases hs
      · cases hs
    · cases hs
theorem aS {W0 : World} {pol : Pol} (hE : mR P W0 pol) (hP : ∀ f fn c, pol.no f = false → P.funcs[f]? = some fn → fn.body = some c → x7 (ou P pol f) fn.ntmps c = true) : ∀ n, xY P W0 (it P pol n) ∧ jX P W0 pol (it P pol n)
  | 0 => ⟨⟨fun g args v hs => by simp [it] at hs, fun gv g args h v h' hs => by simp [it] at hs⟩, fun f p m vals h x outs h' hs => by simp [it] at hs⟩
  | n + 1 => Uw hE hP (aS hE hP n).1 (aS hE hP n).2
end Go.Proofs.YtmcephnfcciloaaGreatDoor.E
/- The evaluator without a bound on rounds: its answers, its equations. Conditions: those of each lemma. -/
namespace Go.Proofs.YtmcephnfcciloaaGreatDoor.E
set_option linter.unusedVariables false
set_option linter.unusedSimpArgs false
variable {P : Program} {pol : Pol}
open Classical in
/-- what the evaluator answers, with as many rounds as it takes -/
noncomputable def EV (P : Program) (pol : Pol) : Rec := fun req => if h : ∃ r, ∃ n, it P pol n req = some r then some h.choose else none
def Le (a b : Rec) : Prop := ∀ req r, a req = some r → b req = some r
structure yd {α : Type} (P : Program) (pol : Pol) (G : Rec → Option α) : Prop where
  mono : ∀ a b, Le a b → ∀ r, G a = some r → G b = some r
  cont : (∀ n, Le (it P pol n) (it P pol (n + 1))) → ∀ r, G (EV P pol) = some r → ∃ n, G (it P pol n) = some r
theorem yd.const {α : Type} (x : Option α) : yd P pol (fun _ => x) := ⟨fun _ _ _ _ h => h, fun _ r h => ⟨0, h⟩⟩
theorem Le.le (hm : ∀ n, Le (it P pol n) (it P pol (n + 1))) {n m : Nat} (h : n ≤ m) : Le (it P pol n) (it P pol m) := by
  induction h with
  | refl => exact fun _ _ x => x
  | step _ ih => exact fun req r x => hm _ req r (ih req r x)
theorem yd.req (req : Req) : yd P pol (fun rec => rec req) := by
  refine ⟨fun a b h r hr => h req r hr, fun hm r hr => ?_⟩
  unfold EV at hr
  split at hr
  · rename_i hx
    obtain ⟨n, hn⟩ := hx.choose_spec
    cases hr
    exact ⟨n, hn⟩
  · cases hr
theorem yd.bind {α β : Type} {G : Rec → Option α} {H : α → Rec → Option β} (hG : yd P pol G) (hH : ∀ a, yd P pol (H a)) : yd P pol (fun rec => (G rec).bind fun a => H a rec) := by
  refine ⟨fun a b h r hr => ?_, fun hm r hr => ?_⟩
  · cases hg : G a with
    | none => simp [hg] at hr
    | some x =>
      simp only [hg, Option.bind_some] at hr
      simp only [hG.mono a b h x hg, Option.bind_some]
      exact (hH x).mono a b h r hr
  · cases hg : G (EV P pol) with
    | none => simp [hg] at hr
    | some x =>
      simp only [hg, Option.bind_some] at hr
      obtain ⟨n, hn⟩ := hG.cont hm x hg
      obtain ⟨m, hm'⟩ := (hH x).cont hm r hr
      refine ⟨max n m, ?_⟩
      simp only [hG.mono _ _ (Le.le hm (Nat.le_max_left n m)) x hn, Option.bind_some]
      exact (hH x).mono _ _ (Le.le hm (Nat.le_max_right n m)) r hm'
theorem yd.congr {α : Type} {G G' : Rec → Option α} (h : ∀ rec, G' rec = G rec) (hG : yd P pol G) : yd P pol G' := by
  have : G' = G := funext h
  rw [this]; exact hG
theorem vV (g : Nat) (args : List V) : yd P pol (fun rec => zE rec g args) :=
  (yd.bind (yd.req (.call g args [])) (fun r => yd.const (match r with | .call v [] => some v | _ => none))).congr fun rec => by
    unfold zE
    cases rec (.call g args []) with
    | none => rfl
    | some r => cases r with
      | call v h => cases h <;> rfl
      | loop => rfl
theorem ir (f : Nat) (N : Option Nat) (dst : Option Nat) (g : Nat) (args : List V) (h : Heap) : yd P pol (fun rec => wO pol rec f N dst g args h) := by
  unfold wO
  cases pol.pm f (dst.getD 0) with
  | pure =>
    simp only
    cases asArg.asArgs args with
    | none =>
      simp only
      cases zd.snapVs h args with
      | none => exact yd.const none
      | some az => exact (yd.bind (vV g az) (fun v => yd.const (if zg v then some (v, h) else none))).congr fun rec => by simp only; cases zE rec g az <;> rfl
    | some az => exact (yd.bind (vV g az) (fun v => yd.const (some (v, h)))).congr fun rec => by simp only; cases zE rec g az <;> rfl
  | frz =>
    simp only
    cases zy.gives h args with
    | none => exact yd.const none
    | some x => exact (yd.bind (vV g x.1) (fun v => yd.const (some (v, x.2)))).congr fun rec => by simp only; cases zE rec g x.1 <;> rfl
  | opn gv =>
    show yd P pol (fun rec => (match rec (.callO gv g (yo 0 args h).1 (yo 0 args h).2) with
      | some (.call v h1) => yN N (xg h args) v h1 h
      | _ => none))
    refine (yd.bind (yd.req (.callO gv g (yo 0 args h).1 (yo 0 args h).2)) (fun r => yd.const (match r with | .call v h1 => yN N (xg h args) v h1 h | _ => none))).congr fun rec => ?_
    generalize rec (.callO gv g (yo 0 args h).1 (yo 0 args h).2) = x
    cases x with
    | none => rfl
    | some r => cases r <;> rfl
  | brw => exact yd.const none
theorem dv (g : Nat) (args : List V) (h : Heap) : yd P pol (fun rec => qF rec g args h) := by
  unfold qF
  cases zd.snapVs h args with
  | none => exact yd.const none
  | some az =>
    refine (yd.bind (yd.req (.callO false g az [])) (fun r => yd.const (match r with | .call v h1 => (if xf v && h1.all tr then yN none [] v h1 h else none) | _ => none))).congr fun rec => ?_
    simp only
    generalize rec (.callO false g az []) = x
    cases x with
    | none => rfl
    | some r => cases r <;> rfl
theorem so (f : Nat) (N : Option Nat) (o : Oper) (e : Env) (h : Heap) : yd P pol (fun rec => yc P pol rec f N o e h) := by
  obtain ⟨dst, op, ty, pos, after, guard⟩ := o
  cases op with
  | call c =>
    obtain ⟨callee, args, tys⟩ := c
    cases callee with
    | value x =>
      simp only [yc]
      cases fnV (opv P e 0 x) with
      | none => exact yd.const none
      | some y => exact ir f N dst y.1 _ h
    | builtin b => exact yd.const (blt P N b tys.toList (yI P e args.toList tys.toList) h)
    | invoke r m => exact yd.const none
  | makeFunc fn first caps => cases fn <;> exact yd.const _
  | _ => simp only [yc]; exact yd.const _
theorem dj (f : Nat) (o : Oper) (e : Env) (h : Heap) : yd P pol (fun rec => vy P pol rec f o e h) := by
  unfold vy
  split
  rotate_left
  · exact so f none o e h
  have old : ∀ {G : Rec → Option (V × Heap)}, (∀ rec, G rec = none) → yd P pol (fun rec => match G rec with | some r => some r | none => yc P pol rec f none o e h) := fun hG =>
    (so f none o e h).congr fun rec => by rw [hG rec]
  have one : ∀ (x : Option (V × Heap)), yd P pol (fun rec => match x with | some r => some r | none => yc P pol rec f none o e h) := fun x => by
    cases x with
    | none => exact so f none o e h
    | some r => exact yd.const _
  obtain ⟨dst, op, ty, pos, after, guard⟩ := o
  cases op with
  | buildSlice t len parts => exact one _
  | makeSlice t l c => exact one _
  | call c =>
    obtain ⟨callee, args, tys⟩ := c
    cases callee with
    | builtin b => exact one _
    | invoke r m => exact old fun rec => rfl
    | value x =>
      simp only [xa]
      cases hx : fnV (opv P e 0 x) with
      | none => exact old fun rec => rfl
      | some y =>
        simp only
        cases hp : pol.pm f (dst.getD 0) with
        | brw =>
          refine (dv y.1 (yI P e args.toList tys.toList ++ y.2) h).congr fun rec => ?_
          simp only [yc, hx, wO, hp]
          cases qF rec y.1 (yI P e args.toList tys.toList ++ y.2) h <;> rfl
        | _ => exact old fun rec => rfl
  | _ => exact old fun rec => rfl
theorem pX (f : Nat) (ops : Array Oper) (o : Oper) (e : Env) (h : Heap) : yd P pol (fun rec => wC P pol rec f ops o e h) := by
  unfold wC
  cases want ops o e with
  | none => exact yd.const none
  | some b => cases b with
    | false => exact yd.const _
    | true => exact (yd.bind (dj f o e h) (fun x => yd.const (some (put e o.dst x.1, x.2)))).congr fun rec => by simp only; cases vy P pol rec f o e h <;> rfl
theorem nB (f : Nat) (N : Option Nat) (ops : Array Oper) (o : Oper) (e : Env) (h : Heap) : yd P pol (fun rec => tq P pol rec f N ops o e h) := by
  unfold tq
  cases want ops o e with
  | none => exact yd.const none
  | some b => cases b with
    | false => exact yd.const _
    | true => exact (yd.bind (so f N o e h) (fun x => yd.const (some (put e o.dst x.1, x.2)))).congr fun rec => by simp only; cases yc P pol rec f N o e h <;> rfl
theorem nA (f : Nat) (ops : Array Oper) : ∀ (l : List Oper) (e : Env) (h : Heap), yd P pol (fun rec => rB P pol rec f ops l e h)
  | [], e, h => yd.const _
  | o :: l, e, h => (yd.bind (pX f ops o e h) (fun x => nA f ops l x.1 x.2)).congr fun rec => by simp only [rB]; cases wC P pol rec f ops o e h <;> rfl
theorem pW (f : Nat) (ops : Array Oper) : ∀ (l : List Oper) (e : Env) (h : Heap), yd P pol (fun rec => wN P pol rec f ops l e h)
  | [], e, h => yd.const _
  | o :: l, e, h => (yd.bind (nB f none ops o e h) (fun x => pW f ops l x.1 x.2)).congr fun rec => by simp only [wN]; cases tq P pol rec f none ops o e h <;> rfl
theorem fR (f : Nat) (ops : Array Oper) : ∀ (Ns : List (Option Nat)) (l : List Oper) (e : Env) (h : Heap), yd P pol (fun rec => evD P pol rec f ops Ns l e h)
  | [], [], e, h => yd.const _
  | [], _ :: _, e, h => yd.const none
  | _ :: _, [], e, h => yd.const none
  | N :: Ns, o :: l, e, h => (yd.bind (nB f N ops o e h) (fun x => yd.bind (fR f ops Ns l x.1 x.2) (fun y => yd.const (some (yw N o e h :: y.1, y.2.1, y.2.2))))).congr fun rec => by
    simp only [evD]
    cases tq P pol rec f N ops o e h with
    | none => rfl
    | some x => simp only [Option.bind_some]; cases evD P pol rec f ops Ns l x.1 x.2 <;> rfl
theorem fP (f : Nat) (ops : Array Oper) : ∀ (l : List Oper) (e : Env) (h : Heap), yd P pol (fun rec => evR P pol rec f ops l e h)
  | [], e, h => yd.const _
  | o :: l, e, h => (yd.bind (pX f ops o e h) (fun x => yd.bind (fP f ops l x.1 x.2) (fun y => yd.const (some ((h.length :: yw none o e h) :: y.1, y.2.1, y.2.2))))).congr fun rec => by
    simp only [evR]
    cases wC P pol rec f ops o e h with
    | none => rfl
    | some x => simp only [Option.bind_some]; cases evR P pol rec f ops l x.1 x.2 <;> rfl
theorem Xp (f : Nat) (ops : Array Oper) (e : Env) (h : Heap) : yd P pol (fun rec => evZ P pol rec f ops e h) :=
  (yd.bind (fP f ops ops.toList e h) (fun y => yd.const (if zOK pol f ops y.1 then some (y.2.1, y.2.2) else none))).congr fun rec => by
    unfold evZ
    cases evR P pol rec f ops ops.toList e h <;> rfl
theorem iq (f : Nat) (ops : Array Oper) (e : Env) (h : Heap) : yd P pol (fun rec => s9 P pol rec f ops e h) :=
  (yd.bind (fR f ops (ve pol f h.length ops.toList) ops.toList e (h ++ List.replicate (wD pol f ops.toList) .dead)) (fun y => yd.const (if eD pol f ops y.1 then some (y.2.1, y.2.2) else none))).congr fun rec => by
    unfold s9
    cases evD P pol rec f ops (ve pol f h.length ops.toList) ops.toList e (h ++ List.replicate (wD pol f ops.toList) .dead) <;> rfl
theorem wY (f m : Nat) : ∀ (c : Code) (p : Nat) (e : Env) (h : Heap), yd P pol (fun rec => evC P pol rec f m c p e h)
  | .skip, p, e, h => yd.const _
  | .exit _, p, e, h => yd.const _
  | .ret, p, e, h => yd.const _
  | .seq a b, p, e, h => (yd.bind (wY f m a (2 * p) e h) (fun x => (match x with
      | (.normal, e', h') => wY f m b (2 * p + 1) e' h'
      | (.exit id, e', h') => yd.const (some (Exi.exit id, e', h'))
      | (.ret, e', h') => yd.const (some (Exi.ret, e', h')) : yd P pol (fun rec => match x with
      | (.normal, e', h') => evC P pol rec f m b (2 * p + 1) e' h'
      | (.exit id, e', h') => some (.exit id, e', h')
      | (.ret, e', h') => some (.ret, e', h'))))).congr fun rec => by
        simp only [evC]
        cases evC P pol rec f m a (2 * p) e h with
        | none => rfl
        | some x => obtain ⟨x, e', h'⟩ := x; cases x <;> rfl
  | .cond c a b, p, e, h => by
    simp only [evC]
    split
    · rename_i t ht
      cases t with
      | true => exact wY f m a (2 * p) e h
      | false => exact wY f m b (2 * p + 1) e h
    · exact yd.const none
  | .block id c, p, e, h => (yd.bind (wY f m c (2 * p) e h) (fun x => yd.const (match x with
      | (.exit id', e', h') => if id' = id then some (.normal, e', h') else some (.exit id', e', h')
      | r => some r))).congr fun rec => by
        simp only [evC]
        cases evC P pol rec f m c (2 * p) e h with
        | none => rfl
        | some x => obtain ⟨x, e', h'⟩ := x; cases x <;> rfl
  | .loop _, p, e, h => (yd.bind (yd.req (.loop f p m (yo m ((pol.live f p).map e) h).1 (yo m ((pol.live f p).map e) h).2)) (fun x => yd.const (match x with
      | .loop x vals h' => some (x, ze (pol.outs f p) vals, h')
      | _ => none))).congr fun rec => by
        simp only [evC]
        cases rec (.loop f p m (yo m ((pol.live f p).map e) h).1 (yo m ((pol.live f p).map e) h).2) with
        | none => rfl
        | some x => cases x <;> rfl
  | .region id ops draw, p, e, h => by
    simp only [evC]
    split
    · exact yd.const none
    · split
      · split
        · exact (yd.bind (Xp f ops e h) (fun x => yd.const (some (Exi.normal, x.1, x.2)))).congr fun rec => by cases evZ P pol rec f ops e h <;> rfl
        · exact (yd.bind (iq f ops e h) (fun x => yd.const (some (Exi.normal, x.1, x.2)))).congr fun rec => by cases s9 P pol rec f ops e h <;> rfl
      · split
        · exact (yd.bind (pW f ops ops.toList e h) (fun x => yd.const (some (Exi.normal, x.1, x.2)))).congr fun rec => by cases wN P pol rec f ops ops.toList e h <;> rfl
        · exact (yd.bind (nA f ops ops.toList e (ghH (pol.gh f id) e h)) (fun x => yd.const (some (Exi.normal, x.1, x.2)))).congr fun rec => by cases rB P pol rec f ops ops.toList e (ghH (pol.gh f id) e h) <;> rfl
  | .rangeFunc _ _ _ _, p, e, h => yd.const _
  | .scope _, p, e, h => yd.const _
  | .label _, p, e, h => yd.const _
  | .goto _, p, e, h => yd.const _
  | .refuse _, p, e, h => yd.const _
theorem lg (req : Req) : yd P pol (fun rec => step P pol rec req) := by
  cases req with
  | call f args h =>
    simp only [step]
    cases pol.ext f args with
    | some v => exact yd.const _
    | none =>
    simp only
    cases P.funcs[f]? with
    | none => exact yd.const none
    | some fn =>
      simp only
      cases fn.body with
      | none => exact yd.const none
      | some c =>
        simp only
        split
        · exact yd.const none
        · refine (yd.bind (wY f h.length c 1 (ze (List.range args.length) args) h) (fun x => yd.const (match x with
            | (.normal, e', h') => (match wW P e' h' fn.results.toList with
              | some vs => match zy h' (zC vs) with
                | some (v, h'') => some (xN.call v (h''.take h.length))
                | none => none
              | none => none)
            | (.ret, e', h') => (match wW P e' h' fn.results.toList with
              | some vs => match zy h' (zC vs) with
                | some (v, h'') => some (xN.call v (h''.take h.length))
                | none => none
              | none => none)
            | _ => none))).congr fun rec => ?_
          cases evC P pol rec f h.length c 1 (ze (List.range args.length) args) h with
          | none => rfl
          | some x => obtain ⟨x, e', h'⟩ := x; cases x <;> rfl
  | callO gv f args h =>
    simp only [step]
    cases pol.extO f args h with
    | some x => exact yd.const _
    | none =>
    simp only
    cases P.funcs[f]? with
    | none => exact yd.const none
    | some fn =>
      simp only
      cases fn.body with
      | none => exact yd.const none
      | some c =>
        simp only
        split
        · exact yd.const none
        · refine (yd.bind (wY f h.length c 1 (ze (List.range args.length) args) h) (fun x => yd.const (match x with
            | (.normal, e', h') => oY gv h.length (wW P e' h' fn.results.toList) h'
            | (.ret, e', h') => oY gv h.length (wW P e' h' fn.results.toList) h'
            | _ => none))).congr fun rec => ?_
          cases evC P pol rec f h.length c 1 (ze (List.range args.length) args) h with
          | none => rfl
          | some x => obtain ⟨x, e', h'⟩ := x; cases x <;> rfl
  | loop f p m vals h =>
    simp only [step]
    cases P.funcs[f]? with
    | none => exact yd.const none
    | some fn =>
      simp only
      cases fn.body with
      | none => exact yd.const none
      | some c =>
        simp only
        split
        · rename_i b hb
          refine (yd.bind (wY f m b (2 * p) (ze (pol.live f p) vals) h) (fun x => (match x with
            | (.normal, e', h') => yd.req (.loop f p m (yo m ((pol.live f p).map e') h').1 (yo m ((pol.live f p).map e') h').2)
            | (.exit id, e', h') => yd.const (some (xN.loop (.exit id) (yo m ((pol.outs f p).map e') h').1 (yo m ((pol.outs f p).map e') h').2))
            | (.ret, e', h') => yd.const (some (xN.loop .ret (yo m ((pol.outs f p).map e') h').1 (yo m ((pol.outs f p).map e') h').2)) : yd P pol (fun rec => match x with
            | (.normal, e', h') => rec (.loop f p m (yo m ((pol.live f p).map e') h').1 (yo m ((pol.live f p).map e') h').2)
            | (.exit id, e', h') => some (.loop (.exit id) (yo m ((pol.outs f p).map e') h').1 (yo m ((pol.outs f p).map e') h').2)
            | (.ret, e', h') => some (.loop .ret (yo m ((pol.outs f p).map e') h').1 (yo m ((pol.outs f p).map e') h').2))))).congr fun rec => ?_
          cases evC P pol rec f m b (2 * p) (ze (pol.live f p) vals) h with
          | none => rfl
          | some x => obtain ⟨x, e', h'⟩ := x; cases x <;> rfl
        · exact yd.const none
theorem qt : ∀ n, Le (it P pol n) (it P pol (n + 1))
  | 0 => fun req r h => by simp [it] at h
  | n + 1 => fun req r h => (lg req).mono _ _ (qt n) r h
theorem EV_of {n : Nat} {req : Req} {r : xN} (h : it P pol n req = some r) : EV P pol req = some r := by
  unfold EV
  have hx : ∃ r, ∃ n, it P pol n req = some r := ⟨r, n, h⟩
  rw [dif_pos hx]
  obtain ⟨m, hm⟩ := hx.choose_spec
  have h1 := Le.le qt (Nat.le_max_left n m) req r h
  have h2 := Le.le qt (Nat.le_max_right n m) req _ hm
  rw [h1] at h2
  exact h2.symm
theorem Se {req : Req} {r : xN} (h : EV P pol req = some r) : ∃ n, it P pol n req = some r := (yd.req req).cont qt r h
/-- one step from the evaluator's own answers -/
theorem qB {req : Req} {r : xN} (h : step P pol (EV P pol) req = some r) : EV P pol req = some r := by
  obtain ⟨n, hn⟩ := (lg req).cont qt r h
  exact EV_of (n := n + 1) hn
/-- what is shown by other means -/
theorem pt {g : Nat} {args : List V} {v : V} (h : pol.ext g args = some v) : EV P pol (.call g args []) = some (.call v []) := by
  apply qB
  simp [step, h]
theorem TK {g : Nat} {args : List V} {h : Heap} {x : V × Heap} (hx : pol.extO g args h = some x) : EV P pol (.callO false g args h) = some (.call x.1 x.2) := by
  apply qB
  simp [step, hx]
theorem TL {W0 : World} (hE : mR P W0 pol) (hP : ∀ f fn c, pol.no f = false → P.funcs[f]? = some fn → fn.body = some c → x7 (ou P pol f) fn.ntmps c = true) {g : Nat} {args : List V} {v : V} (h : EV P pol (.call g args []) = some (.call v [])) :
    ∀ (w : World) (F : Nat → Prop) (us : Array Value), v7 W0 w F → (∀ b, F b → b < w.heap.size) → RVs w F y7 us.toList args →
      Calls P g us w fun e w' => ∃ u F', e = .returned u ∧ RV w' F' y7 u v ∧ (∀ b, F' b → b < w'.heap.size) ∧ Nxt (own fun b => w.heap.size ≤ b) w F y7 w' F' y7 := by
  obtain ⟨n, hn⟩ := Se h
  exact ((aS hE hP n).1.clo g args v hn).2
theorem mG {W0 : World} (hE : mR P W0 pol) (hP : ∀ f fn c, pol.no f = false → P.funcs[f]? = some fn → fn.body = some c → x7 (ou P pol f) fn.ntmps c = true) {gv : Bool} {g : Nat} {args : List V} {h h' : Heap} {v : V} (hv : EV P pol (.callO gv g args h) = some (.call v h')) :
    (∃ fn, P.funcs[g]? = some fn ∧ (fn.name == "runtime.NumGoroutine") = false ∧ fn.body.isNone = false) ∧
    ∀ (Ow : Own) (w : World) (F : Nat → Prop) (ρ : ym) (us : Array Value), v7 W0 w F → St w F ρ Ow h → OkC Ow w → RVs w F ρ us.toList args →
      Calls P g us w fun e w' => ∃ u F' ρ', e = .returned u ∧ RV w' F' ρ' u v ∧ St w' F' ρ' Ow h' ∧ Nxt Ow w F y7 w' F' y7 ∧ ∀ r l, r < h.length → ρ r = some l → ρ' r = some l := by
  obtain ⟨n, hn⟩ := Se hv
  exact (aS hE hP n).1.opn gv g args h v h' hn
end Go.Proofs.YtmcephnfcciloaaGreatDoor.E
/- From the evaluator's answer to a law's row: what is read as data is what the evaluator works on. Conditions: those of each lemma. -/
namespace Go.Proofs.YtmcephnfcciloaaGreatDoor.E
set_option linter.unusedVariables false
set_option linter.unusedSimpArgs false
/-- cells of a type -/
inductive WT (P : Program) : TypeId → List T → Prop
  | int (t : TypeId) (k : IntKind) (n : Int) (h : P.underlying t = some (.int k)) (hw : (Lit.int k n).wf = true) : WT P t [.int k n]
  | bool (t : TypeId) (b : Bool) (h : P.underlying t = some .bool) : WT P t [.bool b]
  | str (t : TypeId) (l : List UInt8) (h : P.underlying t = some .string) (hl : l.length ≤ maxLen) : WT P t [.str l]
  | list (t e : TypeId) (es : List (List T)) (h : P.underlying t = some (.slice e)) (hl : es.length ≤ maxLen) (hs : ∀ c ∈ es, WT P e c) : WT P t [.list (P.cellsOf e) es]
  | struct (t : TypeId) (fs : Array Go.Field) (cs : List T) (h : P.underlying t = some (.struct fs)) (hl : cs.length = P.cellsOf t)
      (hs : ∀ f ∈ fs.toList, WT P f.type ((cs.drop f.offset).take (P.cellsOf f.type))) : WT P t cs
inductive WTA (P : Program) : List TypeId → List V → Prop
  | nil : WTA P [] []
  | cons (t : TypeId) (ts : List TypeId) (cs : List T) (v : V) (vs : List V) (h : WT P t cs) (hp : zh (y9 P t) (cs.map .t) = some v) (hs : WTA P ts vs) : WTA P (t :: ts) (v :: vs)
/-- fields one behind the other -/
def j7 (P : Program) (size : Nat) : Nat → List Go.Field → Bool
  | o, [] => o == size
  | o, f :: fs => f.offset == o && j7 P size (o + P.cellsOf f.type) fs
/-- a closed set of plain types -/
def oD (P : Program) (l : List TypeId) : Bool := l.all fun t => match P.underlying t with
  | some (.int _) | some .bool | some .string => P.cellsOf t == 1
  | some (.slice e) => l.contains e && decide (0 < P.cellsOf e) && P.cellsOf t == 1
  | some (.struct fs) => (fs.toList.all fun f => l.contains f.type) && j7 P (P.cellsOf t) 0 fs.toList
  | _ => false
theorem mapM_some {α β : Type} {f : α → Option β} : ∀ {l : List α} {r : List β}, l.mapM f = some r → r.length = l.length ∧ ∀ (i : Nat) (x : α), l[i]? = some x → ∃ y, r[i]? = some y ∧ f x = some y
  | [], r, h => by simp at h; subst h; exact ⟨rfl, fun i x hi => by simp at hi⟩
  | a :: l, r, h => by
    rw [List.mapM_cons] at h
    cases ha : f a with
    | none => simp [ha] at h
    | some b =>
      cases hl : l.mapM f with
      | none => simp [ha, hl] at h
      | some r' =>
        simp [ha, hl] at h
        subst h
        obtain ⟨h1, h2⟩ := mapM_some hl
        refine ⟨by simp [h1], fun i x hi => ?_⟩
        cases i with
        | zero => simp at hi; subst hi; exact ⟨b, rfl, ha⟩
        | succ i => exact h2 i x (by simpa using hi)
theorem uV {w : World} {base : Nat} {a : Addr} {n : Nat} {cs : List Value} (h : w.cells? base a n = some cs) : cs.length = n ∧ ∀ j, j < n → ∃ u, cs[j]? = some u ∧ w.cell? (a.add j) = some u := by
  unfold World.cells? at h
  split at h
  · obtain ⟨h1, h2⟩ := mapM_some h
    refine ⟨by simpa using h1, fun j hj => ?_⟩
    obtain ⟨u, e1, e2⟩ := h2 j j (by simp [hj])
    exact ⟨u, e1, e2⟩
  · cases h
variable {P : Program} {w : World} {H : Type} {enc : TypeId × Value → H}
theorem UI {l : List TypeId} (ho : oD P l = true) {t : TypeId} (ht : t ∈ l) : (match P.underlying t with
  | some (.int _) | some .bool | some .string => P.cellsOf t == 1
  | some (.slice e) => l.contains e && decide (0 < P.cellsOf e) && P.cellsOf t == 1
  | some (.struct fs) => (fs.toList.all fun f => l.contains f.type) && j7 P (P.cellsOf t) 0 fs.toList
  | _ => false) = true := List.all_eq_true.1 ho t ht
theorem ki {size : Nat} {cs : List Value} (hcs : cs.length = size) : ∀ (fs : List Go.Field) (o : Nat), j7 P size o fs = true →
    (∀ f ∈ fs, ∃ ts, RTs w (fun b => b < w.heap.size) ((cs.drop f.offset).take (P.cellsOf f.type)) ts ∧ WT P f.type ts) →
    o ≤ size ∧ ∃ ts, RTs w (fun b => b < w.heap.size) (cs.drop o) ts ∧ ∀ f ∈ fs, o ≤ f.offset ∧ WT P f.type ((ts.drop (f.offset - o)).take (P.cellsOf f.type))
  | [], o, hr, _ => by
    simp only [j7, beq_iff_eq] at hr
    subst hr
    exact ⟨Nat.le_refl _, [], by rw [List.drop_of_length_le (by omega)]; exact .nil, fun f hf => by cases hf⟩
  | f :: fs, o, hr, he => by
    simp only [j7, Bool.and_eq_true, beq_iff_eq] at hr
    obtain ⟨rfl, hr⟩ := hr
    obtain ⟨k1, ts', k2, k3⟩ := ki hcs fs _ hr (fun g hg => he g (by simp [hg]))
    obtain ⟨tf, t1, t2⟩ := he f (by simp)
    have hlen : tf.length = P.cellsOf f.type := by rw [← y8 t1]; simp; omega
    refine ⟨by omega, tf ++ ts', ?_, fun g hg => ?_⟩
    · have := yG t1 k2
      rwa [← List.drop_drop, List.take_append_drop] at this
    · rcases List.mem_cons.1 hg with rfl | hg
      · refine ⟨Nat.le_refl _, ?_⟩
        rw [Nat.sub_self, List.drop_zero, List.take_append_of_le_length (by omega), List.take_of_length_le (by omega)]
        exact t2
      · obtain ⟨g1, g2⟩ := k3 g hg
        refine ⟨by omega, ?_⟩
        have e1 : (tf ++ ts').drop (g.offset - f.offset) = ts'.drop (g.offset - (f.offset + P.cellsOf f.type)) := by
          rw [List.drop_append, List.drop_of_length_le (by omega), List.nil_append]
          congr 1; omega
        rw [e1]; exact g2
theorem Us {l : List TypeId} (ho : oD P l = true) {spare : Nat → Bool} {held : Bool} {base : Nat} : ∀ (n : Nat) (t : TypeId), t ∈ l → ∀ (cs : List Value) (x : DataW H × List MemPlace), DataW.trod enc P w base spare held n t cs = some x →
    ∃ ts : List T, RTs w (fun b => b < w.heap.size) cs ts ∧ WT P t ts := by
  intro n
  induction n with
  | zero => intro t _ cs x h; simp [DataW.trod] at h
  | succ n ih =>
    intro t ht cs x h
    have hok := UI ho ht
    unfold DataW.trod at h
    split at h
    · rename_i b hu
      exact ⟨[.bool b], .cons (.bool b) .nil, .bool t b hu⟩
    · rename_i k k' m hu
      split at h
      · rename_i hk
        obtain ⟨rfl, hw⟩ := hk
        exact ⟨[.int k' m], .cons (.int k' m) .nil, .int t k' m hu hw⟩
      · cases h
    · rename_i hu; rw [hu] at hok; cases hok
    · rename_i s hu
      split at h
      · rename_i hs
        exact ⟨[.str s.data.toList], .cons (.str s _ rfl) .nil, .str t _ hu (by simpa using hs)⟩
      · cases h
    · rename_i hu; rw [hu] at hok; cases hok
    · rename_i hu; rw [hu] at hok; cases hok
    · rename_i e hu
      refine ⟨[.list (P.cellsOf e) []], .cons (wL _ none _) .nil, .list t e [] hu (Nat.zero_le _) (fun c hc => by cases hc)⟩
    · rename_i e ad len cap hu
      rw [hu] at hok
      simp only [Bool.and_eq_true, List.contains_iff_mem, decide_eq_true_eq] at hok
      obtain ⟨⟨he, hpos⟩, hone⟩ := hok
      split at h
      · rename_i hc
        cases hm : (List.range len).mapM fun i => (w.cells? base (ad.add (i * P.cellsOf e)) (P.cellsOf e)).bind (DataW.trod enc P w base spare held n e) with
        | none => simp [hm] at h
        | some elems =>
          obtain ⟨m1, m2⟩ := mapM_some hm
          have each : ∀ i, i < len → ∃ (csi : List Value) (tsi : List T), w.cells? base (ad.add (i * P.cellsOf e)) (P.cellsOf e) = some csi ∧ RTs w (fun b => b < w.heap.size) csi tsi ∧ WT P e tsi := fun i hi => by
            obtain ⟨y, _, hy⟩ := m2 i i (by simp [hi])
            cases hcs : w.cells? base (ad.add (i * P.cellsOf e)) (P.cellsOf e) with
            | none => simp [hcs] at hy
            | some csi =>
              simp [hcs] at hy
              obtain ⟨tsi, t1, t2⟩ := ih e he csi y hy
              exact ⟨csi, tsi, rfl, t1, t2⟩
          have hex : ∃ f : Nat → List T, ∀ i, i < len → ∃ csi : List Value, w.cells? base (ad.add (i * P.cellsOf e)) (P.cellsOf e) = some csi ∧ RTs w (fun b => b < w.heap.size) csi (f i) ∧ WT P e (f i) :=
            ⟨fun i => if hi : i < len then (each i hi).choose_spec.choose else [], fun i hi => by
              simp only [hi, dif_pos]
              exact ⟨(each i hi).choose, (each i hi).choose_spec.choose_spec⟩⟩
          obtain ⟨f, hf⟩ := hex
          refine ⟨[.list (P.cellsOf e) ((List.range len).map f)], .cons ?_ .nil, .list t e _ hu (by simp; omega) (fun c hc => ?_)⟩
          · refine .list (some ad) len cap (P.cellsOf e) _ (fun i j => (w.cell? ((ad.add (i * P.cellsOf e)).add j)).getD undef) (by simp) hc.2.1 (fun hp => ?_) (fun c hc => ?_) (fun i j cs x hi hj => ?_)
            · obtain ⟨csi, e1, e2, e3⟩ := hf 0 hp
              obtain ⟨c1, c2⟩ := uV e1
              obtain ⟨u, u1, u2⟩ := c2 0 hpos
              have hadd0 : (ad.add (0 * P.cellsOf e)).add 0 = ad := by simp [Addr.add]
              rw [hadd0] at u2
              obtain ⟨b, o, spot⟩ := ad
              have hspot : spot = none := by
                cases spot with
                | none => rfl
                | some s => unfold World.cell? at u2; split at u2 <;> simp at u2
              subst hspot
              refine ⟨b, o, rfl, ?_, fun i j hi hj => ?_⟩
              · unfold World.cell? at u2
                split at u2
                · rename_i hh; exact (Array.getElem?_eq_some_iff.1 hh).1
                · cases u2
              · obtain ⟨csi, e1, e2, e3⟩ := hf i hi
                obtain ⟨c1, c2⟩ := uV e1
                obtain ⟨u, u1, u2⟩ := c2 j hj
                simp only [Addr.add_mid] at u2 ⊢
                rw [u2, show o + (i * P.cellsOf e + j) = o + i * P.cellsOf e + j by omega, u2]
                rfl
            · simp only [List.mem_map, List.mem_range] at hc
              obtain ⟨i, hi, rfl⟩ := hc
              obtain ⟨csi, e1, e2, e3⟩ := hf i hi
              rw [← y8 e2]; exact (uV e1).1
            · have hil : i < len := by have := (List.getElem?_eq_some_iff.1 hi).1; simpa using this
              simp [hil] at hi
              subst hi
              obtain ⟨csi, e1, e2, e3⟩ := hf i hil
              obtain ⟨c1, c2⟩ := uV e1
              obtain ⟨u, u1, u2⟩ := yr e2 j x hj
              have hjl : j < P.cellsOf e := by rw [← c1]; exact (List.getElem?_eq_some_iff.1 u1).1
              obtain ⟨u', u3, u4⟩ := c2 j hjl
              rw [u1] at u3; cases u3
              rw [u4]; exact u2
          · simp only [List.mem_map, List.mem_range] at hc
            obtain ⟨i, hi, rfl⟩ := hc
            exact (hf i hi).choose_spec.2.2
      · cases h
    · rename_i cs _ _ fs hu
      rw [hu] at hok
      simp only [List.all_eq_true, Bool.and_eq_true, List.contains_iff_mem] at hok
      obtain ⟨hmem, hrow⟩ := hok
      split at h
      · rename_i hl
        cases hm : fs.toList.mapM fun f => DataW.trod enc P w base spare held n f.type ((cs.drop f.offset).take (P.cellsOf f.type)) with
        | none => simp [hm] at h
        | some xs =>
          obtain ⟨_, m2⟩ := mapM_some hm
          obtain ⟨_, ts, t1, t2⟩ := ki hl fs.toList 0 hrow fun f hf => by
            obtain ⟨i, hi⟩ := List.mem_iff_getElem?.1 hf
            obtain ⟨y, _, hy⟩ := m2 i f hi
            exact ih f.type (hmem f hf) _ y hy
          simp only [List.drop_zero] at t1
          refine ⟨ts, t1, .struct t fs ts hu (by rw [← y8 t1]; exact hl) fun f hf => ?_⟩
          have := (t2 f hf).2
          simpa using this
      · cases h
    all_goals first
      | (rename_i hu; rw [hu] at hok; cases hok; done)
      | (cases h; done)
theorem Xb {t : TypeId} {ts : List T} (hw : WT P t ts) : ∃ v, zh (y9 P t) (ts.map .t) = some v := by
  cases hw with
  | int t k n h => simp [zh, y9, h]
  | bool t b h => simp [zh, y9, h]
  | str t l h => simp [zh, y9, h]
  | list t e es h => simp [zh, y9, h]
  | struct t fs cs h => simp [zh, y9, h]
theorem one_cell {r : Reach} {b : Nat} {t : TypeId} {v : Value} (ha : y9 P t = false) (hok : Value.okWide P w r b t v) : v.cells = #[v] := by
  cases v with
  | agg cs =>
    exfalso
    unfold Value.okWide at hok
    split at hok
    · rename_i h; simp [y9, h] at ha
    · rename_i h; simp [y9, h] at ha
    · unfold Cell.okWide at hok
      split at hok
      all_goals first
        | (rename_i h1 h2; cases h2; done)
        | skip
      all_goals (unfold Cell.ok at hok; split at hok <;> first | (rename_i h1 h2; cases h2; done) | exact hok)
  | _ => rfl
theorem aL {l : List TypeId} (ho : oD P l = true) {base : Nat} {r : Reach} {b : Nat} : ∀ (ts : List TypeId), (∀ t ∈ ts, t ∈ l) → ∀ (vs : List Value) (ds : List (DataW H)) (ps : List MemPlace), DataW.TrodAll enc P w base (fun _ => true) true ts vs ds ps →
    (∀ (j : Nat) t v, ts[j]? = some t → vs[j]? = some v → Value.okWide P w r b t v) →
    ∃ xs, RVs w (fun b => b < w.heap.size) y7 vs xs ∧ WTA P ts xs
  | [], _, vs, ds, ps, h, _ => by
    cases vs with
    | nil => exact ⟨[], .nil, .nil⟩
    | cons => simp [DataW.TrodAll] at h
  | t :: ts, hl, vs, ds, ps, h, hagg => by
    cases vs with
    | nil => simp [DataW.TrodAll] at h
    | cons v vs =>
    cases ds with
    | nil => simp [DataW.TrodAll] at h
    | cons d ds =>
      obtain ⟨p, q, ⟨n, hn⟩, h2, _⟩ := h
      obtain ⟨cs, c1, c2⟩ := Us ho n t (hl t (by simp)) _ _ hn
      obtain ⟨x, hx⟩ := Xb c2
      obtain ⟨xs, x1, x2⟩ := aL ho ts (fun t ht => hl t (by simp [ht])) vs ds q h2 (fun j t' v' h1 h2 => hagg (j + 1) t' v' (by simpa using h1) (by simpa using h2))
      refine ⟨x :: xs, .cons ?_ x1, .cons t ts cs x xs c2 hx x2⟩
      obtain ⟨k1, k2⟩ := me hx (jg (ρ := y7) c1)
      have hv := hagg 0 t v rfl rfl
      cases ha : y9 P t with
      | true =>
        have := k1 ha
        have hag : ∃ cs, v = .agg cs := by
          unfold Value.okWide at hv
          split at hv
          · obtain ⟨cs, e, _⟩ := hv; exact ⟨cs, e⟩
          · obtain ⟨cs, e, _⟩ := hv; exact ⟨cs, e⟩
          · rename_i h1 h2
            unfold y9 at ha
            split at ha
            · rename_i h; exact absurd h (h1 _)
            · rename_i h; exact absurd h (h2 _ _)
            · cases ha
        obtain ⟨cs', rfl⟩ := hag
        simpa [Value.cells] using this
      | false =>
        obtain ⟨u, hu, hr⟩ := k2 ha
        have h1 := one_cell ha hv
        rw [h1] at hu
        have : v = u := by simpa using hu
        rw [this]; exact hr
theorem UB {w' : World} {F F' : Nat → Prop} (hn : Nxt (own fun b => w.heap.size ≤ b) w F y7 w' F' y7) (p : MemPlace) (hp : p.block < w.heap.size) : w.sameAt w' p := by
  cases p with
  | cell b off =>
    have hb : b < w.heap.size := hp
    have h := hn.keep b hb (Nat.not_le.2 hb)
    unfold World.sameAt World.cell?
    simp only [h]
  | map b =>
    have hb : b < w.heap.size := hp
    exact hn.keep b hb (Nat.not_le.2 hb)
theorem sJ {w' : World} {base : Nat} {spare : Nat → Bool} {held : Bool} : ∀ {ts : List TypeId} {vs : List Value} {ds : List (DataW H)} {ps : List MemPlace}, DataW.TrodAll enc P w base spare held ts vs ds ps → (∀ p ∈ ps, w.sameAt w' p) → DataW.TrodAll enc P w' base spare held ts vs ds ps
  | [], [], [], _, h, _ => h
  | _ :: _, _ :: _, _ :: _, _, ⟨p, q, ⟨n, h1⟩, h2, e⟩, hs =>
    ⟨p, q, ⟨n, DataW.trod_carry n _ _ _ h1 fun x hx => hs x (by rw [e]; exact List.mem_append_left _ hx)⟩, sJ h2 fun x hx => hs x (by rw [e]; exact List.mem_append_right _ hx), e⟩
/-- a law's row out of the evaluator's answer -/
theorem Sm {pol : Pol} {W : World} (hE : mR P W pol) (hP : ∀ f fn c, pol.no f = false → P.funcs[f]? = some fn → fn.body = some c → x7 (ou P pol f) fn.ntmps c = true)
    {f : Func} {g : Nat} {s : ChangeSpec} {base : Nat} {args : Array Value} {ds gs : List (DataW H)} {before : List MemPlace} {l : List TypeId} {tb : TypeId} {T : TypeId → Prop}
    (ho : oD P l = true) (hl : ∀ t ∈ f.params.toList, t ∈ l) (hvars : s.vars = [])
    (hK : Kids P T) (hz : ∀ t e, T t → P.underlying t = some (.slice e) → 0 < P.cellsOf e) (hT : ∀ t ∈ f.params.toList, T t)
    (hval : ∀ (j : Nat) t v, f.params[j]? = some t → args[j]? = some v → Value.okWide P W .any base t v)
    (hW : DataW.Whole enc P f.params.toList s.vars false W args.toList ds gs before)
    (hfn : gs = [] → (s.fn H (ds ++ gs)).results = [.lit (.bool true)] ∧ (s.fn H (ds ++ gs)).args = ds ∧ (s.fn H (ds ++ gs)).vars = [])
    (hr : f.resultTypes = #[tb]) (hb : P.underlying tb = some .bool)
    (hev : ∀ xs, WTA P f.params.toList xs → EV P pol (.call g xs []) = some (.call (.t (.bool true)) [])) :
    Calls P g args W fun e W' => ∃ v, e = .returned v ∧ s.post enc P f false true false false W args v W' := by
  have hW0 := hW
  obtain ⟨p, q, hA, hV, rfl, hfz, hnd⟩ := hW
  rw [hvars] at hV
  obtain ⟨rfl, rfl⟩ := Go.ChangeShapes.trodVars_none hV
  obtain ⟨hf1, hf2, hf3⟩ := hfn rfl
  obtain ⟨xs, x1, x2⟩ := aL ho f.params.toList hl args.toList ds p hA (fun j t v h1 h2 => hval j t v (by simpa using h1) (by simpa using h2))
  refine (TL hE hP (hev xs x2) W (fun b => b < W.heap.size) args ⟨Nat.le_refl _, fun b hb => hb, fun b hb => rfl⟩ (fun b h => h) x1).mono fun e W' ⟨u, F', he, hru, hF', hn⟩ => ?_
  have hu : u = .bool true := by cases hru with | t u x h => cases h; rfl
  subst hu
  refine ⟨_, he, ds, [], p ++ [], [], p, [], hW0, ?_, ?_, ?_, ?_, by simp⟩
  · rw [hf1, hr]
    exact Go.ChangeShapes.trodAll_mk1 (Go.RowKit.shut_bool hb true)
  · rw [hf2]
    have h1 := DataW.TrodAll.respare (spare' := fun b => decide (b < W.heap.size)) hK hz hT hA (fun x hx => by simpa using hA.lt x hx)
    exact sJ h1 fun x hx => UB hn x (hA.lt x hx)
  · rw [hf3, hvars]; rfl
  · refine ⟨hn.os, hn.output, fun i hi => ?_⟩
    rw [hn.keep i hi (Nat.not_le.2 hi)]
    have : W.heap[i]? = some W.heap[i] := Array.getElem?_eq_getElem hi
    rw [this]
    generalize W.heap[i] = c
    cases c <;> simp
end Go.Proofs.YtmcephnfcciloaaGreatDoor.E
