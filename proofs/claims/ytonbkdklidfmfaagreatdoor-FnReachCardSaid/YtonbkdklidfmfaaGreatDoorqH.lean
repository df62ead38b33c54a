/- Joined: E15 E16 E17 E18 E19 T1 T2 XL X1. Conditions: those of each lemma. -/
import Derived.Test.YtonbkdklidfmfaaGreatDoorqG
import Derived.ProofKit
import Derived.ReadAgain
import Derived.ChangeSame
import Derived.IntWalk
import Derived.Shelf.Strings.Builder1
import Derived.Shelf.Strings.Builder2
import Derived.Shelf.Strings.OnBuilder
import Derived.Shelf.Small.Bits
import Derived.Shelf.Small.Strs
import Derived.Shelf.Strings.BuilderF
import Derived.Shelf.Strings.BuilderK
import Derived.Shelf.Utf8.RuneCount
import Derived.Shelf.Strings.Builder2Cap
import Derived.Shelf.Strconv.Atoi
import Derived.Shelf.Strconv.Itoa0
import Derived.Shelf.Strconv.Itoa1
import Derived.Shelf.LaysM
import Derived.Shelf.Strconv.Itoa2
import Derived.Shelf.Strconv.Itoa3
import Derived.Shelf.Strconv.AtoiErrFast
import Derived.Shelf.Strconv.ParseIntEmpty
import Derived.Shelf.Strconv.AtoiFail
import Derived.Shelf.Strconv.Clone
import Derived.Shelf.Strconv.SyntaxError
import Derived.Shelf.LaysC
import Derived.Shelf.Strconv.ToError
import Derived.Shelf.Strconv.AtoiErr
import Derived.Shelf.Strconv.ErrVar
import Derived.Shelf.Strconv.Lower
import Derived.Shelf.Strconv.ParseUint10
import Derived.Shelf.Strconv.ParseUint10Empty
import Derived.Shelf.Strconv.ParseUint10Any
import Derived.Shelf.Strconv.ParseInt10
import Derived.Shelf.Strconv.AtoiLong
import Derived.Shelf.Strconv.AtoiInnerAll
import Derived.Shelf.Strconv.RangeError
import Derived.Shelf.Strconv.ToErrorRange
import Derived.Shelf.Strconv.AtoiAll
import Derived.Shelf.Strconv.ErrVarAll
import Derived.Shelf.Strconv.ParseUintEmpty
import Derived.Shelf.Strconv.ParseUint10b64
import Derived.Shelf.Strconv.ParseUint10b32
import Derived.Shelf.Strconv.ParseUint10b16
import Derived.Shelf.Strconv.ParseUint10b8
import Derived.Shelf.Strconv.ParseUint10At
import Derived.Shelf.Strconv.ParseInt10At64
import Derived.Shelf.Strconv.ParseInt10At32
import Derived.Shelf.Strconv.ParseInt10At16
import Derived.Shelf.Strconv.ParseInt10At8
import Derived.Shelf.Strconv.ParseInt10All
import Derived.Shelf.Strings.Search1
import Derived.Shelf.Strings.Search2
import Derived.Shelf.Strings.Search3
import Derived.Shelf.Strings.Cut
import Derived.Shelf.Strings.Count
import Derived.Shelf.Strings.Shaped
import Derived.Shelf.Sort.Plain
import Derived.Shelf.Strings.Prefix
import Derived.Shelf.Strings.Split
import Derived.Shelf.Strings.SplitShaped
import Derived.Shelf.Unicode.Decode
import Derived.Shelf.Strings.RuneCount
import Derived.Shelf.Strings.Explode
import Derived.Shelf.Unicode.DecodeSlow
import Derived.Shelf.Unicode.DecodeAny
import Derived.Shelf.Strings.BuilderCap
import Derived.Shelf.Slices.Turned
import Derived.Shelf.Slices.Equal
import Derived.Ground.Names2Prog
import Derived.Shelf.Slices.Clone
import Derived.Shelf.Slices.CompactS
import Derived.Shelf.Slices.Cells
import Derived.Shelf.Slices.In.SortNone
import Derived.Shelf.Slices.Empties2
import Derived.Ground.SlgnProg
import Derived.Shelf.SlicesE.Clone
import Derived.Test.YtonbkdklidfmfaaGreatDoorProg
set_option linter.unusedVariables false
set_option linter.unusedSimpArgs false
namespace Go.Proofs.YtonbkdklidfmfaaGreatDoor.E
set_option linter.unusedVariables false
set_option linter.unusedSimpArgs false
inductive WT (P : Program) : TypeId → List T → Prop
 | int (t : TypeId) (k : IntKind) (n : Int) (h : P.underlying t = some (.int k)) (hw : (Lit.int k n).wf = true) : WT P t [.int k n]
 | bool (t : TypeId) (b : Bool) (h : P.underlying t = some .bool) : WT P t [.bool b]
 | str (t : TypeId) (l : List UInt8) (h : P.underlying t = some .string) (hl : l.length ≤ maxLen) : WT P t [.str l]
 | list (t e : TypeId) (es : List (List T)) (h : P.underlying t = some (.slice e)) (hl : es.length ≤ maxLen) (hs : ∀ c ∈ es, WT P e c) : WT P t [.list (P.cellsOf e) es]
 | struct (t : TypeId) (fs : Array Go.Field) (cs : List T) (h : P.underlying t = some (.struct fs)) (hl : cs.length = P.cellsOf t)
  (hs : ∀ f ∈ fs.toList, WT P f.type ((cs.drop f.offset).take (P.cellsOf f.type))) : WT P t cs
inductive WTA (P : Program) : List TypeId → List V → Prop
 | nil : WTA P [] []
 | cons (t : TypeId) (ts : List TypeId) (cs : List T) (v : V) (vs : List V) (h : WT P t cs) (hp : zd (zM P t) (cs.map .t) = some v) (hs : WTA P ts vs) : WTA P (t :: ts) (v :: vs)
def il (P : Program) (size : Nat) : Nat → List Go.Field → Bool
 | o, [] => o == size
 | o, f :: fs => f.offset == o && il P size (o + P.cellsOf f.type) fs
def nt (P : Program) (l : List TypeId) : Bool := l.all fun t => match P.underlying t with
 | some (.int _) | some .bool | some .string => P.cellsOf t == 1
 | some (.slice e) => l.contains e && decide (0 < P.cellsOf e) && P.cellsOf t == 1
 | some (.struct fs) => (fs.toList.all fun f => l.contains f.type) && il P (P.cellsOf t) 0 fs.toList
 | _ => false
theorem mapM_some {α β : Type} {f : α → Option β} : ∀ {l : List α} {r : List β}, l.mapM f = some r → r.length = l.length ∧ ∀ (i : Nat) (x : α), l[i]? = some x → ∃ y, r[i]? = some y ∧ f x = some y
 | [], r, h => by simp at h; subst h; exact ⟨rfl, fun i x hi => by simp at hi⟩
 | a :: l, r, h => by
  rw [List.mapM_cons] at h
  cases ha : f a with
  | none => simp [ha] at h
  | some b =>
   cases hl : l.mapM f with
   | none => simp [ha, hl] at h
   | some r' =>
    simp [ha, hl] at h
    subst h
    obtain ⟨h1, h2⟩ := mapM_some hl
    refine ⟨by simp [h1], fun i x hi => ?_⟩
    cases i with
    | zero => simp at hi; subst hi; exact ⟨b, rfl, ha⟩
    | succ i => exact h2 i x (by simpa using hi)
theorem tE {w : World} {base : Nat} {a : Addr} {n : Nat} {cs : List Value} (h : w.cells? base a n = some cs) : cs.length = n ∧ ∀ j, j < n → ∃ u, cs[j]? = some u ∧ w.cell? (a.add j) = some u := by
 unfold World.cells? at h
 split at h
 · obtain ⟨h1, h2⟩ := mapM_some h
   refine ⟨by simpa using h1, fun j hj => ?_⟩
   obtain ⟨u, e1, e2⟩ := h2 j j (by simp [hj])
   exact ⟨u, e1, e2⟩
 · cases h
variable {P : Program} {w : World} {H : Type} {enc : TypeId × Value → H}
theorem TA {l : List TypeId} (ho : nt P l = true) {t : TypeId} (ht : t ∈ l) : (match P.underlying t with
 | some (.int _) | some .bool | some .string => P.cellsOf t == 1
 | some (.slice e) => l.contains e && decide (0 < P.cellsOf e) && P.cellsOf t == 1
 | some (.struct fs) => (fs.toList.all fun f => l.contains f.type) && il P (P.cellsOf t) 0 fs.toList
 | _ => false) = true := List.all_eq_true.1 ho t ht
theorem jb {size : Nat} {cs : List Value} (hcs : cs.length = size) : ∀ (fs : List Go.Field) (o : Nat), il P size o fs = true →
 (∀ f ∈ fs, ∃ ts, RTs w (fun b => b < w.heap.size) ((cs.drop f.offset).take (P.cellsOf f.type)) ts ∧ WT P f.type ts) →
 o ≤ size ∧ ∃ ts, RTs w (fun b => b < w.heap.size) (cs.drop o) ts ∧ ∀ f ∈ fs, o ≤ f.offset ∧ WT P f.type ((ts.drop (f.offset - o)).take (P.cellsOf f.type))
 | [], o, hr, _ => by
  simp only [il, beq_iff_eq] at hr
  subst hr
  exact ⟨Nat.le_refl _, [], by rw [List.drop_of_length_le (by omega)]; exact .nil, fun f hf => by cases hf⟩
 | f :: fs, o, hr, he => by
  simp only [il, Bool.and_eq_true, beq_iff_eq] at hr
  obtain ⟨rfl, hr⟩ := hr
  obtain ⟨k1, ts', k2, k3⟩ := jb hcs fs _ hr (fun g hg => he g (by simp [hg]))
  obtain ⟨tf, t1, t2⟩ := he f (by simp)
  have hlen : tf.length = P.cellsOf f.type := by rw [← zK t1]; simp; omega
  refine ⟨by omega, tf ++ ts', ?_, fun g hg => ?_⟩
  · have := yI t1 k2
    rwa [← List.drop_drop, List.take_append_drop] at this
  · rcases List.mem_cons.1 hg with rfl | hg
    · refine ⟨Nat.le_refl _, ?_⟩
      rw [Nat.sub_self, List.drop_zero, List.take_append_of_le_length (by omega), List.take_of_length_le (by omega)]
      exact t2
    · obtain ⟨g1, g2⟩ := k3 g hg
      refine ⟨by omega, ?_⟩
      have e1 : (tf ++ ts').drop (g.offset - f.offset) = ts'.drop (g.offset - (f.offset + P.cellsOf f.type)) := by
       rw [List.drop_append, List.drop_of_length_le (by omega), List.nil_append]
       congr 1; omega
      rw [e1]; exact g2
theorem Tj {l : List TypeId} (ho : nt P l = true) {spare : Nat → Bool} {held : Bool} {base : Nat} : ∀ (n : Nat) (t : TypeId), t ∈ l → ∀ (cs : List Value) (x : DataW H × List MemPlace), DataW.trod enc P w base spare held n t cs = some x →
 ∃ ts : List T, RTs w (fun b => b < w.heap.size) cs ts ∧ WT P t ts := by
 intro n
 induction n with
 | zero => intro t _ cs x h; simp [DataW.trod] at h
 | succ n ih =>
  intro t ht cs x h
  have hok := TA ho ht
  unfold DataW.trod at h
  split at h
  · rename_i b hu
    exact ⟨[.bool b], .cons (.bool b) .nil, .bool t b hu⟩
  · rename_i k k' m hu
    split at h
    · rename_i hk
      obtain ⟨rfl, hw⟩ := hk
      exact ⟨[.int k' m], .cons (.int k' m) .nil, .int t k' m hu hw⟩
    · cases h
  · rename_i hu; rw [hu] at hok; cases hok
  · rename_i s hu
    split at h
    · rename_i hs
      exact ⟨[.str s.data.toList], .cons (.str s _ rfl) .nil, .str t _ hu (by simpa using hs)⟩
    · cases h
  · rename_i hu; rw [hu] at hok; cases hok
  · rename_i hu; rw [hu] at hok; cases hok
  · rename_i e hu
    refine ⟨[.list (P.cellsOf e) []], .cons (wF _ none _) .nil, .list t e [] hu (Nat.zero_le _) (fun c hc => by cases hc)⟩
  · rename_i e ad len cap hu
    rw [hu] at hok
    simp only [Bool.and_eq_true, List.contains_iff_mem, decide_eq_true_eq] at hok
    obtain ⟨⟨he, hpos⟩, hone⟩ := hok
    split at h
    · rename_i hc
      cases hm : (List.range len).mapM fun i => (w.cells? base (ad.add (i * P.cellsOf e)) (P.cellsOf e)).bind (DataW.trod enc P w base spare held n e) with
      | none => simp [hm] at h
      | some elems =>
       obtain ⟨m1, m2⟩ := mapM_some hm
       have each : ∀ i, i < len → ∃ (csi : List Value) (tsi : List T), w.cells? base (ad.add (i * P.cellsOf e)) (P.cellsOf e) = some csi ∧ RTs w (fun b => b < w.heap.size) csi tsi ∧ WT P e tsi := fun i hi => by
        obtain ⟨y, _, hy⟩ := m2 i i (by simp [hi])
        cases hcs : w.cells? base (ad.add (i * P.cellsOf e)) (P.cellsOf e) with
        | none => simp [hcs] at hy
        | some csi =>
         simp [hcs] at hy
         obtain ⟨tsi, t1, t2⟩ := ih e he csi y hy
         exact ⟨csi, tsi, rfl, t1, t2⟩
       have hex : ∃ f : Nat → List T, ∀ i, i < len → ∃ csi : List Value, w.cells? base (ad.add (i * P.cellsOf e)) (P.cellsOf e) = some csi ∧ RTs w (fun b => b < w.heap.size) csi (f i) ∧ WT P e (f i) :=
        ⟨fun i => if hi : i < len then (each i hi).choose_spec.choose else [], fun i hi => by
         simp only [hi, dif_pos]
         exact ⟨(each i hi).choose, (each i hi).choose_spec.choose_spec⟩⟩
       obtain ⟨f, hf⟩ := hex
       refine ⟨[.list (P.cellsOf e) ((List.range len).map f)], .cons ?_ .nil, .list t e _ hu (by simp; omega) (fun c hc => ?_)⟩
       · refine .list (some ad) len cap (P.cellsOf e) _ (fun i j => (w.cell? ((ad.add (i * P.cellsOf e)).add j)).getD undef) (by simp) hc.2.1 (fun hp => ?_) (fun c hc => ?_) (fun i j cs x hi hj => ?_)
         · obtain ⟨csi, e1, e2, e3⟩ := hf 0 hp
           obtain ⟨c1, c2⟩ := tE e1
           obtain ⟨u, u1, u2⟩ := c2 0 hpos
           have hadd0 : (ad.add (0 * P.cellsOf e)).add 0 = ad := by simp [Addr.add]
           rw [hadd0] at u2
           obtain ⟨b, o, spot⟩ := ad
           have hspot : spot = none := by
            cases spot with
            | none => rfl
            | some s => unfold World.cell? at u2; split at u2 <;> simp at u2
           subst hspot
           refine ⟨b, o, rfl, ?_, fun i j hi hj => ?_⟩
           · unfold World.cell? at u2
             split at u2
             · rename_i hh; exact (Array.getElem?_eq_some_iff.1 hh).1
             · cases u2
           · obtain ⟨csi, e1, e2, e3⟩ := hf i hi
             obtain ⟨c1, c2⟩ := tE e1
             obtain ⟨u, u1, u2⟩ := c2 j hj
             simp only [Addr.add_mid] at u2 ⊢
             rw [u2, show o + (i * P.cellsOf e + j) = o + i * P.cellsOf e + j by omega, u2]
             rfl
         · simp only [List.mem_map, List.mem_range] at hc
           obtain ⟨i, hi, rfl⟩ := hc
           obtain ⟨csi, e1, e2, e3⟩ := hf i hi
           rw [← zK e2]; exact (tE e1).1
         · have hil : i < len := by have := (List.getElem?_eq_some_iff.1 hi).1; simpa using this
           simp [hil] at hi
           subst hi
           obtain ⟨csi, e1, e2, e3⟩ := hf i hil
           obtain ⟨c1, c2⟩ := tE e1
           obtain ⟨u, u1, u2⟩ := yb e2 j x hj
           have hjl : j < P.cellsOf e := by rw [← c1]; exact (List.getElem?_eq_some_iff.1 u1).1
           obtain ⟨u', u3, u4⟩ := c2 j hjl
           rw [u1] at u3; cases u3
           rw [u4]; exact u2
       · simp only [List.mem_map, List.mem_range] at hc
         obtain ⟨i, hi, rfl⟩ := hc
         exact (hf i hi).choose_spec.2.2
    · cases h
  · rename_i cs _ _ fs hu
    rw [hu] at hok
    simp only [List.all_eq_true, Bool.and_eq_true, List.contains_iff_mem] at hok
    obtain ⟨hmem, hrow⟩ := hok
    split at h
    · rename_i hl
      cases hm : fs.toList.mapM fun f => DataW.trod enc P w base spare held n f.type ((cs.drop f.offset).take (P.cellsOf f.type)) with
      | none => simp [hm] at h
      | some xs =>
       obtain ⟨_, m2⟩ := mapM_some hm
       obtain ⟨_, ts, t1, t2⟩ := jb hl fs.toList 0 hrow fun f hf => by
        obtain ⟨i, hi⟩ := List.mem_iff_getElem?.1 hf
        obtain ⟨y, _, hy⟩ := m2 i f hi
        exact ih f.type (hmem f hf) _ y hy
       simp only [List.drop_zero] at t1
       refine ⟨ts, t1, .struct t fs ts hu (by rw [← zK t1]; exact hl) fun f hf => ?_⟩
       have := (t2 f hf).2
       simpa using this
    · cases h
  all_goals first
   | (rename_i hu; rw [hu] at hok; cases hok; done)
   | (cases h; done)
theorem W6 {t : TypeId} {ts : List T} (hw : WT P t ts) : ∃ v, zd (zM P t) (ts.map .t) = some v := by
 cases hw with
 | int t k n h => simp [zd, zM, h]
 | bool t b h => simp [zd, zM, h]
 | str t l h => simp [zd, zM, h]
 | list t e es h => simp [zd, zM, h]
 | struct t fs cs h => simp [zd, zM, h]
theorem one_cell {r : Reach} {b : Nat} {t : TypeId} {v : Value} (ha : zM P t = false) (hok : Value.okWide P w r b t v) : v.cells = #[v] := by
 cases v with
 | agg cs =>
  exfalso
  unfold Value.okWide at hok
  split at hok
  · rename_i h; simp [zM, h] at ha
  · rename_i h; simp [zM, h] at ha
  · unfold Cell.okWide at hok
    split at hok
    all_goals first
     | (rename_i h1 h2; cases h2; done)
     | skip
    all_goals (unfold Cell.ok at hok; split at hok <;> first | (rename_i h1 h2; cases h2; done) | exact hok)
 | _ => rfl
theorem ZA {l : List TypeId} (ho : nt P l = true) {base : Nat} {r : Reach} {b : Nat} : ∀ (ts : List TypeId), (∀ t ∈ ts, t ∈ l) → ∀ (vs : List Value) (ds : List (DataW H)) (ps : List MemPlace), DataW.TrodAll enc P w base (fun _ => true) true ts vs ds ps →
 (∀ (j : Nat) t v, ts[j]? = some t → vs[j]? = some v → Value.okWide P w r b t v) →
 ∃ xs, RVs w (fun b => b < w.heap.size) zL vs xs ∧ WTA P ts xs
 | [], _, vs, ds, ps, h, _ => by
  cases vs with
  | nil => exact ⟨[], .nil, .nil⟩
  | cons => simp [DataW.TrodAll] at h
 | t :: ts, hl, vs, ds, ps, h, hagg => by
  cases vs with
  | nil => simp [DataW.TrodAll] at h
  | cons v vs =>
  cases ds with
  | nil => simp [DataW.TrodAll] at h
  | cons d ds =>
   obtain ⟨p, q, ⟨n, hn⟩, h2, _⟩ := h
   obtain ⟨cs, c1, c2⟩ := Tj ho n t (hl t (by simp)) _ _ hn
   obtain ⟨x, hx⟩ := W6 c2
   obtain ⟨xs, x1, x2⟩ := ZA ho ts (fun t ht => hl t (by simp [ht])) vs ds q h2 (fun j t' v' h1 h2 => hagg (j + 1) t' v' (by simpa using h1) (by simpa using h2))
   refine ⟨x :: xs, .cons ?_ x1, .cons t ts cs x xs c2 hx x2⟩
   obtain ⟨k1, k2⟩ := mP hx (iD (ρ := zL) c1)
   have hv := hagg 0 t v rfl rfl
   cases ha : zM P t with
   | true =>
    have := k1 ha
    have hag : ∃ cs, v = .agg cs := by
     unfold Value.okWide at hv
     split at hv
     · obtain ⟨cs, e, _⟩ := hv; exact ⟨cs, e⟩
     · obtain ⟨cs, e, _⟩ := hv; exact ⟨cs, e⟩
     · rename_i h1 h2
       unfold zM at ha
       split at ha
       · rename_i h; exact absurd h (h1 _)
       · rename_i h; exact absurd h (h2 _ _)
       · cases ha
    obtain ⟨cs', rfl⟩ := hag
    simpa [Value.cells] using this
   | false =>
    obtain ⟨u, hu, hr⟩ := k2 ha
    have h1 := one_cell ha hv
    rw [h1] at hu
    have : v = u := by simpa using hu
    rw [this]; exact hr
theorem Ts {w' : World} {F F' : Nat → Prop} (hn : Nxt (own fun b => w.heap.size ≤ b) w F zL w' F' zL) (p : MemPlace) (hp : p.block < w.heap.size) : w.sameAt w' p := by
 cases p with
 | cell b off =>
  have hb : b < w.heap.size := hp
  have h := hn.keep b hb (Nat.not_le.2 hb)
  unfold World.sameAt World.cell?
  simp only [h]
 | map b =>
  have hb : b < w.heap.size := hp
  exact hn.keep b hb (Nat.not_le.2 hb)
theorem rD {w' : World} {base : Nat} {spare : Nat → Bool} {held : Bool} : ∀ {ts : List TypeId} {vs : List Value} {ds : List (DataW H)} {ps : List MemPlace}, DataW.TrodAll enc P w base spare held ts vs ds ps → (∀ p ∈ ps, w.sameAt w' p) → DataW.TrodAll enc P w' base spare held ts vs ds ps
 | [], [], [], _, h, _ => h
 | _ :: _, _ :: _, _ :: _, _, ⟨p, q, ⟨n, h1⟩, h2, e⟩, hs =>
  ⟨p, q, ⟨n, DataW.trod_carry n _ _ _ h1 fun x hx => hs x (by rw [e]; exact List.mem_append_left _ hx)⟩, rD h2 fun x hx => hs x (by rw [e]; exact List.mem_append_right _ hx), e⟩
theorem RD {pol : Pol} {W : World} (hE : lJ P W pol) (hP : ∀ f fn c, pol.no f = false → P.funcs[f]? = some fn → fn.body = some c → xu (nh P pol f) fn.ntmps c = true)
 {f : Func} {g : Nat} {s : ChangeSpec} {base : Nat} {args : Array Value} {ds gs : List (DataW H)} {before : List MemPlace} {l : List TypeId} {tb : TypeId} {T : TypeId → Prop}
 (ho : nt P l = true) (hl : ∀ t ∈ f.params.toList, t ∈ l) (hvars : s.vars = [])
 (hK : Kids P T) (hz : ∀ t e, T t → P.underlying t = some (.slice e) → 0 < P.cellsOf e) (hT : ∀ t ∈ f.params.toList, T t)
 (hval : ∀ (j : Nat) t v, f.params[j]? = some t → args[j]? = some v → Value.okWide P W .any base t v)
 (hW : DataW.Whole enc P f.params.toList s.vars false W args.toList ds gs before)
 (hfn : gs = [] → (s.fn H (ds ++ gs)).results = [.lit (.bool true)] ∧ (s.fn H (ds ++ gs)).args = ds ∧ (s.fn H (ds ++ gs)).vars = [])
 (hr : f.resultTypes = #[tb]) (hb : P.underlying tb = some .bool)
 (hev : ∀ xs, WTA P f.params.toList xs → EV P pol (.call g xs []) = some (.call (.t (.bool true)) [])) :
 Calls P g args W fun e W' => ∃ v, e = .returned v ∧ s.post enc P f false true false false W args v W' := by
 have hW0 := hW
 obtain ⟨p, q, hA, hV, rfl, hfz, hnd⟩ := hW
 rw [hvars] at hV
 obtain ⟨rfl, rfl⟩ := Go.ChangeShapes.trodVars_none hV
 obtain ⟨hf1, hf2, hf3⟩ := hfn rfl
 obtain ⟨xs, x1, x2⟩ := ZA ho f.params.toList hl args.toList ds p hA (fun j t v h1 h2 => hval j t v (by simpa using h1) (by simpa using h2))
 refine (SI hE hP (hev xs x2) W (fun b => b < W.heap.size) args ⟨Nat.le_refl _, fun b hb => hb, fun b hb => rfl⟩ (fun b h => h) x1).mono fun e W' ⟨u, F', he, hru, hF', hn⟩ => ?_
 have hu : u = .bool true := by cases hru with | t u x h => cases h; rfl
 subst hu
 refine ⟨_, he, ds, [], p ++ [], [], p, [], hW0, ?_, ?_, ?_, ?_, by simp⟩
 · rw [hf1, hr]
   exact Go.ChangeShapes.trodAll_mk1 (Go.RowKit.shut_bool hb true)
 · rw [hf2]
   have h1 := DataW.TrodAll.respare (spare' := fun b => decide (b < W.heap.size)) hK hz hT hA (fun x hx => by simpa using hA.lt x hx)
   exact rD h1 fun x hx => Ts hn x (hA.lt x hx)
 · rw [hf3, hvars]; rfl
 · refine ⟨hn.os, hn.output, fun i hi => ?_⟩
   rw [hn.keep i hi (Nat.not_le.2 hi)]
   have : W.heap[i]? = some W.heap[i] := Array.getElem?_eq_getElem hi
   rw [this]
   generalize W.heap[i] = c
   cases c <;> simp
end Go.Proofs.YtonbkdklidfmfaaGreatDoor.E
/- The evaluator as a machine with a stack, for proofs that step through code. Conditions: those of each lemma. -/
namespace Go.Proofs.YtonbkdklidfmfaaGreatDoor.E
set_option linter.unusedVariables false
set_option linter.unusedSimpArgs false
structure Cx where
 P : Program
 pol : Pol
 rc : Rec
 f : Nat
 m : Nat
inductive Fr where
 | seq (c : Code) (p : Nat)
 | blk (id : Nat)
inductive rR where
 | call (res : List ResultVar)
 | callO (gv : Bool) (res : List ResultVar)
 | loop (p : Nat)
def dR (P : Program) (m : Nat) (r : Option (List V)) (h : Heap) : Option xY :=
 match r with
 | some vs => match yz h (zn vs) with
  | some (v, h'') => some (.call v (h''.take m))
  | none => none
 | none => none
def mu (C : Cx) : rR → Exi → Env → Heap → Option xY
 | .call res, x, e, h => match x with
  | .normal | .ret => dR C.P C.m (vq C.P e h res) h
  | .exit _ => none
 | .callO gv res, x, e, h => match x with
  | .normal | .ret => nT gv C.m (vq C.P e h res) h
  | .exit _ => none
 | .loop p, x, e, h => match x with
  | .normal => C.rc (.loop C.f p C.m (yf C.m ((C.pol.live C.f p).map e) h).1 (yf C.m ((C.pol.live C.f p).map e) h).2)
  | x => some (.loop x (yf C.m ((C.pol.outs C.f p).map e) h).1 (yf C.m ((C.pol.outs C.f p).map e) h).2)
def goX (C : Cx) : List Fr → rR → Exi → Env → Heap → Option xY
 | [], k, x, e, h => mu C k x e h
 | .seq c p :: fs, k, x, e, h => match x with
  | .normal => (match evC C.P C.pol C.rc C.f C.m c p e h with | some (x', e', h') => goX C fs k x' e' h' | none => none)
  | x => goX C fs k x e h
 | .blk id :: fs, k, x, e, h => match x with
  | .exit id' => if id' = id then goX C fs k .normal e h else goX C fs k (.exit id') e h
  | x => goX C fs k x e h
def goC (C : Cx) (c : Code) (p : Nat) (fs : List Fr) (k : rR) (e : Env) (h : Heap) : Option xY :=
 match evC C.P C.pol C.rc C.f C.m c p e h with | some (x', e', h') => goX C fs k x' e' h' | none => none
structure Rg where
 ops : Array Oper
 N : Option Nat
 Ns : List (Option Nat)
 acc : List (List Nat)
 d : Bool
 x : Bool
def goR (C : Cx) (q : Rg) (rest : List Oper) (fs : List Fr) (k : rR) (e : Env) (h : Heap) : Option xY :=
 if q.d then if q.x then (match evR C.P C.pol C.rc C.f q.ops q.Ns rest e h with
  | some (rs, e', h') => if zOK C.pol C.f (!q.Ns.isEmpty) q.ops (q.acc.reverse ++ rs) then goX C fs k .normal e' h' else none
  | none => none) else (match evD C.P C.pol C.rc C.f q.ops q.Ns rest e h with
  | some (fps, e', h') => if dN C.pol C.f q.ops (q.acc.reverse ++ fps) then goX C fs k .normal e' h' else none
  | none => none)
 else if q.x then (match qn C.P C.pol C.rc C.f q.ops rest e h with | some (e', h') => goX C fs k .normal e' h' | none => none)
 else match vk C.P C.pol C.rc C.f q.ops rest e h with | some (e', h') => goX C fs k .normal e' h' | none => none
def nd (C : Cx) (q : Rg) (o : Oper) (e : Env) (h : Heap) : Option (V × Heap) :=
 if q.x && C.pol.own C.f then (match yF C.P C.pol C.rc C.f q.N o e h with | some r => some r | none => bare (bN q.N o) (zP C.P C.pol C.rc C.f q.N o e h)) else zP C.P C.pol C.rc C.f q.N o e h
def jB (a b : Bool) (N : Option Nat) (x y : Option (V × Heap)) : Option (V × Heap) := if a && b then (match x with | some r => some r | none => bare N y) else y
def rO (C : Cx) (q : Rg) (o : Oper) (rest : List Oper) (fs : List Fr) (k : rR) (e : Env) (h : Heap) : Option xY :=
 match zP C.P C.pol C.rc C.f q.N o e h with | some (v, h') => goR C q rest fs k (put e o.dst v) h' | none => none
def goW (C : Cx) (w : Option Bool) (q : Rg) (o : Oper) (rest : List Oper) (fs : List Fr) (k : rR) (e : Env) (h : Heap) : Option xY :=
 match w with
 | some true => (match nd C q o e h with | some (v, h') => goR C q rest fs k (put e o.dst v) h' | none => none)
 | some false => goR C q rest fs k (put e o.dst .und) h
 | none => none
def r1 (C : Cx) (r : Option V) (dst : Option Nat) (q : Rg) (rest : List Oper) (fs : List Fr) (k : rR) (e : Env) (h : Heap) : Option xY :=
 match r with | some v => goR C q rest fs k (put e dst v) h | none => none
def r2 (C : Cx) (r : Option (V × Heap)) (dst : Option Nat) (q : Rg) (rest : List Oper) (fs : List Fr) (k : rR) (e : Env) : Option xY :=
 match r with | some (v, h) => goR C q rest fs k (put e dst v) h | none => none
def rh (C : Cx) (r : Option Heap) (dst : Option Nat) (q : Rg) (rest : List Oper) (fs : List Fr) (k : rR) (e : Env) : Option xY :=
 match r with | some h => goR C q rest fs k (put e dst .und) h | none => none
def cK (C : Cx) (v : V) (a b : Code) (p : Nat) (fs : List Fr) (k : rR) (e : Env) (h : Heap) : Option xY :=
 match v with
 | .t (.bool t) => if t then goC C a (2 * p) fs k e h else goC C b (2 * p + 1) fs k e h
 | _ => none
def lK (C : Cx) (r : Option xY) (outs : List Nat) (fs : List Fr) (k : rR) : Option xY :=
 match r with
 | some (.loop x vals h') => goX C fs k x (zb outs vals) h'
 | _ => none
def ZJ (N : Option Nat) (ids : List Nat) (r : Option xY) (h : Heap) : Option (V × Heap) :=
 match r with
 | some (.call v h1) => yM N ids v h1 h
 | _ => none
def ti (C : Cx) (N : Option Nat) (m : PM) (fv : Option (Nat × List V)) (args : List V) (h : Heap) : Option (V × Heap) :=
 match fv with
 | some (g, caps) => match m with
  | .pure => (match asArg.asArgs (args ++ caps) with | some az => (match zo C.rc g az with | some v => some (v, h) | none => none) | none => (match yq.snapVs h (args ++ caps) with | some az => (match zo C.rc g az with | some v => (if zc v then some (v, h) else none) | none => none) | none => none))
  | .frz => (match yz.gives h (args ++ caps) with | some (az, h') => (match zo C.rc g az with | some v => some (v, h') | none => none) | none => none)
  | .opn gv => ZJ N (xr h (args ++ caps)) (C.rc (.callO gv g (yf 0 (args ++ caps) h).1 (yf 0 (args ++ caps) h).2)) h
  | .brw => none
  | .all => none
 | none => none
def ZI (c a b : V) : Option V :=
 match c with
 | .t (.bool t) => some (if t then a else b)
 | _ => none
def SN (P : Program) (t : TypeId) (x i : V) : Option V :=
 match x, i with
 | .t (.str l), .t (.int _ n) => if isStr P t then (match uH l n with | some b => some (.t (.int .u8 (b.toNat : Int))) | none => none) else none
 | _, _ => none
def SQ (x : V) (i : Nat) : Option V :=
 match x with
 | .tup vs => vs[i]?
 | _ => none
def ov (N : Option Nat) (z : Option (List V)) (h : Heap) : Option (V × Heap) :=
 match z with
 | some zs => if zs.isEmpty then none else some (.ptr (nI N h) 0 0, nH N h (.vs zs.length [zs]))
 | none => none
def JV (N : Option Nat) (cs : List V) (h : Heap) : Option (V × Heap) :=
 if cs.isEmpty || !cs.all zX then none else some (.ptr (nI N h) 0 0, nH N h (.vs cs.length [cs]))
def ZB (args : List V) : Env := fun t => (args[t]?).getD .bad
theorem qA : ∀ (args : List V) (s t : Nat), zb (List.range' s args.length) args t = if s ≤ t then (args[t - s]?).getD .bad else .bad
 | [], s, t => by simp [zb]
 | v :: vs, s, t => by
  simp only [List.length_cons, List.range'_succ, zb, upd, qA vs (s + 1) t]
  by_cases h : t = s
  · subst h; simp
  · simp only [h, if_false]
    by_cases h2 : s + 1 ≤ t
    · have e : t - s = (t - (s + 1)) + 1 := by omega
      simp only [h2, if_true, show s ≤ t by omega, e, List.getElem?_cons_succ]
    · simp only [h2, if_false, show ¬ s ≤ t by omega]
theorem oL (args : List V) : zb (List.range args.length) args = ZB args := by
 funext t
 rw [List.range_eq_range', qA args 0 t]
 simp [ZB]
theorem jv (v : V) (vs : List V) : ZB (v :: vs) 0 = v := rfl
theorem jw (v : V) (vs : List V) (n : Nat) : ZB (v :: vs) (n + 1) = ZB vs n := rfl
theorem zy {P : Program} {pol : Pol} {f : Nat} {fn : Func} {c : Code} {args : List V} {h : Heap} {r : xY} (hx : pol.ext f args = none) (hf : P.funcs[f]? = some fn) (hb : fn.body = some c)
 (hn : (pol.no f || fn.name == "runtime.NumGoroutine" || decide (fn.ntmps < args.length)) = false)
 (hg : goC ⟨P, pol, EV P pol, f, h.length⟩ c 1 [] (.call fn.results.toList) (ZB args) h = some r) : EV P pol (.call f args h) = some r := by
 rw [← oL] at hg
 apply pB
 simp only [E.step, hx, hf, hb, hn]
 unfold goC at hg
 simp only at hg
 cases hc : evC P pol (EV P pol) f h.length c 1 (zb (List.range args.length) args) h with
 | none => simp [hc] at hg
 | some x =>
  obtain ⟨x, e', h'⟩ := x
  simp only [hc, goX, mu] at hg
  simp only [Bool.false_eq_true, if_false]
  cases x with
  | exit id => cases hg
  | _ =>
   simp only [dR] at hg
   cases hres : vq P e' h' fn.results.toList with
   | none => simp [hres] at hg
   | some vs =>
    simp only [hres] at hg ⊢
    cases hgv : yz h' (zn vs) with
    | none => simp [hgv] at hg
    | some y => simpa only [hgv] using hg
theorem zJ {P : Program} {pol : Pol} {gv : Bool} {f : Nat} {fn : Func} {c : Code} {args : List V} {h : Heap} {r : xY} (hf : P.funcs[f]? = some fn) (hb : fn.body = some c)
 (hn : (pol.no f || fn.name == "runtime.NumGoroutine" || decide (fn.ntmps < args.length)) = false)
 (hg : goC ⟨P, pol, EV P pol, f, h.length⟩ c 1 [] (.callO gv fn.results.toList) (ZB args) h = some r) (hx : pol.extO f args h = none := by rfl) : EV P pol (.callO gv f args h) = some r := by
 rw [← oL] at hg
 apply pB
 simp only [E.step, hx, hf, hb, hn]
 unfold goC at hg
 simp only at hg
 cases hc : evC P pol (EV P pol) f h.length c 1 (zb (List.range args.length) args) h with
 | none => simp [hc] at hg
 | some x =>
  obtain ⟨x, e', h'⟩ := x
  simp only [hc, goX, mu] at hg
  simp only [Bool.false_eq_true, if_false]
  cases x with
  | exit id => cases hg
  | _ => exact hg
theorem zj {P : Program} {pol : Pol} {f p m : Nat} {fn : Func} {c b : Code} {vals : List V} {h : Heap} {r : xY} (hf : P.funcs[f]? = some fn) (hb : fn.body = some c) (hc : yJ c (turns p) = some (.loop b))
 (hg : goC ⟨P, pol, EV P pol, f, m⟩ b (2 * p) [] (.loop p) (zb (pol.live f p) vals) h = some r) : EV P pol (.loop f p m vals h) = some r := by
 apply pB
 simp only [E.step, hf, hb, hc]
 unfold goC at hg
 simp only at hg
 cases hc : evC P pol (EV P pol) f m b (2 * p) (zb (pol.live f p) vals) h with
 | none => simp [hc] at hg
 | some x =>
  obtain ⟨x, e', h'⟩ := x
  simp only [hc, goX, mu] at hg
  cases x with
  | normal => exact hg
  | ret => exact hg
  | exit id => exact hg
section
variable (C : Cx) (p : Nat) (fs : List Fr) (k : rR) (e : Env) (h : Heap) (q : Rg) (rest : List Oper) (dst : Option Nat) (ty : TypeId) (pos : String) (after : Array Edge)
theorem Zi (a b : Code) : goC C (.seq a b) p fs k e h = goC C a (2 * p) (.seq b (2 * p + 1) :: fs) k e h := by
 unfold goC; simp only [evC, goX]
 cases evC C.P C.pol C.rc C.f C.m a (2 * p) e h with
 | none => rfl
 | some x => obtain ⟨x, e', h'⟩ := x; cases x <;> rfl
theorem eS (c : Operand) (a b : Code) : goC C (.cond c a b) p fs k e h = cK C (opv C.P e 0 c) a b p fs k e h := by
 unfold goC cK; simp only [evC]
 cases opv C.P e 0 c with
 | t x => cases x with
  | bool t => cases t <;> rfl
  | _ => rfl
 | _ => rfl
theorem kX (id : Nat) (a : Code) : goC C (.block id a) p fs k e h = goC C a (2 * p) (.blk id :: fs) k e h := by
 unfold goC; simp only [evC, goX]
 cases evC C.P C.pol C.rc C.f C.m a (2 * p) e h with
 | none => rfl
 | some x =>
  obtain ⟨x, e', h'⟩ := x
  cases x with
  | exit id' => simp only; by_cases hi : id' = id <;> simp [hi]
  | _ => rfl
theorem eP (a : Code) : goC C (.loop a) p fs k e h = lK C (C.rc (.loop C.f p C.m (yf C.m ((C.pol.live C.f p).map e) h).1 (yf C.m ((C.pol.live C.f p).map e) h).2)) (C.pol.outs C.f p) fs k := by
 unfold goC lK; simp only [evC]
 cases C.rc (.loop C.f p C.m (yf C.m ((C.pol.live C.f p).map e) h).1 (yf C.m ((C.pol.live C.f p).map e) h).2) with
 | none => rfl
 | some x => cases x <;> rfl
theorem eQ (id : Nat) : goC C (.exit id) p fs k e h = goX C fs k (.exit id) e h := rfl
theorem Zj : goC C .ret p fs k e h = goX C fs k .ret e h := rfl
theorem eO : goC C .skip p fs k e h = goX C fs k .normal e h := rfl
theorem mq (n : Nat) (l : List Oper) : goC C (.region n l.toArray false) p fs k e h = goR C ⟨l.toArray, none, [], [], false, true⟩ l fs k e (ghH (C.pol.gh C.f n) e h) := by
 unfold goC goR; simp only [evC, List.toList_toArray, Bool.false_and, Bool.false_eq_true, if_false, if_true]
 cases qn C.P C.pol C.rc C.f l.toArray l e (ghH (C.pol.gh C.f n) e h) <;> rfl
def goD (C : Cx) (simple z kp : Bool) (l : List Oper) (fs : List Fr) (k : rR) (e : Env) (h : Heap) : Option xY :=
 if simple then goR C ⟨l.toArray, none, [], [], false, false⟩ l fs k e h else if z then (if kp then goR C ⟨l.toArray, none, kids h.length l, [], true, true⟩ l fs k e (h ++ List.replicate (pA l) .dead) else goR C ⟨l.toArray, none, [], [], true, true⟩ l fs k e h) else goR C ⟨l.toArray, none, vy C.pol C.f h.length l, [], true, false⟩ l fs k e (h ++ List.replicate (wT C.pol C.f l) .dead)
theorem eR (n : Nat) (l : List Oper) (hd : C.pol.dr C.f = true) : goC C (.region n l.toArray true) p fs k e h = goD C (l.all (ym C.pol C.f)) (C.pol.own C.f && C.pol.dm C.f n) (C.pol.dm C.f (n + 1000)) l fs k e (ghH (C.pol.gh C.f n) e h) := by
 unfold goC goD; simp only [evC, hd, List.toList_toArray]
 generalize ghH (C.pol.gh C.f n) e h = h
 cases hn : l.all (ym C.pol C.f) with
 | true =>
  simp only [Bool.not_true, Bool.and_false, Bool.false_eq_true, if_false, if_true]
  unfold goR
  simp only [Bool.false_eq_true, if_false]
  cases vk C.P C.pol C.rc C.f l.toArray l e h <;> rfl
 | false =>
  simp only [Bool.not_true, Bool.not_false, Bool.and_true, Bool.and_false, Bool.false_eq_true, if_false, if_true]
  by_cases hc : (C.pol.own C.f && C.pol.dm C.f n) = true
  · simp only [hc, if_true]
    cases hkp : C.pol.dm C.f (n + 1000) with
    | false =>
     unfold evZ goR
     simp only [List.toList_toArray, if_true, List.reverse_nil, List.nil_append, Bool.false_eq_true, if_false, List.isEmpty_nil, Bool.not_true]
     cases evR C.P C.pol C.rc C.f l.toArray [] l e h with
     | none => rfl
     | some x =>
      obtain ⟨y1, y2, y3⟩ := x
      by_cases hx : zOK C.pol C.f false l.toArray y1 = true
      · simp only [hx, if_true]
      · simp only [hx, Bool.false_eq_true, if_false]
    | true =>
     have hne : (kids h.length l).isEmpty = false := by cases l with | nil => rfl | cons o l => simp only [kids]; split <;> rfl
     unfold evZ goR
     simp only [List.toList_toArray, if_true, List.reverse_nil, List.nil_append, hne, Bool.not_false]
     cases evR C.P C.pol C.rc C.f l.toArray (kids h.length l) l e (h ++ List.replicate (pA l) .dead) with
     | none => rfl
     | some x =>
      obtain ⟨y1, y2, y3⟩ := x
      by_cases hx : zOK C.pol C.f true l.toArray y1 = true
      · simp only [hx, if_true]
      · simp only [hx, Bool.false_eq_true, if_false]
  simp only [hc, Bool.false_eq_true, if_false]
  unfold sJ goR
  simp only [List.toList_toArray, if_true, Bool.false_eq_true, if_false, List.reverse_nil, List.nil_append]
  cases evD C.P C.pol C.rc C.f l.toArray (vy C.pol C.f h.length l) l e (h ++ List.replicate (wT C.pol C.f l) .dead) with
  | none => rfl
  | some x =>
   obtain ⟨y1, y2, y3⟩ := x
   by_cases hx : dN C.pol C.f l.toArray y1 = true
   · simp only [hx, if_true]
   · simp only [hx, Bool.false_eq_true, if_false]
theorem eN (z kp : Bool) (l : List Oper) : goD C true z kp l fs k e h = goR C ⟨l.toArray, none, [], [], false, false⟩ l fs k e h := rfl
theorem Rh (l : List Oper) : goD C false true false l fs k e h = goR C ⟨l.toArray, none, [], [], true, true⟩ l fs k e h := rfl
theorem Ri (l : List Oper) : goD C false true true l fs k e h = goR C ⟨l.toArray, none, kids h.length l, [], true, true⟩ l fs k e (h ++ List.replicate (pA l) .dead) := rfl
theorem kW (kp : Bool) (l : List Oper) : goD C false false kp l fs k e h = goR C ⟨l.toArray, none, vy C.pol C.f h.length l, [], true, false⟩ l fs k e (h ++ List.replicate (wT C.pol C.f l) .dead) := rfl
theorem Zf (x : Exi) : goX C [] k x e h = mu C k x e h := rfl
theorem Ze (c : Code) : goX C (.seq c p :: fs) k .normal e h = goC C c p fs k e h := rfl
theorem oU (c : Code) : goX C (.seq c p :: fs) k .ret e h = goX C fs k .ret e h := rfl
theorem qB (c : Code) (id : Nat) : goX C (.seq c p :: fs) k (.exit id) e h = goX C fs k (.exit id) e h := rfl
theorem Zg (id : Nat) : goX C (.blk id :: fs) k .normal e h = goX C fs k .normal e h := rfl
theorem oV (id : Nat) : goX C (.blk id :: fs) k .ret e h = goX C fs k .ret e h := rfl
theorem qC (id id' : Nat) : goX C (.blk id :: fs) k (.exit id') e h = if id' = id then goX C fs k .normal e h else goX C fs k (.exit id') e h := rfl
theorem Zh (ops : Array Oper) (x : Bool) : goR C ⟨ops, none, [], [], false, x⟩ [] fs k e h = goX C fs k .normal e h := by cases x <;> rfl
theorem S7 (ops : Array Oper) (o : Oper) : nd C ⟨ops, none, [], [], false, true⟩ o e h = wi C.P C.pol C.rc C.f none o e h := rfl
theorem Zo {q : Rg} (hx : q.x = false) (o : Oper) : nd C q o e h = zP C.P C.pol C.rc C.f q.N o e h := by unfold nd; rw [hx]; rfl
theorem eM (ops : Array Oper) (x : Bool) (o : Oper) : goR C ⟨ops, none, [], [], false, x⟩ (o :: rest) fs k e h = goW C (want ops o e) ⟨ops, none, [], [], false, x⟩ o rest fs k e h := by
 cases x with
 | true =>
  unfold goR goW; simp only [Bool.false_eq_true, if_false, if_true, qn, wH]
  cases want ops o e with
  | none => rfl
  | some b => cases b with
   | false => simp only [goR, Bool.false_eq_true, if_false, if_true]
   | true => simp only [S7]; cases wi C.P C.pol C.rc C.f none o e h with
    | none => rfl
    | some x => simp only [goR, Bool.false_eq_true, if_false, if_true]
 | false =>
  unfold goR goW; simp only [Bool.false_eq_true, if_false, vk, tY]
  cases want ops o e with
  | none => rfl
  | some b => cases b with
   | false => simp only [goR, Bool.false_eq_true, if_false]
   | true => simp only [Zo (q := ⟨ops, none, [], [], false, false⟩) C e h rfl]; cases zP C.P C.pol C.rc C.f none o e h with
    | none => rfl
    | some x => simp only [goR, Bool.false_eq_true, if_false]
theorem eL (ops : Array Oper) (N : Option Nat) (acc : List (List Nat)) : goR C ⟨ops, N, [], acc, true, false⟩ [] fs k e h = if dN C.pol C.f ops acc.reverse then goX C fs k .normal e h else none := by
 unfold goR; simp only [if_true, Bool.false_eq_true, if_false, evD, List.append_nil]
theorem kV (ops : Array Oper) (N N' : Option Nat) (Ns : List (Option Nat)) (acc : List (List Nat)) (o : Oper) : goR C ⟨ops, N, N' :: Ns, acc, true, false⟩ (o :: rest) fs k e h = goW C (want ops o e) ⟨ops, N', Ns, xQ N' o e h :: acc, true, false⟩ o rest fs k e h := by
 unfold goR goW; simp only [if_true, Bool.false_eq_true, if_false, evD, tY]
 cases want ops o e with
 | none => rfl
 | some b => cases b with
  | false =>
   simp only [goR, if_true, Bool.false_eq_true, if_false, List.reverse_cons, List.append_assoc, List.singleton_append]
   cases evD C.P C.pol C.rc C.f ops Ns rest (put e o.dst .und) h <;> rfl
  | true => simp only [Zo (q := ⟨ops, N', Ns, xQ N' o e h :: acc, true, false⟩) C e h rfl]; cases zP C.P C.pol C.rc C.f N' o e h with
   | none => rfl
   | some x =>
    simp only [goR, if_true, Bool.false_eq_true, if_false, List.reverse_cons, List.append_assoc, List.singleton_append]
    cases evD C.P C.pol C.rc C.f ops Ns rest (put e o.dst x.1) x.2 <;> rfl
theorem eJ (ops : Array Oper) (acc : List (List Nat)) : goR C ⟨ops, none, [], acc, true, true⟩ [] fs k e h = if zOK C.pol C.f false ops acc.reverse then goX C fs k .normal e h else none := by
 unfold goR; simp only [if_true, evR, List.append_nil, List.isEmpty_nil, Bool.not_true]
theorem eK (ops : Array Oper) (N N' : Option Nat) (Ns : List (Option Nat)) (acc : List (List Nat)) : goR C ⟨ops, N, N' :: Ns, acc, true, true⟩ [] fs k e h = if zOK C.pol C.f true ops acc.reverse then goX C fs k .normal e h else none := by
 unfold goR; simp only [if_true, evR, List.append_nil, List.isEmpty_cons, Bool.not_false]
theorem kT (ops : Array Oper) (acc : List (List Nat)) (o : Oper) : goR C ⟨ops, none, [], acc, true, true⟩ (o :: rest) fs k e h = goW C (want ops o e) ⟨ops, none, [], (h.length :: y6 none o e h) :: acc, true, true⟩ o rest fs k e h := by
 unfold goR goW; simp only [if_true, evR, wH, hdN, List.tail_nil]
 cases want ops o e with
 | none => rfl
 | some b => cases b with
  | false =>
   simp only [goR, if_true, List.reverse_cons, List.append_assoc, List.singleton_append]
   cases evR C.P C.pol C.rc C.f ops [] rest (put e o.dst .und) h <;> rfl
  | true =>
   rw [show nd C ⟨ops, none, [], (h.length :: y6 none o e h) :: acc, true, true⟩ o e h = wi C.P C.pol C.rc C.f none o e h from rfl]
   cases wi C.P C.pol C.rc C.f none o e h with
   | none => rfl
   | some x =>
    simp only [goR, if_true, List.reverse_cons, List.append_assoc, List.singleton_append]
    cases evR C.P C.pol C.rc C.f ops [] rest (put e o.dst x.1) x.2 <;> rfl
theorem kU (ops : Array Oper) (N N' N'' : Option Nat) (Ns : List (Option Nat)) (acc : List (List Nat)) (o : Oper) : goR C ⟨ops, N, N' :: N'' :: Ns, acc, true, true⟩ (o :: rest) fs k e h = goW C (want ops o e) ⟨ops, N', N'' :: Ns, (h.length :: y6 N' o e h) :: acc, true, true⟩ o rest fs k e h := by
 unfold goR goW; simp only [if_true, evR, wH, hdN, List.tail_cons]
 cases want ops o e with
 | none => rfl
 | some b => cases b with
  | false =>
   simp only [goR, if_true, List.reverse_cons, List.append_assoc, List.singleton_append]
   cases evR C.P C.pol C.rc C.f ops (N'' :: Ns) rest (put e o.dst .und) h <;> rfl
  | true =>
   rw [show nd C ⟨ops, N', N'' :: Ns, (h.length :: y6 N' o e h) :: acc, true, true⟩ o e h = wi C.P C.pol C.rc C.f N' o e h from rfl]
   cases wi C.P C.pol C.rc C.f N' o e h with
   | none => rfl
   | some x =>
    simp only [goR, if_true, List.reverse_cons, List.append_assoc, List.singleton_append]
    cases evR C.P C.pol C.rc C.f ops (N'' :: Ns) rest (put e o.dst x.1) x.2 <;> rfl
theorem yu {o : Oper} (ho : yF C.P C.pol C.rc C.f q.N o e h = none) (hb : isB o = false := by rfl) : goW C (some true) q o rest fs k e h = rO C q o rest fs k e h := by
 unfold goW rO nd
 have hb' : bN q.N o = none := by unfold bN; rw [hb]; rfl
 simp only [ho, hb', bare, ite_self]
theorem nv {o : Oper} {x y : Option (V × Heap)} (hx : yF C.P C.pol C.rc C.f q.N o e h = x) (hy : zP C.P C.pol C.rc C.f q.N o e h = y) : goW C (some true) q o rest fs k e h = r2 C (jB q.x (C.pol.own C.f) (bN q.N o) x y) o.dst q rest fs k e := by
 unfold goW nd r2 jB
 rw [hx, hy]
theorem ah (b : Bool) (N : Option Nat) (x y : Option (V × Heap)) : jB false b N x y = y := rfl
theorem af (a : Bool) (N : Option Nat) (x y : Option (V × Heap)) : jB a false N x y = y := by cases a <;> rfl
theorem zH (N : Option Nat) (r : V × Heap) (y : Option (V × Heap)) : jB true true N (some r) y = some r := rfl
theorem zI (y : Option (V × Heap)) : jB true true none none y = y := rfl
theorem kS (o : Oper) : goW C (some false) q o rest fs k e h = goR C q rest fs k (put e o.dst .und) h := rfl
theorem kd (ops : Array Oper) (op : Op) : want ops ⟨dst, op, ty, pos, after, none⟩ e = some true := rfl
variable (g : Option (Nat × Bool))
theorem Uh (x : Operand) : goW C (some true) q ⟨dst, .move x, ty, pos, after, g⟩ rest fs k e h = goR C q rest fs k (put e dst (opv C.P e ty x)) h := (yu C fs k e h q rest (by rfl)).trans rfl
theorem eh (x : Operand) : goW C (some true) q ⟨dst, .assign x, ty, pos, after, g⟩ rest fs k e h = goR C q rest fs k (put e dst (opv C.P e ty x)) h := (yu C fs k e h q rest (by rfl)).trans rfl
theorem Ug (c a b : Operand) : goW C (some true) q ⟨dst, .pick c a b, ty, pos, after, g⟩ rest fs k e h = r1 C (ZI (opv C.P e 0 c) (opv C.P e ty a) (opv C.P e ty b)) dst q rest fs k e h := by
 rw [yu C fs k e h q rest (by rfl)]; simp only [rO, zP, r1, ZI]
 cases opv C.P e 0 c with
 | t x => cases x <;> rfl
 | _ => rfl
theorem aG (t : TypeId) : goW C (some true) q ⟨dst, .alloc t, ty, pos, after, g⟩ rest fs k e h = r2 C (ov q.N (zeroOf C.P t) h) dst q rest fs k e := by
 rw [yu C fs k e h q rest (by rfl)]; simp only [rO, zP, r2, ov]
 cases zeroOf C.P t with
 | none => rfl
 | some zs => rfl
theorem R0 (t : TypeId) (x : Operand) : goW C (some true) q ⟨dst, .box t x, ty, pos, after, g⟩ rest fs k e h = r2 C (JV q.N (z8 (opv C.P e t x)) h) dst q rest fs k e := (yu C fs k e h q rest (by rfl)).trans rfl
def gj (P : Program) (t : TypeId) (ps : List (Nat × V)) : Option V :=
 if xP P t then (match zeroOf P t with
  | some zs => (match tX P t zs ps with | some cs => some (.agg cs) | none => none)
  | none => none) else none
theorem aE (t : TypeId) (l : List (Nat × Operand)) : goW C (some true) q ⟨dst, .build t l.toArray, ty, pos, after, g⟩ rest fs k e h = r1 C (gj C.P t (xz C.P e (fTy C.P t) l)) dst q rest fs k e h := by
 rw [yu C fs k e h q rest (by rfl)]; simp only [rO, zP, r1, gj]
 cases xP C.P t with
 | false => rfl
 | true => cases zeroOf C.P t with
  | none => rfl
  | some zs => simp only [if_true]; cases tX C.P t zs (xz C.P e (fTy C.P t) l) <;> rfl
def hI (P : Program) (N : Option Nat) (t : TypeId) (len n : Nat) (ps : TypeId → List (Nat × V)) (h : Heap) : Option (V × Heap) :=
 match zV P t with
 | some el => if zx P el = 0 ∨ len * zx P el > 16777216 ∨ n ≠ len ∨ (zeroOf P el).isNone = true then none else
  match wK (zx P el) 0 (ps el) with
  | some css => match xO h css with
   | some (es, h') => some (.sl (nI N h') 0 len (some len), nH N h' (.ts (zx P el) es))
   | none => none
  | none => none
 | none => none
def zW (P : Program) (N : Option Nat) (t : TypeId) (len n : Nat) (ps : TypeId → List (Nat × V)) (h : Heap) : Option (V × Heap) :=
 match zV P t with
 | some el => if zx P el = 0 ∨ len * zx P el > 16777216 ∨ n ≠ len ∨ (zeroOf P el).isNone = true ∨ zx P el = 1 then none else
  match wK (zx P el) 0 (ps el) with
  | some css => some (.sl (nI N h) 0 len (some len), nH N h (.vs (zx P el) css))
  | none => none
 | none => none
theorem qz (t : TypeId) (len : Nat) (l : List (Nat × Operand)) : goW C (some true) q ⟨dst, .buildSlice t len l.toArray, ty, pos, after, g⟩ rest fs k e h =
 r2 C (jB q.x (C.pol.own C.f) q.N (zW C.P q.N t len l.length (fun el => xz C.P e (fun _ => el) l) h) (hI C.P q.N t len l.length (fun el => xz C.P e (fun _ => el) l) h)) dst q rest fs k e :=
 nv C fs k e h q rest (by simp only [yF, zW, List.size_toArray]; rfl) (by simp only [zP, hI, List.size_toArray]; rfl)
theorem Ui (t : TypeId) (a : Operand) : goW C (some true) q ⟨dst, .load t a, ty, pos, after, g⟩ rest fs k e h = r1 C (load C.P t (opv C.P e 0 a) h) dst q rest fs k e h := by
 rw [yu C fs k e h q rest (by rfl)]; simp only [rO, zP, r1]; cases load C.P t (opv C.P e 0 a) h <;> rfl
theorem aA (t : TypeId) (a x : Operand) : goW C (some true) q ⟨dst, .store t a x, ty, pos, after, g⟩ rest fs k e h = rh C (store C.P t (opv C.P e 0 a) (opv C.P e t x) h) dst q rest fs k e := by
 rw [yu C fs k e h q rest (by rfl)]; simp only [rO, zP, rh]; cases store C.P t (opv C.P e 0 a) (opv C.P e t x) h <;> rfl
theorem aF (op : BinOp) (t u : TypeId) (x y : Operand) : goW C (some true) q ⟨dst, .binOp op t x y u, ty, pos, after, g⟩ rest fs k e h = r1 C (zq C.P op t y (opv C.P e t x) (opv C.P e u y)) dst q rest fs k e h := by
 rw [yu C fs k e h q rest (by rfl)]; simp only [rO, zP, r1]; cases zq C.P op t y (opv C.P e t x) (opv C.P e u y) <;> rfl
theorem Uf (op : UnOp) (t : TypeId) (x : Operand) : goW C (some true) q ⟨dst, .unOp op t x, ty, pos, after, g⟩ rest fs k e h = r1 C (una op (opv C.P e t x)) dst q rest fs k e h := by
 rw [yu C fs k e h q rest (by rfl)]; simp only [rO, zP, r1]; cases una op (opv C.P e t x) <;> rfl
theorem kK (s d : TypeId) (x : Operand) : goW C (some true) q ⟨dst, .convert s d x, ty, pos, after, g⟩ rest fs k e h = r1 C (conv C.P s d (opv C.P e s x) h) dst q rest fs k e h := by
 rw [yu C fs k e h q rest (by rfl)]; simp only [rO, zP, r1]; cases conv C.P s d (opv C.P e s x) h <;> rfl
def mkS (P : Program) (N : Option Nat) (t : TypeId) (l c : V) (h : Heap) : Option (V × Heap) :=
 match zV P t, l, c with
 | some el, .t (.int _ n), .t (.int _ m) => match zeroOf P el with
  | some zs => match rP zs with
   | some z => if zx P el = 0 ∨ n < 0 ∨ n ≠ m ∨ n.toNat * P.bytesOf el > y5 ∨ n.toNat > y5 then none else
    some (.sl (nI N h) 0 n.toNat (some n.toNat), nH N h (.ts (zx P el) (List.replicate n.toNat z)))
   | none => none
  | none => none
 | _, _, _ => none
def mkO (P : Program) (t : TypeId) (l c : V) (h : Heap) : Option (V × Heap) :=
 match zV P t, l, c with
 | some el, .t (.int _ n), .t (.int _ m) => match zeroOf P el with
  | some zs => if zx P el = 0 ∨ n < 0 ∨ n ≠ m ∨ n.toNat * P.bytesOf el > y5 ∨ n.toNat > y5 ∨ ¬ (zs.all zX = true) then none else
   some (.sl h.length 0 n.toNat (some n.toNat), h ++ [.vs (zx P el) (List.replicate n.toNat zs)])
  | none => none
 | _, _, _ => none
theorem oH (t : TypeId) (l c : Operand) : goW C (some true) q ⟨dst, .makeSlice t l c, ty, pos, after, g⟩ rest fs k e h =
 r2 C (jB q.x (C.pol.own C.f) none (mkO C.P t (opv C.P e 0 l) (opv C.P e 0 c) h) (mkS C.P q.N t (opv C.P e 0 l) (opv C.P e 0 c) h)) dst q rest fs k e :=
 nv C fs k e h q rest rfl rfl
theorem aB (t : TypeId) (x : Operand) (lo hi mx : Option Operand) : goW C (some true) q ⟨dst, .slice t x lo hi mx, ty, pos, after, g⟩ rest fs k e h = r1 C (cut C.P t (opv C.P e t x) (rN C.P e lo) (rN C.P e hi) (rN C.P e mx) h) dst q rest fs k e h := by
 rw [yu C fs k e h q rest (by rfl)]; simp only [rO, zP, r1]; cases cut C.P t (opv C.P e t x) (rN C.P e lo) (rN C.P e hi) (rN C.P e mx) h <;> rfl
theorem mf (x : Operand) : goW C (some true) q ⟨dst, .nilCheck x, ty, pos, after, g⟩ rest fs k e h = r1 C (dS (opv C.P e 0 x)) dst q rest fs k e h := by
 rw [yu C fs k e h q rest (by rfl)]; simp only [rO, zP, r1]; cases dS (opv C.P e 0 x) <;> rfl
theorem oJ (s : TypeId) (x : Operand) (i : Nat) : goW C (some true) q ⟨dst, .fieldAddr s x i, ty, pos, after, g⟩ rest fs k e h = r1 C (tK C.P s (opv C.P e 0 x) i) dst q rest fs k e h := by
 rw [yu C fs k e h q rest (by rfl)]; simp only [rO, zP, r1]; cases tK C.P s (opv C.P e 0 x) i <;> rfl
theorem aD (s : TypeId) (x : Operand) (i : Nat) : goW C (some true) q ⟨dst, .field s x i, ty, pos, after, g⟩ rest fs k e h = r1 C (fld C.P s (opv C.P e s x) i) dst q rest fs k e h := by
 rw [yu C fs k e h q rest (by rfl)]; simp only [rO, zP, r1]; cases fld C.P s (opv C.P e s x) i <;> rfl
theorem oI (t : TypeId) (x i : Operand) : goW C (some true) q ⟨dst, .indexAddr t x i, ty, pos, after, g⟩ rest fs k e h = r1 C (vm C.P t (opv C.P e t x) (opv C.P e 0 i) h) dst q rest fs k e h := by
 rw [yu C fs k e h q rest (by rfl)]; simp only [rO, zP, r1]; cases vm C.P t (opv C.P e t x) (opv C.P e 0 i) h <;> rfl
theorem aC (t : TypeId) (x i : Operand) : goW C (some true) q ⟨dst, .index t x i, ty, pos, after, g⟩ rest fs k e h = r1 C (SN C.P t (opv C.P e t x) (opv C.P e 0 i)) dst q rest fs k e h := by
 rw [yu C fs k e h q rest (by rfl)]; simp only [rO, zP, r1, SN]
 cases opv C.P e t x with
 | t a => cases a with
  | str l => cases opv C.P e 0 i with
   | t b => cases b with
    | int kk n => simp only; cases isStr C.P t with
     | false => rfl
     | true => simp only [if_true]; cases uH l n <;> rfl
    | _ => rfl
   | _ => rfl
  | _ => rfl
 | _ => rfl
theorem kJ (x : Operand) (i : Nat) : goW C (some true) q ⟨dst, .extract x i, ty, pos, after, g⟩ rest fs k e h = r1 C (SQ (opv C.P e 0 x) i) dst q rest fs k e h := by
 rw [yu C fs k e h q rest (by rfl)]; simp only [rO, zP, r1, SQ]
 cases opv C.P e 0 x with
 | tup vs => simp only; cases vs[i]? <;> rfl
 | _ => rfl
def x8 (P : Program) (b : Builtin) (args : List V) (tys : List TypeId) (h : Heap) : Option (V × Heap) :=
 match b, args, tys with
 | .append, [s, x], [t, u] => yC P t u s x h
 | .clear, [x], [t] => yN P t x h
 | _, _, _ => none
theorem kL (b : Builtin) (args : List Operand) (tys : List TypeId) : goW C (some true) q ⟨dst, .call ⟨.builtin b, args.toArray, tys.toArray⟩, ty, pos, after, g⟩ rest fs k e h =
 r2 C (jB q.x (C.pol.own C.f) none (x8 C.P b (yj C.P e args tys) tys h) (blt C.P q.N b tys (yj C.P e args tys) h)) dst q rest fs k e :=
 nv C fs k e h q rest rfl rfl
def x5 (r : Option xY) (h : Heap) : Option (V × Heap) :=
 match r with
 | some (.call v h1) => if zS v && h1.all yP then yM none [] v h1 h else none
 | _ => none
def x6 (rc : Rec) (g : Nat) (az : Option (List V)) (h : Heap) : Option (V × Heap) :=
 match az with
 | some az => x5 (rc (.callO false g az [])) h
 | none => none
def x9 (r : Option xY) : Option (V × Heap) :=
 match r with
 | some (.call v h1) => some (v, h1)
 | _ => none
def yX (C : Cx) (m : PM) (fv : Option (Nat × List V)) (args : List V) (h : Heap) : Option (V × Heap) :=
 match fv with
 | some (g, caps) => (match m with
  | .brw => x6 C.rc g (yq.snapVs h (args ++ caps)) h
  | .all => x9 (C.rc (.callO false g (args ++ caps) h))
  | _ => none)
 | none => none
theorem TG (x : Operand) (args : List Operand) (tys : List TypeId) : zP C.P C.pol C.rc C.f q.N ⟨dst, .call ⟨.value x, args.toArray, tys.toArray⟩, ty, pos, after, g⟩ e h = ti C q.N (C.pol.pm C.f (dst.getD 0)) (fnV (opv C.P e 0 x)) (yj C.P e args tys) h := by
 simp only [zP, ti]
 cases fnV (opv C.P e 0 x) with
 | none => rfl
 | some y =>
  obtain ⟨g, caps⟩ := y
  simp only [wg]
  cases C.pol.pm C.f (dst.getD 0) with
  | pure => simp only; cases asArg.asArgs (yj C.P e args tys ++ caps) with
   | none => simp only; cases yq.snapVs h (yj C.P e args tys ++ caps) with
    | none => rfl
    | some az => simp only; cases zo C.rc g az <;> rfl
   | some az => simp only; cases zo C.rc g az <;> rfl
  | frz => simp only; cases yz.gives h (yj C.P e args tys ++ caps) with
   | none => rfl
   | some az => simp only; cases zo C.rc g az.1 <;> rfl
  | opn gv =>
   simp only [ZJ]
   cases C.rc (.callO gv g (yf 0 (yj C.P e args tys ++ caps) h).1 (yf 0 (yj C.P e args tys ++ caps) h).2) with
   | none => rfl
   | some r => cases r <;> rfl
  | brw => rfl
  | all => rfl
theorem TF (x : Operand) (args : List Operand) (tys : List TypeId) : yF C.P C.pol C.rc C.f q.N ⟨dst, .call ⟨.value x, args.toArray, tys.toArray⟩, ty, pos, after, g⟩ e h = yX C (C.pol.pm C.f (dst.getD 0)) (fnV (opv C.P e 0 x)) (yj C.P e args tys) h := by
 simp only [yF, yX]
 cases fnV (opv C.P e 0 x) with
 | none => rfl
 | some y =>
  obtain ⟨g, caps⟩ := y
  simp only
  cases C.pol.pm C.f (dst.getD 0) with
  | brw =>
   simp only [pH, x6, x5]
   cases yq.snapVs h (yj C.P e args tys ++ caps) <;> rfl
  | _ => rfl
theorem Uk (x : Operand) (args : List Operand) (tys : List TypeId) : goW C (some true) q ⟨dst, .call ⟨.value x, args.toArray, tys.toArray⟩, ty, pos, after, g⟩ rest fs k e h =
 r2 C (jB q.x (C.pol.own C.f) none (yX C (C.pol.pm C.f (dst.getD 0)) (fnV (opv C.P e 0 x)) (yj C.P e args tys) h) (ti C q.N (C.pol.pm C.f (dst.getD 0)) (fnV (opv C.P e 0 x)) (yj C.P e args tys) h)) dst q rest fs k e :=
 nv C fs k e h q rest (TF C e h q dst ty pos after g x args tys) (TG C e h q dst ty pos after g x args tys)
theorem mg (fn : Nat) (caps : List Operand) : goW C (some true) q ⟨dst, .makeFunc (.func fn) #[] caps.toArray, ty, pos, after, g⟩ rest fs k e h = goR C q rest fs k (put e dst (.fn fn (yj C.P e caps []))) h := (yu C fs k e h q rest (by rfl)).trans rfl
theorem ar (v : V) : r1 C (some v) dst q rest fs k e h = goR C q rest fs k (put e dst v) h := rfl
theorem aq (v : V) : r2 C (some (v, h)) dst q rest fs k e = goR C q rest fs k (put e dst v) h := rfl
theorem an : rh C (some h) dst q rest fs k e = goR C q rest fs k (put e dst .und) h := rfl
theorem Zz (a b : Code) : cK C (.t (.bool true)) a b p fs k e h = goC C a (2 * p) fs k e h := rfl
theorem dA (a b : Code) : cK C (.t (.bool false)) a b p fs k e h = goC C b (2 * p + 1) fs k e h := rfl
theorem WJ {C : Cx} {b : Bool} {a c : Code} {p : Nat} {fs : List Fr} {k : rR} {e : Env} {h : Heap} {r : Option xY} (ht : b = true → goC C a (2 * p) fs k e h = r) (hf : b = false → goC C c (2 * p + 1) fs k e h = r) : cK C (.t (.bool b)) a c p fs k e h = r := by
 cases b with
 | true => exact ht rfl
 | false => exact hf rfl
theorem Z0 (x : Exi) (vals : List V) (outs : List Nat) : lK C (some (.loop x vals h)) outs fs k = goX C fs k x (zb outs vals) h := rfl
theorem dd (res : List ResultVar) : mu C (.call res) .ret e h = dR C.P C.m (vq C.P e h res) h := rfl
theorem oW (res : List ResultVar) : mu C (.call res) .normal e h = dR C.P C.m (vq C.P e h res) h := rfl
theorem j7 (gv : Bool) (res : List ResultVar) : mu C (.callO gv res) .ret e h = nT gv C.m (vq C.P e h res) h := rfl
theorem qE (gv : Bool) (res : List ResultVar) : mu C (.callO gv res) .normal e h = nT gv C.m (vq C.P e h res) h := rfl
theorem mr : mu C (.loop p) .normal e h = C.rc (.loop C.f p C.m (yf C.m ((C.pol.live C.f p).map e) h).1 (yf C.m ((C.pol.live C.f p).map e) h).2) := rfl
theorem j9 (id : Nat) : mu C (.loop p) (.exit id) e h = some (.loop (.exit id) (yf C.m ((C.pol.outs C.f p).map e) h).1 (yf C.m ((C.pol.outs C.f p).map e) h).2) := rfl
theorem j8 : mu C (.loop p) .ret e h = some (.loop .ret (yf C.m ((C.pol.outs C.f p).map e) h).1 (yf C.m ((C.pol.outs C.f p).map e) h).2) := rfl
end
theorem VY (e : Env) (d : Nat) (v : V) (t : Nat) : upd e d v t = if t = d then v else e t := rfl
theorem fP (e : Env) (d : Nat) (v : V) : put e (some d) v = upd e d v := rfl
theorem fQ (e : Env) (v : V) : put e none v = e := rfl
theorem GO : type_of% Zi ∧ type_of% eS ∧ type_of% kX ∧ type_of% eP ∧ type_of% eQ ∧ type_of% Zj ∧ type_of% eO ∧ type_of% mq ∧ type_of% ah ∧ type_of% af ∧ type_of% eN ∧ type_of% Rh ∧ type_of% Ri ∧ type_of% kW ∧ type_of% eJ ∧ type_of% kT ∧ type_of% eK ∧ type_of% kU ∧ type_of% Zf ∧ type_of% Ze ∧ type_of% oU ∧ type_of% qB ∧ type_of% Zg ∧ type_of% oV ∧ type_of% qC ∧ type_of% Zh ∧ type_of% eM ∧ type_of% eL ∧ type_of% kV ∧ type_of% kS ∧ type_of% Uh ∧ type_of% eh ∧ type_of% Ug ∧ type_of% aG ∧ type_of% R0 ∧ type_of% aE ∧ type_of% qz ∧ type_of% Ui ∧ type_of% aA ∧ type_of% aF ∧ type_of% Uf ∧ type_of% kK ∧ type_of% oH ∧ type_of% aB ∧ type_of% mf ∧ type_of% oJ ∧ type_of% aD ∧ type_of% oI ∧ type_of% aC ∧ type_of% kJ ∧ type_of% kL ∧ type_of% Uk ∧ type_of% mg ∧ type_of% ar ∧ type_of% aq ∧ type_of% an ∧ type_of% Zz ∧ type_of% dA ∧ type_of% Z0 ∧ type_of% dd ∧ type_of% oW ∧ type_of% j7 ∧ type_of% qE ∧ type_of% mr ∧ type_of% j9 ∧ type_of% j8 :=
 ⟨Zi, eS, kX, eP, eQ, Zj, eO, mq, ah, af, eN, Rh, Ri, kW, eJ, kT, eK, kU, Zf, Ze, oU, qB, Zg, oV, qC, Zh, eM, eL, kV, kS, Uh, eh, Ug, aG, R0, aE, qz, Ui, aA, aF, Uf, kK, oH, aB, mf, oJ, aD, oI, aC, kJ, kL, Uk, mg, ar, aq, an, Zz, dA, Z0, dd, oW, j7, qE, mr, j9, j8⟩
end Go.Proofs.YtonbkdklidfmfaaGreatDoor.E
/- What a law's text needs besides: shapes of arguments, arithmetic in range, the policy's guard. Conditions: those of each lemma. -/
namespace Go.Proofs.YtonbkdklidfmfaaGreatDoor.E
set_option linter.unusedVariables false
set_option linter.unusedSimpArgs false
def dK (P : Program) (pm : Nat → Nat → PM) (live outs : Nat → Nat → List Nat) (dr : Nat → Bool) (ext : Nat → List V → Option V) (extO : Nat → List V → Heap → Option (V × Heap) := fun _ _ _ => none) (ow : Nat → Bool := fun _ => false) (gh : Nat → Nat → List Gh := fun _ _ => []) (dm : Nat → Nat → Bool := fun _ _ => false) : Pol :=
 let p0 : Pol := ⟨pm, live, outs, fun _ => false, dr, ext, extO, ow, gh, dm⟩
 ⟨pm, live, outs, fun f => match P.funcs[f]? with
  | some fn => match fn.body with
   | some c => !xu (nh P p0 f) fn.ntmps c
   | none => false
  | none => false, dr, ext, extO, ow, gh, dm⟩
theorem fU {P : Program} {pm : Nat → Nat → PM} {live outs : Nat → Nat → List Nat} {dr : Nat → Bool} {ext : Nat → List V → Option V} {extO : Nat → List V → Heap → Option (V × Heap)} {ow : Nat → Bool} {gh : Nat → Nat → List Gh} {dm : Nat → Nat → Bool} : ∀ f fn c, (dK P pm live outs dr ext extO ow gh dm).no f = false → P.funcs[f]? = some fn → fn.body = some c → xu (nh P (dK P pm live outs dr ext extO ow gh dm) f) fn.ntmps c = true := by
 intro f fn c h h1 h2
 simp only [dK] at h
 rw [h1] at h
 simp only [h2] at h
 have : xu (nh P ⟨pm, live, outs, fun _ => false, dr, ext, extO, ow, gh, dm⟩ f) fn.ntmps c = true := by simpa using h
 exact this
variable {P : Program}
theorem WT.TX {t : TypeId} {k : IntKind} {cs : List T} (ht : P.underlying t = some (.int k)) (h : WT P t cs) : ∃ n, cs = [.int k n] ∧ (Lit.int k n).wf = true := by
 cases h with
 | int _ k' n h hw => rw [ht] at h; cases h; exact ⟨n, rfl, hw⟩
 | bool _ b h => rw [ht] at h; cases h
 | str _ l h => rw [ht] at h; cases h
 | list _ e es h => rw [ht] at h; cases h
 | struct _ fs cs h => rw [ht] at h; cases h
theorem WT.Wi {t e : TypeId} {cs : List T} (ht : P.underlying t = some (.slice e)) (h : WT P t cs) : ∃ es, cs = [.list (P.cellsOf e) es] ∧ es.length ≤ 9223372036854775807 ∧ ∀ c ∈ es, WT P e c := by
 cases h with
 | int _ k' n h hw => rw [ht] at h; cases h
 | bool _ b h => rw [ht] at h; cases h
 | str _ l h hl => rw [ht] at h; cases h
 | list _ e es h hl hs => rw [ht] at h; cases h; exact ⟨es, rfl, hl, hs⟩
 | struct _ fs cs h => rw [ht] at h; cases h
theorem WTA.TW {xs : List V} (h : WTA P [] xs) : xs = [] := by cases h; rfl
theorem WTA.Wj {t : TypeId} {ts : List TypeId} {xs : List V} (h : WTA P (t :: ts) xs) : ∃ cs v vs, xs = v :: vs ∧ WT P t cs ∧ zd (zM P t) (cs.map .t) = some v ∧ WTA P ts vs := by
 cases h with
 | cons _ _ cs v vs h hp hs => exact ⟨cs, v, vs, rfl, h, hp, hs⟩
theorem zk {x : Int} (h : -9223372036854775808 ≤ x ∧ x ≤ 9223372036854775807) : IntKind.i64.wrap x = x := Go.IntWalk.i64_in x h
def gn : List Nat → Nat → Nat → Option Nat
 | [], _, _ => none
 | x :: xs, r, n => if x = r then some n else gn xs r (n + 1)
theorem Z9 : ∀ (ids : List Nat) (r n : Nat), gn ids r n = if ids.idxOf r < ids.length then some (ids.idxOf r + n) else none
 | [], r, n => by simp [gn]
 | x :: xs, r, n => by
  simp only [gn]
  by_cases h : x = r
  · subst h; simp
  · rw [if_neg h, Z9 xs r (n + 1), List.idxOf_cons]
    have : (x == r) = false := by simpa using h
    simp only [this, cond_false, List.length_cons, Nat.add_lt_add_iff_right]
    split
    · congr 1; omega
    · rfl
theorem idx_eq (ids : List Nat) (r : Nat) : idx ids r = gn ids r 0 := by rw [Z9]; rfl
def SO (h : Heap) (r : Nat) : Blk := h[r]?.getD .dead
def pD (ids : List Nat) (h : Heap) : List Nat → Heap
 | [] => []
 | r :: rs => zm (idx ids) (SO h r) :: pD ids h rs
theorem fS (ids : List Nat) (h : Heap) : ∀ l : List Nat, pD ids h l = l.map fun r => zm (idx ids) (h[r]?.getD .dead)
 | [] => rfl
 | r :: rs => by simp only [pD, SO, List.map_cons, fS ids h rs]
def ng (h : Heap) : List Nat → List Nat
 | [] => []
 | r :: rs => xt h r ++ ng h rs
theorem dB (h : Heap) : ∀ l : List Nat, ng h l = l.flatMap (xt h)
 | [] => rfl
 | r :: rs => by simp only [ng, List.flatMap_cons, dB h rs]
def uA (h : Heap) : Nat → List Nat → List Nat
 | 0, ids => ids
 | n + 1, ids => uA h n (yv ids (ng h ids))
theorem sS (h : Heap) : ∀ (n : Nat) (ids : List Nat), uA h n ids = reach h n ids
 | 0, ids => rfl
 | n + 1, ids => by simp only [uA, reach, dB, sS h n]
theorem me (h : Heap) (args : List V) : xr h args = uA h 3 (yv [] (refs.refss args)) := (sS h 3 _).symm
def sH : Nat → Nat → List Nat
 | 0, _ => []
 | n + 1, k => k :: sH n (k + 1)
theorem kz : ∀ (n k : Nat), sH n k = List.range' k n
 | 0, k => rfl
 | n + 1, k => by simp only [sH, List.range'_succ, kz n (k + 1)]
def pK (ids : List Nat) (vals : List V) (h : Heap) : List V × Heap := (ren.rens (idx ids) vals, pD ids h ids)
theorem fW (m : Nat) (vals : List V) (h : Heap) : yf m vals h = pK (uA h 3 (yv (sH m 0) (refs.refss vals))) vals h := by
 unfold yf pK
 simp only [sS, fS, kz, List.range_eq_range']
theorem pK_1 (ids : List Nat) (vals : List V) (h : Heap) : (pK ids vals h).1 = ren.rens (idx ids) vals := rfl
theorem pK_2 (ids : List Nat) (vals : List V) (h : Heap) : (pK ids vals h).2 = pD ids h ids := rfl
theorem kH (t : TypeId) : (Op.alloc t).operands.toList = [] := rfl
theorem fZ (x : Operand) : (Op.move x).operands.toList = [x] := rfl
theorem mc (x : Operand) : (Op.assign x).operands.toList = [x] := rfl
theorem ax (t : TypeId) (x : Operand) : (Op.box t x).operands.toList = [x] := rfl
theorem ea (t : TypeId) (x : Operand) : (Op.load t x).operands.toList = [x] := rfl
theorem fX (o : UnOp) (t : TypeId) (x : Operand) : (Op.unOp o t x).operands.toList = [x] := rfl
theorem oF (t u : TypeId) (x : Operand) : (Op.convert t u x).operands.toList = [x] := rfl
theorem qy (x : Operand) : (Op.nilCheck x).operands.toList = [x] := rfl
theorem rK (t : TypeId) (x : Operand) (i : Nat) : (Op.fieldAddr t x i).operands.toList = [x] := rfl
theorem kE (t : TypeId) (x : Operand) (i : Nat) : (Op.field t x i).operands.toList = [x] := rfl
theorem oE (x : Operand) (i : Nat) : (Op.extract x i).operands.toList = [x] := rfl
theorem fY (c a b : Operand) : (Op.pick c a b).operands.toList = [c, a, b] := rfl
theorem kF (t : TypeId) (l : List (Nat × Operand)) : (Op.build t l.toArray).operands.toList = l.map (·.2) := by simp [Op.operands]
theorem s6 (t : TypeId) (n : Nat) (l : List (Nat × Operand)) : (Op.buildSlice t n l.toArray).operands.toList = l.map (·.2) := by simp [Op.operands]
theorem kB (t : TypeId) (x y : Operand) : (Op.store t x y).operands.toList = [x, y] := rfl
theorem kG (o : BinOp) (t u : TypeId) (x y : Operand) : (Op.binOp o t x y u).operands.toList = [x, y] := rfl
theorem rI (t : TypeId) (x y : Operand) : (Op.makeSlice t x y).operands.toList = [x, y] := rfl
theorem rJ (t : TypeId) (x y : Operand) : (Op.indexAddr t x y).operands.toList = [x, y] := rfl
theorem kD (t : TypeId) (x y : Operand) : (Op.index t x y).operands.toList = [x, y] := rfl
theorem kC (t : TypeId) (x : Operand) (lo hi mx : Option Operand) : (Op.slice t x lo hi mx).operands.toList = x :: (lo.toList ++ hi.toList ++ mx.toList) := by cases lo <;> cases hi <;> cases mx <;> rfl
theorem ec (f : Operand) (l : List Operand) (tys : Array TypeId) : (Op.call ⟨.value f, l.toArray, tys⟩).operands.toList = f :: l := by simp [Op.operands, Call.operands]
theorem oG (b : Builtin) (l : List Operand) (tys : Array TypeId) : (Op.call ⟨.builtin b, l.toArray, tys⟩).operands.toList = l := by simp [Op.operands, Call.operands]
theorem OPL : type_of% kH ∧ type_of% fZ ∧ type_of% mc ∧ type_of% ax ∧ type_of% ea ∧ type_of% fX ∧ type_of% oF ∧ type_of% qy ∧ type_of% rK ∧ type_of% kE ∧ type_of% oE ∧ type_of% fY ∧ type_of% kF ∧ type_of% s6 ∧ type_of% kB ∧ type_of% kG ∧ type_of% rI ∧ type_of% rJ ∧ type_of% kD ∧ type_of% kC ∧ type_of% ec ∧ type_of% oG :=
 ⟨kH, fZ, mc, ax, ea, fX, oF, qy, rK, kE, oE, fY, kF, s6, kB, kG, rI, rJ, kD, kC, ec, oG⟩
def rz : List Oper → Nat → Option Nat
 | [], _ => none
 | o :: _, 0 => o.dst
 | _ :: r, n + 1 => rz r n
theorem dj : ∀ (l : List Oper) (j : Nat), rz l j = (l[j]?).bind (·.dst)
 | [], j => by simp [rz]
 | o :: r, 0 => rfl
 | o :: r, j + 1 => by simp [rz, dj r j]
def rl (v : V) (b : Bool) : Option Bool :=
 match v with
 | .t (.bool c) => some (c == b)
 | .und => some false
 | _ => none
def UU (d : Option Nat) (b : Bool) (e : Env) : Option Bool :=
 match d with
 | some d => rl (e d) b
 | none => none
theorem nJ (l : List Oper) (dst : Option Nat) (op : Op) (ty : TypeId) (pos : String) (after : Array Edge) (j : Nat) (b : Bool) (e : Env) : want l.toArray ⟨dst, op, ty, pos, after, some (j, b)⟩ e = UU (rz l j) b e := by
 unfold want UU rl
 rw [dj]
 simp only [List.getElem?_toArray]
 cases (l[j]?).bind (·.dst) <;> rfl
theorem nM (d : Nat) (b : Bool) (e : Env) : UU (some d) b e = rl (e d) b := rfl
theorem fu : rl (.t (.bool true)) true = some true := rfl
theorem fw : rl (.t (.bool true)) false = some false := rfl
theorem fx : rl (.t (.bool false)) true = some false := rfl
theorem fy : rl (.t (.bool false)) false = some true := rfl
theorem bZ (b : Bool) : rl .und b = some false := rfl
theorem eZ {α : Type} (es : List α) (k : Nat) : uH es (k : Int) = es[k]? := by simp [uH]
theorem vP {α : Type} (es : List α) : uH es 0 = es[0]? := by simp [uH]
theorem zw {pol : Pol} {g : Nat} {args : List V} {v : V} (h : EV P pol (.call g args []) = some (.call v [])) : zo (EV P pol) g args = some v := by
 unfold zo; rw [h]
end Go.Proofs.YtonbkdklidfmfaaGreatDoor.E
/- Where a walk stands at a test: its two roads. Conditions: those of each lemma. -/
namespace Go.Proofs.YtonbkdklidfmfaaGreatDoor.E
set_option linter.unusedVariables false
set_option linter.unusedSimpArgs false
section
variable {C : Cx} {a c : Code} {n : Nat} {fs : List Fr} {k : rR} {e : Env} {h : Heap} {r : Option xY} {p : Prop} [Decidable p]
theorem ou {b : Bool} (ht : b = true → goC C a (2 * n) fs k e h = r) (hf : b = false → goC C c (2 * n + 1) fs k e h = r) : cK C (.t (.bool b)) a c n fs k e h = r := WJ ht hf
variable {q : Rg} {o : Oper} {rest : List Oper} {w : Bool}
theorem oo {b : Bool} (ht : b = true → goW C (rl (.t (.bool true)) w) q o rest fs k e h = r) (hf : b = false → goW C (rl (.t (.bool false)) w) q o rest fs k e h = r) : goW C (rl (.t (.bool b)) w) q o rest fs k e h = r := by
 cases b with
 | true => exact ht rfl
 | false => exact hf rfl
end
def left (n : Int) (b : Nat) : Int := if n - (b : Int) < 0 then -1 else n - (b : Int)
theorem left_eq {n : Int} {b : Nat} (h : (b : Int) ≤ n) : left n b = n - (b : Int) := by unfold left; rw [if_neg (by omega)]
theorem ya {m n : Nat} (h : m ≤ n) : (m ≤ n) = True := eq_true h
theorem tN {α : Type} (pre : List α) (b : α) (rest : List α) : (pre ++ b :: rest)[pre.length]? = some b := by simp
theorem lh : ∀ l : List T, asArg.asArgs (l.map V.t) = some (l.map V.t)
 | [] => rfl
 | x :: l => by simp only [List.map_cons, asArg.asArgs, asArg, lh l]
theorem iF : ∀ l : List T, refs.refss (l.map V.t) = []
 | [] => rfl
 | x :: l => by simp only [List.map_cons, refs.refss, refs, iF l, List.append_nil]
theorem bE (m : Nat → Option Nat) : ∀ l : List T, ren.rens m (l.map V.t) = l.map V.t
 | [] => rfl
 | x :: l => by simp only [List.map_cons, ren.rens, ren, bE m l]
theorem bW : ∀ l : List T, vG (l.map V.t) = some l
 | [] => rfl
 | x :: l => by simp only [List.map_cons, vG, bW l]
section
variable {P : Program} {ty : TypeId} {k1 k2 : IntKind} {x y : Int} {h : Heap}
theorem iW {d mx : Nat} (h0 : 0 ≤ x) (h1 : x ≤ (mx : Int)) : dV d mx (some (.t (.int k1 x))) = some x.toNat := by
 simp only [dV]; rw [if_pos ⟨h0, h1⟩]
theorem bQ {n : Nat} (h0 : 0 ≤ x) (h1 : x ≤ y) (h2 : y ≤ (n : Int)) : ni n (some (.t (.int k1 x))) (some (.t (.int k2 y))) = some (x.toNat, y.toNat) := by
 unfold ni
 rw [iW (by omega) h2]
 simp only
 rw [iW h0 (by omega)]
theorem bR {n : Nat} (h0 : 0 ≤ x) (h1 : x ≤ (n : Int)) : ni n (some (.t (.int k1 x))) none = some (x.toNat, n) := by
 unfold ni
 simp only [dV]
 rw [if_pos ⟨h0, h1⟩]
theorem bS {n : Nat} (h0 : 0 ≤ y) (h2 : y ≤ (n : Int)) : ni n none (some (.t (.int k2 y))) = some (0, y.toNat) := by
 unfold ni
 rw [iW h0 h2]
 simp only [dV]
theorem dk {l : List UInt8} (h0 : 0 ≤ x) (h1 : x ≤ y) (h2 : y ≤ (l.length : Int)) : cut P ty (.t (.str l)) (some (.t (.int k1 x))) (some (.t (.int k2 y))) none h = if isStr P ty = true then some (.t (.str ((l.drop x.toNat).take (y.toNat - x.toNat)))) else none := by
 simp only [cut, bQ h0 h1 h2, Option.isNone_none, Bool.and_true]
theorem dn {l : List UInt8} (h0 : 0 ≤ x) (h1 : x ≤ (l.length : Int)) : cut P ty (.t (.str l)) (some (.t (.int k1 x))) none none h = if isStr P ty = true then some (.t (.str (l.drop x.toNat))) else none := by
 simp only [cut, bR h0 h1, Option.isNone_none, Bool.and_true]
 rw [List.take_of_length_le (by simp)]
theorem dp {l : List UInt8} (h0 : 0 ≤ y) (h2 : y ≤ (l.length : Int)) : cut P ty (.t (.str l)) none (some (.t (.int k2 y))) none h = if isStr P ty = true then some (.t (.str (l.take y.toNat))) else none := by
 simp only [cut, bS h0 h2, Option.isNone_none, Bool.and_true, List.drop_zero, Nat.sub_zero]
theorem jj {sz : Nat} {es : List (List T)} (h0 : 0 ≤ x) (h1 : x ≤ y) (h2 : y ≤ (es.length : Int)) : cut P ty (.t (.list sz es)) (some (.t (.int k1 x))) (some (.t (.int k2 y))) none h = match zV P ty with
 | some el => if (sz == zx P el || es.isEmpty) = true then some (.t (.list sz ((es.drop x.toNat).take (y.toNat - x.toNat)))) else none
 | none => none := by
 simp only [cut, bQ h0 h1 h2, Option.isNone_none, Bool.and_true]
 cases zV P ty <;> rfl
theorem jk {sz : Nat} {es : List (List T)} (h0 : 0 ≤ x) (h1 : x ≤ (es.length : Int)) : cut P ty (.t (.list sz es)) (some (.t (.int k1 x))) none none h = match zV P ty with
 | some el => if (sz == zx P el || es.isEmpty) = true then some (.t (.list sz (es.drop x.toNat))) else none
 | none => none := by
 have e : (es.drop x.toNat).take (es.length - x.toNat) = es.drop x.toNat := List.take_of_length_le (by simp)
 simp only [cut, bR h0 h1, Option.isNone_none, Bool.and_true, e]
 cases zV P ty <;> rfl
theorem jl {sz : Nat} {es : List (List T)} (h0 : 0 ≤ y) (h2 : y ≤ (es.length : Int)) : cut P ty (.t (.list sz es)) none (some (.t (.int k2 y))) none h = match zV P ty with
 | some el => if (sz == zx P el || es.isEmpty) = true then some (.t (.list sz (es.take y.toNat))) else none
 | none => none := by
 simp only [cut, bS h0 h2, Option.isNone_none, Bool.and_true, List.drop_zero, Nat.sub_zero]
 cases zV P ty <;> rfl
theorem Zr {r off len : Nat} {cap : Option Nat} (h0 : 0 ≤ x) (h1 : x ≤ y) (h2 : y ≤ (len : Int)) : cut P ty (.sl r off len cap) (some (.t (.int k1 x))) (some (.t (.int k2 y))) none h = match zV P ty with
 | some el => if ((h[r]?.bind xm) == some (zx P el)) = true then some (.sl r (off + x.toNat) (y.toNat - x.toNat) (cap.map (· - x.toNat))) else none
 | none => none := by
 simp only [cut, bQ h0 h1 h2]
 cases zV P ty <;> rfl
theorem Zs {r off len : Nat} {cap : Option Nat} (h0 : 0 ≤ x) (h1 : x ≤ (len : Int)) : cut P ty (.sl r off len cap) (some (.t (.int k1 x))) none none h = match zV P ty with
 | some el => if ((h[r]?.bind xm) == some (zx P el)) = true then some (.sl r (off + x.toNat) (len - x.toNat) (cap.map (· - x.toNat))) else none
 | none => none := by
 simp only [cut, bR h0 h1]
 cases zV P ty <;> rfl
theorem Zt {r off len : Nat} {cap : Option Nat} (h0 : 0 ≤ y) (h2 : y ≤ (len : Int)) : cut P ty (.sl r off len cap) none (some (.t (.int k2 y))) none h = match zV P ty with
 | some el => if ((h[r]?.bind xm) == some (zx P el)) = true then some (.sl r (off + 0) (y.toNat - 0) (cap.map (· - 0))) else none
 | none => none := by
 simp only [cut, bS h0 h2]
 cases zV P ty <;> rfl
theorem nN (n : Nat) : ((n : Int) + 1).toNat = n + 1 := by omega
end
theorem eY {α : Type} (es : List α) : uH es (1 : Int) = es[1]? := rfl
theorem eX {α : Type} (es : List α) : uH es (2 : Int) = es[2]? := rfl
end Go.Proofs.YtonbkdklidfmfaaGreatDoor.E
/- The machine's equations in one. Conditions: none. -/
namespace Go.Proofs.YtonbkdklidfmfaaGreatDoor.E
set_option linter.unusedVariables false
set_option maxRecDepth 100000
theorem GP0 : type_of% @uA.eq_1 ∧ type_of% @uA.eq_2 ∧ type_of% @yv.eq_1 ∧ type_of% @yv.eq_2 ∧ type_of% @ng.eq_1 ∧ type_of% @ng.eq_2 ∧ type_of% @sH.eq_1 ∧ type_of% @sH.eq_2 ∧ type_of% @gn.eq_1 ∧ type_of% @gn.eq_2 ∧ type_of% @ren.rens.eq_1 ∧ type_of% @ren.rens.eq_2 ∧ type_of% @pD.eq_1 ∧ type_of% @pD.eq_2 ∧ type_of% @SO.eq_1 ∧ type_of% @xt.eq_1 ∧ type_of% @nI.eq_1 ∧ type_of% @nI.eq_2 ∧ type_of% @nH.eq_1 ∧ type_of% @nH.eq_2 ∧ type_of% @vy.eq_1 ∧ type_of% @vy.eq_2 ∧ type_of% @wT.eq_1 ∧ type_of% @wT.eq_2 ∧ type_of% @xI.eq_1 ∧ type_of% @kids.eq_1 ∧ type_of% @kids.eq_2 ∧ type_of% @pA.eq_1 ∧ type_of% @pA.eq_2 ∧ type_of% @isB.eq_1 ∧ type_of% @ym.eq_1 ∧ type_of% @y6.eq_1 ∧ type_of% @xQ.eq_1 ∧ type_of% @wh.eq_1 ∧ type_of% @nL.eq_1 ∧ type_of% @nL.eq_2 ∧ type_of% @hdL.eq_1 ∧ type_of% @hdL.eq_2 ∧ type_of% @y6.eq_2 ∧ type_of% @refs.refss.eq_1 ∧ type_of% @refs.refss.eq_2 ∧ type_of% @opv.eq_1 ∧ type_of% @opv.eq_2 ∧ type_of% @opv.eq_3 ∧ type_of% @opv.eq_4 ∧ type_of% @yj.eq_1 ∧ type_of% @yj.eq_2 ∧ type_of% @yj.eq_3 ∧ type_of% @rN.eq_1 ∧ type_of% @rN.eq_2 ∧ type_of% @JV.eq_1 ∧ type_of% @ov.eq_1 ∧ type_of% @ov.eq_2 ∧ type_of% @xA.eq_1 ∧ type_of% @xA.eq_2 ∧ type_of% @xA.eq_3 ∧ type_of% @tK.eq_1 ∧ type_of% @fld.eq_1 ∧ type_of% @vJ.eq_1 :=
 ⟨@uA.eq_1, @uA.eq_2, @yv.eq_1, @yv.eq_2, @ng.eq_1, @ng.eq_2, @sH.eq_1, @sH.eq_2, @gn.eq_1, @gn.eq_2, @ren.rens.eq_1, @ren.rens.eq_2, @pD.eq_1, @pD.eq_2, @SO.eq_1, @xt.eq_1, @nI.eq_1, @nI.eq_2, @nH.eq_1, @nH.eq_2, @vy.eq_1, @vy.eq_2, @wT.eq_1, @wT.eq_2, @xI.eq_1, @kids.eq_1, @kids.eq_2, @pA.eq_1, @pA.eq_2, @isB.eq_1, @ym.eq_1, @y6.eq_1, @xQ.eq_1, @wh.eq_1, @nL.eq_1, @nL.eq_2, @hdL.eq_1, @hdL.eq_2, @y6.eq_2, @refs.refss.eq_1, @refs.refss.eq_2, @opv.eq_1, @opv.eq_2, @opv.eq_3, @opv.eq_4, @yj.eq_1, @yj.eq_2, @yj.eq_3, @rN.eq_1, @rN.eq_2, @JV.eq_1, @ov.eq_1, @ov.eq_2, @xA.eq_1, @xA.eq_2, @xA.eq_3, @tK.eq_1, @fld.eq_1, @vJ.eq_1⟩
theorem GP1 : type_of% @tG.eq_1 ∧ type_of% @w7.eq_1 ∧ type_of% @ti.eq_1 ∧ type_of% @ti.eq_2 ∧ type_of% @ti.eq_3 ∧ type_of% @ti.eq_4 ∧ type_of% @ti.eq_5 ∧ type_of% @ghH.eq_1 ∧ type_of% @ghH.eq_2 ∧ type_of% @asArg.asArgs.eq_1 ∧ type_of% @asArg.asArgs.eq_2 ∧ type_of% @yq.snapVs.eq_1 ∧ type_of% @yq.snapVs.eq_2 ∧ type_of% @xN.eq_1 ∧ type_of% @xN.eq_2 ∧ type_of% @u9.eq_1 ∧ type_of% @u9.eq_2 ∧ type_of% @zc.flatVs.eq_1 ∧ type_of% @zc.flatVs.eq_2 ∧ type_of% @me ∧ type_of% @yM.eq_1 ∧ type_of% @wV.eq_1 ∧ type_of% @xB.eq_1 ∧ type_of% @nT.eq_1 ∧ type_of% @nT.eq_2 ∧ type_of% @ru.eq_1 ∧ type_of% @wG.eq_1 ∧ type_of% @hI.eq_1 ∧ type_of% @wK.eq_1 ∧ type_of% @wK.eq_2 ∧ type_of% @xO.eq_1 ∧ type_of% @xO.eq_2 ∧ type_of% @y5.eq_1 ∧ type_of% @app.eq_1 ∧ type_of% @ig.eq_1 ∧ type_of% @yz.gives.eq_1 ∧ type_of% @yz.gives.eq_2 ∧ type_of% @rr.eq_1 ∧ type_of% @dR.eq_1 ∧ type_of% @dR.eq_2 ∧ type_of% @vq.eq_1 ∧ type_of% @vq.eq_2 ∧ type_of% @vq.eq_3 ∧ type_of% @xm.eq_1 ∧ type_of% @xm.eq_2 ∧ type_of% @xm.eq_3 ∧ type_of% @xm.eq_4 ∧ type_of% @rz.eq_1 ∧ type_of% @rz.eq_2 ∧ type_of% @rz.eq_3 ∧ type_of% @xz.eq_1 :=
 ⟨@tG.eq_1, @w7.eq_1, @ti.eq_1, @ti.eq_2, @ti.eq_3, @ti.eq_4, @ti.eq_5, @ghH.eq_1, @ghH.eq_2, @asArg.asArgs.eq_1, @asArg.asArgs.eq_2, @yq.snapVs.eq_1, @yq.snapVs.eq_2, @xN.eq_1, @xN.eq_2, @u9.eq_1, @u9.eq_2, @zc.flatVs.eq_1, @zc.flatVs.eq_2, @me, @yM.eq_1, @wV.eq_1, @xB.eq_1, @nT.eq_1, @nT.eq_2, @ru.eq_1, @wG.eq_1, @hI.eq_1, @wK.eq_1, @wK.eq_2, @xO.eq_1, @xO.eq_2, @y5.eq_1, @app.eq_1, @ig.eq_1, @yz.gives.eq_1, @yz.gives.eq_2, @rr.eq_1, @dR.eq_1, @dR.eq_2, @vq.eq_1, @vq.eq_2, @vq.eq_3, @xm.eq_1, @xm.eq_2, @xm.eq_3, @xm.eq_4, @rz.eq_1, @rz.eq_2, @rz.eq_3, @xz.eq_1⟩
theorem GP2 : type_of% @xz.eq_2 ∧ type_of% @gj.eq_1 ∧ type_of% @tX.eq_1 ∧ type_of% @tX.eq_2 ∧ type_of% @kd ∧ type_of% @fW ∧ type_of% @pK_1 ∧ type_of% @pK_2 ∧ type_of% @idx_eq ∧ type_of% @eZ ∧ type_of% @List.flatMap_nil.{0, 0} ∧ type_of% @List.flatMap_cons.{0, 0} ∧ type_of% @List.mem_cons.{0} ∧ type_of% @List.not_mem_nil.{0} ∧ type_of% @or_false ∧ type_of% @false_or ∧ type_of% @or_true ∧ type_of% @true_or ∧ type_of% @OPL ∧ type_of% @Option.toList_some.{0} ∧ type_of% @Option.toList_none.{0} ∧ type_of% @VY ∧ type_of% @fP ∧ type_of% @fQ ∧ type_of% @jv ∧ type_of% @jw ∧ type_of% @lh ∧ type_of% @iF ∧ type_of% @bE ∧ type_of% @bW ∧ type_of% @dk ∧ type_of% @dn ∧ type_of% @dp ∧ type_of% @jj ∧ type_of% @jk ∧ type_of% @jl ∧ type_of% @Zr ∧ type_of% @Zs ∧ type_of% @Zt ∧ type_of% @Int.toNat_natCast ∧ type_of% @nN ∧ type_of% @ne_eq.{1} ∧ type_of% @List.isEmpty_nil.{0} ∧ type_of% @List.replicate_succ.{0} ∧ type_of% @List.replicate_zero.{0} ∧ type_of% @Nat.zero_mul ∧ type_of% @List.append_nil.{0} ∧ type_of% @nJ :=
 ⟨@xz.eq_2, @gj.eq_1, @tX.eq_1, @tX.eq_2, @kd, @fW, @pK_1, @pK_2, @idx_eq, @eZ, @List.flatMap_nil.{0, 0}, @List.flatMap_cons.{0, 0}, @List.mem_cons.{0}, @List.not_mem_nil.{0}, @or_false, @false_or, @or_true, @true_or, @OPL, @Option.toList_some.{0}, @Option.toList_none.{0}, @VY, @fP, @fQ, @jv, @jw, @lh, @iF, @bE, @bW, @dk, @dn, @dp, @jj, @jk, @jl, @Zr, @Zs, @Zt, @Int.toNat_natCast, @nN, @ne_eq.{1}, @List.isEmpty_nil.{0}, @List.replicate_succ.{0}, @List.replicate_zero.{0}, @Nat.zero_mul, @List.append_nil.{0}, @nJ⟩
theorem GP3 : type_of% @nM ∧ type_of% @fu ∧ type_of% @fw ∧ type_of% @fx ∧ type_of% @fy ∧ type_of% @bZ ∧ type_of% @Option.map_some.{0, 0} ∧ type_of% @Option.map_none.{0, 0} ∧ type_of% @Option.bind_some.{0, 0} ∧ type_of% @Option.bind_none.{0, 0} ∧ type_of% @Option.getD_some.{0} ∧ type_of% @Option.getD_none.{0} ∧ type_of% @List.map_cons.{0, 0} ∧ type_of% @List.map_nil.{0, 0} ∧ type_of% @List.all_cons.{0} ∧ type_of% @List.all_nil.{0} ∧ type_of% @List.isEmpty_cons.{0} ∧ type_of% @List.length_nil.{0} ∧ type_of% @List.length_cons.{0} ∧ type_of% @List.nil_append.{0} ∧ type_of% @List.cons_append.{0} ∧ type_of% @List.getElem?_cons_zero.{0} ∧ type_of% @List.getElem?_cons_succ.{0} ∧ type_of% @List.set_cons_zero.{0} ∧ type_of% @List.set_cons_succ.{0} ∧ type_of% @List.drop_zero.{0} ∧ type_of% @List.drop_succ_cons.{0} ∧ type_of% @List.take_succ_cons.{0} ∧ type_of% @List.take_zero.{0} ∧ type_of% @List.drop_nil.{0} ∧ type_of% @List.take_nil.{0} ∧ type_of% @List.toList_toArray.{0} ∧ type_of% @Bool.and_true ∧ type_of% @Bool.not_true ∧ type_of% @Bool.not_false ∧ type_of% @Bool.false_or ∧ type_of% @Bool.or_false ∧ type_of% @Bool.or_true ∧ type_of% @Bool.true_or ∧ type_of% @Bool.and_false ∧ type_of% @Bool.true_and ∧ type_of% @Bool.false_and ∧ type_of% @Bool.false_eq_true ∧ type_of% @and_true ∧ type_of% @true_and ∧ type_of% @and_self ∧ type_of% @Option.some.injEq.{0} ∧ type_of% @ite_true.{1} :=
 ⟨@nM, @fu, @fw, @fx, @fy, @bZ, @Option.map_some.{0, 0}, @Option.map_none.{0, 0}, @Option.bind_some.{0, 0}, @Option.bind_none.{0, 0}, @Option.getD_some.{0}, @Option.getD_none.{0}, @List.map_cons.{0, 0}, @List.map_nil.{0, 0}, @List.all_cons.{0}, @List.all_nil.{0}, @List.isEmpty_cons.{0}, @List.length_nil.{0}, @List.length_cons.{0}, @List.nil_append.{0}, @List.cons_append.{0}, @List.getElem?_cons_zero.{0}, @List.getElem?_cons_succ.{0}, @List.set_cons_zero.{0}, @List.set_cons_succ.{0}, @List.drop_zero.{0}, @List.drop_succ_cons.{0}, @List.take_succ_cons.{0}, @List.take_zero.{0}, @List.drop_nil.{0}, @List.take_nil.{0}, @List.toList_toArray.{0}, @Bool.and_true, @Bool.not_true, @Bool.not_false, @Bool.false_or, @Bool.or_false, @Bool.or_true, @Bool.true_or, @Bool.and_false, @Bool.true_and, @Bool.false_and, @Bool.false_eq_true, @and_true, @true_and, @and_self, @Option.some.injEq.{0}, @ite_true.{1}⟩
theorem GP4 : type_of% @ite_false.{1} ∧ type_of% @decide_true ∧ type_of% @decide_false ∧ type_of% @not_true_eq_false ∧ type_of% @not_false_eq_true ∧ type_of% @beq_self_eq_true.{0} ∧ type_of% @Nat.zero_add ∧ type_of% @Nat.add_zero ∧ type_of% @Nat.le_refl ∧ type_of% @Nat.not_lt_zero ∧ type_of% @Option.isNone_some.{0} ∧ type_of% @Option.isSome_some.{0} ∧ type_of% @cond_true.{1} ∧ type_of% @cond_false.{1} :=
 ⟨@ite_false.{1}, @decide_true, @decide_false, @not_true_eq_false, @not_false_eq_true, @beq_self_eq_true.{0}, @Nat.zero_add, @Nat.add_zero, @Nat.le_refl, @Nat.not_lt_zero, @Option.isNone_some.{0}, @Option.isSome_some.{0}, @cond_true.{1}, @cond_false.{1}⟩
theorem GA : type_of% @GP0 ∧ type_of% @GP1 ∧ type_of% @GP2 ∧ type_of% @GP3 ∧ type_of% @GP4 :=
 ⟨@GP0, @GP1, @GP2, @GP3, @GP4⟩
theorem GX0 : type_of% @wb.eq_1 ∧ type_of% @wb.eq_2 ∧ type_of% @wb.eq_3 ∧ type_of% @wb.eq_4 ∧ type_of% @wb.eq_5 ∧ type_of% @wb.eq_6 ∧ type_of% @wb.eq_7 ∧ type_of% @dS.eq_1 ∧ type_of% @dS.eq_2 ∧ type_of% @vm.eq_1 ∧ type_of% @E.load.eq_1 ∧ type_of% @E.load.eq_2 ∧ type_of% @E.store.eq_1 ∧ type_of% @vu.eq_1 ∧ type_of% @vu.eq_2 ∧ type_of% @vu.eq_3 ∧ type_of% @vu.eq_4 ∧ type_of% @vu.eq_5 ∧ type_of% @vu.eq_6 ∧ type_of% @vu.eq_7 ∧ type_of% @vu.eq_8 ∧ type_of% @vu.eq_9 ∧ type_of% @vu.eq_10 ∧ type_of% @vu.eq_11 ∧ type_of% @rL.eq_1 ∧ type_of% @rL.eq_2 ∧ type_of% @rL.eq_3 ∧ type_of% @rL.eq_4 ∧ type_of% @rL.eq_5 ∧ type_of% @rL.eq_6 ∧ type_of% @rL.eq_7 ∧ type_of% @zX.eq_1 ∧ type_of% @zX.eq_2 ∧ type_of% @zX.eq_3 ∧ type_of% @zX.eq_4 ∧ type_of% @zX.eq_5 ∧ type_of% @ka.eq_1 ∧ type_of% @ka.eq_2 ∧ type_of% @ka.eq_3 ∧ type_of% @ka.eq_4 ∧ type_of% @fnV.eq_1 ∧ type_of% @fnV.eq_2 ∧ type_of% @yq.eq_1 ∧ type_of% @yq.eq_2 ∧ type_of% @yq.eq_3 :=
 ⟨@wb.eq_1, @wb.eq_2, @wb.eq_3, @wb.eq_4, @wb.eq_5, @wb.eq_6, @wb.eq_7, @dS.eq_1, @dS.eq_2, @vm.eq_1, @E.load.eq_1, @E.load.eq_2, @E.store.eq_1, @vu.eq_1, @vu.eq_2, @vu.eq_3, @vu.eq_4, @vu.eq_5, @vu.eq_6, @vu.eq_7, @vu.eq_8, @vu.eq_9, @vu.eq_10, @vu.eq_11, @rL.eq_1, @rL.eq_2, @rL.eq_3, @rL.eq_4, @rL.eq_5, @rL.eq_6, @rL.eq_7, @zX.eq_1, @zX.eq_2, @zX.eq_3, @zX.eq_4, @zX.eq_5, @ka.eq_1, @ka.eq_2, @ka.eq_3, @ka.eq_4, @fnV.eq_1, @fnV.eq_2, @yq.eq_1, @yq.eq_2, @yq.eq_3⟩
theorem GX1 : type_of% @yq.eq_4 ∧ type_of% @yq.eq_5 ∧ type_of% @yq.eq_6 ∧ type_of% @yq.eq_7 ∧ type_of% @tP.eq_1 ∧ type_of% @tP.eq_2 ∧ type_of% @tP.eq_3 ∧ type_of% @tQ.eq_1 ∧ type_of% @tQ.eq_2 ∧ type_of% @tQ.eq_3 ∧ type_of% @wA.eq_1 ∧ type_of% @wA.eq_2 ∧ type_of% @wA.eq_3 ∧ type_of% @wA.eq_4 ∧ type_of% @tT.eq_1 ∧ type_of% @tT.eq_2 ∧ type_of% @vA.eq_1 ∧ type_of% @vA.eq_2 ∧ type_of% @ZJ.eq_1 ∧ type_of% @vG.eq_1 ∧ type_of% @vG.eq_2 ∧ type_of% @rP.eq_1 ∧ type_of% @rP.eq_2 ∧ type_of% @rP.eq_3 ∧ type_of% @wS.eq_1 ∧ type_of% @wS.eq_2 ∧ type_of% @wS.eq_3 ∧ type_of% @wS.eq_4 ∧ type_of% @SN.eq_1 ∧ type_of% @ZX.eq_1 ∧ type_of% @pC.eq_1 ∧ type_of% @pC.eq_2 ∧ type_of% @yz.eq_1 ∧ type_of% @yz.eq_2 ∧ type_of% @yz.eq_3 ∧ type_of% @yz.eq_4 ∧ type_of% @yz.eq_5 ∧ type_of% @yz.eq_6 ∧ type_of% @SQ.eq_1 ∧ type_of% @ZI.eq_1 :=
 ⟨@yq.eq_4, @yq.eq_5, @yq.eq_6, @yq.eq_7, @tP.eq_1, @tP.eq_2, @tP.eq_3, @tQ.eq_1, @tQ.eq_2, @tQ.eq_3, @wA.eq_1, @wA.eq_2, @wA.eq_3, @wA.eq_4, @tT.eq_1, @tT.eq_2, @vA.eq_1, @vA.eq_2, @ZJ.eq_1, @vG.eq_1, @vG.eq_2, @rP.eq_1, @rP.eq_2, @rP.eq_3, @wS.eq_1, @wS.eq_2, @wS.eq_3, @wS.eq_4, @SN.eq_1, @ZX.eq_1, @pC.eq_1, @pC.eq_2, @yz.eq_1, @yz.eq_2, @yz.eq_3, @yz.eq_4, @yz.eq_5, @yz.eq_6, @SQ.eq_1, @ZI.eq_1⟩
theorem GX : type_of% @GX0 ∧ type_of% @GX1 := ⟨@GX0, @GX1⟩
theorem LL : type_of% @List.length_cons.{0} ∧ type_of% @List.length_append.{0} ∧ type_of% @List.length_nil.{0} ∧ type_of% @List.length_map.{0, 0} := ⟨@List.length_cons.{0}, @List.length_append.{0}, @List.length_nil.{0}, @List.length_map.{0, 0}⟩
theorem GZ : type_of% @Int.cast_ofNat_Int ∧ type_of% @vP ∧ type_of% @eY ∧ type_of% @eX ∧ type_of% @Option.isSome_none.{0} := ⟨@Int.cast_ofNat_Int, @vP, @eY, @eX, @Option.isSome_none.{0}⟩
end Go.Proofs.YtonbkdklidfmfaaGreatDoor.E
/- Plain words about texts: digits, quotes, joins. Conditions: those of each lemma. -/
namespace Go.Proofs.YtonbkdklidfmfaaGreatDoor
set_option linter.unusedVariables false
set_option linter.unusedSimpArgs false
abbrev Str := List UInt8
abbrev B2 (a lo hi : Int) : Bool := decide (lo ≤ a) && decide (a ≤ hi)
abbrev nb (b : UInt8) : Int := (b.toNat : Int)
theorem UW (b : UInt8) : (b.toNat : Int) < 256 ∧ (0 : Int) ≤ (b.toNat : Int) := by have := b.toNat_lt; omega
def yS (b : UInt8) : Str → List Str
 | [] => [[]]
 | x :: s => if x = b then [] :: yS b s else match yS b s with
  | p :: r => (x :: p) :: r
  | [] => [[x]]
end Go.Proofs.YtonbkdklidfmfaaGreatDoor
/- Lists of texts, trees: as the evaluator sees them; their sizes. Conditions: those of each lemma. -/
namespace Go.Proofs.YtonbkdklidfmfaaGreatDoor
open E
set_option linter.unusedSimpArgs false
set_option linter.unusedVariables false
set_option maxRecDepth 100000
def strs (ks : List (List UInt8)) : List (List T) := ks.map fun s => [.str s]
def yl : List (List UInt8) → Nat
 | [] => 0
 | s :: ks => s.length + yl ks
theorem zi (ks : List (List UInt8)) : (strs ks).length = ks.length := by simp [strs]
theorem uR (ks : List (List UInt8)) (i : Nat) (h : i < ks.length) : (strs ks)[i]? = some [.str ks[i]] := by simp [strs, h]
inductive Tr where
 | mk (k n : Int) (s : List UInt8) (ks : List (List UInt8)) (cs : List Tr)
mutual
def Tr.enc : Tr → List T
 | .mk k n s ks cs => [.int .i64 k, .int .i64 n, .str s, .list 1 (strs ks), .list 5 (Tr.zh cs)]
def Tr.zh : List Tr → List (List T)
 | [] => []
 | c :: cs => Tr.enc c :: Tr.zh cs
end
mutual
def Tr.y7 : Tr → Nat
 | .mk _ _ s ks cs => s.length + ks.length + yl ks + cs.length + Tr.yi cs
def Tr.yi : List Tr → Nat
 | [] => 0
 | c :: cs => Tr.y7 c + Tr.yi cs
end
mutual
def Tr.ok : Tr → Prop
 | .mk _ _ s ks cs => s.length ≤ 9223372036854775807 ∧ ks.length ≤ 9223372036854775807 ∧ (∀ x ∈ ks, x.length ≤ 9223372036854775807) ∧ cs.length ≤ 9223372036854775807 ∧ Tr.oks cs
def Tr.oks : List Tr → Prop
 | [] => True
 | c :: cs => Tr.ok c ∧ Tr.oks cs
end
theorem Tr.iR : ∀ cs : List Tr, Tr.zh cs = cs.map Tr.enc
 | [] => rfl
 | c :: cs => by simp [Tr.zh, Tr.iR cs]
theorem Tr.zu (cs : List Tr) : (Tr.zh cs).length = cs.length := by simp [Tr.iR]
theorem Tr.w6 (cs : List Tr) (i : Nat) (h : i < cs.length) : (Tr.zh cs)[i]? = some cs[i].enc := by simp [Tr.iR, h]
theorem Tr.yp : ∀ {cs : List Tr} {c : Tr}, c ∈ cs → c.y7 ≤ Tr.yi cs
 | c' :: cs, c, h => by
  simp only [Tr.yi]
  rcases List.mem_cons.1 h with rfl | h
  · omega
  · have := Tr.yp h; omega
end Go.Proofs.YtonbkdklidfmfaaGreatDoor
/- The shelf's contracts at this program, laid by the kit's own tool. Conditions: none. -/
namespace Go.Proofs
open Go.Shelf
def Tryz.oM : Go.Shelf.Ren := ⟨fun | 156 => 205 | 165 => 221 | 166 => 222 | 169 => 223 | 240 => 236 | 241 => 237 | 276 => 244 | 277 => 245 | n => n, fun | 31 => 22 | 9 => 9 | 3 => 3 | 4 => 4 | 0 => 0 | 20 => 20 | 72 => 202 | 76 => 193 | 70 => 200 | 37 => 40 | 75 => 192 | 127 => 212 | 164 => 223 | 5 => 5 | 80 => 204 | n => n, fun | n => n⟩
theorem Tryz.aP : Go.Proofs.Lays.n156 Tryz.prog Tryz.oM := {
 mixed := by kernel_rfl
 f156 := Tryz.func205.trans (congrArg some (by kernel_rfl))
 f165 := Tryz.func221.trans (congrArg some (by kernel_rfl))
 f166 := Tryz.func222.trans (congrArg some (by kernel_rfl))
 f169 := Tryz.func223.trans (congrArg some (by kernel_rfl))
 f240 := Tryz.func236.trans (congrArg some (by kernel_rfl))
 f241 := Tryz.func237.trans (congrArg some (by kernel_rfl))
 f276 := Tryz.func244.trans (congrArg some (by kernel_rfl))
 f277 := Tryz.func245.trans (congrArg some (by kernel_rfl))
 t0 := Tryz.underlying0
 a0 := Tryz.isAgg0
 z0 := Tryz.sizeOf0
 v0 := Tryz.zeroValue0
 t3 := Tryz.underlying3
 a3 := Tryz.isAgg3
 z3 := Tryz.sizeOf3
 v3 := Tryz.zeroValue3
 t4 := Tryz.underlying4
 a4 := Tryz.isAgg4
 z4 := Tryz.sizeOf4
 v4 := Tryz.zeroValue4
 t9 := Tryz.underlying9
 a9 := Tryz.isAgg9
 z9 := Tryz.sizeOf9
 v9 := Tryz.zeroValue9
 t20 := Tryz.underlying20
 a20 := Tryz.isAgg20
 z20 := Tryz.sizeOf20
 v20 := Tryz.zeroValue20
 t31 := Tryz.underlying22
 a31 := Tryz.isAgg22
 z31 := Tryz.sizeOf22
 v31 := Tryz.zeroValue22
 t37 := Tryz.underlying40
 a37 := Tryz.isAgg40
 z37 := Tryz.sizeOf40
 v37 := Tryz.zeroValue40
 t70 := Tryz.underlying200
 a70 := Tryz.isAgg200
 z70 := Tryz.sizeOf200
 v70 := Tryz.zeroValue200
 t72 := Tryz.underlying202
 a72 := Tryz.isAgg202
 z72 := Tryz.sizeOf202
 v72 := Tryz.zeroValue202
 t75 := Tryz.underlying192
 a75 := Tryz.isAgg192
 z75 := Tryz.sizeOf192
 v75 := Tryz.zeroValue192
 t76 := Tryz.underlying193
 a76 := Tryz.isAgg193
 z76 := Tryz.sizeOf193
 v76 := Tryz.zeroValue193
 t127 := Tryz.underlying212
 a127 := Tryz.isAgg212
 z127 := Tryz.sizeOf212
 v127 := Tryz.zeroValue212
 t164 := Tryz.underlying223
 a164 := Tryz.isAgg223
 z164 := Tryz.sizeOf223
 v164 := Tryz.zeroValue223 }
theorem Tryz.ub : Builder.Extra Tryz.prog Tryz.oM := {
 sizeBuilder := by kernel_rfl
 liesBuilder := by kernel_rfl
 t5 := Tryz.underlying5
 a5 := Tryz.isAgg5
 z5 := Tryz.sizeOf5
 v5 := Tryz.zeroValue5
 infoByte := by kernel_rfl
 cellsByte := by kernel_rfl
 sizeByte := by kernel_rfl
 neB5 := by decide }
def Tryz.gJ : Go.Shelf.Ren := ⟨fun | 106 => 108 | 213 => 133 | 265 => 169 | n => n, fun | 9 => 9 | 3 => 3 | n => n, fun | n => n⟩
theorem Tryz.TR : Go.Proofs.Lays.n106 Tryz.prog Tryz.gJ := {
 mixed := by kernel_rfl
 f106 := Tryz.func108.trans (congrArg some (by kernel_rfl))
 f213 := Tryz.func133.trans (congrArg some (by kernel_rfl))
 f265 := Tryz.func169.trans (congrArg some (by kernel_rfl))
 t3 := Tryz.underlying3
 a3 := Tryz.isAgg3
 z3 := Tryz.sizeOf3
 v3 := Tryz.zeroValue3
 t9 := Tryz.underlying9
 a9 := Tryz.isAgg9
 z9 := Tryz.sizeOf9
 v9 := Tryz.zeroValue9 }
def Tryz.jL : Go.Shelf.Ren := ⟨fun | 171 => 217 | 243 => 235 | 246 => 243 | 283 => 248 | 284 => 249 | 285 => 250 | 286 => 251 | 129 => 147 | 317 => 252 | 318 => 253 | 319 => 254 | 320 => 255 | 337 => 256 | 338 => 257 | n => n, fun | 3 => 3 | 9 => 9 | 2 => 2 | 4 => 4 | 171 => 230 | 0 => 0 | 53 => 146 | 37 => 40 | 5 => 5 | 173 => 232 | 212 => 235 | 51 => 144 | 20 => 20 | 213 => 236 | 46 => 120 | 232 => 238 | 233 => 239 | n => n, fun | 17 => 5 | 18 => 6 | 19 => 7 | n => n⟩
theorem Tryz.Wd : Go.Proofs.LaysM.n171 Tryz.prog Tryz.jL := {
 mixed := by kernel_rfl
 f129 := Tryz.func147.trans (congrArg some (by kernel_rfl))
 f171 := Tryz.func217.trans (congrArg some (by kernel_rfl))
 f243 := Tryz.func235.trans (congrArg some (by kernel_rfl))
 f246 := Tryz.func243.trans (congrArg some (by kernel_rfl))
 f283 := Tryz.func248.trans (congrArg some (by kernel_rfl))
 f284 := Tryz.func249.trans (congrArg some (by kernel_rfl))
 f285 := Tryz.func250.trans (congrArg some (by kernel_rfl))
 f286 := Tryz.func251.trans (congrArg some (by kernel_rfl))
 f317 := Tryz.func252.trans (congrArg some (by kernel_rfl))
 f318 := Tryz.func253.trans (congrArg some (by kernel_rfl))
 f319 := Tryz.func254.trans (congrArg some (by kernel_rfl))
 f320 := Tryz.func255.trans (congrArg some (by kernel_rfl))
 f337 := Tryz.func256.trans (congrArg some (by kernel_rfl))
 f338 := Tryz.func257.trans (congrArg some (by kernel_rfl))
 t0 := Tryz.underlying0
 a0 := Tryz.isAgg0
 z0 := Tryz.sizeOf0
 v0 := Tryz.zeroValue0
 t2 := Tryz.underlying2
 a2 := Tryz.isAgg2
 z2 := Tryz.sizeOf2
 v2 := Tryz.zeroValue2
 t3 := Tryz.underlying3
 a3 := Tryz.isAgg3
 z3 := Tryz.sizeOf3
 v3 := Tryz.zeroValue3
 t4 := Tryz.underlying4
 a4 := Tryz.isAgg4
 z4 := Tryz.sizeOf4
 v4 := Tryz.zeroValue4
 t5 := Tryz.underlying5
 a5 := Tryz.isAgg5
 z5 := Tryz.sizeOf5
 v5 := Tryz.zeroValue5
 t9 := Tryz.underlying9
 a9 := Tryz.isAgg9
 z9 := Tryz.sizeOf9
 v9 := Tryz.zeroValue9
 t20 := Tryz.underlying20
 a20 := Tryz.isAgg20
 z20 := Tryz.sizeOf20
 v20 := Tryz.zeroValue20
 t37 := Tryz.underlying40
 a37 := Tryz.isAgg40
 z37 := Tryz.sizeOf40
 v37 := Tryz.zeroValue40
 t46 := Tryz.underlying120
 a46 := Tryz.isAgg120
 z46 := Tryz.sizeOf120
 v46 := Tryz.zeroValue120
 t51 := Tryz.underlying144
 a51 := Tryz.isAgg144
 z51 := Tryz.sizeOf144
 v51 := Tryz.zeroValue144
 t53 := Tryz.underlying146
 a53 := Tryz.isAgg146
 z53 := Tryz.sizeOf146
 v53 := Tryz.zeroValue146
 t171 := Tryz.underlying230
 a171 := Tryz.isAgg230
 z171 := Tryz.sizeOf230
 v171 := Tryz.zeroValue230
 t173 := Tryz.underlying232
 a173 := Tryz.isAgg232
 z173 := Tryz.sizeOf232
 v173 := Tryz.zeroValue232
 t212 := Tryz.underlying235
 a212 := Tryz.isAgg235
 z212 := Tryz.sizeOf235
 v212 := Tryz.zeroValue235
 t213 := Tryz.underlying236
 a213 := Tryz.isAgg236
 z213 := Tryz.sizeOf236
 t232 := Tryz.underlying238
 a232 := Tryz.isAgg238
 z232 := Tryz.sizeOf238
 v232 := Tryz.zeroValue238
 t233 := Tryz.underlying239
 a233 := Tryz.isAgg239
 z233 := Tryz.sizeOf239
 v233 := Tryz.zeroValue239
 g17 := by kernel_rfl
 g18 := by kernel_rfl
 g19 := by kernel_rfl
 i0 := by kernel_rfl
 i2 := by kernel_rfl
 i3 := by kernel_rfl
 i4 := by kernel_rfl
 i5 := by kernel_rfl
 i9 := by kernel_rfl
 i20 := by kernel_rfl
 i37 := by kernel_rfl
 i46 := by kernel_rfl
 i51 := by kernel_rfl
 i53 := by kernel_rfl
 i171 := by kernel_rfl
 i173 := by kernel_rfl
 i212 := by kernel_rfl
 i232 := by kernel_rfl
 i233 := by kernel_rfl
 m17 := by kernel_rfl
 m18 := by kernel_rfl
 m19 := by kernel_rfl }
def Tryz.jM : Go.Shelf.Ren := ⟨fun | 172 => 202 | 244 => 215 | 245 => 216 | 247 => 230 | 279 => 231 | 280 => 232 | 281 => 233 | 282 => 234 | 287 => 240 | 316 => 241 | 171 => 217 | 205 => 242 | 321 => 246 | 322 => 247 | 243 => 235 | 246 => 243 | 283 => 248 | 284 => 249 | 285 => 250 | 286 => 251 | 129 => 147 | 317 => 252 | 318 => 253 | 319 => 254 | 320 => 255 | 337 => 256 | 338 => 257 | n => n, fun | 9 => 9 | 3 => 3 | 75 => 192 | 76 => 193 | 4 => 4 | 5 => 5 | 167 => 206 | 37 => 40 | 0 => 0 | 85 => 207 | 2 => 2 | 168 => 209 | 53 => 146 | 175 => 217 | 46 => 120 | 210 => 220 | 127 => 212 | 145 => 229 | 143 => 227 | 21 => 21 | 171 => 230 | 173 => 232 | 212 => 235 | 51 => 144 | 20 => 20 | 213 => 236 | 232 => 238 | 233 => 239 | 80 => 204 | n => n, fun | 15 => 3 | 16 => 4 | 17 => 5 | 18 => 6 | 19 => 7 | n => n⟩
theorem Tryz.mX : Go.Proofs.LaysC.n172 Tryz.prog Tryz.jM := {
 mixed := by kernel_rfl
 f129 := Tryz.func147.trans (congrArg some (by kernel_rfl))
 f171 := Tryz.func217.trans (congrArg some (by kernel_rfl))
 f172 := Tryz.func202.trans (congrArg some (by kernel_rfl))
 f205 := Tryz.func242.trans (congrArg some (by kernel_rfl))
 f243 := Tryz.func235.trans (congrArg some (by kernel_rfl))
 f244 := Tryz.func215.trans (congrArg some (by kernel_rfl))
 f245 := Tryz.func216.trans (congrArg some (by kernel_rfl))
 f246 := Tryz.func243.trans (congrArg some (by kernel_rfl))
 f247 := Tryz.func230.trans (congrArg some (by kernel_rfl))
 f279 := Tryz.func231.trans (congrArg some (by kernel_rfl))
 f280 := Tryz.func232.trans (congrArg some (by kernel_rfl))
 f281 := Tryz.func233.trans (congrArg some (by kernel_rfl))
 f282 := Tryz.func234.trans (congrArg some (by kernel_rfl))
 f283 := Tryz.func248.trans (congrArg some (by kernel_rfl))
 f284 := Tryz.func249.trans (congrArg some (by kernel_rfl))
 f285 := Tryz.func250.trans (congrArg some (by kernel_rfl))
 f286 := Tryz.func251.trans (congrArg some (by kernel_rfl))
 f287 := Tryz.func240.trans (congrArg some (by kernel_rfl))
 f316 := Tryz.func241.trans (congrArg some (by kernel_rfl))
 f317 := Tryz.func252.trans (congrArg some (by kernel_rfl))
 f318 := Tryz.func253.trans (congrArg some (by kernel_rfl))
 f319 := Tryz.func254.trans (congrArg some (by kernel_rfl))
 f320 := Tryz.func255.trans (congrArg some (by kernel_rfl))
 f321 := Tryz.func246.trans (congrArg some (by kernel_rfl))
 f322 := Tryz.func247.trans (congrArg some (by kernel_rfl))
 f337 := Tryz.func256.trans (congrArg some (by kernel_rfl))
 f338 := Tryz.func257.trans (congrArg some (by kernel_rfl))
 t0 := Tryz.underlying0
 a0 := Tryz.isAgg0
 z0 := Tryz.sizeOf0
 v0 := Tryz.zeroValue0
 t2 := Tryz.underlying2
 a2 := Tryz.isAgg2
 z2 := Tryz.sizeOf2
 v2 := Tryz.zeroValue2
 t3 := Tryz.underlying3
 a3 := Tryz.isAgg3
 z3 := Tryz.sizeOf3
 v3 := Tryz.zeroValue3
 t4 := Tryz.underlying4
 a4 := Tryz.isAgg4
 z4 := Tryz.sizeOf4
 v4 := Tryz.zeroValue4
 t5 := Tryz.underlying5
 a5 := Tryz.isAgg5
 z5 := Tryz.sizeOf5
 v5 := Tryz.zeroValue5
 t9 := Tryz.underlying9
 a9 := Tryz.isAgg9
 z9 := Tryz.sizeOf9
 v9 := Tryz.zeroValue9
 t20 := Tryz.underlying20
 a20 := Tryz.isAgg20
 z20 := Tryz.sizeOf20
 v20 := Tryz.zeroValue20
 t21 := Tryz.underlying21
 a21 := Tryz.isAgg21
 z21 := Tryz.sizeOf21
 v21 := Tryz.zeroValue21
 t37 := Tryz.underlying40
 a37 := Tryz.isAgg40
 z37 := Tryz.sizeOf40
 v37 := Tryz.zeroValue40
 t46 := Tryz.underlying120
 a46 := Tryz.isAgg120
 z46 := Tryz.sizeOf120
 v46 := Tryz.zeroValue120
 t51 := Tryz.underlying144
 a51 := Tryz.isAgg144
 z51 := Tryz.sizeOf144
 v51 := Tryz.zeroValue144
 t53 := Tryz.underlying146
 a53 := Tryz.isAgg146
 z53 := Tryz.sizeOf146
 v53 := Tryz.zeroValue146
 t75 := Tryz.underlying192
 a75 := Tryz.isAgg192
 z75 := Tryz.sizeOf192
 v75 := Tryz.zeroValue192
 t76 := Tryz.underlying193
 a76 := Tryz.isAgg193
 z76 := Tryz.sizeOf193
 v76 := Tryz.zeroValue193
 t85 := Tryz.underlying207
 a85 := Tryz.isAgg207
 z85 := Tryz.sizeOf207
 v85 := Tryz.zeroValue207
 t127 := Tryz.underlying212
 a127 := Tryz.isAgg212
 z127 := Tryz.sizeOf212
 v127 := Tryz.zeroValue212
 t143 := Tryz.underlying227
 a143 := Tryz.isAgg227
 z143 := Tryz.sizeOf227
 v143 := Tryz.zeroValue227
 t145 := Tryz.underlying229
 a145 := Tryz.isAgg229
 z145 := Tryz.sizeOf229
 v145 := Tryz.zeroValue229
 t167 := Tryz.underlying206
 a167 := Tryz.isAgg206
 z167 := Tryz.sizeOf206
 v167 := Tryz.zeroValue206
 t168 := Tryz.underlying209
 a168 := Tryz.isAgg209
 z168 := Tryz.sizeOf209
 v168 := Tryz.zeroValue209
 t171 := Tryz.underlying230
 a171 := Tryz.isAgg230
 z171 := Tryz.sizeOf230
 v171 := Tryz.zeroValue230
 t173 := Tryz.underlying232
 a173 := Tryz.isAgg232
 z173 := Tryz.sizeOf232
 v173 := Tryz.zeroValue232
 t175 := Tryz.underlying217
 a175 := Tryz.isAgg217
 z175 := Tryz.sizeOf217
 v175 := Tryz.zeroValue217
 t210 := Tryz.underlying220
 a210 := Tryz.isAgg220
 z210 := Tryz.sizeOf220
 v210 := Tryz.zeroValue220
 t212 := Tryz.underlying235
 a212 := Tryz.isAgg235
 z212 := Tryz.sizeOf235
 v212 := Tryz.zeroValue235
 t213 := Tryz.underlying236
 a213 := Tryz.isAgg236
 z213 := Tryz.sizeOf236
 t232 := Tryz.underlying238
 a232 := Tryz.isAgg238
 z232 := Tryz.sizeOf238
 v232 := Tryz.zeroValue238
 t233 := Tryz.underlying239
 a233 := Tryz.isAgg239
 z233 := Tryz.sizeOf239
 v233 := Tryz.zeroValue239
 g15 := by kernel_rfl
 g16 := by kernel_rfl
 g17 := by kernel_rfl
 g18 := by kernel_rfl
 g19 := by kernel_rfl
 t80 := Tryz.underlying204
 a80 := Tryz.isAgg204
 z80 := Tryz.sizeOf204
 v80 := Tryz.zeroValue204
 i0 := by kernel_rfl
 i2 := by kernel_rfl
 i3 := by kernel_rfl
 i4 := by kernel_rfl
 i5 := by kernel_rfl
 i9 := by kernel_rfl
 i20 := by kernel_rfl
 i21 := by kernel_rfl
 i37 := by kernel_rfl
 i46 := by kernel_rfl
 i51 := by kernel_rfl
 i53 := by kernel_rfl
 i75 := by kernel_rfl
 i76 := by kernel_rfl
 i80 := by kernel_rfl
 i85 := by kernel_rfl
 i127 := by kernel_rfl
 i143 := by kernel_rfl
 i145 := by kernel_rfl
 i167 := by kernel_rfl
 i168 := by kernel_rfl
 i171 := by kernel_rfl
 i173 := by kernel_rfl
 i175 := by kernel_rfl
 i210 := by kernel_rfl
 i212 := by kernel_rfl
 i232 := by kernel_rfl
 i233 := by kernel_rfl
 m15 := by kernel_rfl
 m16 := by kernel_rfl
 m17 := by kernel_rfl
 m18 := by kernel_rfl
 m19 := by kernel_rfl
 c0 := by kernel_rfl
 c2 := by kernel_rfl
 c3 := by kernel_rfl
 c4 := by kernel_rfl
 c5 := by kernel_rfl
 c9 := by kernel_rfl
 c20 := by kernel_rfl
 c21 := by kernel_rfl
 c37 := by kernel_rfl
 c46 := by kernel_rfl
 c51 := by kernel_rfl
 c53 := by kernel_rfl
 c75 := by kernel_rfl
 c76 := by kernel_rfl
 c80 := by kernel_rfl
 c85 := by kernel_rfl
 c127 := by kernel_rfl
 c143 := by kernel_rfl
 c145 := by kernel_rfl
 c167 := by kernel_rfl
 c168 := by kernel_rfl
 c171 := by kernel_rfl
 c173 := by kernel_rfl
 c175 := by kernel_rfl
 c210 := by kernel_rfl
 c212 := by kernel_rfl
 c213 := by kernel_rfl
 c232 := by kernel_rfl
 c233 := by kernel_rfl }
def Tryz.th : Go.Shelf.Ren := ⟨fun | 145 => 185 | 220 => 201 | 219 => 214 | 217 => 226 | 225 => 227 | 224 => 228 | 267 => 229 | 266 => 238 | 314 => 239 | n => n, fun | 9 => 9 | 4 => 4 | 59 => 179 | 3 => 3 | 5 => 5 | 46 => 120 | 146 => 182 | 51 => 144 | n => n, fun | 1 => 0 | n => n⟩
theorem Tryz.eC : Go.Proofs.LaysM.n145 Tryz.prog Tryz.th := {
 mixed := by kernel_rfl
 f145 := Tryz.func185.trans (congrArg some (by kernel_rfl))
 f217 := Tryz.func226.trans (congrArg some (by kernel_rfl))
 f219 := Tryz.func214.trans (congrArg some (by kernel_rfl))
 f220 := Tryz.func201.trans (congrArg some (by kernel_rfl))
 f224 := Tryz.func228.trans (congrArg some (by kernel_rfl))
 f225 := Tryz.func227.trans (congrArg some (by kernel_rfl))
 f266 := Tryz.func238.trans (congrArg some (by kernel_rfl))
 f267 := Tryz.func229.trans (congrArg some (by kernel_rfl))
 f314 := Tryz.func239.trans (congrArg some (by kernel_rfl))
 t3 := Tryz.underlying3
 a3 := Tryz.isAgg3
 z3 := Tryz.sizeOf3
 v3 := Tryz.zeroValue3
 t4 := Tryz.underlying4
 a4 := Tryz.isAgg4
 z4 := Tryz.sizeOf4
 v4 := Tryz.zeroValue4
 t5 := Tryz.underlying5
 a5 := Tryz.isAgg5
 z5 := Tryz.sizeOf5
 v5 := Tryz.zeroValue5
 t9 := Tryz.underlying9
 a9 := Tryz.isAgg9
 z9 := Tryz.sizeOf9
 v9 := Tryz.zeroValue9
 t46 := Tryz.underlying120
 a46 := Tryz.isAgg120
 z46 := Tryz.sizeOf120
 v46 := Tryz.zeroValue120
 t51 := Tryz.underlying144
 a51 := Tryz.isAgg144
 z51 := Tryz.sizeOf144
 v51 := Tryz.zeroValue144
 t59 := Tryz.underlying179
 a59 := Tryz.isAgg179
 z59 := Tryz.sizeOf179
 v59 := Tryz.zeroValue179
 t146 := Tryz.underlying182
 a146 := Tryz.isAgg182
 z146 := Tryz.sizeOf182
 v146 := Tryz.zeroValue182
 g1 := by kernel_rfl
 i3 := by kernel_rfl
 i4 := by kernel_rfl
 i5 := by kernel_rfl
 i9 := by kernel_rfl
 i46 := by kernel_rfl
 i51 := by kernel_rfl
 i59 := by kernel_rfl
 i146 := by kernel_rfl
 m1 := by kernel_rfl
 s1_3 := fun w h => Go.Proofs.cell_of_shapedOpen_int (zero := #[.int .i64 0]) (t := 3) h (of_decide_eq_true (by kernel_rfl)) (by kernel_rfl) rfl (by kernel_rfl) (by kernel_rfl) Tryz.underlying3 }
def Tryz.gI : Go.Shelf.Ren := ⟨fun | 190 => 79 | 125 => 118 | 258 => 117 | 128 => 146 | 129 => 147 | 302 => 137 | 303 => 138 | 304 => 139 | 305 => 140 | 306 => 141 | 307 => 142 | 308 => 143 | 309 => 144 | 310 => 145 | 333 => 174 | 329 => 175 | 330 => 176 | 334 => 177 | 335 => 178 | 336 => 179 | 344 => 193 | n => n, fun | 31 => 22 | 9 => 9 | 3 => 3 | 46 => 120 | 0 => 0 | 51 => 144 | 53 => 146 | 4 => 4 | 183 => 136 | 182 => 135 | 131 => 141 | 5 => 5 | 218 => 170 | 222 => 174 | 228 => 185 | 229 => 186 | n => n, fun | n => n⟩
theorem Tryz.aO : Go.Proofs.Lays.n190 Tryz.prog Tryz.gI := {
 mixed := by kernel_rfl
 f125 := Tryz.func118.trans (congrArg some (by kernel_rfl))
 f128 := Tryz.func146.trans (congrArg some (by kernel_rfl))
 f129 := Tryz.func147.trans (congrArg some (by kernel_rfl))
 f190 := Tryz.func79.trans (congrArg some (by kernel_rfl))
 f258 := Tryz.func117.trans (congrArg some (by kernel_rfl))
 f302 := Tryz.func137.trans (congrArg some (by kernel_rfl))
 f303 := Tryz.func138.trans (congrArg some (by kernel_rfl))
 f304 := Tryz.func139.trans (congrArg some (by kernel_rfl))
 f305 := Tryz.func140.trans (congrArg some (by kernel_rfl))
 f306 := Tryz.func141.trans (congrArg some (by kernel_rfl))
 f307 := Tryz.func142.trans (congrArg some (by kernel_rfl))
 f308 := Tryz.func143.trans (congrArg some (by kernel_rfl))
 f309 := Tryz.func144.trans (congrArg some (by kernel_rfl))
 f310 := Tryz.func145.trans (congrArg some (by kernel_rfl))
 f329 := Tryz.func175.trans (congrArg some (by kernel_rfl))
 f330 := Tryz.func176.trans (congrArg some (by kernel_rfl))
 f333 := Tryz.func174.trans (congrArg some (by kernel_rfl))
 f334 := Tryz.func177.trans (congrArg some (by kernel_rfl))
 f335 := Tryz.func178.trans (congrArg some (by kernel_rfl))
 f336 := Tryz.func179.trans (congrArg some (by kernel_rfl))
 f344 := Tryz.func193.trans (congrArg some (by kernel_rfl))
 t0 := Tryz.underlying0
 a0 := Tryz.isAgg0
 z0 := Tryz.sizeOf0
 v0 := Tryz.zeroValue0
 t3 := Tryz.underlying3
 a3 := Tryz.isAgg3
 z3 := Tryz.sizeOf3
 v3 := Tryz.zeroValue3
 t4 := Tryz.underlying4
 a4 := Tryz.isAgg4
 z4 := Tryz.sizeOf4
 v4 := Tryz.zeroValue4
 t5 := Tryz.underlying5
 a5 := Tryz.isAgg5
 z5 := Tryz.sizeOf5
 v5 := Tryz.zeroValue5
 t9 := Tryz.underlying9
 a9 := Tryz.isAgg9
 z9 := Tryz.sizeOf9
 v9 := Tryz.zeroValue9
 t31 := Tryz.underlying22
 a31 := Tryz.isAgg22
 z31 := Tryz.sizeOf22
 v31 := Tryz.zeroValue22
 t46 := Tryz.underlying120
 a46 := Tryz.isAgg120
 z46 := Tryz.sizeOf120
 v46 := Tryz.zeroValue120
 t51 := Tryz.underlying144
 a51 := Tryz.isAgg144
 z51 := Tryz.sizeOf144
 v51 := Tryz.zeroValue144
 t53 := Tryz.underlying146
 a53 := Tryz.isAgg146
 z53 := Tryz.sizeOf146
 v53 := Tryz.zeroValue146
 t131 := Tryz.underlying141
 a131 := Tryz.isAgg141
 z131 := Tryz.sizeOf141
 v131 := Tryz.zeroValue141
 t182 := Tryz.underlying135
 a182 := Tryz.isAgg135
 z182 := Tryz.sizeOf135
 v182 := Tryz.zeroValue135
 t183 := Tryz.underlying136
 a183 := Tryz.isAgg136
 z183 := Tryz.sizeOf136
 v183 := Tryz.zeroValue136
 t218 := Tryz.underlying170
 a218 := Tryz.isAgg170
 z218 := Tryz.sizeOf170
 v218 := Tryz.zeroValue170
 t222 := Tryz.underlying174
 a222 := Tryz.isAgg174
 z222 := Tryz.sizeOf174
 v222 := Tryz.zeroValue174
 t228 := Tryz.underlying185
 a228 := Tryz.isAgg185
 z228 := Tryz.sizeOf185
 v228 := Tryz.zeroValue185
 t229 := Tryz.underlying186
 a229 := Tryz.isAgg186
 z229 := Tryz.sizeOf186
 v229 := Tryz.zeroValue186 }
def Tryz.tg : Go.Shelf.Ren := ⟨fun | 146 => 152 | 221 => 183 | 268 => 198 | 138 => 199 | 143 => 200 | 195 => 211 | 197 => 212 | 218 => 213 | 219 => 214 | 260 => 225 | 217 => 226 | 225 => 227 | 224 => 228 | 267 => 229 | 266 => 238 | 314 => 239 | n => n, fun | 9 => 9 | 31 => 22 | 3 => 3 | 4 => 4 | 0 => 0 | 105 => 197 | 21 => 21 | 5 => 5 | 46 => 120 | 119 => 213 | 139 => 216 | 138 => 215 | 146 => 182 | 51 => 144 | n => n, fun | 1 => 0 | 3 => 1 | 4 => 2 | n => n⟩
theorem Tryz.eB : Go.Proofs.LaysM.n146 Tryz.prog Tryz.tg := {
 mixed := by kernel_rfl
 f138 := Tryz.func199.trans (congrArg some (by kernel_rfl))
 f143 := Tryz.func200.trans (congrArg some (by kernel_rfl))
 f146 := Tryz.func152.trans (congrArg some (by kernel_rfl))
 f195 := Tryz.func211.trans (congrArg some (by kernel_rfl))
 f197 := Tryz.func212.trans (congrArg some (by kernel_rfl))
 f217 := Tryz.func226.trans (congrArg some (by kernel_rfl))
 f218 := Tryz.func213.trans (congrArg some (by kernel_rfl))
 f219 := Tryz.func214.trans (congrArg some (by kernel_rfl))
 f221 := Tryz.func183.trans (congrArg some (by kernel_rfl))
 f224 := Tryz.func228.trans (congrArg some (by kernel_rfl))
 f225 := Tryz.func227.trans (congrArg some (by kernel_rfl))
 f260 := Tryz.func225.trans (congrArg some (by kernel_rfl))
 f266 := Tryz.func238.trans (congrArg some (by kernel_rfl))
 f267 := Tryz.func229.trans (congrArg some (by kernel_rfl))
 f268 := Tryz.func198.trans (congrArg some (by kernel_rfl))
 f314 := Tryz.func239.trans (congrArg some (by kernel_rfl))
 t0 := Tryz.underlying0
 a0 := Tryz.isAgg0
 z0 := Tryz.sizeOf0
 v0 := Tryz.zeroValue0
 t3 := Tryz.underlying3
 a3 := Tryz.isAgg3
 z3 := Tryz.sizeOf3
 v3 := Tryz.zeroValue3
 t4 := Tryz.underlying4
 a4 := Tryz.isAgg4
 z4 := Tryz.sizeOf4
 v4 := Tryz.zeroValue4
 t5 := Tryz.underlying5
 a5 := Tryz.isAgg5
 z5 := Tryz.sizeOf5
 v5 := Tryz.zeroValue5
 t9 := Tryz.underlying9
 a9 := Tryz.isAgg9
 z9 := Tryz.sizeOf9
 v9 := Tryz.zeroValue9
 t21 := Tryz.underlying21
 a21 := Tryz.isAgg21
 z21 := Tryz.sizeOf21
 v21 := Tryz.zeroValue21
 t31 := Tryz.underlying22
 a31 := Tryz.isAgg22
 z31 := Tryz.sizeOf22
 v31 := Tryz.zeroValue22
 t46 := Tryz.underlying120
 a46 := Tryz.isAgg120
 z46 := Tryz.sizeOf120
 v46 := Tryz.zeroValue120
 t51 := Tryz.underlying144
 a51 := Tryz.isAgg144
 z51 := Tryz.sizeOf144
 v51 := Tryz.zeroValue144
 t105 := Tryz.underlying197
 a105 := Tryz.isAgg197
 z105 := Tryz.sizeOf197
 v105 := Tryz.zeroValue197
 t119 := Tryz.underlying213
 a119 := Tryz.isAgg213
 z119 := Tryz.sizeOf213
 t138 := Tryz.underlying215
 a138 := Tryz.isAgg215
 z138 := Tryz.sizeOf215
 v138 := Tryz.zeroValue215
 t139 := Tryz.underlying216
 a139 := Tryz.isAgg216
 z139 := Tryz.sizeOf216
 v139 := Tryz.zeroValue216
 t146 := Tryz.underlying182
 a146 := Tryz.isAgg182
 z146 := Tryz.sizeOf182
 v146 := Tryz.zeroValue182
 g1 := by kernel_rfl
 g3 := by kernel_rfl
 g4 := by kernel_rfl
 i0 := by kernel_rfl
 i3 := by kernel_rfl
 i4 := by kernel_rfl
 i5 := by kernel_rfl
 i9 := by kernel_rfl
 i21 := by kernel_rfl
 i31 := by kernel_rfl
 i46 := by kernel_rfl
 i51 := by kernel_rfl
 i105 := by kernel_rfl
 i138 := by kernel_rfl
 i139 := by kernel_rfl
 i146 := by kernel_rfl
 m1 := by kernel_rfl
 s1_3 := fun w h => Go.Proofs.cell_of_shapedOpen_int (zero := #[.int .i64 0]) (t := 3) h (of_decide_eq_true (by kernel_rfl)) (by kernel_rfl) rfl (by kernel_rfl) (by kernel_rfl) Tryz.underlying3
 m3 := by kernel_rfl
 m4 := by kernel_rfl }
def Tryz.gH : Go.Shelf.Ren := ⟨fun | 194 => 105 | n => n, fun | 31 => 22 | 9 => 9 | 3 => 3 | 4 => 4 | 0 => 0 | n => n, fun | n => n⟩
theorem Tryz.aN : Go.Proofs.Lays.n194 Tryz.prog Tryz.gH := {
 mixed := by kernel_rfl
 f194 := Tryz.func105.trans (congrArg some (by kernel_rfl))
 t0 := Tryz.underlying0
 a0 := Tryz.isAgg0
 z0 := Tryz.sizeOf0
 v0 := Tryz.zeroValue0
 t3 := Tryz.underlying3
 a3 := Tryz.isAgg3
 z3 := Tryz.sizeOf3
 v3 := Tryz.zeroValue3
 t4 := Tryz.underlying4
 a4 := Tryz.isAgg4
 z4 := Tryz.sizeOf4
 v4 := Tryz.zeroValue4
 t9 := Tryz.underlying9
 a9 := Tryz.isAgg9
 z9 := Tryz.sizeOf9
 v9 := Tryz.zeroValue9
 t31 := Tryz.underlying22
 a31 := Tryz.isAgg22
 z31 := Tryz.sizeOf22
 v31 := Tryz.zeroValue22 }
end Go.Proofs
/- What the library's functions answer, by the kit's own contract. Conditions: those of each lemma. -/
namespace Go.Proofs
open Go.Shelf
theorem Tryz.join_none (a : Option Addr) (c : Nat) (sep : ByteArray) (w : World) :
 Calls Tryz.prog 205 #[.slice a 0 c, .string sep] w fun e w' => e = .returned (.string ⟨#[]⟩) ∧ w' = w := Any.strings_Join_none Tryz.aP Tryz.ub a c sep w
theorem Tryz.join_some (bk o c : Nat) (xs : List ByteArray) (sep : ByteArray) (w : World)
 (hcells : ∀ (j : Nat) x, xs[j]? = some x → w.cell? ⟨bk, o + j, none⟩ = some (.string x))
 (hbk : bk < w.heap.size) (hN : xs.length ≤ 140737488355328) (hcap : xs.length ≤ c)
 (hlen : (Lib.join (xs.map (·.data.toList)) sep.data.toList).length ≤ 140737488355328) :
 Calls Tryz.prog 205 #[.slice (some ⟨bk, o, none⟩) xs.length c, .string sep] w fun e w' => e = .returned (.string ⟨(Lib.join (xs.map (·.data.toList)) sep.data.toList).toArray⟩) ∧ Go.RowKit.Below w.heap.size w w' :=
 Any.strings_Join Tryz.aP Tryz.ub bk o c xs sep w hcells hbk hN hcap hlen
theorem Tryz.itoa (n : Int) (h0 : -9223372036854775808 ≤ n) (h1 : n ≤ 9223372036854775807) (w : World) (htab : Lib.TabIs Tryz.prog w "internal/strconv.uint64pow10" .u64 Lib.pow10Tab) :
 Calls Tryz.prog 217 #[.int .i64 n] w fun e w' => e = .returned (.string ⟨(Lib.itoa n).toArray⟩) ∧ ∃ k os, w' = Go.Sort.grow (w.drewN k) os := Any.strconv_Itoa Tryz.Wd n h0 h1 w htab
theorem Tryz.gP (w : World) (e : TypeId) (s : ByteArray) : Go.RowKit.Below w.heap.size w (Lib.bytesWorld w e s) :=
 ⟨rfl, rfl, rfl, by rw [Lib.bytesWorld_size]; omega, fun k hk => Lib.bytesWorld_at_old w e s k hk⟩
theorem Tryz.SB (s : ByteArray) (hmax : s.size ≤ 281474976710656) (v : Int) (h : Lib.atoiAll s.data.toList = .ok v) (w : World) :
 Calls Tryz.prog 202 #[.string s] w fun e w' => e = .returned (.tuple #[.int .i64 v, .nilIface]) ∧ Go.RowKit.Below w.heap.size w w' :=
 (Any.strconv_Atoi_ok Tryz.mX s (by omega) v h w).mono fun e w' ⟨h1, h2⟩ => ⟨h1, by
  rcases h2 with rfl | ⟨t, rfl⟩
  · exact Go.RowKit.Below.refl _ _
  · exact Tryz.gP _ _ _⟩
theorem Tryz.WR (s : ByteArray) (hlim : s.size ≤ 281474976710656) (h : Lib.atoiAll s.data.toList = Lib.NumEnd.syntax) (tp : TypeId) (p : Value) (w : World) (hvar : w.var? Tryz.prog "strconv.ErrSyntax" = some #[.iface tp p]) :
 Calls Tryz.prog 202 #[.string s] w fun e w' => ∃ t z, e = .returned (.tuple #[.int .i64 0, .iface t z]) ∧ Go.RowKit.Below w.heap.size w w' :=
 (Any.strconv_Atoi_syntax_var Tryz.mX s hlim h tp p w hvar).mono fun e w' ⟨N, h1, _, _, h2⟩ => ⟨_, _, h1, h2⟩
theorem Tryz.WS (s : ByteArray) (hlim : s.size ≤ 281474976710656) (h : Lib.atoiAll s.data.toList = .range) (tp : TypeId) (p : Value) (w : World) (hvar : w.var? Tryz.prog "strconv.ErrRange" = some #[.iface tp p]) :
 Calls Tryz.prog 202 #[.string s] w fun e w' => ∃ t z, e = .returned (.tuple #[.int .i64 (Lib.atoiSat s.data.toList), .iface t z]) ∧ Go.RowKit.Below w.heap.size w w' :=
 (Any.strconv_Atoi_range_var Tryz.mX s hlim h tp p w hvar).mono fun e w' ⟨N, h1, _, _, h2⟩ => ⟨_, _, h1, h2⟩
theorem Tryz.XW (a b : ByteArray) (w : World) : Calls Tryz.prog 108 #[.string a, .string b] w fun e w' => e = .returned (.int .i64 (Lib.compareBytes a.data.toList b.data.toList)) ∧ w' = w := Any.strings_Compare Tryz.TR a b w
end Go.Proofs
