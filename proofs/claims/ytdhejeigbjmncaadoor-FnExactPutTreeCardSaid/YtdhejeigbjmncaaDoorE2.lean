/- What the evaluator's values stand for in memory: relations, and how they outlast what happens. Conditions: those of each lemma. -/
import Derived.Test.YtdhejeigbjmncaaDoorE1
namespace Go.Proofs.YtdhejeigbjmncaaDoor.E
set_option linter.unusedVariables false

structure Loc where
  b : Nat
  o : Nat
  sz : Nat
  n : Nat
  z : Nat

inductive RT (w : World) (F : Nat → Prop) : Value → T → Prop
  | int (k : IntKind) (n : Int) : RT w F (.int k n) (.int k n)
  | bool (b : Bool) : RT w F (.bool b) (.bool b)
  | str (s : ByteArray) (l : List UInt8) (h : s.data.toList = l) : RT w F (.string s) (.str l)
  | list (a : Option Addr) (n c sz : Nat) (es : List (List T)) (g : Nat → Nat → Value) (hn : es.length = n) (hc : n ≤ c)
      (h0 : 0 < n → ∃ b o, a = some ⟨b, o, none⟩ ∧ F b ∧ ∀ i j, i < n → j < sz → w.cell? ⟨b, o + (i * sz + j), none⟩ = some (g i j))
      (hz : ∀ e ∈ es, e.length = sz)
      (hr : ∀ i j cs x, es[i]? = some cs → cs[j]? = some x → RT w F (g i j) x) : RT w F (.slice a n c) (.list sz es)
  | nlist (a : Option Addr) (n c sz : Nat) (es : List (List T)) (b : Bool) (hb : a.isNone = b) (h : RT w F (.slice a n c) (.list sz es)) : RT w F (.slice a n c) (.nlist b sz es)
  | fp (b o : Nat) (cs : List T) (g : Nat → Value) (hF : F b) (hc : ∀ j, j < cs.length → w.cell? ⟨b, o + j, none⟩ = some (g j))
      (hr : ∀ j x, cs[j]? = some x → RT w F (g j) x) : RT w F (.pointer (some ⟨b, o, none⟩)) (.fp cs)
  | fn (f : Nat) (caps : List T) (vs : Array Value) (hv : vs.size = caps.length) (g : Nat → Value)
      (hg : ∀ j, j < caps.length → vs[j]? = some (g j)) (hr : ∀ j x, caps[j]? = some x → RT w F (g j) x) : RT w F (.func (.func f) #[] vs) (.fn f caps)
  | nilp : RT w F (.pointer none) .nilp
  | nilf : RT w F .nilFunc .nilf
  | nili : RT w F .nilIface .nili
  | nni (t : TypeId) (v : Value) : RT w F (.iface t v) .nni

abbrev Locs := Nat → Option (Option Loc)

inductive RV (w : World) (F : Nat → Prop) (ρ : Locs) : Value → V → Prop
  | t (u : Value) (x : T) (h : RT w F u x) : RV w F ρ u (.t x)
  | nil (sz : Nat) : RV w F ρ (.slice none 0 0) (.nil sz)
  | sl (r off len : Nat) (cap : Option Nat) (L : Loc) (a : Option Addr) (c : Nat) (hρ : ρ r = some (some L))
      (ha : a = some ⟨L.b, L.o + off * L.sz, none⟩ ∨ c = 0) (hl : len ≤ c) (hn : off + len ≤ L.n)
      (hc0 : cap = none → L.n ≤ off + c) (hc1 : ∀ k, cap = some k → c = k) (hz : c ≠ 0 → L.o + (off + c) * L.sz ≤ L.z) :
      RV w F ρ (.slice a len c) (.sl r off len cap)
  | slP (r : Nat) (cap : Option Nat) (a : Option Addr) (hρ : ρ r = some none) (hc : cap = none ∨ cap = some 0) : RV w F ρ (.slice a 0 0) (.sl r 0 0 cap)
  | ptr (r i j : Nat) (L : Loc) (hρ : ρ r = some (some L)) : RV w F ρ (.pointer (some ⟨L.b, L.o + (i * L.sz + j), none⟩)) (.ptr r i j)
  | agg (vs : Array Value) (cs : List V) (g : Nat → Value) (hs : vs.size = cs.length) (hg : ∀ j, j < cs.length → vs[j]? = some (g j))
      (hr : ∀ j x, cs[j]? = some x → RV w F ρ (g j) x) : RV w F ρ (.agg vs) (.agg cs)
  | tup (vs : Array Value) (cs : List V) (g : Nat → Value) (hs : vs.size = cs.length) (hg : ∀ j, j < cs.length → vs[j]? = some (g j))
      (hr : ∀ j x, cs[j]? = some x → RV w F ρ (g j) x) : RV w F ρ (.tuple vs) (.tup cs)
  | fn (f : Nat) (vs : Array Value) (cs : List V) (g : Nat → Value) (hs : vs.size = cs.length) (hg : ∀ j, j < cs.length → vs[j]? = some (g j))
      (hr : ∀ j x, cs[j]? = some x → RV w F ρ (g j) x) : RV w F ρ (.func (.func f) #[] vs) (.fn f cs)
  | und : RV w F ρ undef .und
  | bad (u : Value) : RV w F ρ u .bad

/-- two lists, one by one -/
inductive All2 {α β : Type} (R : α → β → Prop) : List α → List β → Prop
  | nil : All2 R [] []
  | cons {u : α} {v : β} {us : List α} {vs : List β} (h : R u v) (hs : All2 R us vs) : All2 R (u :: us) (v :: vs)
/-- values, one by one -/
def RVs (w : World) (F : Nat → Prop) (ρ : Locs) (us : List Value) (vs : List V) : Prop := All2 (RV w F ρ) us vs
def RTs (w : World) (F : Nat → Prop) (us : List Value) (xs : List T) : Prop := All2 (RT w F) us xs

theorem forall₂_of {α β : Type} {R : α → β → Prop} : ∀ {us : List α} {vs : List β}, us.length = vs.length → (∀ (j : Nat) u v, us[j]? = some u → vs[j]? = some v → R u v) → All2 R us vs
  | [], [], _, _ => .nil
  | [], _ :: _, h, _ => by simp at h
  | _ :: _, [], h, _ => by simp at h
  | u :: us, v :: vs, h, hr => .cons (hr 0 u v rfl rfl) (forall₂_of (by simpa using h) fun j a b ha hb => hr (j + 1) a b (by simpa using ha) (by simpa using hb))
theorem forall₂_len {α β : Type} {R : α → β → Prop} {us : List α} {vs : List β} (h : All2 R us vs) : us.length = vs.length := by
  induction h with
  | nil => rfl
  | cons _ _ ih => simp [ih]
theorem forall₂_get {α β : Type} {R : α → β → Prop} {us : List α} {vs : List β} (h : All2 R us vs) : ∀ (j : Nat) v, vs[j]? = some v → ∃ u, us[j]? = some u ∧ R u v := by
  induction h with
  | nil => intro j v h; simp at h
  | cons hx _ ih =>
    intro j v hj
    cases j with
    | zero => simp at hj; subst hj; exact ⟨_, rfl, hx⟩
    | succ j => simpa using ih j v (by simpa using hj)
theorem forall₂_imp {α β : Type} {R R' : α → β → Prop} {us : List α} {vs : List β} (h : All2 R us vs) (hi : ∀ u v, R u v → R' u v) : All2 R' us vs := by
  induction h with
  | nil => exact .nil
  | cons hx _ ih => exact .cons (hi _ _ hx) ih
theorem forall₂_append {α β : Type} {R : α → β → Prop} {us us' : List α} {vs vs' : List β} (h : All2 R us vs) (h' : All2 R us' vs') : All2 R (us ++ us') (vs ++ vs') := by
  induction h with
  | nil => exact h'
  | cons hx _ ih => exact .cons hx ih

theorem RV.agg' {w : World} {F : Nat → Prop} {ρ : Locs} {vs : Array Value} {cs : List V} (h : RVs w F ρ vs.toList cs) : RV w F ρ (.agg vs) (.agg cs) := by
  have hl := forall₂_len h
  refine .agg vs cs (fun j => (vs[j]?).getD undef) (by simpa using hl) (fun j hj => ?_) fun j x hx => ?_
  · have : j < vs.size := by simp at hl; omega
    simp [this]
  · obtain ⟨u, hu, hr⟩ := forall₂_get h j x hx
    have : vs[j]? = some u := by simpa using hu
    simpa [this] using hr
theorem RV.tup' {w : World} {F : Nat → Prop} {ρ : Locs} {vs : Array Value} {cs : List V} (h : RVs w F ρ vs.toList cs) : RV w F ρ (.tuple vs) (.tup cs) := by
  have hl := forall₂_len h
  refine .tup vs cs (fun j => (vs[j]?).getD undef) (by simpa using hl) (fun j hj => ?_) fun j x hx => ?_
  · have : j < vs.size := by simp at hl; omega
    simp [this]
  · obtain ⟨u, hu, hr⟩ := forall₂_get h j x hx
    have : vs[j]? = some u := by simpa using hu
    simpa [this] using hr
theorem RV.fn' {w : World} {F : Nat → Prop} {ρ : Locs} {f : Nat} {vs : Array Value} {cs : List V} (h : RVs w F ρ vs.toList cs) : RV w F ρ (.func (.func f) #[] vs) (.fn f cs) := by
  have hl := forall₂_len h
  refine .fn f vs cs (fun j => (vs[j]?).getD undef) (by simpa using hl) (fun j hj => ?_) fun j x hx => ?_
  · have : j < vs.size := by simp at hl; omega
    simp [this]
  · obtain ⟨u, hu, hr⟩ := forall₂_get h j x hx
    have : vs[j]? = some u := by simpa using hu
    simpa [this] using hr
theorem RT.fn' {w : World} {F : Nat → Prop} {f : Nat} {vs : Array Value} {cs : List T} (h : RTs w F vs.toList cs) : RT w F (.func (.func f) #[] vs) (.fn f cs) := by
  have hl := forall₂_len h
  refine .fn f cs vs (by simpa using hl) (fun j => (vs[j]?).getD undef) (fun j hj => ?_) fun j x hx => ?_
  · have : j < vs.size := by simp at hl; omega
    simp [this]
  · obtain ⟨u, hu, hr⟩ := forall₂_get h j x hx
    have : vs[j]? = some u := by simpa using hu
    simpa [this] using hr
theorem rvs_of {w : World} {F : Nat → Prop} {ρ : Locs} {vs : Array Value} {cs : List V} {g : Nat → Value} (hs : vs.size = cs.length) (hg : ∀ j, j < cs.length → vs[j]? = some (g j))
    (hr : ∀ j x, cs[j]? = some x → RV w F ρ (g j) x) : RVs w F ρ vs.toList cs :=
  forall₂_of (by simpa using hs) fun j u v hu hv => by
    have hj : j < cs.length := by
      rcases Nat.lt_or_ge j cs.length with h | h
      · exact h
      · rw [List.getElem?_eq_none h] at hv; cases hv
    have h1 := hg j hj
    have h2 : vs[j]? = some u := by simpa using hu
    rw [h1] at h2
    cases h2
    exact hr j v hv
theorem rts_of {w : World} {F : Nat → Prop} {vs : Array Value} {cs : List T} {g : Nat → Value} (hs : vs.size = cs.length) (hg : ∀ j, j < cs.length → vs[j]? = some (g j))
    (hr : ∀ j x, cs[j]? = some x → RT w F (g j) x) : RTs w F vs.toList cs :=
  forall₂_of (by simpa using hs) fun j u v hu hv => by
    have hj : j < cs.length := by
      rcases Nat.lt_or_ge j cs.length with h | h
      · exact h
      · rw [List.getElem?_eq_none h] at hv; cases hv
    have h1 := hg j hj
    have h2 : vs[j]? = some u := by simpa using hu
    rw [h1] at h2
    cases h2
    exact hr j v hv

/-! ### They outlast -/
/-- what stays as it was: the blocks of F -/
def Agree (F : Nat → Prop) (w w' : World) : Prop := ∀ b, F b → w'.heap[b]? = w.heap[b]?
theorem Agree.cell {F : Nat → Prop} {w w' : World} (h : Agree F w w') {b : Nat} (hb : F b) (o : Nat) (s : Option Nat) : w'.cell? ⟨b, o, s⟩ = w.cell? ⟨b, o, s⟩ := by
  unfold World.cell?; simp only [h b hb]
theorem RT.mono {w w' : World} {F F' : Nat → Prop} (hA : Agree F w w') (hF : ∀ b, F b → F' b) {u : Value} {x : T} (h : RT w F u x) : RT w' F' u x := by
  induction h with
  | int k n => exact .int k n
  | bool b => exact .bool b
  | str s l h => exact .str s l h
  | list a n c sz es g hn hc h0 hz hr ih =>
    refine .list a n c sz es g hn hc (fun hp => ?_) hz ih
    obtain ⟨b, o, e, hb, hcell⟩ := h0 hp
    exact ⟨b, o, e, hF b hb, fun i j hi hj => (hA.cell hb _ _).trans (hcell i j hi hj)⟩
  | nlist a n c sz es b hb h ih => exact .nlist a n c sz es b hb ih
  | fp b o cs g hb hc hr ih => exact .fp b o cs g (hF b hb) (fun j hj => (hA.cell hb _ _).trans (hc j hj)) ih
  | fn f caps vs hv g hg hr ih => exact .fn f caps vs hv g hg ih
  | nilp => exact .nilp
  | nilf => exact .nilf
  | nili => exact .nili
  | nni t v => exact .nni t v
def Ext (ρ ρ' : Locs) : Prop := ∀ r l, ρ r = some l → ρ' r = some l
theorem Ext.refl (ρ : Locs) : Ext ρ ρ := fun _ _ h => h
theorem Ext.trans {ρ ρ' ρ'' : Locs} (h : Ext ρ ρ') (h' : Ext ρ' ρ'') : Ext ρ ρ'' := fun r l e => h' r l (h r l e)
theorem RV.mono {w w' : World} {F F' : Nat → Prop} {ρ ρ' : Locs} (hA : Agree F w w') (hF : ∀ b, F b → F' b) (hρ : Ext ρ ρ') {u : Value} {v : V} (h : RV w F ρ u v) : RV w' F' ρ' u v := by
  induction h with
  | t u x h => exact .t u x (h.mono hA hF)
  | nil sz => exact .nil sz
  | sl r off len cap L a c h ha hl hn hc0 hc1 hz => exact .sl r off len cap L a c (hρ _ _ h) ha hl hn hc0 hc1 hz
  | slP r cap a h hc => exact .slP r cap a (hρ _ _ h) hc
  | ptr r i j L h => exact .ptr r i j L (hρ _ _ h)
  | agg vs cs g hs hg hr ih => exact .agg vs cs g hs hg ih
  | tup vs cs g hs hg hr ih => exact .tup vs cs g hs hg ih
  | fn f vs cs g hs hg hr ih => exact .fn f vs cs g hs hg ih
  | und => exact .und
  | bad u => exact .bad u

/-! ### The rows -/
/-- what a piece of code may do: the blocks it may write; the rows' numbers that are kept for others; where its new row goes -/
structure Own where
  b : Nat → Prop
  z : Nat → Prop
  N : Option Nat
instance : CoeFun Own (fun _ => Nat → Prop) := ⟨Own.b⟩
def own (b : Nat → Prop) : Own := ⟨b, fun _ => False, none⟩

structure RowOK {α : Type} (w : World) (L : Loc) (es : List (List α)) (R : Value → α → Prop) : Prop where
  n : es.length = L.n
  len : ∀ e ∈ es, e.length = L.sz
  cells : ∃ c el fr, w.heap[L.b]? = some (.cells c el fr) ∧ c.size = L.z ∧ (∀ k, k < c.size → ¬(fr.1 ≤ k ∧ k < fr.2)) ∧ L.o + L.n * L.sz ≤ L.z ∧
    ∀ i j cs x, es[i]? = some cs → cs[j]? = some x → ∃ u, c[L.o + (i * L.sz + j)]? = some u ∧ R u x

def RB (w : World) (F : Nat → Prop) (ρ : Locs) (Ow : Own) (r : Nat) : Blk → Prop
  | .ts sz es => (∃ L, ρ r = some (some L) ∧ L.sz = sz ∧ RowOK w L es (RT w F) ∧ ¬ F L.b ∧ Ow L.b) ∨ (ρ r = some none ∧ es = [])
  | .vs sz es => (∃ L, ρ r = some (some L) ∧ L.sz = sz ∧ RowOK w L es (RV w F ρ) ∧ ¬ F L.b ∧ Ow L.b) ∨ (ρ r = some none ∧ es = [])
  | .fz sz es => (∃ L, ρ r = some (some L) ∧ L.sz = sz ∧ RowOK w L es (RT w F) ∧ F L.b) ∨ (ρ r = some none ∧ es = [])
  | .dead => True
def writes : Blk → Bool
  | .ts _ _ | .vs _ _ => true
  | _ => false

structure St (w : World) (F : Nat → Prop) (ρ : Locs) (Ow : Own) (h : Heap) : Prop where
  blk : ∀ r b, h[r]? = some b → RB w F ρ Ow r b
  inj : ∀ r r' b b' L L', h[r]? = some b → h[r']? = some b' → writes b = true → writes b' = true → ρ r = some (some L) → ρ r' = some (some L') → L.b = L'.b → r = r'
  fsz : ∀ b, F b → b < w.heap.size
  out : ∀ r, h.length ≤ r → ρ r = none

/-- what one step may change -/
structure Nxt (Ow : Own) (w : World) (F : Nat → Prop) (ρ : Locs) (w' : World) (F' : Nat → Prop) (ρ' : Locs) : Prop where
  os : w'.os = w.os
  tape : w'.tape = w.tape
  output : w'.output = w.output
  size : w.heap.size ≤ w'.heap.size
  keep : ∀ b, b < w.heap.size → ¬ Ow b → w'.heap[b]? = w.heap[b]?
  agree : Agree F w w'
  grow : ∀ b, F b → F' b
  new : ∀ b, F' b → F b ∨ Ow b
  ext : Ext ρ ρ'
  res : ∀ r, Ow.z r → ρ' r = ρ r
theorem Nxt.refl (Ow : Own) (w : World) (F : Nat → Prop) (ρ : Locs) : Nxt Ow w F ρ w F ρ :=
  ⟨rfl, rfl, rfl, Nat.le_refl _, fun _ _ _ => rfl, fun _ _ => rfl, fun _ h => h, fun _ h => .inl h, Ext.refl _, fun _ _ => rfl⟩
theorem Nxt.trans {Ow : Own} {w w1 w2 : World} {F F1 F2 : Nat → Prop} {ρ ρ1 ρ2 : Locs} (h : Nxt Ow w F ρ w1 F1 ρ1) (k : Nxt Ow w1 F1 ρ1 w2 F2 ρ2) : Nxt Ow w F ρ w2 F2 ρ2 :=
  ⟨k.os.trans h.os, k.tape.trans h.tape, k.output.trans h.output, Nat.le_trans h.size k.size,
    fun b hb ho => (k.keep b (Nat.lt_of_lt_of_le hb h.size) ho).trans (h.keep b hb ho),
    fun b hb => (k.agree b (h.grow b hb)).trans (h.agree b hb), fun b hb => k.grow b (h.grow b hb),
    fun b hb => (k.new b hb).elim (fun x => h.new b x) .inr, h.ext.trans k.ext, fun r hr => (k.res r hr).trans (h.res r hr)⟩
theorem Nxt.rv {Ow : Own} {w w1 : World} {F F1 : Nat → Prop} {ρ ρ1 : Locs} (h : Nxt Ow w F ρ w1 F1 ρ1) {u : Value} {v : V} (k : RV w F ρ u v) : RV w1 F1 ρ1 u v := k.mono h.agree h.grow h.ext
theorem Nxt.rvs {Ow : Own} {w w1 : World} {F F1 : Nat → Prop} {ρ ρ1 : Locs} (h : Nxt Ow w F ρ w1 F1 ρ1) {us : List Value} {vs : List V} (k : RVs w F ρ us vs) : RVs w1 F1 ρ1 us vs := forall₂_imp k fun _ _ => h.rv
theorem Nxt.rt {Ow : Own} {w w1 : World} {F F1 : Nat → Prop} {ρ ρ1 : Locs} (h : Nxt Ow w F ρ w1 F1 ρ1) {u : Value} {v : T} (k : RT w F u v) : RT w1 F1 u v := k.mono h.agree h.grow

/-- rows whose block stays as it is stay -/
theorem RowOK.mono {α : Type} {w w' : World} {L : Loc} {es : List (List α)} {R R' : Value → α → Prop} (h : RowOK w L es R) (hb : w'.heap[L.b]? = w.heap[L.b]?) (hR : ∀ u x, R u x → R' u x) : RowOK w' L es R' := by
  obtain ⟨n, len, c, el, fr, hh, hs, hf, hz, hc⟩ := h
  refine ⟨n, len, c, el, fr, hb.trans hh, hs, hf, hz, fun i j cs x h1 h2 => ?_⟩
  obtain ⟨u, hu, hr⟩ := hc i j cs x h1 h2
  exact ⟨u, hu, hR u x hr⟩
/-- one row under a change of the world that leaves its block alone -/
theorem RB.mono {w w' : World} {F F' : Nat → Prop} {ρ ρ' : Locs} {Ow : Own} {r : Nat} {b : Blk} (h : RB w F ρ Ow r b) (hA : Agree F w w') (hF : ∀ b, F b → F' b) (hρ : Ext ρ ρ')
    (hk : ∀ L, ρ r = some (some L) → writes b = true → w'.heap[L.b]? = w.heap[L.b]? ∧ ¬ F' L.b) : RB w' F' ρ' Ow r b := by
  cases b with
  | ts sz es =>
    rcases h with ⟨L, h1, h2, h3, h4, h5⟩ | ⟨h1, h2⟩
    · exact .inl ⟨L, hρ _ _ h1, h2, h3.mono (hk L h1 rfl).1 fun u x hx => hx.mono hA hF, (hk L h1 rfl).2, h5⟩
    · exact .inr ⟨hρ _ _ h1, h2⟩
  | vs sz es =>
    rcases h with ⟨L, h1, h2, h3, h4, h5⟩ | ⟨h1, h2⟩
    · exact .inl ⟨L, hρ _ _ h1, h2, h3.mono (hk L h1 rfl).1 fun u x hx => hx.mono hA hF hρ, (hk L h1 rfl).2, h5⟩
    · exact .inr ⟨hρ _ _ h1, h2⟩
  | fz sz es =>
    rcases h with ⟨L, h1, h2, h3, h4⟩ | ⟨h1, h2⟩
    · exact .inl ⟨L, hρ _ _ h1, h2, h3.mono (hA _ h4) fun u x hx => hx.mono hA hF, hF _ h4⟩
    · exact .inr ⟨hρ _ _ h1, h2⟩
  | dead => trivial
end Go.Proofs.YtdhejeigbjmncaaDoor.E
