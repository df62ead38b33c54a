/- Joined: T2 XL X1 X2 X3 LT. Conditions: those of each lemma. -/
import Derived.Test.YtkpmachalipmpaaGreatDoorUD
import Derived.Shelf.Strings.Builder1
import Derived.Shelf.Strings.Builder2
import Derived.Shelf.Strings.OnBuilder
import Derived.Shelf.Small.Utf8
import Derived.Shelf.Small.Strs
import Derived.Shelf.Strconv.Atoi
import Derived.Shelf.Strconv.Itoa0
import Derived.Shelf.Strconv.Itoa1
import Derived.Shelf.LaysM
import Derived.Shelf.Strconv.Itoa2
import Derived.Shelf.Strconv.Itoa3
import Derived.Shelf.Strconv.AtoiErrFast
import Derived.Shelf.Strconv.ParseIntEmpty
import Derived.Shelf.Strconv.AtoiFail
import Derived.Shelf.Strconv.Clone
import Derived.Shelf.Strconv.SyntaxError
import Derived.Shelf.LaysC
import Derived.Shelf.Strconv.ToError
import Derived.Shelf.Strconv.Lower
import Derived.Shelf.Strconv.ParseUint10
import Derived.Shelf.Strconv.ParseUint10Empty
import Derived.Shelf.Strconv.ParseUint10Any
import Derived.Shelf.Strconv.ParseInt10
import Derived.Shelf.Strconv.AtoiLong
import Derived.Shelf.Strconv.AtoiInnerAll
import Derived.Shelf.Strconv.RangeError
import Derived.Shelf.Strconv.ToErrorRange
import Derived.Shelf.Strconv.AtoiAll
import Derived.Shelf.Strconv.ErrVarAll
import Derived.Shelf.Strings.Search1
import Derived.Shelf.Strings.Search2
import Derived.Shelf.Strings.Search3
import Derived.Shelf.Strings.Cut
import Derived.Shelf.Strings.Count
import Derived.Shelf.Strings.Shaped
import Derived.Shelf.Strings.Split
import Derived.Shelf.Strings.SplitShaped
import Derived.Shelf.Unicode.Decode
import Derived.Shelf.Strings.Runes
import Derived.Shelf.Strings.RuneCount
import Derived.Shelf.Strings.AsciiSet
import Derived.Shelf.Strings.Explode
import Derived.Shelf.Unicode.DecodeSlow
import Derived.Test.YtkpmachalipmpaaGreatDoorProg
import Derived.KernelRfl
set_option linter.unusedVariables false
set_option linter.unusedSimpArgs false
namespace Go.Proofs.YtkpmachalipmpaaGreatDoor
open E
set_option linter.unusedSimpArgs false
set_option linter.unusedVariables false
set_option maxRecDepth 100000

/-- a list of texts -/
def strs (ks : List (List UInt8)) : List (List T) := ks.map fun s => [.str s]
def bulkS : List (List UInt8) → Nat
  | [] => 0
  | s :: ks => s.length + bulkS ks
theorem strs_len (ks : List (List UInt8)) : (strs ks).length = ks.length := by simp [strs]
theorem strs_get (ks : List (List UInt8)) (i : Nat) (h : i < ks.length) : (strs ks)[i]? = some [.str ks[i]] := by simp [strs, h]
theorem bulkS_drop (ks : List (List UInt8)) (i : Nat) (h : i < ks.length) : bulkS (ks.drop i) = ks[i].length + bulkS (ks.drop (i + 1)) := by
  rw [List.drop_eq_getElem_cons h]; rfl
/-- a row filled up to a place -/
def fillE (xs : List (List T)) (z : List T) (i : Nat) : List (List T) := xs.take i ++ List.replicate (xs.length - i) z
theorem fillE_zero (xs : List (List T)) (z : List T) : fillE xs z 0 = List.replicate xs.length z := by simp [fillE]
theorem fillE_all (xs : List (List T)) (z : List T) : fillE xs z xs.length = xs := by simp [fillE]
theorem fillE_len (xs : List (List T)) (z : List T) (i : Nat) (h : i ≤ xs.length) : (fillE xs z i).length = xs.length := by simp [fillE]; omega
theorem fillE_get (xs : List (List T)) (z : List T) (i : Nat) (h : i < xs.length) : (fillE xs z i)[i]? = some z := by
  unfold fillE
  rw [List.getElem?_append_right (by simp; omega), List.getElem?_replicate, if_pos (by simp; omega)]
theorem fillE_set (xs : List (List T)) (z : List T) (i : Nat) (h : i < xs.length) : (fillE xs z i).set i xs[i] = fillE xs z (i + 1) := by
  unfold fillE
  apply List.ext_getElem?
  intro j
  rw [List.getElem?_set]
  by_cases hj : i = j
  · subst hj
    rw [if_pos rfl, if_pos (by simp; omega), List.getElem?_append_left (by simp; omega)]
    simp [h]
  · rw [if_neg hj]
    rcases Nat.lt_or_ge j i with hlt | hge
    · rw [List.getElem?_append_left (by simp; omega), List.getElem?_append_left (by simp; omega)]
      rw [List.getElem?_take, List.getElem?_take, if_pos hlt, if_pos (by omega)]
    · rw [List.getElem?_append_right (by simp; omega), List.getElem?_append_right (by simp; omega), List.getElem?_replicate, List.getElem?_replicate]
      simp only [List.length_take]
      by_cases hk : j < xs.length
      · rw [if_pos (by omega), if_pos (by omega)]
      · rw [if_neg (by omega), if_neg (by omega)]
inductive Tr where
  | mk (k n : Int) (s : List UInt8) (ks : List (List UInt8)) (cs : List Tr)
mutual
def Tr.enc : Tr → List T
  | .mk k n s ks cs => [.int .i64 k, .int .i64 n, .str s, .list 1 (strs ks), .list 5 (Tr.encs cs)]
def Tr.encs : List Tr → List (List T)
  | [] => []
  | c :: cs => Tr.enc c :: Tr.encs cs
end
mutual
def Tr.bulk : Tr → Nat
  | .mk _ _ s ks cs => s.length + ks.length + bulkS ks + cs.length + Tr.bulks cs
def Tr.bulks : List Tr → Nat
  | [] => 0
  | c :: cs => Tr.bulk c + Tr.bulks cs
end
mutual
def Tr.nd : Tr → Nat
  | .mk _ _ _ _ cs => Tr.nds cs + 1
def Tr.nds : List Tr → Nat
  | [] => 0
  | c :: cs => Tr.nd c + Tr.nds cs
end
mutual
def Tr.ok : Tr → Prop
  | .mk _ _ s ks cs => s.length ≤ 9223372036854775807 ∧ ks.length ≤ 9223372036854775807 ∧ (∀ x ∈ ks, x.length ≤ 9223372036854775807) ∧ cs.length ≤ 9223372036854775807 ∧ Tr.oks cs
def Tr.oks : List Tr → Prop
  | [] => True
  | c :: cs => Tr.ok c ∧ Tr.oks cs
end
theorem Tr.encs_eq : ∀ cs : List Tr, Tr.encs cs = cs.map Tr.enc
  | [] => rfl
  | c :: cs => by simp [Tr.encs, Tr.encs_eq cs]
theorem Tr.encs_len (cs : List Tr) : (Tr.encs cs).length = cs.length := by simp [Tr.encs_eq]
theorem Tr.encs_get (cs : List Tr) (i : Nat) (h : i < cs.length) : (Tr.encs cs)[i]? = some cs[i].enc := by simp [Tr.encs_eq, h]
theorem Tr.bulks_drop (cs : List Tr) (i : Nat) (h : i < cs.length) : Tr.bulks (cs.drop i) = cs[i].bulk + Tr.bulks (cs.drop (i + 1)) := by
  rw [List.drop_eq_getElem_cons h]; rfl
theorem Tr.nds_mem : ∀ {cs : List Tr} {c : Tr}, c ∈ cs → c.nd ≤ Tr.nds cs
  | c' :: cs, c, h => by
    simp only [Tr.nds]
    rcases List.mem_cons.1 h with rfl | h
    · omega
    · have := Tr.nds_mem h; omega
theorem Tr.oks_mem : ∀ {cs : List Tr} {c : Tr}, Tr.oks cs → c ∈ cs → c.ok
  | c' :: cs, c, h, hm => by
    simp only [Tr.oks] at h
    rcases List.mem_cons.1 hm with rfl | hm
    · exact h.1
    · exact Tr.oks_mem h.2 hm

theorem Tr.bulks_mem : ∀ {cs : List Tr} {c : Tr}, c ∈ cs → c.bulk ≤ Tr.bulks cs
  | c' :: cs, c, h => by
    simp only [Tr.bulks]
    rcases List.mem_cons.1 h with rfl | h
    · omega
    · have := Tr.bulks_mem h; omega
end Go.Proofs.YtkpmachalipmpaaGreatDoor
/- The shelf's contracts at this program, laid by the kit's own tool. Conditions: none. -/
namespace Go.Proofs
open Go.Shelf
def Tryz.lays156_ren : Go.Shelf.Ren := ⟨fun | 156 => 193 | 165 => 265 | 166 => 266 | 169 => 267 | 240 => 320 | 241 => 321 | 276 => 365 | 277 => 366 | n => n, fun | 31 => 33 | 9 => 9 | 3 => 3 | 4 => 4 | 0 => 0 | 20 => 20 | 72 => 246 | 76 => 250 | 70 => 244 | 37 => 31 | 75 => 249 | 127 => 285 | 164 => 315 | 5 => 5 | 80 => 218 | n => n, fun | n => n⟩
theorem Tryz.lays156 : Go.Proofs.Lays.n156 Tryz.prog Tryz.lays156_ren := {
  mixed := by kernel_rfl
  f156 := Tryz.func193.trans (congrArg some (by kernel_rfl))
  f165 := Tryz.func265.trans (congrArg some (by kernel_rfl))
  f166 := Tryz.func266.trans (congrArg some (by kernel_rfl))
  f169 := Tryz.func267.trans (congrArg some (by kernel_rfl))
  f240 := Tryz.func320.trans (congrArg some (by kernel_rfl))
  f241 := Tryz.func321.trans (congrArg some (by kernel_rfl))
  f276 := Tryz.func365.trans (congrArg some (by kernel_rfl))
  f277 := Tryz.func366.trans (congrArg some (by kernel_rfl))
  t0 := Tryz.underlying0
  a0 := Tryz.isAgg0
  z0 := Tryz.sizeOf0
  v0 := Tryz.zeroValue0
  t3 := Tryz.underlying3
  a3 := Tryz.isAgg3
  z3 := Tryz.sizeOf3
  v3 := Tryz.zeroValue3
  t4 := Tryz.underlying4
  a4 := Tryz.isAgg4
  z4 := Tryz.sizeOf4
  v4 := Tryz.zeroValue4
  t9 := Tryz.underlying9
  a9 := Tryz.isAgg9
  z9 := Tryz.sizeOf9
  v9 := Tryz.zeroValue9
  t20 := Tryz.underlying20
  a20 := Tryz.isAgg20
  z20 := Tryz.sizeOf20
  v20 := Tryz.zeroValue20
  t31 := Tryz.underlying33
  a31 := Tryz.isAgg33
  z31 := Tryz.sizeOf33
  v31 := Tryz.zeroValue33
  t37 := Tryz.underlying31
  a37 := Tryz.isAgg31
  z37 := Tryz.sizeOf31
  v37 := Tryz.zeroValue31
  t70 := Tryz.underlying244
  a70 := Tryz.isAgg244
  z70 := Tryz.sizeOf244
  v70 := Tryz.zeroValue244
  t72 := Tryz.underlying246
  a72 := Tryz.isAgg246
  z72 := Tryz.sizeOf246
  v72 := Tryz.zeroValue246
  t75 := Tryz.underlying249
  a75 := Tryz.isAgg249
  z75 := Tryz.sizeOf249
  v75 := Tryz.zeroValue249
  t76 := Tryz.underlying250
  a76 := Tryz.isAgg250
  z76 := Tryz.sizeOf250
  v76 := Tryz.zeroValue250
  t127 := Tryz.underlying285
  a127 := Tryz.isAgg285
  z127 := Tryz.sizeOf285
  v127 := Tryz.zeroValue285
  t164 := Tryz.underlying315
  a164 := Tryz.isAgg315
  z164 := Tryz.sizeOf315
  v164 := Tryz.zeroValue315 }
theorem Tryz.Builder_Extra_156 : Builder.Extra Tryz.prog Tryz.lays156_ren := {
  sizeBuilder := by kernel_rfl
  liesBuilder := by kernel_rfl
  t5 := Tryz.underlying5
  a5 := Tryz.isAgg5
  z5 := Tryz.sizeOf5
  v5 := Tryz.zeroValue5
  infoByte := by kernel_rfl
  cellsByte := by kernel_rfl
  sizeByte := by kernel_rfl
  neB5 := by decide }
def Tryz.laysM171_ren : Go.Shelf.Ren := ⟨fun | 171 => 264 | 243 => 319 | 246 => 364 | 283 => 390 | 284 => 391 | 285 => 392 | 286 => 393 | 129 => 299 | 317 => 404 | 318 => 405 | 319 => 406 | 320 => 407 | 337 => 412 | 338 => 413 | n => n, fun | 3 => 3 | 9 => 9 | 2 => 2 | 4 => 4 | 171 => 336 | 0 => 0 | 53 => 278 | 37 => 31 | 5 => 5 | 173 => 338 | 212 => 352 | 51 => 276 | 20 => 20 | 213 => 353 | 46 => 209 | 232 => 361 | 233 => 362 | n => n, fun | 17 => 5 | 18 => 6 | 19 => 7 | n => n⟩
theorem Tryz.laysM171 : Go.Proofs.LaysM.n171 Tryz.prog Tryz.laysM171_ren := {
  mixed := by kernel_rfl
  f129 := Tryz.func299.trans (congrArg some (by kernel_rfl))
  f171 := Tryz.func264.trans (congrArg some (by kernel_rfl))
  f243 := Tryz.func319.trans (congrArg some (by kernel_rfl))
  f246 := Tryz.func364.trans (congrArg some (by kernel_rfl))
  f283 := Tryz.func390.trans (congrArg some (by kernel_rfl))
  f284 := Tryz.func391.trans (congrArg some (by kernel_rfl))
  f285 := Tryz.func392.trans (congrArg some (by kernel_rfl))
  f286 := Tryz.func393.trans (congrArg some (by kernel_rfl))
  f317 := Tryz.func404.trans (congrArg some (by kernel_rfl))
  f318 := Tryz.func405.trans (congrArg some (by kernel_rfl))
  f319 := Tryz.func406.trans (congrArg some (by kernel_rfl))
  f320 := Tryz.func407.trans (congrArg some (by kernel_rfl))
  f337 := Tryz.func412.trans (congrArg some (by kernel_rfl))
  f338 := Tryz.func413.trans (congrArg some (by kernel_rfl))
  t0 := Tryz.underlying0
  a0 := Tryz.isAgg0
  z0 := Tryz.sizeOf0
  v0 := Tryz.zeroValue0
  t2 := Tryz.underlying2
  a2 := Tryz.isAgg2
  z2 := Tryz.sizeOf2
  v2 := Tryz.zeroValue2
  t3 := Tryz.underlying3
  a3 := Tryz.isAgg3
  z3 := Tryz.sizeOf3
  v3 := Tryz.zeroValue3
  t4 := Tryz.underlying4
  a4 := Tryz.isAgg4
  z4 := Tryz.sizeOf4
  v4 := Tryz.zeroValue4
  t5 := Tryz.underlying5
  a5 := Tryz.isAgg5
  z5 := Tryz.sizeOf5
  v5 := Tryz.zeroValue5
  t9 := Tryz.underlying9
  a9 := Tryz.isAgg9
  z9 := Tryz.sizeOf9
  v9 := Tryz.zeroValue9
  t20 := Tryz.underlying20
  a20 := Tryz.isAgg20
  z20 := Tryz.sizeOf20
  v20 := Tryz.zeroValue20
  t37 := Tryz.underlying31
  a37 := Tryz.isAgg31
  z37 := Tryz.sizeOf31
  v37 := Tryz.zeroValue31
  t46 := Tryz.underlying209
  a46 := Tryz.isAgg209
  z46 := Tryz.sizeOf209
  v46 := Tryz.zeroValue209
  t51 := Tryz.underlying276
  a51 := Tryz.isAgg276
  z51 := Tryz.sizeOf276
  v51 := Tryz.zeroValue276
  t53 := Tryz.underlying278
  a53 := Tryz.isAgg278
  z53 := Tryz.sizeOf278
  v53 := Tryz.zeroValue278
  t171 := Tryz.underlying336
  a171 := Tryz.isAgg336
  z171 := Tryz.sizeOf336
  v171 := Tryz.zeroValue336
  t173 := Tryz.underlying338
  a173 := Tryz.isAgg338
  z173 := Tryz.sizeOf338
  v173 := Tryz.zeroValue338
  t212 := Tryz.underlying352
  a212 := Tryz.isAgg352
  z212 := Tryz.sizeOf352
  v212 := Tryz.zeroValue352
  t213 := Tryz.underlying353
  a213 := Tryz.isAgg353
  z213 := Tryz.sizeOf353
  t232 := Tryz.underlying361
  a232 := Tryz.isAgg361
  z232 := Tryz.sizeOf361
  v232 := Tryz.zeroValue361
  t233 := Tryz.underlying362
  a233 := Tryz.isAgg362
  z233 := Tryz.sizeOf362
  v233 := Tryz.zeroValue362
  g17 := by kernel_rfl
  g18 := by kernel_rfl
  g19 := by kernel_rfl
  i0 := by kernel_rfl
  i2 := by kernel_rfl
  i3 := by kernel_rfl
  i4 := by kernel_rfl
  i5 := by kernel_rfl
  i9 := by kernel_rfl
  i20 := by kernel_rfl
  i37 := by kernel_rfl
  i46 := by kernel_rfl
  i51 := by kernel_rfl
  i53 := by kernel_rfl
  i171 := by kernel_rfl
  i173 := by kernel_rfl
  i212 := by kernel_rfl
  i232 := by kernel_rfl
  i233 := by kernel_rfl
  m17 := by kernel_rfl
  m18 := by kernel_rfl
  m19 := by kernel_rfl }
def Tryz.laysC172_ren : Go.Shelf.Ren := ⟨fun | 172 => 269 | 244 => 323 | 245 => 324 | 247 => 368 | 279 => 369 | 280 => 370 | 281 => 371 | 282 => 372 | 287 => 394 | 316 => 395 | 171 => 264 | 205 => 396 | 321 => 408 | 322 => 409 | 243 => 319 | 246 => 364 | 283 => 390 | 284 => 391 | 285 => 392 | 286 => 393 | 129 => 299 | 317 => 404 | 318 => 405 | 319 => 406 | 320 => 407 | 337 => 412 | 338 => 413 | n => n, fun | 9 => 9 | 3 => 3 | 75 => 249 | 76 => 250 | 4 => 4 | 5 => 5 | 167 => 318 | 37 => 31 | 0 => 0 | 85 => 319 | 2 => 2 | 168 => 321 | 53 => 278 | 175 => 340 | 46 => 209 | 210 => 343 | 127 => 285 | 145 => 358 | 143 => 356 | 21 => 21 | 171 => 336 | 173 => 338 | 212 => 352 | 51 => 276 | 20 => 20 | 213 => 353 | 232 => 361 | 233 => 362 | 80 => 218 | n => n, fun | 15 => 1 | 16 => 2 | 17 => 5 | 18 => 6 | 19 => 7 | n => n⟩
theorem Tryz.laysC172 : Go.Proofs.LaysC.n172 Tryz.prog Tryz.laysC172_ren := {
  mixed := by kernel_rfl
  f129 := Tryz.func299.trans (congrArg some (by kernel_rfl))
  f171 := Tryz.func264.trans (congrArg some (by kernel_rfl))
  f172 := Tryz.func269.trans (congrArg some (by kernel_rfl))
  f205 := Tryz.func396.trans (congrArg some (by kernel_rfl))
  f243 := Tryz.func319.trans (congrArg some (by kernel_rfl))
  f244 := Tryz.func323.trans (congrArg some (by kernel_rfl))
  f245 := Tryz.func324.trans (congrArg some (by kernel_rfl))
  f246 := Tryz.func364.trans (congrArg some (by kernel_rfl))
  f247 := Tryz.func368.trans (congrArg some (by kernel_rfl))
  f279 := Tryz.func369.trans (congrArg some (by kernel_rfl))
  f280 := Tryz.func370.trans (congrArg some (by kernel_rfl))
  f281 := Tryz.func371.trans (congrArg some (by kernel_rfl))
  f282 := Tryz.func372.trans (congrArg some (by kernel_rfl))
  f283 := Tryz.func390.trans (congrArg some (by kernel_rfl))
  f284 := Tryz.func391.trans (congrArg some (by kernel_rfl))
  f285 := Tryz.func392.trans (congrArg some (by kernel_rfl))
  f286 := Tryz.func393.trans (congrArg some (by kernel_rfl))
  f287 := Tryz.func394.trans (congrArg some (by kernel_rfl))
  f316 := Tryz.func395.trans (congrArg some (by kernel_rfl))
  f317 := Tryz.func404.trans (congrArg some (by kernel_rfl))
  f318 := Tryz.func405.trans (congrArg some (by kernel_rfl))
  f319 := Tryz.func406.trans (congrArg some (by kernel_rfl))
  f320 := Tryz.func407.trans (congrArg some (by kernel_rfl))
  f321 := Tryz.func408.trans (congrArg some (by kernel_rfl))
  f322 := Tryz.func409.trans (congrArg some (by kernel_rfl))
  f337 := Tryz.func412.trans (congrArg some (by kernel_rfl))
  f338 := Tryz.func413.trans (congrArg some (by kernel_rfl))
  t0 := Tryz.underlying0
  a0 := Tryz.isAgg0
  z0 := Tryz.sizeOf0
  v0 := Tryz.zeroValue0
  t2 := Tryz.underlying2
  a2 := Tryz.isAgg2
  z2 := Tryz.sizeOf2
  v2 := Tryz.zeroValue2
  t3 := Tryz.underlying3
  a3 := Tryz.isAgg3
  z3 := Tryz.sizeOf3
  v3 := Tryz.zeroValue3
  t4 := Tryz.underlying4
  a4 := Tryz.isAgg4
  z4 := Tryz.sizeOf4
  v4 := Tryz.zeroValue4
  t5 := Tryz.underlying5
  a5 := Tryz.isAgg5
  z5 := Tryz.sizeOf5
  v5 := Tryz.zeroValue5
  t9 := Tryz.underlying9
  a9 := Tryz.isAgg9
  z9 := Tryz.sizeOf9
  v9 := Tryz.zeroValue9
  t20 := Tryz.underlying20
  a20 := Tryz.isAgg20
  z20 := Tryz.sizeOf20
  v20 := Tryz.zeroValue20
  t21 := Tryz.underlying21
  a21 := Tryz.isAgg21
  z21 := Tryz.sizeOf21
  v21 := Tryz.zeroValue21
  t37 := Tryz.underlying31
  a37 := Tryz.isAgg31
  z37 := Tryz.sizeOf31
  v37 := Tryz.zeroValue31
  t46 := Tryz.underlying209
  a46 := Tryz.isAgg209
  z46 := Tryz.sizeOf209
  v46 := Tryz.zeroValue209
  t51 := Tryz.underlying276
  a51 := Tryz.isAgg276
  z51 := Tryz.sizeOf276
  v51 := Tryz.zeroValue276
  t53 := Tryz.underlying278
  a53 := Tryz.isAgg278
  z53 := Tryz.sizeOf278
  v53 := Tryz.zeroValue278
  t75 := Tryz.underlying249
  a75 := Tryz.isAgg249
  z75 := Tryz.sizeOf249
  v75 := Tryz.zeroValue249
  t76 := Tryz.underlying250
  a76 := Tryz.isAgg250
  z76 := Tryz.sizeOf250
  v76 := Tryz.zeroValue250
  t85 := Tryz.underlying319
  a85 := Tryz.isAgg319
  z85 := Tryz.sizeOf319
  v85 := Tryz.zeroValue319
  t127 := Tryz.underlying285
  a127 := Tryz.isAgg285
  z127 := Tryz.sizeOf285
  v127 := Tryz.zeroValue285
  t143 := Tryz.underlying356
  a143 := Tryz.isAgg356
  z143 := Tryz.sizeOf356
  v143 := Tryz.zeroValue356
  t145 := Tryz.underlying358
  a145 := Tryz.isAgg358
  z145 := Tryz.sizeOf358
  v145 := Tryz.zeroValue358
  t167 := Tryz.underlying318
  a167 := Tryz.isAgg318
  z167 := Tryz.sizeOf318
  v167 := Tryz.zeroValue318
  t168 := Tryz.underlying321
  a168 := Tryz.isAgg321
  z168 := Tryz.sizeOf321
  v168 := Tryz.zeroValue321
  t171 := Tryz.underlying336
  a171 := Tryz.isAgg336
  z171 := Tryz.sizeOf336
  v171 := Tryz.zeroValue336
  t173 := Tryz.underlying338
  a173 := Tryz.isAgg338
  z173 := Tryz.sizeOf338
  v173 := Tryz.zeroValue338
  t175 := Tryz.underlying340
  a175 := Tryz.isAgg340
  z175 := Tryz.sizeOf340
  v175 := Tryz.zeroValue340
  t210 := Tryz.underlying343
  a210 := Tryz.isAgg343
  z210 := Tryz.sizeOf343
  v210 := Tryz.zeroValue343
  t212 := Tryz.underlying352
  a212 := Tryz.isAgg352
  z212 := Tryz.sizeOf352
  v212 := Tryz.zeroValue352
  t213 := Tryz.underlying353
  a213 := Tryz.isAgg353
  z213 := Tryz.sizeOf353
  t232 := Tryz.underlying361
  a232 := Tryz.isAgg361
  z232 := Tryz.sizeOf361
  v232 := Tryz.zeroValue361
  t233 := Tryz.underlying362
  a233 := Tryz.isAgg362
  z233 := Tryz.sizeOf362
  v233 := Tryz.zeroValue362
  g15 := by kernel_rfl
  g16 := by kernel_rfl
  g17 := by kernel_rfl
  g18 := by kernel_rfl
  g19 := by kernel_rfl
  t80 := Tryz.underlying218
  a80 := Tryz.isAgg218
  z80 := Tryz.sizeOf218
  v80 := Tryz.zeroValue218
  i0 := by kernel_rfl
  i2 := by kernel_rfl
  i3 := by kernel_rfl
  i4 := by kernel_rfl
  i5 := by kernel_rfl
  i9 := by kernel_rfl
  i20 := by kernel_rfl
  i21 := by kernel_rfl
  i37 := by kernel_rfl
  i46 := by kernel_rfl
  i51 := by kernel_rfl
  i53 := by kernel_rfl
  i75 := by kernel_rfl
  i76 := by kernel_rfl
  i80 := by kernel_rfl
  i85 := by kernel_rfl
  i127 := by kernel_rfl
  i143 := by kernel_rfl
  i145 := by kernel_rfl
  i167 := by kernel_rfl
  i168 := by kernel_rfl
  i171 := by kernel_rfl
  i173 := by kernel_rfl
  i175 := by kernel_rfl
  i210 := by kernel_rfl
  i212 := by kernel_rfl
  i232 := by kernel_rfl
  i233 := by kernel_rfl
  m15 := by kernel_rfl
  m16 := by kernel_rfl
  m17 := by kernel_rfl
  m18 := by kernel_rfl
  m19 := by kernel_rfl
  c0 := by kernel_rfl
  c2 := by kernel_rfl
  c3 := by kernel_rfl
  c4 := by kernel_rfl
  c5 := by kernel_rfl
  c9 := by kernel_rfl
  c20 := by kernel_rfl
  c21 := by kernel_rfl
  c37 := by kernel_rfl
  c46 := by kernel_rfl
  c51 := by kernel_rfl
  c53 := by kernel_rfl
  c75 := by kernel_rfl
  c76 := by kernel_rfl
  c80 := by kernel_rfl
  c85 := by kernel_rfl
  c127 := by kernel_rfl
  c143 := by kernel_rfl
  c145 := by kernel_rfl
  c167 := by kernel_rfl
  c168 := by kernel_rfl
  c171 := by kernel_rfl
  c173 := by kernel_rfl
  c175 := by kernel_rfl
  c210 := by kernel_rfl
  c212 := by kernel_rfl
  c213 := by kernel_rfl
  c232 := by kernel_rfl
  c233 := by kernel_rfl }
def Tryz.laysM145_ren : Go.Shelf.Ren := ⟨fun | 145 => 83 | 220 => 174 | 219 => 252 | 217 => 310 | 225 => 311 | 224 => 312 | 267 => 313 | 266 => 357 | 314 => 358 | n => n, fun | 9 => 9 | 4 => 4 | 59 => 96 | 3 => 3 | 5 => 5 | 46 => 209 | 146 => 309 | 51 => 276 | n => n, fun | 1 => 0 | n => n⟩
theorem Tryz.laysM145 : Go.Proofs.LaysM.n145 Tryz.prog Tryz.laysM145_ren := {
  mixed := by kernel_rfl
  f145 := Tryz.func83.trans (congrArg some (by kernel_rfl))
  f217 := Tryz.func310.trans (congrArg some (by kernel_rfl))
  f219 := Tryz.func252.trans (congrArg some (by kernel_rfl))
  f220 := Tryz.func174.trans (congrArg some (by kernel_rfl))
  f224 := Tryz.func312.trans (congrArg some (by kernel_rfl))
  f225 := Tryz.func311.trans (congrArg some (by kernel_rfl))
  f266 := Tryz.func357.trans (congrArg some (by kernel_rfl))
  f267 := Tryz.func313.trans (congrArg some (by kernel_rfl))
  f314 := Tryz.func358.trans (congrArg some (by kernel_rfl))
  t3 := Tryz.underlying3
  a3 := Tryz.isAgg3
  z3 := Tryz.sizeOf3
  v3 := Tryz.zeroValue3
  t4 := Tryz.underlying4
  a4 := Tryz.isAgg4
  z4 := Tryz.sizeOf4
  v4 := Tryz.zeroValue4
  t5 := Tryz.underlying5
  a5 := Tryz.isAgg5
  z5 := Tryz.sizeOf5
  v5 := Tryz.zeroValue5
  t9 := Tryz.underlying9
  a9 := Tryz.isAgg9
  z9 := Tryz.sizeOf9
  v9 := Tryz.zeroValue9
  t46 := Tryz.underlying209
  a46 := Tryz.isAgg209
  z46 := Tryz.sizeOf209
  v46 := Tryz.zeroValue209
  t51 := Tryz.underlying276
  a51 := Tryz.isAgg276
  z51 := Tryz.sizeOf276
  v51 := Tryz.zeroValue276
  t59 := Tryz.underlying96
  a59 := Tryz.isAgg96
  z59 := Tryz.sizeOf96
  v59 := Tryz.zeroValue96
  t146 := Tryz.underlying309
  a146 := Tryz.isAgg309
  z146 := Tryz.sizeOf309
  v146 := Tryz.zeroValue309
  g1 := by kernel_rfl
  i3 := by kernel_rfl
  i4 := by kernel_rfl
  i5 := by kernel_rfl
  i9 := by kernel_rfl
  i46 := by kernel_rfl
  i51 := by kernel_rfl
  i59 := by kernel_rfl
  i146 := by kernel_rfl
  m1 := by kernel_rfl
  s1_3 := fun w h => Go.Proofs.cell_of_shapedOpen_int (zero := #[.int .i64 0]) (t := 3) h (of_decide_eq_true (by kernel_rfl)) (by kernel_rfl) rfl (by kernel_rfl) (by kernel_rfl) Tryz.underlying3 }
def Tryz.laysM146_ren : Go.Shelf.Ren := ⟨fun | 146 => 181 | 221 => 258 | 268 => 316 | 138 => 317 | 143 => 175 | 195 => 361 | 197 => 362 | 218 => 363 | 219 => 252 | 260 => 389 | 217 => 310 | 225 => 311 | 224 => 312 | 267 => 313 | 266 => 357 | 314 => 358 | n => n, fun | 9 => 9 | 31 => 33 | 3 => 3 | 4 => 4 | 0 => 0 | 105 => 312 | 21 => 21 | 5 => 5 | 46 => 209 | 119 => 347 | 139 => 350 | 138 => 349 | 146 => 309 | 51 => 276 | n => n, fun | 1 => 0 | 3 => 3 | 4 => 4 | n => n⟩
theorem Tryz.laysM146 : Go.Proofs.LaysM.n146 Tryz.prog Tryz.laysM146_ren := {
  mixed := by kernel_rfl
  f138 := Tryz.func317.trans (congrArg some (by kernel_rfl))
  f143 := Tryz.func175.trans (congrArg some (by kernel_rfl))
  f146 := Tryz.func181.trans (congrArg some (by kernel_rfl))
  f195 := Tryz.func361.trans (congrArg some (by kernel_rfl))
  f197 := Tryz.func362.trans (congrArg some (by kernel_rfl))
  f217 := Tryz.func310.trans (congrArg some (by kernel_rfl))
  f218 := Tryz.func363.trans (congrArg some (by kernel_rfl))
  f219 := Tryz.func252.trans (congrArg some (by kernel_rfl))
  f221 := Tryz.func258.trans (congrArg some (by kernel_rfl))
  f224 := Tryz.func312.trans (congrArg some (by kernel_rfl))
  f225 := Tryz.func311.trans (congrArg some (by kernel_rfl))
  f260 := Tryz.func389.trans (congrArg some (by kernel_rfl))
  f266 := Tryz.func357.trans (congrArg some (by kernel_rfl))
  f267 := Tryz.func313.trans (congrArg some (by kernel_rfl))
  f268 := Tryz.func316.trans (congrArg some (by kernel_rfl))
  f314 := Tryz.func358.trans (congrArg some (by kernel_rfl))
  t0 := Tryz.underlying0
  a0 := Tryz.isAgg0
  z0 := Tryz.sizeOf0
  v0 := Tryz.zeroValue0
  t3 := Tryz.underlying3
  a3 := Tryz.isAgg3
  z3 := Tryz.sizeOf3
  v3 := Tryz.zeroValue3
  t4 := Tryz.underlying4
  a4 := Tryz.isAgg4
  z4 := Tryz.sizeOf4
  v4 := Tryz.zeroValue4
  t5 := Tryz.underlying5
  a5 := Tryz.isAgg5
  z5 := Tryz.sizeOf5
  v5 := Tryz.zeroValue5
  t9 := Tryz.underlying9
  a9 := Tryz.isAgg9
  z9 := Tryz.sizeOf9
  v9 := Tryz.zeroValue9
  t21 := Tryz.underlying21
  a21 := Tryz.isAgg21
  z21 := Tryz.sizeOf21
  v21 := Tryz.zeroValue21
  t31 := Tryz.underlying33
  a31 := Tryz.isAgg33
  z31 := Tryz.sizeOf33
  v31 := Tryz.zeroValue33
  t46 := Tryz.underlying209
  a46 := Tryz.isAgg209
  z46 := Tryz.sizeOf209
  v46 := Tryz.zeroValue209
  t51 := Tryz.underlying276
  a51 := Tryz.isAgg276
  z51 := Tryz.sizeOf276
  v51 := Tryz.zeroValue276
  t105 := Tryz.underlying312
  a105 := Tryz.isAgg312
  z105 := Tryz.sizeOf312
  v105 := Tryz.zeroValue312
  t119 := Tryz.underlying347
  a119 := Tryz.isAgg347
  z119 := Tryz.sizeOf347
  t138 := Tryz.underlying349
  a138 := Tryz.isAgg349
  z138 := Tryz.sizeOf349
  v138 := Tryz.zeroValue349
  t139 := Tryz.underlying350
  a139 := Tryz.isAgg350
  z139 := Tryz.sizeOf350
  v139 := Tryz.zeroValue350
  t146 := Tryz.underlying309
  a146 := Tryz.isAgg309
  z146 := Tryz.sizeOf309
  v146 := Tryz.zeroValue309
  g1 := by kernel_rfl
  g3 := by kernel_rfl
  g4 := by kernel_rfl
  i0 := by kernel_rfl
  i3 := by kernel_rfl
  i4 := by kernel_rfl
  i5 := by kernel_rfl
  i9 := by kernel_rfl
  i21 := by kernel_rfl
  i31 := by kernel_rfl
  i46 := by kernel_rfl
  i51 := by kernel_rfl
  i105 := by kernel_rfl
  i138 := by kernel_rfl
  i139 := by kernel_rfl
  i146 := by kernel_rfl
  m1 := by kernel_rfl
  s1_3 := fun w h => Go.Proofs.cell_of_shapedOpen_int (zero := #[.int .i64 0]) (t := 3) h (of_decide_eq_true (by kernel_rfl)) (by kernel_rfl) rfl (by kernel_rfl) (by kernel_rfl) Tryz.underlying3
  m3 := by kernel_rfl
  m4 := by kernel_rfl }
end Go.Proofs
/- What the library's functions answer, by the kit's own contract. Conditions: those of each lemma. -/
namespace Go.Proofs
open Go.Shelf
theorem Tryz.join_none (a : Option Addr) (c : Nat) (sep : ByteArray) (w : World) :
    Calls Tryz.prog 193 #[.slice a 0 c, .string sep] w fun e w' => e = .returned (.string ⟨#[]⟩) ∧ w' = w := Any.strings_Join_none Tryz.lays156 Tryz.Builder_Extra_156 a c sep w
theorem Tryz.join_some (bk o c : Nat) (xs : List ByteArray) (sep : ByteArray) (w : World)
    (hcells : ∀ (j : Nat) x, xs[j]? = some x → w.cell? ⟨bk, o + j, none⟩ = some (.string x))
    (hbk : bk < w.heap.size) (hN : xs.length ≤ 140737488355328) (hcap : xs.length ≤ c)
    (hlen : (Lib.join (xs.map (·.data.toList)) sep.data.toList).length ≤ 140737488355328) :
    Calls Tryz.prog 193 #[.slice (some ⟨bk, o, none⟩) xs.length c, .string sep] w fun e w' => e = .returned (.string ⟨(Lib.join (xs.map (·.data.toList)) sep.data.toList).toArray⟩) ∧ Go.RowKit.Below w.heap.size w w' :=
  Any.strings_Join Tryz.lays156 Tryz.Builder_Extra_156 bk o c xs sep w hcells hbk hN hcap hlen
theorem Tryz.itoa (n : Int) (h0 : -9223372036854775808 ≤ n) (h1 : n ≤ 9223372036854775807) (w : World) (htab : Lib.TabIs Tryz.prog w "internal/strconv.uint64pow10" .u64 Lib.pow10Tab) :
    Calls Tryz.prog 264 #[.int .i64 n] w fun e w' => e = .returned (.string ⟨(Lib.itoa n).toArray⟩) ∧ ∃ k os, w' = Go.Sort.grow (w.drewN k) os := Any.strconv_Itoa Tryz.laysM171 n h0 h1 w htab
theorem Tryz.below_bytes (w : World) (e : TypeId) (s : ByteArray) : Go.RowKit.Below w.heap.size w (Lib.bytesWorld w e s) :=
  ⟨rfl, rfl, rfl, by rw [Lib.bytesWorld_size]; omega, fun k hk => Lib.bytesWorld_at_old w e s k hk⟩
theorem Tryz.atoi_ok (s : ByteArray) (hmax : s.size ≤ 281474976710656) (v : Int) (h : Lib.atoiAll s.data.toList = .ok v) (w : World) :
    Calls Tryz.prog 269 #[.string s] w fun e w' => e = .returned (.tuple #[.int .i64 v, .nilIface]) ∧ Go.RowKit.Below w.heap.size w w' :=
  (Any.strconv_Atoi_ok Tryz.laysC172 s (by omega) v h w).mono fun e w' ⟨h1, h2⟩ => ⟨h1, by
    rcases h2 with rfl | ⟨t, rfl⟩
    · exact Go.RowKit.Below.refl _ _
    · exact Tryz.below_bytes _ _ _⟩
theorem Tryz.atoi_syn (s : ByteArray) (hlim : s.size ≤ 281474976710656) (h : Lib.atoiAll s.data.toList = .syntax) (tp : TypeId) (p : Value) (w : World) (hvar : w.var? Tryz.prog "strconv.ErrSyntax" = some #[.iface tp p]) :
    Calls Tryz.prog 269 #[.string s] w fun e w' => ∃ t z, e = .returned (.tuple #[.int .i64 0, .iface t z]) ∧ Go.RowKit.Below w.heap.size w w' :=
  (Any.strconv_Atoi_syntax_var Tryz.laysC172 s hlim h tp p w hvar).mono fun e w' ⟨N, h1, _, _, h2⟩ => ⟨_, _, h1, h2⟩
theorem Tryz.atoi_rng (s : ByteArray) (hlim : s.size ≤ 281474976710656) (h : Lib.atoiAll s.data.toList = .range) (tp : TypeId) (p : Value) (w : World) (hvar : w.var? Tryz.prog "strconv.ErrRange" = some #[.iface tp p]) :
    Calls Tryz.prog 269 #[.string s] w fun e w' => ∃ t z, e = .returned (.tuple #[.int .i64 (Lib.atoiSat s.data.toList), .iface t z]) ∧ Go.RowKit.Below w.heap.size w w' :=
  (Any.strconv_Atoi_range_var Tryz.laysC172 s hlim h tp p w hvar).mono fun e w' ⟨N, h1, _, _, h2⟩ => ⟨_, _, h1, h2⟩
end Go.Proofs
/- What the library's functions answer, as the evaluator takes it. Conditions: those of each lemma. -/
namespace Go.Proofs.YtkpmachalipmpaaGreatDoor
open E
set_option linter.unusedSimpArgs false
set_option linter.unusedVariables false
set_option maxRecDepth 100000
/-- a list's texts -/
def strsOf : List (List T) → Option (List Str)
  | [] => some []
  | c :: r => match c with
    | [.str l] => (match strsOf r with | some ks => some (l :: ks) | none => none)
    | _ => none
theorem strsOf_strs : ∀ ks : List Str, strsOf (strs ks) = some ks
  | [] => rfl
  | k :: ks => by
    have := strsOf_strs ks
    simp only [strs] at this
    simp only [strs, List.map_cons, strsOf, this]
theorem strsOf_eq : ∀ {es : List (List T)} {ks : List Str}, strsOf es = some ks → es = strs ks
  | [], ks, h => by simp only [strsOf] at h; cases h; rfl
  | c :: r, ks, h => by
    simp only [strsOf] at h
    split at h
    · split at h
      · rename_i ks' hk; cases h; rw [strsOf_eq hk]; rfl
      · cases h
    · cases h
/-- what is shown by other means -/
def joinE : List V → Option V
  | [.t (.list 1 es), .t (.str sep)] => match strsOf es with
    | some ks => if ks.length ≤ 140737488355328 ∧ (Lib.join ks sep).length ≤ 140737488355328 then some (.t (.str (Lib.join ks sep))) else none
    | none => none
  | _ => none
def itoaE : List V → Option V
  | [.t (.int .i64 n)] => if -9223372036854775808 ≤ n ∧ n ≤ 9223372036854775807 then some (.t (.str (Lib.itoa n))) else none
  | _ => none
def atoiE : List V → Option V
  | [.t (.str s)] => if s.length ≤ 281474976710656 then (match Lib.atoiAll s with
    | .ok v => some (.tup [.t (.int .i64 v), .t .nili])
    | .syntax => some (.tup [.t (.int .i64 0), .t .nni])
    | .range => some (.tup [.t (.int .i64 (Lib.atoiSat s)), .t .nni])) else none
  | _ => none
def cutE : List V → Option V
  | [.t (.str s), .t (.str sep)] => if s.length < 4294967281 then some (.tup [.t (.str (Lib.cut s sep).1), .t (.str (Lib.cut s sep).2.1), .t (.bool (Lib.cut s sep).2.2)]) else none
  | _ => none
/-- the parts of a text -/
def splitS (s sep : Str) : List Str := (Lib.splitB ⟨sep.toArray⟩ 0 (Lib.countB ⟨s.toArray⟩ ⟨sep.toArray⟩) ⟨s.toArray⟩).map (·.data.toList)
def splitE : List V → Option V
  | [.t (.str s), .t (.str sep)] => if s.length < 4294967281 ∧ 1 ≤ sep.length then some (.t (.list 1 (strs (splitS s sep)))) else none
  | _ => none
/-- a list of texts as it lies in memory -/
theorem rt_strs {w : World} {F : Nat → Prop} {u : Value} {ks : List Str} (h : RT w F u (.list 1 (strs ks))) :
    ∃ a c, u = .slice a ks.length c ∧ ks.length ≤ c ∧ (0 < ks.length → ∃ b o, a = some ⟨b, o, none⟩ ∧ F b ∧ ∀ (j : Nat) x, (ks.map fun l => (⟨l.toArray⟩ : ByteArray))[j]? = some x → w.cell? ⟨b, o + j, none⟩ = some (.string x)) := by
  cases h with
  | list a n c sz es g hn hc h0 hz hr =>
    rw [strs_len] at hn
    subst hn
    refine ⟨a, c, rfl, hc, fun hp => ?_⟩
    obtain ⟨b, o, e1, e2, e3⟩ := h0 hp
    refine ⟨b, o, e1, e2, fun j x hj => ?_⟩
    have hjl : j < ks.length := by have := (List.getElem?_eq_some_iff.1 hj).1; simpa using this
    have h1 := e3 j 0 hjl (by omega)
    have h2 := hr j 0 [.str ks[j]] (.str ks[j]) (strs_get ks j hjl) rfl
    rw [show o + (j * 1 + 0) = o + j by omega] at h1
    rw [h1]
    generalize g j 0 = gv at h2
    cases h2 with
    | str s _ hs =>
      simp [hjl] at hj
      rw [← hj, ← hs]
theorem nxt_below {w w' : World} {F : Nat → Prop} (h : Go.RowKit.Below w.heap.size w w') (hF : ∀ b, F b → b < w.heap.size) : (∀ b, F b → b < w'.heap.size) ∧ Nxt (own fun b => w.heap.size ≤ b) w F noRows w' F noRows :=
  ⟨fun b hb => Nat.lt_of_lt_of_le (hF b hb) h.size, ⟨h.os, h.tape, h.output, h.size, fun b hb _ => h.block b hb, fun b hb => h.block b (hF b hb), fun _ hb => hb, fun _ hb => .inl hb, Ext.refl _, fun _ _ => rfl⟩⟩
/-- a function is as it is told -/
def ExtAt (W0 : World) (g : Nat) (e : List V → Option V) : Prop := ∀ args v, e args = some v →
    (∃ fn, Tryz.prog.funcs[g]? = some fn ∧ (fn.name == "runtime.NumGoroutine") = false ∧ fn.body.isNone = false) ∧
    ∀ (w : World) (F : Nat → Prop) (us : Array Value), Base W0 w F → (∀ b, F b → b < w.heap.size) → RVs w F noRows us.toList args →
      Calls Tryz.prog g us w fun e w' => ∃ u F', e = .returned u ∧ RV w' F' noRows u v ∧ (∀ b, F' b → b < w'.heap.size) ∧ Nxt (own fun b => w.heap.size ≤ b) w F noRows w' F' noRows
theorem join_at (W0 : World) : ExtAt W0 193 joinE := by
  intro args v hv'
  unfold joinE at hv'
  split at hv'
  · rename_i es sep
    split at hv'
    · rename_i ks hks
      split at hv'
      · rename_i hl
        cases hv'
        obtain rfl := strsOf_eq hks
        refine ⟨⟨Tryz.f193, Tryz.func193, by kernel_rfl, by kernel_rfl⟩, fun w F us hB hF hu => ?_⟩
        obtain ⟨us⟩ := us
        change RVs w F noRows us _ at hu
        cases hu with
        | cons h1 h2 =>
        cases h2 with
        | cons h2 h3 =>
        cases h3
        obtain ⟨s, rfl, hs⟩ := rv_str h2
        obtain ⟨a, c, rfl, hc, h0⟩ := rt_strs (rv_t h1)
        have hfin : ∀ (e : Ending) (w' : World), (e = .returned (.string ⟨(Lib.join ks sep).toArray⟩) ∧ Go.RowKit.Below w.heap.size w w') → ∃ u F', e = .returned u ∧ RV w' F' noRows u (.t (.str (Lib.join ks sep))) ∧ (∀ b, F' b → b < w'.heap.size) ∧ Nxt (own fun b => w.heap.size ≤ b) w F noRows w' F' noRows := by
          rintro e w' ⟨rfl, hb⟩
          obtain ⟨k1, k2⟩ := nxt_below hb hF
          exact ⟨_, F, rfl, .t _ _ (.str _ _ (by simp)), k1, k2⟩
        by_cases hk : ks.length = 0
        · have hk' : ks = [] := List.eq_nil_of_length_eq_zero hk
          subst hk'
          refine (Tryz.join_none a c s w).mono fun e w' ⟨h1, h2⟩ => hfin e w' ⟨?_, ?_⟩
          · rw [h1]; rfl
          · rw [h2]; exact Go.RowKit.Below.refl _ _
        · obtain ⟨b, o, rfl, hb, hcell⟩ := h0 (by omega)
          have hmap : (ks.map fun l => (⟨l.toArray⟩ : ByteArray)).map (·.data.toList) = ks := by
            rw [List.map_map]
            have : ((fun x : ByteArray => x.data.toList) ∘ fun l : List UInt8 => (⟨l.toArray⟩ : ByteArray)) = id := by funext l; simp
            rw [this]; simp
          have := Tryz.join_some b o c (ks.map fun l => (⟨l.toArray⟩ : ByteArray)) s w hcell (hF b hb) (by simpa using hl.1) (by simpa using hc) (by rw [hmap, hs]; exact hl.2)
          rw [hmap, hs, List.length_map] at this
          exact this.mono fun e w' h => hfin e w' h
      · cases hv'
    · cases hv'
  · cases hv'
theorem below_grow (w : World) (k : Nat) (os : Array Obj) : Go.RowKit.Below w.heap.size w (Go.Sort.grow (w.drewN k) os) :=
  ⟨rfl, rfl, rfl, by simp [Go.Sort.grow], fun b hb => by simp [Go.Sort.grow, Array.getElem?_append_left hb]⟩
theorem tab_keep {W0 w : World} {F : Nat → Prop} {n : String} {k : IntKind} {zs : List Int} (hB : Base W0 w F) (h : Lib.TabIs Tryz.prog W0 n k zs) : Lib.TabIs Tryz.prog w n k zs := by
  unfold Lib.TabIs World.var? at *
  cases hg : Tryz.prog.globalNamed n with
  | none => simp [hg] at h
  | some g =>
    simp only [hg, Option.bind_some] at h ⊢
    have hlt : g < W0.heap.size := by
      refine Nat.lt_of_not_le fun hc => ?_
      rw [Array.getElem?_eq_none hc] at h
      cases h
    rw [hB.heap g hlt]
    exact h
theorem itoa_at (W0 : World) (hT : Lib.TabIs Tryz.prog W0 "internal/strconv.uint64pow10" .u64 Lib.pow10Tab) : ExtAt W0 264 itoaE := by
  intro args v hv'
  unfold itoaE at hv'
  split at hv'
  · rename_i n
    split at hv'
    · rename_i hn
      cases hv'
      refine ⟨⟨Tryz.f264, Tryz.func264, by kernel_rfl, by kernel_rfl⟩, fun w F us hB hF hu => ?_⟩
      obtain ⟨us⟩ := us
      change RVs w F noRows us _ at hu
      cases hu with
      | cons h1 h2 =>
      cases h2
      cases h1 with
      | t _ _ h1 =>
      cases h1
      refine (Tryz.itoa n hn.1 hn.2 w (tab_keep hB hT)).mono fun e w' h => ?_
      obtain ⟨rfl, k, os, rfl⟩ := h
      obtain ⟨k1, k2⟩ := nxt_below (below_grow w k os) hF
      exact ⟨_, F, rfl, .t _ _ (.str _ _ (by simp)), k1, k2⟩
    · cases hv'
  · cases hv'
theorem var_keep {W0 w : World} {F : Nat → Prop} {n : String} {cs : Array Value} (hB : Base W0 w F) (h : W0.var? Tryz.prog n = some cs) : w.var? Tryz.prog n = some cs := by
  unfold World.var? at *
  cases hg : Tryz.prog.globalNamed n with
  | none => simp [hg] at h
  | some g =>
    simp only [hg, Option.bind_some] at h ⊢
    have hlt : g < W0.heap.size := by
      refine Nat.lt_of_not_le fun hc => ?_
      rw [Array.getElem?_eq_none hc] at h
      cases h
    rw [hB.heap g hlt]
    exact h
theorem rv_two {w : World} {F : Nat → Prop} {ρ : Locs} {u1 u2 : Value} {x1 x2 : T} (h1 : RT w F u1 x1) (h2 : RT w F u2 x2) : RV w F ρ (.tuple #[u1, u2]) (.tup [.t x1, .t x2]) := by
  refine .tup _ _ (fun j => if j = 0 then u1 else u2) rfl (fun j hj => ?_) fun j x hj => ?_
  · match j, hj with
    | 0, _ => rfl
    | 1, _ => rfl
  · match j, hj with
    | 0, hj => cases hj; exact .t _ _ h1
    | 1, hj => cases hj; exact .t _ _ h2
    | j + 2, hj => simp at hj
theorem atoi_at (W0 : World) (hS : ∃ tp p, W0.var? Tryz.prog "strconv.ErrSyntax" = some #[.iface tp p]) (hR : ∃ tp p, W0.var? Tryz.prog "strconv.ErrRange" = some #[.iface tp p]) : ExtAt W0 269 atoiE := by
  intro args v hv'
  unfold atoiE at hv'
  split at hv'
  · rename_i l
    split at hv'
    · rename_i hl
      refine ⟨⟨Tryz.f269, Tryz.func269, by kernel_rfl, by kernel_rfl⟩, fun w F us hB hF hu => ?_⟩
      obtain ⟨us⟩ := us
      change RVs w F noRows us _ at hu
      cases hu with
      | cons h1 h2 =>
      cases h2
      obtain ⟨s, rfl, hs⟩ := rv_str h1
      have hsz : s.size ≤ 281474976710656 := by
        have : s.data.toList.length = s.size := by simp
        rw [hs] at this
        omega
      obtain ⟨tS, pS, hS⟩ := hS
      obtain ⟨tR, pR, hR⟩ := hR
      split at hv'
      · rename_i n hn
        cases hv'
        refine (Tryz.atoi_ok s hsz n (by rw [hs]; exact hn) w).mono fun e w' h => ?_
        obtain ⟨rfl, hb⟩ := h
        obtain ⟨k1, k2⟩ := nxt_below hb hF
        exact ⟨_, F, rfl, rv_two (.int _ _) .nili, k1, k2⟩
      · rename_i hn
        cases hv'
        refine (Tryz.atoi_syn s hsz (by rw [hs]; exact hn) tS pS w (var_keep hB hS)).mono fun e w' h => ?_
        obtain ⟨t, z, rfl, hb⟩ := h
        obtain ⟨k1, k2⟩ := nxt_below hb hF
        exact ⟨_, F, rfl, rv_two (.int _ _) (.nni t z), k1, k2⟩
      · rename_i hn
        cases hv'
        refine (Tryz.atoi_rng s hsz (by rw [hs]; exact hn) tR pR w (var_keep hB hR)).mono fun e w' h => ?_
        obtain ⟨t, z, rfl, hb⟩ := h
        obtain ⟨k1, k2⟩ := nxt_below hb hF
        rw [hs]
        exact ⟨_, F, rfl, rv_two (.int _ _) (.nni t z), k1, k2⟩
    · cases hv'
  · cases hv'
theorem cell_keep {W0 w : World} {F : Nat → Prop} {a : Addr} {v : Value} (hB : Base W0 w F) (h : W0.cell? a = some v) : w.cell? a = some v := by
  have hlt : a.block < W0.heap.size := by
    refine Nat.lt_of_not_le fun hc => ?_
    simp [World.cell?, Array.getElem?_eq_none hc] at h
  unfold World.cell? at h ⊢
  rw [hB.heap _ hlt]
  exact h
theorem below_drewN (w : World) (n : Nat) : Go.RowKit.Below w.heap.size w (w.drewN n) := ⟨rfl, rfl, rfl, Nat.le_refl _, fun _ _ => rfl⟩
theorem rv_three {w : World} {F : Nat → Prop} {ρ : Locs} {u1 u2 u3 : Value} {x1 x2 x3 : T} (h1 : RT w F u1 x1) (h2 : RT w F u2 x2) (h3 : RT w F u3 x3) : RV w F ρ (.tuple #[u1, u2, u3]) (.tup [.t x1, .t x2, .t x3]) := by
  refine .tup _ _ (fun j => if j = 0 then u1 else if j = 1 then u2 else u3) rfl (fun j hj => ?_) fun j x hj => ?_
  · match j, hj with
    | 0, _ => rfl
    | 1, _ => rfl
    | 2, _ => rfl
  · match j, hj with
    | 0, hj => cases hj; exact .t _ _ h1
    | 1, hj => cases hj; exact .t _ _ h2
    | 2, hj => cases hj; exact .t _ _ h3
    | j + 3, hj => simp at hj
theorem cut_at (W0 : World) (hM : ∃ m, W0.cell? ⟨Tryz.laysM145_ren.g 1, 0, none⟩ = some (.int .i64 m)) : ExtAt W0 83 cutE := by
  intro args v hv'
  unfold cutE at hv'
  split at hv'
  · rename_i l lsep
    split at hv'
    · rename_i hl
      cases hv'
      refine ⟨⟨Tryz.f83, Tryz.func83, by kernel_rfl, by kernel_rfl⟩, fun w F us hB hF hu => ?_⟩
      obtain ⟨us⟩ := us
      change RVs w F noRows us _ at hu
      cases hu with
      | cons h1 h2 =>
      cases h2 with
      | cons h2 h3 =>
      cases h3
      obtain ⟨s, rfl, hs⟩ := rv_str h1
      obtain ⟨sep, rfl, hsep⟩ := rv_str h2
      have hsz : s.size < 4294967281 := by
        have : s.data.toList.length = s.size := by simp
        rw [hs] at this
        omega
      obtain ⟨m, hM⟩ := hM
      refine (Any.strings_Cut { Tryz.laysM145 with } s sep m w hsz (cell_keep hB hM)).mono fun e w' h => ?_
      rw [hs, hsep] at h
      obtain ⟨rfl, n, rfl⟩ := h
      obtain ⟨k1, k2⟩ := nxt_below (below_drewN w n) hF
      exact ⟨_, F, rfl, rv_three (.str _ _ (by simp)) (.str _ _ (by simp)) (.bool _), k1, k2⟩
    · cases hv'
  · cases hv'
end Go.Proofs.YtkpmachalipmpaaGreatDoor
/- What strings.Split answers, as the evaluator takes it. Conditions: those of each lemma. -/
namespace Go.Proofs.YtkpmachalipmpaaGreatDoor
open E
set_option linter.unusedSimpArgs false
set_option linter.unusedVariables false
set_option maxRecDepth 100000
/-- a row of texts laid behind all -/
theorem laid_strs (w : World) (F : Nat → Prop) (hF : ∀ b, F b → b < w.heap.size) (t : TypeId) (ps : List ByteArray) (n : Nat) (hn : ps.length = n) :
    RT (w.alloc (.cells (ps.map Value.string).toArray t)) (fun b => F b ∨ b = w.heap.size) (.slice (some ⟨w.heap.size, 0, none⟩) n n) (.list 1 (strs (ps.map (·.data.toList)))) := by
  have hcell : ∀ j, j < ps.length → (w.alloc (.cells (ps.map Value.string).toArray t)).cell? ⟨w.heap.size, j, none⟩ = some (.string (ps.getD j ByteArray.empty)) := fun j hj => by
    have ha : (w.alloc (.cells (ps.map Value.string).toArray t)).heap = w.heap.push (.cells (ps.map Value.string).toArray t) := rfl
    unfold World.cell?
    rw [ha]
    simp [hj, List.getD]
  generalize w.alloc (.cells (ps.map Value.string).toArray t) = w1 at *
  refine RT.list (F := fun b => F b ∨ b = w.heap.size) (some ⟨w.heap.size, 0, none⟩) n n 1 (strs (ps.map (·.data.toList))) (fun i _ => .string (ps.getD i ByteArray.empty)) (by rw [strs_len, List.length_map]; exact hn) (Nat.le_refl _) (fun _ => ⟨w.heap.size, 0, rfl, Or.inr rfl, fun i j hi hj => ?_⟩) (fun e he => ?_) fun i j cs x hi hj => ?_
  · obtain rfl : j = 0 := by omega
    rw [show 0 + (i * 1 + 0) = i by omega]
    exact hcell i (by omega)
  · simp only [strs, List.mem_map] at he
    obtain ⟨a, _, rfl⟩ := he
    rfl
  · simp only [strs, List.map_map, List.getElem?_map, Option.map_eq_some_iff] at hi
    obtain ⟨a, ha, rfl⟩ := hi
    match j, hj with
    | 0, hj =>
      simp [Function.comp] at hj
      subst hj
      have : ps.getD i ByteArray.empty = a := by simp [List.getD, ha]
      rw [this]
      exact .str _ _ rfl
    | j + 1, hj => simp at hj
theorem nxt_alloc (w : World) (F : Nat → Prop) (hF : ∀ b, F b → b < w.heap.size) (o : Obj) : (∀ b, (F b ∨ b = w.heap.size) → b < (w.alloc o).heap.size) ∧ Nxt (own fun b => w.heap.size ≤ b) w F noRows (w.alloc o) (fun b => F b ∨ b = w.heap.size) noRows := by
  have ha : (w.alloc o).heap = w.heap.push o := rfl
  have hsz : (w.alloc o).heap.size = w.heap.size + 1 := by rw [ha, Array.size_push]
  have hold : ∀ b, b < w.heap.size → (w.alloc o).heap[b]? = w.heap[b]? := fun b hb => by
    rw [ha, Array.getElem?_push_lt hb, Array.getElem?_eq_getElem hb]
  refine ⟨fun b hb => ?_, rfl, rfl, rfl, by omega, fun b hb _ => hold b hb, fun b hb => hold b (hF b hb), fun _ hb => .inl hb, fun b hb => ?_, Ext.refl _, fun _ _ => rfl⟩
  · rcases hb with hb | rfl
    · have := hF b hb; omega
    · omega
  · rcases hb with hb | rfl
    · exact .inl hb
    · exact .inr (Nat.le_refl _)
theorem split_at (W0 : World) (hM : ∃ m, W0.cell? ⟨Tryz.laysM146_ren.g 1, 0, none⟩ = some (.int .i64 m)) : ExtAt W0 181 splitE := by
  intro args v hv'
  unfold splitE at hv'
  split at hv'
  · rename_i l lsep
    split at hv'
    · rename_i hl
      cases hv'
      refine ⟨⟨Tryz.f181, Tryz.func181, by kernel_rfl, by kernel_rfl⟩, fun w F us hB hF hu => ?_⟩
      obtain ⟨us⟩ := us
      change RVs w F noRows us _ at hu
      cases hu with
      | cons h1 h2 =>
      cases h2 with
      | cons h2 h3 =>
      cases h3
      obtain ⟨s, rfl, hs⟩ := rv_str h1
      obtain ⟨sep, rfl, hsep⟩ := rv_str h2
      have hsz : s.size < 4294967281 := by
        have : s.data.toList.length = s.size := by simp
        rw [hs] at this
        omega
      have hsp : 1 ≤ sep.size := by
        have : sep.data.toList.length = sep.size := by simp
        rw [hsep] at this
        omega
      obtain ⟨m, hM⟩ := hM
      refine (Any.strings_Split { Tryz.laysM146 with } Tryz.laysM146.i9 s sep m w hsz (cell_keep hB hM) hsp).mono fun e w' h => ?_
      have es : (⟨l.toArray⟩ : ByteArray) = s := by rw [← hs]
      have esep : (⟨lsep.toArray⟩ : ByteArray) = sep := by rw [← hsep]
      have hlen := Lib.splitB_all sep hsp 0 (Lib.countB s sep) s rfl
      unfold splitS
      rw [es, esep]
      obtain ⟨rfl, rfl⟩ := h
      generalize Lib.splitB sep 0 (Lib.countB s sep) s = ps at *
      generalize Lib.countB s sep = n at *
      obtain ⟨k1, k2⟩ := nxt_alloc w F hF (.cells (ps.map Value.string).toArray (Tryz.laysM146_ren.t 9))
      exact ⟨_, fun b => F b ∨ b = w.heap.size, rfl, .t _ _ (laid_strs w F hF _ ps (n + 1) hlen), k1, k2⟩
    · cases hv'
  · cases hv'
end Go.Proofs.YtkpmachalipmpaaGreatDoor
/- Which slots the loops keep: tables written by a program of mine (live.py). Conditions: none. -/
namespace Go.Proofs.YtkpmachalipmpaaGreatDoor
set_option maxRecDepth 100000
def look3 : List (Nat × Nat × List Nat) → Nat → Nat → List Nat
  | [], _, _ => []
  | (f', p', l) :: r, f, p => if f = f' ∧ p = p' then l else look3 r f p
def liveTab : List (Nat × Nat × List Nat) := [
  (10, 16378, [3, 5, 8]),
  (10, 2096422, [3, 5, 8, 9, 10]),
  (11, 1018, [3, 4, 5, 6]),
  (11, 2042, [4, 5, 7]),
  (11, 522830, [4, 5, 7, 8, 9]),
  (33, 506, [4, 5, 6, 7, 8]),
  (33, 2042, [4, 5, 6, 7, 9]),
  (37, 58, [2, 3, 5]),
  (43, 58, [0, 1, 4, 5, 6]),
  (45, 58, [1, 4, 5]),
  (47, 122, [4, 25, 26, 27]),
  (47, 501370, [4, 6, 7, 8, 25, 26, 27, 58, 59, 60]),
  (51, 26, [1, 4]),
  (55, 506, [2, 4, 5, 6, 7, 8]),
  (56, 60, [2, 5, 6]),
  (59, 58, [0, 1, 5]),
  (60, 60, [2, 5, 6]),
  (61, 58, [2, 3, 5]),
  (63, 26, [0, 3]),
  (64, 26, [1, 3]),
  (65, 26, [1, 6, 7, 8]),
  (67, 26, [0, 1, 5]),
  (69, 58, [2, 3, 4, 5, 14, 15, 16]),
  (70, 122, [2, 3, 4, 5, 6]),
  (70, 250, [2, 3, 4, 5, 7]),
  (70, 512634, [2, 3, 4, 5, 7, 8, 9, 10, 11]),
  (72, 122, [0, 1, 5]),
  (73, 122, [0, 1, 5]),
  (74, 1018, [1, 2, 10, 11, 13, 14]),
  (75, 58, [0, 3, 4]),
  (76, 58, [0, 3, 4]),
  (77, 250, [1, 6, 9, 10, 11]),
  (78, 58, [0, 1, 5]),
  (79, 58, [0, 1, 5]),
  (81, 122, [4, 5]),
  (85, 250, [4, 5, 6]),
  (86, 58, [0, 3, 4]),
  (86, 59706, [0, 3, 4, 5, 6]),
  (87, 26, [0, 3]),
  (88, 122, [4, 15, 16, 17]),
  (89, 58, [0, 3, 10, 11, 12]),
  (91, 120822, [2, 3, 4, 5]),
  (91, 966638, [2, 3, 6, 7]),
  (92, 58, [0, 3, 4]),
  (94, 58, [1, 2, 3, 4]),
  (95, 1018, [1, 2, 5, 6, 7, 41, 42, 43]),
  (98, 124, [0, 2, 6]),
  (99, 2, [0]),
  (100, 122, [0, 2, 3, 4]),
  (101, 2, [0]),
  (102, 26, [0, 1, 7, 8]),
  (103, 122, [1, 2, 3, 12, 13, 14]),
  (104, 26, [1, 2, 5]),
  (105, 30198, [0, 1, 4, 5, 6, 7]),
  (107, 506, [1, 2, 3, 94, 95, 96]),
  (107, 1018, [1, 2, 109, 110, 111]),
  (108, 26, [1, 2, 5]),
  (109, 58, [1, 3, 4]),
  (110, 58, [0, 1, 12, 13]),
  (111, 58, [1, 2, 15, 16, 17]),
  (112, 1018, [1, 2, 6, 7, 8]),
  (113, 122, [0, 1, 5]),
  (114, 26, [1, 3]),
  (115, 26, [1, 2, 6]),
  (116, 58, [1, 2, 4, 6, 7]),
  (117, 58, [0, 3, 4]),
  (118, 58, [2, 3, 7, 8, 9]),
  (123, 58, [0, 3, 7, 8]),
  (125, 58, [0, 1, 5]),
  (126, 26, [1, 3]),
  (127, 58, [0, 3, 4]),
  (127, 29854, [0, 3, 4, 5]),
  (128, 122, [1, 3, 4]),
  (132, 122, [3, 13, 14, 15]),
  (132, 250682, [3, 6, 13, 14, 15, 27, 28, 29]),
  (133, 1018, [3, 4, 6, 24, 25, 26]),
  (138, 58, [2, 3, 11, 12, 13]),
  (139, 122, [0, 1, 5, 6]),
  (141, 26, [1, 2, 5]),
  (142, 26, [0, 1, 5]),
  (143, 28, [0, 1, 5]),
  (144, 58, [2, 3, 5]),
  (145, 58, [1, 2, 3, 4]),
  (146, 58, [1, 2, 4, 5, 6]),
  (146, 122, [1, 2, 4, 5, 7]),
  (146, 125242, [1, 2, 4, 5, 7, 8, 9]),
  (147, 26, [1, 3]),
  (148, 26, [1, 2, 5]),
  (151, 26, [1, 2, 7, 8, 9]),
  (152, 26, [0, 1, 7, 8]),
  (154, 58, [0, 4, 5, 6]),
  (154, 1962, [4, 5, 7, 8]),
  (158, 28, [2, 3, 4, 5]),
  (159, 58, [1, 2, 5, 6]),
  (161, 58, [0, 3, 4]),
  (161, 29852, [0, 3, 4, 5, 7]),
  (162, 58, [2, 3, 5, 6]),
  (162, 250, [2, 3, 7]),
  (163, 26, [0, 1, 2, 7]),
  (164, 58, [1, 5, 10, 11, 12]),
  (165, 58, [3, 7, 8, 9]),
  (176, 122, [0, 3, 4, 5]),
  (178, 122, [0, 1, 5, 6, 7]),
  (183, 26, [0, 5, 6, 7]),
  (185, 26, [0, 1, 7, 8]),
  (192, 58, [0, 3, 7, 8]),
  (193, 250, [0, 1, 5, 39, 40, 41]),
  (193, 4090, [1, 8, 63, 64, 65]),
  (195, 30, [0, 1, 2, 6, 8]),
  (201, 122, [0, 1, 2, 6, 7, 8]),
  (202, 28, [0, 2, 3]),
  (207, 124, [0, 3, 4]),
  (208, 58, [0, 3, 4]),
  (209, 58, [0, 3, 4]),
  (213, 26, [0, 1, 7, 8]),
  (215, 26, [0, 3]),
  (216, 506, [1, 3, 4]),
  (218, 26, [0, 7, 8, 9]),
  (218, 13518, [0, 4, 7, 8, 9, 41, 42, 43]),
  (219, 122, [3, 30, 31, 32]),
  (222, 58, [2, 5, 9, 10, 11]),
  (223, 26, [1, 8, 9, 10]),
  (224, 122, [0, 2, 3, 4, 5]),
  (224, 250, [0, 2, 3, 7]),
  (224, 32034, [0, 2, 3, 7, 8]),
  (228, 14, [0, 1, 2, 3, 8, 9]),
  (234, 26, [0, 5, 6, 7]),
  (235, 122, [0, 3, 4, 5]),
  (236, 58, [0, 3]),
  (236, 59690, [0, 3, 4, 5]),
  (240, 26, [0, 1, 5]),
  (241, 58, [0, 3, 4]),
  (242, 122, [1, 3, 4]),
  (249, 26, [2, 3, 24, 25, 26]),
  (249, 122, [2, 3, 56, 57]),
  (250, 26, [0, 1, 7, 8]),
  (251, 122, [0, 5, 23, 24, 25]),
  (252, 2044, [0, 1, 5, 6, 7, 8, 9, 10]),
  (255, 122, [2, 4, 5, 6]),
  (258, 2044, [0, 1, 2, 3, 9, 10]),
  (262, 250, [2, 4, 5, 16, 17, 18]),
  (268, 122, [0, 1, 6, 7]),
  (270, 124, [0, 1, 6, 7]),
  (272, 28, [0, 1, 5]),
  (272, 232174, [0, 1, 5, 6, 7, 8]),
  (272, 3714990, [0, 1, 5, 9, 10, 11]),
  (273, 26, [0, 3]),
  (274, 58, [0, 3, 4]),
  (275, 122, [0, 1, 5]),
  (277, 58, [0, 3, 4]),
  (278, 58, [0, 1, 5]),
  (279, 26, [1, 3]),
  (279, 6734, [1, 3, 4, 5]),
  (280, 122, [2, 3, 4, 5, 6, 7]),
  (281, 26, [1, 3]),
  (282, 58, [1, 2, 4, 5, 6]),
  (286, 122, [5, 6, 7, 16, 17, 18]),
  (289, 6, [0, 1, 2, 6]),
  (289, 402, [0, 1, 2, 6, 7]),
  (290, 122, [0, 6, 7, 8, 9]),
  (290, 126, [0, 6, 7, 10]),
  (291, 238, [0, 1, 6, 7, 8, 9]),
  (293, 14, [0, 6, 7]),
  (294, 58, [0, 1, 2, 7, 8]),
  (294, 3728, [0, 1, 2, 7, 8]),
  (294, 477674, [0, 1, 2, 7, 8, 9]),
  (294, 477690, [0, 1, 2, 7, 8, 10]),
  (296, 60, [0, 1, 9, 10]),
  (296, 960, [0, 1, 9, 10]),
  (296, 1924, [0, 1, 9, 10]),
  (297, 60, [0, 1, 10, 11]),
  (297, 124, [0, 1, 10, 11]),
  (297, 4092, [0, 1, 10, 11]),
  (297, 65472, [0, 1, 10, 11]),
  (297, 130948, [0, 1, 10, 11]),
  (301, 28, [0, 1, 2, 6, 7, 8]),
  (301, 62, [0, 1, 2, 6]),
  (301, 3988, [0, 1, 2, 6, 7, 8]),
  (303, 26, [1, 3]),
  (305, 58, [1, 5, 6, 7]),
  (306, 14, [0, 1, 2, 3, 4, 10, 11]),
  (313, 250, [0, 1, 5, 6, 7, 8, 9]),
  (313, 1018, [0, 1, 5, 6, 7, 8, 10]),
  (315, 26, [0, 3]),
  (316, 250, [0, 1, 6, 7]),
  (317, 62, [0, 1, 5]),
  (322, 58, [0, 4, 5]),
  (323, 3770, [5, 6, 47, 48, 49]),
  (329, 26, [0, 3]),
  (331, 122, [2, 5, 6, 7, 8]),
  (333, 26, [0, 1, 7, 8]),
  (335, 6, [0, 2, 3, 8]),
  (341, 6, [0, 1, 2, 3, 8]),
  (341, 402, [0, 1, 2, 3, 8, 9]),
  (342, 172, [0, 1, 4, 10, 11]),
  (342, 428, [0, 2, 4, 14, 15]),
  (342, 698, [0, 10, 13]),
  (342, 1020, [0, 1, 2, 3, 4, 18, 19, 20, 21, 22]),
  (342, 1722, [0, 14, 17]),
  (344, 26, [0, 3]),
  (346, 6, [0, 1, 2, 3, 8]),
  (346, 402, [0, 1, 2, 3, 8, 9]),
  (347, 122, [0, 3, 8, 9, 10, 11]),
  (347, 126, [0, 3, 8, 9, 12]),
  (348, 238, [0, 1, 8, 9, 10, 11]),
  (350, 14, [0, 8, 9]),
  (351, 58, [0, 1, 2, 3, 9, 10]),
  (351, 3728, [0, 1, 2, 3, 9, 10]),
  (351, 477674, [0, 1, 2, 3, 9, 10, 11]),
  (351, 477690, [0, 1, 2, 3, 9, 10, 12]),
  (352, 60, [0, 1, 4, 11, 12]),
  (352, 960, [0, 1, 4, 11, 12]),
  (352, 1924, [0, 1, 4, 11, 12]),
  (353, 60, [0, 1, 4, 12, 13]),
  (353, 124, [0, 1, 4, 12, 13]),
  (353, 4092, [0, 1, 4, 12, 13]),
  (353, 65472, [0, 1, 4, 12, 13]),
  (353, 130948, [0, 1, 4, 12, 13]),
  (354, 26, [1, 13, 14, 15]),
  (354, 58, [1, 24, 25, 26]),
  (358, 58, [0, 4, 5]),
  (358, 250, [4, 6, 7, 8]),
  (361, 26, [2, 4]),
  (374, 26, [0, 4]),
  (377, 28, [0, 2, 4, 10, 11]),
  (379, 26, [0, 3]),
  (380, 6, [0, 2, 3, 4, 10]),
  (385, 12, [0, 1]),
  (386, 26, [0, 2, 4]),
  (387, 12, [0, 1]),
  (388, 12, [0, 1]),
  (392, 12, [0, 1, 4]),
  (393, 4060, [0, 1, 3, 4, 10, 11, 12, 13, 17]),
  (393, 16220, [0, 1, 3, 4, 10, 11, 12, 13, 14, 15, 16]),
  (394, 32762, [1, 8, 9, 10, 11, 12, 13, 99, 100, 101]),
  (397, 58, [0, 1, 6, 7]),
  (398, 26, [0, 1, 5]),
  (399, 506, [0, 1, 5, 6, 7, 8, 9, 10]),
  (399, 2042, [0, 1, 5, 6, 7, 9, 11]),
  (400, 6, [0, 1, 2, 3, 10]),
  (409, 508, [0, 3, 4, 5]),
  (410, 58, [0, 4, 5]),
  (410, 250, [4, 6, 7, 8]),
  (411, 882, [175]),
  (411, 57276, [0, 7, 8, 9]),
  (411, 14662730, [0, 7, 8, 9, 12]),
  (411, 14663598, [0, 7, 8, 9, 14, 15]),
  (411, 7507762322, [0, 7, 8, 9, 14, 15, 16])]
def outsTab : List (Nat × Nat × List Nat) := [
  (10, 16378, [2, 3, 5]),
  (10, 2096422, [2, 3, 5, 8]),
  (11, 1018, [2, 4, 5]),
  (11, 2042, [2]),
  (11, 522830, [2, 4, 5, 7]),
  (33, 506, [4, 5, 6]),
  (33, 2042, [5, 6]),
  (37, 58, [4]),
  (43, 58, [4, 5]),
  (45, 58, [1, 4]),
  (47, 122, [2, 3, 4]),
  (47, 501370, [4, 6, 7, 8, 25, 26, 27]),
  (51, 26, [1, 2, 3]),
  (55, 506, [2, 5, 6]),
  (56, 60, [5]),
  (59, 58, [4]),
  (60, 60, [5]),
  (61, 58, [4]),
  (63, 26, [2]),
  (64, 26, [1, 2]),
  (65, 26, [1, 2]),
  (67, 26, [4]),
  (69, 58, [2, 3, 4, 5]),
  (70, 122, [2, 3, 4, 5]),
  (70, 250, [2, 4, 5]),
  (70, 512634, [2, 3, 4, 5, 7, 8, 9, 10]),
  (72, 122, [1, 4]),
  (73, 122, [1, 4]),
  (74, 1018, [10]),
  (75, 58, [3]),
  (76, 58, [3]),
  (77, 250, [8]),
  (78, 58, [4]),
  (79, 58, [4]),
  (81, 122, [2]),
  (85, 250, [2, 3, 4]),
  (86, 58, [0, 2]),
  (86, 59706, [0, 2, 3, 4, 5]),
  (87, 26, [0, 2]),
  (88, 122, [2, 3, 4]),
  (89, 58, [0, 2]),
  (91, 120822, [2, 3]),
  (91, 966638, [2, 3]),
  (92, 58, [0, 3]),
  (94, 58, [2, 3]),
  (95, 1018, [1, 5, 6, 7]),
  (98, 124, [0, 2, 6]),
  (99, 2, []),
  (100, 122, [0, 2]),
  (101, 2, []),
  (102, 26, [4]),
  (103, 122, [1, 2, 3]),
  (104, 26, [4]),
  (105, 30198, [4, 5]),
  (107, 506, [1, 2, 3, 6]),
  (107, 1018, [6]),
  (108, 26, [1, 2, 4]),
  (109, 58, [3]),
  (110, 58, [4]),
  (111, 58, [6]),
  (112, 1018, [1, 6, 7]),
  (113, 122, [1, 4]),
  (114, 26, [1, 2]),
  (115, 26, [2, 4, 5]),
  (116, 58, [4, 5, 6]),
  (117, 58, [3]),
  (118, 58, [2, 3]),
  (123, 58, [3]),
  (125, 58, [4]),
  (126, 26, [1, 2]),
  (127, 58, [2, 3]),
  (127, 29854, [0, 3, 4]),
  (128, 122, [3]),
  (132, 122, [3]),
  (132, 250682, [3, 6, 13, 14, 15]),
  (133, 1018, [6]),
  (138, 58, [2, 3]),
  (139, 122, [0, 5]),
  (141, 26, [4]),
  (142, 26, [4]),
  (143, 28, [0, 1, 5]),
  (144, 58, [4]),
  (145, 58, [2, 3]),
  (146, 58, [1, 2, 4, 5]),
  (146, 122, [4, 5]),
  (146, 125242, [1, 2, 4, 5, 7, 8]),
  (147, 26, [1, 2]),
  (148, 26, [4]),
  (151, 26, [4]),
  (152, 26, [4]),
  (154, 58, [0, 4, 5]),
  (154, 1962, [4, 5, 7]),
  (158, 28, [2, 3, 4, 5]),
  (159, 58, [5]),
  (161, 58, [3]),
  (161, 29852, [0, 3, 4, 7]),
  (162, 58, [2, 3, 4]),
  (162, 250, [2, 3, 4]),
  (163, 26, [6]),
  (164, 58, [5]),
  (165, 58, [3]),
  (176, 122, [0, 3, 4]),
  (178, 122, [0, 5, 6]),
  (183, 26, [0, 2]),
  (185, 26, [4]),
  (192, 58, [3]),
  (193, 250, [0, 1, 5]),
  (193, 4090, [8]),
  (195, 30, [6, 7]),
  (201, 122, [0, 2, 6, 7]),
  (202, 28, [0, 2, 3]),
  (207, 124, [0, 3]),
  (208, 58, [3]),
  (209, 58, [3]),
  (213, 26, [4]),
  (215, 26, [0, 2]),
  (216, 506, [3]),
  (218, 26, [0, 2]),
  (218, 13518, [0, 2, 7, 8, 9]),
  (219, 122, [3]),
  (222, 58, [5]),
  (223, 26, [4]),
  (224, 122, [0, 2, 3]),
  (224, 250, [2, 3]),
  (224, 32034, [0, 2, 3, 7]),
  (228, 14, []),
  (234, 26, [2]),
  (235, 122, [3]),
  (236, 58, [0, 2]),
  (236, 59690, [0, 3]),
  (240, 26, [4]),
  (241, 58, [0, 2, 3]),
  (242, 122, [3]),
  (249, 26, [2, 3, 4]),
  (249, 122, [2, 3, 4]),
  (250, 26, [4]),
  (251, 122, [4]),
  (252, 2044, [4]),
  (255, 122, [2, 3, 4, 5]),
  (258, 2044, [0, 9, 10]),
  (262, 250, [2, 3, 4, 5]),
  (268, 122, [4, 5]),
  (270, 124, [0, 1, 4, 5, 6, 7]),
  (272, 28, [1, 5]),
  (272, 232174, [0, 1, 5]),
  (272, 3714990, [0, 1, 5]),
  (273, 26, [0, 2]),
  (274, 58, [3]),
  (275, 122, [1, 4]),
  (277, 58, [3]),
  (278, 58, [4]),
  (279, 26, [1, 2]),
  (279, 6734, [1, 2, 3]),
  (280, 122, [3, 4, 5, 6]),
  (281, 26, [2]),
  (282, 58, [4, 5]),
  (286, 122, [5, 6, 7]),
  (289, 6, []),
  (289, 402, [0, 1, 2, 6]),
  (290, 122, [0, 6, 7, 8]),
  (290, 126, []),
  (291, 238, []),
  (293, 14, []),
  (294, 58, [6]),
  (294, 3728, [0, 1, 2, 7, 8]),
  (294, 477674, [0, 1, 2, 7, 8]),
  (294, 477690, [0, 1, 2, 7, 8]),
  (296, 60, [9]),
  (296, 960, [0, 1, 9, 10]),
  (296, 1924, [0, 1, 9, 10]),
  (297, 60, [0, 1, 10, 11]),
  (297, 124, [0, 1, 10, 11]),
  (297, 4092, [0, 1, 11]),
  (297, 65472, [0, 1, 10, 11]),
  (297, 130948, [0, 1, 10, 11]),
  (301, 28, [0, 1, 2, 6, 7]),
  (301, 62, []),
  (301, 3988, [0, 1, 2, 6, 7]),
  (303, 26, [1, 2]),
  (305, 58, [4]),
  (306, 14, []),
  (313, 250, [0, 1, 5, 6, 7, 8]),
  (313, 1018, [4]),
  (315, 26, [0, 2]),
  (316, 250, [0, 1, 6]),
  (317, 62, [4]),
  (322, 58, [0, 2, 3, 4]),
  (323, 3770, [2, 3, 5, 6]),
  (329, 26, [0, 2]),
  (331, 122, [5, 6, 7]),
  (333, 26, [4]),
  (335, 6, []),
  (341, 6, []),
  (341, 402, [0, 1, 2, 3, 8]),
  (342, 172, [0, 1, 10]),
  (342, 428, [0, 2, 14]),
  (342, 698, []),
  (342, 1020, [0, 1, 2, 3, 4, 18, 19, 20]),
  (342, 1722, []),
  (344, 26, [0, 2]),
  (346, 6, []),
  (346, 402, [0, 1, 2, 3, 8]),
  (347, 122, [0, 3, 8, 9, 10]),
  (347, 126, []),
  (348, 238, []),
  (350, 14, []),
  (351, 58, [8]),
  (351, 3728, [0, 1, 2, 3, 9, 10]),
  (351, 477674, [0, 1, 2, 3, 9, 10]),
  (351, 477690, [0, 1, 2, 3, 9, 10]),
  (352, 60, [11]),
  (352, 960, [0, 1, 4, 11, 12]),
  (352, 1924, [0, 1, 4, 11, 12]),
  (353, 60, [0, 1, 4, 12, 13]),
  (353, 124, [0, 1, 4, 12, 13]),
  (353, 4092, [0, 1, 13]),
  (353, 65472, [0, 1, 4, 12, 13]),
  (353, 130948, [0, 1, 4, 12, 13]),
  (354, 26, [1, 2]),
  (354, 58, [1, 2]),
  (358, 58, [0, 4]),
  (358, 250, [4, 6]),
  (361, 26, [2]),
  (374, 26, [2, 3]),
  (377, 28, [0, 2, 4, 10]),
  (379, 26, [0, 2]),
  (380, 6, []),
  (385, 12, [0]),
  (386, 26, [2, 3]),
  (387, 12, [0]),
  (388, 12, [0]),
  (392, 12, [0, 1, 4]),
  (393, 4060, [0, 1, 3, 4, 10, 11, 12, 13]),
  (393, 16220, [0, 1, 3, 4, 10, 11, 12, 13]),
  (394, 32762, [6, 7, 9, 12, 13]),
  (397, 58, [0, 4, 5, 6]),
  (398, 26, [4]),
  (399, 506, [0, 1, 5, 6, 7, 8, 9]),
  (399, 2042, [4]),
  (400, 6, []),
  (409, 508, [2, 3]),
  (410, 58, [0, 4]),
  (410, 250, [4, 6]),
  (411, 882, [4]),
  (411, 57276, [4]),
  (411, 14662730, [8, 9]),
  (411, 14663598, [4]),
  (411, 7507762322, [0, 7, 8, 9, 14, 15])]
def liveT (f p : Nat) : List Nat := look3 liveTab f p
def outsT (f p : Nat) : List Nat := look3 outsTab f p
theorem LT_10_16378 : liveT 10 16378 = [3, 5, 8] := by kernel_rfl
theorem OT_10_16378 : outsT 10 16378 = [2, 3, 5] := by kernel_rfl
theorem LT_10_2096422 : liveT 10 2096422 = [3, 5, 8, 9, 10] := by kernel_rfl
theorem OT_10_2096422 : outsT 10 2096422 = [2, 3, 5, 8] := by kernel_rfl
theorem LT_11_1018 : liveT 11 1018 = [3, 4, 5, 6] := by kernel_rfl
theorem OT_11_1018 : outsT 11 1018 = [2, 4, 5] := by kernel_rfl
theorem LT_11_2042 : liveT 11 2042 = [4, 5, 7] := by kernel_rfl
theorem OT_11_2042 : outsT 11 2042 = [2] := by kernel_rfl
theorem LT_11_522830 : liveT 11 522830 = [4, 5, 7, 8, 9] := by kernel_rfl
theorem OT_11_522830 : outsT 11 522830 = [2, 4, 5, 7] := by kernel_rfl
theorem LT_33_506 : liveT 33 506 = [4, 5, 6, 7, 8] := by kernel_rfl
theorem OT_33_506 : outsT 33 506 = [4, 5, 6] := by kernel_rfl
theorem LT_33_2042 : liveT 33 2042 = [4, 5, 6, 7, 9] := by kernel_rfl
theorem OT_33_2042 : outsT 33 2042 = [5, 6] := by kernel_rfl
theorem LT_37_58 : liveT 37 58 = [2, 3, 5] := by kernel_rfl
theorem OT_37_58 : outsT 37 58 = [4] := by kernel_rfl
theorem LT_43_58 : liveT 43 58 = [0, 1, 4, 5, 6] := by kernel_rfl
theorem OT_43_58 : outsT 43 58 = [4, 5] := by kernel_rfl
theorem LT_45_58 : liveT 45 58 = [1, 4, 5] := by kernel_rfl
theorem OT_45_58 : outsT 45 58 = [1, 4] := by kernel_rfl
theorem LT_47_122 : liveT 47 122 = [4, 25, 26, 27] := by kernel_rfl
theorem OT_47_122 : outsT 47 122 = [2, 3, 4] := by kernel_rfl
theorem LT_47_501370 : liveT 47 501370 = [4, 6, 7, 8, 25, 26, 27, 58, 59, 60] := by kernel_rfl
theorem OT_47_501370 : outsT 47 501370 = [4, 6, 7, 8, 25, 26, 27] := by kernel_rfl
theorem LT_51_26 : liveT 51 26 = [1, 4] := by kernel_rfl
theorem OT_51_26 : outsT 51 26 = [1, 2, 3] := by kernel_rfl
theorem LT_55_506 : liveT 55 506 = [2, 4, 5, 6, 7, 8] := by kernel_rfl
theorem OT_55_506 : outsT 55 506 = [2, 5, 6] := by kernel_rfl
theorem LT_56_60 : liveT 56 60 = [2, 5, 6] := by kernel_rfl
theorem OT_56_60 : outsT 56 60 = [5] := by kernel_rfl
theorem LT_59_58 : liveT 59 58 = [0, 1, 5] := by kernel_rfl
theorem OT_59_58 : outsT 59 58 = [4] := by kernel_rfl
theorem LT_60_60 : liveT 60 60 = [2, 5, 6] := by kernel_rfl
theorem OT_60_60 : outsT 60 60 = [5] := by kernel_rfl
theorem LT_61_58 : liveT 61 58 = [2, 3, 5] := by kernel_rfl
theorem OT_61_58 : outsT 61 58 = [4] := by kernel_rfl
theorem LT_63_26 : liveT 63 26 = [0, 3] := by kernel_rfl
theorem OT_63_26 : outsT 63 26 = [2] := by kernel_rfl
theorem LT_64_26 : liveT 64 26 = [1, 3] := by kernel_rfl
theorem OT_64_26 : outsT 64 26 = [1, 2] := by kernel_rfl
theorem LT_65_26 : liveT 65 26 = [1, 6, 7, 8] := by kernel_rfl
theorem OT_65_26 : outsT 65 26 = [1, 2] := by kernel_rfl
theorem LT_67_26 : liveT 67 26 = [0, 1, 5] := by kernel_rfl
theorem OT_67_26 : outsT 67 26 = [4] := by kernel_rfl
theorem LT_69_58 : liveT 69 58 = [2, 3, 4, 5, 14, 15, 16] := by kernel_rfl
theorem OT_69_58 : outsT 69 58 = [2, 3, 4, 5] := by kernel_rfl
theorem LT_70_122 : liveT 70 122 = [2, 3, 4, 5, 6] := by kernel_rfl
theorem OT_70_122 : outsT 70 122 = [2, 3, 4, 5] := by kernel_rfl
theorem LT_70_250 : liveT 70 250 = [2, 3, 4, 5, 7] := by kernel_rfl
theorem OT_70_250 : outsT 70 250 = [2, 4, 5] := by kernel_rfl
theorem LT_70_512634 : liveT 70 512634 = [2, 3, 4, 5, 7, 8, 9, 10, 11] := by kernel_rfl
theorem OT_70_512634 : outsT 70 512634 = [2, 3, 4, 5, 7, 8, 9, 10] := by kernel_rfl
theorem LT_72_122 : liveT 72 122 = [0, 1, 5] := by kernel_rfl
theorem OT_72_122 : outsT 72 122 = [1, 4] := by kernel_rfl
theorem LT_73_122 : liveT 73 122 = [0, 1, 5] := by kernel_rfl
theorem OT_73_122 : outsT 73 122 = [1, 4] := by kernel_rfl
theorem LT_74_1018 : liveT 74 1018 = [1, 2, 10, 11, 13, 14] := by kernel_rfl
theorem OT_74_1018 : outsT 74 1018 = [10] := by kernel_rfl
theorem LT_75_58 : liveT 75 58 = [0, 3, 4] := by kernel_rfl
theorem OT_75_58 : outsT 75 58 = [3] := by kernel_rfl
theorem LT_76_58 : liveT 76 58 = [0, 3, 4] := by kernel_rfl
theorem OT_76_58 : outsT 76 58 = [3] := by kernel_rfl
theorem LT_77_250 : liveT 77 250 = [1, 6, 9, 10, 11] := by kernel_rfl
theorem OT_77_250 : outsT 77 250 = [8] := by kernel_rfl
theorem LT_78_58 : liveT 78 58 = [0, 1, 5] := by kernel_rfl
theorem OT_78_58 : outsT 78 58 = [4] := by kernel_rfl
theorem LT_79_58 : liveT 79 58 = [0, 1, 5] := by kernel_rfl
theorem OT_79_58 : outsT 79 58 = [4] := by kernel_rfl
theorem LT_81_122 : liveT 81 122 = [4, 5] := by kernel_rfl
theorem OT_81_122 : outsT 81 122 = [2] := by kernel_rfl
theorem LT_85_250 : liveT 85 250 = [4, 5, 6] := by kernel_rfl
theorem OT_85_250 : outsT 85 250 = [2, 3, 4] := by kernel_rfl
theorem LT_86_58 : liveT 86 58 = [0, 3, 4] := by kernel_rfl
theorem OT_86_58 : outsT 86 58 = [0, 2] := by kernel_rfl
theorem LT_86_59706 : liveT 86 59706 = [0, 3, 4, 5, 6] := by kernel_rfl
theorem OT_86_59706 : outsT 86 59706 = [0, 2, 3, 4, 5] := by kernel_rfl
theorem LT_87_26 : liveT 87 26 = [0, 3] := by kernel_rfl
theorem OT_87_26 : outsT 87 26 = [0, 2] := by kernel_rfl
theorem LT_88_122 : liveT 88 122 = [4, 15, 16, 17] := by kernel_rfl
theorem OT_88_122 : outsT 88 122 = [2, 3, 4] := by kernel_rfl
theorem LT_89_58 : liveT 89 58 = [0, 3, 10, 11, 12] := by kernel_rfl
theorem OT_89_58 : outsT 89 58 = [0, 2] := by kernel_rfl
theorem LT_91_120822 : liveT 91 120822 = [2, 3, 4, 5] := by kernel_rfl
theorem OT_91_120822 : outsT 91 120822 = [2, 3] := by kernel_rfl
theorem LT_91_966638 : liveT 91 966638 = [2, 3, 6, 7] := by kernel_rfl
theorem OT_91_966638 : outsT 91 966638 = [2, 3] := by kernel_rfl
theorem LT_92_58 : liveT 92 58 = [0, 3, 4] := by kernel_rfl
theorem OT_92_58 : outsT 92 58 = [0, 3] := by kernel_rfl
theorem LT_94_58 : liveT 94 58 = [1, 2, 3, 4] := by kernel_rfl
theorem OT_94_58 : outsT 94 58 = [2, 3] := by kernel_rfl
theorem LT_95_1018 : liveT 95 1018 = [1, 2, 5, 6, 7, 41, 42, 43] := by kernel_rfl
theorem OT_95_1018 : outsT 95 1018 = [1, 5, 6, 7] := by kernel_rfl
theorem LT_98_124 : liveT 98 124 = [0, 2, 6] := by kernel_rfl
theorem OT_98_124 : outsT 98 124 = [0, 2, 6] := by kernel_rfl
theorem LT_99_2 : liveT 99 2 = [0] := by kernel_rfl
theorem OT_99_2 : outsT 99 2 = [] := by kernel_rfl
theorem LT_100_122 : liveT 100 122 = [0, 2, 3, 4] := by kernel_rfl
theorem OT_100_122 : outsT 100 122 = [0, 2] := by kernel_rfl
theorem LT_101_2 : liveT 101 2 = [0] := by kernel_rfl
theorem OT_101_2 : outsT 101 2 = [] := by kernel_rfl
theorem LT_102_26 : liveT 102 26 = [0, 1, 7, 8] := by kernel_rfl
theorem OT_102_26 : outsT 102 26 = [4] := by kernel_rfl
theorem LT_103_122 : liveT 103 122 = [1, 2, 3, 12, 13, 14] := by kernel_rfl
theorem OT_103_122 : outsT 103 122 = [1, 2, 3] := by kernel_rfl
theorem LT_104_26 : liveT 104 26 = [1, 2, 5] := by kernel_rfl
theorem OT_104_26 : outsT 104 26 = [4] := by kernel_rfl
theorem LT_105_30198 : liveT 105 30198 = [0, 1, 4, 5, 6, 7] := by kernel_rfl
theorem OT_105_30198 : outsT 105 30198 = [4, 5] := by kernel_rfl
theorem LT_107_506 : liveT 107 506 = [1, 2, 3, 94, 95, 96] := by kernel_rfl
theorem OT_107_506 : outsT 107 506 = [1, 2, 3, 6] := by kernel_rfl
theorem LT_107_1018 : liveT 107 1018 = [1, 2, 109, 110, 111] := by kernel_rfl
theorem OT_107_1018 : outsT 107 1018 = [6] := by kernel_rfl
theorem LT_108_26 : liveT 108 26 = [1, 2, 5] := by kernel_rfl
theorem OT_108_26 : outsT 108 26 = [1, 2, 4] := by kernel_rfl
theorem LT_109_58 : liveT 109 58 = [1, 3, 4] := by kernel_rfl
theorem OT_109_58 : outsT 109 58 = [3] := by kernel_rfl
theorem LT_110_58 : liveT 110 58 = [0, 1, 12, 13] := by kernel_rfl
theorem OT_110_58 : outsT 110 58 = [4] := by kernel_rfl
theorem LT_111_58 : liveT 111 58 = [1, 2, 15, 16, 17] := by kernel_rfl
theorem OT_111_58 : outsT 111 58 = [6] := by kernel_rfl
theorem LT_112_1018 : liveT 112 1018 = [1, 2, 6, 7, 8] := by kernel_rfl
theorem OT_112_1018 : outsT 112 1018 = [1, 6, 7] := by kernel_rfl
theorem LT_113_122 : liveT 113 122 = [0, 1, 5] := by kernel_rfl
theorem OT_113_122 : outsT 113 122 = [1, 4] := by kernel_rfl
theorem LT_114_26 : liveT 114 26 = [1, 3] := by kernel_rfl
theorem OT_114_26 : outsT 114 26 = [1, 2] := by kernel_rfl
theorem LT_115_26 : liveT 115 26 = [1, 2, 6] := by kernel_rfl
theorem OT_115_26 : outsT 115 26 = [2, 4, 5] := by kernel_rfl
theorem LT_116_58 : liveT 116 58 = [1, 2, 4, 6, 7] := by kernel_rfl
theorem OT_116_58 : outsT 116 58 = [4, 5, 6] := by kernel_rfl
theorem LT_117_58 : liveT 117 58 = [0, 3, 4] := by kernel_rfl
theorem OT_117_58 : outsT 117 58 = [3] := by kernel_rfl
theorem LT_118_58 : liveT 118 58 = [2, 3, 7, 8, 9] := by kernel_rfl
theorem OT_118_58 : outsT 118 58 = [2, 3] := by kernel_rfl
theorem LT_123_58 : liveT 123 58 = [0, 3, 7, 8] := by kernel_rfl
theorem OT_123_58 : outsT 123 58 = [3] := by kernel_rfl
theorem LT_125_58 : liveT 125 58 = [0, 1, 5] := by kernel_rfl
theorem OT_125_58 : outsT 125 58 = [4] := by kernel_rfl
theorem LT_126_26 : liveT 126 26 = [1, 3] := by kernel_rfl
theorem OT_126_26 : outsT 126 26 = [1, 2] := by kernel_rfl
theorem LT_127_58 : liveT 127 58 = [0, 3, 4] := by kernel_rfl
theorem OT_127_58 : outsT 127 58 = [2, 3] := by kernel_rfl
theorem LT_127_29854 : liveT 127 29854 = [0, 3, 4, 5] := by kernel_rfl
theorem OT_127_29854 : outsT 127 29854 = [0, 3, 4] := by kernel_rfl
theorem LT_128_122 : liveT 128 122 = [1, 3, 4] := by kernel_rfl
theorem OT_128_122 : outsT 128 122 = [3] := by kernel_rfl
theorem LT_132_122 : liveT 132 122 = [3, 13, 14, 15] := by kernel_rfl
theorem OT_132_122 : outsT 132 122 = [3] := by kernel_rfl
theorem LT_132_250682 : liveT 132 250682 = [3, 6, 13, 14, 15, 27, 28, 29] := by kernel_rfl
theorem OT_132_250682 : outsT 132 250682 = [3, 6, 13, 14, 15] := by kernel_rfl
theorem LT_133_1018 : liveT 133 1018 = [3, 4, 6, 24, 25, 26] := by kernel_rfl
theorem OT_133_1018 : outsT 133 1018 = [6] := by kernel_rfl
theorem LT_138_58 : liveT 138 58 = [2, 3, 11, 12, 13] := by kernel_rfl
theorem OT_138_58 : outsT 138 58 = [2, 3] := by kernel_rfl
theorem LT_139_122 : liveT 139 122 = [0, 1, 5, 6] := by kernel_rfl
theorem OT_139_122 : outsT 139 122 = [0, 5] := by kernel_rfl
theorem LT_141_26 : liveT 141 26 = [1, 2, 5] := by kernel_rfl
theorem OT_141_26 : outsT 141 26 = [4] := by kernel_rfl
theorem LT_142_26 : liveT 142 26 = [0, 1, 5] := by kernel_rfl
theorem OT_142_26 : outsT 142 26 = [4] := by kernel_rfl
theorem LT_143_28 : liveT 143 28 = [0, 1, 5] := by kernel_rfl
theorem OT_143_28 : outsT 143 28 = [0, 1, 5] := by kernel_rfl
theorem LT_144_58 : liveT 144 58 = [2, 3, 5] := by kernel_rfl
theorem OT_144_58 : outsT 144 58 = [4] := by kernel_rfl
theorem LT_145_58 : liveT 145 58 = [1, 2, 3, 4] := by kernel_rfl
theorem OT_145_58 : outsT 145 58 = [2, 3] := by kernel_rfl
theorem LT_146_58 : liveT 146 58 = [1, 2, 4, 5, 6] := by kernel_rfl
theorem OT_146_58 : outsT 146 58 = [1, 2, 4, 5] := by kernel_rfl
theorem LT_146_122 : liveT 146 122 = [1, 2, 4, 5, 7] := by kernel_rfl
theorem OT_146_122 : outsT 146 122 = [4, 5] := by kernel_rfl
theorem LT_146_125242 : liveT 146 125242 = [1, 2, 4, 5, 7, 8, 9] := by kernel_rfl
theorem OT_146_125242 : outsT 146 125242 = [1, 2, 4, 5, 7, 8] := by kernel_rfl
theorem LT_147_26 : liveT 147 26 = [1, 3] := by kernel_rfl
theorem OT_147_26 : outsT 147 26 = [1, 2] := by kernel_rfl
theorem LT_148_26 : liveT 148 26 = [1, 2, 5] := by kernel_rfl
theorem OT_148_26 : outsT 148 26 = [4] := by kernel_rfl
theorem LT_151_26 : liveT 151 26 = [1, 2, 7, 8, 9] := by kernel_rfl
theorem OT_151_26 : outsT 151 26 = [4] := by kernel_rfl
theorem LT_152_26 : liveT 152 26 = [0, 1, 7, 8] := by kernel_rfl
theorem OT_152_26 : outsT 152 26 = [4] := by kernel_rfl
theorem LT_154_58 : liveT 154 58 = [0, 4, 5, 6] := by kernel_rfl
theorem OT_154_58 : outsT 154 58 = [0, 4, 5] := by kernel_rfl
theorem LT_154_1962 : liveT 154 1962 = [4, 5, 7, 8] := by kernel_rfl
theorem OT_154_1962 : outsT 154 1962 = [4, 5, 7] := by kernel_rfl
theorem LT_158_28 : liveT 158 28 = [2, 3, 4, 5] := by kernel_rfl
theorem OT_158_28 : outsT 158 28 = [2, 3, 4, 5] := by kernel_rfl
theorem LT_159_58 : liveT 159 58 = [1, 2, 5, 6] := by kernel_rfl
theorem OT_159_58 : outsT 159 58 = [5] := by kernel_rfl
theorem LT_161_58 : liveT 161 58 = [0, 3, 4] := by kernel_rfl
theorem OT_161_58 : outsT 161 58 = [3] := by kernel_rfl
theorem LT_161_29852 : liveT 161 29852 = [0, 3, 4, 5, 7] := by kernel_rfl
theorem OT_161_29852 : outsT 161 29852 = [0, 3, 4, 7] := by kernel_rfl
theorem LT_162_58 : liveT 162 58 = [2, 3, 5, 6] := by kernel_rfl
theorem OT_162_58 : outsT 162 58 = [2, 3, 4] := by kernel_rfl
theorem LT_162_250 : liveT 162 250 = [2, 3, 7] := by kernel_rfl
theorem OT_162_250 : outsT 162 250 = [2, 3, 4] := by kernel_rfl
theorem LT_163_26 : liveT 163 26 = [0, 1, 2, 7] := by kernel_rfl
theorem OT_163_26 : outsT 163 26 = [6] := by kernel_rfl
theorem LT_164_58 : liveT 164 58 = [1, 5, 10, 11, 12] := by kernel_rfl
theorem OT_164_58 : outsT 164 58 = [5] := by kernel_rfl
theorem LT_165_58 : liveT 165 58 = [3, 7, 8, 9] := by kernel_rfl
theorem OT_165_58 : outsT 165 58 = [3] := by kernel_rfl
theorem LT_176_122 : liveT 176 122 = [0, 3, 4, 5] := by kernel_rfl
theorem OT_176_122 : outsT 176 122 = [0, 3, 4] := by kernel_rfl
theorem LT_178_122 : liveT 178 122 = [0, 1, 5, 6, 7] := by kernel_rfl
theorem OT_178_122 : outsT 178 122 = [0, 5, 6] := by kernel_rfl
theorem LT_183_26 : liveT 183 26 = [0, 5, 6, 7] := by kernel_rfl
theorem OT_183_26 : outsT 183 26 = [0, 2] := by kernel_rfl
theorem LT_185_26 : liveT 185 26 = [0, 1, 7, 8] := by kernel_rfl
theorem OT_185_26 : outsT 185 26 = [4] := by kernel_rfl
theorem LT_192_58 : liveT 192 58 = [0, 3, 7, 8] := by kernel_rfl
theorem OT_192_58 : outsT 192 58 = [3] := by kernel_rfl
theorem LT_193_250 : liveT 193 250 = [0, 1, 5, 39, 40, 41] := by kernel_rfl
theorem OT_193_250 : outsT 193 250 = [0, 1, 5] := by kernel_rfl
theorem LT_193_4090 : liveT 193 4090 = [1, 8, 63, 64, 65] := by kernel_rfl
theorem OT_193_4090 : outsT 193 4090 = [8] := by kernel_rfl
theorem LT_195_30 : liveT 195 30 = [0, 1, 2, 6, 8] := by kernel_rfl
theorem OT_195_30 : outsT 195 30 = [6, 7] := by kernel_rfl
theorem LT_201_122 : liveT 201 122 = [0, 1, 2, 6, 7, 8] := by kernel_rfl
theorem OT_201_122 : outsT 201 122 = [0, 2, 6, 7] := by kernel_rfl
theorem LT_202_28 : liveT 202 28 = [0, 2, 3] := by kernel_rfl
theorem OT_202_28 : outsT 202 28 = [0, 2, 3] := by kernel_rfl
theorem LT_207_124 : liveT 207 124 = [0, 3, 4] := by kernel_rfl
theorem OT_207_124 : outsT 207 124 = [0, 3] := by kernel_rfl
theorem LT_208_58 : liveT 208 58 = [0, 3, 4] := by kernel_rfl
theorem OT_208_58 : outsT 208 58 = [3] := by kernel_rfl
theorem LT_209_58 : liveT 209 58 = [0, 3, 4] := by kernel_rfl
theorem OT_209_58 : outsT 209 58 = [3] := by kernel_rfl
theorem LT_213_26 : liveT 213 26 = [0, 1, 7, 8] := by kernel_rfl
theorem OT_213_26 : outsT 213 26 = [4] := by kernel_rfl
theorem LT_215_26 : liveT 215 26 = [0, 3] := by kernel_rfl
theorem OT_215_26 : outsT 215 26 = [0, 2] := by kernel_rfl
theorem LT_216_506 : liveT 216 506 = [1, 3, 4] := by kernel_rfl
theorem OT_216_506 : outsT 216 506 = [3] := by kernel_rfl
theorem LT_218_26 : liveT 218 26 = [0, 7, 8, 9] := by kernel_rfl
theorem OT_218_26 : outsT 218 26 = [0, 2] := by kernel_rfl
theorem LT_218_13518 : liveT 218 13518 = [0, 4, 7, 8, 9, 41, 42, 43] := by kernel_rfl
theorem OT_218_13518 : outsT 218 13518 = [0, 2, 7, 8, 9] := by kernel_rfl
theorem LT_219_122 : liveT 219 122 = [3, 30, 31, 32] := by kernel_rfl
theorem OT_219_122 : outsT 219 122 = [3] := by kernel_rfl
theorem LT_222_58 : liveT 222 58 = [2, 5, 9, 10, 11] := by kernel_rfl
theorem OT_222_58 : outsT 222 58 = [5] := by kernel_rfl
theorem LT_223_26 : liveT 223 26 = [1, 8, 9, 10] := by kernel_rfl
theorem OT_223_26 : outsT 223 26 = [4] := by kernel_rfl
theorem LT_224_122 : liveT 224 122 = [0, 2, 3, 4, 5] := by kernel_rfl
theorem OT_224_122 : outsT 224 122 = [0, 2, 3] := by kernel_rfl
theorem LT_224_250 : liveT 224 250 = [0, 2, 3, 7] := by kernel_rfl
theorem OT_224_250 : outsT 224 250 = [2, 3] := by kernel_rfl
theorem LT_224_32034 : liveT 224 32034 = [0, 2, 3, 7, 8] := by kernel_rfl
theorem OT_224_32034 : outsT 224 32034 = [0, 2, 3, 7] := by kernel_rfl
theorem LT_228_14 : liveT 228 14 = [0, 1, 2, 3, 8, 9] := by kernel_rfl
theorem OT_228_14 : outsT 228 14 = [] := by kernel_rfl
theorem LT_234_26 : liveT 234 26 = [0, 5, 6, 7] := by kernel_rfl
theorem OT_234_26 : outsT 234 26 = [2] := by kernel_rfl
theorem LT_235_122 : liveT 235 122 = [0, 3, 4, 5] := by kernel_rfl
theorem OT_235_122 : outsT 235 122 = [3] := by kernel_rfl
theorem LT_236_58 : liveT 236 58 = [0, 3] := by kernel_rfl
theorem OT_236_58 : outsT 236 58 = [0, 2] := by kernel_rfl
theorem LT_236_59690 : liveT 236 59690 = [0, 3, 4, 5] := by kernel_rfl
theorem OT_236_59690 : outsT 236 59690 = [0, 3] := by kernel_rfl
theorem LT_240_26 : liveT 240 26 = [0, 1, 5] := by kernel_rfl
theorem OT_240_26 : outsT 240 26 = [4] := by kernel_rfl
theorem LT_241_58 : liveT 241 58 = [0, 3, 4] := by kernel_rfl
theorem OT_241_58 : outsT 241 58 = [0, 2, 3] := by kernel_rfl
theorem LT_242_122 : liveT 242 122 = [1, 3, 4] := by kernel_rfl
theorem OT_242_122 : outsT 242 122 = [3] := by kernel_rfl
theorem LT_249_26 : liveT 249 26 = [2, 3, 24, 25, 26] := by kernel_rfl
theorem OT_249_26 : outsT 249 26 = [2, 3, 4] := by kernel_rfl
theorem LT_249_122 : liveT 249 122 = [2, 3, 56, 57] := by kernel_rfl
theorem OT_249_122 : outsT 249 122 = [2, 3, 4] := by kernel_rfl
theorem LT_250_26 : liveT 250 26 = [0, 1, 7, 8] := by kernel_rfl
theorem OT_250_26 : outsT 250 26 = [4] := by kernel_rfl
theorem LT_251_122 : liveT 251 122 = [0, 5, 23, 24, 25] := by kernel_rfl
theorem OT_251_122 : outsT 251 122 = [4] := by kernel_rfl
theorem LT_252_2044 : liveT 252 2044 = [0, 1, 5, 6, 7, 8, 9, 10] := by kernel_rfl
theorem OT_252_2044 : outsT 252 2044 = [4] := by kernel_rfl
theorem LT_255_122 : liveT 255 122 = [2, 4, 5, 6] := by kernel_rfl
theorem OT_255_122 : outsT 255 122 = [2, 3, 4, 5] := by kernel_rfl
theorem LT_258_2044 : liveT 258 2044 = [0, 1, 2, 3, 9, 10] := by kernel_rfl
theorem OT_258_2044 : outsT 258 2044 = [0, 9, 10] := by kernel_rfl
theorem LT_262_250 : liveT 262 250 = [2, 4, 5, 16, 17, 18] := by kernel_rfl
theorem OT_262_250 : outsT 262 250 = [2, 3, 4, 5] := by kernel_rfl
theorem LT_268_122 : liveT 268 122 = [0, 1, 6, 7] := by kernel_rfl
theorem OT_268_122 : outsT 268 122 = [4, 5] := by kernel_rfl
theorem LT_270_124 : liveT 270 124 = [0, 1, 6, 7] := by kernel_rfl
theorem OT_270_124 : outsT 270 124 = [0, 1, 4, 5, 6, 7] := by kernel_rfl
theorem LT_272_28 : liveT 272 28 = [0, 1, 5] := by kernel_rfl
theorem OT_272_28 : outsT 272 28 = [1, 5] := by kernel_rfl
theorem LT_272_232174 : liveT 272 232174 = [0, 1, 5, 6, 7, 8] := by kernel_rfl
theorem OT_272_232174 : outsT 272 232174 = [0, 1, 5] := by kernel_rfl
theorem LT_272_3714990 : liveT 272 3714990 = [0, 1, 5, 9, 10, 11] := by kernel_rfl
theorem OT_272_3714990 : outsT 272 3714990 = [0, 1, 5] := by kernel_rfl
theorem LT_273_26 : liveT 273 26 = [0, 3] := by kernel_rfl
theorem OT_273_26 : outsT 273 26 = [0, 2] := by kernel_rfl
theorem LT_274_58 : liveT 274 58 = [0, 3, 4] := by kernel_rfl
theorem OT_274_58 : outsT 274 58 = [3] := by kernel_rfl
theorem LT_275_122 : liveT 275 122 = [0, 1, 5] := by kernel_rfl
theorem OT_275_122 : outsT 275 122 = [1, 4] := by kernel_rfl
theorem LT_277_58 : liveT 277 58 = [0, 3, 4] := by kernel_rfl
theorem OT_277_58 : outsT 277 58 = [3] := by kernel_rfl
theorem LT_278_58 : liveT 278 58 = [0, 1, 5] := by kernel_rfl
theorem OT_278_58 : outsT 278 58 = [4] := by kernel_rfl
theorem LT_279_26 : liveT 279 26 = [1, 3] := by kernel_rfl
theorem OT_279_26 : outsT 279 26 = [1, 2] := by kernel_rfl
theorem LT_279_6734 : liveT 279 6734 = [1, 3, 4, 5] := by kernel_rfl
theorem OT_279_6734 : outsT 279 6734 = [1, 2, 3] := by kernel_rfl
theorem LT_280_122 : liveT 280 122 = [2, 3, 4, 5, 6, 7] := by kernel_rfl
theorem OT_280_122 : outsT 280 122 = [3, 4, 5, 6] := by kernel_rfl
theorem LT_281_26 : liveT 281 26 = [1, 3] := by kernel_rfl
theorem OT_281_26 : outsT 281 26 = [2] := by kernel_rfl
theorem LT_282_58 : liveT 282 58 = [1, 2, 4, 5, 6] := by kernel_rfl
theorem OT_282_58 : outsT 282 58 = [4, 5] := by kernel_rfl
theorem LT_286_122 : liveT 286 122 = [5, 6, 7, 16, 17, 18] := by kernel_rfl
theorem OT_286_122 : outsT 286 122 = [5, 6, 7] := by kernel_rfl
theorem LT_289_6 : liveT 289 6 = [0, 1, 2, 6] := by kernel_rfl
theorem OT_289_6 : outsT 289 6 = [] := by kernel_rfl
theorem LT_289_402 : liveT 289 402 = [0, 1, 2, 6, 7] := by kernel_rfl
theorem OT_289_402 : outsT 289 402 = [0, 1, 2, 6] := by kernel_rfl
theorem LT_290_122 : liveT 290 122 = [0, 6, 7, 8, 9] := by kernel_rfl
theorem OT_290_122 : outsT 290 122 = [0, 6, 7, 8] := by kernel_rfl
theorem LT_290_126 : liveT 290 126 = [0, 6, 7, 10] := by kernel_rfl
theorem OT_290_126 : outsT 290 126 = [] := by kernel_rfl
theorem LT_291_238 : liveT 291 238 = [0, 1, 6, 7, 8, 9] := by kernel_rfl
theorem OT_291_238 : outsT 291 238 = [] := by kernel_rfl
theorem LT_293_14 : liveT 293 14 = [0, 6, 7] := by kernel_rfl
theorem OT_293_14 : outsT 293 14 = [] := by kernel_rfl
theorem LT_294_58 : liveT 294 58 = [0, 1, 2, 7, 8] := by kernel_rfl
theorem OT_294_58 : outsT 294 58 = [6] := by kernel_rfl
theorem LT_294_3728 : liveT 294 3728 = [0, 1, 2, 7, 8] := by kernel_rfl
theorem OT_294_3728 : outsT 294 3728 = [0, 1, 2, 7, 8] := by kernel_rfl
theorem LT_294_477674 : liveT 294 477674 = [0, 1, 2, 7, 8, 9] := by kernel_rfl
theorem OT_294_477674 : outsT 294 477674 = [0, 1, 2, 7, 8] := by kernel_rfl
theorem LT_294_477690 : liveT 294 477690 = [0, 1, 2, 7, 8, 10] := by kernel_rfl
theorem OT_294_477690 : outsT 294 477690 = [0, 1, 2, 7, 8] := by kernel_rfl
theorem LT_296_60 : liveT 296 60 = [0, 1, 9, 10] := by kernel_rfl
theorem OT_296_60 : outsT 296 60 = [9] := by kernel_rfl
theorem LT_296_960 : liveT 296 960 = [0, 1, 9, 10] := by kernel_rfl
theorem OT_296_960 : outsT 296 960 = [0, 1, 9, 10] := by kernel_rfl
theorem LT_296_1924 : liveT 296 1924 = [0, 1, 9, 10] := by kernel_rfl
theorem OT_296_1924 : outsT 296 1924 = [0, 1, 9, 10] := by kernel_rfl
theorem LT_297_60 : liveT 297 60 = [0, 1, 10, 11] := by kernel_rfl
theorem OT_297_60 : outsT 297 60 = [0, 1, 10, 11] := by kernel_rfl
theorem LT_297_124 : liveT 297 124 = [0, 1, 10, 11] := by kernel_rfl
theorem OT_297_124 : outsT 297 124 = [0, 1, 10, 11] := by kernel_rfl
theorem LT_297_4092 : liveT 297 4092 = [0, 1, 10, 11] := by kernel_rfl
theorem OT_297_4092 : outsT 297 4092 = [0, 1, 11] := by kernel_rfl
theorem LT_297_65472 : liveT 297 65472 = [0, 1, 10, 11] := by kernel_rfl
theorem OT_297_65472 : outsT 297 65472 = [0, 1, 10, 11] := by kernel_rfl
theorem LT_297_130948 : liveT 297 130948 = [0, 1, 10, 11] := by kernel_rfl
theorem OT_297_130948 : outsT 297 130948 = [0, 1, 10, 11] := by kernel_rfl
theorem LT_301_28 : liveT 301 28 = [0, 1, 2, 6, 7, 8] := by kernel_rfl
theorem OT_301_28 : outsT 301 28 = [0, 1, 2, 6, 7] := by kernel_rfl
theorem LT_301_62 : liveT 301 62 = [0, 1, 2, 6] := by kernel_rfl
theorem OT_301_62 : outsT 301 62 = [] := by kernel_rfl
theorem LT_301_3988 : liveT 301 3988 = [0, 1, 2, 6, 7, 8] := by kernel_rfl
theorem OT_301_3988 : outsT 301 3988 = [0, 1, 2, 6, 7] := by kernel_rfl
theorem LT_303_26 : liveT 303 26 = [1, 3] := by kernel_rfl
theorem OT_303_26 : outsT 303 26 = [1, 2] := by kernel_rfl
theorem LT_305_58 : liveT 305 58 = [1, 5, 6, 7] := by kernel_rfl
theorem OT_305_58 : outsT 305 58 = [4] := by kernel_rfl
theorem LT_306_14 : liveT 306 14 = [0, 1, 2, 3, 4, 10, 11] := by kernel_rfl
theorem OT_306_14 : outsT 306 14 = [] := by kernel_rfl
theorem LT_313_250 : liveT 313 250 = [0, 1, 5, 6, 7, 8, 9] := by kernel_rfl
theorem OT_313_250 : outsT 313 250 = [0, 1, 5, 6, 7, 8] := by kernel_rfl
theorem LT_313_1018 : liveT 313 1018 = [0, 1, 5, 6, 7, 8, 10] := by kernel_rfl
theorem OT_313_1018 : outsT 313 1018 = [4] := by kernel_rfl
theorem LT_315_26 : liveT 315 26 = [0, 3] := by kernel_rfl
theorem OT_315_26 : outsT 315 26 = [0, 2] := by kernel_rfl
theorem LT_316_250 : liveT 316 250 = [0, 1, 6, 7] := by kernel_rfl
theorem OT_316_250 : outsT 316 250 = [0, 1, 6] := by kernel_rfl
theorem LT_317_62 : liveT 317 62 = [0, 1, 5] := by kernel_rfl
theorem OT_317_62 : outsT 317 62 = [4] := by kernel_rfl
theorem LT_322_58 : liveT 322 58 = [0, 4, 5] := by kernel_rfl
theorem OT_322_58 : outsT 322 58 = [0, 2, 3, 4] := by kernel_rfl
theorem LT_323_3770 : liveT 323 3770 = [5, 6, 47, 48, 49] := by kernel_rfl
theorem OT_323_3770 : outsT 323 3770 = [2, 3, 5, 6] := by kernel_rfl
theorem LT_329_26 : liveT 329 26 = [0, 3] := by kernel_rfl
theorem OT_329_26 : outsT 329 26 = [0, 2] := by kernel_rfl
theorem LT_331_122 : liveT 331 122 = [2, 5, 6, 7, 8] := by kernel_rfl
theorem OT_331_122 : outsT 331 122 = [5, 6, 7] := by kernel_rfl
theorem LT_333_26 : liveT 333 26 = [0, 1, 7, 8] := by kernel_rfl
theorem OT_333_26 : outsT 333 26 = [4] := by kernel_rfl
theorem LT_335_6 : liveT 335 6 = [0, 2, 3, 8] := by kernel_rfl
theorem OT_335_6 : outsT 335 6 = [] := by kernel_rfl
theorem LT_341_6 : liveT 341 6 = [0, 1, 2, 3, 8] := by kernel_rfl
theorem OT_341_6 : outsT 341 6 = [] := by kernel_rfl
theorem LT_341_402 : liveT 341 402 = [0, 1, 2, 3, 8, 9] := by kernel_rfl
theorem OT_341_402 : outsT 341 402 = [0, 1, 2, 3, 8] := by kernel_rfl
theorem LT_342_172 : liveT 342 172 = [0, 1, 4, 10, 11] := by kernel_rfl
theorem OT_342_172 : outsT 342 172 = [0, 1, 10] := by kernel_rfl
theorem LT_342_428 : liveT 342 428 = [0, 2, 4, 14, 15] := by kernel_rfl
theorem OT_342_428 : outsT 342 428 = [0, 2, 14] := by kernel_rfl
theorem LT_342_698 : liveT 342 698 = [0, 10, 13] := by kernel_rfl
theorem OT_342_698 : outsT 342 698 = [] := by kernel_rfl
theorem LT_342_1020 : liveT 342 1020 = [0, 1, 2, 3, 4, 18, 19, 20, 21, 22] := by kernel_rfl
theorem OT_342_1020 : outsT 342 1020 = [0, 1, 2, 3, 4, 18, 19, 20] := by kernel_rfl
theorem LT_342_1722 : liveT 342 1722 = [0, 14, 17] := by kernel_rfl
theorem OT_342_1722 : outsT 342 1722 = [] := by kernel_rfl
theorem LT_344_26 : liveT 344 26 = [0, 3] := by kernel_rfl
theorem OT_344_26 : outsT 344 26 = [0, 2] := by kernel_rfl
theorem LT_346_6 : liveT 346 6 = [0, 1, 2, 3, 8] := by kernel_rfl
theorem OT_346_6 : outsT 346 6 = [] := by kernel_rfl
theorem LT_346_402 : liveT 346 402 = [0, 1, 2, 3, 8, 9] := by kernel_rfl
theorem OT_346_402 : outsT 346 402 = [0, 1, 2, 3, 8] := by kernel_rfl
theorem LT_347_122 : liveT 347 122 = [0, 3, 8, 9, 10, 11] := by kernel_rfl
theorem OT_347_122 : outsT 347 122 = [0, 3, 8, 9, 10] := by kernel_rfl
theorem LT_347_126 : liveT 347 126 = [0, 3, 8, 9, 12] := by kernel_rfl
theorem OT_347_126 : outsT 347 126 = [] := by kernel_rfl
theorem LT_348_238 : liveT 348 238 = [0, 1, 8, 9, 10, 11] := by kernel_rfl
theorem OT_348_238 : outsT 348 238 = [] := by kernel_rfl
theorem LT_350_14 : liveT 350 14 = [0, 8, 9] := by kernel_rfl
theorem OT_350_14 : outsT 350 14 = [] := by kernel_rfl
theorem LT_351_58 : liveT 351 58 = [0, 1, 2, 3, 9, 10] := by kernel_rfl
theorem OT_351_58 : outsT 351 58 = [8] := by kernel_rfl
theorem LT_351_3728 : liveT 351 3728 = [0, 1, 2, 3, 9, 10] := by kernel_rfl
theorem OT_351_3728 : outsT 351 3728 = [0, 1, 2, 3, 9, 10] := by kernel_rfl
theorem LT_351_477674 : liveT 351 477674 = [0, 1, 2, 3, 9, 10, 11] := by kernel_rfl
theorem OT_351_477674 : outsT 351 477674 = [0, 1, 2, 3, 9, 10] := by kernel_rfl
theorem LT_351_477690 : liveT 351 477690 = [0, 1, 2, 3, 9, 10, 12] := by kernel_rfl
theorem OT_351_477690 : outsT 351 477690 = [0, 1, 2, 3, 9, 10] := by kernel_rfl
theorem LT_352_60 : liveT 352 60 = [0, 1, 4, 11, 12] := by kernel_rfl
theorem OT_352_60 : outsT 352 60 = [11] := by kernel_rfl
theorem LT_352_960 : liveT 352 960 = [0, 1, 4, 11, 12] := by kernel_rfl
theorem OT_352_960 : outsT 352 960 = [0, 1, 4, 11, 12] := by kernel_rfl
theorem LT_352_1924 : liveT 352 1924 = [0, 1, 4, 11, 12] := by kernel_rfl
theorem OT_352_1924 : outsT 352 1924 = [0, 1, 4, 11, 12] := by kernel_rfl
theorem LT_353_60 : liveT 353 60 = [0, 1, 4, 12, 13] := by kernel_rfl
theorem OT_353_60 : outsT 353 60 = [0, 1, 4, 12, 13] := by kernel_rfl
theorem LT_353_124 : liveT 353 124 = [0, 1, 4, 12, 13] := by kernel_rfl
theorem OT_353_124 : outsT 353 124 = [0, 1, 4, 12, 13] := by kernel_rfl
theorem LT_353_4092 : liveT 353 4092 = [0, 1, 4, 12, 13] := by kernel_rfl
theorem OT_353_4092 : outsT 353 4092 = [0, 1, 13] := by kernel_rfl
theorem LT_353_65472 : liveT 353 65472 = [0, 1, 4, 12, 13] := by kernel_rfl
theorem OT_353_65472 : outsT 353 65472 = [0, 1, 4, 12, 13] := by kernel_rfl
theorem LT_353_130948 : liveT 353 130948 = [0, 1, 4, 12, 13] := by kernel_rfl
theorem OT_353_130948 : outsT 353 130948 = [0, 1, 4, 12, 13] := by kernel_rfl
theorem LT_354_26 : liveT 354 26 = [1, 13, 14, 15] := by kernel_rfl
theorem OT_354_26 : outsT 354 26 = [1, 2] := by kernel_rfl
theorem LT_354_58 : liveT 354 58 = [1, 24, 25, 26] := by kernel_rfl
theorem OT_354_58 : outsT 354 58 = [1, 2] := by kernel_rfl
theorem LT_358_58 : liveT 358 58 = [0, 4, 5] := by kernel_rfl
theorem OT_358_58 : outsT 358 58 = [0, 4] := by kernel_rfl
theorem LT_358_250 : liveT 358 250 = [4, 6, 7, 8] := by kernel_rfl
theorem OT_358_250 : outsT 358 250 = [4, 6] := by kernel_rfl
theorem LT_361_26 : liveT 361 26 = [2, 4] := by kernel_rfl
theorem OT_361_26 : outsT 361 26 = [2] := by kernel_rfl
theorem LT_374_26 : liveT 374 26 = [0, 4] := by kernel_rfl
theorem OT_374_26 : outsT 374 26 = [2, 3] := by kernel_rfl
theorem LT_377_28 : liveT 377 28 = [0, 2, 4, 10, 11] := by kernel_rfl
theorem OT_377_28 : outsT 377 28 = [0, 2, 4, 10] := by kernel_rfl
theorem LT_379_26 : liveT 379 26 = [0, 3] := by kernel_rfl
theorem OT_379_26 : outsT 379 26 = [0, 2] := by kernel_rfl
theorem LT_380_6 : liveT 380 6 = [0, 2, 3, 4, 10] := by kernel_rfl
theorem OT_380_6 : outsT 380 6 = [] := by kernel_rfl
theorem LT_385_12 : liveT 385 12 = [0, 1] := by kernel_rfl
theorem OT_385_12 : outsT 385 12 = [0] := by kernel_rfl
theorem LT_386_26 : liveT 386 26 = [0, 2, 4] := by kernel_rfl
theorem OT_386_26 : outsT 386 26 = [2, 3] := by kernel_rfl
theorem LT_387_12 : liveT 387 12 = [0, 1] := by kernel_rfl
theorem OT_387_12 : outsT 387 12 = [0] := by kernel_rfl
theorem LT_388_12 : liveT 388 12 = [0, 1] := by kernel_rfl
theorem OT_388_12 : outsT 388 12 = [0] := by kernel_rfl
theorem LT_392_12 : liveT 392 12 = [0, 1, 4] := by kernel_rfl
theorem OT_392_12 : outsT 392 12 = [0, 1, 4] := by kernel_rfl
theorem LT_393_4060 : liveT 393 4060 = [0, 1, 3, 4, 10, 11, 12, 13, 17] := by kernel_rfl
theorem OT_393_4060 : outsT 393 4060 = [0, 1, 3, 4, 10, 11, 12, 13] := by kernel_rfl
theorem LT_393_16220 : liveT 393 16220 = [0, 1, 3, 4, 10, 11, 12, 13, 14, 15, 16] := by kernel_rfl
theorem OT_393_16220 : outsT 393 16220 = [0, 1, 3, 4, 10, 11, 12, 13] := by kernel_rfl
theorem LT_394_32762 : liveT 394 32762 = [1, 8, 9, 10, 11, 12, 13, 99, 100, 101] := by kernel_rfl
theorem OT_394_32762 : outsT 394 32762 = [6, 7, 9, 12, 13] := by kernel_rfl
theorem LT_397_58 : liveT 397 58 = [0, 1, 6, 7] := by kernel_rfl
theorem OT_397_58 : outsT 397 58 = [0, 4, 5, 6] := by kernel_rfl
theorem LT_398_26 : liveT 398 26 = [0, 1, 5] := by kernel_rfl
theorem OT_398_26 : outsT 398 26 = [4] := by kernel_rfl
theorem LT_399_506 : liveT 399 506 = [0, 1, 5, 6, 7, 8, 9, 10] := by kernel_rfl
theorem OT_399_506 : outsT 399 506 = [0, 1, 5, 6, 7, 8, 9] := by kernel_rfl
theorem LT_399_2042 : liveT 399 2042 = [0, 1, 5, 6, 7, 9, 11] := by kernel_rfl
theorem OT_399_2042 : outsT 399 2042 = [4] := by kernel_rfl
theorem LT_400_6 : liveT 400 6 = [0, 1, 2, 3, 10] := by kernel_rfl
theorem OT_400_6 : outsT 400 6 = [] := by kernel_rfl
theorem LT_409_508 : liveT 409 508 = [0, 3, 4, 5] := by kernel_rfl
theorem OT_409_508 : outsT 409 508 = [2, 3] := by kernel_rfl
theorem LT_410_58 : liveT 410 58 = [0, 4, 5] := by kernel_rfl
theorem OT_410_58 : outsT 410 58 = [0, 4] := by kernel_rfl
theorem LT_410_250 : liveT 410 250 = [4, 6, 7, 8] := by kernel_rfl
theorem OT_410_250 : outsT 410 250 = [4, 6] := by kernel_rfl
theorem LT_411_882 : liveT 411 882 = [175] := by kernel_rfl
theorem OT_411_882 : outsT 411 882 = [4] := by kernel_rfl
theorem LT_411_57276 : liveT 411 57276 = [0, 7, 8, 9] := by kernel_rfl
theorem OT_411_57276 : outsT 411 57276 = [4] := by kernel_rfl
theorem LT_411_14662730 : liveT 411 14662730 = [0, 7, 8, 9, 12] := by kernel_rfl
theorem OT_411_14662730 : outsT 411 14662730 = [8, 9] := by kernel_rfl
theorem LT_411_14663598 : liveT 411 14663598 = [0, 7, 8, 9, 14, 15] := by kernel_rfl
theorem OT_411_14663598 : outsT 411 14663598 = [4] := by kernel_rfl
theorem LT_411_7507762322 : liveT 411 7507762322 = [0, 7, 8, 9, 14, 15, 16] := by kernel_rfl
theorem OT_411_7507762322 : outsT 411 7507762322 = [0, 7, 8, 9, 14, 15] := by kernel_rfl
theorem LTS : liveT 10 16378 = [3, 5, 8] ∧ outsT 10 16378 = [2, 3, 5] ∧
  liveT 10 2096422 = [3, 5, 8, 9, 10] ∧ outsT 10 2096422 = [2, 3, 5, 8] ∧
  liveT 11 1018 = [3, 4, 5, 6] ∧ outsT 11 1018 = [2, 4, 5] ∧
  liveT 11 2042 = [4, 5, 7] ∧ outsT 11 2042 = [2] ∧
  liveT 11 522830 = [4, 5, 7, 8, 9] ∧ outsT 11 522830 = [2, 4, 5, 7] ∧
  liveT 33 506 = [4, 5, 6, 7, 8] ∧ outsT 33 506 = [4, 5, 6] ∧
  liveT 33 2042 = [4, 5, 6, 7, 9] ∧ outsT 33 2042 = [5, 6] ∧
  liveT 37 58 = [2, 3, 5] ∧ outsT 37 58 = [4] ∧
  liveT 43 58 = [0, 1, 4, 5, 6] ∧ outsT 43 58 = [4, 5] ∧
  liveT 45 58 = [1, 4, 5] ∧ outsT 45 58 = [1, 4] ∧
  liveT 47 122 = [4, 25, 26, 27] ∧ outsT 47 122 = [2, 3, 4] ∧
  liveT 47 501370 = [4, 6, 7, 8, 25, 26, 27, 58, 59, 60] ∧ outsT 47 501370 = [4, 6, 7, 8, 25, 26, 27] ∧
  liveT 51 26 = [1, 4] ∧ outsT 51 26 = [1, 2, 3] ∧
  liveT 55 506 = [2, 4, 5, 6, 7, 8] ∧ outsT 55 506 = [2, 5, 6] ∧
  liveT 56 60 = [2, 5, 6] ∧ outsT 56 60 = [5] ∧
  liveT 59 58 = [0, 1, 5] ∧ outsT 59 58 = [4] ∧
  liveT 60 60 = [2, 5, 6] ∧ outsT 60 60 = [5] ∧
  liveT 61 58 = [2, 3, 5] ∧ outsT 61 58 = [4] ∧
  liveT 63 26 = [0, 3] ∧ outsT 63 26 = [2] ∧
  liveT 64 26 = [1, 3] ∧ outsT 64 26 = [1, 2] ∧
  liveT 65 26 = [1, 6, 7, 8] ∧ outsT 65 26 = [1, 2] ∧
  liveT 67 26 = [0, 1, 5] ∧ outsT 67 26 = [4] ∧
  liveT 69 58 = [2, 3, 4, 5, 14, 15, 16] ∧ outsT 69 58 = [2, 3, 4, 5] ∧
  liveT 70 122 = [2, 3, 4, 5, 6] ∧ outsT 70 122 = [2, 3, 4, 5] ∧
  liveT 70 250 = [2, 3, 4, 5, 7] ∧ outsT 70 250 = [2, 4, 5] ∧
  liveT 70 512634 = [2, 3, 4, 5, 7, 8, 9, 10, 11] ∧ outsT 70 512634 = [2, 3, 4, 5, 7, 8, 9, 10] ∧
  liveT 72 122 = [0, 1, 5] ∧ outsT 72 122 = [1, 4] ∧
  liveT 73 122 = [0, 1, 5] ∧ outsT 73 122 = [1, 4] ∧
  liveT 74 1018 = [1, 2, 10, 11, 13, 14] ∧ outsT 74 1018 = [10] ∧
  liveT 75 58 = [0, 3, 4] ∧ outsT 75 58 = [3] ∧
  liveT 76 58 = [0, 3, 4] ∧ outsT 76 58 = [3] ∧
  liveT 77 250 = [1, 6, 9, 10, 11] ∧ outsT 77 250 = [8] ∧
  liveT 78 58 = [0, 1, 5] ∧ outsT 78 58 = [4] ∧
  liveT 79 58 = [0, 1, 5] ∧ outsT 79 58 = [4] ∧
  liveT 81 122 = [4, 5] ∧ outsT 81 122 = [2] ∧
  liveT 85 250 = [4, 5, 6] ∧ outsT 85 250 = [2, 3, 4] ∧
  liveT 86 58 = [0, 3, 4] ∧ outsT 86 58 = [0, 2] ∧
  liveT 86 59706 = [0, 3, 4, 5, 6] ∧ outsT 86 59706 = [0, 2, 3, 4, 5] ∧
  liveT 87 26 = [0, 3] ∧ outsT 87 26 = [0, 2] ∧
  liveT 88 122 = [4, 15, 16, 17] ∧ outsT 88 122 = [2, 3, 4] ∧
  liveT 89 58 = [0, 3, 10, 11, 12] ∧ outsT 89 58 = [0, 2] ∧
  liveT 91 120822 = [2, 3, 4, 5] ∧ outsT 91 120822 = [2, 3] ∧
  liveT 91 966638 = [2, 3, 6, 7] ∧ outsT 91 966638 = [2, 3] ∧
  liveT 92 58 = [0, 3, 4] ∧ outsT 92 58 = [0, 3] ∧
  liveT 94 58 = [1, 2, 3, 4] ∧ outsT 94 58 = [2, 3] ∧
  liveT 95 1018 = [1, 2, 5, 6, 7, 41, 42, 43] ∧ outsT 95 1018 = [1, 5, 6, 7] ∧
  liveT 98 124 = [0, 2, 6] ∧ outsT 98 124 = [0, 2, 6] ∧
  liveT 99 2 = [0] ∧ outsT 99 2 = [] ∧
  liveT 100 122 = [0, 2, 3, 4] ∧ outsT 100 122 = [0, 2] ∧
  liveT 101 2 = [0] ∧ outsT 101 2 = [] ∧
  liveT 102 26 = [0, 1, 7, 8] ∧ outsT 102 26 = [4] ∧
  liveT 103 122 = [1, 2, 3, 12, 13, 14] ∧ outsT 103 122 = [1, 2, 3] ∧
  liveT 104 26 = [1, 2, 5] ∧ outsT 104 26 = [4] ∧
  liveT 105 30198 = [0, 1, 4, 5, 6, 7] ∧ outsT 105 30198 = [4, 5] ∧
  liveT 107 506 = [1, 2, 3, 94, 95, 96] ∧ outsT 107 506 = [1, 2, 3, 6] ∧
  liveT 107 1018 = [1, 2, 109, 110, 111] ∧ outsT 107 1018 = [6] ∧
  liveT 108 26 = [1, 2, 5] ∧ outsT 108 26 = [1, 2, 4] ∧
  liveT 109 58 = [1, 3, 4] ∧ outsT 109 58 = [3] ∧
  liveT 110 58 = [0, 1, 12, 13] ∧ outsT 110 58 = [4] ∧
  liveT 111 58 = [1, 2, 15, 16, 17] ∧ outsT 111 58 = [6] ∧
  liveT 112 1018 = [1, 2, 6, 7, 8] ∧ outsT 112 1018 = [1, 6, 7] ∧
  liveT 113 122 = [0, 1, 5] ∧ outsT 113 122 = [1, 4] ∧
  liveT 114 26 = [1, 3] ∧ outsT 114 26 = [1, 2] ∧
  liveT 115 26 = [1, 2, 6] ∧ outsT 115 26 = [2, 4, 5] ∧
  liveT 116 58 = [1, 2, 4, 6, 7] ∧ outsT 116 58 = [4, 5, 6] ∧
  liveT 117 58 = [0, 3, 4] ∧ outsT 117 58 = [3] ∧
  liveT 118 58 = [2, 3, 7, 8, 9] ∧ outsT 118 58 = [2, 3] ∧
  liveT 123 58 = [0, 3, 7, 8] ∧ outsT 123 58 = [3] ∧
  liveT 125 58 = [0, 1, 5] ∧ outsT 125 58 = [4] ∧
  liveT 126 26 = [1, 3] ∧ outsT 126 26 = [1, 2] ∧
  liveT 127 58 = [0, 3, 4] ∧ outsT 127 58 = [2, 3] ∧
  liveT 127 29854 = [0, 3, 4, 5] ∧ outsT 127 29854 = [0, 3, 4] ∧
  liveT 128 122 = [1, 3, 4] ∧ outsT 128 122 = [3] ∧
  liveT 132 122 = [3, 13, 14, 15] ∧ outsT 132 122 = [3] ∧
  liveT 132 250682 = [3, 6, 13, 14, 15, 27, 28, 29] ∧ outsT 132 250682 = [3, 6, 13, 14, 15] ∧
  liveT 133 1018 = [3, 4, 6, 24, 25, 26] ∧ outsT 133 1018 = [6] ∧
  liveT 138 58 = [2, 3, 11, 12, 13] ∧ outsT 138 58 = [2, 3] ∧
  liveT 139 122 = [0, 1, 5, 6] ∧ outsT 139 122 = [0, 5] ∧
  liveT 141 26 = [1, 2, 5] ∧ outsT 141 26 = [4] ∧
  liveT 142 26 = [0, 1, 5] ∧ outsT 142 26 = [4] ∧
  liveT 143 28 = [0, 1, 5] ∧ outsT 143 28 = [0, 1, 5] ∧
  liveT 144 58 = [2, 3, 5] ∧ outsT 144 58 = [4] ∧
  liveT 145 58 = [1, 2, 3, 4] ∧ outsT 145 58 = [2, 3] ∧
  liveT 146 58 = [1, 2, 4, 5, 6] ∧ outsT 146 58 = [1, 2, 4, 5] ∧
  liveT 146 122 = [1, 2, 4, 5, 7] ∧ outsT 146 122 = [4, 5] ∧
  liveT 146 125242 = [1, 2, 4, 5, 7, 8, 9] ∧ outsT 146 125242 = [1, 2, 4, 5, 7, 8] ∧
  liveT 147 26 = [1, 3] ∧ outsT 147 26 = [1, 2] ∧
  liveT 148 26 = [1, 2, 5] ∧ outsT 148 26 = [4] ∧
  liveT 151 26 = [1, 2, 7, 8, 9] ∧ outsT 151 26 = [4] ∧
  liveT 152 26 = [0, 1, 7, 8] ∧ outsT 152 26 = [4] ∧
  liveT 154 58 = [0, 4, 5, 6] ∧ outsT 154 58 = [0, 4, 5] ∧
  liveT 154 1962 = [4, 5, 7, 8] ∧ outsT 154 1962 = [4, 5, 7] ∧
  liveT 158 28 = [2, 3, 4, 5] ∧ outsT 158 28 = [2, 3, 4, 5] ∧
  liveT 159 58 = [1, 2, 5, 6] ∧ outsT 159 58 = [5] ∧
  liveT 161 58 = [0, 3, 4] ∧ outsT 161 58 = [3] ∧
  liveT 161 29852 = [0, 3, 4, 5, 7] ∧ outsT 161 29852 = [0, 3, 4, 7] ∧
  liveT 162 58 = [2, 3, 5, 6] ∧ outsT 162 58 = [2, 3, 4] ∧
  liveT 162 250 = [2, 3, 7] ∧ outsT 162 250 = [2, 3, 4] ∧
  liveT 163 26 = [0, 1, 2, 7] ∧ outsT 163 26 = [6] ∧
  liveT 164 58 = [1, 5, 10, 11, 12] ∧ outsT 164 58 = [5] ∧
  liveT 165 58 = [3, 7, 8, 9] ∧ outsT 165 58 = [3] ∧
  liveT 176 122 = [0, 3, 4, 5] ∧ outsT 176 122 = [0, 3, 4] ∧
  liveT 178 122 = [0, 1, 5, 6, 7] ∧ outsT 178 122 = [0, 5, 6] ∧
  liveT 183 26 = [0, 5, 6, 7] ∧ outsT 183 26 = [0, 2] ∧
  liveT 185 26 = [0, 1, 7, 8] ∧ outsT 185 26 = [4] ∧
  liveT 192 58 = [0, 3, 7, 8] ∧ outsT 192 58 = [3] ∧
  liveT 193 250 = [0, 1, 5, 39, 40, 41] ∧ outsT 193 250 = [0, 1, 5] ∧
  liveT 193 4090 = [1, 8, 63, 64, 65] ∧ outsT 193 4090 = [8] ∧
  liveT 195 30 = [0, 1, 2, 6, 8] ∧ outsT 195 30 = [6, 7] ∧
  liveT 201 122 = [0, 1, 2, 6, 7, 8] ∧ outsT 201 122 = [0, 2, 6, 7] ∧
  liveT 202 28 = [0, 2, 3] ∧ outsT 202 28 = [0, 2, 3] ∧
  liveT 207 124 = [0, 3, 4] ∧ outsT 207 124 = [0, 3] ∧
  liveT 208 58 = [0, 3, 4] ∧ outsT 208 58 = [3] ∧
  liveT 209 58 = [0, 3, 4] ∧ outsT 209 58 = [3] ∧
  liveT 213 26 = [0, 1, 7, 8] ∧ outsT 213 26 = [4] ∧
  liveT 215 26 = [0, 3] ∧ outsT 215 26 = [0, 2] ∧
  liveT 216 506 = [1, 3, 4] ∧ outsT 216 506 = [3] ∧
  liveT 218 26 = [0, 7, 8, 9] ∧ outsT 218 26 = [0, 2] ∧
  liveT 218 13518 = [0, 4, 7, 8, 9, 41, 42, 43] ∧ outsT 218 13518 = [0, 2, 7, 8, 9] ∧
  liveT 219 122 = [3, 30, 31, 32] ∧ outsT 219 122 = [3] ∧
  liveT 222 58 = [2, 5, 9, 10, 11] ∧ outsT 222 58 = [5] ∧
  liveT 223 26 = [1, 8, 9, 10] ∧ outsT 223 26 = [4] ∧
  liveT 224 122 = [0, 2, 3, 4, 5] ∧ outsT 224 122 = [0, 2, 3] ∧
  liveT 224 250 = [0, 2, 3, 7] ∧ outsT 224 250 = [2, 3] ∧
  liveT 224 32034 = [0, 2, 3, 7, 8] ∧ outsT 224 32034 = [0, 2, 3, 7] ∧
  liveT 228 14 = [0, 1, 2, 3, 8, 9] ∧ outsT 228 14 = [] ∧
  liveT 234 26 = [0, 5, 6, 7] ∧ outsT 234 26 = [2] ∧
  liveT 235 122 = [0, 3, 4, 5] ∧ outsT 235 122 = [3] ∧
  liveT 236 58 = [0, 3] ∧ outsT 236 58 = [0, 2] ∧
  liveT 236 59690 = [0, 3, 4, 5] ∧ outsT 236 59690 = [0, 3] ∧
  liveT 240 26 = [0, 1, 5] ∧ outsT 240 26 = [4] ∧
  liveT 241 58 = [0, 3, 4] ∧ outsT 241 58 = [0, 2, 3] ∧
  liveT 242 122 = [1, 3, 4] ∧ outsT 242 122 = [3] ∧
  liveT 249 26 = [2, 3, 24, 25, 26] ∧ outsT 249 26 = [2, 3, 4] ∧
  liveT 249 122 = [2, 3, 56, 57] ∧ outsT 249 122 = [2, 3, 4] ∧
  liveT 250 26 = [0, 1, 7, 8] ∧ outsT 250 26 = [4] ∧
  liveT 251 122 = [0, 5, 23, 24, 25] ∧ outsT 251 122 = [4] ∧
  liveT 252 2044 = [0, 1, 5, 6, 7, 8, 9, 10] ∧ outsT 252 2044 = [4] ∧
  liveT 255 122 = [2, 4, 5, 6] ∧ outsT 255 122 = [2, 3, 4, 5] ∧
  liveT 258 2044 = [0, 1, 2, 3, 9, 10] ∧ outsT 258 2044 = [0, 9, 10] ∧
  liveT 262 250 = [2, 4, 5, 16, 17, 18] ∧ outsT 262 250 = [2, 3, 4, 5] ∧
  liveT 268 122 = [0, 1, 6, 7] ∧ outsT 268 122 = [4, 5] ∧
  liveT 270 124 = [0, 1, 6, 7] ∧ outsT 270 124 = [0, 1, 4, 5, 6, 7] ∧
  liveT 272 28 = [0, 1, 5] ∧ outsT 272 28 = [1, 5] ∧
  liveT 272 232174 = [0, 1, 5, 6, 7, 8] ∧ outsT 272 232174 = [0, 1, 5] ∧
  liveT 272 3714990 = [0, 1, 5, 9, 10, 11] ∧ outsT 272 3714990 = [0, 1, 5] ∧
  liveT 273 26 = [0, 3] ∧ outsT 273 26 = [0, 2] ∧
  liveT 274 58 = [0, 3, 4] ∧ outsT 274 58 = [3] ∧
  liveT 275 122 = [0, 1, 5] ∧ outsT 275 122 = [1, 4] ∧
  liveT 277 58 = [0, 3, 4] ∧ outsT 277 58 = [3] ∧
  liveT 278 58 = [0, 1, 5] ∧ outsT 278 58 = [4] ∧
  liveT 279 26 = [1, 3] ∧ outsT 279 26 = [1, 2] ∧
  liveT 279 6734 = [1, 3, 4, 5] ∧ outsT 279 6734 = [1, 2, 3] ∧
  liveT 280 122 = [2, 3, 4, 5, 6, 7] ∧ outsT 280 122 = [3, 4, 5, 6] ∧
  liveT 281 26 = [1, 3] ∧ outsT 281 26 = [2] ∧
  liveT 282 58 = [1, 2, 4, 5, 6] ∧ outsT 282 58 = [4, 5] ∧
  liveT 286 122 = [5, 6, 7, 16, 17, 18] ∧ outsT 286 122 = [5, 6, 7] ∧
  liveT 289 6 = [0, 1, 2, 6] ∧ outsT 289 6 = [] ∧
  liveT 289 402 = [0, 1, 2, 6, 7] ∧ outsT 289 402 = [0, 1, 2, 6] ∧
  liveT 290 122 = [0, 6, 7, 8, 9] ∧ outsT 290 122 = [0, 6, 7, 8] ∧
  liveT 290 126 = [0, 6, 7, 10] ∧ outsT 290 126 = [] ∧
  liveT 291 238 = [0, 1, 6, 7, 8, 9] ∧ outsT 291 238 = [] ∧
  liveT 293 14 = [0, 6, 7] ∧ outsT 293 14 = [] ∧
  liveT 294 58 = [0, 1, 2, 7, 8] ∧ outsT 294 58 = [6] ∧
  liveT 294 3728 = [0, 1, 2, 7, 8] ∧ outsT 294 3728 = [0, 1, 2, 7, 8] ∧
  liveT 294 477674 = [0, 1, 2, 7, 8, 9] ∧ outsT 294 477674 = [0, 1, 2, 7, 8] ∧
  liveT 294 477690 = [0, 1, 2, 7, 8, 10] ∧ outsT 294 477690 = [0, 1, 2, 7, 8] ∧
  liveT 296 60 = [0, 1, 9, 10] ∧ outsT 296 60 = [9] ∧
  liveT 296 960 = [0, 1, 9, 10] ∧ outsT 296 960 = [0, 1, 9, 10] ∧
  liveT 296 1924 = [0, 1, 9, 10] ∧ outsT 296 1924 = [0, 1, 9, 10] ∧
  liveT 297 60 = [0, 1, 10, 11] ∧ outsT 297 60 = [0, 1, 10, 11] ∧
  liveT 297 124 = [0, 1, 10, 11] ∧ outsT 297 124 = [0, 1, 10, 11] ∧
  liveT 297 4092 = [0, 1, 10, 11] ∧ outsT 297 4092 = [0, 1, 11] ∧
  liveT 297 65472 = [0, 1, 10, 11] ∧ outsT 297 65472 = [0, 1, 10, 11] ∧
  liveT 297 130948 = [0, 1, 10, 11] ∧ outsT 297 130948 = [0, 1, 10, 11] ∧
  liveT 301 28 = [0, 1, 2, 6, 7, 8] ∧ outsT 301 28 = [0, 1, 2, 6, 7] ∧
  liveT 301 62 = [0, 1, 2, 6] ∧ outsT 301 62 = [] ∧
  liveT 301 3988 = [0, 1, 2, 6, 7, 8] ∧ outsT 301 3988 = [0, 1, 2, 6, 7] ∧
  liveT 303 26 = [1, 3] ∧ outsT 303 26 = [1, 2] ∧
  liveT 305 58 = [1, 5, 6, 7] ∧ outsT 305 58 = [4] ∧
  liveT 306 14 = [0, 1, 2, 3, 4, 10, 11] ∧ outsT 306 14 = [] ∧
  liveT 313 250 = [0, 1, 5, 6, 7, 8, 9] ∧ outsT 313 250 = [0, 1, 5, 6, 7, 8] ∧
  liveT 313 1018 = [0, 1, 5, 6, 7, 8, 10] ∧ outsT 313 1018 = [4] ∧
  liveT 315 26 = [0, 3] ∧ outsT 315 26 = [0, 2] ∧
  liveT 316 250 = [0, 1, 6, 7] ∧ outsT 316 250 = [0, 1, 6] ∧
  liveT 317 62 = [0, 1, 5] ∧ outsT 317 62 = [4] ∧
  liveT 322 58 = [0, 4, 5] ∧ outsT 322 58 = [0, 2, 3, 4] ∧
  liveT 323 3770 = [5, 6, 47, 48, 49] ∧ outsT 323 3770 = [2, 3, 5, 6] ∧
  liveT 329 26 = [0, 3] ∧ outsT 329 26 = [0, 2] ∧
  liveT 331 122 = [2, 5, 6, 7, 8] ∧ outsT 331 122 = [5, 6, 7] ∧
  liveT 333 26 = [0, 1, 7, 8] ∧ outsT 333 26 = [4] ∧
  liveT 335 6 = [0, 2, 3, 8] ∧ outsT 335 6 = [] ∧
  liveT 341 6 = [0, 1, 2, 3, 8] ∧ outsT 341 6 = [] ∧
  liveT 341 402 = [0, 1, 2, 3, 8, 9] ∧ outsT 341 402 = [0, 1, 2, 3, 8] ∧
  liveT 342 172 = [0, 1, 4, 10, 11] ∧ outsT 342 172 = [0, 1, 10] ∧
  liveT 342 428 = [0, 2, 4, 14, 15] ∧ outsT 342 428 = [0, 2, 14] ∧
  liveT 342 698 = [0, 10, 13] ∧ outsT 342 698 = [] ∧
  liveT 342 1020 = [0, 1, 2, 3, 4, 18, 19, 20, 21, 22] ∧ outsT 342 1020 = [0, 1, 2, 3, 4, 18, 19, 20] ∧
  liveT 342 1722 = [0, 14, 17] ∧ outsT 342 1722 = [] ∧
  liveT 344 26 = [0, 3] ∧ outsT 344 26 = [0, 2] ∧
  liveT 346 6 = [0, 1, 2, 3, 8] ∧ outsT 346 6 = [] ∧
  liveT 346 402 = [0, 1, 2, 3, 8, 9] ∧ outsT 346 402 = [0, 1, 2, 3, 8] ∧
  liveT 347 122 = [0, 3, 8, 9, 10, 11] ∧ outsT 347 122 = [0, 3, 8, 9, 10] ∧
  liveT 347 126 = [0, 3, 8, 9, 12] ∧ outsT 347 126 = [] ∧
  liveT 348 238 = [0, 1, 8, 9, 10, 11] ∧ outsT 348 238 = [] ∧
  liveT 350 14 = [0, 8, 9] ∧ outsT 350 14 = [] ∧
  liveT 351 58 = [0, 1, 2, 3, 9, 10] ∧ outsT 351 58 = [8] ∧
  liveT 351 3728 = [0, 1, 2, 3, 9, 10] ∧ outsT 351 3728 = [0, 1, 2, 3, 9, 10] ∧
  liveT 351 477674 = [0, 1, 2, 3, 9, 10, 11] ∧ outsT 351 477674 = [0, 1, 2, 3, 9, 10] ∧
  liveT 351 477690 = [0, 1, 2, 3, 9, 10, 12] ∧ outsT 351 477690 = [0, 1, 2, 3, 9, 10] ∧
  liveT 352 60 = [0, 1, 4, 11, 12] ∧ outsT 352 60 = [11] ∧
  liveT 352 960 = [0, 1, 4, 11, 12] ∧ outsT 352 960 = [0, 1, 4, 11, 12] ∧
  liveT 352 1924 = [0, 1, 4, 11, 12] ∧ outsT 352 1924 = [0, 1, 4, 11, 12] ∧
  liveT 353 60 = [0, 1, 4, 12, 13] ∧ outsT 353 60 = [0, 1, 4, 12, 13] ∧
  liveT 353 124 = [0, 1, 4, 12, 13] ∧ outsT 353 124 = [0, 1, 4, 12, 13] ∧
  liveT 353 4092 = [0, 1, 4, 12, 13] ∧ outsT 353 4092 = [0, 1, 13] ∧
  liveT 353 65472 = [0, 1, 4, 12, 13] ∧ outsT 353 65472 = [0, 1, 4, 12, 13] ∧
  liveT 353 130948 = [0, 1, 4, 12, 13] ∧ outsT 353 130948 = [0, 1, 4, 12, 13] ∧
  liveT 354 26 = [1, 13, 14, 15] ∧ outsT 354 26 = [1, 2] ∧
  liveT 354 58 = [1, 24, 25, 26] ∧ outsT 354 58 = [1, 2] ∧
  liveT 358 58 = [0, 4, 5] ∧ outsT 358 58 = [0, 4] ∧
  liveT 358 250 = [4, 6, 7, 8] ∧ outsT 358 250 = [4, 6] ∧
  liveT 361 26 = [2, 4] ∧ outsT 361 26 = [2] ∧
  liveT 374 26 = [0, 4] ∧ outsT 374 26 = [2, 3] ∧
  liveT 377 28 = [0, 2, 4, 10, 11] ∧ outsT 377 28 = [0, 2, 4, 10] ∧
  liveT 379 26 = [0, 3] ∧ outsT 379 26 = [0, 2] ∧
  liveT 380 6 = [0, 2, 3, 4, 10] ∧ outsT 380 6 = [] ∧
  liveT 385 12 = [0, 1] ∧ outsT 385 12 = [0] ∧
  liveT 386 26 = [0, 2, 4] ∧ outsT 386 26 = [2, 3] ∧
  liveT 387 12 = [0, 1] ∧ outsT 387 12 = [0] ∧
  liveT 388 12 = [0, 1] ∧ outsT 388 12 = [0] ∧
  liveT 392 12 = [0, 1, 4] ∧ outsT 392 12 = [0, 1, 4] ∧
  liveT 393 4060 = [0, 1, 3, 4, 10, 11, 12, 13, 17] ∧ outsT 393 4060 = [0, 1, 3, 4, 10, 11, 12, 13] ∧
  liveT 393 16220 = [0, 1, 3, 4, 10, 11, 12, 13, 14, 15, 16] ∧ outsT 393 16220 = [0, 1, 3, 4, 10, 11, 12, 13] ∧
  liveT 394 32762 = [1, 8, 9, 10, 11, 12, 13, 99, 100, 101] ∧ outsT 394 32762 = [6, 7, 9, 12, 13] ∧
  liveT 397 58 = [0, 1, 6, 7] ∧ outsT 397 58 = [0, 4, 5, 6] ∧
  liveT 398 26 = [0, 1, 5] ∧ outsT 398 26 = [4] ∧
  liveT 399 506 = [0, 1, 5, 6, 7, 8, 9, 10] ∧ outsT 399 506 = [0, 1, 5, 6, 7, 8, 9] ∧
  liveT 399 2042 = [0, 1, 5, 6, 7, 9, 11] ∧ outsT 399 2042 = [4] ∧
  liveT 400 6 = [0, 1, 2, 3, 10] ∧ outsT 400 6 = [] ∧
  liveT 409 508 = [0, 3, 4, 5] ∧ outsT 409 508 = [2, 3] ∧
  liveT 410 58 = [0, 4, 5] ∧ outsT 410 58 = [0, 4] ∧
  liveT 410 250 = [4, 6, 7, 8] ∧ outsT 410 250 = [4, 6] ∧
  liveT 411 882 = [175] ∧ outsT 411 882 = [4] ∧
  liveT 411 57276 = [0, 7, 8, 9] ∧ outsT 411 57276 = [4] ∧
  liveT 411 14662730 = [0, 7, 8, 9, 12] ∧ outsT 411 14662730 = [8, 9] ∧
  liveT 411 14663598 = [0, 7, 8, 9, 14, 15] ∧ outsT 411 14663598 = [4] ∧
  liveT 411 7507762322 = [0, 7, 8, 9, 14, 15, 16] ∧ outsT 411 7507762322 = [0, 7, 8, 9, 14, 15] :=
  ⟨LT_10_16378, OT_10_16378, LT_10_2096422, OT_10_2096422, LT_11_1018, OT_11_1018, LT_11_2042, OT_11_2042, LT_11_522830, OT_11_522830, LT_33_506, OT_33_506, LT_33_2042, OT_33_2042, LT_37_58, OT_37_58, LT_43_58, OT_43_58, LT_45_58, OT_45_58, LT_47_122, OT_47_122, LT_47_501370, OT_47_501370, LT_51_26, OT_51_26, LT_55_506, OT_55_506, LT_56_60, OT_56_60, LT_59_58, OT_59_58, LT_60_60, OT_60_60, LT_61_58, OT_61_58, LT_63_26, OT_63_26, LT_64_26, OT_64_26, LT_65_26, OT_65_26, LT_67_26, OT_67_26, LT_69_58, OT_69_58, LT_70_122, OT_70_122, LT_70_250, OT_70_250, LT_70_512634, OT_70_512634, LT_72_122, OT_72_122, LT_73_122, OT_73_122, LT_74_1018, OT_74_1018, LT_75_58, OT_75_58, LT_76_58, OT_76_58, LT_77_250, OT_77_250, LT_78_58, OT_78_58, LT_79_58, OT_79_58, LT_81_122, OT_81_122, LT_85_250, OT_85_250, LT_86_58, OT_86_58, LT_86_59706, OT_86_59706, LT_87_26, OT_87_26, LT_88_122, OT_88_122, LT_89_58, OT_89_58, LT_91_120822, OT_91_120822, LT_91_966638, OT_91_966638, LT_92_58, OT_92_58, LT_94_58, OT_94_58, LT_95_1018, OT_95_1018, LT_98_124, OT_98_124, LT_99_2, OT_99_2, LT_100_122, OT_100_122, LT_101_2, OT_101_2, LT_102_26, OT_102_26, LT_103_122, OT_103_122, LT_104_26, OT_104_26, LT_105_30198, OT_105_30198, LT_107_506, OT_107_506, LT_107_1018, OT_107_1018, LT_108_26, OT_108_26, LT_109_58, OT_109_58, LT_110_58, OT_110_58, LT_111_58, OT_111_58, LT_112_1018, OT_112_1018, LT_113_122, OT_113_122, LT_114_26, OT_114_26, LT_115_26, OT_115_26, LT_116_58, OT_116_58, LT_117_58, OT_117_58, LT_118_58, OT_118_58, LT_123_58, OT_123_58, LT_125_58, OT_125_58, LT_126_26, OT_126_26, LT_127_58, OT_127_58, LT_127_29854, OT_127_29854, LT_128_122, OT_128_122, LT_132_122, OT_132_122, LT_132_250682, OT_132_250682, LT_133_1018, OT_133_1018, LT_138_58, OT_138_58, LT_139_122, OT_139_122, LT_141_26, OT_141_26, LT_142_26, OT_142_26, LT_143_28, OT_143_28, LT_144_58, OT_144_58, LT_145_58, OT_145_58, LT_146_58, OT_146_58, LT_146_122, OT_146_122, LT_146_125242, OT_146_125242, LT_147_26, OT_147_26, LT_148_26, OT_148_26, LT_151_26, OT_151_26, LT_152_26, OT_152_26, LT_154_58, OT_154_58, LT_154_1962, OT_154_1962, LT_158_28, OT_158_28, LT_159_58, OT_159_58, LT_161_58, OT_161_58, LT_161_29852, OT_161_29852, LT_162_58, OT_162_58, LT_162_250, OT_162_250, LT_163_26, OT_163_26, LT_164_58, OT_164_58, LT_165_58, OT_165_58, LT_176_122, OT_176_122, LT_178_122, OT_178_122, LT_183_26, OT_183_26, LT_185_26, OT_185_26, LT_192_58, OT_192_58, LT_193_250, OT_193_250, LT_193_4090, OT_193_4090, LT_195_30, OT_195_30, LT_201_122, OT_201_122, LT_202_28, OT_202_28, LT_207_124, OT_207_124, LT_208_58, OT_208_58, LT_209_58, OT_209_58, LT_213_26, OT_213_26, LT_215_26, OT_215_26, LT_216_506, OT_216_506, LT_218_26, OT_218_26, LT_218_13518, OT_218_13518, LT_219_122, OT_219_122, LT_222_58, OT_222_58, LT_223_26, OT_223_26, LT_224_122, OT_224_122, LT_224_250, OT_224_250, LT_224_32034, OT_224_32034, LT_228_14, OT_228_14, LT_234_26, OT_234_26, LT_235_122, OT_235_122, LT_236_58, OT_236_58, LT_236_59690, OT_236_59690, LT_240_26, OT_240_26, LT_241_58, OT_241_58, LT_242_122, OT_242_122, LT_249_26, OT_249_26, LT_249_122, OT_249_122, LT_250_26, OT_250_26, LT_251_122, OT_251_122, LT_252_2044, OT_252_2044, LT_255_122, OT_255_122, LT_258_2044, OT_258_2044, LT_262_250, OT_262_250, LT_268_122, OT_268_122, LT_270_124, OT_270_124, LT_272_28, OT_272_28, LT_272_232174, OT_272_232174, LT_272_3714990, OT_272_3714990, LT_273_26, OT_273_26, LT_274_58, OT_274_58, LT_275_122, OT_275_122, LT_277_58, OT_277_58, LT_278_58, OT_278_58, LT_279_26, OT_279_26, LT_279_6734, OT_279_6734, LT_280_122, OT_280_122, LT_281_26, OT_281_26, LT_282_58, OT_282_58, LT_286_122, OT_286_122, LT_289_6, OT_289_6, LT_289_402, OT_289_402, LT_290_122, OT_290_122, LT_290_126, OT_290_126, LT_291_238, OT_291_238, LT_293_14, OT_293_14, LT_294_58, OT_294_58, LT_294_3728, OT_294_3728, LT_294_477674, OT_294_477674, LT_294_477690, OT_294_477690, LT_296_60, OT_296_60, LT_296_960, OT_296_960, LT_296_1924, OT_296_1924, LT_297_60, OT_297_60, LT_297_124, OT_297_124, LT_297_4092, OT_297_4092, LT_297_65472, OT_297_65472, LT_297_130948, OT_297_130948, LT_301_28, OT_301_28, LT_301_62, OT_301_62, LT_301_3988, OT_301_3988, LT_303_26, OT_303_26, LT_305_58, OT_305_58, LT_306_14, OT_306_14, LT_313_250, OT_313_250, LT_313_1018, OT_313_1018, LT_315_26, OT_315_26, LT_316_250, OT_316_250, LT_317_62, OT_317_62, LT_322_58, OT_322_58, LT_323_3770, OT_323_3770, LT_329_26, OT_329_26, LT_331_122, OT_331_122, LT_333_26, OT_333_26, LT_335_6, OT_335_6, LT_341_6, OT_341_6, LT_341_402, OT_341_402, LT_342_172, OT_342_172, LT_342_428, OT_342_428, LT_342_698, OT_342_698, LT_342_1020, OT_342_1020, LT_342_1722, OT_342_1722, LT_344_26, OT_344_26, LT_346_6, OT_346_6, LT_346_402, OT_346_402, LT_347_122, OT_347_122, LT_347_126, OT_347_126, LT_348_238, OT_348_238, LT_350_14, OT_350_14, LT_351_58, OT_351_58, LT_351_3728, OT_351_3728, LT_351_477674, OT_351_477674, LT_351_477690, OT_351_477690, LT_352_60, OT_352_60, LT_352_960, OT_352_960, LT_352_1924, OT_352_1924, LT_353_60, OT_353_60, LT_353_124, OT_353_124, LT_353_4092, OT_353_4092, LT_353_65472, OT_353_65472, LT_353_130948, OT_353_130948, LT_354_26, OT_354_26, LT_354_58, OT_354_58, LT_358_58, OT_358_58, LT_358_250, OT_358_250, LT_361_26, OT_361_26, LT_374_26, OT_374_26, LT_377_28, OT_377_28, LT_379_26, OT_379_26, LT_380_6, OT_380_6, LT_385_12, OT_385_12, LT_386_26, OT_386_26, LT_387_12, OT_387_12, LT_388_12, OT_388_12, LT_392_12, OT_392_12, LT_393_4060, OT_393_4060, LT_393_16220, OT_393_16220, LT_394_32762, OT_394_32762, LT_397_58, OT_397_58, LT_398_26, OT_398_26, LT_399_506, OT_399_506, LT_399_2042, OT_399_2042, LT_400_6, OT_400_6, LT_409_508, OT_409_508, LT_410_58, OT_410_58, LT_410_250, OT_410_250, LT_411_882, OT_411_882, LT_411_57276, OT_411_57276, LT_411_14662730, OT_411_14662730, LT_411_14663598, OT_411_14663598, LT_411_7507762322, OT_411_7507762322⟩
end Go.Proofs.YtkpmachalipmpaaGreatDoor
