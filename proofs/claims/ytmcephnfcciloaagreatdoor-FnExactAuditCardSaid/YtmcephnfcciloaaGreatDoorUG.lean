/- Joined: T2 XL X1 X2 X3 X4 LT. Conditions: those of each lemma. -/
import Derived.Test.YtmcephnfcciloaaGreatDoorUF
import Derived.Shelf.Strings.Builder1
import Derived.Shelf.Strings.Builder2
import Derived.Shelf.Strings.OnBuilder
import Derived.Shelf.Small.Utf8
import Derived.Shelf.Small.Bits
import Derived.Shelf.Small.Strs
import Derived.Shelf.Utf8.RuneCount
import Derived.Shelf.Strconv.Atoi
import Derived.Shelf.Strconv.Itoa0
import Derived.Shelf.Strconv.Itoa1
import Derived.Shelf.LaysM
import Derived.Shelf.Strconv.Itoa2
import Derived.Shelf.Strconv.Itoa3
import Derived.Shelf.Strconv.AtoiErrFast
import Derived.Shelf.Strconv.ParseIntEmpty
import Derived.Shelf.Strconv.AtoiFail
import Derived.Shelf.Strconv.Clone
import Derived.Shelf.Strconv.SyntaxError
import Derived.Shelf.LaysC
import Derived.Shelf.Strconv.ToError
import Derived.Shelf.Strconv.Lower
import Derived.Shelf.Strconv.ParseUint10
import Derived.Shelf.Strconv.ParseUint10Empty
import Derived.Shelf.Strconv.ParseUint10Any
import Derived.Shelf.Strconv.ParseInt10
import Derived.Shelf.Strconv.AtoiLong
import Derived.Shelf.Strconv.AtoiInnerAll
import Derived.Shelf.Strconv.RangeError
import Derived.Shelf.Strconv.ToErrorRange
import Derived.Shelf.Strconv.AtoiAll
import Derived.Shelf.Strconv.ErrVarAll
import Derived.Shelf.Strings.Search1
import Derived.Shelf.Strings.Search2
import Derived.Shelf.Strings.Search3
import Derived.Shelf.Strings.Cut
import Derived.Shelf.Strings.Count
import Derived.Shelf.Strings.Shaped
import Derived.Shelf.Sort.Plain
import Derived.Shelf.Strings.Split
import Derived.Shelf.Strings.SplitShaped
import Derived.Shelf.Unicode.Decode
import Derived.Shelf.Strings.Runes
import Derived.Shelf.Strings.RuneCount
import Derived.Shelf.Strings.AsciiSet
import Derived.Shelf.Strings.Explode
import Derived.Shelf.Unicode.DecodeSlow
import Derived.Shelf.Unicode.DecodeAny
import Derived.Ground.Names2Prog
import Derived.Shelf.Slices.Clone
import Derived.Ground.SlgnProg
import Derived.Shelf.SlicesE.Clone
import Derived.Test.YtmcephnfcciloaaGreatDoorProg
import Derived.Lib.SortBridge
import Derived.Shelf.Slices.In.SortNone
import Derived.KernelRfl
set_option linter.unusedVariables false
set_option linter.unusedSimpArgs false
namespace Go.Proofs.YtmcephnfcciloaaGreatDoor
open E
set_option linter.unusedSimpArgs false
set_option linter.unusedVariables false
set_option maxRecDepth 100000
/-- a list of texts -/
def y6 (ks : List (List UInt8)) : List (List T) := ks.map fun s => [.str s]
def yk : List (List UInt8) → Nat
  | [] => 0
  | s :: ks => s.length + yk ks
theorem zP (ks : List (List UInt8)) : (y6 ks).length = ks.length := by simp [y6]
theorem wX (ks : List (List UInt8)) (i : Nat) (h : i < ks.length) : (y6 ks)[i]? = some [.str ks[i]] := by simp [y6, h]
theorem dv (ks : List (List UInt8)) (i : Nat) (h : i < ks.length) : yk (ks.drop i) = ks[i].length + yk (ks.drop (i + 1)) := by
  rw [List.drop_eq_getElem_cons h]; rfl
/-- a row filled up to a place -/
def wo (xs : List (List T)) (z : List T) (i : Nat) : List (List T) := xs.take i ++ List.replicate (xs.length - i) z
theorem uW (xs : List (List T)) (z : List T) : wo xs z 0 = List.replicate xs.length z := by simp [wo]
theorem pf (xs : List (List T)) (z : List T) : wo xs z xs.length = xs := by simp [wo]
theorem pe (xs : List (List T)) (z : List T) (i : Nat) (h : i < xs.length) : (wo xs z i)[i]? = some z := by
  unfold wo
  rw [List.getElem?_append_right (by simp; omega), List.getElem?_replicate, if_pos (by simp; omega)]
theorem pd (xs : List (List T)) (z : List T) (i : Nat) (h : i < xs.length) : (wo xs z i).set i xs[i] = wo xs z (i + 1) := by
  unfold wo
  apply List.ext_getElem?
  intro j
  rw [List.getElem?_set]
  by_cases hj : i = j
  · subst hj
    rw [if_pos rfl, if_pos (by simp; omega), List.getElem?_append_left (by simp; omega)]
    simp [h]
  · rw [if_neg hj]
    rcases Nat.lt_or_ge j i with hlt | hge
    · rw [List.getElem?_append_left (by simp; omega), List.getElem?_append_left (by simp; omega)]
      rw [List.getElem?_take, List.getElem?_take, if_pos hlt, if_pos (by omega)]
    · rw [List.getElem?_append_right (by simp; omega), List.getElem?_append_right (by simp; omega), List.getElem?_replicate, List.getElem?_replicate]
      simp only [List.length_take]
      by_cases hk : j < xs.length
      · rw [if_pos (by omega), if_pos (by omega)]
      · rw [if_neg (by omega), if_neg (by omega)]
inductive Tr where
  | mk (k n : Int) (s : List UInt8) (ks : List (List UInt8)) (cs : List Tr)
mutual
def Tr.enc : Tr → List T
  | .mk k n s ks cs => [.int .i64 k, .int .i64 n, .str s, .list 1 (y6 ks), .list 5 (Tr.zV cs)]
def Tr.zV : List Tr → List (List T)
  | [] => []
  | c :: cs => Tr.enc c :: Tr.zV cs
end
mutual
def Tr.yh : Tr → Nat
  | .mk _ _ s ks cs => s.length + ks.length + yk ks + cs.length + Tr.ya cs
def Tr.ya : List Tr → Nat
  | [] => 0
  | c :: cs => Tr.yh c + Tr.ya cs
end
mutual
def Tr.ok : Tr → Prop
  | .mk _ _ s ks cs => s.length ≤ 9223372036854775807 ∧ ks.length ≤ 9223372036854775807 ∧ (∀ x ∈ ks, x.length ≤ 9223372036854775807) ∧ cs.length ≤ 9223372036854775807 ∧ Tr.oks cs
def Tr.oks : List Tr → Prop
  | [] => True
  | c :: cs => Tr.ok c ∧ Tr.oks cs
end
theorem Tr.jw : ∀ cs : List Tr, Tr.zV cs = cs.map Tr.enc
  | [] => rfl
  | c :: cs => by simp [Tr.zV, Tr.jw cs]
theorem Tr.zR (cs : List Tr) : (Tr.zV cs).length = cs.length := by simp [Tr.jw]
theorem Tr.yR (cs : List Tr) (i : Nat) (h : i < cs.length) : (Tr.zV cs)[i]? = some cs[i].enc := by simp [Tr.jw, h]
theorem Tr.xi (cs : List Tr) (i : Nat) (h : i < cs.length) : Tr.ya (cs.drop i) = cs[i].yh + Tr.ya (cs.drop (i + 1)) := by
  rw [List.drop_eq_getElem_cons h]; rfl
theorem Tr.yp : ∀ {cs : List Tr} {c : Tr}, c ∈ cs → c.yh ≤ Tr.ya cs
  | c' :: cs, c, h => by
    simp only [Tr.ya]
    rcases List.mem_cons.1 h with rfl | h
    · omega
    · have := Tr.yp h; omega
end Go.Proofs.YtmcephnfcciloaaGreatDoor
/- The shelf's contracts at this program, laid by the kit's own tool. Conditions: none. -/
namespace Go.Proofs
open Go.Shelf
def Tryz.lays156_ren : Go.Shelf.Ren := ⟨fun | 156 => 165 | 165 => 187 | 166 => 188 | 169 => 189 | 240 => 206 | 241 => 207 | 276 => 219 | 277 => 220 | n => n, fun | 31 => 22 | 9 => 9 | 3 => 3 | 4 => 4 | 0 => 0 | 20 => 20 | 72 => 176 | 76 => 161 | 70 => 174 | 37 => 89 | 75 => 160 | 127 => 189 | 164 => 210 | 5 => 5 | 80 => 178 | n => n, fun | n => n⟩
theorem Tryz.lays156 : Go.Proofs.Lays.n156 Tryz.prog Tryz.lays156_ren := {
  mixed := by kernel_rfl
  f156 := Tryz.func165.trans (congrArg some (by kernel_rfl))
  f165 := Tryz.func187.trans (congrArg some (by kernel_rfl))
  f166 := Tryz.func188.trans (congrArg some (by kernel_rfl))
  f169 := Tryz.func189.trans (congrArg some (by kernel_rfl))
  f240 := Tryz.func206.trans (congrArg some (by kernel_rfl))
  f241 := Tryz.func207.trans (congrArg some (by kernel_rfl))
  f276 := Tryz.func219.trans (congrArg some (by kernel_rfl))
  f277 := Tryz.func220.trans (congrArg some (by kernel_rfl))
  t0 := Tryz.underlying0
  a0 := Tryz.isAgg0
  z0 := Tryz.sizeOf0
  v0 := Tryz.zeroValue0
  t3 := Tryz.underlying3
  a3 := Tryz.isAgg3
  z3 := Tryz.sizeOf3
  v3 := Tryz.zeroValue3
  t4 := Tryz.underlying4
  a4 := Tryz.isAgg4
  z4 := Tryz.sizeOf4
  v4 := Tryz.zeroValue4
  t9 := Tryz.underlying9
  a9 := Tryz.isAgg9
  z9 := Tryz.sizeOf9
  v9 := Tryz.zeroValue9
  t20 := Tryz.underlying20
  a20 := Tryz.isAgg20
  z20 := Tryz.sizeOf20
  v20 := Tryz.zeroValue20
  t31 := Tryz.underlying22
  a31 := Tryz.isAgg22
  z31 := Tryz.sizeOf22
  v31 := Tryz.zeroValue22
  t37 := Tryz.underlying89
  a37 := Tryz.isAgg89
  z37 := Tryz.sizeOf89
  v37 := Tryz.zeroValue89
  t70 := Tryz.underlying174
  a70 := Tryz.isAgg174
  z70 := Tryz.sizeOf174
  v70 := Tryz.zeroValue174
  t72 := Tryz.underlying176
  a72 := Tryz.isAgg176
  z72 := Tryz.sizeOf176
  v72 := Tryz.zeroValue176
  t75 := Tryz.underlying160
  a75 := Tryz.isAgg160
  z75 := Tryz.sizeOf160
  v75 := Tryz.zeroValue160
  t76 := Tryz.underlying161
  a76 := Tryz.isAgg161
  z76 := Tryz.sizeOf161
  v76 := Tryz.zeroValue161
  t127 := Tryz.underlying189
  a127 := Tryz.isAgg189
  z127 := Tryz.sizeOf189
  v127 := Tryz.zeroValue189
  t164 := Tryz.underlying210
  a164 := Tryz.isAgg210
  z164 := Tryz.sizeOf210
  v164 := Tryz.zeroValue210 }
theorem Tryz.Builder_Extra_156 : Builder.Extra Tryz.prog Tryz.lays156_ren := {
  sizeBuilder := by kernel_rfl
  liesBuilder := by kernel_rfl
  t5 := Tryz.underlying5
  a5 := Tryz.isAgg5
  z5 := Tryz.sizeOf5
  v5 := Tryz.zeroValue5
  infoByte := by kernel_rfl
  cellsByte := by kernel_rfl
  sizeByte := by kernel_rfl
  neB5 := by decide }
def Tryz.lays106_ren : Go.Shelf.Ren := ⟨fun | 106 => 191 | 213 => 212 | 265 => 223 | n => n, fun | 9 => 9 | 3 => 3 | n => n, fun | n => n⟩
theorem Tryz.lays106 : Go.Proofs.Lays.n106 Tryz.prog Tryz.lays106_ren := {
  mixed := by kernel_rfl
  f106 := Tryz.func191.trans (congrArg some (by kernel_rfl))
  f213 := Tryz.func212.trans (congrArg some (by kernel_rfl))
  f265 := Tryz.func223.trans (congrArg some (by kernel_rfl))
  t3 := Tryz.underlying3
  a3 := Tryz.isAgg3
  z3 := Tryz.sizeOf3
  v3 := Tryz.zeroValue3
  t9 := Tryz.underlying9
  a9 := Tryz.isAgg9
  z9 := Tryz.sizeOf9
  v9 := Tryz.zeroValue9 }
def Tryz.laysM171_ren : Go.Shelf.Ren := ⟨fun | 171 => 183 | 243 => 205 | 246 => 218 | 283 => 226 | 284 => 227 | 285 => 228 | 286 => 229 | 129 => 149 | 317 => 231 | 318 => 232 | 319 => 233 | 320 => 234 | 337 => 237 | 338 => 238 | n => n, fun | 3 => 3 | 9 => 9 | 2 => 2 | 4 => 4 | 171 => 218 | 0 => 0 | 53 => 153 | 37 => 89 | 5 => 5 | 173 => 220 | 212 => 224 | 51 => 151 | 20 => 20 | 213 => 225 | 46 => 120 | 232 => 228 | 233 => 229 | n => n, fun | 17 => 5 | 18 => 6 | 19 => 7 | n => n⟩
theorem Tryz.laysM171 : Go.Proofs.LaysM.n171 Tryz.prog Tryz.laysM171_ren := {
  mixed := by kernel_rfl
  f129 := Tryz.func149.trans (congrArg some (by kernel_rfl))
  f171 := Tryz.func183.trans (congrArg some (by kernel_rfl))
  f243 := Tryz.func205.trans (congrArg some (by kernel_rfl))
  f246 := Tryz.func218.trans (congrArg some (by kernel_rfl))
  f283 := Tryz.func226.trans (congrArg some (by kernel_rfl))
  f284 := Tryz.func227.trans (congrArg some (by kernel_rfl))
  f285 := Tryz.func228.trans (congrArg some (by kernel_rfl))
  f286 := Tryz.func229.trans (congrArg some (by kernel_rfl))
  f317 := Tryz.func231.trans (congrArg some (by kernel_rfl))
  f318 := Tryz.func232.trans (congrArg some (by kernel_rfl))
  f319 := Tryz.func233.trans (congrArg some (by kernel_rfl))
  f320 := Tryz.func234.trans (congrArg some (by kernel_rfl))
  f337 := Tryz.func237.trans (congrArg some (by kernel_rfl))
  f338 := Tryz.func238.trans (congrArg some (by kernel_rfl))
  t0 := Tryz.underlying0
  a0 := Tryz.isAgg0
  z0 := Tryz.sizeOf0
  v0 := Tryz.zeroValue0
  t2 := Tryz.underlying2
  a2 := Tryz.isAgg2
  z2 := Tryz.sizeOf2
  v2 := Tryz.zeroValue2
  t3 := Tryz.underlying3
  a3 := Tryz.isAgg3
  z3 := Tryz.sizeOf3
  v3 := Tryz.zeroValue3
  t4 := Tryz.underlying4
  a4 := Tryz.isAgg4
  z4 := Tryz.sizeOf4
  v4 := Tryz.zeroValue4
  t5 := Tryz.underlying5
  a5 := Tryz.isAgg5
  z5 := Tryz.sizeOf5
  v5 := Tryz.zeroValue5
  t9 := Tryz.underlying9
  a9 := Tryz.isAgg9
  z9 := Tryz.sizeOf9
  v9 := Tryz.zeroValue9
  t20 := Tryz.underlying20
  a20 := Tryz.isAgg20
  z20 := Tryz.sizeOf20
  v20 := Tryz.zeroValue20
  t37 := Tryz.underlying89
  a37 := Tryz.isAgg89
  z37 := Tryz.sizeOf89
  v37 := Tryz.zeroValue89
  t46 := Tryz.underlying120
  a46 := Tryz.isAgg120
  z46 := Tryz.sizeOf120
  v46 := Tryz.zeroValue120
  t51 := Tryz.underlying151
  a51 := Tryz.isAgg151
  z51 := Tryz.sizeOf151
  v51 := Tryz.zeroValue151
  t53 := Tryz.underlying153
  a53 := Tryz.isAgg153
  z53 := Tryz.sizeOf153
  v53 := Tryz.zeroValue153
  t171 := Tryz.underlying218
  a171 := Tryz.isAgg218
  z171 := Tryz.sizeOf218
  v171 := Tryz.zeroValue218
  t173 := Tryz.underlying220
  a173 := Tryz.isAgg220
  z173 := Tryz.sizeOf220
  v173 := Tryz.zeroValue220
  t212 := Tryz.underlying224
  a212 := Tryz.isAgg224
  z212 := Tryz.sizeOf224
  v212 := Tryz.zeroValue224
  t213 := Tryz.underlying225
  a213 := Tryz.isAgg225
  z213 := Tryz.sizeOf225
  t232 := Tryz.underlying228
  a232 := Tryz.isAgg228
  z232 := Tryz.sizeOf228
  v232 := Tryz.zeroValue228
  t233 := Tryz.underlying229
  a233 := Tryz.isAgg229
  z233 := Tryz.sizeOf229
  v233 := Tryz.zeroValue229
  g17 := by kernel_rfl
  g18 := by kernel_rfl
  g19 := by kernel_rfl
  i0 := by kernel_rfl
  i2 := by kernel_rfl
  i3 := by kernel_rfl
  i4 := by kernel_rfl
  i5 := by kernel_rfl
  i9 := by kernel_rfl
  i20 := by kernel_rfl
  i37 := by kernel_rfl
  i46 := by kernel_rfl
  i51 := by kernel_rfl
  i53 := by kernel_rfl
  i171 := by kernel_rfl
  i173 := by kernel_rfl
  i212 := by kernel_rfl
  i232 := by kernel_rfl
  i233 := by kernel_rfl
  m17 := by kernel_rfl
  m18 := by kernel_rfl
  m19 := by kernel_rfl }
def Tryz.laysC172_ren : Go.Shelf.Ren := ⟨fun | 172 => 162 | 244 => 181 | 245 => 182 | 247 => 200 | 279 => 201 | 280 => 202 | 281 => 203 | 282 => 204 | 287 => 215 | 316 => 216 | 171 => 183 | 205 => 217 | 321 => 224 | 322 => 225 | 243 => 205 | 246 => 218 | 283 => 226 | 284 => 227 | 285 => 228 | 286 => 229 | 129 => 149 | 317 => 231 | 318 => 232 | 319 => 233 | 320 => 234 | 337 => 237 | 338 => 238 | n => n, fun | 9 => 9 | 3 => 3 | 75 => 160 | 76 => 161 | 4 => 4 | 5 => 5 | 167 => 183 | 37 => 89 | 0 => 0 | 85 => 184 | 2 => 2 | 168 => 186 | 53 => 153 | 175 => 203 | 46 => 120 | 210 => 207 | 127 => 189 | 145 => 217 | 143 => 215 | 21 => 21 | 171 => 218 | 173 => 220 | 212 => 224 | 51 => 151 | 20 => 20 | 213 => 225 | 232 => 228 | 233 => 229 | 80 => 178 | n => n, fun | 15 => 3 | 16 => 4 | 17 => 5 | 18 => 6 | 19 => 7 | n => n⟩
theorem Tryz.laysC172 : Go.Proofs.LaysC.n172 Tryz.prog Tryz.laysC172_ren := {
  mixed := by kernel_rfl
  f129 := Tryz.func149.trans (congrArg some (by kernel_rfl))
  f171 := Tryz.func183.trans (congrArg some (by kernel_rfl))
  f172 := Tryz.func162.trans (congrArg some (by kernel_rfl))
  f205 := Tryz.func217.trans (congrArg some (by kernel_rfl))
  f243 := Tryz.func205.trans (congrArg some (by kernel_rfl))
  f244 := Tryz.func181.trans (congrArg some (by kernel_rfl))
  f245 := Tryz.func182.trans (congrArg some (by kernel_rfl))
  f246 := Tryz.func218.trans (congrArg some (by kernel_rfl))
  f247 := Tryz.func200.trans (congrArg some (by kernel_rfl))
  f279 := Tryz.func201.trans (congrArg some (by kernel_rfl))
  f280 := Tryz.func202.trans (congrArg some (by kernel_rfl))
  f281 := Tryz.func203.trans (congrArg some (by kernel_rfl))
  f282 := Tryz.func204.trans (congrArg some (by kernel_rfl))
  f283 := Tryz.func226.trans (congrArg some (by kernel_rfl))
  f284 := Tryz.func227.trans (congrArg some (by kernel_rfl))
  f285 := Tryz.func228.trans (congrArg some (by kernel_rfl))
  f286 := Tryz.func229.trans (congrArg some (by kernel_rfl))
  f287 := Tryz.func215.trans (congrArg some (by kernel_rfl))
  f316 := Tryz.func216.trans (congrArg some (by kernel_rfl))
  f317 := Tryz.func231.trans (congrArg some (by kernel_rfl))
  f318 := Tryz.func232.trans (congrArg some (by kernel_rfl))
  f319 := Tryz.func233.trans (congrArg some (by kernel_rfl))
  f320 := Tryz.func234.trans (congrArg some (by kernel_rfl))
  f321 := Tryz.func224.trans (congrArg some (by kernel_rfl))
  f322 := Tryz.func225.trans (congrArg some (by kernel_rfl))
  f337 := Tryz.func237.trans (congrArg some (by kernel_rfl))
  f338 := Tryz.func238.trans (congrArg some (by kernel_rfl))
  t0 := Tryz.underlying0
  a0 := Tryz.isAgg0
  z0 := Tryz.sizeOf0
  v0 := Tryz.zeroValue0
  t2 := Tryz.underlying2
  a2 := Tryz.isAgg2
  z2 := Tryz.sizeOf2
  v2 := Tryz.zeroValue2
  t3 := Tryz.underlying3
  a3 := Tryz.isAgg3
  z3 := Tryz.sizeOf3
  v3 := Tryz.zeroValue3
  t4 := Tryz.underlying4
  a4 := Tryz.isAgg4
  z4 := Tryz.sizeOf4
  v4 := Tryz.zeroValue4
  t5 := Tryz.underlying5
  a5 := Tryz.isAgg5
  z5 := Tryz.sizeOf5
  v5 := Tryz.zeroValue5
  t9 := Tryz.underlying9
  a9 := Tryz.isAgg9
  z9 := Tryz.sizeOf9
  v9 := Tryz.zeroValue9
  t20 := Tryz.underlying20
  a20 := Tryz.isAgg20
  z20 := Tryz.sizeOf20
  v20 := Tryz.zeroValue20
  t21 := Tryz.underlying21
  a21 := Tryz.isAgg21
  z21 := Tryz.sizeOf21
  v21 := Tryz.zeroValue21
  t37 := Tryz.underlying89
  a37 := Tryz.isAgg89
  z37 := Tryz.sizeOf89
  v37 := Tryz.zeroValue89
  t46 := Tryz.underlying120
  a46 := Tryz.isAgg120
  z46 := Tryz.sizeOf120
  v46 := Tryz.zeroValue120
  t51 := Tryz.underlying151
  a51 := Tryz.isAgg151
  z51 := Tryz.sizeOf151
  v51 := Tryz.zeroValue151
  t53 := Tryz.underlying153
  a53 := Tryz.isAgg153
  z53 := Tryz.sizeOf153
  v53 := Tryz.zeroValue153
  t75 := Tryz.underlying160
  a75 := Tryz.isAgg160
  z75 := Tryz.sizeOf160
  v75 := Tryz.zeroValue160
  t76 := Tryz.underlying161
  a76 := Tryz.isAgg161
  z76 := Tryz.sizeOf161
  v76 := Tryz.zeroValue161
  t85 := Tryz.underlying184
  a85 := Tryz.isAgg184
  z85 := Tryz.sizeOf184
  v85 := Tryz.zeroValue184
  t127 := Tryz.underlying189
  a127 := Tryz.isAgg189
  z127 := Tryz.sizeOf189
  v127 := Tryz.zeroValue189
  t143 := Tryz.underlying215
  a143 := Tryz.isAgg215
  z143 := Tryz.sizeOf215
  v143 := Tryz.zeroValue215
  t145 := Tryz.underlying217
  a145 := Tryz.isAgg217
  z145 := Tryz.sizeOf217
  v145 := Tryz.zeroValue217
  t167 := Tryz.underlying183
  a167 := Tryz.isAgg183
  z167 := Tryz.sizeOf183
  v167 := Tryz.zeroValue183
  t168 := Tryz.underlying186
  a168 := Tryz.isAgg186
  z168 := Tryz.sizeOf186
  v168 := Tryz.zeroValue186
  t171 := Tryz.underlying218
  a171 := Tryz.isAgg218
  z171 := Tryz.sizeOf218
  v171 := Tryz.zeroValue218
  t173 := Tryz.underlying220
  a173 := Tryz.isAgg220
  z173 := Tryz.sizeOf220
  v173 := Tryz.zeroValue220
  t175 := Tryz.underlying203
  a175 := Tryz.isAgg203
  z175 := Tryz.sizeOf203
  v175 := Tryz.zeroValue203
  t210 := Tryz.underlying207
  a210 := Tryz.isAgg207
  z210 := Tryz.sizeOf207
  v210 := Tryz.zeroValue207
  t212 := Tryz.underlying224
  a212 := Tryz.isAgg224
  z212 := Tryz.sizeOf224
  v212 := Tryz.zeroValue224
  t213 := Tryz.underlying225
  a213 := Tryz.isAgg225
  z213 := Tryz.sizeOf225
  t232 := Tryz.underlying228
  a232 := Tryz.isAgg228
  z232 := Tryz.sizeOf228
  v232 := Tryz.zeroValue228
  t233 := Tryz.underlying229
  a233 := Tryz.isAgg229
  z233 := Tryz.sizeOf229
  v233 := Tryz.zeroValue229
  g15 := by kernel_rfl
  g16 := by kernel_rfl
  g17 := by kernel_rfl
  g18 := by kernel_rfl
  g19 := by kernel_rfl
  t80 := Tryz.underlying178
  a80 := Tryz.isAgg178
  z80 := Tryz.sizeOf178
  v80 := Tryz.zeroValue178
  i0 := by kernel_rfl
  i2 := by kernel_rfl
  i3 := by kernel_rfl
  i4 := by kernel_rfl
  i5 := by kernel_rfl
  i9 := by kernel_rfl
  i20 := by kernel_rfl
  i21 := by kernel_rfl
  i37 := by kernel_rfl
  i46 := by kernel_rfl
  i51 := by kernel_rfl
  i53 := by kernel_rfl
  i75 := by kernel_rfl
  i76 := by kernel_rfl
  i80 := by kernel_rfl
  i85 := by kernel_rfl
  i127 := by kernel_rfl
  i143 := by kernel_rfl
  i145 := by kernel_rfl
  i167 := by kernel_rfl
  i168 := by kernel_rfl
  i171 := by kernel_rfl
  i173 := by kernel_rfl
  i175 := by kernel_rfl
  i210 := by kernel_rfl
  i212 := by kernel_rfl
  i232 := by kernel_rfl
  i233 := by kernel_rfl
  m15 := by kernel_rfl
  m16 := by kernel_rfl
  m17 := by kernel_rfl
  m18 := by kernel_rfl
  m19 := by kernel_rfl
  c0 := by kernel_rfl
  c2 := by kernel_rfl
  c3 := by kernel_rfl
  c4 := by kernel_rfl
  c5 := by kernel_rfl
  c9 := by kernel_rfl
  c20 := by kernel_rfl
  c21 := by kernel_rfl
  c37 := by kernel_rfl
  c46 := by kernel_rfl
  c51 := by kernel_rfl
  c53 := by kernel_rfl
  c75 := by kernel_rfl
  c76 := by kernel_rfl
  c80 := by kernel_rfl
  c85 := by kernel_rfl
  c127 := by kernel_rfl
  c143 := by kernel_rfl
  c145 := by kernel_rfl
  c167 := by kernel_rfl
  c168 := by kernel_rfl
  c171 := by kernel_rfl
  c173 := by kernel_rfl
  c175 := by kernel_rfl
  c210 := by kernel_rfl
  c212 := by kernel_rfl
  c213 := by kernel_rfl
  c232 := by kernel_rfl
  c233 := by kernel_rfl }
def Tryz.laysM145_ren : Go.Shelf.Ren := ⟨fun | 145 => 129 | 220 => 161 | 219 => 180 | 217 => 196 | 225 => 197 | 224 => 198 | 267 => 199 | 266 => 213 | 314 => 214 | n => n, fun | 9 => 9 | 4 => 4 | 59 => 138 | 3 => 3 | 5 => 5 | 46 => 120 | 146 => 201 | 51 => 151 | n => n, fun | 1 => 0 | n => n⟩
theorem Tryz.laysM145 : Go.Proofs.LaysM.n145 Tryz.prog Tryz.laysM145_ren := {
  mixed := by kernel_rfl
  f145 := Tryz.func129.trans (congrArg some (by kernel_rfl))
  f217 := Tryz.func196.trans (congrArg some (by kernel_rfl))
  f219 := Tryz.func180.trans (congrArg some (by kernel_rfl))
  f220 := Tryz.func161.trans (congrArg some (by kernel_rfl))
  f224 := Tryz.func198.trans (congrArg some (by kernel_rfl))
  f225 := Tryz.func197.trans (congrArg some (by kernel_rfl))
  f266 := Tryz.func213.trans (congrArg some (by kernel_rfl))
  f267 := Tryz.func199.trans (congrArg some (by kernel_rfl))
  f314 := Tryz.func214.trans (congrArg some (by kernel_rfl))
  t3 := Tryz.underlying3
  a3 := Tryz.isAgg3
  z3 := Tryz.sizeOf3
  v3 := Tryz.zeroValue3
  t4 := Tryz.underlying4
  a4 := Tryz.isAgg4
  z4 := Tryz.sizeOf4
  v4 := Tryz.zeroValue4
  t5 := Tryz.underlying5
  a5 := Tryz.isAgg5
  z5 := Tryz.sizeOf5
  v5 := Tryz.zeroValue5
  t9 := Tryz.underlying9
  a9 := Tryz.isAgg9
  z9 := Tryz.sizeOf9
  v9 := Tryz.zeroValue9
  t46 := Tryz.underlying120
  a46 := Tryz.isAgg120
  z46 := Tryz.sizeOf120
  v46 := Tryz.zeroValue120
  t51 := Tryz.underlying151
  a51 := Tryz.isAgg151
  z51 := Tryz.sizeOf151
  v51 := Tryz.zeroValue151
  t59 := Tryz.underlying138
  a59 := Tryz.isAgg138
  z59 := Tryz.sizeOf138
  v59 := Tryz.zeroValue138
  t146 := Tryz.underlying201
  a146 := Tryz.isAgg201
  z146 := Tryz.sizeOf201
  v146 := Tryz.zeroValue201
  g1 := by kernel_rfl
  i3 := by kernel_rfl
  i4 := by kernel_rfl
  i5 := by kernel_rfl
  i9 := by kernel_rfl
  i46 := by kernel_rfl
  i51 := by kernel_rfl
  i59 := by kernel_rfl
  i146 := by kernel_rfl
  m1 := by kernel_rfl
  s1_3 := fun w h => Go.Proofs.cell_of_shapedOpen_int (zero := #[.int .i64 0]) (t := 3) h (of_decide_eq_true (by kernel_rfl)) (by kernel_rfl) rfl (by kernel_rfl) (by kernel_rfl) Tryz.underlying3 }
def Tryz.lays190_ren : Go.Shelf.Ren := ⟨fun | 190 => 74 | 125 => 103 | 258 => 102 | 128 => 148 | 129 => 149 | 302 => 139 | 303 => 140 | 304 => 141 | 305 => 142 | 306 => 143 | 307 => 144 | 308 => 145 | 309 => 146 | 310 => 147 | 333 => 168 | 329 => 169 | 330 => 170 | 334 => 171 | 335 => 172 | 336 => 173 | 344 => 192 | n => n, fun | 31 => 22 | 9 => 9 | 3 => 3 | 46 => 120 | 0 => 0 | 51 => 151 | 53 => 153 | 4 => 4 | 183 => 144 | 182 => 143 | 131 => 148 | 5 => 5 | 218 => 164 | 222 => 168 | 228 => 179 | 229 => 180 | n => n, fun | n => n⟩
theorem Tryz.lays190 : Go.Proofs.Lays.n190 Tryz.prog Tryz.lays190_ren := {
  mixed := by kernel_rfl
  f125 := Tryz.func103.trans (congrArg some (by kernel_rfl))
  f128 := Tryz.func148.trans (congrArg some (by kernel_rfl))
  f129 := Tryz.func149.trans (congrArg some (by kernel_rfl))
  f190 := Tryz.func74.trans (congrArg some (by kernel_rfl))
  f258 := Tryz.func102.trans (congrArg some (by kernel_rfl))
  f302 := Tryz.func139.trans (congrArg some (by kernel_rfl))
  f303 := Tryz.func140.trans (congrArg some (by kernel_rfl))
  f304 := Tryz.func141.trans (congrArg some (by kernel_rfl))
  f305 := Tryz.func142.trans (congrArg some (by kernel_rfl))
  f306 := Tryz.func143.trans (congrArg some (by kernel_rfl))
  f307 := Tryz.func144.trans (congrArg some (by kernel_rfl))
  f308 := Tryz.func145.trans (congrArg some (by kernel_rfl))
  f309 := Tryz.func146.trans (congrArg some (by kernel_rfl))
  f310 := Tryz.func147.trans (congrArg some (by kernel_rfl))
  f329 := Tryz.func169.trans (congrArg some (by kernel_rfl))
  f330 := Tryz.func170.trans (congrArg some (by kernel_rfl))
  f333 := Tryz.func168.trans (congrArg some (by kernel_rfl))
  f334 := Tryz.func171.trans (congrArg some (by kernel_rfl))
  f335 := Tryz.func172.trans (congrArg some (by kernel_rfl))
  f336 := Tryz.func173.trans (congrArg some (by kernel_rfl))
  f344 := Tryz.func192.trans (congrArg some (by kernel_rfl))
  t0 := Tryz.underlying0
  a0 := Tryz.isAgg0
  z0 := Tryz.sizeOf0
  v0 := Tryz.zeroValue0
  t3 := Tryz.underlying3
  a3 := Tryz.isAgg3
  z3 := Tryz.sizeOf3
  v3 := Tryz.zeroValue3
  t4 := Tryz.underlying4
  a4 := Tryz.isAgg4
  z4 := Tryz.sizeOf4
  v4 := Tryz.zeroValue4
  t5 := Tryz.underlying5
  a5 := Tryz.isAgg5
  z5 := Tryz.sizeOf5
  v5 := Tryz.zeroValue5
  t9 := Tryz.underlying9
  a9 := Tryz.isAgg9
  z9 := Tryz.sizeOf9
  v9 := Tryz.zeroValue9
  t31 := Tryz.underlying22
  a31 := Tryz.isAgg22
  z31 := Tryz.sizeOf22
  v31 := Tryz.zeroValue22
  t46 := Tryz.underlying120
  a46 := Tryz.isAgg120
  z46 := Tryz.sizeOf120
  v46 := Tryz.zeroValue120
  t51 := Tryz.underlying151
  a51 := Tryz.isAgg151
  z51 := Tryz.sizeOf151
  v51 := Tryz.zeroValue151
  t53 := Tryz.underlying153
  a53 := Tryz.isAgg153
  z53 := Tryz.sizeOf153
  v53 := Tryz.zeroValue153
  t131 := Tryz.underlying148
  a131 := Tryz.isAgg148
  z131 := Tryz.sizeOf148
  v131 := Tryz.zeroValue148
  t182 := Tryz.underlying143
  a182 := Tryz.isAgg143
  z182 := Tryz.sizeOf143
  v182 := Tryz.zeroValue143
  t183 := Tryz.underlying144
  a183 := Tryz.isAgg144
  z183 := Tryz.sizeOf144
  v183 := Tryz.zeroValue144
  t218 := Tryz.underlying164
  a218 := Tryz.isAgg164
  z218 := Tryz.sizeOf164
  v218 := Tryz.zeroValue164
  t222 := Tryz.underlying168
  a222 := Tryz.isAgg168
  z222 := Tryz.sizeOf168
  v222 := Tryz.zeroValue168
  t228 := Tryz.underlying179
  a228 := Tryz.isAgg179
  z228 := Tryz.sizeOf179
  v228 := Tryz.zeroValue179
  t229 := Tryz.underlying180
  a229 := Tryz.isAgg180
  z229 := Tryz.sizeOf180
  v229 := Tryz.zeroValue180 }
def Tryz.laysM146_ren : Go.Shelf.Ren := ⟨fun | 146 => 95 | 221 => 127 | 268 => 157 | 138 => 158 | 143 => 159 | 195 => 177 | 197 => 178 | 218 => 179 | 219 => 180 | 260 => 195 | 217 => 196 | 225 => 197 | 224 => 198 | 267 => 199 | 266 => 213 | 314 => 214 | n => n, fun | 9 => 9 | 31 => 22 | 3 => 3 | 4 => 4 | 0 => 0 | 105 => 171 | 21 => 21 | 5 => 5 | 46 => 120 | 119 => 197 | 139 => 200 | 138 => 199 | 146 => 201 | 51 => 151 | n => n, fun | 1 => 0 | 3 => 1 | 4 => 2 | n => n⟩
theorem Tryz.laysM146 : Go.Proofs.LaysM.n146 Tryz.prog Tryz.laysM146_ren := {
  mixed := by kernel_rfl
  f138 := Tryz.func158.trans (congrArg some (by kernel_rfl))
  f143 := Tryz.func159.trans (congrArg some (by kernel_rfl))
  f146 := Tryz.func95.trans (congrArg some (by kernel_rfl))
  f195 := Tryz.func177.trans (congrArg some (by kernel_rfl))
  f197 := Tryz.func178.trans (congrArg some (by kernel_rfl))
  f217 := Tryz.func196.trans (congrArg some (by kernel_rfl))
  f218 := Tryz.func179.trans (congrArg some (by kernel_rfl))
  f219 := Tryz.func180.trans (congrArg some (by kernel_rfl))
  f221 := Tryz.func127.trans (congrArg some (by kernel_rfl))
  f224 := Tryz.func198.trans (congrArg some (by kernel_rfl))
  f225 := Tryz.func197.trans (congrArg some (by kernel_rfl))
  f260 := Tryz.func195.trans (congrArg some (by kernel_rfl))
  f266 := Tryz.func213.trans (congrArg some (by kernel_rfl))
  f267 := Tryz.func199.trans (congrArg some (by kernel_rfl))
  f268 := Tryz.func157.trans (congrArg some (by kernel_rfl))
  f314 := Tryz.func214.trans (congrArg some (by kernel_rfl))
  t0 := Tryz.underlying0
  a0 := Tryz.isAgg0
  z0 := Tryz.sizeOf0
  v0 := Tryz.zeroValue0
  t3 := Tryz.underlying3
  a3 := Tryz.isAgg3
  z3 := Tryz.sizeOf3
  v3 := Tryz.zeroValue3
  t4 := Tryz.underlying4
  a4 := Tryz.isAgg4
  z4 := Tryz.sizeOf4
  v4 := Tryz.zeroValue4
  t5 := Tryz.underlying5
  a5 := Tryz.isAgg5
  z5 := Tryz.sizeOf5
  v5 := Tryz.zeroValue5
  t9 := Tryz.underlying9
  a9 := Tryz.isAgg9
  z9 := Tryz.sizeOf9
  v9 := Tryz.zeroValue9
  t21 := Tryz.underlying21
  a21 := Tryz.isAgg21
  z21 := Tryz.sizeOf21
  v21 := Tryz.zeroValue21
  t31 := Tryz.underlying22
  a31 := Tryz.isAgg22
  z31 := Tryz.sizeOf22
  v31 := Tryz.zeroValue22
  t46 := Tryz.underlying120
  a46 := Tryz.isAgg120
  z46 := Tryz.sizeOf120
  v46 := Tryz.zeroValue120
  t51 := Tryz.underlying151
  a51 := Tryz.isAgg151
  z51 := Tryz.sizeOf151
  v51 := Tryz.zeroValue151
  t105 := Tryz.underlying171
  a105 := Tryz.isAgg171
  z105 := Tryz.sizeOf171
  v105 := Tryz.zeroValue171
  t119 := Tryz.underlying197
  a119 := Tryz.isAgg197
  z119 := Tryz.sizeOf197
  t138 := Tryz.underlying199
  a138 := Tryz.isAgg199
  z138 := Tryz.sizeOf199
  v138 := Tryz.zeroValue199
  t139 := Tryz.underlying200
  a139 := Tryz.isAgg200
  z139 := Tryz.sizeOf200
  v139 := Tryz.zeroValue200
  t146 := Tryz.underlying201
  a146 := Tryz.isAgg201
  z146 := Tryz.sizeOf201
  v146 := Tryz.zeroValue201
  g1 := by kernel_rfl
  g3 := by kernel_rfl
  g4 := by kernel_rfl
  i0 := by kernel_rfl
  i3 := by kernel_rfl
  i4 := by kernel_rfl
  i5 := by kernel_rfl
  i9 := by kernel_rfl
  i21 := by kernel_rfl
  i31 := by kernel_rfl
  i46 := by kernel_rfl
  i51 := by kernel_rfl
  i105 := by kernel_rfl
  i138 := by kernel_rfl
  i139 := by kernel_rfl
  i146 := by kernel_rfl
  m1 := by kernel_rfl
  s1_3 := fun w h => Go.Proofs.cell_of_shapedOpen_int (zero := #[.int .i64 0]) (t := 3) h (of_decide_eq_true (by kernel_rfl)) (by kernel_rfl) rfl (by kernel_rfl) (by kernel_rfl) Tryz.underlying3
  m3 := by kernel_rfl
  m4 := by kernel_rfl }
end Go.Proofs
/- What the library's functions answer, by the kit's own contract. Conditions: those of each lemma. -/
namespace Go.Proofs
open Go.Shelf
theorem Tryz.join_none (a : Option Addr) (c : Nat) (sep : ByteArray) (w : World) :
    Calls Tryz.prog 165 #[.slice a 0 c, .string sep] w fun e w' => e = .returned (.string ⟨#[]⟩) ∧ w' = w := Any.strings_Join_none Tryz.lays156 Tryz.Builder_Extra_156 a c sep w
theorem Tryz.join_some (bk o c : Nat) (xs : List ByteArray) (sep : ByteArray) (w : World)
    (hcells : ∀ (j : Nat) x, xs[j]? = some x → w.cell? ⟨bk, o + j, none⟩ = some (.string x))
    (hbk : bk < w.heap.size) (hN : xs.length ≤ 140737488355328) (hcap : xs.length ≤ c)
    (hlen : (Lib.join (xs.map (·.data.toList)) sep.data.toList).length ≤ 140737488355328) :
    Calls Tryz.prog 165 #[.slice (some ⟨bk, o, none⟩) xs.length c, .string sep] w fun e w' => e = .returned (.string ⟨(Lib.join (xs.map (·.data.toList)) sep.data.toList).toArray⟩) ∧ Go.RowKit.Below w.heap.size w w' :=
  Any.strings_Join Tryz.lays156 Tryz.Builder_Extra_156 bk o c xs sep w hcells hbk hN hcap hlen
theorem Tryz.itoa (n : Int) (h0 : -9223372036854775808 ≤ n) (h1 : n ≤ 9223372036854775807) (w : World) (htab : Lib.TabIs Tryz.prog w "internal/strconv.uint64pow10" .u64 Lib.pow10Tab) :
    Calls Tryz.prog 183 #[.int .i64 n] w fun e w' => e = .returned (.string ⟨(Lib.itoa n).toArray⟩) ∧ ∃ k os, w' = Go.Sort.grow (w.drewN k) os := Any.strconv_Itoa Tryz.laysM171 n h0 h1 w htab
theorem Tryz.iA (w : World) (e : TypeId) (s : ByteArray) : Go.RowKit.Below w.heap.size w (Lib.bytesWorld w e s) :=
  ⟨rfl, rfl, rfl, by rw [Lib.bytesWorld_size]; omega, fun k hk => Lib.bytesWorld_at_old w e s k hk⟩
theorem Tryz.UU (s : ByteArray) (hmax : s.size ≤ 281474976710656) (v : Int) (h : Lib.atoiAll s.data.toList = .ok v) (w : World) :
    Calls Tryz.prog 162 #[.string s] w fun e w' => e = .returned (.tuple #[.int .i64 v, .nilIface]) ∧ Go.RowKit.Below w.heap.size w w' :=
  (Any.strconv_Atoi_ok Tryz.laysC172 s (by omega) v h w).mono fun e w' ⟨h1, h2⟩ => ⟨h1, by
    rcases h2 with rfl | ⟨t, rfl⟩
    · exact Go.RowKit.Below.refl _ _
    · exact Tryz.iA _ _ _⟩
theorem Tryz.XL (s : ByteArray) (hlim : s.size ≤ 281474976710656) (h : Lib.atoiAll s.data.toList = Lib.NumEnd.syntax) (tp : TypeId) (p : Value) (w : World) (hvar : w.var? Tryz.prog "strconv.ErrSyntax" = some #[.iface tp p]) :
    Calls Tryz.prog 162 #[.string s] w fun e w' => ∃ t z, e = .returned (.tuple #[.int .i64 0, .iface t z]) ∧ Go.RowKit.Below w.heap.size w w' :=
  (Any.strconv_Atoi_syntax_var Tryz.laysC172 s hlim h tp p w hvar).mono fun e w' ⟨N, h1, _, _, h2⟩ => ⟨_, _, h1, h2⟩
theorem Tryz.XM (s : ByteArray) (hlim : s.size ≤ 281474976710656) (h : Lib.atoiAll s.data.toList = .range) (tp : TypeId) (p : Value) (w : World) (hvar : w.var? Tryz.prog "strconv.ErrRange" = some #[.iface tp p]) :
    Calls Tryz.prog 162 #[.string s] w fun e w' => ∃ t z, e = .returned (.tuple #[.int .i64 (Lib.atoiSat s.data.toList), .iface t z]) ∧ Go.RowKit.Below w.heap.size w w' :=
  (Any.strconv_Atoi_range_var Tryz.laysC172 s hlim h tp p w hvar).mono fun e w' ⟨N, h1, _, _, h2⟩ => ⟨_, _, h1, h2⟩
theorem Tryz.YS (a b : ByteArray) (w : World) : Calls Tryz.prog 191 #[.string a, .string b] w fun e w' => e = .returned (.int .i64 (Lib.compareBytes a.data.toList b.data.toList)) ∧ w' = w := Any.strings_Compare Tryz.lays106 a b w
end Go.Proofs
/- What the library's functions answer, as the evaluator takes it. Conditions: those of each lemma. -/
namespace Go.Proofs.YtmcephnfcciloaaGreatDoor
open E
set_option linter.unusedSimpArgs false
set_option linter.unusedVariables false
set_option maxRecDepth 100000
/-- a list's texts -/
def strsOf : List (List T) → Option (List Str)
  | [] => some []
  | c :: r => match c with
    | [.str l] => (match strsOf r with | some ks => some (l :: ks) | none => none)
    | _ => none
theorem pG : ∀ ks : List Str, strsOf (y6 ks) = some ks
  | [] => rfl
  | k :: ks => by
    have := pG ks
    simp only [y6] at this
    simp only [y6, List.map_cons, strsOf, this]
theorem qS : ∀ {es : List (List T)} {ks : List Str}, strsOf es = some ks → es = y6 ks
  | [], ks, h => by simp only [strsOf] at h; cases h; rfl
  | c :: r, ks, h => by
    simp only [strsOf] at h
    split at h
    · split at h
      · rename_i ks' hk; cases h; rw [qS hk]; rfl
      · cases h
    · cases h
/-- what is shown by other means -/
def aO : List V → Option V
  | [.t (.list 1 es), .t (.str sep)] => match strsOf es with
    | some ks => if ks.length ≤ 140737488355328 ∧ (Lib.join ks sep).length ≤ 140737488355328 then some (.t (.str (Lib.join ks sep))) else none
    | none => none
  | _ => none
def qu : List V → Option V
  | [.t (.str a), .t (.str b)] => some (.t (.int .i64 (Lib.compareBytes a b)))
  | _ => none
def aP : List V → Option V
  | [.t (.int .i64 n)] => if -9223372036854775808 ≤ n ∧ n ≤ 9223372036854775807 then some (.t (.str (Lib.itoa n))) else none
  | _ => none
def aU : List V → Option V
  | [.t (.str s)] => if s.length ≤ 281474976710656 then (match Lib.atoiAll s with
    | .ok v => some (.tup [.t (.int .i64 v), .t .nili])
    | Lib.NumEnd.syntax => some (.tup [.t (.int .i64 0), .t .nni])
    | .range => some (.tup [.t (.int .i64 (Lib.atoiSat s)), .t .nni])) else none
  | _ => none
def T9 : List V → Option V
  | [.t (.str s), .t (.str sep)] => if s.length < 4294967281 then some (.tup [.t (.str (Lib.cut s sep).1), .t (.str (Lib.cut s sep).2.1), .t (.bool (Lib.cut s sep).2.2)]) else none
  | _ => none
/-- the parts of a text -/
def sb (s sep : Str) : List Str := (Lib.splitB ⟨sep.toArray⟩ 0 (Lib.countB ⟨s.toArray⟩ ⟨sep.toArray⟩) ⟨s.toArray⟩).map (·.data.toList)
def jJ : List V → Option V
  | [.t (.str s), .t (.str sep)] => if s.length < 4294967281 ∧ 1 ≤ sep.length then some (.t (.list 1 (y6 (sb s sep)))) else none
  | _ => none
/-- a list of texts as it lies in memory -/
theorem VX {w : World} {F : Nat → Prop} {u : Value} {ks : List Str} (h : RT w F u (.list 1 (y6 ks))) :
    ∃ a c, u = .slice a ks.length c ∧ ks.length ≤ c ∧ (0 < ks.length → ∃ b o, a = some ⟨b, o, none⟩ ∧ F b ∧ ∀ (j : Nat) x, (ks.map fun l => (⟨l.toArray⟩ : ByteArray))[j]? = some x → w.cell? ⟨b, o + j, none⟩ = some (.string x)) := by
  cases h with
  | list a n c sz es g hn hc h0 hz hr =>
    rw [zP] at hn
    subst hn
    refine ⟨a, c, rfl, hc, fun hp => ?_⟩
    obtain ⟨b, o, e1, e2, e3⟩ := h0 hp
    refine ⟨b, o, e1, e2, fun j x hj => ?_⟩
    have hjl : j < ks.length := by have := (List.getElem?_eq_some_iff.1 hj).1; simpa using this
    have h1 := e3 j 0 hjl (by omega)
    have h2 := hr j 0 [.str ks[j]] (.str ks[j]) (wX ks j hjl) rfl
    rw [show o + (j * 1 + 0) = o + j by omega] at h1
    rw [h1]
    generalize g j 0 = gv at h2
    cases h2 with
    | str s _ hs =>
      simp [hjl] at hj
      rw [← hj, ← hs]
theorem vx {w w' : World} {F : Nat → Prop} (h : Go.RowKit.Below w.heap.size w w') (hF : ∀ b, F b → b < w.heap.size) : (∀ b, F b → b < w'.heap.size) ∧ Nxt (own fun b => w.heap.size ≤ b) w F y7 w' F y7 :=
  ⟨fun b hb => Nat.lt_of_lt_of_le (hF b hb) h.size, ⟨h.os, h.tape, h.output, h.size, fun b hb _ => h.block b hb, fun b hb => h.block b (hF b hb), fun _ hb => hb, fun _ hb => .inl hb, Ext.refl _, fun _ _ => rfl⟩⟩
/-- a function is as it is told -/
def jc (W0 : World) (g : Nat) (e : List V → Option V) : Prop := ∀ args v, e args = some v →
    (∃ fn, Tryz.prog.funcs[g]? = some fn ∧ (fn.name == "runtime.NumGoroutine") = false ∧ fn.body.isNone = false) ∧
    ∀ (w : World) (F : Nat → Prop) (us : Array Value), vc W0 w F → (∀ b, F b → b < w.heap.size) → RVs w F y7 us.toList args →
      Calls Tryz.prog g us w fun e w' => ∃ u F', e = .returned u ∧ RV w' F' y7 u v ∧ (∀ b, F' b → b < w'.heap.size) ∧ Nxt (own fun b => w.heap.size ≤ b) w F y7 w' F' y7
theorem Ul (W0 : World) : jc W0 165 aO := by
  intro args v hv'
  unfold aO at hv'
  split at hv'
  · rename_i es sep
    split at hv'
    · rename_i ks hks
      split at hv'
      · rename_i hl
        cases hv'
        obtain rfl := qS hks
        refine ⟨⟨Tryz.f165, Tryz.func165, by kernel_rfl, by kernel_rfl⟩, fun w F us hB hF hu => ?_⟩
        obtain ⟨us⟩ := us
        change RVs w F y7 us _ at hu
        cases hu with
        | cons h1 h2 =>
        cases h2 with
        | cons h2 h3 =>
        cases h3
        obtain ⟨s, rfl, hs⟩ := tj h2
        obtain ⟨a, c, rfl, hc, h0⟩ := VX (T7 h1)
        have hfin : ∀ (e : Ending) (w' : World), (e = .returned (.string ⟨(Lib.join ks sep).toArray⟩) ∧ Go.RowKit.Below w.heap.size w w') → ∃ u F', e = .returned u ∧ RV w' F' y7 u (.t (.str (Lib.join ks sep))) ∧ (∀ b, F' b → b < w'.heap.size) ∧ Nxt (own fun b => w.heap.size ≤ b) w F y7 w' F' y7 := by
          rintro e w' ⟨rfl, hb⟩
          obtain ⟨k1, k2⟩ := vx hb hF
          exact ⟨_, F, rfl, .t _ _ (.str _ _ (by simp)), k1, k2⟩
        by_cases hk : ks.length = 0
        · have hk' : ks = [] := List.eq_nil_of_length_eq_zero hk
          subst hk'
          refine (Tryz.join_none a c s w).mono fun e w' ⟨h1, h2⟩ => hfin e w' ⟨?_, ?_⟩
          · rw [h1]; rfl
          · rw [h2]; exact Go.RowKit.Below.refl _ _
        · obtain ⟨b, o, rfl, hb, hcell⟩ := h0 (by omega)
          have hmap : (ks.map fun l => (⟨l.toArray⟩ : ByteArray)).map (·.data.toList) = ks := by
            rw [List.map_map]
            have : ((fun x : ByteArray => x.data.toList) ∘ fun l : List UInt8 => (⟨l.toArray⟩ : ByteArray)) = id := by funext l; simp
            rw [this]; simp
          have := Tryz.join_some b o c (ks.map fun l => (⟨l.toArray⟩ : ByteArray)) s w hcell (hF b hb) (by simpa using hl.1) (by simpa using hc) (by rw [hmap, hs]; exact hl.2)
          rw [hmap, hs, List.length_map] at this
          exact this.mono fun e w' h => hfin e w' h
      · cases hv'
    · cases hv'
  · cases hv'
theorem dn (W0 : World) : jc W0 191 qu := by
  intro args v hv'
  unfold qu at hv'
  split at hv'
  · rename_i a b
    cases hv'
    refine ⟨⟨Tryz.f191, Tryz.func191, by kernel_rfl, by kernel_rfl⟩, fun w F us hB hF hu => ?_⟩
    obtain ⟨us⟩ := us
    change RVs w F y7 us _ at hu
    cases hu with
    | cons h1 h2 =>
    cases h2 with
    | cons h2 h3 =>
    cases h3
    obtain ⟨s1, rfl, hs1⟩ := tj h1
    obtain ⟨s2, rfl, hs2⟩ := tj h2
    refine (Tryz.YS s1 s2 w).mono fun e w' h => ?_
    obtain ⟨rfl, rfl⟩ := h
    rw [hs1, hs2]
    exact ⟨_, F, rfl, .t _ _ (.int _ _), hF, Nxt.refl _ _ _ _⟩
  · cases hv'
theorem dx (w : World) (k : Nat) (os : Array Obj) : Go.RowKit.Below w.heap.size w (Go.Sort.grow (w.drewN k) os) :=
  ⟨rfl, rfl, rfl, by simp [Go.Sort.grow], fun b hb => by simp [Go.Sort.grow, Array.getElem?_append_left hb]⟩
theorem YI {W0 w : World} {F : Nat → Prop} {n : String} {k : IntKind} {zs : List Int} (hB : vc W0 w F) (h : Lib.TabIs Tryz.prog W0 n k zs) : Lib.TabIs Tryz.prog w n k zs := by
  unfold Lib.TabIs World.var? at *
  cases hg : Tryz.prog.globalNamed n with
  | none => simp [hg] at h
  | some g =>
    simp only [hg, Option.bind_some] at h ⊢
    have hlt : g < W0.heap.size := by
      refine Nat.lt_of_not_le fun hc => ?_
      rw [Array.getElem?_eq_none hc] at h
      cases h
    rw [hB.heap g hlt]
    exact h
theorem Um (W0 : World) (hT : Lib.TabIs Tryz.prog W0 "internal/strconv.uint64pow10" .u64 Lib.pow10Tab) : jc W0 183 aP := by
  intro args v hv'
  unfold aP at hv'
  split at hv'
  · rename_i n
    split at hv'
    · rename_i hn
      cases hv'
      refine ⟨⟨Tryz.f183, Tryz.func183, by kernel_rfl, by kernel_rfl⟩, fun w F us hB hF hu => ?_⟩
      obtain ⟨us⟩ := us
      change RVs w F y7 us _ at hu
      cases hu with
      | cons h1 h2 =>
      cases h2
      cases h1 with
      | t _ _ h1 =>
      cases h1
      refine (Tryz.itoa n hn.1 hn.2 w (YI hB hT)).mono fun e w' h => ?_
      obtain ⟨rfl, k, os, rfl⟩ := h
      obtain ⟨k1, k2⟩ := vx (dx w k os) hF
      exact ⟨_, F, rfl, .t _ _ (.str _ _ (by simp)), k1, k2⟩
    · cases hv'
  · cases hv'
theorem ga {W0 w : World} {F : Nat → Prop} {n : String} {cs : Array Value} (hB : vc W0 w F) (h : W0.var? Tryz.prog n = some cs) : w.var? Tryz.prog n = some cs := by
  unfold World.var? at *
  cases hg : Tryz.prog.globalNamed n with
  | none => simp [hg] at h
  | some g =>
    simp only [hg, Option.bind_some] at h ⊢
    have hlt : g < W0.heap.size := by
      refine Nat.lt_of_not_le fun hc => ?_
      rw [Array.getElem?_eq_none hc] at h
      cases h
    rw [hB.heap g hlt]
    exact h
theorem cu {w : World} {F : Nat → Prop} {ρ : ym} {u1 u2 : Value} {x1 x2 : T} (h1 : RT w F u1 x1) (h2 : RT w F u2 x2) : RV w F ρ (.tuple #[u1, u2]) (.tup [.t x1, .t x2]) := by
  refine .tup _ _ (fun j => if j = 0 then u1 else u2) rfl (fun j hj => ?_) fun j x hj => ?_
  · match j, hj with
    | 0, _ => rfl
    | 1, _ => rfl
  · match j, hj with
    | 0, hj => cases hj; exact .t _ _ h1
    | 1, hj => cases hj; exact .t _ _ h2
    | j + 2, hj => simp at hj
theorem UW (W0 : World) (hS : ∃ tp p, W0.var? Tryz.prog "strconv.ErrSyntax" = some #[.iface tp p]) (hR : ∃ tp p, W0.var? Tryz.prog "strconv.ErrRange" = some #[.iface tp p]) : jc W0 162 aU := by
  intro args v hv'
  unfold aU at hv'
  split at hv'
  · rename_i l
    split at hv'
    · rename_i hl
      refine ⟨⟨Tryz.f162, Tryz.func162, by kernel_rfl, by kernel_rfl⟩, fun w F us hB hF hu => ?_⟩
      obtain ⟨us⟩ := us
      change RVs w F y7 us _ at hu
      cases hu with
      | cons h1 h2 =>
      cases h2
      obtain ⟨s, rfl, hs⟩ := tj h1
      have hsz : s.size ≤ 281474976710656 := by
        have : s.data.toList.length = s.size := by simp
        rw [hs] at this
        omega
      obtain ⟨tS, pS, hS⟩ := hS
      obtain ⟨tR, pR, hR⟩ := hR
      split at hv'
      · rename_i n hn
        cases hv'
        refine (Tryz.UU s hsz n (by rw [hs]; exact hn) w).mono fun e w' h => ?_
        obtain ⟨rfl, hb⟩ := h
        obtain ⟨k1, k2⟩ := vx hb hF
        exact ⟨_, F, rfl, cu (.int _ _) .nili, k1, k2⟩
      · rename_i hn
        cases hv'
        refine (Tryz.XL s hsz (by rw [hs]; exact hn) tS pS w (ga hB hS)).mono fun e w' h => ?_
        obtain ⟨t, z, rfl, hb⟩ := h
        obtain ⟨k1, k2⟩ := vx hb hF
        exact ⟨_, F, rfl, cu (.int _ _) (.nni t z), k1, k2⟩
      · rename_i hn
        cases hv'
        refine (Tryz.XM s hsz (by rw [hs]; exact hn) tR pR w (ga hB hR)).mono fun e w' h => ?_
        obtain ⟨t, z, rfl, hb⟩ := h
        obtain ⟨k1, k2⟩ := vx hb hF
        rw [hs]
        exact ⟨_, F, rfl, cu (.int _ _) (.nni t z), k1, k2⟩
    · cases hv'
  · cases hv'
theorem kH {W0 w : World} {F : Nat → Prop} {a : Addr} {v : Value} (hB : vc W0 w F) (h : W0.cell? a = some v) : w.cell? a = some v := by
  have hlt : a.block < W0.heap.size := by
    refine Nat.lt_of_not_le fun hc => ?_
    simp [World.cell?, Array.getElem?_eq_none hc] at h
  unfold World.cell? at h ⊢
  rw [hB.heap _ hlt]
  exact h
theorem iz (w : World) (n : Nat) : Go.RowKit.Below w.heap.size w (w.drewN n) := ⟨rfl, rfl, rfl, Nat.le_refl _, fun _ _ => rfl⟩
theorem YU {w : World} {F : Nat → Prop} {ρ : ym} {u1 u2 u3 : Value} {x1 x2 x3 : T} (h1 : RT w F u1 x1) (h2 : RT w F u2 x2) (h3 : RT w F u3 x3) : RV w F ρ (.tuple #[u1, u2, u3]) (.tup [.t x1, .t x2, .t x3]) := by
  refine .tup _ _ (fun j => if j = 0 then u1 else if j = 1 then u2 else u3) rfl (fun j hj => ?_) fun j x hj => ?_
  · match j, hj with
    | 0, _ => rfl
    | 1, _ => rfl
    | 2, _ => rfl
  · match j, hj with
    | 0, hj => cases hj; exact .t _ _ h1
    | 1, hj => cases hj; exact .t _ _ h2
    | 2, hj => cases hj; exact .t _ _ h3
    | j + 3, hj => simp at hj
theorem TV (W0 : World) (hM : ∃ m, W0.cell? ⟨Tryz.laysM145_ren.g 1, 0, none⟩ = some (.int .i64 m)) : jc W0 129 T9 := by
  intro args v hv'
  unfold T9 at hv'
  split at hv'
  · rename_i l lsep
    split at hv'
    · rename_i hl
      cases hv'
      refine ⟨⟨Tryz.f129, Tryz.func129, by kernel_rfl, by kernel_rfl⟩, fun w F us hB hF hu => ?_⟩
      obtain ⟨us⟩ := us
      change RVs w F y7 us _ at hu
      cases hu with
      | cons h1 h2 =>
      cases h2 with
      | cons h2 h3 =>
      cases h3
      obtain ⟨s, rfl, hs⟩ := tj h1
      obtain ⟨sep, rfl, hsep⟩ := tj h2
      have hsz : s.size < 4294967281 := by
        have : s.data.toList.length = s.size := by simp
        rw [hs] at this
        omega
      obtain ⟨m, hM⟩ := hM
      refine (Any.strings_Cut { Tryz.laysM145 with } s sep m w hsz (kH hB hM)).mono fun e w' h => ?_
      rw [hs, hsep] at h
      obtain ⟨rfl, n, rfl⟩ := h
      obtain ⟨k1, k2⟩ := vx (iz w n) hF
      exact ⟨_, F, rfl, YU (.str _ _ (by simp)) (.str _ _ (by simp)) (.bool _), k1, k2⟩
    · cases hv'
  · cases hv'
end Go.Proofs.YtmcephnfcciloaaGreatDoor
/- What strings.Split answers, as the evaluator takes it. Conditions: those of each lemma. -/
namespace Go.Proofs.YtmcephnfcciloaaGreatDoor
open E
set_option linter.unusedSimpArgs false
set_option linter.unusedVariables false
set_option maxRecDepth 100000
/-- a row of texts laid behind all -/
theorem Zh (w : World) (F : Nat → Prop) (hF : ∀ b, F b → b < w.heap.size) (t : TypeId) (ps : List ByteArray) (n : Nat) (hn : ps.length = n) :
    RT (w.alloc (.cells (ps.map Value.string).toArray t)) (fun b => F b ∨ b = w.heap.size) (.slice (some ⟨w.heap.size, 0, none⟩) n n) (.list 1 (y6 (ps.map (·.data.toList)))) := by
  have hcell : ∀ j, j < ps.length → (w.alloc (.cells (ps.map Value.string).toArray t)).cell? ⟨w.heap.size, j, none⟩ = some (.string (ps.getD j ByteArray.empty)) := fun j hj => by
    have ha : (w.alloc (.cells (ps.map Value.string).toArray t)).heap = w.heap.push (.cells (ps.map Value.string).toArray t) := rfl
    unfold World.cell?
    rw [ha]
    simp [hj, List.getD]
  generalize w.alloc (.cells (ps.map Value.string).toArray t) = w1 at *
  refine RT.list (F := fun b => F b ∨ b = w.heap.size) (some ⟨w.heap.size, 0, none⟩) n n 1 (y6 (ps.map (·.data.toList))) (fun i _ => .string (ps.getD i ByteArray.empty)) (by rw [zP, List.length_map]; exact hn) (Nat.le_refl _) (fun _ => ⟨w.heap.size, 0, rfl, Or.inr rfl, fun i j hi hj => ?_⟩) (fun e he => ?_) fun i j cs x hi hj => ?_
  · obtain rfl : j = 0 := by omega
    rw [show 0 + (i * 1 + 0) = i by omega]
    exact hcell i (by omega)
  · simp only [y6, List.mem_map] at he
    obtain ⟨a, _, rfl⟩ := he
    rfl
  · simp only [y6, List.map_map, List.getElem?_map, Option.map_eq_some_iff] at hi
    obtain ⟨a, ha, rfl⟩ := hi
    match j, hj with
    | 0, hj =>
      simp [Function.comp] at hj
      subst hj
      have : ps.getD i ByteArray.empty = a := by simp [List.getD, ha]
      rw [this]
      exact .str _ _ rfl
    | j + 1, hj => simp at hj
theorem Zd (w : World) (F : Nat → Prop) (hF : ∀ b, F b → b < w.heap.size) (o : Obj) : (∀ b, (F b ∨ b = w.heap.size) → b < (w.alloc o).heap.size) ∧ Nxt (own fun b => w.heap.size ≤ b) w F y7 (w.alloc o) (fun b => F b ∨ b = w.heap.size) y7 := by
  have ha : (w.alloc o).heap = w.heap.push o := rfl
  have hsz : (w.alloc o).heap.size = w.heap.size + 1 := by rw [ha, Array.size_push]
  have hold : ∀ b, b < w.heap.size → (w.alloc o).heap[b]? = w.heap[b]? := fun b hb => by
    rw [ha, Array.getElem?_push_lt hb, Array.getElem?_eq_getElem hb]
  refine ⟨fun b hb => ?_, rfl, rfl, rfl, by omega, fun b hb _ => hold b hb, fun b hb => hold b (hF b hb), fun _ hb => .inl hb, fun b hb => ?_, Ext.refl _, fun _ _ => rfl⟩
  · rcases hb with hb | rfl
    · have := hF b hb; omega
    · omega
  · rcases hb with hb | rfl
    · exact .inl hb
    · exact .inr (Nat.le_refl _)
theorem YL (W0 : World) (hM : ∃ m, W0.cell? ⟨Tryz.laysM146_ren.g 1, 0, none⟩ = some (.int .i64 m)) : jc W0 95 jJ := by
  intro args v hv'
  unfold jJ at hv'
  split at hv'
  · rename_i l lsep
    split at hv'
    · rename_i hl
      cases hv'
      refine ⟨⟨Tryz.f95, Tryz.func95, by kernel_rfl, by kernel_rfl⟩, fun w F us hB hF hu => ?_⟩
      obtain ⟨us⟩ := us
      change RVs w F y7 us _ at hu
      cases hu with
      | cons h1 h2 =>
      cases h2 with
      | cons h2 h3 =>
      cases h3
      obtain ⟨s, rfl, hs⟩ := tj h1
      obtain ⟨sep, rfl, hsep⟩ := tj h2
      have hsz : s.size < 4294967281 := by
        have : s.data.toList.length = s.size := by simp
        rw [hs] at this
        omega
      have hsp : 1 ≤ sep.size := by
        have : sep.data.toList.length = sep.size := by simp
        rw [hsep] at this
        omega
      obtain ⟨m, hM⟩ := hM
      refine (Any.strings_Split { Tryz.laysM146 with } Tryz.laysM146.i9 s sep m w hsz (kH hB hM) hsp).mono fun e w' h => ?_
      have es : (⟨l.toArray⟩ : ByteArray) = s := by rw [← hs]
      have esep : (⟨lsep.toArray⟩ : ByteArray) = sep := by rw [← hsep]
      have hlen := Lib.splitB_all sep hsp 0 (Lib.countB s sep) s rfl
      unfold sb
      rw [es, esep]
      obtain ⟨rfl, rfl⟩ := h
      generalize Lib.splitB sep 0 (Lib.countB s sep) s = ps at *
      generalize Lib.countB s sep = n at *
      obtain ⟨k1, k2⟩ := Zd w F hF (.cells (ps.map Value.string).toArray (Tryz.laysM146_ren.t 9))
      exact ⟨_, fun b => F b ∨ b = w.heap.size, rfl, .t _ _ (Zh w F hF _ ps (n + 1) hlen), k1, k2⟩
    · cases hv'
  · cases hv'
end Go.Proofs.YtmcephnfcciloaaGreatDoor
/- slices.Sort at texts, by the kit's own contract: on rows. Conditions: those of each lemma. -/
namespace Go.Proofs.YtmcephnfcciloaaGreatDoor
open E
set_option linter.unusedSimpArgs false
set_option linter.unusedVariables false
set_option maxRecDepth 100000
def u5 (ks : List Str) : List Str := ks.mergeSort fun x y => decide (x ≤ y)
theorem eS (ks : List Str) : (u5 ks).Perm ks := List.mergeSort_perm _ _
theorem Z0 (ks : List Str) : (u5 ks).length = ks.length := (eS ks).length_eq
def Vw (args : List V) (h : Heap) : Option (V × Heap) :=
  match args, h with
  | [.sl 0 0 n cap], [.ts 1 es] => match strsOf es with
    | some ks => if n = ks.length ∧ ks.length ≤ 1073741824 then some (.tup [], [.ts 1 (y6 (u5 ks))]) else none
    | none => none
  | _, _ => none
variable {w : World} {F : Nat → Prop} {ρ : ym} {Ow : Own} {h : Heap}
theorem gO (hS : St w F ρ Ow h) {w' : World} (h1 : w'.os = w.os) (h2 : w'.tape = w.tape) (h3 : w'.output = w.output) (h4 : w.heap.size ≤ w'.heap.size) (h5 : ∀ b, b < w.heap.size → w'.heap[b]? = w.heap[b]?) : St w' F ρ Ow h ∧ Nxt Ow w F ρ w' F ρ := by
  have hN : Nxt Ow w F ρ w' F ρ := ⟨h1, h2, h3, h4, fun b hb _ => h5 b hb, fun b hb => h5 b (hS.fsz b hb), fun _ x => x, fun _ x => .inl x, Ext.refl _, fun _ _ => rfl⟩
  refine ⟨hS.next hN hS.out (fun b hb => Nat.lt_of_lt_of_le (hS.fsz b hb) h4) (fun r b hr => .inl ⟨hr, fun L hL hw => ⟨h5 _ ((hS.blk r b hr).wZ hw hL).2.2, ((hS.blk r b hr).wZ hw hL).1⟩⟩)
    (hS.owned hN (fun b _ hF hlt _ => ⟨h5 b hlt, hF⟩) (fun r i j x ho => ⟨ho, fun L u hL hu => ?_⟩) fun r b L hr hw hL => .inr (hS.same (Ext.refl _) hr hw hL)), hN⟩
  obtain ⟨c, el', fr, q1, q2⟩ := hu
  exact ⟨c, el', fr, (h5 _ (Array.getElem?_eq_some_iff.1 q1).1).trans q1, q2⟩
theorem Tryz.eQ (p : Option Addr) (cap : Nat) (w : World) : Calls Tryz.prog 74 #[.slice p 0 cap] w fun e w' => e = .returned (.tuple #[]) ∧ w' = w := Any.slices_Sort_string_none Tryz.lays190 p cap w
theorem Tryz.ssort (blk off cap : Nat) (ss : List (List UInt8)) (w : World) (hH : Go.Sort.Holds encStr w blk off ss.toArray) (hblk : blk < w.heap.size) (hsz : ss.length < 4611686018427387904) :
    Calls Tryz.prog 74 #[.slice (some ⟨blk, off, none⟩) ss.length cap] w fun e w' =>
      e = .returned (.tuple #[]) ∧ ∃ n os, w' = Go.Sort.grow (Go.Sort.putRow encStr (Go.Sort.ahead w n) blk off (ss.mergeSort fun x y => decide (x ≤ y)).toArray) os := Any.slices_Sort_string Tryz.lays190 blk off cap ss w hH hblk hsz
theorem VT (W0 : World) : pE Tryz.prog W0 74 Vw := by
  intro args h v h' hv
  unfold Vw at hv
  split at hv
  · rename_i n cap es
    split at hv
    · rename_i ks hks
      split at hv
      · rename_i hn
        obtain ⟨hn, hlim⟩ := hn
        cases hv
        obtain rfl := qS hks
        refine ⟨⟨Tryz.f74, Tryz.func74, by kernel_rfl, by kernel_rfl⟩, fun Ow w F ρ us hB hS hO hu => ?_⟩
        obtain ⟨us⟩ := us
        change RVs w F ρ us _ at hu
        cases hu with
        | cons h1 h2 =>
        cases h2
        subst hn
        have htup' : ∀ {w' : World}, RV w' F ρ (.tuple #[]) (.tup []) := .tup _ _ (fun _ => undef) rfl (fun j hj => by simp at hj) fun j x hj => by simp at hj
        have htup : RV w F ρ (.tuple #[]) (.tup []) := htup'
        have none_case : ks = [] → ∀ (a : Option Addr) (c : Nat), Calls Tryz.prog 74 #[.slice a 0 c] w fun e w' => ∃ u F' ρ', e = .returned u ∧ RV w' F' ρ' u (.tup []) ∧ St w' F' ρ' Ow [.ts 1 (y6 (u5 ks))] ∧ Nxt Ow w F y7 w' F' y7 ∧ ∀ r l, r < 1 → ρ r = some l → ρ' r = some l := fun hk a c => by
          subst hk
          refine (Tryz.eQ a c w).mono fun e w' hp => ?_
          obtain ⟨rfl, rfl⟩ := hp
          exact ⟨_, F, ρ, rfl, htup, by rw [show u5 [] = [] by simp [u5]]; exact hS, Nxt.refl _ _ _ _, fun _ _ _ hl => hl⟩
        generalize hkl : ks.length = kl at h1
        cases h1 with
        | slP r cap a hρ hc => exact none_case (List.eq_nil_of_length_eq_zero hkl) a 0
        | sl r off len cap L a c hρ ha hl hnn hc0 hc1 hz =>
          by_cases hk0 : ks = []
          · subst hk0
            simp at hkl
            subst hkl
            exact none_case rfl a c
          · have hpos : 0 < ks.length := by cases ks with | nil => exact absurd rfl hk0 | cons x r => simp
            have hcne : c ≠ 0 := by omega
            obtain rfl := ha.resolve_right hcne
            rcases hS.blk 0 _ rfl with ⟨L', q1, q2, q3, q4, q5⟩ | ⟨q1, q2⟩
            · rw [q1] at hρ; cases hρ
              have hrow := q3
              obtain ⟨e1, e2, cc, el, fr, e3, e4, e5, e6, e7⟩ := q3
              rw [zP] at e1
              have hlt : L.b < w.heap.size := (Array.getElem?_eq_some_iff.1 e3).1
              have hcell : ∀ j (hj : j < ks.length), cc[L.o + j]? = some (encStr ks[j]) := fun j hj => by
                obtain ⟨u, hu, hr⟩ := e7 j 0 [.str ks[j]] (.str ks[j]) (wX ks j hj) rfl
                rw [q2, show L.o + (j * 1 + 0) = L.o + j by omega] at hu
                rw [hu]
                cases hr with
                | str s _ hs =>
                  show some (Value.string s) = some (Value.string ⟨ks[j].toArray⟩)
                  rw [← hs]
              have hzz : L.o + L.n ≤ L.z := by rw [q2, Nat.mul_one] at e6; exact e6
              have hH : Go.Sort.Holds encStr w L.b L.o ks.toArray := fun j hj => by
                have hj' : j < ks.length := by simpa using hj
                have hlen : L.o + j < cc.size := by rw [e4]; omega
                have hx := hcell j hj'
                refine ⟨?_, ?_⟩
                · unfold World.cell?
                  rw [e3]
                  simp [hx, hj']
                · unfold World.frozen?
                  rw [e3]
                  have := e5 (L.o + j) hlen
                  simp only [decide_eq_false_iff_not, Bool.and_eq_false_iff, not_and, Nat.not_lt] at this ⊢
                  first | exact this | simpa using this | (simp; omega)
              have hslen := Z0 ks
              refine Calls.mono (by
                have := Tryz.ssort L.b L.o c ks w hH hlt (by omega)
                rw [hkl] at this
                rw [show L.o + 0 * L.sz = L.o by omega]
                exact this) fun e w' hp => ?_
              obtain ⟨rfl, q, os, hw'⟩ := hp
              change w' = Go.Sort.grow (Go.Sort.putRow encStr (Go.Sort.ahead w q) L.b L.o (u5 ks).toArray) os at hw'
              rw [Lib.putRow_eq_setCells encStr w L.b L.o ks.toArray (u5 ks) q hH (by rw [hslen]; simp)] at hw'
              obtain ⟨hS1, hN1⟩ := gO (w' := w.drewN q) hS rfl rfl rfl (Nat.le_refl _) (fun _ _ => rfl)
              have hfit : L.o + ((u5 ks).map encStr).length ≤ cc.size := by rw [List.length_map, hslen, e4]; omega
              obtain ⟨c', k1, k2, k3⟩ := xD ((u5 ks).map encStr) L.b L.o (w.drewN q) cc el fr e3 hfit
              obtain ⟨hS2, hN2⟩ := nX (blk := .ts 1 (y6 (u5 ks))) hS1 (r := 0) rfl rfl q1 L.o ((u5 ks).map encStr) (fun hN => .inl ⟨L, q1, q2, ⟨by rw [zP, hslen]; exact e1, fun e he => by
                  simp only [y6, List.mem_map] at he
                  obtain ⟨x, _, rfl⟩ := he
                  exact q2.symm, c', el, fr, k1, by rw [k2, e4], fun k hk => e5 k (by rw [← k2]; exact hk), e6, fun i j cs x hi hj => by
                    have hil := (List.getElem?_eq_some_iff.1 hi).1
                    rw [zP] at hil
                    rw [wX (u5 ks) i hil] at hi
                    cases hi
                    match j, hj with
                    | 0, hj =>
                      cases hj
                      refine ⟨encStr (u5 ks)[i], ?_, .str _ _ (by simp)⟩
                      rw [q2, show L.o + (i * 1 + 0) = L.o + i by omega, k3, if_pos ⟨by omega, by rw [List.length_map]; omega⟩, show L.o + i - L.o = i by omega]
                      simp [hil]
                    | j + 1, hj => simp at hj⟩, q4, q5⟩) (fun i j x ho => by
                  obtain ⟨sz, es, cs, h1, _⟩ := ho
                  simp at h1)
              obtain ⟨hS3, hN3⟩ := gO (w' := w') hS2 (by rw [hw']; rfl) (by rw [hw']; rfl) (by rw [hw']; rfl) (by rw [hw']; simp [Go.Sort.grow]) (fun b hb => by rw [hw']; simp only [Go.Sort.grow]; rw [Array.getElem?_append_left hb])
              exact ⟨_, F, ρ, rfl, htup', hS3, ((hN1.trans hN2).trans hN3).forget (Ext.refl _), fun _ _ _ hl => hl⟩
            · have : ks = [] := by
                have := congrArg List.length q2
                rw [zP] at this
                exact List.eq_nil_of_length_eq_zero this
              exact absurd this hk0
      · cases hv
    · cases hv
  · cases hv
end Go.Proofs.YtmcephnfcciloaaGreatDoor
/- Which slots the loops keep: tables written by a program of mine (live.py). Conditions: none. -/
namespace Go.Proofs.YtmcephnfcciloaaGreatDoor
set_option maxRecDepth 100000
def VC : List (Nat × Nat × List Nat) → Nat → Nat → List Nat
  | [], _, _ => []
  | (f', p', l) :: r, f, p => if f = f' ∧ p = p' then l else VC r f p
def Uf : List (Nat × Nat × List Nat) := [
  (7, 122, [0, 1, 5]),
  (8, 58, [1, 2, 5, 6]),
  (8, 3730, [1, 2, 5, 6, 7]),
  (10, 58, [0, 3, 4]),
  (11, 122, [1, 5, 15, 16, 17]),
  (11, 31334, [1, 5, 7, 15, 16, 17, 21, 22, 23]),
  (12, 58, [0, 1, 5]),
  (14, 58, [0, 1, 5]),
  (16, 26, [0, 1, 5]),
  (17, 26, [0, 1, 5]),
  (18, 26, [0, 1, 5]),
  (24, 122, [0, 1, 5]),
  (25, 122, [0, 1, 5]),
  (27, 26, [1, 3]),
  (30, 58, [0, 3, 4]),
  (31, 58, [0, 3, 4]),
  (33, 26, [1, 6, 7, 8]),
  (36, 58, [0, 1, 5]),
  (38, 26, [0, 1, 5]),
  (39, 60, [0, 3]),
  (56, 26, [1, 3]),
  (57, 26, [1, 2, 5]),
  (58, 250, [4, 5, 6]),
  (60, 58, [1, 5, 6, 7]),
  (63, 26, [1, 2, 7, 8, 9]),
  (64, 122, [4, 15, 16, 17]),
  (66, 122, [0, 5, 23, 24, 25]),
  (68, 26, [0, 1, 5]),
  (71, 26, [1, 2, 5]),
  (75, 26, [0, 1, 7, 8]),
  (80, 122, [0, 1, 5]),
  (82, 58, [0, 3, 4]),
  (82, 59706, [0, 3, 4, 5, 6]),
  (84, 26, [0, 3]),
  (85, 122, [0, 3, 4, 5]),
  (88, 26, [0, 3]),
  (90, 58, [0, 3, 4]),
  (91, 58, [0, 3, 10, 11, 12]),
  (94, 26, [0, 5, 6, 7]),
  (98, 26, [0, 5, 6, 7]),
  (101, 58, [0, 1, 5]),
  (102, 14, [0, 1, 2, 3, 8, 9]),
  (105, 122, [0, 1, 5, 6, 7]),
  (111, 122, [2, 4, 5, 6]),
  (113, 26, [0, 1, 5]),
  (114, 58, [0, 3, 4]),
  (115, 122, [1, 3, 4]),
  (117, 58, [2, 3, 5, 6]),
  (117, 250, [2, 3, 7]),
  (120, 26, [0, 1, 7, 8]),
  (127, 2044, [0, 1, 2, 3, 9, 10]),
  (132, 250, [2, 4, 5, 16, 17, 18]),
  (137, 26, [2, 3, 24, 25, 26]),
  (137, 122, [2, 3, 56, 57]),
  (139, 6, [0, 1, 2, 6]),
  (139, 402, [0, 1, 2, 6, 7]),
  (140, 122, [0, 6, 7, 8, 9]),
  (140, 126, [0, 6, 7, 10]),
  (141, 238, [0, 1, 6, 7, 8, 9]),
  (143, 14, [0, 6, 7]),
  (144, 58, [0, 1, 2, 7, 8]),
  (144, 3728, [0, 1, 2, 7, 8]),
  (144, 477674, [0, 1, 2, 7, 8, 9]),
  (144, 477690, [0, 1, 2, 7, 8, 10]),
  (146, 60, [0, 1, 9, 10]),
  (146, 960, [0, 1, 9, 10]),
  (146, 1924, [0, 1, 9, 10]),
  (147, 60, [0, 1, 10, 11]),
  (147, 124, [0, 1, 10, 11]),
  (147, 4092, [0, 1, 10, 11]),
  (147, 65472, [0, 1, 10, 11]),
  (147, 130948, [0, 1, 10, 11]),
  (152, 124, [0, 3, 4]),
  (153, 26, [1, 3]),
  (157, 250, [0, 1, 6, 7]),
  (158, 62, [0, 1, 5]),
  (164, 26, [1, 13, 14, 15]),
  (164, 58, [1, 24, 25, 26]),
  (165, 250, [0, 1, 5, 39, 40, 41]),
  (165, 4090, [1, 8, 63, 64, 65]),
  (168, 6, [0, 2, 3, 8]),
  (175, 26, [0, 3]),
  (177, 26, [2, 4]),
  (180, 2044, [0, 1, 5, 6, 7, 8, 9, 10]),
  (181, 3770, [5, 6, 47, 48, 49]),
  (194, 26, [0, 3]),
  (199, 250, [0, 1, 5, 6, 7, 8, 9]),
  (199, 1018, [0, 1, 5, 6, 7, 8, 10]),
  (208, 12, [0, 1]),
  (214, 58, [0, 4, 5]),
  (214, 250, [4, 6, 7, 8]),
  (215, 32762, [1, 8, 9, 10, 11, 12, 13, 99, 100, 101]),
  (225, 508, [0, 3, 4, 5]),
  (228, 12, [0, 1, 4]),
  (229, 4060, [0, 1, 3, 4, 10, 11, 12, 13, 17]),
  (229, 16220, [0, 1, 3, 4, 10, 11, 12, 13, 14, 15, 16])]
def U0 : List (Nat × Nat × List Nat) := [
  (7, 122, [1, 4]),
  (8, 58, [5]),
  (8, 3730, [1, 2, 5, 6]),
  (10, 58, [3]),
  (11, 122, [5]),
  (11, 31334, [1, 5, 15, 16, 17]),
  (12, 58, [4]),
  (14, 58, [4]),
  (16, 26, [1]),
  (17, 26, [1]),
  (18, 26, [1, 4]),
  (24, 122, [1, 4]),
  (25, 122, [1, 4]),
  (27, 26, [1, 2]),
  (30, 58, [3]),
  (31, 58, [3]),
  (33, 26, [1, 2]),
  (36, 58, [4]),
  (38, 26, [1]),
  (39, 60, [3]),
  (56, 26, [1, 2]),
  (57, 26, [4]),
  (58, 250, [2, 3, 4]),
  (60, 58, [4]),
  (63, 26, [4]),
  (64, 122, [2, 3, 4]),
  (66, 122, [4]),
  (68, 26, [1]),
  (71, 26, [4]),
  (75, 26, [4]),
  (80, 122, [1, 4]),
  (82, 58, [0, 2]),
  (82, 59706, [0, 2, 3, 4, 5]),
  (84, 26, [0, 2]),
  (85, 122, [0, 3, 4]),
  (88, 26, [0, 2]),
  (90, 58, [3]),
  (91, 58, [0, 2]),
  (94, 26, [2]),
  (98, 26, [0, 2]),
  (101, 58, [4]),
  (102, 14, []),
  (105, 122, [0, 5, 6]),
  (111, 122, [2, 3, 4, 5]),
  (113, 26, [4]),
  (114, 58, [0, 2, 3]),
  (115, 122, [3]),
  (117, 58, [2, 3, 4]),
  (117, 250, [2, 3, 4]),
  (120, 26, [4]),
  (127, 2044, [0, 9, 10]),
  (132, 250, [2, 3, 4, 5]),
  (137, 26, [2, 3, 4]),
  (137, 122, [2, 3, 4]),
  (139, 6, []),
  (139, 402, [0, 1, 2, 6]),
  (140, 122, [0, 6, 7, 8]),
  (140, 126, []),
  (141, 238, []),
  (143, 14, []),
  (144, 58, [6]),
  (144, 3728, [0, 1, 2, 7, 8]),
  (144, 477674, [0, 1, 2, 7, 8]),
  (144, 477690, [0, 1, 2, 7, 8]),
  (146, 60, [9]),
  (146, 960, [0, 1, 9, 10]),
  (146, 1924, [0, 1, 9, 10]),
  (147, 60, [0, 1, 10, 11]),
  (147, 124, [0, 1, 10, 11]),
  (147, 4092, [0, 1, 11]),
  (147, 65472, [0, 1, 10, 11]),
  (147, 130948, [0, 1, 10, 11]),
  (152, 124, [0, 3]),
  (153, 26, [1, 2]),
  (157, 250, [0, 1, 6]),
  (158, 62, [4]),
  (164, 26, [1, 2]),
  (164, 58, [1, 2]),
  (165, 250, [0, 1, 5]),
  (165, 4090, [8]),
  (168, 6, []),
  (175, 26, [0, 2]),
  (177, 26, [2]),
  (180, 2044, [4]),
  (181, 3770, [2, 3, 5, 6]),
  (194, 26, [0, 2]),
  (199, 250, [0, 1, 5, 6, 7, 8]),
  (199, 1018, [4]),
  (208, 12, [0]),
  (214, 58, [0, 4]),
  (214, 250, [4, 6]),
  (215, 32762, [6, 7, 9, 12, 13]),
  (225, 508, [2, 3]),
  (228, 12, [0, 1, 4]),
  (229, 4060, [0, 1, 3, 4, 10, 11, 12, 13]),
  (229, 16220, [0, 1, 3, 4, 10, 11, 12, 13])]
def zT (f p : Nat) : List Nat := VC Uf f p
def zS (f p : Nat) : List Nat := VC U0 f p
theorem Wv : zT 7 122 = [0, 1, 5] := by kernel_rfl
theorem W1 : zS 7 122 = [1, 4] := by kernel_rfl
theorem T4 : zT 8 58 = [1, 2, 5, 6] := by kernel_rfl
theorem T3 : zS 8 58 = [5] := by kernel_rfl
theorem Yb : zT 8 3730 = [1, 2, 5, 6, 7] := by kernel_rfl
theorem ZH : zS 8 3730 = [1, 2, 5, 6] := by kernel_rfl
theorem WU : zT 10 58 = [0, 3, 4] := by kernel_rfl
theorem Wn : zS 10 58 = [3] := by kernel_rfl
theorem Yz : zT 11 122 = [1, 5, 15, 16, 17] := by kernel_rfl
theorem Y5 : zS 11 122 = [5] := by kernel_rfl
theorem hC : zT 11 31334 = [1, 5, 7, 15, 16, 17, 21, 22, 23] := by kernel_rfl
theorem iP : zS 11 31334 = [1, 5, 15, 16, 17] := by kernel_rfl
theorem WS : zT 12 58 = [0, 1, 5] := by kernel_rfl
theorem Wm : zS 12 58 = [4] := by kernel_rfl
theorem WQ : zT 14 58 = [0, 1, 5] := by kernel_rfl
theorem Wk : zS 14 58 = [4] := by kernel_rfl
theorem WN : zT 16 26 = [0, 1, 5] := by kernel_rfl
theorem Wi : zS 16 26 = [1] := by kernel_rfl
theorem WM : zT 17 26 = [0, 1, 5] := by kernel_rfl
theorem Wh : zS 17 26 = [1] := by kernel_rfl
theorem WL : zT 18 26 = [0, 1, 5] := by kernel_rfl
theorem Wg : zS 18 26 = [1, 4] := by kernel_rfl
theorem Yi : zT 24 122 = [0, 1, 5] := by kernel_rfl
theorem ZO : zS 24 122 = [1, 4] := by kernel_rfl
theorem Yh : zT 25 122 = [0, 1, 5] := by kernel_rfl
theorem ZN : zS 25 122 = [1, 4] := by kernel_rfl
theorem WK : zT 27 26 = [1, 3] := by kernel_rfl
theorem Wf : zS 27 26 = [1, 2] := by kernel_rfl
theorem WJ : zT 30 58 = [0, 3, 4] := by kernel_rfl
theorem We : zS 30 58 = [3] := by kernel_rfl
theorem WI : zT 31 58 = [0, 3, 4] := by kernel_rfl
theorem Wd : zS 31 58 = [3] := by kernel_rfl
theorem WH : zT 33 26 = [1, 6, 7, 8] := by kernel_rfl
theorem Wc : zS 33 26 = [1, 2] := by kernel_rfl
theorem WG : zT 36 58 = [0, 1, 5] := by kernel_rfl
theorem Wb : zS 36 58 = [4] := by kernel_rfl
theorem WE : zT 38 26 = [0, 1, 5] := by kernel_rfl
theorem Wa : zS 38 26 = [1] := by kernel_rfl
theorem WD : zT 39 60 = [0, 3] := by kernel_rfl
theorem W9 : zS 39 60 = [3] := by kernel_rfl
theorem WC : zT 56 26 = [1, 3] := by kernel_rfl
theorem W8 : zS 56 26 = [1, 2] := by kernel_rfl
theorem WB : zT 57 26 = [1, 2, 5] := by kernel_rfl
theorem W7 : zS 57 26 = [4] := by kernel_rfl
theorem Yg : zT 58 250 = [4, 5, 6] := by kernel_rfl
theorem ZM : zS 58 250 = [2, 3, 4] := by kernel_rfl
theorem WA : zT 60 58 = [1, 5, 6, 7] := by kernel_rfl
theorem W6 : zS 60 58 = [4] := by kernel_rfl
theorem Wz : zT 63 26 = [1, 2, 7, 8, 9] := by kernel_rfl
theorem W5 : zS 63 26 = [4] := by kernel_rfl
theorem Yf : zT 64 122 = [4, 15, 16, 17] := by kernel_rfl
theorem ZL : zS 64 122 = [2, 3, 4] := by kernel_rfl
theorem Ye : zT 66 122 = [0, 5, 23, 24, 25] := by kernel_rfl
theorem ZK : zS 66 122 = [4] := by kernel_rfl
theorem Wy : zT 68 26 = [0, 1, 5] := by kernel_rfl
theorem W4 : zS 68 26 = [1] := by kernel_rfl
theorem Wx : zT 71 26 = [1, 2, 5] := by kernel_rfl
theorem W3 : zS 71 26 = [4] := by kernel_rfl
theorem Ww : zT 75 26 = [0, 1, 7, 8] := by kernel_rfl
theorem W2 : zS 75 26 = [4] := by kernel_rfl
theorem Yd : zT 80 122 = [0, 1, 5] := by kernel_rfl
theorem ZJ : zS 80 122 = [1, 4] := by kernel_rfl
theorem Wu : zT 82 58 = [0, 3, 4] := by kernel_rfl
theorem XZ : zS 82 58 = [0, 2] := by kernel_rfl
theorem iQ : zT 82 59706 = [0, 3, 4, 5, 6] := by kernel_rfl
theorem iF : zS 82 59706 = [0, 2, 3, 4, 5] := by kernel_rfl
theorem Wt : zT 84 26 = [0, 3] := by kernel_rfl
theorem XY : zS 84 26 = [0, 2] := by kernel_rfl
theorem Yc : zT 85 122 = [0, 3, 4, 5] := by kernel_rfl
theorem ZI : zS 85 122 = [0, 3, 4] := by kernel_rfl
theorem Ws : zT 88 26 = [0, 3] := by kernel_rfl
theorem XX : zS 88 26 = [0, 2] := by kernel_rfl
theorem Wr : zT 90 58 = [0, 3, 4] := by kernel_rfl
theorem XW : zS 90 58 = [3] := by kernel_rfl
theorem Wq : zT 91 58 = [0, 3, 10, 11, 12] := by kernel_rfl
theorem XV : zS 91 58 = [0, 2] := by kernel_rfl
theorem Wp : zT 94 26 = [0, 5, 6, 7] := by kernel_rfl
theorem XU : zS 94 26 = [2] := by kernel_rfl
theorem Wo : zT 98 26 = [0, 5, 6, 7] := by kernel_rfl
theorem XT : zS 98 26 = [0, 2] := by kernel_rfl
theorem YE : zT 101 58 = [0, 1, 5] := by kernel_rfl
theorem Ya : zS 101 58 = [4] := by kernel_rfl
theorem YD : zT 102 14 = [0, 1, 2, 3, 8, 9] := by kernel_rfl
theorem Y9 : zS 102 14 = [] := by kernel_rfl
theorem ct : zT 105 122 = [0, 1, 5, 6, 7] := by kernel_rfl
theorem dT : zS 105 122 = [0, 5, 6] := by kernel_rfl
theorem cq : zT 111 122 = [2, 4, 5, 6] := by kernel_rfl
theorem dS : zS 111 122 = [2, 3, 4, 5] := by kernel_rfl
theorem YC : zT 113 26 = [0, 1, 5] := by kernel_rfl
theorem Y8 : zS 113 26 = [4] := by kernel_rfl
theorem YB : zT 114 58 = [0, 3, 4] := by kernel_rfl
theorem Y7 : zS 114 58 = [0, 2, 3] := by kernel_rfl
theorem cp : zT 115 122 = [1, 3, 4] := by kernel_rfl
theorem dR : zS 115 122 = [3] := by kernel_rfl
theorem YA : zT 117 58 = [2, 3, 5, 6] := by kernel_rfl
theorem Y6 : zS 117 58 = [2, 3, 4] := by kernel_rfl
theorem cn : zT 117 250 = [2, 3, 7] := by kernel_rfl
theorem dQ : zS 117 250 = [2, 3, 4] := by kernel_rfl
theorem Yy : zT 120 26 = [0, 1, 7, 8] := by kernel_rfl
theorem Y4 : zS 120 26 = [4] := by kernel_rfl
theorem iZ : zT 127 2044 = [0, 1, 2, 3, 9, 10] := by kernel_rfl
theorem iO : zS 127 2044 = [0, 9, 10] := by kernel_rfl
theorem ck : zT 132 250 = [2, 4, 5, 16, 17, 18] := by kernel_rfl
theorem dP : zS 132 250 = [2, 3, 4, 5] := by kernel_rfl
theorem Yx : zT 137 26 = [2, 3, 24, 25, 26] := by kernel_rfl
theorem Y3 : zS 137 26 = [2, 3, 4] := by kernel_rfl
theorem cj : zT 137 122 = [2, 3, 56, 57] := by kernel_rfl
theorem dO : zS 137 122 = [2, 3, 4] := by kernel_rfl
theorem WR : zT 139 6 = [0, 1, 2, 6] := by kernel_rfl
theorem Wl : zS 139 6 = [] := by kernel_rfl
theorem ch : zT 139 402 = [0, 1, 2, 6, 7] := by kernel_rfl
theorem dN : zS 139 402 = [0, 1, 2, 6] := by kernel_rfl
theorem cg : zT 140 122 = [0, 6, 7, 8, 9] := by kernel_rfl
theorem dM : zS 140 122 = [0, 6, 7, 8] := by kernel_rfl
theorem cf : zT 140 126 = [0, 6, 7, 10] := by kernel_rfl
theorem dL : zS 140 126 = [] := by kernel_rfl
theorem cd : zT 141 238 = [0, 1, 6, 7, 8, 9] := by kernel_rfl
theorem dK : zS 141 238 = [] := by kernel_rfl
theorem Yw : zT 143 14 = [0, 6, 7] := by kernel_rfl
theorem Y2 : zS 143 14 = [] := by kernel_rfl
theorem Yv : zT 144 58 = [0, 1, 2, 7, 8] := by kernel_rfl
theorem Y1 : zS 144 58 = [6] := by kernel_rfl
theorem iY : zT 144 3728 = [0, 1, 2, 7, 8] := by kernel_rfl
theorem iN : zS 144 3728 = [0, 1, 2, 7, 8] := by kernel_rfl
theorem ld : zT 144 477674 = [0, 1, 2, 7, 8, 9] := by kernel_rfl
theorem l9 : zS 144 477674 = [0, 1, 2, 7, 8] := by kernel_rfl
theorem lb : zT 144 477690 = [0, 1, 2, 7, 8, 10] := by kernel_rfl
theorem l8 : zS 144 477690 = [0, 1, 2, 7, 8] := by kernel_rfl
theorem Yu : zT 146 60 = [0, 1, 9, 10] := by kernel_rfl
theorem Y0 : zS 146 60 = [9] := by kernel_rfl
theorem cb : zT 146 960 = [0, 1, 9, 10] := by kernel_rfl
theorem dJ : zS 146 960 = [0, 1, 9, 10] := by kernel_rfl
theorem iX : zT 146 1924 = [0, 1, 9, 10] := by kernel_rfl
theorem iM : zS 146 1924 = [0, 1, 9, 10] := by kernel_rfl
theorem Yt : zT 147 60 = [0, 1, 10, 11] := by kernel_rfl
theorem ZZ : zS 147 60 = [0, 1, 10, 11] := by kernel_rfl
theorem ca : zT 147 124 = [0, 1, 10, 11] := by kernel_rfl
theorem dI : zS 147 124 = [0, 1, 10, 11] := by kernel_rfl
theorem iW : zT 147 4092 = [0, 1, 10, 11] := by kernel_rfl
theorem iL : zS 147 4092 = [0, 1, 11] := by kernel_rfl
theorem j4 : zT 147 65472 = [0, 1, 10, 11] := by kernel_rfl
theorem kZ : zS 147 65472 = [0, 1, 10, 11] := by kernel_rfl
theorem la : zT 147 130948 = [0, 1, 10, 11] := by kernel_rfl
theorem l7 : zS 147 130948 = [0, 1, 10, 11] := by kernel_rfl
theorem dZ : zT 152 124 = [0, 3, 4] := by kernel_rfl
theorem dH : zS 152 124 = [0, 3] := by kernel_rfl
theorem Ys : zT 153 26 = [1, 3] := by kernel_rfl
theorem ZY : zS 153 26 = [1, 2] := by kernel_rfl
theorem dY : zT 157 250 = [0, 1, 6, 7] := by kernel_rfl
theorem dG : zS 157 250 = [0, 1, 6] := by kernel_rfl
theorem Yr : zT 158 62 = [0, 1, 5] := by kernel_rfl
theorem ZX : zS 158 62 = [4] := by kernel_rfl
theorem Yq : zT 164 26 = [1, 13, 14, 15] := by kernel_rfl
theorem ZW : zS 164 26 = [1, 2] := by kernel_rfl
theorem Yp : zT 164 58 = [1, 24, 25, 26] := by kernel_rfl
theorem ZV : zS 164 58 = [1, 2] := by kernel_rfl
theorem dX : zT 165 250 = [0, 1, 5, 39, 40, 41] := by kernel_rfl
theorem dF : zS 165 250 = [0, 1, 5] := by kernel_rfl
theorem iV : zT 165 4090 = [1, 8, 63, 64, 65] := by kernel_rfl
theorem iK : zS 165 4090 = [8] := by kernel_rfl
theorem WO : zT 168 6 = [0, 2, 3, 8] := by kernel_rfl
theorem Wj : zS 168 6 = [] := by kernel_rfl
theorem Yo : zT 175 26 = [0, 3] := by kernel_rfl
theorem ZU : zS 175 26 = [0, 2] := by kernel_rfl
theorem Yn : zT 177 26 = [2, 4] := by kernel_rfl
theorem ZT : zS 177 26 = [2] := by kernel_rfl
theorem iU : zT 180 2044 = [0, 1, 5, 6, 7, 8, 9, 10] := by kernel_rfl
theorem iJ : zS 180 2044 = [4] := by kernel_rfl
theorem iT : zT 181 3770 = [5, 6, 47, 48, 49] := by kernel_rfl
theorem iI : zS 181 3770 = [2, 3, 5, 6] := by kernel_rfl
theorem Ym : zT 194 26 = [0, 3] := by kernel_rfl
theorem ZS : zS 194 26 = [0, 2] := by kernel_rfl
theorem dW : zT 199 250 = [0, 1, 5, 6, 7, 8, 9] := by kernel_rfl
theorem dE : zS 199 250 = [0, 1, 5, 6, 7, 8] := by kernel_rfl
theorem iS : zT 199 1018 = [0, 1, 5, 6, 7, 8, 10] := by kernel_rfl
theorem iH : zS 199 1018 = [4] := by kernel_rfl
theorem Yl : zT 208 12 = [0, 1] := by kernel_rfl
theorem ZR : zS 208 12 = [0] := by kernel_rfl
theorem Yk : zT 214 58 = [0, 4, 5] := by kernel_rfl
theorem ZQ : zS 214 58 = [0, 4] := by kernel_rfl
theorem dV : zT 214 250 = [4, 6, 7, 8] := by kernel_rfl
theorem dD : zS 214 250 = [4, 6] := by kernel_rfl
theorem j3 : zT 215 32762 = [1, 8, 9, 10, 11, 12, 13, 99, 100, 101] := by kernel_rfl
theorem kY : zS 215 32762 = [6, 7, 9, 12, 13] := by kernel_rfl
theorem dU : zT 225 508 = [0, 3, 4, 5] := by kernel_rfl
theorem dC : zS 225 508 = [2, 3] := by kernel_rfl
theorem Yj : zT 228 12 = [0, 1, 4] := by kernel_rfl
theorem ZP : zS 228 12 = [0, 1, 4] := by kernel_rfl
theorem iR : zT 229 4060 = [0, 1, 3, 4, 10, 11, 12, 13, 17] := by kernel_rfl
theorem iG : zS 229 4060 = [0, 1, 3, 4, 10, 11, 12, 13] := by kernel_rfl
theorem j0 : zT 229 16220 = [0, 1, 3, 4, 10, 11, 12, 13, 14, 15, 16] := by kernel_rfl
theorem kX : zS 229 16220 = [0, 1, 3, 4, 10, 11, 12, 13] := by kernel_rfl
theorem LTS : zT 7 122 = [0, 1, 5] ∧
  zS 7 122 = [1, 4] ∧
  zT 8 58 = [1, 2, 5, 6] ∧
  zS 8 58 = [5] ∧
  zT 8 3730 = [1, 2, 5, 6, 7] ∧
  zS 8 3730 = [1, 2, 5, 6] ∧
  zT 10 58 = [0, 3, 4] ∧
  zS 10 58 = [3] ∧
  zT 11 122 = [1, 5, 15, 16, 17] ∧
  zS 11 122 = [5] ∧
  zT 11 31334 = [1, 5, 7, 15, 16, 17, 21, 22, 23] ∧
  zS 11 31334 = [1, 5, 15, 16, 17] ∧
  zT 12 58 = [0, 1, 5] ∧
  zS 12 58 = [4] ∧
  zT 14 58 = [0, 1, 5] ∧
  zS 14 58 = [4] ∧
  zT 16 26 = [0, 1, 5] ∧
  zS 16 26 = [1] ∧
  zT 17 26 = [0, 1, 5] ∧
  zS 17 26 = [1] ∧
  zT 18 26 = [0, 1, 5] ∧
  zS 18 26 = [1, 4] ∧
  zT 24 122 = [0, 1, 5] ∧
  zS 24 122 = [1, 4] ∧
  zT 25 122 = [0, 1, 5] ∧
  zS 25 122 = [1, 4] ∧
  zT 27 26 = [1, 3] ∧
  zS 27 26 = [1, 2] ∧
  zT 30 58 = [0, 3, 4] ∧
  zS 30 58 = [3] ∧
  zT 31 58 = [0, 3, 4] ∧
  zS 31 58 = [3] ∧
  zT 33 26 = [1, 6, 7, 8] ∧
  zS 33 26 = [1, 2] ∧
  zT 36 58 = [0, 1, 5] ∧
  zS 36 58 = [4] ∧
  zT 38 26 = [0, 1, 5] ∧
  zS 38 26 = [1] ∧
  zT 39 60 = [0, 3] ∧
  zS 39 60 = [3] ∧
  zT 56 26 = [1, 3] ∧
  zS 56 26 = [1, 2] ∧
  zT 57 26 = [1, 2, 5] ∧
  zS 57 26 = [4] ∧
  zT 58 250 = [4, 5, 6] ∧
  zS 58 250 = [2, 3, 4] ∧
  zT 60 58 = [1, 5, 6, 7] ∧
  zS 60 58 = [4] ∧
  zT 63 26 = [1, 2, 7, 8, 9] ∧
  zS 63 26 = [4] ∧
  zT 64 122 = [4, 15, 16, 17] ∧
  zS 64 122 = [2, 3, 4] ∧
  zT 66 122 = [0, 5, 23, 24, 25] ∧
  zS 66 122 = [4] ∧
  zT 68 26 = [0, 1, 5] ∧
  zS 68 26 = [1] ∧
  zT 71 26 = [1, 2, 5] ∧
  zS 71 26 = [4] ∧
  zT 75 26 = [0, 1, 7, 8] ∧
  zS 75 26 = [4] ∧
  zT 80 122 = [0, 1, 5] ∧
  zS 80 122 = [1, 4] ∧
  zT 82 58 = [0, 3, 4] ∧
  zS 82 58 = [0, 2] ∧
  zT 82 59706 = [0, 3, 4, 5, 6] ∧
  zS 82 59706 = [0, 2, 3, 4, 5] ∧
  zT 84 26 = [0, 3] ∧
  zS 84 26 = [0, 2] ∧
  zT 85 122 = [0, 3, 4, 5] ∧
  zS 85 122 = [0, 3, 4] ∧
  zT 88 26 = [0, 3] ∧
  zS 88 26 = [0, 2] ∧
  zT 90 58 = [0, 3, 4] ∧
  zS 90 58 = [3] ∧
  zT 91 58 = [0, 3, 10, 11, 12] ∧
  zS 91 58 = [0, 2] ∧
  zT 94 26 = [0, 5, 6, 7] ∧
  zS 94 26 = [2] ∧
  zT 98 26 = [0, 5, 6, 7] ∧
  zS 98 26 = [0, 2] ∧
  zT 101 58 = [0, 1, 5] ∧
  zS 101 58 = [4] ∧
  zT 102 14 = [0, 1, 2, 3, 8, 9] ∧
  zS 102 14 = [] ∧
  zT 105 122 = [0, 1, 5, 6, 7] ∧
  zS 105 122 = [0, 5, 6] ∧
  zT 111 122 = [2, 4, 5, 6] ∧
  zS 111 122 = [2, 3, 4, 5] ∧
  zT 113 26 = [0, 1, 5] ∧
  zS 113 26 = [4] ∧
  zT 114 58 = [0, 3, 4] ∧
  zS 114 58 = [0, 2, 3] ∧
  zT 115 122 = [1, 3, 4] ∧
  zS 115 122 = [3] ∧
  zT 117 58 = [2, 3, 5, 6] ∧
  zS 117 58 = [2, 3, 4] ∧
  zT 117 250 = [2, 3, 7] ∧
  zS 117 250 = [2, 3, 4] ∧
  zT 120 26 = [0, 1, 7, 8] ∧
  zS 120 26 = [4] ∧
  zT 127 2044 = [0, 1, 2, 3, 9, 10] ∧
  zS 127 2044 = [0, 9, 10] ∧
  zT 132 250 = [2, 4, 5, 16, 17, 18] ∧
  zS 132 250 = [2, 3, 4, 5] ∧
  zT 137 26 = [2, 3, 24, 25, 26] ∧
  zS 137 26 = [2, 3, 4] ∧
  zT 137 122 = [2, 3, 56, 57] ∧
  zS 137 122 = [2, 3, 4] ∧
  zT 139 6 = [0, 1, 2, 6] ∧
  zS 139 6 = [] ∧
  zT 139 402 = [0, 1, 2, 6, 7] ∧
  zS 139 402 = [0, 1, 2, 6] ∧
  zT 140 122 = [0, 6, 7, 8, 9] ∧
  zS 140 122 = [0, 6, 7, 8] ∧
  zT 140 126 = [0, 6, 7, 10] ∧
  zS 140 126 = [] ∧
  zT 141 238 = [0, 1, 6, 7, 8, 9] ∧
  zS 141 238 = [] ∧
  zT 143 14 = [0, 6, 7] ∧
  zS 143 14 = [] ∧
  zT 144 58 = [0, 1, 2, 7, 8] ∧
  zS 144 58 = [6] ∧
  zT 144 3728 = [0, 1, 2, 7, 8] ∧
  zS 144 3728 = [0, 1, 2, 7, 8] ∧
  zT 144 477674 = [0, 1, 2, 7, 8, 9] ∧
  zS 144 477674 = [0, 1, 2, 7, 8] ∧
  zT 144 477690 = [0, 1, 2, 7, 8, 10] ∧
  zS 144 477690 = [0, 1, 2, 7, 8] ∧
  zT 146 60 = [0, 1, 9, 10] ∧
  zS 146 60 = [9] ∧
  zT 146 960 = [0, 1, 9, 10] ∧
  zS 146 960 = [0, 1, 9, 10] ∧
  zT 146 1924 = [0, 1, 9, 10] ∧
  zS 146 1924 = [0, 1, 9, 10] ∧
  zT 147 60 = [0, 1, 10, 11] ∧
  zS 147 60 = [0, 1, 10, 11] ∧
  zT 147 124 = [0, 1, 10, 11] ∧
  zS 147 124 = [0, 1, 10, 11] ∧
  zT 147 4092 = [0, 1, 10, 11] ∧
  zS 147 4092 = [0, 1, 11] ∧
  zT 147 65472 = [0, 1, 10, 11] ∧
  zS 147 65472 = [0, 1, 10, 11] ∧
  zT 147 130948 = [0, 1, 10, 11] ∧
  zS 147 130948 = [0, 1, 10, 11] ∧
  zT 152 124 = [0, 3, 4] ∧
  zS 152 124 = [0, 3] ∧
  zT 153 26 = [1, 3] ∧
  zS 153 26 = [1, 2] ∧
  zT 157 250 = [0, 1, 6, 7] ∧
  zS 157 250 = [0, 1, 6] ∧
  zT 158 62 = [0, 1, 5] ∧
  zS 158 62 = [4] ∧
  zT 164 26 = [1, 13, 14, 15] ∧
  zS 164 26 = [1, 2] ∧
  zT 164 58 = [1, 24, 25, 26] ∧
  zS 164 58 = [1, 2] ∧
  zT 165 250 = [0, 1, 5, 39, 40, 41] ∧
  zS 165 250 = [0, 1, 5] ∧
  zT 165 4090 = [1, 8, 63, 64, 65] ∧
  zS 165 4090 = [8] ∧
  zT 168 6 = [0, 2, 3, 8] ∧
  zS 168 6 = [] ∧
  zT 175 26 = [0, 3] ∧
  zS 175 26 = [0, 2] ∧
  zT 177 26 = [2, 4] ∧
  zS 177 26 = [2] ∧
  zT 180 2044 = [0, 1, 5, 6, 7, 8, 9, 10] ∧
  zS 180 2044 = [4] ∧
  zT 181 3770 = [5, 6, 47, 48, 49] ∧
  zS 181 3770 = [2, 3, 5, 6] ∧
  zT 194 26 = [0, 3] ∧
  zS 194 26 = [0, 2] ∧
  zT 199 250 = [0, 1, 5, 6, 7, 8, 9] ∧
  zS 199 250 = [0, 1, 5, 6, 7, 8] ∧
  zT 199 1018 = [0, 1, 5, 6, 7, 8, 10] ∧
  zS 199 1018 = [4] ∧
  zT 208 12 = [0, 1] ∧
  zS 208 12 = [0] ∧
  zT 214 58 = [0, 4, 5] ∧
  zS 214 58 = [0, 4] ∧
  zT 214 250 = [4, 6, 7, 8] ∧
  zS 214 250 = [4, 6] ∧
  zT 215 32762 = [1, 8, 9, 10, 11, 12, 13, 99, 100, 101] ∧
  zS 215 32762 = [6, 7, 9, 12, 13] ∧
  zT 225 508 = [0, 3, 4, 5] ∧
  zS 225 508 = [2, 3] ∧
  zT 228 12 = [0, 1, 4] ∧
  zS 228 12 = [0, 1, 4] ∧
  zT 229 4060 = [0, 1, 3, 4, 10, 11, 12, 13, 17] ∧
  zS 229 4060 = [0, 1, 3, 4, 10, 11, 12, 13] ∧
  zT 229 16220 = [0, 1, 3, 4, 10, 11, 12, 13, 14, 15, 16] ∧
  zS 229 16220 = [0, 1, 3, 4, 10, 11, 12, 13] := ⟨Wv, W1, T4, T3, Yb, ZH, WU, Wn, Yz, Y5, hC, iP, WS, Wm, WQ, Wk, WN, Wi, WM, Wh, WL, Wg, Yi, ZO, Yh, ZN, WK, Wf, WJ, We, WI, Wd, WH, Wc, WG, Wb, WE, Wa, WD, W9, WC, W8, WB, W7, Yg, ZM, WA, W6, Wz, W5, Yf, ZL, Ye, ZK, Wy, W4, Wx, W3, Ww, W2, Yd, ZJ, Wu, XZ, iQ, iF, Wt, XY, Yc, ZI, Ws, XX, Wr, XW, Wq, XV, Wp, XU, Wo, XT, YE, Ya, YD, Y9, ct, dT, cq, dS, YC, Y8, YB, Y7, cp, dR, YA, Y6, cn, dQ, Yy, Y4, iZ, iO, ck, dP, Yx, Y3, cj, dO, WR, Wl, ch, dN, cg, dM, cf, dL, cd, dK, Yw, Y2, Yv, Y1, iY, iN, ld, l9, lb, l8, Yu, Y0, cb, dJ, iX, iM, Yt, ZZ, ca, dI, iW, iL, j4, kZ, la, l7, dZ, dH, Ys, ZY, dY, dG, Yr, ZX, Yq, ZW, Yp, ZV, dX, dF, iV, iK, WO, Wj, Yo, ZU, Yn, ZT, iU, iJ, iT, iI, Ym, ZS, dW, dE, iS, iH, Yl, ZR, Yk, ZQ, dV, dD, j3, kY, dU, dC, Yj, ZP, iR, iG, j0, kX⟩
end Go.Proofs.YtmcephnfcciloaaGreatDoor
