/- Joined: T2 XL X1 X2 X3 X4 LT. Conditions: those of each lemma. -/
import Derived.Test.YtmcephnfcciloaaGreatDoorYF
import Derived.Shelf.Strings.Builder1
import Derived.Shelf.Strings.Builder2
import Derived.Shelf.Strings.OnBuilder
import Derived.Shelf.Small.Utf8
import Derived.Shelf.Small.Bits
import Derived.Shelf.Small.Strs
import Derived.Shelf.Utf8.RuneCount
import Derived.Shelf.Strconv.Atoi
import Derived.Shelf.Strconv.Itoa0
import Derived.Shelf.Strconv.Itoa1
import Derived.Shelf.LaysM
import Derived.Shelf.Strconv.Itoa2
import Derived.Shelf.Strconv.Itoa3
import Derived.Shelf.Strconv.AtoiErrFast
import Derived.Shelf.Strconv.ParseIntEmpty
import Derived.Shelf.Strconv.AtoiFail
import Derived.Shelf.Strconv.Clone
import Derived.Shelf.Strconv.SyntaxError
import Derived.Shelf.LaysC
import Derived.Shelf.Strconv.ToError
import Derived.Shelf.Strconv.Lower
import Derived.Shelf.Strconv.ParseUint10
import Derived.Shelf.Strconv.ParseUint10Empty
import Derived.Shelf.Strconv.ParseUint10Any
import Derived.Shelf.Strconv.ParseInt10
import Derived.Shelf.Strconv.AtoiLong
import Derived.Shelf.Strconv.AtoiInnerAll
import Derived.Shelf.Strconv.RangeError
import Derived.Shelf.Strconv.ToErrorRange
import Derived.Shelf.Strconv.AtoiAll
import Derived.Shelf.Strconv.ErrVarAll
import Derived.Shelf.Strings.Search1
import Derived.Shelf.Strings.Search2
import Derived.Shelf.Strings.Search3
import Derived.Shelf.Strings.Cut
import Derived.Shelf.Strings.Count
import Derived.Shelf.Strings.Shaped
import Derived.Shelf.Sort.Plain
import Derived.Shelf.Strings.Split
import Derived.Shelf.Strings.SplitShaped
import Derived.Shelf.Unicode.Decode
import Derived.Shelf.Strings.Runes
import Derived.Shelf.Strings.RuneCount
import Derived.Shelf.Strings.AsciiSet
import Derived.Shelf.Strings.Explode
import Derived.Shelf.Unicode.DecodeSlow
import Derived.Shelf.Unicode.DecodeAny
import Derived.Ground.Names2Prog
import Derived.Shelf.Slices.Clone
import Derived.Ground.SlgnProg
import Derived.Shelf.SlicesE.Clone
import Derived.Test.YtmcephnfcciloaaGreatDoorProg
import Derived.Lib.SortBridge
import Derived.Shelf.Slices.In.SortNone
import Derived.KernelRfl
set_option linter.unusedVariables false
set_option linter.unusedSimpArgs false
namespace Go.Proofs.YtmcephnfcciloaaGreatDoor
open E
set_option linter.unusedSimpArgs false
set_option linter.unusedVariables false
set_option maxRecDepth 100000
/-- a list of texts -/
def zV (ks : List (List UInt8)) : List (List T) := ks.map fun s => [.str s]
def yk : List (List UInt8) → Nat
  | [] => 0
  | s :: ks => s.length + yk ks
theorem zO (ks : List (List UInt8)) : (zV ks).length = ks.length := by simp [zV]
theorem vj (ks : List (List UInt8)) (i : Nat) (h : i < ks.length) : (zV ks)[i]? = some [.str ks[i]] := by simp [zV, h]
theorem cI (ks : List (List UInt8)) (i : Nat) (h : i < ks.length) : yk (ks.drop i) = ks[i].length + yk (ks.drop (i + 1)) := by
  rw [List.drop_eq_getElem_cons h]; rfl
/-- a row filled up to a place -/
def wB (xs : List (List T)) (z : List T) (i : Nat) : List (List T) := xs.take i ++ List.replicate (xs.length - i) z
theorem tA (xs : List (List T)) (z : List T) : wB xs z 0 = List.replicate xs.length z := by simp [wB]
theorem pN (xs : List (List T)) (z : List T) : wB xs z xs.length = xs := by simp [wB]
theorem pM (xs : List (List T)) (z : List T) (i : Nat) (h : i < xs.length) : (wB xs z i)[i]? = some z := by
  unfold wB
  rw [List.getElem?_append_right (by simp; omega), List.getElem?_replicate, if_pos (by simp; omega)]
theorem pL (xs : List (List T)) (z : List T) (i : Nat) (h : i < xs.length) : (wB xs z i).set i xs[i] = wB xs z (i + 1) := by
  unfold wB
  apply List.ext_getElem?
  intro j
  rw [List.getElem?_set]
  by_cases hj : i = j
  · subst hj
    rw [if_pos rfl, if_pos (by simp; omega), List.getElem?_append_left (by simp; omega)]
    simp [h]
  · rw [if_neg hj]
    rcases Nat.lt_or_ge j i with hlt | hge
    · rw [List.getElem?_append_left (by simp; omega), List.getElem?_append_left (by simp; omega)]
      rw [List.getElem?_take, List.getElem?_take, if_pos hlt, if_pos (by omega)]
    · rw [List.getElem?_append_right (by simp; omega), List.getElem?_append_right (by simp; omega), List.getElem?_replicate, List.getElem?_replicate]
      simp only [List.length_take]
      by_cases hk : j < xs.length
      · rw [if_pos (by omega), if_pos (by omega)]
      · rw [if_neg (by omega), if_neg (by omega)]
inductive Tr where
  | mk (k n : Int) (s : List UInt8) (ks : List (List UInt8)) (cs : List Tr)
mutual
def Tr.enc : Tr → List T
  | .mk k n s ks cs => [.int .i64 k, .int .i64 n, .str s, .list 1 (zV ks), .list 5 (Tr.zW cs)]
def Tr.zW : List Tr → List (List T)
  | [] => []
  | c :: cs => Tr.enc c :: Tr.zW cs
end
mutual
def Tr.yg : Tr → Nat
  | .mk _ _ s ks cs => s.length + ks.length + yk ks + cs.length + Tr.ya cs
def Tr.ya : List Tr → Nat
  | [] => 0
  | c :: cs => Tr.yg c + Tr.ya cs
end
mutual
def Tr.ok : Tr → Prop
  | .mk _ _ s ks cs => s.length ≤ 9223372036854775807 ∧ ks.length ≤ 9223372036854775807 ∧ (∀ x ∈ ks, x.length ≤ 9223372036854775807) ∧ cs.length ≤ 9223372036854775807 ∧ Tr.oks cs
def Tr.oks : List Tr → Prop
  | [] => True
  | c :: cs => Tr.ok c ∧ Tr.oks cs
end
theorem Tr.iB : ∀ cs : List Tr, Tr.zW cs = cs.map Tr.enc
  | [] => rfl
  | c :: cs => by simp [Tr.zW, Tr.iB cs]
theorem Tr.zT (cs : List Tr) : (Tr.zW cs).length = cs.length := by simp [Tr.iB]
theorem Tr.yT (cs : List Tr) (i : Nat) (h : i < cs.length) : (Tr.zW cs)[i]? = some cs[i].enc := by simp [Tr.iB, h]
theorem Tr.xm (cs : List Tr) (i : Nat) (h : i < cs.length) : Tr.ya (cs.drop i) = cs[i].yg + Tr.ya (cs.drop (i + 1)) := by
  rw [List.drop_eq_getElem_cons h]; rfl
theorem Tr.yq : ∀ {cs : List Tr} {c : Tr}, c ∈ cs → c.yg ≤ Tr.ya cs
  | c' :: cs, c, h => by
    simp only [Tr.ya]
    rcases List.mem_cons.1 h with rfl | h
    · omega
    · have := Tr.yq h; omega
end Go.Proofs.YtmcephnfcciloaaGreatDoor
/- The shelf's contracts at this program, laid by the kit's own tool. Conditions: none. -/
namespace Go.Proofs
open Go.Shelf
def Tryz.lays156_ren : Go.Shelf.Ren := ⟨fun | 156 => 165 | 165 => 187 | 166 => 188 | 169 => 189 | 240 => 206 | 241 => 207 | 276 => 219 | 277 => 220 | n => n, fun | 31 => 22 | 9 => 9 | 3 => 3 | 4 => 4 | 0 => 0 | 20 => 20 | 72 => 176 | 76 => 161 | 70 => 174 | 37 => 89 | 75 => 160 | 127 => 189 | 164 => 210 | 5 => 5 | 80 => 178 | n => n, fun | n => n⟩
theorem Tryz.lays156 : Go.Proofs.Lays.n156 Tryz.prog Tryz.lays156_ren := {
  mixed := by kernel_rfl
  f156 := Tryz.func165.trans (congrArg some (by kernel_rfl))
  f165 := Tryz.func187.trans (congrArg some (by kernel_rfl))
  f166 := Tryz.func188.trans (congrArg some (by kernel_rfl))
  f169 := Tryz.func189.trans (congrArg some (by kernel_rfl))
  f240 := Tryz.func206.trans (congrArg some (by kernel_rfl))
  f241 := Tryz.func207.trans (congrArg some (by kernel_rfl))
  f276 := Tryz.func219.trans (congrArg some (by kernel_rfl))
  f277 := Tryz.func220.trans (congrArg some (by kernel_rfl))
  t0 := Tryz.underlying0
  a0 := Tryz.isAgg0
  z0 := Tryz.sizeOf0
  v0 := Tryz.zeroValue0
  t3 := Tryz.underlying3
  a3 := Tryz.isAgg3
  z3 := Tryz.sizeOf3
  v3 := Tryz.zeroValue3
  t4 := Tryz.underlying4
  a4 := Tryz.isAgg4
  z4 := Tryz.sizeOf4
  v4 := Tryz.zeroValue4
  t9 := Tryz.underlying9
  a9 := Tryz.isAgg9
  z9 := Tryz.sizeOf9
  v9 := Tryz.zeroValue9
  t20 := Tryz.underlying20
  a20 := Tryz.isAgg20
  z20 := Tryz.sizeOf20
  v20 := Tryz.zeroValue20
  t31 := Tryz.underlying22
  a31 := Tryz.isAgg22
  z31 := Tryz.sizeOf22
  v31 := Tryz.zeroValue22
  t37 := Tryz.underlying89
  a37 := Tryz.isAgg89
  z37 := Tryz.sizeOf89
  v37 := Tryz.zeroValue89
  t70 := Tryz.underlying174
  a70 := Tryz.isAgg174
  z70 := Tryz.sizeOf174
  v70 := Tryz.zeroValue174
  t72 := Tryz.underlying176
  a72 := Tryz.isAgg176
  z72 := Tryz.sizeOf176
  v72 := Tryz.zeroValue176
  t75 := Tryz.underlying160
  a75 := Tryz.isAgg160
  z75 := Tryz.sizeOf160
  v75 := Tryz.zeroValue160
  t76 := Tryz.underlying161
  a76 := Tryz.isAgg161
  z76 := Tryz.sizeOf161
  v76 := Tryz.zeroValue161
  t127 := Tryz.underlying189
  a127 := Tryz.isAgg189
  z127 := Tryz.sizeOf189
  v127 := Tryz.zeroValue189
  t164 := Tryz.underlying210
  a164 := Tryz.isAgg210
  z164 := Tryz.sizeOf210
  v164 := Tryz.zeroValue210 }
theorem Tryz.Builder_Extra_156 : Builder.Extra Tryz.prog Tryz.lays156_ren := {
  sizeBuilder := by kernel_rfl
  liesBuilder := by kernel_rfl
  t5 := Tryz.underlying5
  a5 := Tryz.isAgg5
  z5 := Tryz.sizeOf5
  v5 := Tryz.zeroValue5
  infoByte := by kernel_rfl
  cellsByte := by kernel_rfl
  sizeByte := by kernel_rfl
  neB5 := by decide }
def Tryz.lays106_ren : Go.Shelf.Ren := ⟨fun | 106 => 191 | 213 => 212 | 265 => 223 | n => n, fun | 9 => 9 | 3 => 3 | n => n, fun | n => n⟩
theorem Tryz.lays106 : Go.Proofs.Lays.n106 Tryz.prog Tryz.lays106_ren := {
  mixed := by kernel_rfl
  f106 := Tryz.func191.trans (congrArg some (by kernel_rfl))
  f213 := Tryz.func212.trans (congrArg some (by kernel_rfl))
  f265 := Tryz.func223.trans (congrArg some (by kernel_rfl))
  t3 := Tryz.underlying3
  a3 := Tryz.isAgg3
  z3 := Tryz.sizeOf3
  v3 := Tryz.zeroValue3
  t9 := Tryz.underlying9
  a9 := Tryz.isAgg9
  z9 := Tryz.sizeOf9
  v9 := Tryz.zeroValue9 }
def Tryz.laysM171_ren : Go.Shelf.Ren := ⟨fun | 171 => 183 | 243 => 205 | 246 => 218 | 283 => 226 | 284 => 227 | 285 => 228 | 286 => 229 | 129 => 149 | 317 => 231 | 318 => 232 | 319 => 233 | 320 => 234 | 337 => 237 | 338 => 238 | n => n, fun | 3 => 3 | 9 => 9 | 2 => 2 | 4 => 4 | 171 => 218 | 0 => 0 | 53 => 153 | 37 => 89 | 5 => 5 | 173 => 220 | 212 => 224 | 51 => 151 | 20 => 20 | 213 => 225 | 46 => 120 | 232 => 228 | 233 => 229 | n => n, fun | 17 => 5 | 18 => 6 | 19 => 7 | n => n⟩
theorem Tryz.laysM171 : Go.Proofs.LaysM.n171 Tryz.prog Tryz.laysM171_ren := {
  mixed := by kernel_rfl
  f129 := Tryz.func149.trans (congrArg some (by kernel_rfl))
  f171 := Tryz.func183.trans (congrArg some (by kernel_rfl))
  f243 := Tryz.func205.trans (congrArg some (by kernel_rfl))
  f246 := Tryz.func218.trans (congrArg some (by kernel_rfl))
  f283 := Tryz.func226.trans (congrArg some (by kernel_rfl))
  f284 := Tryz.func227.trans (congrArg some (by kernel_rfl))
  f285 := Tryz.func228.trans (congrArg some (by kernel_rfl))
  f286 := Tryz.func229.trans (congrArg some (by kernel_rfl))
  f317 := Tryz.func231.trans (congrArg some (by kernel_rfl))
  f318 := Tryz.func232.trans (congrArg some (by kernel_rfl))
  f319 := Tryz.func233.trans (congrArg some (by kernel_rfl))
  f320 := Tryz.func234.trans (congrArg some (by kernel_rfl))
  f337 := Tryz.func237.trans (congrArg some (by kernel_rfl))
  f338 := Tryz.func238.trans (congrArg some (by kernel_rfl))
  t0 := Tryz.underlying0
  a0 := Tryz.isAgg0
  z0 := Tryz.sizeOf0
  v0 := Tryz.zeroValue0
  t2 := Tryz.underlying2
  a2 := Tryz.isAgg2
  z2 := Tryz.sizeOf2
  v2 := Tryz.zeroValue2
  t3 := Tryz.underlying3
  a3 := Tryz.isAgg3
  z3 := Tryz.sizeOf3
  v3 := Tryz.zeroValue3
  t4 := Tryz.underlying4
  a4 := Tryz.isAgg4
  z4 := Tryz.sizeOf4
  v4 := Tryz.zeroValue4
  t5 := Tryz.underlying5
  a5 := Tryz.isAgg5
  z5 := Tryz.sizeOf5
  v5 := Tryz.zeroValue5
  t9 := Tryz.underlying9
  a9 := Tryz.isAgg9
  z9 := Tryz.sizeOf9
  v9 := Tryz.zeroValue9
  t20 := Tryz.underlying20
  a20 := Tryz.isAgg20
  z20 := Tryz.sizeOf20
  v20 := Tryz.zeroValue20
  t37 := Tryz.underlying89
  a37 := Tryz.isAgg89
  z37 := Tryz.sizeOf89
  v37 := Tryz.zeroValue89
  t46 := Tryz.underlying120
  a46 := Tryz.isAgg120
  z46 := Tryz.sizeOf120
  v46 := Tryz.zeroValue120
  t51 := Tryz.underlying151
  a51 := Tryz.isAgg151
  z51 := Tryz.sizeOf151
  v51 := Tryz.zeroValue151
  t53 := Tryz.underlying153
  a53 := Tryz.isAgg153
  z53 := Tryz.sizeOf153
  v53 := Tryz.zeroValue153
  t171 := Tryz.underlying218
  a171 := Tryz.isAgg218
  z171 := Tryz.sizeOf218
  v171 := Tryz.zeroValue218
  t173 := Tryz.underlying220
  a173 := Tryz.isAgg220
  z173 := Tryz.sizeOf220
  v173 := Tryz.zeroValue220
  t212 := Tryz.underlying224
  a212 := Tryz.isAgg224
  z212 := Tryz.sizeOf224
  v212 := Tryz.zeroValue224
  t213 := Tryz.underlying225
  a213 := Tryz.isAgg225
  z213 := Tryz.sizeOf225
  t232 := Tryz.underlying228
  a232 := Tryz.isAgg228
  z232 := Tryz.sizeOf228
  v232 := Tryz.zeroValue228
  t233 := Tryz.underlying229
  a233 := Tryz.isAgg229
  z233 := Tryz.sizeOf229
  v233 := Tryz.zeroValue229
  g17 := by kernel_rfl
  g18 := by kernel_rfl
  g19 := by kernel_rfl
  i0 := by kernel_rfl
  i2 := by kernel_rfl
  i3 := by kernel_rfl
  i4 := by kernel_rfl
  i5 := by kernel_rfl
  i9 := by kernel_rfl
  i20 := by kernel_rfl
  i37 := by kernel_rfl
  i46 := by kernel_rfl
  i51 := by kernel_rfl
  i53 := by kernel_rfl
  i171 := by kernel_rfl
  i173 := by kernel_rfl
  i212 := by kernel_rfl
  i232 := by kernel_rfl
  i233 := by kernel_rfl
  m17 := by kernel_rfl
  m18 := by kernel_rfl
  m19 := by kernel_rfl }
def Tryz.laysC172_ren : Go.Shelf.Ren := ⟨fun | 172 => 162 | 244 => 181 | 245 => 182 | 247 => 200 | 279 => 201 | 280 => 202 | 281 => 203 | 282 => 204 | 287 => 215 | 316 => 216 | 171 => 183 | 205 => 217 | 321 => 224 | 322 => 225 | 243 => 205 | 246 => 218 | 283 => 226 | 284 => 227 | 285 => 228 | 286 => 229 | 129 => 149 | 317 => 231 | 318 => 232 | 319 => 233 | 320 => 234 | 337 => 237 | 338 => 238 | n => n, fun | 9 => 9 | 3 => 3 | 75 => 160 | 76 => 161 | 4 => 4 | 5 => 5 | 167 => 183 | 37 => 89 | 0 => 0 | 85 => 184 | 2 => 2 | 168 => 186 | 53 => 153 | 175 => 203 | 46 => 120 | 210 => 207 | 127 => 189 | 145 => 217 | 143 => 215 | 21 => 21 | 171 => 218 | 173 => 220 | 212 => 224 | 51 => 151 | 20 => 20 | 213 => 225 | 232 => 228 | 233 => 229 | 80 => 178 | n => n, fun | 15 => 3 | 16 => 4 | 17 => 5 | 18 => 6 | 19 => 7 | n => n⟩
theorem Tryz.laysC172 : Go.Proofs.LaysC.n172 Tryz.prog Tryz.laysC172_ren := {
  mixed := by kernel_rfl
  f129 := Tryz.func149.trans (congrArg some (by kernel_rfl))
  f171 := Tryz.func183.trans (congrArg some (by kernel_rfl))
  f172 := Tryz.func162.trans (congrArg some (by kernel_rfl))
  f205 := Tryz.func217.trans (congrArg some (by kernel_rfl))
  f243 := Tryz.func205.trans (congrArg some (by kernel_rfl))
  f244 := Tryz.func181.trans (congrArg some (by kernel_rfl))
  f245 := Tryz.func182.trans (congrArg some (by kernel_rfl))
  f246 := Tryz.func218.trans (congrArg some (by kernel_rfl))
  f247 := Tryz.func200.trans (congrArg some (by kernel_rfl))
  f279 := Tryz.func201.trans (congrArg some (by kernel_rfl))
  f280 := Tryz.func202.trans (congrArg some (by kernel_rfl))
  f281 := Tryz.func203.trans (congrArg some (by kernel_rfl))
  f282 := Tryz.func204.trans (congrArg some (by kernel_rfl))
  f283 := Tryz.func226.trans (congrArg some (by kernel_rfl))
  f284 := Tryz.func227.trans (congrArg some (by kernel_rfl))
  f285 := Tryz.func228.trans (congrArg some (by kernel_rfl))
  f286 := Tryz.func229.trans (congrArg some (by kernel_rfl))
  f287 := Tryz.func215.trans (congrArg some (by kernel_rfl))
  f316 := Tryz.func216.trans (congrArg some (by kernel_rfl))
  f317 := Tryz.func231.trans (congrArg some (by kernel_rfl))
  f318 := Tryz.func232.trans (congrArg some (by kernel_rfl))
  f319 := Tryz.func233.trans (congrArg some (by kernel_rfl))
  f320 := Tryz.func234.trans (congrArg some (by kernel_rfl))
  f321 := Tryz.func224.trans (congrArg some (by kernel_rfl))
  f322 := Tryz.func225.trans (congrArg some (by kernel_rfl))
  f337 := Tryz.func237.trans (congrArg some (by kernel_rfl))
  f338 := Tryz.func238.trans (congrArg some (by kernel_rfl))
  t0 := Tryz.underlying0
  a0 := Tryz.isAgg0
  z0 := Tryz.sizeOf0
  v0 := Tryz.zeroValue0
  t2 := Tryz.underlying2
  a2 := Tryz.isAgg2
  z2 := Tryz.sizeOf2
  v2 := Tryz.zeroValue2
  t3 := Tryz.underlying3
  a3 := Tryz.isAgg3
  z3 := Tryz.sizeOf3
  v3 := Tryz.zeroValue3
  t4 := Tryz.underlying4
  a4 := Tryz.isAgg4
  z4 := Tryz.sizeOf4
  v4 := Tryz.zeroValue4
  t5 := Tryz.underlying5
  a5 := Tryz.isAgg5
  z5 := Tryz.sizeOf5
  v5 := Tryz.zeroValue5
  t9 := Tryz.underlying9
  a9 := Tryz.isAgg9
  z9 := Tryz.sizeOf9
  v9 := Tryz.zeroValue9
  t20 := Tryz.underlying20
  a20 := Tryz.isAgg20
  z20 := Tryz.sizeOf20
  v20 := Tryz.zeroValue20
  t21 := Tryz.underlying21
  a21 := Tryz.isAgg21
  z21 := Tryz.sizeOf21
  v21 := Tryz.zeroValue21
  t37 := Tryz.underlying89
  a37 := Tryz.isAgg89
  z37 := Tryz.sizeOf89
  v37 := Tryz.zeroValue89
  t46 := Tryz.underlying120
  a46 := Tryz.isAgg120
  z46 := Tryz.sizeOf120
  v46 := Tryz.zeroValue120
  t51 := Tryz.underlying151
  a51 := Tryz.isAgg151
  z51 := Tryz.sizeOf151
  v51 := Tryz.zeroValue151
  t53 := Tryz.underlying153
  a53 := Tryz.isAgg153
  z53 := Tryz.sizeOf153
  v53 := Tryz.zeroValue153
  t75 := Tryz.underlying160
  a75 := Tryz.isAgg160
  z75 := Tryz.sizeOf160
  v75 := Tryz.zeroValue160
  t76 := Tryz.underlying161
  a76 := Tryz.isAgg161
  z76 := Tryz.sizeOf161
  v76 := Tryz.zeroValue161
  t85 := Tryz.underlying184
  a85 := Tryz.isAgg184
  z85 := Tryz.sizeOf184
  v85 := Tryz.zeroValue184
  t127 := Tryz.underlying189
  a127 := Tryz.isAgg189
  z127 := Tryz.sizeOf189
  v127 := Tryz.zeroValue189
  t143 := Tryz.underlying215
  a143 := Tryz.isAgg215
  z143 := Tryz.sizeOf215
  v143 := Tryz.zeroValue215
  t145 := Tryz.underlying217
  a145 := Tryz.isAgg217
  z145 := Tryz.sizeOf217
  v145 := Tryz.zeroValue217
  t167 := Tryz.underlying183
  a167 := Tryz.isAgg183
  z167 := Tryz.sizeOf183
  v167 := Tryz.zeroValue183
  t168 := Tryz.underlying186
  a168 := Tryz.isAgg186
  z168 := Tryz.sizeOf186
  v168 := Tryz.zeroValue186
  t171 := Tryz.underlying218
  a171 := Tryz.isAgg218
  z171 := Tryz.sizeOf218
  v171 := Tryz.zeroValue218
  t173 := Tryz.underlying220
  a173 := Tryz.isAgg220
  z173 := Tryz.sizeOf220
  v173 := Tryz.zeroValue220
  t175 := Tryz.underlying203
  a175 := Tryz.isAgg203
  z175 := Tryz.sizeOf203
  v175 := Tryz.zeroValue203
  t210 := Tryz.underlying207
  a210 := Tryz.isAgg207
  z210 := Tryz.sizeOf207
  v210 := Tryz.zeroValue207
  t212 := Tryz.underlying224
  a212 := Tryz.isAgg224
  z212 := Tryz.sizeOf224
  v212 := Tryz.zeroValue224
  t213 := Tryz.underlying225
  a213 := Tryz.isAgg225
  z213 := Tryz.sizeOf225
  t232 := Tryz.underlying228
  a232 := Tryz.isAgg228
  z232 := Tryz.sizeOf228
  v232 := Tryz.zeroValue228
  t233 := Tryz.underlying229
  a233 := Tryz.isAgg229
  z233 := Tryz.sizeOf229
  v233 := Tryz.zeroValue229
  g15 := by kernel_rfl
  g16 := by kernel_rfl
  g17 := by kernel_rfl
  g18 := by kernel_rfl
  g19 := by kernel_rfl
  t80 := Tryz.underlying178
  a80 := Tryz.isAgg178
  z80 := Tryz.sizeOf178
  v80 := Tryz.zeroValue178
  i0 := by kernel_rfl
  i2 := by kernel_rfl
  i3 := by kernel_rfl
  i4 := by kernel_rfl
  i5 := by kernel_rfl
  i9 := by kernel_rfl
  i20 := by kernel_rfl
  i21 := by kernel_rfl
  i37 := by kernel_rfl
  i46 := by kernel_rfl
  i51 := by kernel_rfl
  i53 := by kernel_rfl
  i75 := by kernel_rfl
  i76 := by kernel_rfl
  i80 := by kernel_rfl
  i85 := by kernel_rfl
  i127 := by kernel_rfl
  i143 := by kernel_rfl
  i145 := by kernel_rfl
  i167 := by kernel_rfl
  i168 := by kernel_rfl
  i171 := by kernel_rfl
  i173 := by kernel_rfl
  i175 := by kernel_rfl
  i210 := by kernel_rfl
  i212 := by kernel_rfl
  i232 := by kernel_rfl
  i233 := by kernel_rfl
  m15 := by kernel_rfl
  m16 := by kernel_rfl
  m17 := by kernel_rfl
  m18 := by kernel_rfl
  m19 := by kernel_rfl
  c0 := by kernel_rfl
  c2 := by kernel_rfl
  c3 := by kernel_rfl
  c4 := by kernel_rfl
  c5 := by kernel_rfl
  c9 := by kernel_rfl
  c20 := by kernel_rfl
  c21 := by kernel_rfl
  c37 := by kernel_rfl
  c46 := by kernel_rfl
  c51 := by kernel_rfl
  c53 := by kernel_rfl
  c75 := by kernel_rfl
  c76 := by kernel_rfl
  c80 := by kernel_rfl
  c85 := by kernel_rfl
  c127 := by kernel_rfl
  c143 := by kernel_rfl
  c145 := by kernel_rfl
  c167 := by kernel_rfl
  c168 := by kernel_rfl
  c171 := by kernel_rfl
  c173 := by kernel_rfl
  c175 := by kernel_rfl
  c210 := by kernel_rfl
  c212 := by kernel_rfl
  c213 := by kernel_rfl
  c232 := by kernel_rfl
  c233 := by kernel_rfl }
def Tryz.laysM145_ren : Go.Shelf.Ren := ⟨fun | 145 => 129 | 220 => 161 | 219 => 180 | 217 => 196 | 225 => 197 | 224 => 198 | 267 => 199 | 266 => 213 | 314 => 214 | n => n, fun | 9 => 9 | 4 => 4 | 59 => 138 | 3 => 3 | 5 => 5 | 46 => 120 | 146 => 201 | 51 => 151 | n => n, fun | 1 => 0 | n => n⟩
theorem Tryz.laysM145 : Go.Proofs.LaysM.n145 Tryz.prog Tryz.laysM145_ren := {
  mixed := by kernel_rfl
  f145 := Tryz.func129.trans (congrArg some (by kernel_rfl))
  f217 := Tryz.func196.trans (congrArg some (by kernel_rfl))
  f219 := Tryz.func180.trans (congrArg some (by kernel_rfl))
  f220 := Tryz.func161.trans (congrArg some (by kernel_rfl))
  f224 := Tryz.func198.trans (congrArg some (by kernel_rfl))
  f225 := Tryz.func197.trans (congrArg some (by kernel_rfl))
  f266 := Tryz.func213.trans (congrArg some (by kernel_rfl))
  f267 := Tryz.func199.trans (congrArg some (by kernel_rfl))
  f314 := Tryz.func214.trans (congrArg some (by kernel_rfl))
  t3 := Tryz.underlying3
  a3 := Tryz.isAgg3
  z3 := Tryz.sizeOf3
  v3 := Tryz.zeroValue3
  t4 := Tryz.underlying4
  a4 := Tryz.isAgg4
  z4 := Tryz.sizeOf4
  v4 := Tryz.zeroValue4
  t5 := Tryz.underlying5
  a5 := Tryz.isAgg5
  z5 := Tryz.sizeOf5
  v5 := Tryz.zeroValue5
  t9 := Tryz.underlying9
  a9 := Tryz.isAgg9
  z9 := Tryz.sizeOf9
  v9 := Tryz.zeroValue9
  t46 := Tryz.underlying120
  a46 := Tryz.isAgg120
  z46 := Tryz.sizeOf120
  v46 := Tryz.zeroValue120
  t51 := Tryz.underlying151
  a51 := Tryz.isAgg151
  z51 := Tryz.sizeOf151
  v51 := Tryz.zeroValue151
  t59 := Tryz.underlying138
  a59 := Tryz.isAgg138
  z59 := Tryz.sizeOf138
  v59 := Tryz.zeroValue138
  t146 := Tryz.underlying201
  a146 := Tryz.isAgg201
  z146 := Tryz.sizeOf201
  v146 := Tryz.zeroValue201
  g1 := by kernel_rfl
  i3 := by kernel_rfl
  i4 := by kernel_rfl
  i5 := by kernel_rfl
  i9 := by kernel_rfl
  i46 := by kernel_rfl
  i51 := by kernel_rfl
  i59 := by kernel_rfl
  i146 := by kernel_rfl
  m1 := by kernel_rfl
  s1_3 := fun w h => Go.Proofs.cell_of_shapedOpen_int (zero := #[.int .i64 0]) (t := 3) h (of_decide_eq_true (by kernel_rfl)) (by kernel_rfl) rfl (by kernel_rfl) (by kernel_rfl) Tryz.underlying3 }
def Tryz.lays190_ren : Go.Shelf.Ren := ⟨fun | 190 => 74 | 125 => 103 | 258 => 102 | 128 => 148 | 129 => 149 | 302 => 139 | 303 => 140 | 304 => 141 | 305 => 142 | 306 => 143 | 307 => 144 | 308 => 145 | 309 => 146 | 310 => 147 | 333 => 168 | 329 => 169 | 330 => 170 | 334 => 171 | 335 => 172 | 336 => 173 | 344 => 192 | n => n, fun | 31 => 22 | 9 => 9 | 3 => 3 | 46 => 120 | 0 => 0 | 51 => 151 | 53 => 153 | 4 => 4 | 183 => 144 | 182 => 143 | 131 => 148 | 5 => 5 | 218 => 164 | 222 => 168 | 228 => 179 | 229 => 180 | n => n, fun | n => n⟩
theorem Tryz.lays190 : Go.Proofs.Lays.n190 Tryz.prog Tryz.lays190_ren := {
  mixed := by kernel_rfl
  f125 := Tryz.func103.trans (congrArg some (by kernel_rfl))
  f128 := Tryz.func148.trans (congrArg some (by kernel_rfl))
  f129 := Tryz.func149.trans (congrArg some (by kernel_rfl))
  f190 := Tryz.func74.trans (congrArg some (by kernel_rfl))
  f258 := Tryz.func102.trans (congrArg some (by kernel_rfl))
  f302 := Tryz.func139.trans (congrArg some (by kernel_rfl))
  f303 := Tryz.func140.trans (congrArg some (by kernel_rfl))
  f304 := Tryz.func141.trans (congrArg some (by kernel_rfl))
  f305 := Tryz.func142.trans (congrArg some (by kernel_rfl))
  f306 := Tryz.func143.trans (congrArg some (by kernel_rfl))
  f307 := Tryz.func144.trans (congrArg some (by kernel_rfl))
  f308 := Tryz.func145.trans (congrArg some (by kernel_rfl))
  f309 := Tryz.func146.trans (congrArg some (by kernel_rfl))
  f310 := Tryz.func147.trans (congrArg some (by kernel_rfl))
  f329 := Tryz.func169.trans (congrArg some (by kernel_rfl))
  f330 := Tryz.func170.trans (congrArg some (by kernel_rfl))
  f333 := Tryz.func168.trans (congrArg some (by kernel_rfl))
  f334 := Tryz.func171.trans (congrArg some (by kernel_rfl))
  f335 := Tryz.func172.trans (congrArg some (by kernel_rfl))
  f336 := Tryz.func173.trans (congrArg some (by kernel_rfl))
  f344 := Tryz.func192.trans (congrArg some (by kernel_rfl))
  t0 := Tryz.underlying0
  a0 := Tryz.isAgg0
  z0 := Tryz.sizeOf0
  v0 := Tryz.zeroValue0
  t3 := Tryz.underlying3
  a3 := Tryz.isAgg3
  z3 := Tryz.sizeOf3
  v3 := Tryz.zeroValue3
  t4 := Tryz.underlying4
  a4 := Tryz.isAgg4
  z4 := Tryz.sizeOf4
  v4 := Tryz.zeroValue4
  t5 := Tryz.underlying5
  a5 := Tryz.isAgg5
  z5 := Tryz.sizeOf5
  v5 := Tryz.zeroValue5
  t9 := Tryz.underlying9
  a9 := Tryz.isAgg9
  z9 := Tryz.sizeOf9
  v9 := Tryz.zeroValue9
  t31 := Tryz.underlying22
  a31 := Tryz.isAgg22
  z31 := Tryz.sizeOf22
  v31 := Tryz.zeroValue22
  t46 := Tryz.underlying120
  a46 := Tryz.isAgg120
  z46 := Tryz.sizeOf120
  v46 := Tryz.zeroValue120
  t51 := Tryz.underlying151
  a51 := Tryz.isAgg151
  z51 := Tryz.sizeOf151
  v51 := Tryz.zeroValue151
  t53 := Tryz.underlying153
  a53 := Tryz.isAgg153
  z53 := Tryz.sizeOf153
  v53 := Tryz.zeroValue153
  t131 := Tryz.underlying148
  a131 := Tryz.isAgg148
  z131 := Tryz.sizeOf148
  v131 := Tryz.zeroValue148
  t182 := Tryz.underlying143
  a182 := Tryz.isAgg143
  z182 := Tryz.sizeOf143
  v182 := Tryz.zeroValue143
  t183 := Tryz.underlying144
  a183 := Tryz.isAgg144
  z183 := Tryz.sizeOf144
  v183 := Tryz.zeroValue144
  t218 := Tryz.underlying164
  a218 := Tryz.isAgg164
  z218 := Tryz.sizeOf164
  v218 := Tryz.zeroValue164
  t222 := Tryz.underlying168
  a222 := Tryz.isAgg168
  z222 := Tryz.sizeOf168
  v222 := Tryz.zeroValue168
  t228 := Tryz.underlying179
  a228 := Tryz.isAgg179
  z228 := Tryz.sizeOf179
  v228 := Tryz.zeroValue179
  t229 := Tryz.underlying180
  a229 := Tryz.isAgg180
  z229 := Tryz.sizeOf180
  v229 := Tryz.zeroValue180 }
def Tryz.laysM146_ren : Go.Shelf.Ren := ⟨fun | 146 => 95 | 221 => 127 | 268 => 157 | 138 => 158 | 143 => 159 | 195 => 177 | 197 => 178 | 218 => 179 | 219 => 180 | 260 => 195 | 217 => 196 | 225 => 197 | 224 => 198 | 267 => 199 | 266 => 213 | 314 => 214 | n => n, fun | 9 => 9 | 31 => 22 | 3 => 3 | 4 => 4 | 0 => 0 | 105 => 171 | 21 => 21 | 5 => 5 | 46 => 120 | 119 => 197 | 139 => 200 | 138 => 199 | 146 => 201 | 51 => 151 | n => n, fun | 1 => 0 | 3 => 1 | 4 => 2 | n => n⟩
theorem Tryz.laysM146 : Go.Proofs.LaysM.n146 Tryz.prog Tryz.laysM146_ren := {
  mixed := by kernel_rfl
  f138 := Tryz.func158.trans (congrArg some (by kernel_rfl))
  f143 := Tryz.func159.trans (congrArg some (by kernel_rfl))
  f146 := Tryz.func95.trans (congrArg some (by kernel_rfl))
  f195 := Tryz.func177.trans (congrArg some (by kernel_rfl))
  f197 := Tryz.func178.trans (congrArg some (by kernel_rfl))
  f217 := Tryz.func196.trans (congrArg some (by kernel_rfl))
  f218 := Tryz.func179.trans (congrArg some (by kernel_rfl))
  f219 := Tryz.func180.trans (congrArg some (by kernel_rfl))
  f221 := Tryz.func127.trans (congrArg some (by kernel_rfl))
  f224 := Tryz.func198.trans (congrArg some (by kernel_rfl))
  f225 := Tryz.func197.trans (congrArg some (by kernel_rfl))
  f260 := Tryz.func195.trans (congrArg some (by kernel_rfl))
  f266 := Tryz.func213.trans (congrArg some (by kernel_rfl))
  f267 := Tryz.func199.trans (congrArg some (by kernel_rfl))
  f268 := Tryz.func157.trans (congrArg some (by kernel_rfl))
  f314 := Tryz.func214.trans (congrArg some (by kernel_rfl))
  t0 := Tryz.underlying0
  a0 := Tryz.isAgg0
  z0 := Tryz.sizeOf0
  v0 := Tryz.zeroValue0
  t3 := Tryz.underlying3
  a3 := Tryz.isAgg3
  z3 := Tryz.sizeOf3
  v3 := Tryz.zeroValue3
  t4 := Tryz.underlying4
  a4 := Tryz.isAgg4
  z4 := Tryz.sizeOf4
  v4 := Tryz.zeroValue4
  t5 := Tryz.underlying5
  a5 := Tryz.isAgg5
  z5 := Tryz.sizeOf5
  v5 := Tryz.zeroValue5
  t9 := Tryz.underlying9
  a9 := Tryz.isAgg9
  z9 := Tryz.sizeOf9
  v9 := Tryz.zeroValue9
  t21 := Tryz.underlying21
  a21 := Tryz.isAgg21
  z21 := Tryz.sizeOf21
  v21 := Tryz.zeroValue21
  t31 := Tryz.underlying22
  a31 := Tryz.isAgg22
  z31 := Tryz.sizeOf22
  v31 := Tryz.zeroValue22
  t46 := Tryz.underlying120
  a46 := Tryz.isAgg120
  z46 := Tryz.sizeOf120
  v46 := Tryz.zeroValue120
  t51 := Tryz.underlying151
  a51 := Tryz.isAgg151
  z51 := Tryz.sizeOf151
  v51 := Tryz.zeroValue151
  t105 := Tryz.underlying171
  a105 := Tryz.isAgg171
  z105 := Tryz.sizeOf171
  v105 := Tryz.zeroValue171
  t119 := Tryz.underlying197
  a119 := Tryz.isAgg197
  z119 := Tryz.sizeOf197
  t138 := Tryz.underlying199
  a138 := Tryz.isAgg199
  z138 := Tryz.sizeOf199
  v138 := Tryz.zeroValue199
  t139 := Tryz.underlying200
  a139 := Tryz.isAgg200
  z139 := Tryz.sizeOf200
  v139 := Tryz.zeroValue200
  t146 := Tryz.underlying201
  a146 := Tryz.isAgg201
  z146 := Tryz.sizeOf201
  v146 := Tryz.zeroValue201
  g1 := by kernel_rfl
  g3 := by kernel_rfl
  g4 := by kernel_rfl
  i0 := by kernel_rfl
  i3 := by kernel_rfl
  i4 := by kernel_rfl
  i5 := by kernel_rfl
  i9 := by kernel_rfl
  i21 := by kernel_rfl
  i31 := by kernel_rfl
  i46 := by kernel_rfl
  i51 := by kernel_rfl
  i105 := by kernel_rfl
  i138 := by kernel_rfl
  i139 := by kernel_rfl
  i146 := by kernel_rfl
  m1 := by kernel_rfl
  s1_3 := fun w h => Go.Proofs.cell_of_shapedOpen_int (zero := #[.int .i64 0]) (t := 3) h (of_decide_eq_true (by kernel_rfl)) (by kernel_rfl) rfl (by kernel_rfl) (by kernel_rfl) Tryz.underlying3
  m3 := by kernel_rfl
  m4 := by kernel_rfl }
end Go.Proofs
/- What the library's functions answer, by the kit's own contract. Conditions: those of each lemma. -/
namespace Go.Proofs
open Go.Shelf
theorem Tryz.join_none (a : Option Addr) (c : Nat) (sep : ByteArray) (w : World) :
    Calls Tryz.prog 165 #[.slice a 0 c, .string sep] w fun e w' => e = .returned (.string ⟨#[]⟩) ∧ w' = w := Any.strings_Join_none Tryz.lays156 Tryz.Builder_Extra_156 a c sep w
theorem Tryz.join_some (bk o c : Nat) (xs : List ByteArray) (sep : ByteArray) (w : World)
    (hcells : ∀ (j : Nat) x, xs[j]? = some x → w.cell? ⟨bk, o + j, none⟩ = some (.string x))
    (hbk : bk < w.heap.size) (hN : xs.length ≤ 140737488355328) (hcap : xs.length ≤ c)
    (hlen : (Lib.join (xs.map (·.data.toList)) sep.data.toList).length ≤ 140737488355328) :
    Calls Tryz.prog 165 #[.slice (some ⟨bk, o, none⟩) xs.length c, .string sep] w fun e w' => e = .returned (.string ⟨(Lib.join (xs.map (·.data.toList)) sep.data.toList).toArray⟩) ∧ Go.RowKit.Below w.heap.size w w' :=
  Any.strings_Join Tryz.lays156 Tryz.Builder_Extra_156 bk o c xs sep w hcells hbk hN hcap hlen
theorem Tryz.itoa (n : Int) (h0 : -9223372036854775808 ≤ n) (h1 : n ≤ 9223372036854775807) (w : World) (htab : Lib.TabIs Tryz.prog w "internal/strconv.uint64pow10" .u64 Lib.pow10Tab) :
    Calls Tryz.prog 183 #[.int .i64 n] w fun e w' => e = .returned (.string ⟨(Lib.itoa n).toArray⟩) ∧ ∃ k os, w' = Go.Sort.grow (w.drewN k) os := Any.strconv_Itoa Tryz.laysM171 n h0 h1 w htab
theorem Tryz.gC (w : World) (e : TypeId) (s : ByteArray) : Go.RowKit.Below w.heap.size w (Lib.bytesWorld w e s) :=
  ⟨rfl, rfl, rfl, by rw [Lib.bytesWorld_size]; omega, fun k hk => Lib.bytesWorld_at_old w e s k hk⟩
theorem Tryz.Sz (s : ByteArray) (hmax : s.size ≤ 281474976710656) (v : Int) (h : Lib.atoiAll s.data.toList = .ok v) (w : World) :
    Calls Tryz.prog 162 #[.string s] w fun e w' => e = .returned (.tuple #[.int .i64 v, .nilIface]) ∧ Go.RowKit.Below w.heap.size w w' :=
  (Any.strconv_Atoi_ok Tryz.laysC172 s (by omega) v h w).mono fun e w' ⟨h1, h2⟩ => ⟨h1, by
    rcases h2 with rfl | ⟨t, rfl⟩
    · exact Go.RowKit.Below.refl _ _
    · exact Tryz.gC _ _ _⟩
theorem Tryz.WV (s : ByteArray) (hlim : s.size ≤ 281474976710656) (h : Lib.atoiAll s.data.toList = Lib.NumEnd.syntax) (tp : TypeId) (p : Value) (w : World) (hvar : w.var? Tryz.prog "strconv.ErrSyntax" = some #[.iface tp p]) :
    Calls Tryz.prog 162 #[.string s] w fun e w' => ∃ t z, e = .returned (.tuple #[.int .i64 0, .iface t z]) ∧ Go.RowKit.Below w.heap.size w w' :=
  (Any.strconv_Atoi_syntax_var Tryz.laysC172 s hlim h tp p w hvar).mono fun e w' ⟨N, h1, _, _, h2⟩ => ⟨_, _, h1, h2⟩
theorem Tryz.WW (s : ByteArray) (hlim : s.size ≤ 281474976710656) (h : Lib.atoiAll s.data.toList = .range) (tp : TypeId) (p : Value) (w : World) (hvar : w.var? Tryz.prog "strconv.ErrRange" = some #[.iface tp p]) :
    Calls Tryz.prog 162 #[.string s] w fun e w' => ∃ t z, e = .returned (.tuple #[.int .i64 (Lib.atoiSat s.data.toList), .iface t z]) ∧ Go.RowKit.Below w.heap.size w w' :=
  (Any.strconv_Atoi_range_var Tryz.laysC172 s hlim h tp p w hvar).mono fun e w' ⟨N, h1, _, _, h2⟩ => ⟨_, _, h1, h2⟩
theorem Tryz.W3 (a b : ByteArray) (w : World) : Calls Tryz.prog 191 #[.string a, .string b] w fun e w' => e = .returned (.int .i64 (Lib.compareBytes a.data.toList b.data.toList)) ∧ w' = w := Any.strings_Compare Tryz.lays106 a b w
end Go.Proofs
/- What the library's functions answer, as the evaluator takes it. Conditions: those of each lemma. -/
namespace Go.Proofs.YtmcephnfcciloaaGreatDoor
open E
set_option linter.unusedSimpArgs false
set_option linter.unusedVariables false
set_option maxRecDepth 100000
/-- a list's texts -/
def strsOf : List (List T) → Option (List Str)
  | [] => some []
  | c :: r => match c with
    | [.str l] => (match strsOf r with | some ks => some (l :: ks) | none => none)
    | _ => none
theorem tZ : ∀ ks : List Str, strsOf (zV ks) = some ks
  | [] => rfl
  | k :: ks => by
    have := tZ ks
    simp only [zV] at this
    simp only [zV, List.map_cons, strsOf, this]
theorem pA : ∀ {es : List (List T)} {ks : List Str}, strsOf es = some ks → es = zV ks
  | [], ks, h => by simp only [strsOf] at h; cases h; rfl
  | c :: r, ks, h => by
    simp only [strsOf] at h
    split at h
    · split at h
      · rename_i ks' hk; cases h; rw [pA hk]; rfl
      · cases h
    · cases h
/-- what is shown by other means -/
def ZX : List V → Option V
  | [.t (.list 1 es), .t (.str sep)] => match strsOf es with
    | some ks => if ks.length ≤ 140737488355328 ∧ (Lib.join ks sep).length ≤ 140737488355328 then some (.t (.str (Lib.join ks sep))) else none
    | none => none
  | _ => none
def qP : List V → Option V
  | [.t (.str a), .t (.str b)] => some (.t (.int .i64 (Lib.compareBytes a b)))
  | _ => none
def ZY : List V → Option V
  | [.t (.int .i64 n)] => if -9223372036854775808 ≤ n ∧ n ≤ 9223372036854775807 then some (.t (.str (Lib.itoa n))) else none
  | _ => none
def Y3 : List V → Option V
  | [.t (.str s)] => if s.length ≤ 281474976710656 then (match Lib.atoiAll s with
    | .ok v => some (.tup [.t (.int .i64 v), .t .nili])
    | Lib.NumEnd.syntax => some (.tup [.t (.int .i64 0), .t .nni])
    | .range => some (.tup [.t (.int .i64 (Lib.atoiSat s)), .t .nni])) else none
  | _ => none
def SK : List V → Option V
  | [.t (.str s), .t (.str sep)] => if s.length < 4294967281 then some (.tup [.t (.str (Lib.cut s sep).1), .t (.str (Lib.cut s sep).2.1), .t (.bool (Lib.cut s sep).2.2)]) else none
  | _ => none
/-- the parts of a text -/
def sA (s sep : Str) : List Str := (Lib.splitB ⟨sep.toArray⟩ 0 (Lib.countB ⟨s.toArray⟩ ⟨sep.toArray⟩) ⟨s.toArray⟩).map (·.data.toList)
def iO : List V → Option V
  | [.t (.str s), .t (.str sep)] => if s.length < 4294967281 ∧ 1 ≤ sep.length then some (.t (.list 1 (zV (sA s sep)))) else none
  | _ => none
/-- a list of texts as it lies in memory -/
theorem Tx {w : World} {F : Nat → Prop} {u : Value} {ks : List Str} (h : RT w F u (.list 1 (zV ks))) :
    ∃ a c, u = .slice a ks.length c ∧ ks.length ≤ c ∧ (0 < ks.length → ∃ b o, a = some ⟨b, o, none⟩ ∧ F b ∧ ∀ (j : Nat) x, (ks.map fun l => (⟨l.toArray⟩ : ByteArray))[j]? = some x → w.cell? ⟨b, o + j, none⟩ = some (.string x)) := by
  cases h with
  | list a n c sz es g hn hc h0 hz hr =>
    rw [zO] at hn
    subst hn
    refine ⟨a, c, rfl, hc, fun hp => ?_⟩
    obtain ⟨b, o, e1, e2, e3⟩ := h0 hp
    refine ⟨b, o, e1, e2, fun j x hj => ?_⟩
    have hjl : j < ks.length := by have := (List.getElem?_eq_some_iff.1 hj).1; simpa using this
    have h1 := e3 j 0 hjl (by omega)
    have h2 := hr j 0 [.str ks[j]] (.str ks[j]) (vj ks j hjl) rfl
    rw [show o + (j * 1 + 0) = o + j by omega] at h1
    rw [h1]
    generalize g j 0 = gv at h2
    cases h2 with
    | str s _ hs =>
      simp [hjl] at hj
      rw [← hj, ← hs]
theorem vI {w w' : World} {F : Nat → Prop} (h : Go.RowKit.Below w.heap.size w w') (hF : ∀ b, F b → b < w.heap.size) : (∀ b, F b → b < w'.heap.size) ∧ Nxt (own fun b => w.heap.size ≤ b) w F y7 w' F y7 :=
  ⟨fun b hb => Nat.lt_of_lt_of_le (hF b hb) h.size, ⟨h.os, h.tape, h.output, h.size, fun b hb _ => h.block b hb, fun b hb => h.block b (hF b hb), fun _ hb => hb, fun _ hb => .inl hb, Ext.refl _, fun _ _ => rfl⟩⟩
/-- a function is as it is told -/
def jZ (W0 : World) (g : Nat) (e : List V → Option V) : Prop := ∀ args v, e args = some v →
    (∃ fn, Tryz.prog.funcs[g]? = some fn ∧ (fn.name == "runtime.NumGoroutine") = false ∧ fn.body.isNone = false) ∧
    ∀ (w : World) (F : Nat → Prop) (us : Array Value), vq W0 w F → (∀ b, F b → b < w.heap.size) → RVs w F y7 us.toList args →
      Calls Tryz.prog g us w fun e w' => ∃ u F', e = .returned u ∧ RV w' F' y7 u v ∧ (∀ b, F' b → b < w'.heap.size) ∧ Nxt (own fun b => w.heap.size ≤ b) w F y7 w' F' y7
theorem TW (W0 : World) : jZ W0 165 ZX := by
  intro args v hv'
  unfold ZX at hv'
  split at hv'
  · rename_i es sep
    split at hv'
    · rename_i ks hks
      split at hv'
      · rename_i hl
        cases hv'
        obtain rfl := pA hks
        refine ⟨⟨Tryz.f165, Tryz.func165, by kernel_rfl, by kernel_rfl⟩, fun w F us hB hF hu => ?_⟩
        obtain ⟨us⟩ := us
        change RVs w F y7 us _ at hu
        cases hu with
        | cons h1 h2 =>
        cases h2 with
        | cons h2 h3 =>
        cases h3
        obtain ⟨s, rfl, hs⟩ := tL h2
        obtain ⟨a, c, rfl, hc, h0⟩ := Tx (SI h1)
        have hfin : ∀ (e : Ending) (w' : World), (e = .returned (.string ⟨(Lib.join ks sep).toArray⟩) ∧ Go.RowKit.Below w.heap.size w w') → ∃ u F', e = .returned u ∧ RV w' F' y7 u (.t (.str (Lib.join ks sep))) ∧ (∀ b, F' b → b < w'.heap.size) ∧ Nxt (own fun b => w.heap.size ≤ b) w F y7 w' F' y7 := by
          rintro e w' ⟨rfl, hb⟩
          obtain ⟨k1, k2⟩ := vI hb hF
          exact ⟨_, F, rfl, .t _ _ (.str _ _ (by simp)), k1, k2⟩
        by_cases hk : ks.length = 0
        · have hk' : ks = [] := List.eq_nil_of_length_eq_zero hk
          subst hk'
          refine (Tryz.join_none a c s w).mono fun e w' ⟨h1, h2⟩ => hfin e w' ⟨?_, ?_⟩
          · rw [h1]; rfl
          · rw [h2]; exact Go.RowKit.Below.refl _ _
        · obtain ⟨b, o, rfl, hb, hcell⟩ := h0 (by omega)
          have hmap : (ks.map fun l => (⟨l.toArray⟩ : ByteArray)).map (·.data.toList) = ks := by
            rw [List.map_map]
            have : ((fun x : ByteArray => x.data.toList) ∘ fun l : List UInt8 => (⟨l.toArray⟩ : ByteArray)) = id := by funext l; simp
            rw [this]; simp
          have := Tryz.join_some b o c (ks.map fun l => (⟨l.toArray⟩ : ByteArray)) s w hcell (hF b hb) (by simpa using hl.1) (by simpa using hc) (by rw [hmap, hs]; exact hl.2)
          rw [hmap, hs, List.length_map] at this
          exact this.mono fun e w' h => hfin e w' h
      · cases hv'
    · cases hv'
  · cases hv'
theorem cD (W0 : World) : jZ W0 191 qP := by
  intro args v hv'
  unfold qP at hv'
  split at hv'
  · rename_i a b
    cases hv'
    refine ⟨⟨Tryz.f191, Tryz.func191, by kernel_rfl, by kernel_rfl⟩, fun w F us hB hF hu => ?_⟩
    obtain ⟨us⟩ := us
    change RVs w F y7 us _ at hu
    cases hu with
    | cons h1 h2 =>
    cases h2 with
    | cons h2 h3 =>
    cases h3
    obtain ⟨s1, rfl, hs1⟩ := tL h1
    obtain ⟨s2, rfl, hs2⟩ := tL h2
    refine (Tryz.W3 s1 s2 w).mono fun e w' h => ?_
    obtain ⟨rfl, rfl⟩ := h
    rw [hs1, hs2]
    exact ⟨_, F, rfl, .t _ _ (.int _ _), hF, Nxt.refl _ _ _ _⟩
  · cases hv'
theorem cP (w : World) (k : Nat) (os : Array Obj) : Go.RowKit.Below w.heap.size w (Go.Sort.grow (w.drewN k) os) :=
  ⟨rfl, rfl, rfl, by simp [Go.Sort.grow], fun b hb => by simp [Go.Sort.grow, Array.getElem?_append_left hb]⟩
theorem XR {W0 w : World} {F : Nat → Prop} {n : String} {k : IntKind} {zs : List Int} (hB : vq W0 w F) (h : Lib.TabIs Tryz.prog W0 n k zs) : Lib.TabIs Tryz.prog w n k zs := by
  unfold Lib.TabIs World.var? at *
  cases hg : Tryz.prog.globalNamed n with
  | none => simp [hg] at h
  | some g =>
    simp only [hg, Option.bind_some] at h ⊢
    have hlt : g < W0.heap.size := by
      refine Nat.lt_of_not_le fun hc => ?_
      rw [Array.getElem?_eq_none hc] at h
      cases h
    rw [hB.heap g hlt]
    exact h
theorem TY (W0 : World) (hT : Lib.TabIs Tryz.prog W0 "internal/strconv.uint64pow10" .u64 Lib.pow10Tab) : jZ W0 183 ZY := by
  intro args v hv'
  unfold ZY at hv'
  split at hv'
  · rename_i n
    split at hv'
    · rename_i hn
      cases hv'
      refine ⟨⟨Tryz.f183, Tryz.func183, by kernel_rfl, by kernel_rfl⟩, fun w F us hB hF hu => ?_⟩
      obtain ⟨us⟩ := us
      change RVs w F y7 us _ at hu
      cases hu with
      | cons h1 h2 =>
      cases h2
      cases h1 with
      | t _ _ h1 =>
      cases h1
      refine (Tryz.itoa n hn.1 hn.2 w (XR hB hT)).mono fun e w' h => ?_
      obtain ⟨rfl, k, os, rfl⟩ := h
      obtain ⟨k1, k2⟩ := vI (cP w k os) hF
      exact ⟨_, F, rfl, .t _ _ (.str _ _ (by simp)), k1, k2⟩
    · cases hv'
  · cases hv'
theorem fk {W0 w : World} {F : Nat → Prop} {n : String} {cs : Array Value} (hB : vq W0 w F) (h : W0.var? Tryz.prog n = some cs) : w.var? Tryz.prog n = some cs := by
  unfold World.var? at *
  cases hg : Tryz.prog.globalNamed n with
  | none => simp [hg] at h
  | some g =>
    simp only [hg, Option.bind_some] at h ⊢
    have hlt : g < W0.heap.size := by
      refine Nat.lt_of_not_le fun hc => ?_
      rw [Array.getElem?_eq_none hc] at h
      cases h
    rw [hB.heap g hlt]
    exact h
theorem bL {w : World} {F : Nat → Prop} {ρ : yn} {u1 u2 : Value} {x1 x2 : T} (h1 : RT w F u1 x1) (h2 : RT w F u2 x2) : RV w F ρ (.tuple #[u1, u2]) (.tup [.t x1, .t x2]) := by
  refine .tup _ _ (fun j => if j = 0 then u1 else u2) rfl (fun j hj => ?_) fun j x hj => ?_
  · match j, hj with
    | 0, _ => rfl
    | 1, _ => rfl
  · match j, hj with
    | 0, hj => cases hj; exact .t _ _ h1
    | 1, hj => cases hj; exact .t _ _ h2
    | j + 2, hj => simp at hj
theorem SA (W0 : World) (hS : ∃ tp p, W0.var? Tryz.prog "strconv.ErrSyntax" = some #[.iface tp p]) (hR : ∃ tp p, W0.var? Tryz.prog "strconv.ErrRange" = some #[.iface tp p]) : jZ W0 162 Y3 := by
  intro args v hv'
  unfold Y3 at hv'
  split at hv'
  · rename_i l
    split at hv'
    · rename_i hl
      refine ⟨⟨Tryz.f162, Tryz.func162, by kernel_rfl, by kernel_rfl⟩, fun w F us hB hF hu => ?_⟩
      obtain ⟨us⟩ := us
      change RVs w F y7 us _ at hu
      cases hu with
      | cons h1 h2 =>
      cases h2
      obtain ⟨s, rfl, hs⟩ := tL h1
      have hsz : s.size ≤ 281474976710656 := by
        have : s.data.toList.length = s.size := by simp
        rw [hs] at this
        omega
      obtain ⟨tS, pS, hS⟩ := hS
      obtain ⟨tR, pR, hR⟩ := hR
      split at hv'
      · rename_i n hn
        cases hv'
        refine (Tryz.Sz s hsz n (by rw [hs]; exact hn) w).mono fun e w' h => ?_
        obtain ⟨rfl, hb⟩ := h
        obtain ⟨k1, k2⟩ := vI hb hF
        exact ⟨_, F, rfl, bL (.int _ _) .nili, k1, k2⟩
      · rename_i hn
        cases hv'
        refine (Tryz.WV s hsz (by rw [hs]; exact hn) tS pS w (fk hB hS)).mono fun e w' h => ?_
        obtain ⟨t, z, rfl, hb⟩ := h
        obtain ⟨k1, k2⟩ := vI hb hF
        exact ⟨_, F, rfl, bL (.int _ _) (.nni t z), k1, k2⟩
      · rename_i hn
        cases hv'
        refine (Tryz.WW s hsz (by rw [hs]; exact hn) tR pR w (fk hB hR)).mono fun e w' h => ?_
        obtain ⟨t, z, rfl, hb⟩ := h
        obtain ⟨k1, k2⟩ := vI hb hF
        rw [hs]
        exact ⟨_, F, rfl, bL (.int _ _) (.nni t z), k1, k2⟩
    · cases hv'
  · cases hv'
theorem jv {W0 w : World} {F : Nat → Prop} {a : Addr} {v : Value} (hB : vq W0 w F) (h : W0.cell? a = some v) : w.cell? a = some v := by
  have hlt : a.block < W0.heap.size := by
    refine Nat.lt_of_not_le fun hc => ?_
    simp [World.cell?, Array.getElem?_eq_none hc] at h
  unfold World.cell? at h ⊢
  rw [hB.heap _ hlt]
  exact h
theorem gB (w : World) (n : Nat) : Go.RowKit.Below w.heap.size w (w.drewN n) := ⟨rfl, rfl, rfl, Nat.le_refl _, fun _ _ => rfl⟩
theorem W5 {w : World} {F : Nat → Prop} {ρ : yn} {u1 u2 u3 : Value} {x1 x2 x3 : T} (h1 : RT w F u1 x1) (h2 : RT w F u2 x2) (h3 : RT w F u3 x3) : RV w F ρ (.tuple #[u1, u2, u3]) (.tup [.t x1, .t x2, .t x3]) := by
  refine .tup _ _ (fun j => if j = 0 then u1 else if j = 1 then u2 else u3) rfl (fun j hj => ?_) fun j x hj => ?_
  · match j, hj with
    | 0, _ => rfl
    | 1, _ => rfl
    | 2, _ => rfl
  · match j, hj with
    | 0, hj => cases hj; exact .t _ _ h1
    | 1, hj => cases hj; exact .t _ _ h2
    | 2, hj => cases hj; exact .t _ _ h3
    | j + 3, hj => simp at hj
theorem RA (W0 : World) (hM : ∃ m, W0.cell? ⟨Tryz.laysM145_ren.g 1, 0, none⟩ = some (.int .i64 m)) : jZ W0 129 SK := by
  intro args v hv'
  unfold SK at hv'
  split at hv'
  · rename_i l lsep
    split at hv'
    · rename_i hl
      cases hv'
      refine ⟨⟨Tryz.f129, Tryz.func129, by kernel_rfl, by kernel_rfl⟩, fun w F us hB hF hu => ?_⟩
      obtain ⟨us⟩ := us
      change RVs w F y7 us _ at hu
      cases hu with
      | cons h1 h2 =>
      cases h2 with
      | cons h2 h3 =>
      cases h3
      obtain ⟨s, rfl, hs⟩ := tL h1
      obtain ⟨sep, rfl, hsep⟩ := tL h2
      have hsz : s.size < 4294967281 := by
        have : s.data.toList.length = s.size := by simp
        rw [hs] at this
        omega
      obtain ⟨m, hM⟩ := hM
      refine (Any.strings_Cut { Tryz.laysM145 with } s sep m w hsz (jv hB hM)).mono fun e w' h => ?_
      rw [hs, hsep] at h
      obtain ⟨rfl, n, rfl⟩ := h
      obtain ⟨k1, k2⟩ := vI (gB w n) hF
      exact ⟨_, F, rfl, W5 (.str _ _ (by simp)) (.str _ _ (by simp)) (.bool _), k1, k2⟩
    · cases hv'
  · cases hv'
end Go.Proofs.YtmcephnfcciloaaGreatDoor
/- What strings.Split answers, as the evaluator takes it. Conditions: those of each lemma. -/
namespace Go.Proofs.YtmcephnfcciloaaGreatDoor
open E
set_option linter.unusedSimpArgs false
set_option linter.unusedVariables false
set_option maxRecDepth 100000
/-- a row of texts laid behind all -/
theorem Yq (w : World) (F : Nat → Prop) (hF : ∀ b, F b → b < w.heap.size) (t : TypeId) (ps : List ByteArray) (n : Nat) (hn : ps.length = n) :
    RT (w.alloc (.cells (ps.map Value.string).toArray t)) (fun b => F b ∨ b = w.heap.size) (.slice (some ⟨w.heap.size, 0, none⟩) n n) (.list 1 (zV (ps.map (·.data.toList)))) := by
  have hcell : ∀ j, j < ps.length → (w.alloc (.cells (ps.map Value.string).toArray t)).cell? ⟨w.heap.size, j, none⟩ = some (.string (ps.getD j ByteArray.empty)) := fun j hj => by
    have ha : (w.alloc (.cells (ps.map Value.string).toArray t)).heap = w.heap.push (.cells (ps.map Value.string).toArray t) := rfl
    unfold World.cell?
    rw [ha]
    simp [hj, List.getD]
  generalize w.alloc (.cells (ps.map Value.string).toArray t) = w1 at *
  refine RT.list (F := fun b => F b ∨ b = w.heap.size) (some ⟨w.heap.size, 0, none⟩) n n 1 (zV (ps.map (·.data.toList))) (fun i _ => .string (ps.getD i ByteArray.empty)) (by rw [zO, List.length_map]; exact hn) (Nat.le_refl _) (fun _ => ⟨w.heap.size, 0, rfl, Or.inr rfl, fun i j hi hj => ?_⟩) (fun e he => ?_) fun i j cs x hi hj => ?_
  · obtain rfl : j = 0 := by omega
    rw [show 0 + (i * 1 + 0) = i by omega]
    exact hcell i (by omega)
  · simp only [zV, List.mem_map] at he
    obtain ⟨a, _, rfl⟩ := he
    rfl
  · simp only [zV, List.map_map, List.getElem?_map, Option.map_eq_some_iff] at hi
    obtain ⟨a, ha, rfl⟩ := hi
    match j, hj with
    | 0, hj =>
      simp [Function.comp] at hj
      subst hj
      have : ps.getD i ByteArray.empty = a := by simp [List.getD, ha]
      rw [this]
      exact .str _ _ rfl
    | j + 1, hj => simp at hj
theorem Ym (w : World) (F : Nat → Prop) (hF : ∀ b, F b → b < w.heap.size) (o : Obj) : (∀ b, (F b ∨ b = w.heap.size) → b < (w.alloc o).heap.size) ∧ Nxt (own fun b => w.heap.size ≤ b) w F y7 (w.alloc o) (fun b => F b ∨ b = w.heap.size) y7 := by
  have ha : (w.alloc o).heap = w.heap.push o := rfl
  have hsz : (w.alloc o).heap.size = w.heap.size + 1 := by rw [ha, Array.size_push]
  have hold : ∀ b, b < w.heap.size → (w.alloc o).heap[b]? = w.heap[b]? := fun b hb => by
    rw [ha, Array.getElem?_push_lt hb, Array.getElem?_eq_getElem hb]
  refine ⟨fun b hb => ?_, rfl, rfl, rfl, by omega, fun b hb _ => hold b hb, fun b hb => hold b (hF b hb), fun _ hb => .inl hb, fun b hb => ?_, Ext.refl _, fun _ _ => rfl⟩
  · rcases hb with hb | rfl
    · have := hF b hb; omega
    · omega
  · rcases hb with hb | rfl
    · exact .inl hb
    · exact .inr (Nat.le_refl _)
theorem XU (W0 : World) (hM : ∃ m, W0.cell? ⟨Tryz.laysM146_ren.g 1, 0, none⟩ = some (.int .i64 m)) : jZ W0 95 iO := by
  intro args v hv'
  unfold iO at hv'
  split at hv'
  · rename_i l lsep
    split at hv'
    · rename_i hl
      cases hv'
      refine ⟨⟨Tryz.f95, Tryz.func95, by kernel_rfl, by kernel_rfl⟩, fun w F us hB hF hu => ?_⟩
      obtain ⟨us⟩ := us
      change RVs w F y7 us _ at hu
      cases hu with
      | cons h1 h2 =>
      cases h2 with
      | cons h2 h3 =>
      cases h3
      obtain ⟨s, rfl, hs⟩ := tL h1
      obtain ⟨sep, rfl, hsep⟩ := tL h2
      have hsz : s.size < 4294967281 := by
        have : s.data.toList.length = s.size := by simp
        rw [hs] at this
        omega
      have hsp : 1 ≤ sep.size := by
        have : sep.data.toList.length = sep.size := by simp
        rw [hsep] at this
        omega
      obtain ⟨m, hM⟩ := hM
      refine (Any.strings_Split { Tryz.laysM146 with } Tryz.laysM146.i9 s sep m w hsz (jv hB hM) hsp).mono fun e w' h => ?_
      have es : (⟨l.toArray⟩ : ByteArray) = s := by rw [← hs]
      have esep : (⟨lsep.toArray⟩ : ByteArray) = sep := by rw [← hsep]
      have hlen := Lib.splitB_all sep hsp 0 (Lib.countB s sep) s rfl
      unfold sA
      rw [es, esep]
      obtain ⟨rfl, rfl⟩ := h
      generalize Lib.splitB sep 0 (Lib.countB s sep) s = ps at *
      generalize Lib.countB s sep = n at *
      obtain ⟨k1, k2⟩ := Ym w F hF (.cells (ps.map Value.string).toArray (Tryz.laysM146_ren.t 9))
      exact ⟨_, fun b => F b ∨ b = w.heap.size, rfl, .t _ _ (Yq w F hF _ ps (n + 1) hlen), k1, k2⟩
    · cases hv'
  · cases hv'
end Go.Proofs.YtmcephnfcciloaaGreatDoor
/- slices.Sort at texts, by the kit's own contract: on rows. Conditions: those of each lemma. -/
namespace Go.Proofs.YtmcephnfcciloaaGreatDoor
open E
set_option linter.unusedSimpArgs false
set_option linter.unusedVariables false
set_option maxRecDepth 100000
def wz (ks : List Str) : List Str := ks.mergeSort fun x y => decide (x ≤ y)
theorem nR (ks : List Str) : (wz ks).Perm ks := List.mergeSort_perm _ _
theorem pB (ks : List Str) : (wz ks).length = ks.length := (nR ks).length_eq
def ZS (args : List V) (h : Heap) : Option (V × Heap) :=
  match args, h with
  | [.sl 0 0 n cap], [.ts 1 es] => match strsOf es with
    | some ks => if n = ks.length ∧ ks.length ≤ 1073741824 then some (.tup [], [.ts 1 (zV (wz ks))]) else none
    | none => none
  | _, _ => none
variable {w : World} {F : Nat → Prop} {ρ : yn} {Ow : Own} {h : Heap}
theorem fZ (hS : St w F ρ Ow h) {w' : World} (h1 : w'.os = w.os) (h2 : w'.tape = w.tape) (h3 : w'.output = w.output) (h4 : w.heap.size ≤ w'.heap.size) (h5 : ∀ b, b < w.heap.size → w'.heap[b]? = w.heap[b]?) : St w' F ρ Ow h ∧ Nxt Ow w F ρ w' F ρ := by
  have hN : Nxt Ow w F ρ w' F ρ := ⟨h1, h2, h3, h4, fun b hb _ => h5 b hb, fun b hb => h5 b (hS.fsz b hb), fun _ x => x, fun _ x => .inl x, Ext.refl _, fun _ _ => rfl⟩
  refine ⟨hS.next hN hS.out (fun b hb => Nat.lt_of_lt_of_le (hS.fsz b hb) h4) (fun r b hr => .inl ⟨hr, fun L hL hw => ⟨h5 _ ((hS.blk r b hr).vn hw hL).2.2, ((hS.blk r b hr).vn hw hL).1⟩⟩)
    (hS.owned hN (fun b _ hF hlt _ => ⟨h5 b hlt, hF⟩) (fun r i j x ho => ⟨ho, fun L u hL hu => ?_⟩) fun r b L hr hw hL => .inr (hS.same (Ext.refl _) hr hw hL)), hN⟩
  obtain ⟨c, el', fr, q1, q2⟩ := hu
  exact ⟨c, el', fr, (h5 _ (Array.getElem?_eq_some_iff.1 q1).1).trans q1, q2⟩
theorem Tryz.cg (p : Option Addr) (cap : Nat) (w : World) : Calls Tryz.prog 74 #[.slice p 0 cap] w fun e w' => e = .returned (.tuple #[]) ∧ w' = w := Any.slices_Sort_string_none Tryz.lays190 p cap w
theorem Tryz.ssort (blk off cap : Nat) (ss : List (List UInt8)) (w : World) (hH : Go.Sort.Holds encStr w blk off ss.toArray) (hblk : blk < w.heap.size) (hsz : ss.length < 4611686018427387904) :
    Calls Tryz.prog 74 #[.slice (some ⟨blk, off, none⟩) ss.length cap] w fun e w' =>
      e = .returned (.tuple #[]) ∧ ∃ n os, w' = Go.Sort.grow (Go.Sort.putRow encStr (Go.Sort.ahead w n) blk off (ss.mergeSort fun x y => decide (x ≤ y)).toArray) os := Any.slices_Sort_string Tryz.lays190 blk off cap ss w hH hblk hsz
theorem Tt (W0 : World) : om Tryz.prog W0 74 ZS := by
  intro args h v h' hv
  unfold ZS at hv
  split at hv
  · rename_i n cap es
    split at hv
    · rename_i ks hks
      split at hv
      · rename_i hn
        obtain ⟨hn, hlim⟩ := hn
        cases hv
        obtain rfl := pA hks
        refine ⟨⟨Tryz.f74, Tryz.func74, by kernel_rfl, by kernel_rfl⟩, fun Ow w F ρ us hB hS hO hu => ?_⟩
        obtain ⟨us⟩ := us
        change RVs w F ρ us _ at hu
        cases hu with
        | cons h1 h2 =>
        cases h2
        subst hn
        have htup' : ∀ {w' : World}, RV w' F ρ (.tuple #[]) (.tup []) := .tup _ _ (fun _ => undef) rfl (fun j hj => by simp at hj) fun j x hj => by simp at hj
        have htup : RV w F ρ (.tuple #[]) (.tup []) := htup'
        have none_case : ks = [] → ∀ (a : Option Addr) (c : Nat), Calls Tryz.prog 74 #[.slice a 0 c] w fun e w' => ∃ u F' ρ', e = .returned u ∧ RV w' F' ρ' u (.tup []) ∧ St w' F' ρ' Ow [.ts 1 (zV (wz ks))] ∧ Nxt Ow w F y7 w' F' y7 ∧ ∀ r l, r < 1 → ρ r = some l → ρ' r = some l := fun hk a c => by
          subst hk
          refine (Tryz.cg a c w).mono fun e w' hp => ?_
          obtain ⟨rfl, rfl⟩ := hp
          exact ⟨_, F, ρ, rfl, htup, by rw [show wz [] = [] by simp [wz]]; exact hS, Nxt.refl _ _ _ _, fun _ _ _ hl => hl⟩
        generalize hkl : ks.length = kl at h1
        cases h1 with
        | slP r cap a hρ hc => exact none_case (List.eq_nil_of_length_eq_zero hkl) a 0
        | sl r off len cap L a c hρ ha hl hnn hc0 hc1 hz =>
          by_cases hk0 : ks = []
          · subst hk0
            simp at hkl
            subst hkl
            exact none_case rfl a c
          · have hpos : 0 < ks.length := by cases ks with | nil => exact absurd rfl hk0 | cons x r => simp
            have hcne : c ≠ 0 := by omega
            obtain rfl := ha.resolve_right hcne
            rcases hS.blk 0 _ rfl with ⟨L', q1, q2, q3, q4, q5⟩ | ⟨q1, q2⟩
            · rw [q1] at hρ; cases hρ
              have hrow := q3
              obtain ⟨e1, e2, cc, el, fr, e3, e4, e5, e6, e7⟩ := q3
              rw [zO] at e1
              have hlt : L.b < w.heap.size := (Array.getElem?_eq_some_iff.1 e3).1
              have hcell : ∀ j (hj : j < ks.length), cc[L.o + j]? = some (encStr ks[j]) := fun j hj => by
                obtain ⟨u, hu, hr⟩ := e7 j 0 [.str ks[j]] (.str ks[j]) (vj ks j hj) rfl
                rw [q2, show L.o + (j * 1 + 0) = L.o + j by omega] at hu
                rw [hu]
                cases hr with
                | str s _ hs =>
                  show some (Value.string s) = some (Value.string ⟨ks[j].toArray⟩)
                  rw [← hs]
              have hzz : L.o + L.n ≤ L.z := by rw [q2, Nat.mul_one] at e6; exact e6
              have hH : Go.Sort.Holds encStr w L.b L.o ks.toArray := fun j hj => by
                have hj' : j < ks.length := by simpa using hj
                have hlen : L.o + j < cc.size := by rw [e4]; omega
                have hx := hcell j hj'
                refine ⟨?_, ?_⟩
                · unfold World.cell?
                  rw [e3]
                  simp [hx, hj']
                · unfold World.frozen?
                  rw [e3]
                  have := e5 (L.o + j) hlen
                  simp only [decide_eq_false_iff_not, Bool.and_eq_false_iff, not_and, Nat.not_lt] at this ⊢
                  first | exact this | simpa using this | (simp; omega)
              have hslen := pB ks
              refine Calls.mono (by
                have := Tryz.ssort L.b L.o c ks w hH hlt (by omega)
                rw [hkl] at this
                rw [show L.o + 0 * L.sz = L.o by omega]
                exact this) fun e w' hp => ?_
              obtain ⟨rfl, q, os, hw'⟩ := hp
              change w' = Go.Sort.grow (Go.Sort.putRow encStr (Go.Sort.ahead w q) L.b L.o (wz ks).toArray) os at hw'
              rw [Lib.putRow_eq_setCells encStr w L.b L.o ks.toArray (wz ks) q hH (by rw [hslen]; simp)] at hw'
              obtain ⟨hS1, hN1⟩ := fZ (w' := w.drewN q) hS rfl rfl rfl (Nat.le_refl _) (fun _ _ => rfl)
              have hfit : L.o + ((wz ks).map encStr).length ≤ cc.size := by rw [List.length_map, hslen, e4]; omega
              obtain ⟨c', k1, k2, k3⟩ := xJ ((wz ks).map encStr) L.b L.o (w.drewN q) cc el fr e3 hfit
              obtain ⟨hS2, hN2⟩ := mS (blk := .ts 1 (zV (wz ks))) hS1 (r := 0) rfl rfl q1 L.o ((wz ks).map encStr) (fun hN => .inl ⟨L, q1, q2, ⟨by rw [zO, hslen]; exact e1, fun e he => by
                  simp only [zV, List.mem_map] at he
                  obtain ⟨x, _, rfl⟩ := he
                  exact q2.symm, c', el, fr, k1, by rw [k2, e4], fun k hk => e5 k (by rw [← k2]; exact hk), e6, fun i j cs x hi hj => by
                    have hil := (List.getElem?_eq_some_iff.1 hi).1
                    rw [zO] at hil
                    rw [vj (wz ks) i hil] at hi
                    cases hi
                    match j, hj with
                    | 0, hj =>
                      cases hj
                      refine ⟨encStr (wz ks)[i], ?_, .str _ _ (by simp)⟩
                      rw [q2, show L.o + (i * 1 + 0) = L.o + i by omega, k3, if_pos ⟨by omega, by rw [List.length_map]; omega⟩, show L.o + i - L.o = i by omega]
                      simp [hil]
                    | j + 1, hj => simp at hj⟩, q4, q5⟩) (fun i j x ho => by
                  obtain ⟨sz, es, cs, h1, _⟩ := ho
                  simp at h1)
              obtain ⟨hS3, hN3⟩ := fZ (w' := w') hS2 (by rw [hw']; rfl) (by rw [hw']; rfl) (by rw [hw']; rfl) (by rw [hw']; simp [Go.Sort.grow]) (fun b hb => by rw [hw']; simp only [Go.Sort.grow]; rw [Array.getElem?_append_left hb])
              exact ⟨_, F, ρ, rfl, htup', hS3, ((hN1.trans hN2).trans hN3).forget (Ext.refl _), fun _ _ _ hl => hl⟩
            · have : ks = [] := by
                have := congrArg List.length q2
                rw [zO] at this
                exact List.eq_nil_of_length_eq_zero this
              exact absurd this hk0
      · cases hv
    · cases hv
  · cases hv
end Go.Proofs.YtmcephnfcciloaaGreatDoor
/- Which slots the loops keep: tables written by a program of mine (live.py). Conditions: none. -/
namespace Go.Proofs.YtmcephnfcciloaaGreatDoor
set_option maxRecDepth 100000
def T8 : List (Nat × Nat × List Nat) → Nat → Nat → List Nat
  | [], _, _ => []
  | (f', p', l) :: r, f, p => if f = f' ∧ p = p' then l else T8 r f p
def TP : List (Nat × Nat × List Nat) := [
  (7, 122, [0, 1, 5]),
  (10, 58, [0, 3, 4]),
  (12, 58, [0, 1, 5]),
  (14, 58, [0, 1, 5]),
  (16, 26, [0, 1, 5]),
  (17, 26, [0, 1, 5]),
  (18, 26, [0, 1, 5]),
  (22, 58, [1, 2, 5, 6]),
  (22, 7462, [1, 2, 5, 6, 7, 8]),
  (23, 58, [1, 2, 5, 13, 14, 15]),
  (23, 14950, [1, 2, 5, 7, 13, 14, 15, 22, 23, 24]),
  (24, 122, [0, 1, 5]),
  (25, 122, [0, 1, 5]),
  (27, 26, [1, 3]),
  (30, 58, [0, 3, 4]),
  (31, 58, [0, 3, 4]),
  (33, 26, [1, 6, 7, 8]),
  (36, 58, [0, 1, 5]),
  (38, 26, [0, 1, 5]),
  (39, 60, [0, 3]),
  (42, 60, [2, 5, 6]),
  (44, 60, [2, 5, 6]),
  (49, 26, [0, 4]),
  (50, 26, [0, 1, 2, 7]),
  (51, 28, [0, 1, 5]),
  (56, 26, [1, 3]),
  (57, 26, [1, 2, 5]),
  (58, 250, [4, 5, 6]),
  (60, 58, [1, 5, 6, 7]),
  (63, 26, [1, 2, 7, 8, 9]),
  (64, 122, [4, 15, 16, 17]),
  (66, 122, [0, 5, 23, 24, 25]),
  (68, 26, [0, 1, 5]),
  (70, 26, [0, 1, 5]),
  (71, 26, [1, 2, 5]),
  (75, 26, [0, 1, 7, 8]),
  (76, 26, [0, 1, 7, 8]),
  (79, 26, [0, 1, 7, 8]),
  (80, 122, [0, 1, 5]),
  (82, 58, [0, 3, 4]),
  (82, 59706, [0, 3, 4, 5, 6]),
  (84, 26, [0, 3]),
  (85, 122, [0, 3, 4, 5]),
  (88, 26, [0, 3]),
  (90, 58, [0, 3, 4]),
  (91, 58, [0, 3, 10, 11, 12]),
  (94, 26, [0, 5, 6, 7]),
  (98, 26, [0, 5, 6, 7]),
  (101, 58, [0, 1, 5]),
  (102, 14, [0, 1, 2, 3, 8, 9]),
  (105, 122, [0, 1, 5, 6, 7]),
  (111, 122, [2, 4, 5, 6]),
  (113, 26, [0, 1, 5]),
  (114, 58, [0, 3, 4]),
  (115, 122, [1, 3, 4]),
  (117, 58, [2, 3, 5, 6]),
  (117, 250, [2, 3, 7]),
  (120, 26, [0, 1, 7, 8]),
  (127, 2044, [0, 1, 2, 3, 9, 10]),
  (132, 250, [2, 4, 5, 16, 17, 18]),
  (137, 26, [2, 3, 24, 25, 26]),
  (137, 122, [2, 3, 56, 57]),
  (139, 6, [0, 1, 2, 6]),
  (139, 402, [0, 1, 2, 6, 7]),
  (140, 122, [0, 6, 7, 8, 9]),
  (140, 126, [0, 6, 7, 10]),
  (141, 238, [0, 1, 6, 7, 8, 9]),
  (143, 14, [0, 6, 7]),
  (144, 58, [0, 1, 2, 7, 8]),
  (144, 3728, [0, 1, 2, 7, 8]),
  (144, 477674, [0, 1, 2, 7, 8, 9]),
  (144, 477690, [0, 1, 2, 7, 8, 10]),
  (146, 60, [0, 1, 9, 10]),
  (146, 960, [0, 1, 9, 10]),
  (146, 1924, [0, 1, 9, 10]),
  (147, 60, [0, 1, 10, 11]),
  (147, 124, [0, 1, 10, 11]),
  (147, 4092, [0, 1, 10, 11]),
  (147, 65472, [0, 1, 10, 11]),
  (147, 130948, [0, 1, 10, 11]),
  (152, 124, [0, 3, 4]),
  (153, 26, [1, 3]),
  (157, 250, [0, 1, 6, 7]),
  (158, 62, [0, 1, 5]),
  (164, 26, [1, 13, 14, 15]),
  (164, 58, [1, 24, 25, 26]),
  (165, 250, [0, 1, 5, 39, 40, 41]),
  (165, 4090, [1, 8, 63, 64, 65]),
  (168, 6, [0, 2, 3, 8]),
  (175, 26, [0, 3]),
  (177, 26, [2, 4]),
  (180, 2044, [0, 1, 5, 6, 7, 8, 9, 10]),
  (181, 3770, [5, 6, 47, 48, 49]),
  (194, 26, [0, 3]),
  (199, 250, [0, 1, 5, 6, 7, 8, 9]),
  (199, 1018, [0, 1, 5, 6, 7, 8, 10]),
  (208, 12, [0, 1]),
  (214, 58, [0, 4, 5]),
  (214, 250, [4, 6, 7, 8]),
  (215, 32762, [1, 8, 9, 10, 11, 12, 13, 99, 100, 101]),
  (225, 508, [0, 3, 4, 5]),
  (228, 12, [0, 1, 4]),
  (229, 4060, [0, 1, 3, 4, 10, 11, 12, 13, 17]),
  (229, 16220, [0, 1, 3, 4, 10, 11, 12, 13, 14, 15, 16])]
def TA : List (Nat × Nat × List Nat) := [
  (7, 122, [1, 4]),
  (10, 58, [3]),
  (12, 58, [4]),
  (14, 58, [4]),
  (16, 26, [1]),
  (17, 26, [1]),
  (18, 26, [1, 4]),
  (22, 58, [5]),
  (22, 7462, [1, 2, 5, 6]),
  (23, 58, [5]),
  (23, 14950, [1, 2, 5, 13, 14, 15]),
  (24, 122, [1, 4]),
  (25, 122, [1, 4]),
  (27, 26, [1, 2]),
  (30, 58, [3]),
  (31, 58, [3]),
  (33, 26, [1, 2]),
  (36, 58, [4]),
  (38, 26, [1]),
  (39, 60, [3]),
  (42, 60, [5]),
  (44, 60, [5]),
  (49, 26, [2, 3]),
  (50, 26, [6]),
  (51, 28, [0, 1, 5]),
  (56, 26, [1, 2]),
  (57, 26, [4]),
  (58, 250, [2, 3, 4]),
  (60, 58, [4]),
  (63, 26, [4]),
  (64, 122, [2, 3, 4]),
  (66, 122, [4]),
  (68, 26, [1]),
  (70, 26, [4]),
  (71, 26, [4]),
  (75, 26, [4]),
  (76, 26, [4]),
  (79, 26, [4]),
  (80, 122, [1, 4]),
  (82, 58, [0, 2]),
  (82, 59706, [0, 2, 3, 4, 5]),
  (84, 26, [0, 2]),
  (85, 122, [0, 3, 4]),
  (88, 26, [0, 2]),
  (90, 58, [3]),
  (91, 58, [0, 2]),
  (94, 26, [2]),
  (98, 26, [0, 2]),
  (101, 58, [4]),
  (102, 14, []),
  (105, 122, [0, 5, 6]),
  (111, 122, [2, 3, 4, 5]),
  (113, 26, [4]),
  (114, 58, [0, 2, 3]),
  (115, 122, [3]),
  (117, 58, [2, 3, 4]),
  (117, 250, [2, 3, 4]),
  (120, 26, [4]),
  (127, 2044, [0, 9, 10]),
  (132, 250, [2, 3, 4, 5]),
  (137, 26, [2, 3, 4]),
  (137, 122, [2, 3, 4]),
  (139, 6, []),
  (139, 402, [0, 1, 2, 6]),
  (140, 122, [0, 6, 7, 8]),
  (140, 126, []),
  (141, 238, []),
  (143, 14, []),
  (144, 58, [6]),
  (144, 3728, [0, 1, 2, 7, 8]),
  (144, 477674, [0, 1, 2, 7, 8]),
  (144, 477690, [0, 1, 2, 7, 8]),
  (146, 60, [9]),
  (146, 960, [0, 1, 9, 10]),
  (146, 1924, [0, 1, 9, 10]),
  (147, 60, [0, 1, 10, 11]),
  (147, 124, [0, 1, 10, 11]),
  (147, 4092, [0, 1, 11]),
  (147, 65472, [0, 1, 10, 11]),
  (147, 130948, [0, 1, 10, 11]),
  (152, 124, [0, 3]),
  (153, 26, [1, 2]),
  (157, 250, [0, 1, 6]),
  (158, 62, [4]),
  (164, 26, [1, 2]),
  (164, 58, [1, 2]),
  (165, 250, [0, 1, 5]),
  (165, 4090, [8]),
  (168, 6, []),
  (175, 26, [0, 2]),
  (177, 26, [2]),
  (180, 2044, [4]),
  (181, 3770, [2, 3, 5, 6]),
  (194, 26, [0, 2]),
  (199, 250, [0, 1, 5, 6, 7, 8]),
  (199, 1018, [4]),
  (208, 12, [0]),
  (214, 58, [0, 4]),
  (214, 250, [4, 6]),
  (215, 32762, [6, 7, 9, 12, 13]),
  (225, 508, [2, 3]),
  (228, 12, [0, 1, 4]),
  (229, 4060, [0, 1, 3, 4, 10, 11, 12, 13]),
  (229, 16220, [0, 1, 3, 4, 10, 11, 12, 13])]
def zR (f p : Nat) : List Nat := T8 TP f p
def zQ (f p : Nat) : List Nat := T8 TA f p
theorem VP : zR 7 122 = [0, 1, 5] := by kernel_rfl
theorem Vb : zQ 7 122 = [1, 4] := by kernel_rfl
theorem Ul : zR 10 58 = [0, 3, 4] := by kernel_rfl
theorem VH : zQ 10 58 = [3] := by kernel_rfl
theorem Uk : zR 12 58 = [0, 1, 5] := by kernel_rfl
theorem VG : zQ 12 58 = [4] := by kernel_rfl
theorem Ui : zR 14 58 = [0, 1, 5] := by kernel_rfl
theorem VE : zQ 14 58 = [4] := by kernel_rfl
theorem Ug : zR 16 26 = [0, 1, 5] := by kernel_rfl
theorem VC : zQ 16 26 = [1] := by kernel_rfl
theorem Uf : zR 17 26 = [0, 1, 5] := by kernel_rfl
theorem VB : zQ 17 26 = [1] := by kernel_rfl
theorem Ue : zR 18 26 = [0, 1, 5] := by kernel_rfl
theorem VA : zQ 18 26 = [1, 4] := by kernel_rfl
theorem Ud : zR 22 58 = [1, 2, 5, 6] := by kernel_rfl
theorem Vz : zQ 22 58 = [5] := by kernel_rfl
theorem bj : zR 22 7462 = [1, 2, 5, 6, 7, 8] := by kernel_rfl
theorem cR : zQ 22 7462 = [1, 2, 5, 6] := by kernel_rfl
theorem Uc : zR 23 58 = [1, 2, 5, 13, 14, 15] := by kernel_rfl
theorem Vy : zQ 23 58 = [5] := by kernel_rfl
theorem gQ : zR 23 14950 = [1, 2, 5, 7, 13, 14, 15, 22, 23, 24] := by kernel_rfl
theorem gF : zQ 23 14950 = [1, 2, 5, 13, 14, 15] := by kernel_rfl
theorem Xr : zR 24 122 = [0, 1, 5] := by kernel_rfl
theorem YZ : zQ 24 122 = [1, 4] := by kernel_rfl
theorem Xq : zR 25 122 = [0, 1, 5] := by kernel_rfl
theorem YY : zQ 25 122 = [1, 4] := by kernel_rfl
theorem Ub : zR 27 26 = [1, 3] := by kernel_rfl
theorem Vx : zQ 27 26 = [1, 2] := by kernel_rfl
theorem Ua : zR 30 58 = [0, 3, 4] := by kernel_rfl
theorem Vw : zQ 30 58 = [3] := by kernel_rfl
theorem U9 : zR 31 58 = [0, 3, 4] := by kernel_rfl
theorem Vv : zQ 31 58 = [3] := by kernel_rfl
theorem U8 : zR 33 26 = [1, 6, 7, 8] := by kernel_rfl
theorem Vu : zQ 33 26 = [1, 2] := by kernel_rfl
theorem U7 : zR 36 58 = [0, 1, 5] := by kernel_rfl
theorem Vt : zQ 36 58 = [4] := by kernel_rfl
theorem U6 : zR 38 26 = [0, 1, 5] := by kernel_rfl
theorem Vs : zQ 38 26 = [1] := by kernel_rfl
theorem U5 : zR 39 60 = [0, 3] := by kernel_rfl
theorem Vr : zQ 39 60 = [3] := by kernel_rfl
theorem U4 : zR 42 60 = [2, 5, 6] := by kernel_rfl
theorem Vq : zQ 42 60 = [5] := by kernel_rfl
theorem U3 : zR 44 60 = [2, 5, 6] := by kernel_rfl
theorem Vp : zQ 44 60 = [5] := by kernel_rfl
theorem U2 : zR 49 26 = [0, 4] := by kernel_rfl
theorem Vo : zQ 49 26 = [2, 3] := by kernel_rfl
theorem U1 : zR 50 26 = [0, 1, 2, 7] := by kernel_rfl
theorem Vn : zQ 50 26 = [6] := by kernel_rfl
theorem U0 : zR 51 28 = [0, 1, 5] := by kernel_rfl
theorem Vm : zQ 51 28 = [0, 1, 5] := by kernel_rfl
theorem VZ : zR 56 26 = [1, 3] := by kernel_rfl
theorem Vl : zQ 56 26 = [1, 2] := by kernel_rfl
theorem VY : zR 57 26 = [1, 2, 5] := by kernel_rfl
theorem Vk : zQ 57 26 = [4] := by kernel_rfl
theorem Xp : zR 58 250 = [4, 5, 6] := by kernel_rfl
theorem YX : zQ 58 250 = [2, 3, 4] := by kernel_rfl
theorem VX : zR 60 58 = [1, 5, 6, 7] := by kernel_rfl
theorem Vj : zQ 60 58 = [4] := by kernel_rfl
theorem VW : zR 63 26 = [1, 2, 7, 8, 9] := by kernel_rfl
theorem Vi : zQ 63 26 = [4] := by kernel_rfl
theorem Xo : zR 64 122 = [4, 15, 16, 17] := by kernel_rfl
theorem YW : zQ 64 122 = [2, 3, 4] := by kernel_rfl
theorem Xn : zR 66 122 = [0, 5, 23, 24, 25] := by kernel_rfl
theorem YV : zQ 66 122 = [4] := by kernel_rfl
theorem VV : zR 68 26 = [0, 1, 5] := by kernel_rfl
theorem Vh : zQ 68 26 = [1] := by kernel_rfl
theorem VU : zR 70 26 = [0, 1, 5] := by kernel_rfl
theorem Vg : zQ 70 26 = [4] := by kernel_rfl
theorem VT : zR 71 26 = [1, 2, 5] := by kernel_rfl
theorem Vf : zQ 71 26 = [4] := by kernel_rfl
theorem VS : zR 75 26 = [0, 1, 7, 8] := by kernel_rfl
theorem Ve : zQ 75 26 = [4] := by kernel_rfl
theorem VR : zR 76 26 = [0, 1, 7, 8] := by kernel_rfl
theorem Vd : zQ 76 26 = [4] := by kernel_rfl
theorem VQ : zR 79 26 = [0, 1, 7, 8] := by kernel_rfl
theorem Vc : zQ 79 26 = [4] := by kernel_rfl
theorem Xm : zR 80 122 = [0, 1, 5] := by kernel_rfl
theorem YU : zQ 80 122 = [1, 4] := by kernel_rfl
theorem VO : zR 82 58 = [0, 3, 4] := by kernel_rfl
theorem Va : zQ 82 58 = [0, 2] := by kernel_rfl
theorem gP : zR 82 59706 = [0, 3, 4, 5, 6] := by kernel_rfl
theorem gE : zQ 82 59706 = [0, 2, 3, 4, 5] := by kernel_rfl
theorem VN : zR 84 26 = [0, 3] := by kernel_rfl
theorem V9 : zQ 84 26 = [0, 2] := by kernel_rfl
theorem Xl : zR 85 122 = [0, 3, 4, 5] := by kernel_rfl
theorem YT : zQ 85 122 = [0, 3, 4] := by kernel_rfl
theorem VM : zR 88 26 = [0, 3] := by kernel_rfl
theorem V8 : zQ 88 26 = [0, 2] := by kernel_rfl
theorem VL : zR 90 58 = [0, 3, 4] := by kernel_rfl
theorem V7 : zQ 90 58 = [3] := by kernel_rfl
theorem VK : zR 91 58 = [0, 3, 10, 11, 12] := by kernel_rfl
theorem V6 : zQ 91 58 = [0, 2] := by kernel_rfl
theorem VJ : zR 94 26 = [0, 5, 6, 7] := by kernel_rfl
theorem V5 : zQ 94 26 = [2] := by kernel_rfl
theorem VI : zR 98 26 = [0, 5, 6, 7] := by kernel_rfl
theorem V4 : zQ 98 26 = [0, 2] := by kernel_rfl
theorem XM : zR 101 58 = [0, 1, 5] := by kernel_rfl
theorem Xk : zQ 101 58 = [4] := by kernel_rfl
theorem XL : zR 102 14 = [0, 1, 2, 3, 8, 9] := by kernel_rfl
theorem Xj : zQ 102 14 = [] := by kernel_rfl
theorem bK : zR 105 122 = [0, 1, 5, 6, 7] := by kernel_rfl
theorem bh : zQ 105 122 = [0, 5, 6] := by kernel_rfl
theorem bJ : zR 111 122 = [2, 4, 5, 6] := by kernel_rfl
theorem bg : zQ 111 122 = [2, 3, 4, 5] := by kernel_rfl
theorem XK : zR 113 26 = [0, 1, 5] := by kernel_rfl
theorem Xi : zQ 113 26 = [4] := by kernel_rfl
theorem XJ : zR 114 58 = [0, 3, 4] := by kernel_rfl
theorem Xh : zQ 114 58 = [0, 2, 3] := by kernel_rfl
theorem bI : zR 115 122 = [1, 3, 4] := by kernel_rfl
theorem bf : zQ 115 122 = [3] := by kernel_rfl
theorem XI : zR 117 58 = [2, 3, 5, 6] := by kernel_rfl
theorem Xg : zQ 117 58 = [2, 3, 4] := by kernel_rfl
theorem bH : zR 117 250 = [2, 3, 7] := by kernel_rfl
theorem bc : zQ 117 250 = [2, 3, 4] := by kernel_rfl
theorem XH : zR 120 26 = [0, 1, 7, 8] := by kernel_rfl
theorem Xf : zQ 120 26 = [4] := by kernel_rfl
theorem gZ : zR 127 2044 = [0, 1, 2, 3, 9, 10] := by kernel_rfl
theorem gO : zQ 127 2044 = [0, 9, 10] := by kernel_rfl
theorem bG : zR 132 250 = [2, 4, 5, 16, 17, 18] := by kernel_rfl
theorem ba : zQ 132 250 = [2, 3, 4, 5] := by kernel_rfl
theorem XG : zR 137 26 = [2, 3, 24, 25, 26] := by kernel_rfl
theorem Xe : zQ 137 26 = [2, 3, 4] := by kernel_rfl
theorem bF : zR 137 122 = [2, 3, 56, 57] := by kernel_rfl
theorem b9 : zQ 137 122 = [2, 3, 4] := by kernel_rfl
theorem Uj : zR 139 6 = [0, 1, 2, 6] := by kernel_rfl
theorem VF : zQ 139 6 = [] := by kernel_rfl
theorem bE : zR 139 402 = [0, 1, 2, 6, 7] := by kernel_rfl
theorem b8 : zQ 139 402 = [0, 1, 2, 6] := by kernel_rfl
theorem bD : zR 140 122 = [0, 6, 7, 8, 9] := by kernel_rfl
theorem b7 : zQ 140 122 = [0, 6, 7, 8] := by kernel_rfl
theorem bC : zR 140 126 = [0, 6, 7, 10] := by kernel_rfl
theorem b6 : zQ 140 126 = [] := by kernel_rfl
theorem bB : zR 141 238 = [0, 1, 6, 7, 8, 9] := by kernel_rfl
theorem b5 : zQ 141 238 = [] := by kernel_rfl
theorem XF : zR 143 14 = [0, 6, 7] := by kernel_rfl
theorem Xd : zQ 143 14 = [] := by kernel_rfl
theorem XE : zR 144 58 = [0, 1, 2, 7, 8] := by kernel_rfl
theorem Xc : zQ 144 58 = [6] := by kernel_rfl
theorem gY : zR 144 3728 = [0, 1, 2, 7, 8] := by kernel_rfl
theorem gN : zQ 144 3728 = [0, 1, 2, 7, 8] := by kernel_rfl
theorem ke : zR 144 477674 = [0, 1, 2, 7, 8, 9] := by kernel_rfl
theorem kb : zQ 144 477674 = [0, 1, 2, 7, 8] := by kernel_rfl
theorem kd : zR 144 477690 = [0, 1, 2, 7, 8, 10] := by kernel_rfl
theorem ka : zQ 144 477690 = [0, 1, 2, 7, 8] := by kernel_rfl
theorem XD : zR 146 60 = [0, 1, 9, 10] := by kernel_rfl
theorem Xb : zQ 146 60 = [9] := by kernel_rfl
theorem bA : zR 146 960 = [0, 1, 9, 10] := by kernel_rfl
theorem cZ : zQ 146 960 = [0, 1, 9, 10] := by kernel_rfl
theorem gX : zR 146 1924 = [0, 1, 9, 10] := by kernel_rfl
theorem gM : zQ 146 1924 = [0, 1, 9, 10] := by kernel_rfl
theorem XC : zR 147 60 = [0, 1, 10, 11] := by kernel_rfl
theorem Xa : zQ 147 60 = [0, 1, 10, 11] := by kernel_rfl
theorem bz : zR 147 124 = [0, 1, 10, 11] := by kernel_rfl
theorem cY : zQ 147 124 = [0, 1, 10, 11] := by kernel_rfl
theorem gW : zR 147 4092 = [0, 1, 10, 11] := by kernel_rfl
theorem gL : zQ 147 4092 = [0, 1, 11] := by kernel_rfl
theorem jR : zR 147 65472 = [0, 1, 10, 11] := by kernel_rfl
theorem jO : zQ 147 65472 = [0, 1, 10, 11] := by kernel_rfl
theorem kc : zR 147 130948 = [0, 1, 10, 11] := by kernel_rfl
theorem k9 : zQ 147 130948 = [0, 1, 10, 11] := by kernel_rfl
theorem bx : zR 152 124 = [0, 3, 4] := by kernel_rfl
theorem cX : zQ 152 124 = [0, 3] := by kernel_rfl
theorem XB : zR 153 26 = [1, 3] := by kernel_rfl
theorem X9 : zQ 153 26 = [1, 2] := by kernel_rfl
theorem bw : zR 157 250 = [0, 1, 6, 7] := by kernel_rfl
theorem cW : zQ 157 250 = [0, 1, 6] := by kernel_rfl
theorem XA : zR 158 62 = [0, 1, 5] := by kernel_rfl
theorem X8 : zQ 158 62 = [4] := by kernel_rfl
theorem Xz : zR 164 26 = [1, 13, 14, 15] := by kernel_rfl
theorem X7 : zQ 164 26 = [1, 2] := by kernel_rfl
theorem Xy : zR 164 58 = [1, 24, 25, 26] := by kernel_rfl
theorem X6 : zQ 164 58 = [1, 2] := by kernel_rfl
theorem br : zR 165 250 = [0, 1, 5, 39, 40, 41] := by kernel_rfl
theorem cV : zQ 165 250 = [0, 1, 5] := by kernel_rfl
theorem gV : zR 165 4090 = [1, 8, 63, 64, 65] := by kernel_rfl
theorem gK : zQ 165 4090 = [8] := by kernel_rfl
theorem Uh : zR 168 6 = [0, 2, 3, 8] := by kernel_rfl
theorem VD : zQ 168 6 = [] := by kernel_rfl
theorem Xx : zR 175 26 = [0, 3] := by kernel_rfl
theorem X5 : zQ 175 26 = [0, 2] := by kernel_rfl
theorem Xw : zR 177 26 = [2, 4] := by kernel_rfl
theorem X4 : zQ 177 26 = [2] := by kernel_rfl
theorem gU : zR 180 2044 = [0, 1, 5, 6, 7, 8, 9, 10] := by kernel_rfl
theorem gJ : zQ 180 2044 = [4] := by kernel_rfl
theorem gT : zR 181 3770 = [5, 6, 47, 48, 49] := by kernel_rfl
theorem gI : zQ 181 3770 = [2, 3, 5, 6] := by kernel_rfl
theorem Xv : zR 194 26 = [0, 3] := by kernel_rfl
theorem X3 : zQ 194 26 = [0, 2] := by kernel_rfl
theorem bq : zR 199 250 = [0, 1, 5, 6, 7, 8, 9] := by kernel_rfl
theorem cU : zQ 199 250 = [0, 1, 5, 6, 7, 8] := by kernel_rfl
theorem gS : zR 199 1018 = [0, 1, 5, 6, 7, 8, 10] := by kernel_rfl
theorem gH : zQ 199 1018 = [4] := by kernel_rfl
theorem Xu : zR 208 12 = [0, 1] := by kernel_rfl
theorem X2 : zQ 208 12 = [0] := by kernel_rfl
theorem Xt : zR 214 58 = [0, 4, 5] := by kernel_rfl
theorem X1 : zQ 214 58 = [0, 4] := by kernel_rfl
theorem bp : zR 214 250 = [4, 6, 7, 8] := by kernel_rfl
theorem cT : zQ 214 250 = [4, 6] := by kernel_rfl
theorem jQ : zR 215 32762 = [1, 8, 9, 10, 11, 12, 13, 99, 100, 101] := by kernel_rfl
theorem jN : zQ 215 32762 = [6, 7, 9, 12, 13] := by kernel_rfl
theorem bm : zR 225 508 = [0, 3, 4, 5] := by kernel_rfl
theorem cS : zQ 225 508 = [2, 3] := by kernel_rfl
theorem Xs : zR 228 12 = [0, 1, 4] := by kernel_rfl
theorem X0 : zQ 228 12 = [0, 1, 4] := by kernel_rfl
theorem gR : zR 229 4060 = [0, 1, 3, 4, 10, 11, 12, 13, 17] := by kernel_rfl
theorem gG : zQ 229 4060 = [0, 1, 3, 4, 10, 11, 12, 13] := by kernel_rfl
theorem jP : zR 229 16220 = [0, 1, 3, 4, 10, 11, 12, 13, 14, 15, 16] := by kernel_rfl
theorem jM : zQ 229 16220 = [0, 1, 3, 4, 10, 11, 12, 13] := by kernel_rfl
theorem LTS : zR 7 122 = [0, 1, 5] ∧
  zQ 7 122 = [1, 4] ∧
  zR 10 58 = [0, 3, 4] ∧
  zQ 10 58 = [3] ∧
  zR 12 58 = [0, 1, 5] ∧
  zQ 12 58 = [4] ∧
  zR 14 58 = [0, 1, 5] ∧
  zQ 14 58 = [4] ∧
  zR 16 26 = [0, 1, 5] ∧
  zQ 16 26 = [1] ∧
  zR 17 26 = [0, 1, 5] ∧
  zQ 17 26 = [1] ∧
  zR 18 26 = [0, 1, 5] ∧
  zQ 18 26 = [1, 4] ∧
  zR 22 58 = [1, 2, 5, 6] ∧
  zQ 22 58 = [5] ∧
  zR 22 7462 = [1, 2, 5, 6, 7, 8] ∧
  zQ 22 7462 = [1, 2, 5, 6] ∧
  zR 23 58 = [1, 2, 5, 13, 14, 15] ∧
  zQ 23 58 = [5] ∧
  zR 23 14950 = [1, 2, 5, 7, 13, 14, 15, 22, 23, 24] ∧
  zQ 23 14950 = [1, 2, 5, 13, 14, 15] ∧
  zR 24 122 = [0, 1, 5] ∧
  zQ 24 122 = [1, 4] ∧
  zR 25 122 = [0, 1, 5] ∧
  zQ 25 122 = [1, 4] ∧
  zR 27 26 = [1, 3] ∧
  zQ 27 26 = [1, 2] ∧
  zR 30 58 = [0, 3, 4] ∧
  zQ 30 58 = [3] ∧
  zR 31 58 = [0, 3, 4] ∧
  zQ 31 58 = [3] ∧
  zR 33 26 = [1, 6, 7, 8] ∧
  zQ 33 26 = [1, 2] ∧
  zR 36 58 = [0, 1, 5] ∧
  zQ 36 58 = [4] ∧
  zR 38 26 = [0, 1, 5] ∧
  zQ 38 26 = [1] ∧
  zR 39 60 = [0, 3] ∧
  zQ 39 60 = [3] ∧
  zR 42 60 = [2, 5, 6] ∧
  zQ 42 60 = [5] ∧
  zR 44 60 = [2, 5, 6] ∧
  zQ 44 60 = [5] ∧
  zR 49 26 = [0, 4] ∧
  zQ 49 26 = [2, 3] ∧
  zR 50 26 = [0, 1, 2, 7] ∧
  zQ 50 26 = [6] ∧
  zR 51 28 = [0, 1, 5] ∧
  zQ 51 28 = [0, 1, 5] ∧
  zR 56 26 = [1, 3] ∧
  zQ 56 26 = [1, 2] ∧
  zR 57 26 = [1, 2, 5] ∧
  zQ 57 26 = [4] ∧
  zR 58 250 = [4, 5, 6] ∧
  zQ 58 250 = [2, 3, 4] ∧
  zR 60 58 = [1, 5, 6, 7] ∧
  zQ 60 58 = [4] ∧
  zR 63 26 = [1, 2, 7, 8, 9] ∧
  zQ 63 26 = [4] ∧
  zR 64 122 = [4, 15, 16, 17] ∧
  zQ 64 122 = [2, 3, 4] ∧
  zR 66 122 = [0, 5, 23, 24, 25] ∧
  zQ 66 122 = [4] ∧
  zR 68 26 = [0, 1, 5] ∧
  zQ 68 26 = [1] ∧
  zR 70 26 = [0, 1, 5] ∧
  zQ 70 26 = [4] ∧
  zR 71 26 = [1, 2, 5] ∧
  zQ 71 26 = [4] ∧
  zR 75 26 = [0, 1, 7, 8] ∧
  zQ 75 26 = [4] ∧
  zR 76 26 = [0, 1, 7, 8] ∧
  zQ 76 26 = [4] ∧
  zR 79 26 = [0, 1, 7, 8] ∧
  zQ 79 26 = [4] ∧
  zR 80 122 = [0, 1, 5] ∧
  zQ 80 122 = [1, 4] ∧
  zR 82 58 = [0, 3, 4] ∧
  zQ 82 58 = [0, 2] ∧
  zR 82 59706 = [0, 3, 4, 5, 6] ∧
  zQ 82 59706 = [0, 2, 3, 4, 5] ∧
  zR 84 26 = [0, 3] ∧
  zQ 84 26 = [0, 2] ∧
  zR 85 122 = [0, 3, 4, 5] ∧
  zQ 85 122 = [0, 3, 4] ∧
  zR 88 26 = [0, 3] ∧
  zQ 88 26 = [0, 2] ∧
  zR 90 58 = [0, 3, 4] ∧
  zQ 90 58 = [3] ∧
  zR 91 58 = [0, 3, 10, 11, 12] ∧
  zQ 91 58 = [0, 2] ∧
  zR 94 26 = [0, 5, 6, 7] ∧
  zQ 94 26 = [2] ∧
  zR 98 26 = [0, 5, 6, 7] ∧
  zQ 98 26 = [0, 2] ∧
  zR 101 58 = [0, 1, 5] ∧
  zQ 101 58 = [4] ∧
  zR 102 14 = [0, 1, 2, 3, 8, 9] ∧
  zQ 102 14 = [] ∧
  zR 105 122 = [0, 1, 5, 6, 7] ∧
  zQ 105 122 = [0, 5, 6] ∧
  zR 111 122 = [2, 4, 5, 6] ∧
  zQ 111 122 = [2, 3, 4, 5] ∧
  zR 113 26 = [0, 1, 5] ∧
  zQ 113 26 = [4] ∧
  zR 114 58 = [0, 3, 4] ∧
  zQ 114 58 = [0, 2, 3] ∧
  zR 115 122 = [1, 3, 4] ∧
  zQ 115 122 = [3] ∧
  zR 117 58 = [2, 3, 5, 6] ∧
  zQ 117 58 = [2, 3, 4] ∧
  zR 117 250 = [2, 3, 7] ∧
  zQ 117 250 = [2, 3, 4] ∧
  zR 120 26 = [0, 1, 7, 8] ∧
  zQ 120 26 = [4] ∧
  zR 127 2044 = [0, 1, 2, 3, 9, 10] ∧
  zQ 127 2044 = [0, 9, 10] ∧
  zR 132 250 = [2, 4, 5, 16, 17, 18] ∧
  zQ 132 250 = [2, 3, 4, 5] ∧
  zR 137 26 = [2, 3, 24, 25, 26] ∧
  zQ 137 26 = [2, 3, 4] ∧
  zR 137 122 = [2, 3, 56, 57] ∧
  zQ 137 122 = [2, 3, 4] ∧
  zR 139 6 = [0, 1, 2, 6] ∧
  zQ 139 6 = [] ∧
  zR 139 402 = [0, 1, 2, 6, 7] ∧
  zQ 139 402 = [0, 1, 2, 6] ∧
  zR 140 122 = [0, 6, 7, 8, 9] ∧
  zQ 140 122 = [0, 6, 7, 8] ∧
  zR 140 126 = [0, 6, 7, 10] ∧
  zQ 140 126 = [] ∧
  zR 141 238 = [0, 1, 6, 7, 8, 9] ∧
  zQ 141 238 = [] ∧
  zR 143 14 = [0, 6, 7] ∧
  zQ 143 14 = [] ∧
  zR 144 58 = [0, 1, 2, 7, 8] ∧
  zQ 144 58 = [6] ∧
  zR 144 3728 = [0, 1, 2, 7, 8] ∧
  zQ 144 3728 = [0, 1, 2, 7, 8] ∧
  zR 144 477674 = [0, 1, 2, 7, 8, 9] ∧
  zQ 144 477674 = [0, 1, 2, 7, 8] ∧
  zR 144 477690 = [0, 1, 2, 7, 8, 10] ∧
  zQ 144 477690 = [0, 1, 2, 7, 8] ∧
  zR 146 60 = [0, 1, 9, 10] ∧
  zQ 146 60 = [9] ∧
  zR 146 960 = [0, 1, 9, 10] ∧
  zQ 146 960 = [0, 1, 9, 10] ∧
  zR 146 1924 = [0, 1, 9, 10] ∧
  zQ 146 1924 = [0, 1, 9, 10] ∧
  zR 147 60 = [0, 1, 10, 11] ∧
  zQ 147 60 = [0, 1, 10, 11] ∧
  zR 147 124 = [0, 1, 10, 11] ∧
  zQ 147 124 = [0, 1, 10, 11] ∧
  zR 147 4092 = [0, 1, 10, 11] ∧
  zQ 147 4092 = [0, 1, 11] ∧
  zR 147 65472 = [0, 1, 10, 11] ∧
  zQ 147 65472 = [0, 1, 10, 11] ∧
  zR 147 130948 = [0, 1, 10, 11] ∧
  zQ 147 130948 = [0, 1, 10, 11] ∧
  zR 152 124 = [0, 3, 4] ∧
  zQ 152 124 = [0, 3] ∧
  zR 153 26 = [1, 3] ∧
  zQ 153 26 = [1, 2] ∧
  zR 157 250 = [0, 1, 6, 7] ∧
  zQ 157 250 = [0, 1, 6] ∧
  zR 158 62 = [0, 1, 5] ∧
  zQ 158 62 = [4] ∧
  zR 164 26 = [1, 13, 14, 15] ∧
  zQ 164 26 = [1, 2] ∧
  zR 164 58 = [1, 24, 25, 26] ∧
  zQ 164 58 = [1, 2] ∧
  zR 165 250 = [0, 1, 5, 39, 40, 41] ∧
  zQ 165 250 = [0, 1, 5] ∧
  zR 165 4090 = [1, 8, 63, 64, 65] ∧
  zQ 165 4090 = [8] ∧
  zR 168 6 = [0, 2, 3, 8] ∧
  zQ 168 6 = [] ∧
  zR 175 26 = [0, 3] ∧
  zQ 175 26 = [0, 2] ∧
  zR 177 26 = [2, 4] ∧
  zQ 177 26 = [2] ∧
  zR 180 2044 = [0, 1, 5, 6, 7, 8, 9, 10] ∧
  zQ 180 2044 = [4] ∧
  zR 181 3770 = [5, 6, 47, 48, 49] ∧
  zQ 181 3770 = [2, 3, 5, 6] ∧
  zR 194 26 = [0, 3] ∧
  zQ 194 26 = [0, 2] ∧
  zR 199 250 = [0, 1, 5, 6, 7, 8, 9] ∧
  zQ 199 250 = [0, 1, 5, 6, 7, 8] ∧
  zR 199 1018 = [0, 1, 5, 6, 7, 8, 10] ∧
  zQ 199 1018 = [4] ∧
  zR 208 12 = [0, 1] ∧
  zQ 208 12 = [0] ∧
  zR 214 58 = [0, 4, 5] ∧
  zQ 214 58 = [0, 4] ∧
  zR 214 250 = [4, 6, 7, 8] ∧
  zQ 214 250 = [4, 6] ∧
  zR 215 32762 = [1, 8, 9, 10, 11, 12, 13, 99, 100, 101] ∧
  zQ 215 32762 = [6, 7, 9, 12, 13] ∧
  zR 225 508 = [0, 3, 4, 5] ∧
  zQ 225 508 = [2, 3] ∧
  zR 228 12 = [0, 1, 4] ∧
  zQ 228 12 = [0, 1, 4] ∧
  zR 229 4060 = [0, 1, 3, 4, 10, 11, 12, 13, 17] ∧
  zQ 229 4060 = [0, 1, 3, 4, 10, 11, 12, 13] ∧
  zR 229 16220 = [0, 1, 3, 4, 10, 11, 12, 13, 14, 15, 16] ∧
  zQ 229 16220 = [0, 1, 3, 4, 10, 11, 12, 13] := ⟨VP, Vb, Ul, VH, Uk, VG, Ui, VE, Ug, VC, Uf, VB, Ue, VA, Ud, Vz, bj, cR, Uc, Vy, gQ, gF, Xr, YZ, Xq, YY, Ub, Vx, Ua, Vw, U9, Vv, U8, Vu, U7, Vt, U6, Vs, U5, Vr, U4, Vq, U3, Vp, U2, Vo, U1, Vn, U0, Vm, VZ, Vl, VY, Vk, Xp, YX, VX, Vj, VW, Vi, Xo, YW, Xn, YV, VV, Vh, VU, Vg, VT, Vf, VS, Ve, VR, Vd, VQ, Vc, Xm, YU, VO, Va, gP, gE, VN, V9, Xl, YT, VM, V8, VL, V7, VK, V6, VJ, V5, VI, V4, XM, Xk, XL, Xj, bK, bh, bJ, bg, XK, Xi, XJ, Xh, bI, bf, XI, Xg, bH, bc, XH, Xf, gZ, gO, bG, ba, XG, Xe, bF, b9, Uj, VF, bE, b8, bD, b7, bC, b6, bB, b5, XF, Xd, XE, Xc, gY, gN, ke, kb, kd, ka, XD, Xb, bA, cZ, gX, gM, XC, Xa, bz, cY, gW, gL, jR, jO, kc, k9, bx, cX, XB, X9, bw, cW, XA, X8, Xz, X7, Xy, X6, br, cV, gV, gK, Uh, VD, Xx, X5, Xw, X4, gU, gJ, gT, gI, Xv, X3, bq, cU, gS, gH, Xu, X2, Xt, X1, bp, cT, jQ, jN, bm, cS, Xs, X0, gR, gG, jP, jM⟩
end Go.Proofs.YtmcephnfcciloaaGreatDoor
