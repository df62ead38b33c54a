/- Joined: K26 K37 K38 B15 W13. Conditions: those of each lemma. -/
import Derived.Test.YtijninlbpifonaaGreatDoorUL
import Derived.Test.YtijninlbpifonaaGreatDoorUJ
set_option linter.unusedVariables false
set_option linter.unusedSimpArgs false
namespace Go.Proofs.YtijninlbpifonaaGreatDoor
open E
set_option linter.unusedSimpArgs false
set_option linter.unusedVariables false
set_option maxRecDepth 100000
def snS (l : List Str) (s : Str) : List Str := l ++ [s]
theorem rp (add : List Str → Str → List Str) (ps : List z7) (n : Nat) (out : List Str) : yg add ps n out [] = out := by cases n <;> rfl
theorem XU {l : List Str} {s : Str} (h : ye l s = false) : (xh l s).length = l.length + 1 := by
 rw [(qY l s h).length_eq]; simp
theorem GB.zE {g : zy} (hB : GB g) {p : z7} (hp : p ∈ g.packs) : p.zE.length ≤ 1048576 := by
 obtain ⟨_, _, h3⟩ := hB.len
 have := h3 p hp
 simp only [z7.zT] at this; omega
theorem u6 (ps : List z7) : ∀ (n : Nat) (out w : List Str), (yg snS ps n out w).length ≤ out.length + vV ps out
 | 0, out, w => by rw [yg]; omega
 | n + 1, out, [] => by rw [rp]; omega
 | n + 1, out, k :: w => by
  rw [yg]
  cases hf : xW ps k with
  | none => exact u6 ps n out w
  | some p =>
   obtain ⟨hp, hkp, _⟩ := tY hf
   simp only
   cases hc : ye out k with
   | true => exact u6 ps n out w
   | false =>
    have h1 := uO k out (out ++ [k]) (qT out k) hc ps p hp hkp
    have h2 := u6 ps n (snS out k) (w ++ p.zE)
    rw [cond_false]
    unfold snS at h2 ⊢
    simp only [List.length_append, List.length_cons, List.length_nil] at h2
    omega
theorem a8 (g : zy) (hB : GB g) : ∀ (n : Nat) (out w : List Str) (es : List (List T)) (m off len : Nat) (cap cap2 : Option Nat), w.length + muS g.packs out ≤ n → n ≤ 4194304 → m = out.length → m + vV g.packs out ≤ 1048576 → len = w.length → es.drop off = strs w → off + len = es.length → ∃ cap',
 EV Tryz.prog pol (.loop 37 60 0 [.ptr 0 0 0, .sl 1 0 m cap, .sl 2 off len cap2] [.vs 2 [g.enc.map .t], .ts 1 (strs out), .ts 1 es])
  = some (.loop (.exit 0) [.sl 0 0 (yg snS g.packs n out w).length cap'] [.ts 1 (strs (yg snS g.packs n out w))])
 | n, out, [], es, m, off, len, cap, cap2, hn, hN, hm, hk, hl, hd, ho => by
  have c : decide ((len : Int) > 0) = false := by rw [hl]; rfl
  refine ⟨cap, ?_⟩
  rw [rp]
  clear hB
  obtain ⟨top, packs⟩ := g
  simp only [zy.enc, List.map_cons, List.map_nil]
  rw [← hm]
  refine zi Tryz.func37 rfl rfl ?_
  simp (disch := ((try simp only [LL]); omega)) only [↓GO, ↓DRW, GA, GX, ren, zm, za, refs, z8, cst, zq, isC, bin, una, z6, zd, blt, asArg, zf, zc, zg, z1, E.mkS, unN, ze, zn, zb, GS, simprocAttr, GZ, c, zL]
 | 0, out, k :: w, es, m, off, len, cap, cap2, hn, hN, hm, hk, hl, hd, ho => by simp at hn
 | n + 1, out, k :: w, es, m, off, len, cap, cap2, hn, hN, hm, hk, hl, hd, ho => by
  have c : decide ((len : Int) > 0) = true := by rw [hl]; simp
  have hoff : es[off]? = some [.str k] := by
   have : (es.drop off)[0]? = some [.str k] := by rw [hd]; rfl
   simpa using this
  have hd1 : es.drop (off + 1) = strs w := by
   rw [← List.drop_drop, hd]; rfl
  have hl1 : len - 1 = w.length := by rw [hl]; rfl
  have hl2 : 1 ≤ len := by rw [hl]; simp
  have hl3 : (1 : Int) ≤ (len : Int) := by omega
  have hsl : (strs out).length = m := by rw [zh, hm]
  have htk : (strs out).take m = strs out := List.take_of_length_le (by omega)
  have hml : m ≤ 1048576 := by omega
  have hll : len ≤ 4194304 := by simp only [List.length_cons] at hl hn; omega
  have d1 := bP g k hB
  have d2 := T7 out (by omega) k
  simp only [List.length_cons] at hn
  rw [yg]
  cases hf : xW g.packs k with
  | none =>
   rw [fl hf] at d1
   have c2 : decide ((-1 : Int) ≥ 0) = false := rfl
   simp only [ixI] at d1
   obtain ⟨cap', IH⟩ := a8 g hB n out w es m (off + 1) (len - 1) cap (cap2.map (· - 1)) (by omega) (by omega) hm hk hl1 hd1 (by omega)
   refine ⟨cap', ?_⟩
   simp only
   clear hB hf
   obtain ⟨top, packs⟩ := g
   simp only [zy.enc, List.map_cons, List.map_nil] at d1 IH ⊢
   generalize yg snS packs n out w = Z at *
   refine zi Tryz.func37 rfl rfl ?_
   simp (disch := ((try simp only [LL]); omega)) only [↓GO, ↓DRW, GA, GX, ren, zm, za, refs, z8, cst, zq, isC, bin, una, z6, zd, blt, asArg, zf, zc, zg, z1, E.mkS, unN, ze, zn, zb, GS, simprocAttr, GZ, c, c2, hoff, d1, zL, IH]
  | some p =>
   obtain ⟨hp, hkp, i, hi, hpi⟩ := tY hf
   rw [hi] at d1
   have c2 : decide ((i : Int) ≥ 0) = true := by simp
   have hnl := hB.zE hp
   have hget : (z7.zu g.packs)[i]? = some p.enc := by unfold z7.zu; rw [List.getElem?_map, hpi]; rfl
   simp only
   cases hc : ye out k with
   | true =>
    rw [hc] at d2
    obtain ⟨cap', IH⟩ := a8 g hB n out w es m (off + 1) (len - 1) cap (cap2.map (· - 1)) (by omega) (by omega) hm hk hl1 hd1 (by omega)
    refine ⟨cap', ?_⟩
    rw [cond_true]
    clear hB hf
    obtain ⟨top, packs⟩ := g
    simp only [zy.enc, List.map_cons, List.map_nil, ixI] at d1 IH ⊢
    generalize yg snS packs n out w = Z at *
    refine zi Tryz.func37 rfl rfl ?_
    simp (disch := ((try simp only [LL]); omega)) only [↓GO, ↓DRW, GA, GX, ren, zm, za, refs, z8, cst, zq, isC, bin, una, z6, zd, blt, asArg, zf, zc, zg, z1, E.mkS, unN, ze, zn, zb, GS, simprocAttr, GZ, c, c2, hoff, d1, d2, htk, zL, IH]
   | false =>
    rw [hc] at d2
    have h1 := qh k out (out ++ [k]) (qT out k) hc g.packs p hp hkp
    have h2 := uO k out (out ++ [k]) (qT out k) hc g.packs p hp hkp
    obtain ⟨cap', IH⟩ := a8 g hB n (out ++ [k]) (w ++ p.zE) (strs w ++ strs p.zE) (m + 1) 0 (w.length + p.zE.length) none none (by rw [List.length_append]; omega) (by omega) (by simp [hm]) (by omega) (by simp) (by simp [strs]) (by rw [List.length_append, zh, zh]; omega)
    have ho1 : off + 1 + w.length = es.length := by omega
    refine ⟨cap', ?_⟩
    rw [cond_false, show snS out k = out ++ [k] from rfl]
    rw [show strs (out ++ [k]) = strs out ++ [[.str k]] by simp [strs]] at IH
    clear hB hf h1 h2 hp hi hpi
    obtain ⟨top, packs⟩ := g
    obtain ⟨name, version, source, sums, dev, zE⟩ := p
    simp only [zy.enc, z7.enc, List.map_cons, List.map_nil, ixI] at d1 hget IH hnl ⊢
    generalize yg snS packs n (out ++ [k]) (w ++ zE) = Z at *
    refine zi Tryz.func37 rfl rfl ?_
    simp (disch := ((try simp only [LL]); omega)) only [↓GO, ↓DRW, GA, GX, ren, zm, za, refs, z8, cst, zq, isC, bin, una, z6, zd, blt, asArg, zf, zc, zg, z1, E.mkS, unN, ze, zn, zb, GS, simprocAttr, GZ, c, c2, hoff, d1, d2, htk, hget, hsl, hd1, hl1, ho1, zh, zL, IH, xg]
theorem T5 (g : zy) (hB : GB g) (w : List Str) (hw : w.length ≤ 1048576) (hg : yK g = true) : zk (EV Tryz.prog pol) 37 [.agg (g.enc.map .t), .t (.list 1 (strs w))] = some (.t (.list 1 (strs (yn g.packs w)))) := by
 have d1 := mv g hB
 rw [hg] at d1
 have d2 := uu (strs w) (by rw [zh]; omega)
 rw [zh] at d2
 have h1 := nS g.packs
 have h2 := hB
 unfold GB zy.zT at h2
 have h3 : vV g.packs [] ≤ g.packs.length := List.countP_le_length
 have h4 := hB.len
 obtain ⟨cap, L⟩ := a8 g hB (w.length + muS g.packs []) [] w (strs w) 0 0 w.length (some 0) none (Nat.le_refl _) (by omega) rfl (by omega) rfl rfl (by rw [zh]; omega)
 have e : w9 (yg snS g.packs (w.length + muS g.packs []) [] w) = yn g.packs w := oO g.packs _ w
 have hlen : (yg snS g.packs (w.length + muS g.packs []) [] w).length ≤ 1073741824 := by
  have := u6 g.packs (w.length + muS g.packs []) [] w
  simp only [List.length_nil] at this
  omega
 have d3 := Tz _ hlen _ rfl cap
 rw [e] at d3
 have e2 : (yg snS g.packs (w.length + muS g.packs []) [] w).length = (yn g.packs w).length := by rw [← e, qG]
 rw [e2] at L d3
 have ht : (strs (yn g.packs w)).take (yn g.packs w).length = strs (yn g.packs w) := by rw [← zh (yn g.packs w)]; simp
 rw [show strs [] = [] from rfl] at L
 clear hB h1 h2 h3 h4 e e2 hlen
 obtain ⟨top, packs⟩ := g
 simp only [zy.enc, List.map_cons, List.map_nil] at d1 d3 ht L ⊢
 generalize yn packs w = Z at *
 generalize yg snS packs (w.length + muS packs []) [] w = Y at *
 apply zr
 refine zw rfl Tryz.func37 rfl (by kernel_rfl) ?_
 unfold Tryz.f37
 simp (disch := ((try simp only [LL]); omega)) only [↓GO, ↓DRW, GA, GX, ren, zm, za, refs, z8, cst, zq, isC, bin, una, z6, zd, blt, asArg, zf, zc, zg, z1, E.mkS, unN, ze, zn, zb, GS, simprocAttr, GZ, d1, d2, d3, L, ht, zL]
theorem a7 (g : zy) (hB : GB g) (hg : yK g = true) : ∀ (n : Nat) (out w : List Str) (es : List (List T)) (m off len : Nat) (cap cap2 : Option Nat), w.length + muS g.packs out ≤ n → n ≤ 4194304 → m = out.length → m + vV g.packs out ≤ 1048576 → len = w.length → es.drop off = strs w → off + len = es.length → ∃ cap',
 EV Tryz.prog pol (.loop 40 60 0 [.ptr 0 0 0, .sl 1 0 m cap, .sl 2 off len cap2] [.vs 2 [g.enc.map .t], .ts 1 (strs out), .ts 1 es])
  = some (.loop (.exit 0) [.sl 0 0 (yg xh g.packs n out w).length cap'] [.ts 1 (strs (yg xh g.packs n out w))])
 | n, out, [], es, m, off, len, cap, cap2, hn, hN, hm, hk, hl, hd, ho => by
  have c : decide ((len : Int) > 0) = false := by rw [hl]; rfl
  refine ⟨cap, ?_⟩
  rw [rp]
  clear hB hg
  obtain ⟨top, packs⟩ := g
  simp only [zy.enc, List.map_cons, List.map_nil]
  rw [← hm]
  refine zi Tryz.func40 rfl rfl ?_
  simp (disch := ((try simp only [LL]); omega)) only [↓GO, ↓DRW, GA, GX, ren, zm, za, refs, z8, cst, zq, isC, bin, una, z6, zd, blt, asArg, zf, zc, zg, z1, E.mkS, unN, ze, zn, zb, GS, simprocAttr, GZ, c, zL]
 | 0, out, k :: w, es, m, off, len, cap, cap2, hn, hN, hm, hk, hl, hd, ho => by simp at hn
 | n + 1, out, k :: w, es, m, off, len, cap, cap2, hn, hN, hm, hk, hl, hd, ho => by
  have c : decide ((len : Int) > 0) = true := by rw [hl]; simp
  have hoff : es[off]? = some [.str k] := by
   have : (es.drop off)[0]? = some [.str k] := by rw [hd]; rfl
   simpa using this
  have hd1 : es.drop (off + 1) = strs w := by
   rw [← List.drop_drop, hd]; rfl
  have hl1 : len - 1 = w.length := by rw [hl]; rfl
  have hl2 : 1 ≤ len := by rw [hl]; simp
  have hl3 : (1 : Int) ≤ (len : Int) := by omega
  have hsl : (strs out).length = m := by rw [zh, hm]
  have htk : (strs out).take m = strs out := List.take_of_length_le (by omega)
  have hml : m ≤ 1048576 := by omega
  have hll : len ≤ 4194304 := by simp only [List.length_cons] at hl hn; omega
  have d0 := WZ g hB
  rw [hg] at d0
  have d1 := bO g k hB
  have d2 := aj out (by omega) k
  simp only [List.length_cons] at hn
  rw [yg]
  cases hf : xW g.packs k with
  | none =>
   rw [fl hf] at d1
   have c2 : decide ((-1 : Int) < 0) = true := rfl
   simp only [ixI] at d1
   obtain ⟨cap', IH⟩ := a7 g hB hg n out w es m (off + 1) (len - 1) cap (cap2.map (· - 1)) (by omega) (by omega) hm hk hl1 hd1 (by omega)
   refine ⟨cap', ?_⟩
   simp only
   clear hB hf hg
   obtain ⟨top, packs⟩ := g
   simp only [zy.enc, List.map_cons, List.map_nil] at d0 d1 IH ⊢
   generalize yg xh packs n out w = Z at *
   refine zi Tryz.func40 rfl rfl ?_
   simp (disch := ((try simp only [LL]); omega)) only [↓GO, ↓DRW, GA, GX, ren, zm, za, refs, z8, cst, zq, isC, bin, una, z6, zd, blt, asArg, zf, zc, zg, z1, E.mkS, unN, ze, zn, zb, GS, simprocAttr, GZ, c, c2, hoff, d0, d1, zL, IH]
  | some p =>
   obtain ⟨hp, hkp, i, hi, hpi⟩ := tY hf
   rw [hi] at d1
   have c2 : decide ((i : Int) < 0) = false := by simp
   have hnl := hB.zE hp
   have hget : (z7.zu g.packs)[i]? = some p.enc := by unfold z7.zu; rw [List.getElem?_map, hpi]; rfl
   simp only
   cases hc : ye out k with
   | true =>
    rw [hc] at d2
    obtain ⟨cap', IH⟩ := a7 g hB hg n out w es m (off + 1) (len - 1) cap (cap2.map (· - 1)) (by omega) (by omega) hm hk hl1 hd1 (by omega)
    refine ⟨cap', ?_⟩
    rw [cond_true]
    clear hB hf hg
    obtain ⟨top, packs⟩ := g
    simp only [zy.enc, List.map_cons, List.map_nil, ixI] at d0 d1 IH ⊢
    generalize yg xh packs n out w = Z at *
    refine zi Tryz.func40 rfl rfl ?_
    simp (disch := ((try simp only [LL]); omega)) only [↓GO, ↓DRW, GA, GX, ren, zm, za, refs, z8, cst, zq, isC, bin, una, z6, zd, blt, asArg, zf, zc, zg, z1, E.mkS, unN, ze, zn, zb, GS, simprocAttr, GZ, c, c2, hoff, d0, d1, d2, htk, zL, IH]
   | false =>
    rw [hc] at d2
    have h1 := qh k out (xh out k) (qn out k) hc g.packs p hp hkp
    have h2 := uO k out (xh out k) (qn out k) hc g.packs p hp hkp
    have d3 := TM out (by omega) k m hm cap (U4 hc)
    obtain ⟨cap', IH⟩ := a7 g hB hg n (xh out k) (w ++ p.zE) (strs w ++ strs p.zE) (m + 1) 0 (w.length + p.zE.length) none none (by rw [List.length_append]; omega) (by omega) (by rw [XU hc, hm]) (by omega) (by simp) (by simp [strs]) (by rw [List.length_append, zh, zh]; omega)
    have ho1 : off + 1 + w.length = es.length := by omega
    refine ⟨cap', ?_⟩
    rw [cond_false]
    clear hB hf hg h1 h2 hp hi hpi
    obtain ⟨top, packs⟩ := g
    obtain ⟨name, version, source, sums, dev, zE⟩ := p
    simp only [zy.enc, z7.enc, List.map_cons, List.map_nil, ixI] at d0 d1 hget IH hnl ⊢
    generalize yg xh packs n (xh out k) (w ++ zE) = Z at *
    generalize xh out k = out' at *
    refine zi Tryz.func40 rfl rfl ?_
    simp (disch := ((try simp only [LL]); omega)) only [↓GO, ↓DRW, GA, GX, ren, zm, za, refs, z8, cst, zq, isC, bin, una, z6, zd, blt, asArg, zf, zc, zg, z1, E.mkS, unN, ze, zn, zb, GS, simprocAttr, GZ, c, c2, hoff, d0, d1, d2, d3, hget, hsl, htk, hd1, hl1, ho1, zh, zL, IH, xg]
theorem c_reR (g : zy) (hB : GB g) (w : List Str) (hw : w.length ≤ 1048576) (hg : yK g = true) : zk (EV Tryz.prog pol) 40 [.agg (g.enc.map .t), .t (.list 1 (strs w))] = some (.t (.list 1 (strs (yn g.packs w)))) := by
 have h1 := nS g.packs
 have h2 := hB
 unfold GB zy.zT at h2
 have h3 : vV g.packs [] ≤ g.packs.length := List.countP_le_length
 have h4 := hB.len
 obtain ⟨cap, L⟩ := a7 g hB hg (w.length + muS g.packs []) [] w (strs w) 0 0 w.length (some 0) none (Nat.le_refl _) (by omega) rfl (by omega) rfl rfl (by rw [zh]; omega)
 have e : yg xh g.packs (w.length + muS g.packs []) [] w = yn g.packs w := rfl
 rw [e] at L
 have ht : (strs (yn g.packs w)).take (yn g.packs w).length = strs (yn g.packs w) := by rw [← zh (yn g.packs w)]; simp
 rw [show strs [] = [] from rfl] at L
 clear hB h1 h2 h3 h4 e hg
 obtain ⟨top, packs⟩ := g
 simp only [zy.enc, List.map_cons, List.map_nil] at ht L ⊢
 generalize yn packs w = Z at *
 apply zr
 refine zw rfl Tryz.func40 rfl (by kernel_rfl) ?_
 unfold Tryz.f40
 simp (disch := ((try simp only [LL]); omega)) only [↓GO, ↓DRW, GA, GX, ren, zm, za, refs, z8, cst, zq, isC, bin, una, z6, zd, blt, asArg, zf, zc, zg, z1, E.mkS, unN, ze, zn, zb, GS, simprocAttr, GZ, L, ht, zh, List.nil_append, Nat.zero_add, zL, xg]
end Go.Proofs.YtijninlbpifonaaGreatDoor
/- Graphs pruned, the law's own way. Conditions: those of each lemma. -/
namespace Go.Proofs.YtijninlbpifonaaGreatDoor
open E
set_option linter.unusedSimpArgs false
set_option linter.unusedVariables false
set_option maxRecDepth 100000
theorem V6 (keys : List Str) (hk : keys.length ≤ 1048576) (top : List Str) (hl : top.length ≤ 1048576) (cs : List z7) : ∀ (rest pre acc : List Str) (m : Nat), top = pre ++ rest → m = acc.length → m + rest.length ≤ 1073741824 →
 EV Tryz.prog pol (.loop 104 58 0 [.t (.list 1 (strs keys)), .ptr 0 0 0, .ptr 1 0 0, .ptr 2 0 0, .t (.int .i64 (pre.length : Int))] [.vs 2 [[.t (.list 1 (strs top)), .t (.list 6 (z7.zu cs))]], .vs 2 [zG], .vs 2 [[.sl 3 0 m none, .sl 4 0 0 none]], .ts 1 (strs acc), .ts 6 []])
  = some (.loop (.exit 0) [.t (.list 1 (strs keys)), .ptr 0 0 0, .ptr 1 0 0, .ptr 2 0 0] [.vs 2 [[.t (.list 1 (strs top)), .t (.list 6 (z7.zu cs))]], .vs 2 [zG], .vs 2 [[.sl 3 0 (acc ++ rest.filter (ye keys)).length none, .sl 4 0 0 none]], .ts 1 (strs (acc ++ rest.filter (ye keys))), .ts 6 []])
 | [], pre, acc, m, h, hm, hmM => by
  have c : decide ((pre.length : Int) < (top.length : Int)) = false := by simp [h]
  rw [List.filter_nil, List.append_nil, ← hm]
  simp only [zG]
  refine zi Tryz.func104 rfl rfl ?_
  simp (disch := ((try simp only [LL]); omega)) only [↓GO, ↓DRW, GA, GX, ren, zm, za, refs, z8, cst, zq, isC, bin, una, z6, zd, blt, asArg, zf, zc, zg, z1, E.mkS, unN, ze, zn, zb, GS, simprocAttr, GZ, c, zh, zL]
 | x :: rest, pre, acc, m, h, hm, hmM => by
  have c : decide ((pre.length : Int) < (top.length : Int)) = true := by simp [h]; omega
  have c0 : decide ((0 : Int) ≤ (pre.length : Int)) = true := by simp
  have hget : (strs top)[pre.length]? = some [.str x] := vj (by rw [h]; simp)
  have hlen : pre.length + rest.length + 1 ≤ top.length := by rw [h]; simp; omega
  have hsl : (strs acc).length = m := by rw [zh, hm]
  simp only [List.length_cons] at hmM
  have d1 := aj keys hk x
  rw [List.filter_cons]
  cases q : ye keys x with
  | true =>
   rw [q] at d1
   have IH := V6 keys hk top hl cs rest (pre ++ [x]) (acc ++ [x]) (m + 1) (by rw [h]; simp) (by simp [hm]) (by omega)
   rw [show ((pre ++ [x]).length : Int) = (pre.length : Int) + 1 by simp, show strs (acc ++ [x]) = strs acc ++ [[.str x]] by simp [strs], List.append_assoc, show [x] ++ rest.filter (ye keys) = x :: rest.filter (ye keys) from rfl] at IH
   simp only [if_true, zG] at IH ⊢
   clear h hk
   generalize acc ++ x :: rest.filter (ye keys) = Z at *
   refine zi Tryz.func104 rfl rfl ?_
   simp (disch := ((try simp only [LL]); omega)) only [↓GO, ↓DRW, GA, GX, ren, zm, za, refs, z8, cst, zq, isC, bin, una, z6, zd, blt, asArg, zf, zc, zg, z1, E.mkS, unN, ze, zn, zb, GS, simprocAttr, GZ, c, c0, zh, hget, d1, zj, hsl, zL, IH, xg]
   refine yN (by kernel_rfl) ?_
   first | exact IH | simp (disch := ((try simp only [LL]); omega)) only [↓GO, ↓DRW, GA, GX, ren, zm, za, refs, z8, cst, zq, isC, bin, una, z6, zd, blt, asArg, zf, zc, zg, z1, E.mkS, unN, ze, zn, zb, GS, simprocAttr, GZ, IH, zj, zL]
  | false =>
   rw [q] at d1
   have IH := V6 keys hk top hl cs rest (pre ++ [x]) acc m (by rw [h]; simp) hm (by omega)
   rw [show ((pre ++ [x]).length : Int) = (pre.length : Int) + 1 by simp] at IH
   simp only [Bool.false_eq_true, if_false, zG] at IH ⊢
   clear h hk
   generalize acc ++ rest.filter (ye keys) = Z at *
   refine zi Tryz.func104 rfl rfl ?_
   simp (disch := ((try simp only [LL]); omega)) only [↓GO, ↓DRW, GA, GX, ren, zm, za, refs, z8, cst, zq, isC, bin, una, z6, zd, blt, asArg, zf, zc, zg, z1, E.mkS, unN, ze, zn, zb, GS, simprocAttr, GZ, c, c0, zh, hget, d1, zj, hsl, zL, IH, xg]
theorem V8 (keys : List Str) (hk : keys.length ≤ 1048576) (gt gp : T) (cs : List z7) (hgp : gp = .list 6 (z7.zu cs)) (p : z7) (hnl : p.zE.length ≤ 1048576) (i : Nat) (hi : cs[i]? = some p) (e1 e2 e3 e4 e5 : T) (mt mp : Nat) (A B : List (List T)) : ∀ (rest pre acc : List Str) (m : Nat) (cap : Option Nat), p.zE = pre ++ rest → m = acc.length → m + rest.length ≤ 1073741824 → ∃ cap',
 EV Tryz.prog pol (.loop 104 125242 0 [.t (.list 1 (strs keys)), .ptr 0 0 0, .ptr 1 0 0, .ptr 2 0 0, .t (.int .i64 (i : Int)), .ptr 3 0 0, .t (.int .i64 (pre.length : Int))] [.vs 2 [[.t gt, .t gp]], .vs 2 [zG], .vs 2 [[.sl 4 0 mt none, .sl 5 0 mp none]], .vs 6 [[.t e1, .t e2, .t e3, .t e4, .t e5, .sl 6 0 m cap]], .ts 1 A, .ts 6 B, .ts 1 (strs acc)])
  = some (.loop (.exit 4) [.t (.list 1 (strs keys)), .ptr 0 0 0, .ptr 1 0 0, .ptr 2 0 0, .t (.int .i64 (i : Int)), .ptr 3 0 0] [.vs 2 [[.t gt, .t gp]], .vs 2 [zG], .vs 2 [[.sl 4 0 mt none, .sl 5 0 mp none]], .vs 6 [[.t e1, .t e2, .t e3, .t e4, .t e5, .sl 6 0 (acc ++ rest.filter (ye keys)).length cap']], .ts 1 A, .ts 6 B, .ts 1 (strs (acc ++ rest.filter (ye keys)))])
 | [], pre, acc, m, cap, h, hm, hmM => by
  have c : decide ((pre.length : Int) < (p.zE.length : Int)) = false := by simp [h]
  have ci : decide ((0 : Int) ≤ (i : Int)) = true := by simp
  have hpi : (z7.zu cs)[i]? = some p.enc := by unfold z7.zu; rw [List.getElem?_map, hi]; rfl
  have hil : i < cs.length := by have := List.getElem?_eq_some_iff.1 hi; exact this.1
  refine ⟨cap, ?_⟩
  rw [List.filter_nil, List.append_nil, ← hm]
  clear h hi hk
  obtain ⟨name, version, source, sums, dev, zE⟩ := p
  simp only [z7.enc, zG] at hpi c ⊢
  subst hgp
  refine zi Tryz.func104 rfl rfl ?_
  simp (disch := ((try simp only [LL]); omega)) only [↓GO, ↓DRW, GA, GX, ren, zm, za, refs, z8, cst, zq, isC, bin, una, z6, zd, blt, asArg, zf, zc, zg, z1, E.mkS, unN, ze, zn, zb, GS, simprocAttr, GZ, c, ci, zh, hpi, zL]
 | x :: rest, pre, acc, m, cap, h, hm, hmM => by
  have c : decide ((pre.length : Int) < (p.zE.length : Int)) = true := by simp [h]; omega
  have c0 : decide ((0 : Int) ≤ (pre.length : Int)) = true := by simp
  have ci : decide ((0 : Int) ≤ (i : Int)) = true := by simp
  have hpi : (z7.zu cs)[i]? = some p.enc := by unfold z7.zu; rw [List.getElem?_map, hi]; rfl
  have hget : (strs p.zE)[pre.length]? = some [.str x] := vj (by rw [h]; simp)
  have hlen : pre.length + rest.length + 1 ≤ p.zE.length := by rw [h]; simp; omega
  have hsl : (strs acc).length = m := by rw [zh, hm]
  simp only [List.length_cons] at hmM
  have d1 := aj keys hk x
  rw [List.filter_cons]
  cases q : ye keys x with
  | true =>
   rw [q] at d1
   obtain ⟨cap', IH⟩ := V8 keys hk gt gp cs hgp p hnl i hi e1 e2 e3 e4 e5 mt mp A B rest (pre ++ [x]) (acc ++ [x]) (m + 1) none (by rw [h]; simp) (by simp [hm]) (by omega)
   rw [show ((pre ++ [x]).length : Int) = (pre.length : Int) + 1 by simp, show strs (acc ++ [x]) = strs acc ++ [[.str x]] by simp [strs], List.append_assoc, show [x] ++ rest.filter (ye keys) = x :: rest.filter (ye keys) from rfl] at IH
   simp only [if_true, zG] at IH ⊢
   refine ⟨cap', ?_⟩
   clear h hk hi
   generalize acc ++ x :: rest.filter (ye keys) = Z at *
   obtain ⟨name, version, source, sums, dev, zE⟩ := p
   simp only [z7.enc] at hpi c hget hlen hnl ⊢
   subst hgp
   refine zi Tryz.func104 rfl rfl ?_
   simp (disch := ((try simp only [LL]); omega)) only [↓GO, ↓DRW, GA, GX, ren, zm, za, refs, z8, cst, zq, isC, bin, una, z6, zd, blt, asArg, zf, zc, zg, z1, E.mkS, unN, ze, zn, zb, GS, simprocAttr, GZ, c, c0, ci, zh, hget, hpi, d1, zj, hsl, zL, IH, xg]
   refine yN (by kernel_rfl) ?_
   first | exact IH | simp (disch := ((try simp only [LL]); omega)) only [↓GO, ↓DRW, GA, GX, ren, zm, za, refs, z8, cst, zq, isC, bin, una, z6, zd, blt, asArg, zf, zc, zg, z1, E.mkS, unN, ze, zn, zb, GS, simprocAttr, GZ, IH, zj, zL]
  | false =>
   rw [q] at d1
   obtain ⟨cap', IH⟩ := V8 keys hk gt gp cs hgp p hnl i hi e1 e2 e3 e4 e5 mt mp A B rest (pre ++ [x]) acc m cap (by rw [h]; simp) hm (by omega)
   rw [show ((pre ++ [x]).length : Int) = (pre.length : Int) + 1 by simp] at IH
   simp only [Bool.false_eq_true, if_false, zG] at IH ⊢
   refine ⟨cap', ?_⟩
   clear h hk hi
   generalize acc ++ rest.filter (ye keys) = Z at *
   obtain ⟨name, version, source, sums, dev, zE⟩ := p
   simp only [z7.enc] at hpi c hget hlen hnl ⊢
   subst hgp
   refine zi Tryz.func104 rfl rfl ?_
   simp (disch := ((try simp only [LL]); omega)) only [↓GO, ↓DRW, GA, GX, ren, zm, za, refs, z8, cst, zq, isC, bin, una, z6, zd, blt, asArg, zf, zc, zg, z1, E.mkS, unN, ze, zn, zb, GS, simprocAttr, GZ, c, c0, ci, zh, hget, hpi, d1, zj, hsl, zL, IH, xg]
theorem jX (keys : List Str) (p : z7) (r : List z7) : xu keys (p :: r) = cond (ye keys (keyOf p)) (o6 keys p :: xu keys r) (xu keys r) := by
 unfold xu
 rw [List.filter_cons]
 cases ye keys (keyOf p) <;> rfl
theorem V7 (keys : List Str) (hk : keys.length ≤ 1048576) (gt : T) (cs : List z7) (hl : cs.length ≤ 1048576) (hb : ∀ c ∈ cs, c.zT ≤ 1048576) (mt : Nat) (A : List (List T)) : ∀ (rest pre acc : List z7) (m : Nat), cs = pre ++ rest → m = acc.length → m + rest.length ≤ 1073741824 →
 EV Tryz.prog pol (.loop 104 122 0 [.t (.list 1 (strs keys)), .ptr 0 0 0, .ptr 1 0 0, .ptr 2 0 0, .t (.int .i64 (pre.length : Int))] [.vs 2 [[.t gt, .t (.list 6 (z7.zu cs))]], .vs 2 [zG], .vs 2 [[.sl 3 0 mt none, .sl 4 0 m none]], .ts 1 A, .ts 6 (z7.zu acc)])
  = some (.loop (.exit 2) [.ptr 0 0 0, .ptr 1 0 0] [.vs 2 [zG], .vs 2 [[.sl 2 0 mt none, .sl 3 0 (acc ++ xu keys rest).length none]], .ts 1 A, .ts 6 (z7.zu (acc ++ xu keys rest))])
 | [], pre, acc, m, h, hm, hmM => by
  have c : decide ((pre.length : Int) < (cs.length : Int)) = false := by simp [h]
  rw [show xu keys [] = [] from rfl, List.append_nil, ← hm]
  simp only [zG]
  refine zi Tryz.func104 rfl rfl ?_
  simp (disch := ((try simp only [LL]); omega)) only [↓GO, ↓DRW, GA, GX, ren, zm, za, refs, z8, cst, zq, isC, bin, una, z6, zd, blt, asArg, zf, zc, zg, z1, E.mkS, unN, ze, zn, zb, GS, simprocAttr, GZ, c, z7.zo, zL]
 | x :: rest, pre, acc, m, h, hm, hmM => by
  have c : decide ((pre.length : Int) < (cs.length : Int)) = true := by simp [h]; omega
  have c0 : decide ((0 : Int) ≤ (pre.length : Int)) = true := by simp
  have hix : cs[pre.length]? = some x := by rw [h]; simp
  have hget : (z7.zu cs)[pre.length]? = some x.enc := by rw [h]; simp [z7.zu]
  have hlen : pre.length + rest.length + 1 ≤ cs.length := by rw [h]; simp; omega
  have hsl : (z7.zu acc).length = m := by rw [z7.zo, hm]
  simp only [List.length_cons] at hmM
  have hxb := hb x (by rw [h]; simp)
  have d1 := jE x (by omega)
  have d2 := aj keys hk (keyOf x)
  have d3 := dU x hxb
  rw [jX]
  cases q : ye keys (keyOf x) with
  | true =>
   rw [q] at d2
   have IH := V7 keys hk gt cs hl hb mt A rest (pre ++ [x]) (acc ++ [o6 keys x]) (m + 1) (by rw [h]; simp) (by simp [hm]) (by omega)
   have hnl : x.zE.length ≤ 1048576 := by unfold z7.zT at hxb; omega
   obtain ⟨cap', L⟩ := V8 keys hk gt (.list 6 (z7.zu cs)) cs rfl x hnl pre.length hix (.str x.name) (.str x.version) (.str x.source) (.list 2 (zD.zu x.sums)) (.bool x.dev) mt m A (z7.zu acc) x.zE [] [] 0 (some 0) rfl rfl (by omega)
   rw [show ((pre ++ [x]).length : Int) = (pre.length : Int) + 1 by simp, uM, List.append_assoc, show [o6 keys x] ++ xu keys rest = o6 keys x :: xu keys rest from rfl] at IH
   simp only [cond_true, zG, List.nil_append, List.length_nil, Int.natCast_zero, show strs [] = [] from rfl] at IH L ⊢
   have ht : (strs (x.zE.filter (ye keys))).take (x.zE.filter (ye keys)).length = strs (x.zE.filter (ye keys)) := by rw [← zh (x.zE.filter (ye keys))]; simp
   generalize acc ++ o6 keys x :: xu keys rest = Z at *
   clear h hk hix hb hxb
   obtain ⟨name, version, source, sums, dev, zE⟩ := x
   simp only [z7.enc, o6, List.map_cons, List.map_nil] at d1 d2 d3 hget IH L ht ⊢
   generalize zE.filter (ye keys) = nf at *
   refine zi Tryz.func104 rfl rfl ?_
   simp (disch := ((try simp only [LL]); omega)) only [↓GO, ↓DRW, GA, GX, ren, zm, za, refs, z8, cst, zq, isC, bin, una, z6, zd, blt, asArg, zf, zc, zg, z1, E.mkS, unN, ze, zn, zb, GS, simprocAttr, GZ, c, c0, z7.zo, hget, d1, d2, d3, L, ht, zj, hsl, zL, IH, xg]
  | false =>
   rw [q] at d2
   have IH := V7 keys hk gt cs hl hb mt A rest (pre ++ [x]) acc m (by rw [h]; simp) hm (by omega)
   rw [show ((pre ++ [x]).length : Int) = (pre.length : Int) + 1 by simp] at IH
   simp only [cond_false, zG] at IH ⊢
   generalize acc ++ xu keys rest = Z at *
   clear h hk hix hb hxb
   obtain ⟨name, version, source, sums, dev, zE⟩ := x
   simp only [z7.enc, List.map_cons, List.map_nil] at d1 d2 d3 hget ⊢
   refine zi Tryz.func104 rfl rfl ?_
   simp (disch := ((try simp only [LL]); omega)) only [↓GO, ↓DRW, GA, GX, ren, zm, za, refs, z8, cst, zq, isC, bin, una, z6, zd, blt, asArg, zf, zc, zg, z1, E.mkS, unN, ze, zn, zb, GS, simprocAttr, GZ, c, c0, z7.zo, hget, d1, d2, zj, hsl, zL, IH, xg]
theorem c_onR (g : zy) (hB : GB g) (keys : List Str) (hk : keys.length ≤ 1048576) : zk (EV Tryz.prog pol) 104 [.agg (g.enc.map .t), .t (.list 1 (strs keys))] = some (.agg ((bZ g keys).enc.map .t)) := by
 have hb := hB.len
 obtain ⟨top, packs⟩ := g
 simp only at hb
 have L1 := V6 keys hk top (by omega) packs top [] [] 0 rfl rfl (by omega)
 have L2 := V7 keys hk (.list 1 (strs top)) packs (by omega) hb.2.2 (top.filter (ye keys)).length (strs (top.filter (ye keys))) packs [] [] 0 rfl rfl (by omega)
 have ht1 : (strs (top.filter (ye keys))).take (top.filter (ye keys)).length = strs (top.filter (ye keys)) := by rw [← zh (top.filter (ye keys))]; simp
 have ht2 : (z7.zu (xu keys packs)).take (xu keys packs).length = z7.zu (xu keys packs) := by rw [← z7.zo (xu keys packs)]; simp
 simp only [bZ, zy.enc, List.map_cons, List.map_nil, zG, List.nil_append, List.length_nil, Int.natCast_zero, show strs [] = [] from rfl, show z7.zu [] = [] from rfl] at L1 L2 ⊢
 generalize top.filter (ye keys) = Z1 at *
 generalize xu keys packs = Z2 at *
 clear hB hb hk
 apply zr
 refine zw rfl Tryz.func104 rfl (by kernel_rfl) ?_
 unfold Tryz.f104
 simp (disch := ((try simp only [LL]); omega)) only [↓GO, ↓DRW, GA, GX, ren, zm, za, refs, z8, cst, zq, isC, bin, una, z6, zd, blt, asArg, zf, zc, zg, z1, E.mkS, unN, ze, zn, zb, GS, simprocAttr, zR, zS, xT, xK, xR, xQ, xU, gh1, xJ, xr, xA, ym, mkO, xB, xt, yJ, xS, zX, xI, xG, yx, oc, oTs, oT, yf, yf.rowTs, xy, isL, Bool.not_false, Bool.true_and, Bool.and_true, Bool.and_self, List.flatMap_append, List.map_append, List.set_cons_zero, List.set_cons_succ, GZ, L1, L2, ht1, ht2, show sN ([] : List (List T)) = true from rfl, zL]
theorem lg (ps : List z7) (w : List Str) : (yn ps w).length ≤ ps.length := by
 have e : w9 (yg snS ps (w.length + muS ps []) [] w) = yn ps w := oO ps _ w
 have h1 := u6 ps (w.length + muS ps []) [] w
 have h3 : vV ps [] ≤ ps.length := List.countP_le_length
 rw [← e, qG]
 simp only [List.length_nil] at h1
 omega
theorem Uo (g : zy) (hB : GB g) : zk (EV Tryz.prog pol) 103 [.agg (g.enc.map .t)] = some (.agg (g.enc.map .t)) := by
 have hb := hB.len
 obtain ⟨top, packs⟩ := g
 simp only at hb
 have t1 : (strs top).take top.length = strs top := by rw [← zh top]; simp
 cases packs with
 | nil =>
  have L : EV Tryz.prog pol (.loop 103 58 0 [.ptr 0 0 0, .ptr 1 0 0, .ptr 2 0 0, .t (.int .i64 0)] [.vs 2 [[.t (.list 1 (strs top)), .t (.list 6 [])]], .vs 2 [zG], .vs 2 [[.sl 3 0 top.length none, .nil 6]], .ts 1 (strs top)])
   = some (.loop (.exit 0) [.ptr 0 0 0, .ptr 1 0 0] [.vs 2 [zG], .vs 2 [[.sl 2 0 top.length none, .nil 6]], .ts 1 (strs top)]) := by
   simp only [zG]
   refine zi Tryz.func103 rfl rfl ?_
   simp (disch := ((try simp only [LL]); omega)) only [↓GO, ↓DRW, GA, GX, ren, zm, za, refs, z8, cst, zq, isC, bin, una, z6, zd, blt, asArg, zf, zc, zg, z1, E.mkS, unN, ze, zn, zb, GS, simprocAttr, GZ, zL, List.length_nil, Int.natCast_zero]
  simp only [zy.enc, z7.zu, List.map_cons, List.map_nil, zG] at L ⊢
  apply zr
  refine zw rfl Tryz.func103 rfl (by kernel_rfl) ?_
  unfold Tryz.f103
  simp (disch := ((try simp only [LL]); omega)) only [↓GO, ↓DRW, GA, GX, ren, zm, za, refs, z8, cst, zq, isC, bin, una, z6, zd, blt, asArg, zf, zc, zg, z1, E.mkS, unN, ze, zn, zb, GS, simprocAttr, GZ, L, t1, zh, zL, xg]
  try (refine yN (by kernel_rfl) ?_; rfl)
 | cons x rest =>
  have hcx := dU x (hb.2.2 x (by simp))
  have L := WK top (x :: rest) (by omega) (by omega) hb.2.2 rest [x] 1 rfl rfl
  have L0 : EV Tryz.prog pol (.loop 103 58 0 [.ptr 0 0 0, .ptr 1 0 0, .ptr 2 0 0, .t (.int .i64 0)] [.vs 2 [[.t (.list 1 (strs top)), .t (.list 6 (z7.zu (x :: rest)))]], .vs 2 [zG], .vs 2 [[.sl 3 0 top.length none, .nil 6]], .ts 1 (strs top)])
   = some (.loop (.exit 0) [.ptr 0 0 0, .ptr 1 0 0] [.vs 2 [zG], .vs 2 [[.sl 2 0 top.length none, .sl 3 0 (x :: rest).length none]], .ts 1 (strs top), .ts 6 (z7.zu (x :: rest))]) := by
   have c : decide ((0 : Int) < ((x :: rest).length : Int)) = true := by apply decide_eq_true; simp only [List.length_cons]; omega
   have hget : (z7.zu (x :: rest))[0]? = some x.enc := rfl
   rw [show z7.zu [x] = [x.enc] from rfl] at L
   obtain ⟨name, version, source, sums, dev, zE⟩ := x
   simp only [z7.enc, List.map_cons, List.map_nil, zG, List.length_cons, List.length_nil, Nat.zero_add] at hcx hget L ⊢
   generalize z7.mk name version source sums dev zE :: rest = cs at *
   refine zi Tryz.func103 rfl rfl ?_
   simp (disch := ((try simp only [LL]); omega)) only [↓GO, ↓DRW, GA, GX, ren, zm, za, refs, z8, cst, zq, isC, bin, una, z6, zd, blt, asArg, zf, zc, zg, z1, E.mkS, unN, ze, zn, zb, GS, simprocAttr, GZ, c, z7.zo, vr, hget, hcx, zj, Int.reduceAdd, L, zL, xg, List.length_nil, Int.natCast_zero]
   try (refine yN (by kernel_rfl) ?_; first | rfl | exact L)
  clear L
  have t2 : (z7.zu (x :: rest)).take (x :: rest).length = z7.zu (x :: rest) := by rw [← z7.zo (x :: rest)]; simp
  generalize x :: rest = cs at *
  simp only [zy.enc, List.map_cons, List.map_nil, zG] at L0 ⊢
  apply zr
  refine zw rfl Tryz.func103 rfl (by kernel_rfl) ?_
  unfold Tryz.f103
  simp (disch := ((try simp only [LL]); omega)) only [↓GO, ↓DRW, GA, GX, ren, zm, za, refs, z8, cst, zq, isC, bin, una, z6, zd, blt, asArg, zf, zc, zg, z1, E.mkS, unN, ze, zn, zb, GS, simprocAttr, GZ, L0, t1, t2, zh, zL, xg]
  try (refine yN (by kernel_rfl) ?_; rfl)
theorem T6 (g : zy) (hB : GB g) : zk (EV Tryz.prog pol) 26 [.agg (g.enc.map .t)] = some (.agg ((wN g).enc.map .t)) := by
 have d1 := WZ g hB
 cases q : yK g with
 | true =>
  have hb := hB.len
  rw [q] at d1
  have d2 := c_reR g hB g.top (by omega) q
  have hk : (yn g.packs g.top).length ≤ 1048576 := Nat.le_trans (lg g.packs g.top) hb.1
  have d3 := c_onR g hB (yn g.packs g.top) hk
  rw [er q] at d3
  generalize wN g = Z at *
  clear hB hb hk q
  obtain ⟨top, packs⟩ := g
  obtain ⟨zt, zp⟩ := Z
  simp only [zy.enc, List.map_cons, List.map_nil] at d1 d2 d3 ⊢
  apply zr
  refine zw rfl Tryz.func26 rfl (by kernel_rfl) ?_
  unfold Tryz.f26
  simp (disch := ((try simp only [LL]); omega)) only [↓GO, ↓DRW, GA, GX, ren, zm, za, refs, z8, cst, zq, isC, bin, una, z6, zd, blt, asArg, zf, zc, zg, z1, E.mkS, unN, ze, zn, zb, GS, simprocAttr, GZ, d1, d2, d3, zL]
  try (refine yN (by kernel_rfl) ?_; rfl)
 | false =>
  rw [q] at d1
  have d2 := Uo g hB
  rw [show wN g = g by unfold wN; rw [q]; rfl]
  clear hB q
  obtain ⟨top, packs⟩ := g
  simp only [zy.enc, List.map_cons, List.map_nil] at d1 d2 ⊢
  apply zr
  refine zw rfl Tryz.func26 rfl (by kernel_rfl) ?_
  unfold Tryz.f26
  simp (disch := ((try simp only [LL]); omega)) only [↓GO, ↓DRW, GA, GX, ren, zm, za, refs, z8, cst, zq, isC, bin, una, z6, zd, blt, asArg, zf, zc, zg, z1, E.mkS, unN, ze, zn, zb, GS, simprocAttr, GZ, d1, d2, zL]
end Go.Proofs.YtijninlbpifonaaGreatDoor
/- Graphs pruned, the program's way. Conditions: those of each lemma. -/
namespace Go.Proofs.YtijninlbpifonaaGreatDoor
open E
set_option linter.unusedSimpArgs false
set_option linter.unusedVariables false
set_option maxRecDepth 100000
theorem TC (keys : List Str) (hk : keys.length ≤ 1048576) (x : z7) (hb : x.zT ≤ 1048576) : zk (EV Tryz.prog pol) 107 (.agg (x.enc.map .t) :: [.t (.fp [.list 1 (strs keys)])]) = some (.t (.bool (!ye keys (keyOf x)))) := by
 have d1 := jF x (by omega)
 have d2 := T7 keys hk (keyOf x)
 clear hb hk
 obtain ⟨name, version, source, sums, dev, zE⟩ := x
 simp only [z7.enc, List.map_cons, List.map_nil] at d1 d2 ⊢
 apply zr
 refine zw rfl Tryz.func107 rfl (by kernel_rfl) ?_
 unfold Tryz.f107
 simp (disch := ((try simp only [LL]); omega)) only [↓GO, ↓DRW, GA, GX, ren, zm, za, refs, z8, cst, zq, isC, bin, una, z6, zd, blt, asArg, zf, zc, zg, z1, E.mkS, unN, ze, zn, zb, GS, simprocAttr, GZ, d1, d2, zL]
 try (refine yN (by kernel_rfl) ?_; first | rfl | simp (disch := ((try simp only [LL]); omega)) only [↓GO, ↓DRW, GA, GX, ren, zm, za, refs, z8, cst, zq, isC, bin, una, z6, zd, blt, asArg, zf, zc, zg, z1, E.mkS, unN, ze, zn, zb, GS, simprocAttr, GZ, d1, d2, zL])
theorem gx : ∀ l : List z7, kD (ocE (z7.zu l)) = some (z7.zu l)
 | [] => rfl
 | x :: l => by
  rw [show ocE (z7.zu (x :: l)) = x.enc.map oc :: ocE (z7.zu l) from rfl, show z7.zu (x :: l) = x.enc :: z7.zu l from rfl]
  have h : oTs (x.enc.map oc) = some x.enc := rfl
  simp only [kD, h, gx l]
theorem mK (keys : List Str) (ps : List z7) : (ps.filter fun x => !!ye keys (keyOf x)) = wv keys ps := by
 unfold wv
 congr 1
 funext x
 cases ye keys (keyOf x) <;> rfl
set_option maxHeartbeats 4000000 in
theorem eJ (top : List Str) (p : z7) (rest : List z7) (hB : GB ⟨top, p :: rest⟩) (ho : yK ⟨top, p :: rest⟩ = true) :
 EV Tryz.prog pol (.callO false 27 [.agg [.t (.list 1 (strs top)), .t (.list 6 (z7.zu (p :: rest)))]] []) = some (.call (.agg [.sl 0 0 top.length none, .sl 1 0 (wv (yn (p :: rest) top) (p :: rest)).length none]) [.ts 1 (strs top), .vs 6 (ocE (z7.zu (wv (yn (p :: rest) top) (p :: rest))))]) := by
 have hb := hB.len
 simp only at hb
 have hcp := pZ top p rest (by omega) (by omega) hb.2.2
 have d1 := mv _ hB
 rw [ho] at d1
 have d2 := T5 _ hB top (by omega) ho
 simp only at d2
 have hkl := lg (p :: rest) top
 generalize hcs : p :: rest = cs at *
 generalize yn cs top = keys at *
 obtain ⟨J', hJr, hJ', d3⟩ := TJ 107 (.list 1 (strs keys)) (fun x => !ye keys (keyOf x)) cs (by omega) (fun x hx => TC keys (by omega) x (hb.2.2 x hx)) cs.length rfl none
 rw [mK] at d3 hJ'
 generalize wv keys cs = Z at *
 have hZl : (ocE (z7.zu Z)).length = Z.length := by rw [yQ, z7.zo]
 have htk : (ocE (z7.zu Z) ++ J').take Z.length = ocE (z7.zu Z) := by rw [← hZl]; simp
 have hle : Z.length ≤ (ocE (z7.zu Z) ++ J').length := by rw [List.length_append, hZl]; omega
 have ht1 : (strs top).take top.length = strs top := by rw [← zh top]; simp
 have f2 := uJ Z
 have hA := uX (s9 Z) hJr
 obtain ⟨h1, h2, _⟩ := hA
 simp only [zy.enc, List.map_cons, List.map_nil] at d1 d2
 clear hB hb ho hkl hJ' hcs hJr
 have hot : kD (ocE (z7.zu Z)) = some (z7.zu Z) := gx Z
 have hoc : (z7.zu Z).map (fun e => e.map oc) = ocE (z7.zu Z) := rfl
 by_cases hq : (ocE (z7.zu Z) ++ J').length = Z.length
 · have hE : ocE (z7.zu Z) ++ J' = ocE (z7.zu Z) := by have h := htk; rw [List.take_of_length_le (by omega)] at h; exact h
   rw [hE] at d3
   refine yd Tryz.func27 rfl (by kernel_rfl) ?_
   unfold Tryz.f27
   simp (disch := ((try simp only [LL]); omega)) only [↓GO, ↓DRW, GA, GX, ren, zm, za, refs, z8, cst, zq, isC, bin, una, z6, zd, blt, asArg, zf, zc, zg, z1, E.mkS, unN, ze, zn, zb, GS, simprocAttr, zR, zS, xT, xK, xR, xQ, xU, gh1, xJ, xr, xA, ym, mkO, xB, xt, yJ, xS, zX, xI, xG, yx, oc, oTs, oT, yf, yf.rowTs, xy, isL, Bool.not_false, Bool.true_and, Bool.and_true, Bool.and_self, List.flatMap_append, List.map_append, List.set_cons_zero, List.set_cons_succ, GZ, hcp, d1, d2, d3, hot, hoc, ht1, f2, yA, yj, yQ, z7.zo, List.drop_zero, u5, zL]
 · generalize ocE (z7.zu Z) ++ J' = E1 at *
   have hq' : (E1.length = Z.length) = False := eq_false hq
   refine yd Tryz.func27 rfl (by kernel_rfl) ?_
   unfold Tryz.f27
   simp (disch := ((try simp only [LL]); omega)) only [↓GO, ↓DRW, GA, GX, ren, zm, za, refs, z8, cst, zq, isC, bin, una, z6, zd, blt, asArg, zf, zc, zg, z1, E.mkS, unN, ze, zn, zb, GS, simprocAttr, zR, zS, xT, xK, xR, xQ, xU, gh1, xJ, xr, xA, ym, mkO, xB, xt, yJ, xS, zX, xI, xG, yx, oc, oTs, oT, yf, yf.rowTs, xy, isL, Bool.not_false, Bool.true_and, Bool.and_true, Bool.and_self, List.flatMap_append, List.map_append, List.set_cons_zero, List.set_cons_succ, GZ, hcp, d1, d2, d3, h1, h2, hq', htk, hle, hot, hoc, ht1, f2, yA, yj, yQ, z7.zo, List.drop_zero, u5, zL]
theorem Xt (top : List Str) (p : z7) (rest : List z7) (hB : GB ⟨top, p :: rest⟩) (ho : yK ⟨top, p :: rest⟩ = false) :
 EV Tryz.prog pol (.callO false 27 [.agg [.t (.list 1 (strs top)), .t (.list 6 (z7.zu (p :: rest)))]] []) = some (.call (.agg [.sl 0 0 top.length none, .sl 1 0 (p :: rest).length none]) [.ts 1 (strs top), .vs 6 (ocE (z7.zu (p :: rest)))]) := by
 have hb := hB.len
 simp only at hb
 have hcp := pZ top p rest (by omega) (by omega) hb.2.2
 have d1 := mv _ hB
 rw [ho] at d1
 generalize hcs : p :: rest = cs at *
 simp only [zy.enc, List.map_cons, List.map_nil] at d1
 clear hB hb ho hcs
 refine yd Tryz.func27 rfl (by kernel_rfl) ?_
 unfold Tryz.f27
 simp (disch := ((try simp only [LL]); omega)) only [↓GO, ↓DRW, GA, GX, ren, zm, za, refs, z8, cst, zq, isC, bin, una, z6, zd, blt, asArg, zf, zc, zg, z1, E.mkS, unN, ze, zn, zb, GS, simprocAttr, zR, zS, xT, xK, xR, xQ, xU, gh1, xJ, xr, xA, ym, mkO, xB, xt, yJ, xS, zX, xI, xG, yx, oc, oTs, oT, yf, yf.rowTs, xy, isL, Bool.not_false, Bool.true_and, Bool.and_true, Bool.and_self, List.flatMap_append, List.map_append, List.set_cons_zero, List.set_cons_succ, GZ, hcp, d1, yA, yj, yQ, z7.zo, List.drop_zero, zL]
theorem Xs (top : List Str) (hB : GB ⟨top, []⟩) (ho : yK ⟨top, []⟩ = false) :
 EV Tryz.prog pol (.callO false 27 [.agg [.t (.list 1 (strs top)), .t (.list 6 [])]] []) = some (.call (.agg [.sl 0 0 top.length none, .nil 6]) [.ts 1 (strs top)]) := by
 have hb := hB.len
 simp only at hb
 have hcp := nw top (by omega)
 have d1 := mv _ hB
 rw [ho] at d1
 simp only [zy.enc, List.map_cons, List.map_nil, show z7.zu [] = [] from rfl] at d1
 clear hB hb ho
 refine yd Tryz.func27 rfl (by kernel_rfl) ?_
 unfold Tryz.f27
 simp (disch := ((try simp only [LL]); omega)) only [↓GO, ↓DRW, GA, GX, ren, zm, za, refs, z8, cst, zq, isC, bin, una, z6, zd, blt, asArg, zf, zc, zg, z1, E.mkS, unN, ze, zn, zb, GS, simprocAttr, zR, zS, xT, xK, xR, xQ, xU, gh1, xJ, xr, xA, ym, mkO, xB, xt, yJ, xS, zX, xI, xG, yx, oc, oTs, oT, yf, yf.rowTs, xy, isL, Bool.not_false, Bool.true_and, Bool.and_true, Bool.and_self, List.flatMap_append, List.map_append, List.set_cons_zero, List.set_cons_succ, GZ, hcp, d1, List.drop_zero, zL]
theorem TI (g : Nat) (cell : T) : EV Tryz.prog pol (.callO false 106 [.nil 6, .fn g [.ptr 0 0 0]] [.vs 1 [[.t cell]]]) = some (.call (.nil 6) [.vs 1 [[.t cell]]]) := by
 have d1 := tI g [.fp [cell]] (fun _ => false) [] (by simp) (fun x hx => by simp at hx)
 rw [show ixI (vA (fun _ => false) ([] : List z7) 0) = -1 from rfl, show z7.zu [] = [] from rfl] at d1
 refine yd Tryz.func106 rfl (by kernel_rfl) ?_
 unfold Tryz.f106
 simp (disch := ((try simp only [LL]); omega)) only [↓GO, ↓DRW, GA, GX, ren, zm, za, refs, z8, cst, zq, isC, bin, una, z6, zd, blt, asArg, zf, zc, zg, z1, E.mkS, unN, ze, zn, zb, GS, simprocAttr, zR, zS, xT, xK, xR, xQ, xU, gh1, xJ, xr, xA, ym, mkO, xB, xt, yJ, xS, zX, xI, xG, yx, oc, oTs, oT, yf, yf.rowTs, xy, isL, Bool.not_false, Bool.true_and, Bool.and_true, Bool.and_self, List.flatMap_append, List.map_append, List.set_cons_zero, List.set_cons_succ, GZ, d1, u5, List.drop_zero, beq_self_eq_true, zL]
theorem Z3 (top : List Str) (hB : GB ⟨top, []⟩) (ho : yK ⟨top, []⟩ = true) :
 EV Tryz.prog pol (.callO false 27 [.agg [.t (.list 1 (strs top)), .t (.list 6 (z7.zu []))]] []) = some (.call (.agg [.sl 0 0 top.length none, .sl 1 0 (wv (yn [] top) []).length none]) [.ts 1 (strs top), .vs 6 (ocE (z7.zu (wv (yn [] top) [])))]) := by
 have hb := hB.len
 simp only at hb
 have hcp := nw top (by omega)
 have d1 := mv _ hB
 rw [ho] at d1
 have d2 := T5 _ hB top (by omega) ho
 simp only at d2
 rw [show wv (yn [] top) [] = [] from rfl]
 have d3 := TI 107 (.list 1 (strs (yn [] top)))
 generalize yn [] top = keys at *
 simp only [zy.enc, List.map_cons, List.map_nil, show z7.zu [] = [] from rfl, show ocE [] = [] from rfl, List.length_nil] at d1 d2 ⊢
 have ht1 : (strs top).take top.length = strs top := by rw [← zh top]; simp
 clear hB hb ho
 refine yd Tryz.func27 rfl (by kernel_rfl) ?_
 unfold Tryz.f27
 simp (disch := ((try simp only [LL]); omega)) only [↓GO, ↓DRW, GA, GX, ren, zm, za, refs, z8, cst, zq, isC, bin, una, z6, zd, blt, asArg, zf, zc, zg, z1, E.mkS, unN, ze, zn, zb, GS, simprocAttr, zR, zS, xT, xK, xR, xQ, xU, gh1, xJ, xr, xA, ym, mkO, xB, xt, yJ, xS, zX, xI, xG, yx, oc, oTs, oT, yf, yf.rowTs, xy, isL, Bool.not_false, Bool.true_and, Bool.and_true, Bool.and_self, List.flatMap_append, List.map_append, List.set_cons_zero, List.set_cons_succ, GZ, hcp, d1, d2, d3, ht1, List.drop_zero, u5, zL]
end Go.Proofs.YtijninlbpifonaaGreatDoor
/- The law of Prune. Conditions: those of each lemma. -/
namespace Go.Proofs.YtijninlbpifonaaGreatDoor
open E
set_option linter.unusedSimpArgs false
set_option linter.unusedVariables false
set_option maxRecDepth 100000
theorem q7 (ks : List Str) (n : Nat) (h : n = ks.length) : (strs ks).take n = strs ks := List.take_of_length_le (by rw [zh]; omega)
theorem nA (cs : List z7) (n : Nat) (h : n = cs.length) : (ocE (z7.zu cs)).take n = ocE (z7.zu cs) := List.take_of_length_le (by rw [yQ, z7.zo]; omega)
theorem na (keys : List Str) : ∀ cs : List z7, (wv keys cs).length ≤ cs.length ∧ z7.zK (wv keys cs) ≤ z7.zK cs
 | [] => ⟨Nat.le_refl _, Nat.le_refl _⟩
 | p :: r => by
  have ih := na keys r
  unfold wv at ih ⊢
  rw [List.filter_cons]
  cases ye keys (keyOf p) with
  | true => simp only [if_true, List.length_cons, z7.zK]; omega
  | false => simp only [Bool.false_eq_true, if_false, List.length_cons, z7.zK]; omega
set_option maxHeartbeats 16000000 in
theorem uC (top : List Str) (cs Z : List z7) (ho : (zy.mk top cs).ok) (hb : (zy.mk top cs).zT ≤ 1048576) (hZ : wN ⟨top, cs⟩ = ⟨top, Z⟩) (hZl : Z.length ≤ cs.length) (hZb : z7.zK Z ≤ z7.zK cs)
 (hI : EV Tryz.prog pol (.callO false 27 [.agg [.t (.list 1 (strs top)), .t (.list 6 (z7.zu cs))]] []) = some (.call (.agg [.sl 0 0 top.length none, .sl 1 0 Z.length none]) [.ts 1 (strs top), .vs 6 (ocE (z7.zu Z))])) :
 EV Tryz.prog pol (.call 4 [.agg ((zy.mk top cs).enc.map .t)] []) = some (.call (.t (.bool true)) []) := by
 have hsz := qV (zy.mk top cs) ho 1048576 (by omega) (by omega)
 rw [vR (by omega)] at hsz
 have c2 : decide (1048576 - ((zy.mk top cs).zT : Int) < 0) = false := by apply decide_eq_false; omega
 have hto := WY (zy.mk top cs) hb
 have htO := WX (zy.mk top cs) hb
 have heqT := qX (zy.mk top cs) (by omega)
 have hR := T6 (zy.mk top cs) hb
 have hb' := hb
 simp only [zy.zT] at hb'
 rw [hZ] at hR
 have heqR := qX (zy.mk top Z) (by simp only [zy.zT]; omega)
 have hcn := mf cs
 have hcn' := mf Z
 have hM1 := jv top cs (by omega) (by omega) top.length cs.length rfl rfl (some top.length) (some cs.length) 1 (by omega)
 have hM2 := jv top Z (by omega) (by omega) top.length Z.length rfl rfl none none 1 (by omega)
 have hH := bN top Z (by omega) (by omega) 1 (by omega)
 rw [show ((1 : Nat) : Int) = 1 from rfl] at hM1 hM2 hH
 have g1 : decide (((1 + top.length + zZ cs : Nat) : Int) < 0) = false := by apply decide_eq_false; omega
 have g2 : decide (((1 + top.length + zZ Z : Nat) : Int) < 0) = false := by apply decide_eq_false; omega
 have t1 := q7 top top.length rfl
 have t2 := nA cs cs.length rfl
 have t4 := nA Z Z.length rfl
 have t5 := q7 (mkS top.length 1) top.length (wU _ _).symm
 have t6 := nA (yM (1 + top.length) Z) Z.length (by rw [wH])
 have f1 := xi top
 have f2 := uJ Z
 unfold oz at heqT heqR
 unfold UH at htO
 unfold UI at hto
 clear ho hb hb' hcn hcn' hZ hZl hZb
 generalize (zy.mk top cs).zT = bt at *
 simp only [zy.enc, List.map_cons, List.map_nil] at hsz hto htO heqT heqR hR hI hM1 hM2 hH ⊢
 generalize zZ cs = m0 at *
 generalize zZ Z = m1 at *
 generalize yM (1 + top.length) Z = mc1 at *
 generalize yM (1 + top.length) cs = mc at *
 generalize mkS top.length 1 = ms at *
 refine zw rfl Tryz.func4 rfl (by kernel_rfl) ?_
 unfold Tryz.f4
 simp (disch := ((try simp only [LL]); omega)) only [↓GO, ↓DRW, GA, GX, ren, zm, za, refs, z8, cst, zq, isC, bin, una, z6, zd, blt, asArg, zf, zc, zg, z1, E.mkS, unN, ze, zn, zb, GS, simprocAttr, zR, zS, xT, xK, xR, xQ, xU, gh1, xJ, xr, xA, ym, mkO, xB, xt, yJ, xS, zX, xI, xG, yx, oc, oTs, oT, yf, yf.rowTs, xy, isL, Bool.not_false, Bool.true_and, Bool.and_true, Bool.and_self, List.flatMap_append, List.map_append, List.set_cons_zero, List.set_cons_succ, GZ, hsz, c2, hto, htO, heqT, heqR, hR, hI, hM1, hM2, hH, g1, g2, t1, t2, t4, t5, t6, f1, f2, List.drop_zero, q9, yA, yj, bne_self_eq_false, zL]
set_option maxHeartbeats 16000000 in
theorem kL (top : List Str) (ho : (zy.mk top []).ok) (hb : (zy.mk top []).zT ≤ 1048576) (hg : yK ⟨top, []⟩ = false) :
 EV Tryz.prog pol (.call 4 [.agg ((zy.mk top []).enc.map .t)] []) = some (.call (.t (.bool true)) []) := by
 have hsz := qV (zy.mk top []) ho 1048576 (by omega) (by omega)
 rw [vR (by omega)] at hsz
 have c2 : decide (1048576 - ((zy.mk top []).zT : Int) < 0) = false := by apply decide_eq_false; omega
 have hto := WY (zy.mk top []) hb
 have htO := WX (zy.mk top []) hb
 have heqT := qX (zy.mk top []) (by omega)
 have hR := T6 (zy.mk top []) hb
 rw [show wN ⟨top, []⟩ = ⟨top, []⟩ by unfold wN; rw [hg]; rfl] at hR
 have hI := Xs top hb hg
 have hb' := hb
 simp only [zy.zT] at hb'
 have hM1 := jv top [] (by omega) (by simp [z7.zK]) top.length 0 rfl rfl (some top.length) (some 0) 1 (by simp only [zZ]; omega)
 have hM2 := XA top (by omega) top.length rfl none 1 (by omega)
 have hH := bN top [] (by omega) (by simp [z7.zK]) 1 (by simp only [zZ]; omega)
 rw [show ((1 : Nat) : Int) = 1 from rfl] at hM1 hM2 hH
 have g1 : decide (((1 + top.length : Nat) : Int) < 0) = false := by apply decide_eq_false; omega
 have t1 := q7 top top.length rfl
 have t5 := q7 (mkS top.length 1) top.length (wU _ _).symm
 have f1 := xi top
 unfold oz at heqT
 unfold UH at htO
 unfold UI at hto
 clear ho hb hb' hg
 generalize (zy.mk top []).zT = bt at *
 simp only [zy.enc, z7.zu, ocE, yM, zZ, Nat.add_zero, List.length_nil, List.map_cons, List.map_nil] at hsz hto htO heqT hR hI hM1 hM2 hH ⊢
 generalize mkS top.length 1 = ms at *
 refine zw rfl Tryz.func4 rfl (by kernel_rfl) ?_
 unfold Tryz.f4
 simp (disch := ((try simp only [LL]); omega)) only [↓GO, ↓DRW, GA, GX, ren, zm, za, refs, z8, cst, zq, isC, bin, una, z6, zd, blt, asArg, zf, zc, zg, z1, E.mkS, unN, ze, zn, zb, GS, simprocAttr, zR, zS, xT, xK, xR, xQ, xU, gh1, xJ, xr, xA, ym, mkO, xB, xt, yJ, xS, zX, xI, xG, yx, oc, oTs, oT, yf, yf.rowTs, xy, isL, Bool.not_false, Bool.true_and, Bool.and_true, Bool.and_self, List.flatMap_append, List.map_append, List.set_cons_zero, List.set_cons_succ, GZ, hsz, c2, hto, htO, heqT, hR, hI, hM1, hM2, hH, g1, t1, t5, f1, List.drop_zero, bne_self_eq_false, zL]
theorem eK (x : zy) (ho : x.ok) : EV Tryz.prog pol (.call 4 [.agg (x.enc.map .t)] []) = some (.call (.t (.bool true)) []) := by
 obtain ⟨top, packs⟩ := x
 by_cases hb : (zy.mk top packs).zT ≤ 1048576
 · cases hg : yK ⟨top, packs⟩ with
   | true =>
    have e : wN ⟨top, packs⟩ = ⟨top, wv (yn packs top) packs⟩ := by unfold wN; rw [hg]; rfl
    have hk := na (yn packs top) packs
    cases packs with
    | nil => exact uC top [] _ ho hb e hk.1 hk.2 (Z3 top hb hg)
    | cons p rest => exact uC top (p :: rest) _ ho hb e hk.1 hk.2 (eJ top p rest hb hg)
   | false =>
    have e : wN ⟨top, packs⟩ = ⟨top, packs⟩ := by unfold wN; rw [hg]; rfl
    cases packs with
    | nil => exact kL top ho hb hg
    | cons p rest => exact uC top (p :: rest) _ ho hb e (Nat.le_refl _) (Nat.le_refl _) (Xt top p rest hb hg)
 · have hsz := qV (zy.mk top packs) ho 1048576 (by omega) (by omega)
   have hle : left 1048576 (zy.mk top packs).zT = -1 := if_pos (by omega)
   rw [hle] at hsz
   clear hb hle ho
   simp only [zy.enc, List.map_cons, List.map_nil] at hsz ⊢
   refine zw rfl Tryz.func4 rfl (by kernel_rfl) ?_
   unfold Tryz.f4
   simp (disch := ((try simp only [LL]); omega)) only [↓GO, ↓DRW, GA, GX, ren, zm, za, refs, z8, cst, zq, isC, bin, una, z6, zd, blt, asArg, zf, zc, zg, z1, E.mkS, unN, ze, zn, zb, GS, simprocAttr, zR, zS, xT, xK, xR, xQ, xU, gh1, xJ, xr, xA, ym, mkO, xB, xt, yJ, xS, zX, xI, xG, yx, oc, oTs, oT, yf, yf.rowTs, xy, isL, Bool.not_false, Bool.true_and, Bool.and_true, Bool.and_self, List.flatMap_append, List.map_append, List.set_cons_zero, List.set_cons_succ, GZ, hsz]
end Go.Proofs.YtijninlbpifonaaGreatDoor
/- The law of Prune at what is handed in. Conditions: none. -/
namespace Go.Proofs.YtijninlbpifonaaGreatDoor
open E
set_option linter.unusedSimpArgs false
set_option linter.unusedVariables false
set_option maxRecDepth 100000
theorem YY (xs : List V) (h : WTA Tryz.prog [25] xs) : EV Tryz.prog pol (.call 4 xs []) = some (.call (.t (.bool true)) []) := by
 obtain ⟨cs, v, vs, rfl, h1, h2, h3⟩ := h.X9
 have := h3.VS
 subst this
 obtain ⟨a, rfl, oa⟩ := XW h1
 obtain ⟨ta, pa⟩ := a
 have e : zF Tryz.prog 25 = true := by kernel_rfl
 rw [e] at h2
 simp [zd, zy.enc] at h2
 subst h2
 exact eK ⟨ta, pa⟩ oa
end Go.Proofs.YtijninlbpifonaaGreatDoor
