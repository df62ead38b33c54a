/- Which slots the loops keep: tables written by a program of mine (live.py). Conditions: none. -/
import Derived.Test.YtdhejeigbjmncaaDoorE17
import Derived.KernelRfl
namespace Go.Proofs.YtdhejeigbjmncaaDoor
set_option maxRecDepth 100000
def look3 : List (Nat × Nat × List Nat) → Nat → Nat → List Nat
  | [], _, _ => []
  | (f', p', l) :: r, f, p => if f = f' ∧ p = p' then l else look3 r f p
def liveTab : List (Nat × Nat × List Nat) := [
  (9, 122, [0, 1, 5]),
  (10, 122, [0, 1, 5]),
  (12, 1018, [1, 2, 6, 7, 8]),
  (13, 58, [0, 3, 4]),
  (14, 58, [0, 3, 4]),
  (16, 1018, [1, 2, 5, 6, 7, 41, 42, 43]),
  (17, 58, [0, 1, 5]),
  (18, 58, [0, 1, 5]),
  (19, 26, [1, 2, 5]),
  (20, 58, [1, 3, 4]),
  (21, 124, [0, 3, 4]),
  (22, 58, [0, 3, 4]),
  (23, 58, [0, 3, 4]),
  (24, 506, [1, 2, 3, 94, 95, 96]),
  (24, 1018, [1, 2, 109, 110, 111]),
  (26, 58, [0, 3, 7, 8]),
  (27, 250, [0, 1, 5, 39, 40, 41]),
  (27, 4090, [1, 8, 63, 64, 65]),
  (29, 58, [0, 3, 4]),
  (33, 58, [0, 3, 7, 8]),
  (38, 26, [0, 3]),
  (39, 26, [0, 1, 7, 8]),
  (43, 26, [0, 1, 5]),
  (49, 12, [0, 1, 4]),
  (50, 4060, [0, 1, 3, 4, 10, 11, 12, 13, 17]),
  (50, 16220, [0, 1, 3, 4, 10, 11, 12, 13, 14, 15, 16])]
def outsTab : List (Nat × Nat × List Nat) := [
  (9, 122, [1, 4]),
  (10, 122, [1, 4]),
  (12, 1018, [1, 6, 7]),
  (13, 58, [3]),
  (14, 58, [3]),
  (16, 1018, [1, 5, 6, 7]),
  (17, 58, [4]),
  (18, 58, [4]),
  (19, 26, [1, 2, 4]),
  (20, 58, [3]),
  (21, 124, [0, 3]),
  (22, 58, [3]),
  (23, 58, [3]),
  (24, 506, [1, 2, 3, 6]),
  (24, 1018, [6]),
  (26, 58, [3]),
  (27, 250, [0, 1, 5]),
  (27, 4090, [8]),
  (29, 58, [3]),
  (33, 58, [3]),
  (38, 26, [0, 2]),
  (39, 26, [4]),
  (43, 26, [4]),
  (49, 12, [0, 1, 4]),
  (50, 4060, [0, 1, 3, 4, 10, 11, 12, 13]),
  (50, 16220, [0, 1, 3, 4, 10, 11, 12, 13])]
def liveT (f p : Nat) : List Nat := look3 liveTab f p
def outsT (f p : Nat) : List Nat := look3 outsTab f p
theorem LT_9_122 : liveT 9 122 = [0, 1, 5] := by kernel_rfl
theorem OT_9_122 : outsT 9 122 = [1, 4] := by kernel_rfl
theorem LT_10_122 : liveT 10 122 = [0, 1, 5] := by kernel_rfl
theorem OT_10_122 : outsT 10 122 = [1, 4] := by kernel_rfl
theorem LT_12_1018 : liveT 12 1018 = [1, 2, 6, 7, 8] := by kernel_rfl
theorem OT_12_1018 : outsT 12 1018 = [1, 6, 7] := by kernel_rfl
theorem LT_13_58 : liveT 13 58 = [0, 3, 4] := by kernel_rfl
theorem OT_13_58 : outsT 13 58 = [3] := by kernel_rfl
theorem LT_14_58 : liveT 14 58 = [0, 3, 4] := by kernel_rfl
theorem OT_14_58 : outsT 14 58 = [3] := by kernel_rfl
theorem LT_16_1018 : liveT 16 1018 = [1, 2, 5, 6, 7, 41, 42, 43] := by kernel_rfl
theorem OT_16_1018 : outsT 16 1018 = [1, 5, 6, 7] := by kernel_rfl
theorem LT_17_58 : liveT 17 58 = [0, 1, 5] := by kernel_rfl
theorem OT_17_58 : outsT 17 58 = [4] := by kernel_rfl
theorem LT_18_58 : liveT 18 58 = [0, 1, 5] := by kernel_rfl
theorem OT_18_58 : outsT 18 58 = [4] := by kernel_rfl
theorem LT_19_26 : liveT 19 26 = [1, 2, 5] := by kernel_rfl
theorem OT_19_26 : outsT 19 26 = [1, 2, 4] := by kernel_rfl
theorem LT_20_58 : liveT 20 58 = [1, 3, 4] := by kernel_rfl
theorem OT_20_58 : outsT 20 58 = [3] := by kernel_rfl
theorem LT_21_124 : liveT 21 124 = [0, 3, 4] := by kernel_rfl
theorem OT_21_124 : outsT 21 124 = [0, 3] := by kernel_rfl
theorem LT_22_58 : liveT 22 58 = [0, 3, 4] := by kernel_rfl
theorem OT_22_58 : outsT 22 58 = [3] := by kernel_rfl
theorem LT_23_58 : liveT 23 58 = [0, 3, 4] := by kernel_rfl
theorem OT_23_58 : outsT 23 58 = [3] := by kernel_rfl
theorem LT_24_506 : liveT 24 506 = [1, 2, 3, 94, 95, 96] := by kernel_rfl
theorem OT_24_506 : outsT 24 506 = [1, 2, 3, 6] := by kernel_rfl
theorem LT_24_1018 : liveT 24 1018 = [1, 2, 109, 110, 111] := by kernel_rfl
theorem OT_24_1018 : outsT 24 1018 = [6] := by kernel_rfl
theorem LT_26_58 : liveT 26 58 = [0, 3, 7, 8] := by kernel_rfl
theorem OT_26_58 : outsT 26 58 = [3] := by kernel_rfl
theorem LT_27_250 : liveT 27 250 = [0, 1, 5, 39, 40, 41] := by kernel_rfl
theorem OT_27_250 : outsT 27 250 = [0, 1, 5] := by kernel_rfl
theorem LT_27_4090 : liveT 27 4090 = [1, 8, 63, 64, 65] := by kernel_rfl
theorem OT_27_4090 : outsT 27 4090 = [8] := by kernel_rfl
theorem LT_29_58 : liveT 29 58 = [0, 3, 4] := by kernel_rfl
theorem OT_29_58 : outsT 29 58 = [3] := by kernel_rfl
theorem LT_33_58 : liveT 33 58 = [0, 3, 7, 8] := by kernel_rfl
theorem OT_33_58 : outsT 33 58 = [3] := by kernel_rfl
theorem LT_38_26 : liveT 38 26 = [0, 3] := by kernel_rfl
theorem OT_38_26 : outsT 38 26 = [0, 2] := by kernel_rfl
theorem LT_39_26 : liveT 39 26 = [0, 1, 7, 8] := by kernel_rfl
theorem OT_39_26 : outsT 39 26 = [4] := by kernel_rfl
theorem LT_43_26 : liveT 43 26 = [0, 1, 5] := by kernel_rfl
theorem OT_43_26 : outsT 43 26 = [4] := by kernel_rfl
theorem LT_49_12 : liveT 49 12 = [0, 1, 4] := by kernel_rfl
theorem OT_49_12 : outsT 49 12 = [0, 1, 4] := by kernel_rfl
theorem LT_50_4060 : liveT 50 4060 = [0, 1, 3, 4, 10, 11, 12, 13, 17] := by kernel_rfl
theorem OT_50_4060 : outsT 50 4060 = [0, 1, 3, 4, 10, 11, 12, 13] := by kernel_rfl
theorem LT_50_16220 : liveT 50 16220 = [0, 1, 3, 4, 10, 11, 12, 13, 14, 15, 16] := by kernel_rfl
theorem OT_50_16220 : outsT 50 16220 = [0, 1, 3, 4, 10, 11, 12, 13] := by kernel_rfl
theorem LTS : liveT 9 122 = [0, 1, 5] ∧ outsT 9 122 = [1, 4] ∧
  liveT 10 122 = [0, 1, 5] ∧ outsT 10 122 = [1, 4] ∧
  liveT 12 1018 = [1, 2, 6, 7, 8] ∧ outsT 12 1018 = [1, 6, 7] ∧
  liveT 13 58 = [0, 3, 4] ∧ outsT 13 58 = [3] ∧
  liveT 14 58 = [0, 3, 4] ∧ outsT 14 58 = [3] ∧
  liveT 16 1018 = [1, 2, 5, 6, 7, 41, 42, 43] ∧ outsT 16 1018 = [1, 5, 6, 7] ∧
  liveT 17 58 = [0, 1, 5] ∧ outsT 17 58 = [4] ∧
  liveT 18 58 = [0, 1, 5] ∧ outsT 18 58 = [4] ∧
  liveT 19 26 = [1, 2, 5] ∧ outsT 19 26 = [1, 2, 4] ∧
  liveT 20 58 = [1, 3, 4] ∧ outsT 20 58 = [3] ∧
  liveT 21 124 = [0, 3, 4] ∧ outsT 21 124 = [0, 3] ∧
  liveT 22 58 = [0, 3, 4] ∧ outsT 22 58 = [3] ∧
  liveT 23 58 = [0, 3, 4] ∧ outsT 23 58 = [3] ∧
  liveT 24 506 = [1, 2, 3, 94, 95, 96] ∧ outsT 24 506 = [1, 2, 3, 6] ∧
  liveT 24 1018 = [1, 2, 109, 110, 111] ∧ outsT 24 1018 = [6] ∧
  liveT 26 58 = [0, 3, 7, 8] ∧ outsT 26 58 = [3] ∧
  liveT 27 250 = [0, 1, 5, 39, 40, 41] ∧ outsT 27 250 = [0, 1, 5] ∧
  liveT 27 4090 = [1, 8, 63, 64, 65] ∧ outsT 27 4090 = [8] ∧
  liveT 29 58 = [0, 3, 4] ∧ outsT 29 58 = [3] ∧
  liveT 33 58 = [0, 3, 7, 8] ∧ outsT 33 58 = [3] ∧
  liveT 38 26 = [0, 3] ∧ outsT 38 26 = [0, 2] ∧
  liveT 39 26 = [0, 1, 7, 8] ∧ outsT 39 26 = [4] ∧
  liveT 43 26 = [0, 1, 5] ∧ outsT 43 26 = [4] ∧
  liveT 49 12 = [0, 1, 4] ∧ outsT 49 12 = [0, 1, 4] ∧
  liveT 50 4060 = [0, 1, 3, 4, 10, 11, 12, 13, 17] ∧ outsT 50 4060 = [0, 1, 3, 4, 10, 11, 12, 13] ∧
  liveT 50 16220 = [0, 1, 3, 4, 10, 11, 12, 13, 14, 15, 16] ∧ outsT 50 16220 = [0, 1, 3, 4, 10, 11, 12, 13] :=
  ⟨LT_9_122, OT_9_122, LT_10_122, OT_10_122, LT_12_1018, OT_12_1018, LT_13_58, OT_13_58, LT_14_58, OT_14_58, LT_16_1018, OT_16_1018, LT_17_58, OT_17_58, LT_18_58, OT_18_58, LT_19_26, OT_19_26, LT_20_58, OT_20_58, LT_21_124, OT_21_124, LT_22_58, OT_22_58, LT_23_58, OT_23_58, LT_24_506, OT_24_506, LT_24_1018, OT_24_1018, LT_26_58, OT_26_58, LT_27_250, OT_27_250, LT_27_4090, OT_27_4090, LT_29_58, OT_29_58, LT_33_58, OT_33_58, LT_38_26, OT_38_26, LT_39_26, OT_39_26, LT_43_26, OT_43_26, LT_49_12, OT_49_12, LT_50_4060, OT_50_4060, LT_50_16220, OT_50_16220⟩
end Go.Proofs.YtdhejeigbjmncaaDoor
