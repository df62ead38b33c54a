/- Which slots the loops keep: tables written by a program of mine (live.py). Conditions: none. -/
import Derived.Test.YtdhejeigbjmncaaE17
import Derived.KernelRfl
namespace Go.Proofs.Ytdhejeigbjmncaa
set_option maxRecDepth 100000
def look3 : List (Nat × Nat × List Nat) → Nat → Nat → List Nat
  | [], _, _ => []
  | (f', p', l) :: r, f, p => if f = f' ∧ p = p' then l else look3 r f p
def liveTab : List (Nat × Nat × List Nat) := [
  (4, 122, [0, 1, 5]),
  (5, 58, [0, 3, 4]),
  (5, 29854, [0, 3, 4, 5]),
  (6, 58, [0, 3, 4]),
  (7, 122, [3, 13, 14, 15]),
  (7, 250682, [3, 6, 13, 14, 15, 27, 28, 29]),
  (8, 58, [0, 1, 5]),
  (10, 26, [0, 3]),
  (11, 506, [1, 3, 4]),
  (13, 26, [0, 7, 8, 9]),
  (13, 13518, [0, 4, 7, 8, 9, 41, 42, 43]),
  (14, 122, [3, 30, 31, 32]),
  (15, 250, [0, 1, 5, 39, 40, 41]),
  (15, 4090, [1, 8, 63, 64, 65]),
  (17, 122, [0, 1, 5]),
  (18, 26, [1, 3]),
  (18, 6734, [1, 3, 4, 5]),
  (19, 58, [0, 3, 4]),
  (20, 58, [0, 3, 4]),
  (24, 58, [0, 3, 7, 8]),
  (28, 58, [0, 1, 5]),
  (30, 26, [0, 3]),
  (31, 58, [0, 3, 4]),
  (34, 26, [0, 1, 7, 8]),
  (38, 26, [0, 1, 7, 8]),
  (39, 58, [0, 3, 7, 8]),
  (43, 122, [0, 1, 5]),
  (46, 58, [0, 3, 4]),
  (49, 58, [0, 1, 5])]
def outsTab : List (Nat × Nat × List Nat) := [
  (4, 122, [1, 4]),
  (5, 58, [2, 3]),
  (5, 29854, [0, 3, 4]),
  (6, 58, [3]),
  (7, 122, [3]),
  (7, 250682, [3, 6, 13, 14, 15]),
  (8, 58, [4]),
  (10, 26, [0, 2]),
  (11, 506, [3]),
  (13, 26, [0, 2]),
  (13, 13518, [0, 2, 7, 8, 9]),
  (14, 122, [3]),
  (15, 250, [0, 1, 5]),
  (15, 4090, [8]),
  (17, 122, [1, 4]),
  (18, 26, [1, 2]),
  (18, 6734, [1, 2, 3]),
  (19, 58, [3]),
  (20, 58, [3]),
  (24, 58, [3]),
  (28, 58, [4]),
  (30, 26, [0, 2]),
  (31, 58, [3]),
  (34, 26, [4]),
  (38, 26, [4]),
  (39, 58, [3]),
  (43, 122, [1, 4]),
  (46, 58, [3]),
  (49, 58, [4])]
def liveT (f p : Nat) : List Nat := look3 liveTab f p
def outsT (f p : Nat) : List Nat := look3 outsTab f p
theorem LT_4_122 : liveT 4 122 = [0, 1, 5] := by kernel_rfl
theorem OT_4_122 : outsT 4 122 = [1, 4] := by kernel_rfl
theorem LT_5_58 : liveT 5 58 = [0, 3, 4] := by kernel_rfl
theorem OT_5_58 : outsT 5 58 = [2, 3] := by kernel_rfl
theorem LT_5_29854 : liveT 5 29854 = [0, 3, 4, 5] := by kernel_rfl
theorem OT_5_29854 : outsT 5 29854 = [0, 3, 4] := by kernel_rfl
theorem LT_6_58 : liveT 6 58 = [0, 3, 4] := by kernel_rfl
theorem OT_6_58 : outsT 6 58 = [3] := by kernel_rfl
theorem LT_7_122 : liveT 7 122 = [3, 13, 14, 15] := by kernel_rfl
theorem OT_7_122 : outsT 7 122 = [3] := by kernel_rfl
theorem LT_7_250682 : liveT 7 250682 = [3, 6, 13, 14, 15, 27, 28, 29] := by kernel_rfl
theorem OT_7_250682 : outsT 7 250682 = [3, 6, 13, 14, 15] := by kernel_rfl
theorem LT_8_58 : liveT 8 58 = [0, 1, 5] := by kernel_rfl
theorem OT_8_58 : outsT 8 58 = [4] := by kernel_rfl
theorem LT_10_26 : liveT 10 26 = [0, 3] := by kernel_rfl
theorem OT_10_26 : outsT 10 26 = [0, 2] := by kernel_rfl
theorem LT_11_506 : liveT 11 506 = [1, 3, 4] := by kernel_rfl
theorem OT_11_506 : outsT 11 506 = [3] := by kernel_rfl
theorem LT_13_26 : liveT 13 26 = [0, 7, 8, 9] := by kernel_rfl
theorem OT_13_26 : outsT 13 26 = [0, 2] := by kernel_rfl
theorem LT_13_13518 : liveT 13 13518 = [0, 4, 7, 8, 9, 41, 42, 43] := by kernel_rfl
theorem OT_13_13518 : outsT 13 13518 = [0, 2, 7, 8, 9] := by kernel_rfl
theorem LT_14_122 : liveT 14 122 = [3, 30, 31, 32] := by kernel_rfl
theorem OT_14_122 : outsT 14 122 = [3] := by kernel_rfl
theorem LT_15_250 : liveT 15 250 = [0, 1, 5, 39, 40, 41] := by kernel_rfl
theorem OT_15_250 : outsT 15 250 = [0, 1, 5] := by kernel_rfl
theorem LT_15_4090 : liveT 15 4090 = [1, 8, 63, 64, 65] := by kernel_rfl
theorem OT_15_4090 : outsT 15 4090 = [8] := by kernel_rfl
theorem LT_17_122 : liveT 17 122 = [0, 1, 5] := by kernel_rfl
theorem OT_17_122 : outsT 17 122 = [1, 4] := by kernel_rfl
theorem LT_18_26 : liveT 18 26 = [1, 3] := by kernel_rfl
theorem OT_18_26 : outsT 18 26 = [1, 2] := by kernel_rfl
theorem LT_18_6734 : liveT 18 6734 = [1, 3, 4, 5] := by kernel_rfl
theorem OT_18_6734 : outsT 18 6734 = [1, 2, 3] := by kernel_rfl
theorem LT_19_58 : liveT 19 58 = [0, 3, 4] := by kernel_rfl
theorem OT_19_58 : outsT 19 58 = [3] := by kernel_rfl
theorem LT_20_58 : liveT 20 58 = [0, 3, 4] := by kernel_rfl
theorem OT_20_58 : outsT 20 58 = [3] := by kernel_rfl
theorem LT_24_58 : liveT 24 58 = [0, 3, 7, 8] := by kernel_rfl
theorem OT_24_58 : outsT 24 58 = [3] := by kernel_rfl
theorem LT_28_58 : liveT 28 58 = [0, 1, 5] := by kernel_rfl
theorem OT_28_58 : outsT 28 58 = [4] := by kernel_rfl
theorem LT_30_26 : liveT 30 26 = [0, 3] := by kernel_rfl
theorem OT_30_26 : outsT 30 26 = [0, 2] := by kernel_rfl
theorem LT_31_58 : liveT 31 58 = [0, 3, 4] := by kernel_rfl
theorem OT_31_58 : outsT 31 58 = [3] := by kernel_rfl
theorem LT_34_26 : liveT 34 26 = [0, 1, 7, 8] := by kernel_rfl
theorem OT_34_26 : outsT 34 26 = [4] := by kernel_rfl
theorem LT_38_26 : liveT 38 26 = [0, 1, 7, 8] := by kernel_rfl
theorem OT_38_26 : outsT 38 26 = [4] := by kernel_rfl
theorem LT_39_58 : liveT 39 58 = [0, 3, 7, 8] := by kernel_rfl
theorem OT_39_58 : outsT 39 58 = [3] := by kernel_rfl
theorem LT_43_122 : liveT 43 122 = [0, 1, 5] := by kernel_rfl
theorem OT_43_122 : outsT 43 122 = [1, 4] := by kernel_rfl
theorem LT_46_58 : liveT 46 58 = [0, 3, 4] := by kernel_rfl
theorem OT_46_58 : outsT 46 58 = [3] := by kernel_rfl
theorem LT_49_58 : liveT 49 58 = [0, 1, 5] := by kernel_rfl
theorem OT_49_58 : outsT 49 58 = [4] := by kernel_rfl
theorem LTS : liveT 4 122 = [0, 1, 5] ∧ outsT 4 122 = [1, 4] ∧
  liveT 5 58 = [0, 3, 4] ∧ outsT 5 58 = [2, 3] ∧
  liveT 5 29854 = [0, 3, 4, 5] ∧ outsT 5 29854 = [0, 3, 4] ∧
  liveT 6 58 = [0, 3, 4] ∧ outsT 6 58 = [3] ∧
  liveT 7 122 = [3, 13, 14, 15] ∧ outsT 7 122 = [3] ∧
  liveT 7 250682 = [3, 6, 13, 14, 15, 27, 28, 29] ∧ outsT 7 250682 = [3, 6, 13, 14, 15] ∧
  liveT 8 58 = [0, 1, 5] ∧ outsT 8 58 = [4] ∧
  liveT 10 26 = [0, 3] ∧ outsT 10 26 = [0, 2] ∧
  liveT 11 506 = [1, 3, 4] ∧ outsT 11 506 = [3] ∧
  liveT 13 26 = [0, 7, 8, 9] ∧ outsT 13 26 = [0, 2] ∧
  liveT 13 13518 = [0, 4, 7, 8, 9, 41, 42, 43] ∧ outsT 13 13518 = [0, 2, 7, 8, 9] ∧
  liveT 14 122 = [3, 30, 31, 32] ∧ outsT 14 122 = [3] ∧
  liveT 15 250 = [0, 1, 5, 39, 40, 41] ∧ outsT 15 250 = [0, 1, 5] ∧
  liveT 15 4090 = [1, 8, 63, 64, 65] ∧ outsT 15 4090 = [8] ∧
  liveT 17 122 = [0, 1, 5] ∧ outsT 17 122 = [1, 4] ∧
  liveT 18 26 = [1, 3] ∧ outsT 18 26 = [1, 2] ∧
  liveT 18 6734 = [1, 3, 4, 5] ∧ outsT 18 6734 = [1, 2, 3] ∧
  liveT 19 58 = [0, 3, 4] ∧ outsT 19 58 = [3] ∧
  liveT 20 58 = [0, 3, 4] ∧ outsT 20 58 = [3] ∧
  liveT 24 58 = [0, 3, 7, 8] ∧ outsT 24 58 = [3] ∧
  liveT 28 58 = [0, 1, 5] ∧ outsT 28 58 = [4] ∧
  liveT 30 26 = [0, 3] ∧ outsT 30 26 = [0, 2] ∧
  liveT 31 58 = [0, 3, 4] ∧ outsT 31 58 = [3] ∧
  liveT 34 26 = [0, 1, 7, 8] ∧ outsT 34 26 = [4] ∧
  liveT 38 26 = [0, 1, 7, 8] ∧ outsT 38 26 = [4] ∧
  liveT 39 58 = [0, 3, 7, 8] ∧ outsT 39 58 = [3] ∧
  liveT 43 122 = [0, 1, 5] ∧ outsT 43 122 = [1, 4] ∧
  liveT 46 58 = [0, 3, 4] ∧ outsT 46 58 = [3] ∧
  liveT 49 58 = [0, 1, 5] ∧ outsT 49 58 = [4] :=
  ⟨LT_4_122, OT_4_122, LT_5_58, OT_5_58, LT_5_29854, OT_5_29854, LT_6_58, OT_6_58, LT_7_122, OT_7_122, LT_7_250682, OT_7_250682, LT_8_58, OT_8_58, LT_10_26, OT_10_26, LT_11_506, OT_11_506, LT_13_26, OT_13_26, LT_13_13518, OT_13_13518, LT_14_122, OT_14_122, LT_15_250, OT_15_250, LT_15_4090, OT_15_4090, LT_17_122, OT_17_122, LT_18_26, OT_18_26, LT_18_6734, OT_18_6734, LT_19_58, OT_19_58, LT_20_58, OT_20_58, LT_24_58, OT_24_58, LT_28_58, OT_28_58, LT_30_26, OT_30_26, LT_31_58, OT_31_58, LT_34_26, OT_34_26, LT_38_26, OT_38_26, LT_39_58, OT_39_58, LT_43_122, OT_43_122, LT_46_58, OT_46_58, LT_49_58, OT_49_58⟩
end Go.Proofs.Ytdhejeigbjmncaa
