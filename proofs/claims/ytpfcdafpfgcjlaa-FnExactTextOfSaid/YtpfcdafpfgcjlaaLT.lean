/- Which slots the loops keep: tables written by a program of mine (live.py). Conditions: none. -/
import Derived.Test.YtpfcdafpfgcjlaaE17
import Derived.KernelRfl
namespace Go.Proofs.Ytpfcdafpfgcjlaa
set_option maxRecDepth 100000
def look3 : List (Nat × Nat × List Nat) → Nat → Nat → List Nat
  | [], _, _ => []
  | (f', p', l) :: r, f, p => if f = f' ∧ p = p' then l else look3 r f p
def liveTab : List (Nat × Nat × List Nat) := [
  (18, 122, [0, 1, 5]),
  (19, 122, [0, 1, 5]),
  (20, 58, [0, 1, 4, 5, 6]),
  (21, 58, [0, 3, 4]),
  (22, 58, [0, 3, 4]),
  (24, 58, [0, 1, 5]),
  (25, 58, [0, 1, 5]),
  (26, 26, [0, 1, 5]),
  (27, 26, [0, 1, 5]),
  (35, 58, [1, 4, 5, 6]),
  (37, 58, [1, 4, 5, 11, 12]),
  (41, 58, [1, 2, 3, 4]),
  (42, 122, [1, 2, 3, 12, 13, 14]),
  (43, 60, [0, 3]),
  (44, 26, [0, 1, 5]),
  (45, 26, [0, 1, 5]),
  (46, 26, [1, 2, 5]),
  (47, 26, [0, 1, 7, 8]),
  (48, 122, [0, 1, 5]),
  (49, 58, [1, 2, 3, 4]),
  (50, 58, [0, 3, 4]),
  (51, 58, [2, 3, 11, 12, 13]),
  (52, 58, [0, 1, 5]),
  (53, 26, [0, 1, 5]),
  (54, 26, [0, 1, 5]),
  (61, 26, [0, 1, 5]),
  (62, 26, [0, 1, 5]),
  (63, 122, [0, 1, 5]),
  (64, 58, [0, 3, 4]),
  (65, 58, [0, 1, 5])]
def outsTab : List (Nat × Nat × List Nat) := [
  (18, 122, [1, 4]),
  (19, 122, [1, 4]),
  (20, 58, [4, 5]),
  (21, 58, [3]),
  (22, 58, [3]),
  (24, 58, [4]),
  (25, 58, [4]),
  (26, 26, [1]),
  (27, 26, [1]),
  (35, 58, [4, 5]),
  (37, 58, [4, 5]),
  (41, 58, [2, 3]),
  (42, 122, [1, 2, 3]),
  (43, 60, [3]),
  (44, 26, [1, 4]),
  (45, 26, [1, 4]),
  (46, 26, [4]),
  (47, 26, [4]),
  (48, 122, [1, 4]),
  (49, 58, [2, 3]),
  (50, 58, [3]),
  (51, 58, [2, 3]),
  (52, 58, [4]),
  (53, 26, [1]),
  (54, 26, [1, 4]),
  (61, 26, [1]),
  (62, 26, [1, 4]),
  (63, 122, [1, 4]),
  (64, 58, [3]),
  (65, 58, [4])]
def liveT (f p : Nat) : List Nat := look3 liveTab f p
def outsT (f p : Nat) : List Nat := look3 outsTab f p
theorem LT_18_122 : liveT 18 122 = [0, 1, 5] := by kernel_rfl
theorem OT_18_122 : outsT 18 122 = [1, 4] := by kernel_rfl
theorem LT_19_122 : liveT 19 122 = [0, 1, 5] := by kernel_rfl
theorem OT_19_122 : outsT 19 122 = [1, 4] := by kernel_rfl
theorem LT_20_58 : liveT 20 58 = [0, 1, 4, 5, 6] := by kernel_rfl
theorem OT_20_58 : outsT 20 58 = [4, 5] := by kernel_rfl
theorem LT_21_58 : liveT 21 58 = [0, 3, 4] := by kernel_rfl
theorem OT_21_58 : outsT 21 58 = [3] := by kernel_rfl
theorem LT_22_58 : liveT 22 58 = [0, 3, 4] := by kernel_rfl
theorem OT_22_58 : outsT 22 58 = [3] := by kernel_rfl
theorem LT_24_58 : liveT 24 58 = [0, 1, 5] := by kernel_rfl
theorem OT_24_58 : outsT 24 58 = [4] := by kernel_rfl
theorem LT_25_58 : liveT 25 58 = [0, 1, 5] := by kernel_rfl
theorem OT_25_58 : outsT 25 58 = [4] := by kernel_rfl
theorem LT_26_26 : liveT 26 26 = [0, 1, 5] := by kernel_rfl
theorem OT_26_26 : outsT 26 26 = [1] := by kernel_rfl
theorem LT_27_26 : liveT 27 26 = [0, 1, 5] := by kernel_rfl
theorem OT_27_26 : outsT 27 26 = [1] := by kernel_rfl
theorem LT_35_58 : liveT 35 58 = [1, 4, 5, 6] := by kernel_rfl
theorem OT_35_58 : outsT 35 58 = [4, 5] := by kernel_rfl
theorem LT_37_58 : liveT 37 58 = [1, 4, 5, 11, 12] := by kernel_rfl
theorem OT_37_58 : outsT 37 58 = [4, 5] := by kernel_rfl
theorem LT_41_58 : liveT 41 58 = [1, 2, 3, 4] := by kernel_rfl
theorem OT_41_58 : outsT 41 58 = [2, 3] := by kernel_rfl
theorem LT_42_122 : liveT 42 122 = [1, 2, 3, 12, 13, 14] := by kernel_rfl
theorem OT_42_122 : outsT 42 122 = [1, 2, 3] := by kernel_rfl
theorem LT_43_60 : liveT 43 60 = [0, 3] := by kernel_rfl
theorem OT_43_60 : outsT 43 60 = [3] := by kernel_rfl
theorem LT_44_26 : liveT 44 26 = [0, 1, 5] := by kernel_rfl
theorem OT_44_26 : outsT 44 26 = [1, 4] := by kernel_rfl
theorem LT_45_26 : liveT 45 26 = [0, 1, 5] := by kernel_rfl
theorem OT_45_26 : outsT 45 26 = [1, 4] := by kernel_rfl
theorem LT_46_26 : liveT 46 26 = [1, 2, 5] := by kernel_rfl
theorem OT_46_26 : outsT 46 26 = [4] := by kernel_rfl
theorem LT_47_26 : liveT 47 26 = [0, 1, 7, 8] := by kernel_rfl
theorem OT_47_26 : outsT 47 26 = [4] := by kernel_rfl
theorem LT_48_122 : liveT 48 122 = [0, 1, 5] := by kernel_rfl
theorem OT_48_122 : outsT 48 122 = [1, 4] := by kernel_rfl
theorem LT_49_58 : liveT 49 58 = [1, 2, 3, 4] := by kernel_rfl
theorem OT_49_58 : outsT 49 58 = [2, 3] := by kernel_rfl
theorem LT_50_58 : liveT 50 58 = [0, 3, 4] := by kernel_rfl
theorem OT_50_58 : outsT 50 58 = [3] := by kernel_rfl
theorem LT_51_58 : liveT 51 58 = [2, 3, 11, 12, 13] := by kernel_rfl
theorem OT_51_58 : outsT 51 58 = [2, 3] := by kernel_rfl
theorem LT_52_58 : liveT 52 58 = [0, 1, 5] := by kernel_rfl
theorem OT_52_58 : outsT 52 58 = [4] := by kernel_rfl
theorem LT_53_26 : liveT 53 26 = [0, 1, 5] := by kernel_rfl
theorem OT_53_26 : outsT 53 26 = [1] := by kernel_rfl
theorem LT_54_26 : liveT 54 26 = [0, 1, 5] := by kernel_rfl
theorem OT_54_26 : outsT 54 26 = [1, 4] := by kernel_rfl
theorem LT_61_26 : liveT 61 26 = [0, 1, 5] := by kernel_rfl
theorem OT_61_26 : outsT 61 26 = [1] := by kernel_rfl
theorem LT_62_26 : liveT 62 26 = [0, 1, 5] := by kernel_rfl
theorem OT_62_26 : outsT 62 26 = [1, 4] := by kernel_rfl
theorem LT_63_122 : liveT 63 122 = [0, 1, 5] := by kernel_rfl
theorem OT_63_122 : outsT 63 122 = [1, 4] := by kernel_rfl
theorem LT_64_58 : liveT 64 58 = [0, 3, 4] := by kernel_rfl
theorem OT_64_58 : outsT 64 58 = [3] := by kernel_rfl
theorem LT_65_58 : liveT 65 58 = [0, 1, 5] := by kernel_rfl
theorem OT_65_58 : outsT 65 58 = [4] := by kernel_rfl
theorem LTS : liveT 18 122 = [0, 1, 5] ∧ outsT 18 122 = [1, 4] ∧
  liveT 19 122 = [0, 1, 5] ∧ outsT 19 122 = [1, 4] ∧
  liveT 20 58 = [0, 1, 4, 5, 6] ∧ outsT 20 58 = [4, 5] ∧
  liveT 21 58 = [0, 3, 4] ∧ outsT 21 58 = [3] ∧
  liveT 22 58 = [0, 3, 4] ∧ outsT 22 58 = [3] ∧
  liveT 24 58 = [0, 1, 5] ∧ outsT 24 58 = [4] ∧
  liveT 25 58 = [0, 1, 5] ∧ outsT 25 58 = [4] ∧
  liveT 26 26 = [0, 1, 5] ∧ outsT 26 26 = [1] ∧
  liveT 27 26 = [0, 1, 5] ∧ outsT 27 26 = [1] ∧
  liveT 35 58 = [1, 4, 5, 6] ∧ outsT 35 58 = [4, 5] ∧
  liveT 37 58 = [1, 4, 5, 11, 12] ∧ outsT 37 58 = [4, 5] ∧
  liveT 41 58 = [1, 2, 3, 4] ∧ outsT 41 58 = [2, 3] ∧
  liveT 42 122 = [1, 2, 3, 12, 13, 14] ∧ outsT 42 122 = [1, 2, 3] ∧
  liveT 43 60 = [0, 3] ∧ outsT 43 60 = [3] ∧
  liveT 44 26 = [0, 1, 5] ∧ outsT 44 26 = [1, 4] ∧
  liveT 45 26 = [0, 1, 5] ∧ outsT 45 26 = [1, 4] ∧
  liveT 46 26 = [1, 2, 5] ∧ outsT 46 26 = [4] ∧
  liveT 47 26 = [0, 1, 7, 8] ∧ outsT 47 26 = [4] ∧
  liveT 48 122 = [0, 1, 5] ∧ outsT 48 122 = [1, 4] ∧
  liveT 49 58 = [1, 2, 3, 4] ∧ outsT 49 58 = [2, 3] ∧
  liveT 50 58 = [0, 3, 4] ∧ outsT 50 58 = [3] ∧
  liveT 51 58 = [2, 3, 11, 12, 13] ∧ outsT 51 58 = [2, 3] ∧
  liveT 52 58 = [0, 1, 5] ∧ outsT 52 58 = [4] ∧
  liveT 53 26 = [0, 1, 5] ∧ outsT 53 26 = [1] ∧
  liveT 54 26 = [0, 1, 5] ∧ outsT 54 26 = [1, 4] ∧
  liveT 61 26 = [0, 1, 5] ∧ outsT 61 26 = [1] ∧
  liveT 62 26 = [0, 1, 5] ∧ outsT 62 26 = [1, 4] ∧
  liveT 63 122 = [0, 1, 5] ∧ outsT 63 122 = [1, 4] ∧
  liveT 64 58 = [0, 3, 4] ∧ outsT 64 58 = [3] ∧
  liveT 65 58 = [0, 1, 5] ∧ outsT 65 58 = [4] :=
  ⟨LT_18_122, OT_18_122, LT_19_122, OT_19_122, LT_20_58, OT_20_58, LT_21_58, OT_21_58, LT_22_58, OT_22_58, LT_24_58, OT_24_58, LT_25_58, OT_25_58, LT_26_26, OT_26_26, LT_27_26, OT_27_26, LT_35_58, OT_35_58, LT_37_58, OT_37_58, LT_41_58, OT_41_58, LT_42_122, OT_42_122, LT_43_60, OT_43_60, LT_44_26, OT_44_26, LT_45_26, OT_45_26, LT_46_26, OT_46_26, LT_47_26, OT_47_26, LT_48_122, OT_48_122, LT_49_58, OT_49_58, LT_50_58, OT_50_58, LT_51_58, OT_51_58, LT_52_58, OT_52_58, LT_53_26, OT_53_26, LT_54_26, OT_54_26, LT_61_26, OT_61_26, LT_62_26, OT_62_26, LT_63_122, OT_63_122, LT_64_58, OT_64_58, LT_65_58, OT_65_58⟩
end Go.Proofs.Ytpfcdafpfgcjlaa
