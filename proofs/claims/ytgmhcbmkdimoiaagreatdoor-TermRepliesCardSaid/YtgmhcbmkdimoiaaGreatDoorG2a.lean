/-
  Runs of the evaluator, by the kernel. No conditions.
-/
import Derived.Test.YtgmhcbmkdimoiaaGreatDoorTb
set_option maxRecDepth 1000000
namespace Go.Am
section
variable (v4 v5 v6 v7 v8 v9 : AVal) (vL : Nat → List AVal) (vf : Nat → AVal)
theorem g2_0_n_n : Run3 F 2 (mkD 0 .n .n (.tok 34) (.tok 35) (.tok 36) v4 v5 v6 v7 v8 v9 vL vf) (post 2 (mkD 0 .n .n (.tok 34) (.tok 35) (.tok 36) v4 v5 v6 v7 v8 v9 vL vf)) (sg (sgl 2 .n)) = ((AVal.tup [] = AVal.tup []) ∧ ChkR (Ts (sg (sgl 2 .n)) (post 2 (mkD 0 .n .n (.tok 34) (.tok 35) (.tok 36) v4 v5 v6 v7 v8 v9 vL vf))))  := by kernel_rfl
theorem g2_0_n_o : Run3 F 2 (mkD 0 .n .o (.tok 34) (.tok 35) (.tok 36) v4 v5 v6 v7 v8 v9 vL vf) (post 2 (mkD 0 .n .o (.tok 34) (.tok 35) (.tok 36) v4 v5 v6 v7 v8 v9 vL vf)) (sg (sgl 2 .n)) = ((AVal.tup [] = AVal.tup []) ∧ ChkR (Ts (sg (sgl 2 .n)) (post 2 (mkD 0 .n .o (.tok 34) (.tok 35) (.tok 36) v4 v5 v6 v7 v8 v9 vL vf))))  := by kernel_rfl
theorem g2_0_a_n : Run3 F 2 (mkD 0 .a .n (.tok 34) (.tok 35) (.tok 36) v4 v5 v6 v7 v8 v9 vL vf) (post 2 (mkD 0 .a .n (.tok 34) (.tok 35) (.tok 36) v4 v5 v6 v7 v8 v9 vL vf)) (sg (sgl 2 .a)) = ((AVal.tup [] = AVal.tup []) ∧ ChkR (Ts (sg (sgl 2 .a)) (post 2 (mkD 0 .a .n (.tok 34) (.tok 35) (.tok 36) v4 v5 v6 v7 v8 v9 vL vf))))  := by kernel_rfl
theorem g2_0_a_o : Run3 F 2 (mkD 0 .a .o (.tok 34) (.tok 35) (.tok 36) v4 v5 v6 v7 v8 v9 vL vf) (post 2 (mkD 0 .a .o (.tok 34) (.tok 35) (.tok 36) v4 v5 v6 v7 v8 v9 vL vf)) (sg (sgl 2 .a)) = ((AVal.tup [] = AVal.tup []) ∧ ChkR (Ts (sg (sgl 2 .a)) (post 2 (mkD 0 .a .o (.tok 34) (.tok 35) (.tok 36) v4 v5 v6 v7 v8 v9 vL vf))))  := by kernel_rfl
theorem g2_0_b_n : Run3 F 2 (mkD 0 .b .n (.tok 34) (.tok 35) (.tok 36) v4 v5 v6 v7 v8 v9 vL vf) (post 2 (mkD 0 .b .n (.tok 34) (.tok 35) (.tok 36) v4 v5 v6 v7 v8 v9 vL vf)) (sg (sgl 2 .b)) = ((AVal.tup [] = AVal.tup []) ∧ ChkR (Ts (sg (sgl 2 .b)) (post 2 (mkD 0 .b .n (.tok 34) (.tok 35) (.tok 36) v4 v5 v6 v7 v8 v9 vL vf))))  := by kernel_rfl
theorem g2_0_b_o : Run3 F 2 (mkD 0 .b .o (.tok 34) (.tok 35) (.tok 36) v4 v5 v6 v7 v8 v9 vL vf) (post 2 (mkD 0 .b .o (.tok 34) (.tok 35) (.tok 36) v4 v5 v6 v7 v8 v9 vL vf)) (sg (sgl 2 .b)) = ((AVal.tup [] = AVal.tup []) ∧ ChkR (Ts (sg (sgl 2 .b)) (post 2 (mkD 0 .b .o (.tok 34) (.tok 35) (.tok 36) v4 v5 v6 v7 v8 v9 vL vf))))  := by kernel_rfl
theorem g2_1_n_n : Run3 F 2 (mkD 1 .n .n (.tok 34) (.tok 35) (.tok 36) v4 v5 v6 v7 v8 v9 vL vf) (post 2 (mkD 1 .n .n (.tok 34) (.tok 35) (.tok 36) v4 v5 v6 v7 v8 v9 vL vf)) (sg (sgl 2 .n)) = ((AVal.tup [] = AVal.tup []) ∧ ChkR (Ts (sg (sgl 2 .n)) (post 2 (mkD 1 .n .n (.tok 34) (.tok 35) (.tok 36) v4 v5 v6 v7 v8 v9 vL vf))))  := by kernel_rfl
theorem g2_1_n_o : Run3 F 2 (mkD 1 .n .o (.tok 34) (.tok 35) (.tok 36) v4 v5 v6 v7 v8 v9 vL vf) (post 2 (mkD 1 .n .o (.tok 34) (.tok 35) (.tok 36) v4 v5 v6 v7 v8 v9 vL vf)) (sg (sgl 2 .n)) = ((AVal.tup [] = AVal.tup []) ∧ ChkR (Ts (sg (sgl 2 .n)) (post 2 (mkD 1 .n .o (.tok 34) (.tok 35) (.tok 36) v4 v5 v6 v7 v8 v9 vL vf))))  := by kernel_rfl
theorem g2_1_a_n : Run3 F 2 (mkD 1 .a .n (.tok 34) (.tok 35) (.tok 36) v4 v5 v6 v7 v8 v9 vL vf) (post 2 (mkD 1 .a .n (.tok 34) (.tok 35) (.tok 36) v4 v5 v6 v7 v8 v9 vL vf)) (sg (sgl 2 .a)) = ((AVal.tup [] = AVal.tup []) ∧ ChkR (Ts (sg (sgl 2 .a)) (post 2 (mkD 1 .a .n (.tok 34) (.tok 35) (.tok 36) v4 v5 v6 v7 v8 v9 vL vf))))  := by kernel_rfl
theorem g2_1_a_o : Run3 F 2 (mkD 1 .a .o (.tok 34) (.tok 35) (.tok 36) v4 v5 v6 v7 v8 v9 vL vf) (post 2 (mkD 1 .a .o (.tok 34) (.tok 35) (.tok 36) v4 v5 v6 v7 v8 v9 vL vf)) (sg (sgl 2 .a)) = ((AVal.tup [] = AVal.tup []) ∧ ChkR (Ts (sg (sgl 2 .a)) (post 2 (mkD 1 .a .o (.tok 34) (.tok 35) (.tok 36) v4 v5 v6 v7 v8 v9 vL vf))))  := by kernel_rfl
theorem g2_1_b_n : Run3 F 2 (mkD 1 .b .n (.tok 34) (.tok 35) (.tok 36) v4 v5 v6 v7 v8 v9 vL vf) (post 2 (mkD 1 .b .n (.tok 34) (.tok 35) (.tok 36) v4 v5 v6 v7 v8 v9 vL vf)) (sg (sgl 2 .b)) = ((AVal.tup [] = AVal.tup []) ∧ ChkR (Ts (sg (sgl 2 .b)) (post 2 (mkD 1 .b .n (.tok 34) (.tok 35) (.tok 36) v4 v5 v6 v7 v8 v9 vL vf))))  := by kernel_rfl
theorem g2_1_b_o : Run3 F 2 (mkD 1 .b .o (.tok 34) (.tok 35) (.tok 36) v4 v5 v6 v7 v8 v9 vL vf) (post 2 (mkD 1 .b .o (.tok 34) (.tok 35) (.tok 36) v4 v5 v6 v7 v8 v9 vL vf)) (sg (sgl 2 .b)) = ((AVal.tup [] = AVal.tup []) ∧ ChkR (Ts (sg (sgl 2 .b)) (post 2 (mkD 1 .b .o (.tok 34) (.tok 35) (.tok 36) v4 v5 v6 v7 v8 v9 vL vf))))  := by kernel_rfl
end
end Go.Am
