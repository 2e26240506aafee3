/-
  All rounds together. No conditions.
-/
import Derived.Test.YtgmhcbmkdimoiaaGreatDoorRt0
import Derived.Test.YtgmhcbmkdimoiaaGreatDoorG0
import Derived.Test.YtgmhcbmkdimoiaaGreatDoorG1
import Derived.Test.YtgmhcbmkdimoiaaGreatDoorG2a
import Derived.Test.YtgmhcbmkdimoiaaGreatDoorG2b
import Derived.Test.YtgmhcbmkdimoiaaGreatDoorG2c
import Derived.Test.YtgmhcbmkdimoiaaGreatDoorG2d
import Derived.Test.YtgmhcbmkdimoiaaGreatDoorX0
import Derived.Test.YtgmhcbmkdimoiaaGreatDoorX1
import Derived.Test.YtgmhcbmkdimoiaaGreatDoorX2
set_option maxRecDepth 1000000
namespace Go.Am
theorem h0_0 (v4 v5 v6 v7 v8 v9 : AVal) (vL : Nat → List AVal) (vf : Nat → AVal) (pv : PV) (rp : RV) (hr : rp = .n ∨ rp = .o) : Run3 F 0 (mkD 0 pv rp (.tok 34) (.tok 35) (.tok 36) v4 v5 v6 v7 v8 v9 vL vf) (post 0 (mkD 0 pv rp (.tok 34) (.tok 35) (.tok 36) v4 v5 v6 v7 v8 v9 vL vf)) (sg (sgl 0 pv)) = ((AVal.tup [] = AVal.tup []) ∧ ChkR (Ts (sg (sgl 0 pv)) (post 0 (mkD 0 pv rp (.tok 34) (.tok 35) (.tok 36) v4 v5 v6 v7 v8 v9 vL vf)))) := by
  rcases hr with rfl | rfl
  · cases pv
    · exact g0_0_n_n v4 v5 v6 v7 v8 v9 vL vf
    · exact g0_0_a_n v4 v5 v6 v7 v8 v9 vL vf
    · exact g0_0_b_n v4 v5 v6 v7 v8 v9 vL vf
  · cases pv
    · exact g0_0_n_o v4 v5 v6 v7 v8 v9 vL vf
    · exact g0_0_a_o v4 v5 v6 v7 v8 v9 vL vf
    · exact g0_0_b_o v4 v5 v6 v7 v8 v9 vL vf
theorem h0_1 (v4 v5 v6 v7 v8 v9 : AVal) (vL : Nat → List AVal) (vf : Nat → AVal) (pv : PV) (rp : RV) (hr : rp = .n ∨ rp = .o) : Run3 F 0 (mkD 1 pv rp (.tok 34) (.tok 35) (.tok 36) v4 v5 v6 v7 v8 v9 vL vf) (post 0 (mkD 1 pv rp (.tok 34) (.tok 35) (.tok 36) v4 v5 v6 v7 v8 v9 vL vf)) (sg (sgl 0 pv)) = ((AVal.tup [] = AVal.tup []) ∧ ChkR (Ts (sg (sgl 0 pv)) (post 0 (mkD 1 pv rp (.tok 34) (.tok 35) (.tok 36) v4 v5 v6 v7 v8 v9 vL vf)))) := by
  rcases hr with rfl | rfl
  · cases pv
    · exact g0_1_n_n v4 v5 v6 v7 v8 v9 vL vf
    · exact g0_1_a_n v4 v5 v6 v7 v8 v9 vL vf
    · exact g0_1_b_n v4 v5 v6 v7 v8 v9 vL vf
  · cases pv
    · exact g0_1_n_o v4 v5 v6 v7 v8 v9 vL vf
    · exact g0_1_a_o v4 v5 v6 v7 v8 v9 vL vf
    · exact g0_1_b_o v4 v5 v6 v7 v8 v9 vL vf
theorem h0_2 (v4 v5 v6 v7 v8 v9 : AVal) (vL : Nat → List AVal) (vf : Nat → AVal) (pv : PV) (rp : RV) (hr : rp = .n ∨ rp = .o) : Run3 F 0 (mkD 2 pv rp (.tok 34) (.tok 35) (.tok 36) v4 v5 v6 v7 v8 v9 vL vf) (post 0 (mkD 2 pv rp (.tok 34) (.tok 35) (.tok 36) v4 v5 v6 v7 v8 v9 vL vf)) (sg (sgl 0 pv)) = ((AVal.tup [] = AVal.tup []) ∧ ChkR (Ts (sg (sgl 0 pv)) (post 0 (mkD 2 pv rp (.tok 34) (.tok 35) (.tok 36) v4 v5 v6 v7 v8 v9 vL vf)))) := by
  rcases hr with rfl | rfl
  · cases pv
    · exact g0_2_n_n v4 v5 v6 v7 v8 v9 vL vf
    · exact g0_2_a_n v4 v5 v6 v7 v8 v9 vL vf
    · exact g0_2_b_n v4 v5 v6 v7 v8 v9 vL vf
  · cases pv
    · exact g0_2_n_o v4 v5 v6 v7 v8 v9 vL vf
    · exact g0_2_a_o v4 v5 v6 v7 v8 v9 vL vf
    · exact g0_2_b_o v4 v5 v6 v7 v8 v9 vL vf
theorem h0_3 (v4 v5 v6 v7 v8 v9 : AVal) (vL : Nat → List AVal) (vf : Nat → AVal) (pv : PV) (rp : RV) (hr : rp = .n ∨ rp = .o) : Run3 F 0 (mkD 3 pv rp (.tok 34) (.tok 35) (.tok 36) v4 v5 v6 v7 v8 v9 vL vf) (post 0 (mkD 3 pv rp (.tok 34) (.tok 35) (.tok 36) v4 v5 v6 v7 v8 v9 vL vf)) (sg (sgl 0 pv)) = ((AVal.tup [] = AVal.tup []) ∧ ChkR (Ts (sg (sgl 0 pv)) (post 0 (mkD 3 pv rp (.tok 34) (.tok 35) (.tok 36) v4 v5 v6 v7 v8 v9 vL vf)))) := by
  rcases hr with rfl | rfl
  · cases pv
    · exact g0_3_n_n v4 v5 v6 v7 v8 v9 vL vf
    · exact g0_3_a_n v4 v5 v6 v7 v8 v9 vL vf
    · exact g0_3_b_n v4 v5 v6 v7 v8 v9 vL vf
  · cases pv
    · exact g0_3_n_o v4 v5 v6 v7 v8 v9 vL vf
    · exact g0_3_a_o v4 v5 v6 v7 v8 v9 vL vf
    · exact g0_3_b_o v4 v5 v6 v7 v8 v9 vL vf
theorem h0_4 (v4 v5 v6 v7 v8 v9 : AVal) (vL : Nat → List AVal) (vf : Nat → AVal) (pv : PV) (rp : RV) (hr : rp = .n ∨ rp = .o) : Run3 F 0 (mkD 4 pv rp (.tok 34) (.tok 35) (.tok 36) v4 v5 v6 v7 v8 v9 vL vf) (post 0 (mkD 4 pv rp (.tok 34) (.tok 35) (.tok 36) v4 v5 v6 v7 v8 v9 vL vf)) (sg (sgl 0 pv)) = ((AVal.tup [] = AVal.tup []) ∧ ChkR (Ts (sg (sgl 0 pv)) (post 0 (mkD 4 pv rp (.tok 34) (.tok 35) (.tok 36) v4 v5 v6 v7 v8 v9 vL vf)))) := by
  rcases hr with rfl | rfl
  · cases pv
    · exact g0_4_n_n v4 v5 v6 v7 v8 v9 vL vf
    · exact g0_4_a_n v4 v5 v6 v7 v8 v9 vL vf
    · exact g0_4_b_n v4 v5 v6 v7 v8 v9 vL vf
  · cases pv
    · exact g0_4_n_o v4 v5 v6 v7 v8 v9 vL vf
    · exact g0_4_a_o v4 v5 v6 v7 v8 v9 vL vf
    · exact g0_4_b_o v4 v5 v6 v7 v8 v9 vL vf
theorem h0_5 (v4 v5 v6 v7 v8 v9 : AVal) (vL : Nat → List AVal) (vf : Nat → AVal) (pv : PV) (rp : RV) (hr : rp = .n ∨ rp = .o) : Run3 F 0 (mkD 5 pv rp (.tok 34) (.tok 35) (.tok 36) v4 v5 v6 v7 v8 v9 vL vf) (post 0 (mkD 5 pv rp (.tok 34) (.tok 35) (.tok 36) v4 v5 v6 v7 v8 v9 vL vf)) (sg (sgl 0 pv)) = ((AVal.tup [] = AVal.tup []) ∧ ChkR (Ts (sg (sgl 0 pv)) (post 0 (mkD 5 pv rp (.tok 34) (.tok 35) (.tok 36) v4 v5 v6 v7 v8 v9 vL vf)))) := by
  rcases hr with rfl | rfl
  · cases pv
    · exact g0_5_n_n v4 v5 v6 v7 v8 v9 vL vf
    · exact g0_5_a_n v4 v5 v6 v7 v8 v9 vL vf
    · exact g0_5_b_n v4 v5 v6 v7 v8 v9 vL vf
  · cases pv
    · exact g0_5_n_o v4 v5 v6 v7 v8 v9 vL vf
    · exact g0_5_a_o v4 v5 v6 v7 v8 v9 vL vf
    · exact g0_5_b_o v4 v5 v6 v7 v8 v9 vL vf
theorem h0_6 (v4 v5 v6 v7 v8 v9 : AVal) (vL : Nat → List AVal) (vf : Nat → AVal) (pv : PV) (rp : RV) (hr : rp = .n ∨ rp = .o) : Run3 F 0 (mkD 6 pv rp (.tok 34) (.tok 35) (.tok 36) v4 v5 v6 v7 v8 v9 vL vf) (post 0 (mkD 6 pv rp (.tok 34) (.tok 35) (.tok 36) v4 v5 v6 v7 v8 v9 vL vf)) (sg (sgl 0 pv)) = ((AVal.tup [] = AVal.tup []) ∧ ChkR (Ts (sg (sgl 0 pv)) (post 0 (mkD 6 pv rp (.tok 34) (.tok 35) (.tok 36) v4 v5 v6 v7 v8 v9 vL vf)))) := by
  rcases hr with rfl | rfl
  · cases pv
    · exact g0_6_n_n v4 v5 v6 v7 v8 v9 vL vf
    · exact g0_6_a_n v4 v5 v6 v7 v8 v9 vL vf
    · exact g0_6_b_n v4 v5 v6 v7 v8 v9 vL vf
  · cases pv
    · exact g0_6_n_o v4 v5 v6 v7 v8 v9 vL vf
    · exact g0_6_a_o v4 v5 v6 v7 v8 v9 vL vf
    · exact g0_6_b_o v4 v5 v6 v7 v8 v9 vL vf
theorem h0 (v4 v5 v6 v7 v8 v9 : AVal) (vL : Nat → List AVal) (vf : Nat → AVal) (pv : PV) (rp : RV) (hr : rp = .n ∨ rp = .o) (q : Nat) (hq : q < 7) : Run3 F 0 (mkD q pv rp (.tok 34) (.tok 35) (.tok 36) v4 v5 v6 v7 v8 v9 vL vf) (post 0 (mkD q pv rp (.tok 34) (.tok 35) (.tok 36) v4 v5 v6 v7 v8 v9 vL vf)) (sg (sgl 0 pv)) = ((AVal.tup [] = AVal.tup []) ∧ ChkR (Ts (sg (sgl 0 pv)) (post 0 (mkD q pv rp (.tok 34) (.tok 35) (.tok 36) v4 v5 v6 v7 v8 v9 vL vf)))) :=
  match q, hq with
  | 0, _ => h0_0 v4 v5 v6 v7 v8 v9 vL vf pv rp hr
  | 1, _ => h0_1 v4 v5 v6 v7 v8 v9 vL vf pv rp hr
  | 2, _ => h0_2 v4 v5 v6 v7 v8 v9 vL vf pv rp hr
  | 3, _ => h0_3 v4 v5 v6 v7 v8 v9 vL vf pv rp hr
  | 4, _ => h0_4 v4 v5 v6 v7 v8 v9 vL vf pv rp hr
  | 5, _ => h0_5 v4 v5 v6 v7 v8 v9 vL vf pv rp hr
  | 6, _ => h0_6 v4 v5 v6 v7 v8 v9 vL vf pv rp hr
  | n + 7, h => absurd h (by omega)
theorem h1_0 (v4 v5 v6 v7 v8 v9 : AVal) (vL : Nat → List AVal) (vf : Nat → AVal) (pv : PV) (rp : RV) (hr : rp = .n ∨ rp = .o) : Run3 F 1 (mkD 0 pv rp (.tok 34) (.tok 35) (.tok 36) v4 v5 v6 v7 v8 v9 vL vf) (post 1 (mkD 0 pv rp (.tok 34) (.tok 35) (.tok 36) v4 v5 v6 v7 v8 v9 vL vf)) (sg (sgl 1 pv)) = ((AVal.tup [] = AVal.tup []) ∧ ChkR (Ts (sg (sgl 1 pv)) (post 1 (mkD 0 pv rp (.tok 34) (.tok 35) (.tok 36) v4 v5 v6 v7 v8 v9 vL vf)))) := by
  rcases hr with rfl | rfl
  · cases pv
    · exact g1_0_n_n v4 v5 v6 v7 v8 v9 vL vf
    · exact g1_0_a_n v4 v5 v6 v7 v8 v9 vL vf
    · exact g1_0_b_n v4 v5 v6 v7 v8 v9 vL vf
  · cases pv
    · exact g1_0_n_o v4 v5 v6 v7 v8 v9 vL vf
    · exact g1_0_a_o v4 v5 v6 v7 v8 v9 vL vf
    · exact g1_0_b_o v4 v5 v6 v7 v8 v9 vL vf
theorem h1_1 (v4 v5 v6 v7 v8 v9 : AVal) (vL : Nat → List AVal) (vf : Nat → AVal) (pv : PV) (rp : RV) (hr : rp = .n ∨ rp = .o) : Run3 F 1 (mkD 1 pv rp (.tok 34) (.tok 35) (.tok 36) v4 v5 v6 v7 v8 v9 vL vf) (post 1 (mkD 1 pv rp (.tok 34) (.tok 35) (.tok 36) v4 v5 v6 v7 v8 v9 vL vf)) (sg (sgl 1 pv)) = ((AVal.tup [] = AVal.tup []) ∧ ChkR (Ts (sg (sgl 1 pv)) (post 1 (mkD 1 pv rp (.tok 34) (.tok 35) (.tok 36) v4 v5 v6 v7 v8 v9 vL vf)))) := by
  rcases hr with rfl | rfl
  · cases pv
    · exact g1_1_n_n v4 v5 v6 v7 v8 v9 vL vf
    · exact g1_1_a_n v4 v5 v6 v7 v8 v9 vL vf
    · exact g1_1_b_n v4 v5 v6 v7 v8 v9 vL vf
  · cases pv
    · exact g1_1_n_o v4 v5 v6 v7 v8 v9 vL vf
    · exact g1_1_a_o v4 v5 v6 v7 v8 v9 vL vf
    · exact g1_1_b_o v4 v5 v6 v7 v8 v9 vL vf
theorem h1_2 (v4 v5 v6 v7 v8 v9 : AVal) (vL : Nat → List AVal) (vf : Nat → AVal) (pv : PV) (rp : RV) (hr : rp = .n ∨ rp = .o) : Run3 F 1 (mkD 2 pv rp (.tok 34) (.tok 35) (.tok 36) v4 v5 v6 v7 v8 v9 vL vf) (post 1 (mkD 2 pv rp (.tok 34) (.tok 35) (.tok 36) v4 v5 v6 v7 v8 v9 vL vf)) (sg (sgl 1 pv)) = ((AVal.tup [] = AVal.tup []) ∧ ChkR (Ts (sg (sgl 1 pv)) (post 1 (mkD 2 pv rp (.tok 34) (.tok 35) (.tok 36) v4 v5 v6 v7 v8 v9 vL vf)))) := by
  rcases hr with rfl | rfl
  · cases pv
    · exact g1_2_n_n v4 v5 v6 v7 v8 v9 vL vf
    · exact g1_2_a_n v4 v5 v6 v7 v8 v9 vL vf
    · exact g1_2_b_n v4 v5 v6 v7 v8 v9 vL vf
  · cases pv
    · exact g1_2_n_o v4 v5 v6 v7 v8 v9 vL vf
    · exact g1_2_a_o v4 v5 v6 v7 v8 v9 vL vf
    · exact g1_2_b_o v4 v5 v6 v7 v8 v9 vL vf
theorem h1_3 (v4 v5 v6 v7 v8 v9 : AVal) (vL : Nat → List AVal) (vf : Nat → AVal) (pv : PV) (rp : RV) (hr : rp = .n ∨ rp = .o) : Run3 F 1 (mkD 3 pv rp (.tok 34) (.tok 35) (.tok 36) v4 v5 v6 v7 v8 v9 vL vf) (post 1 (mkD 3 pv rp (.tok 34) (.tok 35) (.tok 36) v4 v5 v6 v7 v8 v9 vL vf)) (sg (sgl 1 pv)) = ((AVal.tup [] = AVal.tup []) ∧ ChkR (Ts (sg (sgl 1 pv)) (post 1 (mkD 3 pv rp (.tok 34) (.tok 35) (.tok 36) v4 v5 v6 v7 v8 v9 vL vf)))) := by
  rcases hr with rfl | rfl
  · cases pv
    · exact g1_3_n_n v4 v5 v6 v7 v8 v9 vL vf
    · exact g1_3_a_n v4 v5 v6 v7 v8 v9 vL vf
    · exact g1_3_b_n v4 v5 v6 v7 v8 v9 vL vf
  · cases pv
    · exact g1_3_n_o v4 v5 v6 v7 v8 v9 vL vf
    · exact g1_3_a_o v4 v5 v6 v7 v8 v9 vL vf
    · exact g1_3_b_o v4 v5 v6 v7 v8 v9 vL vf
theorem h1_4 (v4 v5 v6 v7 v8 v9 : AVal) (vL : Nat → List AVal) (vf : Nat → AVal) (pv : PV) (rp : RV) (hr : rp = .n ∨ rp = .o) : Run3 F 1 (mkD 4 pv rp (.tok 34) (.tok 35) (.tok 36) v4 v5 v6 v7 v8 v9 vL vf) (post 1 (mkD 4 pv rp (.tok 34) (.tok 35) (.tok 36) v4 v5 v6 v7 v8 v9 vL vf)) (sg (sgl 1 pv)) = ((AVal.tup [] = AVal.tup []) ∧ ChkR (Ts (sg (sgl 1 pv)) (post 1 (mkD 4 pv rp (.tok 34) (.tok 35) (.tok 36) v4 v5 v6 v7 v8 v9 vL vf)))) := by
  rcases hr with rfl | rfl
  · cases pv
    · exact g1_4_n_n v4 v5 v6 v7 v8 v9 vL vf
    · exact g1_4_a_n v4 v5 v6 v7 v8 v9 vL vf
    · exact g1_4_b_n v4 v5 v6 v7 v8 v9 vL vf
  · cases pv
    · exact g1_4_n_o v4 v5 v6 v7 v8 v9 vL vf
    · exact g1_4_a_o v4 v5 v6 v7 v8 v9 vL vf
    · exact g1_4_b_o v4 v5 v6 v7 v8 v9 vL vf
theorem h1_5 (v4 v5 v6 v7 v8 v9 : AVal) (vL : Nat → List AVal) (vf : Nat → AVal) (pv : PV) (rp : RV) (hr : rp = .n ∨ rp = .o) : Run3 F 1 (mkD 5 pv rp (.tok 34) (.tok 35) (.tok 36) v4 v5 v6 v7 v8 v9 vL vf) (post 1 (mkD 5 pv rp (.tok 34) (.tok 35) (.tok 36) v4 v5 v6 v7 v8 v9 vL vf)) (sg (sgl 1 pv)) = ((AVal.tup [] = AVal.tup []) ∧ ChkR (Ts (sg (sgl 1 pv)) (post 1 (mkD 5 pv rp (.tok 34) (.tok 35) (.tok 36) v4 v5 v6 v7 v8 v9 vL vf)))) := by
  rcases hr with rfl | rfl
  · cases pv
    · exact g1_5_n_n v4 v5 v6 v7 v8 v9 vL vf
    · exact g1_5_a_n v4 v5 v6 v7 v8 v9 vL vf
    · exact g1_5_b_n v4 v5 v6 v7 v8 v9 vL vf
  · cases pv
    · exact g1_5_n_o v4 v5 v6 v7 v8 v9 vL vf
    · exact g1_5_a_o v4 v5 v6 v7 v8 v9 vL vf
    · exact g1_5_b_o v4 v5 v6 v7 v8 v9 vL vf
theorem h1_6 (v4 v5 v6 v7 v8 v9 : AVal) (vL : Nat → List AVal) (vf : Nat → AVal) (pv : PV) (rp : RV) (hr : rp = .n ∨ rp = .o) : Run3 F 1 (mkD 6 pv rp (.tok 34) (.tok 35) (.tok 36) v4 v5 v6 v7 v8 v9 vL vf) (post 1 (mkD 6 pv rp (.tok 34) (.tok 35) (.tok 36) v4 v5 v6 v7 v8 v9 vL vf)) (sg (sgl 1 pv)) = ((AVal.tup [] = AVal.tup []) ∧ ChkR (Ts (sg (sgl 1 pv)) (post 1 (mkD 6 pv rp (.tok 34) (.tok 35) (.tok 36) v4 v5 v6 v7 v8 v9 vL vf)))) := by
  rcases hr with rfl | rfl
  · cases pv
    · exact g1_6_n_n v4 v5 v6 v7 v8 v9 vL vf
    · exact g1_6_a_n v4 v5 v6 v7 v8 v9 vL vf
    · exact g1_6_b_n v4 v5 v6 v7 v8 v9 vL vf
  · cases pv
    · exact g1_6_n_o v4 v5 v6 v7 v8 v9 vL vf
    · exact g1_6_a_o v4 v5 v6 v7 v8 v9 vL vf
    · exact g1_6_b_o v4 v5 v6 v7 v8 v9 vL vf
theorem h1 (v4 v5 v6 v7 v8 v9 : AVal) (vL : Nat → List AVal) (vf : Nat → AVal) (pv : PV) (rp : RV) (hr : rp = .n ∨ rp = .o) (q : Nat) (hq : q < 7) : Run3 F 1 (mkD q pv rp (.tok 34) (.tok 35) (.tok 36) v4 v5 v6 v7 v8 v9 vL vf) (post 1 (mkD q pv rp (.tok 34) (.tok 35) (.tok 36) v4 v5 v6 v7 v8 v9 vL vf)) (sg (sgl 1 pv)) = ((AVal.tup [] = AVal.tup []) ∧ ChkR (Ts (sg (sgl 1 pv)) (post 1 (mkD q pv rp (.tok 34) (.tok 35) (.tok 36) v4 v5 v6 v7 v8 v9 vL vf)))) :=
  match q, hq with
  | 0, _ => h1_0 v4 v5 v6 v7 v8 v9 vL vf pv rp hr
  | 1, _ => h1_1 v4 v5 v6 v7 v8 v9 vL vf pv rp hr
  | 2, _ => h1_2 v4 v5 v6 v7 v8 v9 vL vf pv rp hr
  | 3, _ => h1_3 v4 v5 v6 v7 v8 v9 vL vf pv rp hr
  | 4, _ => h1_4 v4 v5 v6 v7 v8 v9 vL vf pv rp hr
  | 5, _ => h1_5 v4 v5 v6 v7 v8 v9 vL vf pv rp hr
  | 6, _ => h1_6 v4 v5 v6 v7 v8 v9 vL vf pv rp hr
  | n + 7, h => absurd h (by omega)
theorem h2_0 (v4 v5 v6 v7 v8 v9 : AVal) (vL : Nat → List AVal) (vf : Nat → AVal) (pv : PV) (rp : RV) (hr : rp = .n ∨ rp = .o) : Run3 F 2 (mkD 0 pv rp (.tok 34) (.tok 35) (.tok 36) v4 v5 v6 v7 v8 v9 vL vf) (post 2 (mkD 0 pv rp (.tok 34) (.tok 35) (.tok 36) v4 v5 v6 v7 v8 v9 vL vf)) (sg (sgl 2 pv)) = ((AVal.tup [] = AVal.tup []) ∧ ChkR (Ts (sg (sgl 2 pv)) (post 2 (mkD 0 pv rp (.tok 34) (.tok 35) (.tok 36) v4 v5 v6 v7 v8 v9 vL vf)))) := by
  rcases hr with rfl | rfl
  · cases pv
    · exact g2_0_n_n v4 v5 v6 v7 v8 v9 vL vf
    · exact g2_0_a_n v4 v5 v6 v7 v8 v9 vL vf
    · exact g2_0_b_n v4 v5 v6 v7 v8 v9 vL vf
  · cases pv
    · exact g2_0_n_o v4 v5 v6 v7 v8 v9 vL vf
    · exact g2_0_a_o v4 v5 v6 v7 v8 v9 vL vf
    · exact g2_0_b_o v4 v5 v6 v7 v8 v9 vL vf
theorem h2_1 (v4 v5 v6 v7 v8 v9 : AVal) (vL : Nat → List AVal) (vf : Nat → AVal) (pv : PV) (rp : RV) (hr : rp = .n ∨ rp = .o) : Run3 F 2 (mkD 1 pv rp (.tok 34) (.tok 35) (.tok 36) v4 v5 v6 v7 v8 v9 vL vf) (post 2 (mkD 1 pv rp (.tok 34) (.tok 35) (.tok 36) v4 v5 v6 v7 v8 v9 vL vf)) (sg (sgl 2 pv)) = ((AVal.tup [] = AVal.tup []) ∧ ChkR (Ts (sg (sgl 2 pv)) (post 2 (mkD 1 pv rp (.tok 34) (.tok 35) (.tok 36) v4 v5 v6 v7 v8 v9 vL vf)))) := by
  rcases hr with rfl | rfl
  · cases pv
    · exact g2_1_n_n v4 v5 v6 v7 v8 v9 vL vf
    · exact g2_1_a_n v4 v5 v6 v7 v8 v9 vL vf
    · exact g2_1_b_n v4 v5 v6 v7 v8 v9 vL vf
  · cases pv
    · exact g2_1_n_o v4 v5 v6 v7 v8 v9 vL vf
    · exact g2_1_a_o v4 v5 v6 v7 v8 v9 vL vf
    · exact g2_1_b_o v4 v5 v6 v7 v8 v9 vL vf
theorem h2_2 (v4 v5 v6 v7 v8 v9 : AVal) (vL : Nat → List AVal) (vf : Nat → AVal) (pv : PV) (rp : RV) (hr : rp = .n ∨ rp = .o) : Run3 F 2 (mkD 2 pv rp (.tok 34) (.tok 35) (.tok 36) v4 v5 v6 v7 v8 v9 vL vf) (post 2 (mkD 2 pv rp (.tok 34) (.tok 35) (.tok 36) v4 v5 v6 v7 v8 v9 vL vf)) (sg (sgl 2 pv)) = ((AVal.tup [] = AVal.tup []) ∧ ChkR (Ts (sg (sgl 2 pv)) (post 2 (mkD 2 pv rp (.tok 34) (.tok 35) (.tok 36) v4 v5 v6 v7 v8 v9 vL vf)))) := by
  rcases hr with rfl | rfl
  · cases pv
    · exact g2_2_n_n v4 v5 v6 v7 v8 v9 vL vf
    · exact g2_2_a_n v4 v5 v6 v7 v8 v9 vL vf
    · exact g2_2_b_n v4 v5 v6 v7 v8 v9 vL vf
  · cases pv
    · exact g2_2_n_o v4 v5 v6 v7 v8 v9 vL vf
    · exact g2_2_a_o v4 v5 v6 v7 v8 v9 vL vf
    · exact g2_2_b_o v4 v5 v6 v7 v8 v9 vL vf
theorem h2_3 (v4 v5 v6 v7 v8 v9 : AVal) (vL : Nat → List AVal) (vf : Nat → AVal) (pv : PV) (rp : RV) (hr : rp = .n ∨ rp = .o) : Run3 F 2 (mkD 3 pv rp (.tok 34) (.tok 35) (.tok 36) v4 v5 v6 v7 v8 v9 vL vf) (post 2 (mkD 3 pv rp (.tok 34) (.tok 35) (.tok 36) v4 v5 v6 v7 v8 v9 vL vf)) (sg (sgl 2 pv)) = ((AVal.tup [] = AVal.tup []) ∧ ChkR (Ts (sg (sgl 2 pv)) (post 2 (mkD 3 pv rp (.tok 34) (.tok 35) (.tok 36) v4 v5 v6 v7 v8 v9 vL vf)))) := by
  rcases hr with rfl | rfl
  · cases pv
    · exact g2_3_n_n v4 v5 v6 v7 v8 v9 vL vf
    · exact g2_3_a_n v4 v5 v6 v7 v8 v9 vL vf
    · exact g2_3_b_n v4 v5 v6 v7 v8 v9 vL vf
  · cases pv
    · exact g2_3_n_o v4 v5 v6 v7 v8 v9 vL vf
    · exact g2_3_a_o v4 v5 v6 v7 v8 v9 vL vf
    · exact g2_3_b_o v4 v5 v6 v7 v8 v9 vL vf
theorem h2_4 (v4 v5 v6 v7 v8 v9 : AVal) (vL : Nat → List AVal) (vf : Nat → AVal) (pv : PV) (rp : RV) (hr : rp = .n ∨ rp = .o) : Run3 F 2 (mkD 4 pv rp (.tok 34) (.tok 35) (.tok 36) v4 v5 v6 v7 v8 v9 vL vf) (post 2 (mkD 4 pv rp (.tok 34) (.tok 35) (.tok 36) v4 v5 v6 v7 v8 v9 vL vf)) (sg (sgl 2 pv)) = ((AVal.tup [] = AVal.tup []) ∧ ChkR (Ts (sg (sgl 2 pv)) (post 2 (mkD 4 pv rp (.tok 34) (.tok 35) (.tok 36) v4 v5 v6 v7 v8 v9 vL vf)))) := by
  rcases hr with rfl | rfl
  · cases pv
    · exact g2_4_n_n v4 v5 v6 v7 v8 v9 vL vf
    · exact g2_4_a_n v4 v5 v6 v7 v8 v9 vL vf
    · exact g2_4_b_n v4 v5 v6 v7 v8 v9 vL vf
  · cases pv
    · exact g2_4_n_o v4 v5 v6 v7 v8 v9 vL vf
    · exact g2_4_a_o v4 v5 v6 v7 v8 v9 vL vf
    · exact g2_4_b_o v4 v5 v6 v7 v8 v9 vL vf
theorem h2_5 (v4 v5 v6 v7 v8 v9 : AVal) (vL : Nat → List AVal) (vf : Nat → AVal) (pv : PV) (rp : RV) (hr : rp = .n ∨ rp = .o) : Run3 F 2 (mkD 5 pv rp (.tok 34) (.tok 35) (.tok 36) v4 v5 v6 v7 v8 v9 vL vf) (post 2 (mkD 5 pv rp (.tok 34) (.tok 35) (.tok 36) v4 v5 v6 v7 v8 v9 vL vf)) (sg (sgl 2 pv)) = ((AVal.tup [] = AVal.tup []) ∧ ChkR (Ts (sg (sgl 2 pv)) (post 2 (mkD 5 pv rp (.tok 34) (.tok 35) (.tok 36) v4 v5 v6 v7 v8 v9 vL vf)))) := by
  rcases hr with rfl | rfl
  · cases pv
    · exact g2_5_n_n v4 v5 v6 v7 v8 v9 vL vf
    · exact g2_5_a_n v4 v5 v6 v7 v8 v9 vL vf
    · exact g2_5_b_n v4 v5 v6 v7 v8 v9 vL vf
  · cases pv
    · exact g2_5_n_o v4 v5 v6 v7 v8 v9 vL vf
    · exact g2_5_a_o v4 v5 v6 v7 v8 v9 vL vf
    · exact g2_5_b_o v4 v5 v6 v7 v8 v9 vL vf
theorem h2_6 (v4 v5 v6 v7 v8 v9 : AVal) (vL : Nat → List AVal) (vf : Nat → AVal) (pv : PV) (rp : RV) (hr : rp = .n ∨ rp = .o) : Run3 F 2 (mkD 6 pv rp (.tok 34) (.tok 35) (.tok 36) v4 v5 v6 v7 v8 v9 vL vf) (post 2 (mkD 6 pv rp (.tok 34) (.tok 35) (.tok 36) v4 v5 v6 v7 v8 v9 vL vf)) (sg (sgl 2 pv)) = ((AVal.tup [] = AVal.tup []) ∧ ChkR (Ts (sg (sgl 2 pv)) (post 2 (mkD 6 pv rp (.tok 34) (.tok 35) (.tok 36) v4 v5 v6 v7 v8 v9 vL vf)))) := by
  rcases hr with rfl | rfl
  · cases pv
    · exact g2_6_n_n v4 v5 v6 v7 v8 v9 vL vf
    · exact g2_6_a_n v4 v5 v6 v7 v8 v9 vL vf
    · exact g2_6_b_n v4 v5 v6 v7 v8 v9 vL vf
  · cases pv
    · exact g2_6_n_o v4 v5 v6 v7 v8 v9 vL vf
    · exact g2_6_a_o v4 v5 v6 v7 v8 v9 vL vf
    · exact g2_6_b_o v4 v5 v6 v7 v8 v9 vL vf
theorem h2 (v4 v5 v6 v7 v8 v9 : AVal) (vL : Nat → List AVal) (vf : Nat → AVal) (pv : PV) (rp : RV) (hr : rp = .n ∨ rp = .o) (q : Nat) (hq : q < 7) : Run3 F 2 (mkD q pv rp (.tok 34) (.tok 35) (.tok 36) v4 v5 v6 v7 v8 v9 vL vf) (post 2 (mkD q pv rp (.tok 34) (.tok 35) (.tok 36) v4 v5 v6 v7 v8 v9 vL vf)) (sg (sgl 2 pv)) = ((AVal.tup [] = AVal.tup []) ∧ ChkR (Ts (sg (sgl 2 pv)) (post 2 (mkD q pv rp (.tok 34) (.tok 35) (.tok 36) v4 v5 v6 v7 v8 v9 vL vf)))) :=
  match q, hq with
  | 0, _ => h2_0 v4 v5 v6 v7 v8 v9 vL vf pv rp hr
  | 1, _ => h2_1 v4 v5 v6 v7 v8 v9 vL vf pv rp hr
  | 2, _ => h2_2 v4 v5 v6 v7 v8 v9 vL vf pv rp hr
  | 3, _ => h2_3 v4 v5 v6 v7 v8 v9 vL vf pv rp hr
  | 4, _ => h2_4 v4 v5 v6 v7 v8 v9 vL vf pv rp hr
  | 5, _ => h2_5 v4 v5 v6 v7 v8 v9 vL vf pv rp hr
  | 6, _ => h2_6 v4 v5 v6 v7 v8 v9 vL vf pv rp hr
  | n + 7, h => absurd h (by omega)
theorem hrun (v4 v5 v6 v7 v8 v9 : AVal) (vL : Nat → List AVal) (vf : Nat → AVal) (pv : PV) (rp : RV) (hr : rp = .n ∨ rp = .o) (q : Nat) (hq : q < 7) (c : Nat) (hc : c < 3) : Run3 F c (mkD q pv rp (.tok 34) (.tok 35) (.tok 36) v4 v5 v6 v7 v8 v9 vL vf) (post c (mkD q pv rp (.tok 34) (.tok 35) (.tok 36) v4 v5 v6 v7 v8 v9 vL vf)) (sg (sgl c pv)) = ((AVal.tup [] = AVal.tup []) ∧ ChkR (Ts (sg (sgl c pv)) (post c (mkD q pv rp (.tok 34) (.tok 35) (.tok 36) v4 v5 v6 v7 v8 v9 vL vf)))) :=
  match c, hc with
  | 0, _ => h0 v4 v5 v6 v7 v8 v9 vL vf pv rp hr q hq
  | 1, _ => h1 v4 v5 v6 v7 v8 v9 vL vf pv rp hr q hq
  | 2, _ => h2 v4 v5 v6 v7 v8 v9 vL vf pv rp hr q hq
  | n + 3, h => absurd h (by omega)
theorem y0 (v5 v6 v7 v8 v9 : AVal) (pv : PV) (vf : Nat → AVal) (rp : RV) (hr : rp = .n ∨ rp = .o) : ∃ l, good l = true ∧ Run3 F 3 (xd (xr 0) pv rp v5 v6 v7 v8 v9 vf) (xd (xr 1) pv rp (b8 128) (b8 191) v7 v8 say39 vf) (sg l) = ((AVal.tup [] = AVal.tup []) ∧ ChkR (Ts (sg l) (xd (xr 1) pv rp (b8 128) (b8 191) v7 v8 say39 vf))) :=
  ⟨[(18, 198)], by kernel_rfl, match rp, hr with | _, .inl rfl => x0_n v5 v6 v7 v8 v9 pv vf | _, .inr rfl => x0_o v5 v6 v7 v8 v9 pv vf⟩
theorem y1 (v5 v6 v7 v8 v9 : AVal) (pv : PV) (vf : Nat → AVal) (rp : RV) (hr : rp = .n ∨ rp = .o) : ∃ l, good l = true ∧ Run3 F 3 (xd (xr 1) pv rp v5 v6 v7 v8 v9 vf) (xd (xr 2) pv rp (b8 128) (b8 191) v7 v8 say39 vf) (sg l) = ((AVal.tup [] = AVal.tup []) ∧ ChkR (Ts (sg l) (xd (xr 2) pv rp (b8 128) (b8 191) v7 v8 say39 vf))) :=
  ⟨[(18, 198)], by kernel_rfl, match rp, hr with | _, .inl rfl => x1_n v5 v6 v7 v8 v9 pv vf | _, .inr rfl => x1_o v5 v6 v7 v8 v9 pv vf⟩
theorem y2 (v5 v6 v7 v8 v9 : AVal) (pv : PV) (vf : Nat → AVal) (rp : RV) (hr : rp = .n ∨ rp = .o) : ∃ l, good l = true ∧ Run3 F 3 (xd (xr 2) pv rp v5 v6 v7 v8 v9 vf) (xd (xr 3) pv rp (b8 128) (b8 191) v7 v8 say39 vf) (sg l) = ((AVal.tup [] = AVal.tup []) ∧ ChkR (Ts (sg l) (xd (xr 3) pv rp (b8 128) (b8 191) v7 v8 say39 vf))) :=
  ⟨[(18, 198)], by kernel_rfl, match rp, hr with | _, .inl rfl => x2_n v5 v6 v7 v8 v9 pv vf | _, .inr rfl => x2_o v5 v6 v7 v8 v9 pv vf⟩
theorem y3 (v5 v6 v7 v8 v9 : AVal) (pv : PV) (vf : Nat → AVal) (rp : RV) (hr : rp = .n ∨ rp = .o) : ∃ l, good l = true ∧ Run3 F 3 (xd (xr 3) pv rp v5 v6 v7 v8 v9 vf) (xd (xr 4) pv rp (b8 128) (b8 191) v7 v8 say39 vf) (sg l) = ((AVal.tup [] = AVal.tup []) ∧ ChkR (Ts (sg l) (xd (xr 4) pv rp (b8 128) (b8 191) v7 v8 say39 vf))) :=
  ⟨[(18, 198)], by kernel_rfl, match rp, hr with | _, .inl rfl => x3_n v5 v6 v7 v8 v9 pv vf | _, .inr rfl => x3_o v5 v6 v7 v8 v9 pv vf⟩
theorem y4 (v5 v6 v7 v8 v9 : AVal) (pv : PV) (vf : Nat → AVal) (rp : RV) (hr : rp = .n ∨ rp = .o) : ∃ l, good l = true ∧ Run3 F 3 (xd (xr 4) pv rp v5 v6 v7 v8 v9 vf) (xd (xr 5) pv rp (b8 128) (b8 191) v7 v8 say39 vf) (sg l) = ((AVal.tup [] = AVal.tup []) ∧ ChkR (Ts (sg l) (xd (xr 5) pv rp (b8 128) (b8 191) v7 v8 say39 vf))) :=
  ⟨[(18, 198)], by kernel_rfl, match rp, hr with | _, .inl rfl => x4_n v5 v6 v7 v8 v9 pv vf | _, .inr rfl => x4_o v5 v6 v7 v8 v9 pv vf⟩
theorem y5 (v5 v6 v7 v8 v9 : AVal) (pv : PV) (vf : Nat → AVal) (rp : RV) (hr : rp = .n ∨ rp = .o) : ∃ l, good l = true ∧ Run3 F 3 (xd (xr 5) pv rp v5 v6 v7 v8 v9 vf) (xd (xr 6) pv rp (b8 128) (b8 191) v7 v8 say39 vf) (sg l) = ((AVal.tup [] = AVal.tup []) ∧ ChkR (Ts (sg l) (xd (xr 6) pv rp (b8 128) (b8 191) v7 v8 say39 vf))) :=
  ⟨[(18, 198)], by kernel_rfl, match rp, hr with | _, .inl rfl => x5_n v5 v6 v7 v8 v9 pv vf | _, .inr rfl => x5_o v5 v6 v7 v8 v9 pv vf⟩
theorem y6 (v5 v6 v7 v8 v9 : AVal) (pv : PV) (vf : Nat → AVal) (rp : RV) (hr : rp = .n ∨ rp = .o) : ∃ l, good l = true ∧ Run3 F 3 (xd (xr 6) pv rp v5 v6 v7 v8 v9 vf) (xd (xr 7) pv rp (b8 128) (b8 191) v7 v8 say39 vf) (sg l) = ((AVal.tup [] = AVal.tup []) ∧ ChkR (Ts (sg l) (xd (xr 7) pv rp (b8 128) (b8 191) v7 v8 say39 vf))) :=
  ⟨[(19, 269)], by kernel_rfl, match rp, hr with | _, .inl rfl => x6_n v5 v6 v7 v8 v9 pv vf | _, .inr rfl => x6_o v5 v6 v7 v8 v9 pv vf⟩
theorem y7 (v5 v6 v7 v8 v9 : AVal) (pv : PV) (vf : Nat → AVal) (rp : RV) (hr : rp = .n ∨ rp = .o) : ∃ l, good l = true ∧ Run3 F 3 (xd (xr 7) pv rp v5 v6 v7 v8 v9 vf) (xd (xr 8) pv rp (b8 128) (b8 191) v7 v8 say39 vf) (sg l) = ((AVal.tup [] = AVal.tup []) ∧ ChkR (Ts (sg l) (xd (xr 8) pv rp (b8 128) (b8 191) v7 v8 say39 vf))) :=
  ⟨[(19, 198)], by kernel_rfl, match rp, hr with | _, .inl rfl => x7_n v5 v6 v7 v8 v9 pv vf | _, .inr rfl => x7_o v5 v6 v7 v8 v9 pv vf⟩
theorem y8 (v5 v6 v7 v8 v9 : AVal) (pv : PV) (vf : Nat → AVal) (rp : RV) (hr : rp = .n ∨ rp = .o) : ∃ l, good l = true ∧ Run3 F 3 (xd (xr 8) pv rp v5 v6 v7 v8 v9 vf) (xd (xr 9) pv rp (b8 128) (b8 191) v7 v8 say39 vf) (sg l) = ((AVal.tup [] = AVal.tup []) ∧ ChkR (Ts (sg l) (xd (xr 9) pv rp (b8 128) (b8 191) v7 v8 say39 vf))) :=
  ⟨[(19, 198)], by kernel_rfl, match rp, hr with | _, .inl rfl => x8_n v5 v6 v7 v8 v9 pv vf | _, .inr rfl => x8_o v5 v6 v7 v8 v9 pv vf⟩
theorem y9 (v5 v6 v7 v8 v9 : AVal) (pv : PV) (vf : Nat → AVal) (rp : RV) (hr : rp = .n ∨ rp = .o) : ∃ l, good l = true ∧ Run3 F 3 (xd (xr 9) pv rp v5 v6 v7 v8 v9 vf) (xd (xr 10) pv rp (b8 128) (b8 191) v7 v8 say39 vf) (sg l) = ((AVal.tup [] = AVal.tup []) ∧ ChkR (Ts (sg l) (xd (xr 10) pv rp (b8 128) (b8 191) v7 v8 say39 vf))) :=
  ⟨[(19, 198)], by kernel_rfl, match rp, hr with | _, .inl rfl => x9_n v5 v6 v7 v8 v9 pv vf | _, .inr rfl => x9_o v5 v6 v7 v8 v9 pv vf⟩
theorem y10 (v5 v6 v7 v8 v9 : AVal) (pv : PV) (vf : Nat → AVal) (rp : RV) (hr : rp = .n ∨ rp = .o) : ∃ l, good l = true ∧ Run3 F 3 (xd (xr 10) pv rp v5 v6 v7 v8 v9 vf) (xd (xr 11) pv rp (b8 128) (b8 191) v7 v8 say39 vf) (sg l) = ((AVal.tup [] = AVal.tup []) ∧ ChkR (Ts (sg l) (xd (xr 11) pv rp (b8 128) (b8 191) v7 v8 say39 vf))) :=
  ⟨[(19, 198)], by kernel_rfl, match rp, hr with | _, .inl rfl => x10_n v5 v6 v7 v8 v9 pv vf | _, .inr rfl => x10_o v5 v6 v7 v8 v9 pv vf⟩
theorem y11 (v5 v6 v7 v8 v9 : AVal) (pv : PV) (vf : Nat → AVal) (rp : RV) (hr : rp = .n ∨ rp = .o) : ∃ l, good l = true ∧ Run3 F 3 (xd (xr 11) pv rp v5 v6 v7 v8 v9 vf) (xd (xr 12) pv rp (b8 128) (b8 191) v7 v8 say39 vf) (sg l) = ((AVal.tup [] = AVal.tup []) ∧ ChkR (Ts (sg l) (xd (xr 12) pv rp (b8 128) (b8 191) v7 v8 say39 vf))) :=
  ⟨[(19, 198)], by kernel_rfl, match rp, hr with | _, .inl rfl => x11_n v5 v6 v7 v8 v9 pv vf | _, .inr rfl => x11_o v5 v6 v7 v8 v9 pv vf⟩
theorem y12 (v5 v6 v7 v8 v9 : AVal) (pv : PV) (vf : Nat → AVal) (rp : RV) (hr : rp = .n ∨ rp = .o) : ∃ l, good l = true ∧ Run3 F 3 (xd (xr 12) pv rp v5 v6 v7 v8 v9 vf) (xd (xr 13) pv rp (b8 128) (b8 191) v7 v8 say39 vf) (sg l) = ((AVal.tup [] = AVal.tup []) ∧ ChkR (Ts (sg l) (xd (xr 13) pv rp (b8 128) (b8 191) v7 v8 say39 vf))) :=
  ⟨[(20, 269)], by kernel_rfl, match rp, hr with | _, .inl rfl => x12_n v5 v6 v7 v8 v9 pv vf | _, .inr rfl => x12_o v5 v6 v7 v8 v9 pv vf⟩
theorem y13 (v5 v6 v7 v8 v9 : AVal) (pv : PV) (vf : Nat → AVal) (rp : RV) (hr : rp = .n ∨ rp = .o) : ∃ l, good l = true ∧ Run3 F 3 (xd (xr 13) pv rp v5 v6 v7 v8 v9 vf) (xd (xr 14) pv rp (b8 128) (b8 191) v7 v8 say39 vf) (sg l) = ((AVal.tup [] = AVal.tup []) ∧ ChkR (Ts (sg l) (xd (xr 14) pv rp (b8 128) (b8 191) v7 v8 say39 vf))) :=
  ⟨[(20, 198)], by kernel_rfl, match rp, hr with | _, .inl rfl => x13_n v5 v6 v7 v8 v9 pv vf | _, .inr rfl => x13_o v5 v6 v7 v8 v9 pv vf⟩
theorem y14 (v5 v6 v7 v8 v9 : AVal) (pv : PV) (vf : Nat → AVal) (rp : RV) (hr : rp = .n ∨ rp = .o) : ∃ l, good l = true ∧ Run3 F 3 (xd (xr 14) pv rp v5 v6 v7 v8 v9 vf) (xd (xr 15) pv rp (b8 128) (b8 191) v7 v8 say39 vf) (sg l) = ((AVal.tup [] = AVal.tup []) ∧ ChkR (Ts (sg l) (xd (xr 15) pv rp (b8 128) (b8 191) v7 v8 say39 vf))) :=
  ⟨[(20, 198)], by kernel_rfl, match rp, hr with | _, .inl rfl => x14_n v5 v6 v7 v8 v9 pv vf | _, .inr rfl => x14_o v5 v6 v7 v8 v9 pv vf⟩
theorem y15 (v5 v6 v7 v8 v9 : AVal) (pv : PV) (vf : Nat → AVal) (rp : RV) (hr : rp = .n ∨ rp = .o) : ∃ l, good l = true ∧ Run3 F 3 (xd (xr 15) pv rp v5 v6 v7 v8 v9 vf) (xd (xr 16) pv rp (b8 128) (b8 191) v7 v8 say39 vf) (sg l) = ((AVal.tup [] = AVal.tup []) ∧ ChkR (Ts (sg l) (xd (xr 16) pv rp (b8 128) (b8 191) v7 v8 say39 vf))) :=
  ⟨[(20, 198)], by kernel_rfl, match rp, hr with | _, .inl rfl => x15_n v5 v6 v7 v8 v9 pv vf | _, .inr rfl => x15_o v5 v6 v7 v8 v9 pv vf⟩
theorem y16 (v5 v6 v7 v8 v9 : AVal) (pv : PV) (vf : Nat → AVal) (rp : RV) (hr : rp = .n ∨ rp = .o) : ∃ l, good l = true ∧ Run3 F 3 (xd (xr 16) pv rp v5 v6 v7 v8 v9 vf) (xd (xr 17) pv rp (b8 128) (b8 191) v7 v8 say39 vf) (sg l) = ((AVal.tup [] = AVal.tup []) ∧ ChkR (Ts (sg l) (xd (xr 17) pv rp (b8 128) (b8 191) v7 v8 say39 vf))) :=
  ⟨[(20, 198)], by kernel_rfl, match rp, hr with | _, .inl rfl => x16_n v5 v6 v7 v8 v9 pv vf | _, .inr rfl => x16_o v5 v6 v7 v8 v9 pv vf⟩
theorem y17 (v5 v6 v7 v8 v9 : AVal) (pv : PV) (vf : Nat → AVal) (rp : RV) (hr : rp = .n ∨ rp = .o) : ∃ l, good l = true ∧ Run3 F 3 (xd (xr 17) pv rp v5 v6 v7 v8 v9 vf) (xd (xr 18) pv rp (b8 128) (b8 191) v7 v8 say39 vf) (sg l) = ((AVal.tup [] = AVal.tup []) ∧ ChkR (Ts (sg l) (xd (xr 18) pv rp (b8 128) (b8 191) v7 v8 say39 vf))) :=
  ⟨[(20, 198)], by kernel_rfl, match rp, hr with | _, .inl rfl => x17_n v5 v6 v7 v8 v9 pv vf | _, .inr rfl => x17_o v5 v6 v7 v8 v9 pv vf⟩
theorem y18 (v5 v6 v7 v8 v9 : AVal) (pv : PV) (vf : Nat → AVal) (rp : RV) (hr : rp = .n ∨ rp = .o) : ∃ l, good l = true ∧ Run3 F 3 (xd (xr 18) pv rp v5 v6 v7 v8 v9 vf) (xd (xr 19) pv rp (b8 128) (b8 191) v7 v8 say39 vf) (sg l) = ((AVal.tup [] = AVal.tup []) ∧ ChkR (Ts (sg l) (xd (xr 19) pv rp (b8 128) (b8 191) v7 v8 say39 vf))) :=
  ⟨[(21, 269)], by kernel_rfl, match rp, hr with | _, .inl rfl => x18_n v5 v6 v7 v8 v9 pv vf | _, .inr rfl => x18_o v5 v6 v7 v8 v9 pv vf⟩
theorem y19 (v5 v6 v7 v8 v9 : AVal) (pv : PV) (vf : Nat → AVal) (rp : RV) (hr : rp = .n ∨ rp = .o) : ∃ l, good l = true ∧ Run3 F 3 (xd (xr 19) pv rp v5 v6 v7 v8 v9 vf) (xd (xr 20) pv rp (b8 128) (b8 191) v7 v8 say39 vf) (sg l) = ((AVal.tup [] = AVal.tup []) ∧ ChkR (Ts (sg l) (xd (xr 20) pv rp (b8 128) (b8 191) v7 v8 say39 vf))) :=
  ⟨[(21, 198)], by kernel_rfl, match rp, hr with | _, .inl rfl => x19_n v5 v6 v7 v8 v9 pv vf | _, .inr rfl => x19_o v5 v6 v7 v8 v9 pv vf⟩
theorem y20 (v5 v6 v7 v8 v9 : AVal) (pv : PV) (vf : Nat → AVal) (rp : RV) (hr : rp = .n ∨ rp = .o) : ∃ l, good l = true ∧ Run3 F 3 (xd (xr 20) pv rp v5 v6 v7 v8 v9 vf) (xd (xr 21) pv rp (b8 128) (b8 191) v7 v8 say39 vf) (sg l) = ((AVal.tup [] = AVal.tup []) ∧ ChkR (Ts (sg l) (xd (xr 21) pv rp (b8 128) (b8 191) v7 v8 say39 vf))) :=
  ⟨[(21, 198)], by kernel_rfl, match rp, hr with | _, .inl rfl => x20_n v5 v6 v7 v8 v9 pv vf | _, .inr rfl => x20_o v5 v6 v7 v8 v9 pv vf⟩
theorem y21 (v5 v6 v7 v8 v9 : AVal) (pv : PV) (vf : Nat → AVal) (rp : RV) (hr : rp = .n ∨ rp = .o) : ∃ l, good l = true ∧ Run3 F 3 (xd (xr 21) pv rp v5 v6 v7 v8 v9 vf) (xd (xr 22) pv rp (b8 128) (b8 191) v7 v8 say39 vf) (sg l) = ((AVal.tup [] = AVal.tup []) ∧ ChkR (Ts (sg l) (xd (xr 22) pv rp (b8 128) (b8 191) v7 v8 say39 vf))) :=
  ⟨[(21, 198)], by kernel_rfl, match rp, hr with | _, .inl rfl => x21_n v5 v6 v7 v8 v9 pv vf | _, .inr rfl => x21_o v5 v6 v7 v8 v9 pv vf⟩
theorem y22 (v5 v6 v7 v8 v9 : AVal) (pv : PV) (vf : Nat → AVal) (rp : RV) (hr : rp = .n ∨ rp = .o) : ∃ l, good l = true ∧ Run3 F 3 (xd (xr 22) pv rp v5 v6 v7 v8 v9 vf) (xd (xr 23) pv rp (b8 128) (b8 191) v7 v8 say39 vf) (sg l) = ((AVal.tup [] = AVal.tup []) ∧ ChkR (Ts (sg l) (xd (xr 23) pv rp (b8 128) (b8 191) v7 v8 say39 vf))) :=
  ⟨[(21, 198)], by kernel_rfl, match rp, hr with | _, .inl rfl => x22_n v5 v6 v7 v8 v9 pv vf | _, .inr rfl => x22_o v5 v6 v7 v8 v9 pv vf⟩
theorem y23 (v5 v6 v7 v8 v9 : AVal) (pv : PV) (vf : Nat → AVal) (rp : RV) (hr : rp = .n ∨ rp = .o) : ∃ l, good l = true ∧ Run3 F 3 (xd (xr 23) pv rp v5 v6 v7 v8 v9 vf) (xd (xr 24) pv rp (b8 128) (b8 191) v7 v8 say39 vf) (sg l) = ((AVal.tup [] = AVal.tup []) ∧ ChkR (Ts (sg l) (xd (xr 24) pv rp (b8 128) (b8 191) v7 v8 say39 vf))) :=
  ⟨[(21, 198)], by kernel_rfl, match rp, hr with | _, .inl rfl => x23_n v5 v6 v7 v8 v9 pv vf | _, .inr rfl => x23_o v5 v6 v7 v8 v9 pv vf⟩
theorem y24 (v5 v6 v7 v8 v9 : AVal) (pv : PV) (vf : Nat → AVal) (rp : RV) (hr : rp = .n ∨ rp = .o) : ∃ l, good l = true ∧ Run3 F 3 (xd (xr 24) pv rp v5 v6 v7 v8 v9 vf) (xd (xr 25) pv rp (b8 128) (b8 191) v7 v8 say39 vf) (sg l) = ((AVal.tup [] = AVal.tup []) ∧ ChkR (Ts (sg l) (xd (xr 25) pv rp (b8 128) (b8 191) v7 v8 say39 vf))) :=
  ⟨[(13, 229), (18, 19), (19, 20), (20, 21), (21, 329), (26, 242), (27, 18)], by kernel_rfl, match rp, hr with | _, .inl rfl => x24_n v5 v6 v7 v8 v9 pv vf | _, .inr rfl => x24_o v5 v6 v7 v8 v9 pv vf⟩
theorem y25 (v5 v6 v7 v8 v9 : AVal) (pv : PV) (vf : Nat → AVal) (rp : RV) (hr : rp = .n ∨ rp = .o) : ∃ l, good l = true ∧ Run3 F 3 (xd (xr 25) pv rp v5 v6 v7 v8 v9 vf) (xd (xr 26) pv rp (b8 128) (b8 191) v7 v8 say39 vf) (sg l) = ((AVal.tup [] = AVal.tup []) ∧ ChkR (Ts (sg l) (xd (xr 26) pv rp (b8 128) (b8 191) v7 v8 say39 vf))) :=
  ⟨[(21, 198)], by kernel_rfl, match rp, hr with | _, .inl rfl => x25_n v5 v6 v7 v8 v9 pv vf | _, .inr rfl => x25_o v5 v6 v7 v8 v9 pv vf⟩
theorem y26 (v5 v6 v7 v8 v9 : AVal) (pv : PV) (vf : Nat → AVal) (rp : RV) (hr : rp = .n ∨ rp = .o) : ∃ l, good l = true ∧ Run3 F 3 (xd (xr 26) pv rp v5 v6 v7 v8 v9 vf) (xd (xr 27) pv rp (b8 128) (b8 191) v7 v8 say39 vf) (sg l) = ((AVal.tup [] = AVal.tup []) ∧ ChkR (Ts (sg l) (xd (xr 27) pv rp (b8 128) (b8 191) v7 v8 say39 vf))) :=
  ⟨[(21, 198)], by kernel_rfl, match rp, hr with | _, .inl rfl => x26_n v5 v6 v7 v8 v9 pv vf | _, .inr rfl => x26_o v5 v6 v7 v8 v9 pv vf⟩
theorem y27 (v5 v6 v7 v8 v9 : AVal) (pv : PV) (vf : Nat → AVal) (rp : RV) (hr : rp = .n ∨ rp = .o) : ∃ l, good l = true ∧ Run3 F 3 (xd (xr 27) pv rp v5 v6 v7 v8 v9 vf) (xd (xr 28) pv rp (b8 128) (b8 191) v7 v8 say39 vf) (sg l) = ((AVal.tup [] = AVal.tup []) ∧ ChkR (Ts (sg l) (xd (xr 28) pv rp (b8 128) (b8 191) v7 v8 say39 vf))) :=
  ⟨[(21, 198)], by kernel_rfl, match rp, hr with | _, .inl rfl => x27_n v5 v6 v7 v8 v9 pv vf | _, .inr rfl => x27_o v5 v6 v7 v8 v9 pv vf⟩
theorem y28 (v5 v6 v7 v8 v9 : AVal) (pv : PV) (vf : Nat → AVal) (rp : RV) (hr : rp = .n ∨ rp = .o) : ∃ l, good l = true ∧ Run3 F 3 (xd (xr 28) pv rp v5 v6 v7 v8 v9 vf) (xd (xr 29) pv rp (b8 128) (b8 191) v7 v8 say39 vf) (sg l) = ((AVal.tup [] = AVal.tup []) ∧ ChkR (Ts (sg l) (xd (xr 29) pv rp (b8 128) (b8 191) v7 v8 say39 vf))) :=
  ⟨[(21, 198)], by kernel_rfl, match rp, hr with | _, .inl rfl => x28_n v5 v6 v7 v8 v9 pv vf | _, .inr rfl => x28_o v5 v6 v7 v8 v9 pv vf⟩
theorem y29 (v5 v6 v7 v8 v9 : AVal) (pv : PV) (vf : Nat → AVal) (rp : RV) (hr : rp = .n ∨ rp = .o) : ∃ l, good l = true ∧ Run3 F 3 (xd (xr 29) pv rp v5 v6 v7 v8 v9 vf) (xd (xr 30) pv rp (b8 128) (b8 191) v7 v8 say39 vf) (sg l) = ((AVal.tup [] = AVal.tup []) ∧ ChkR (Ts (sg l) (xd (xr 30) pv rp (b8 128) (b8 191) v7 v8 say39 vf))) :=
  ⟨[(21, 198)], by kernel_rfl, match rp, hr with | _, .inl rfl => x29_n v5 v6 v7 v8 v9 pv vf | _, .inr rfl => x29_o v5 v6 v7 v8 v9 pv vf⟩
theorem y30 (v5 v6 v7 v8 v9 : AVal) (pv : PV) (vf : Nat → AVal) (rp : RV) (hr : rp = .n ∨ rp = .o) : ∃ l, good l = true ∧ Run3 F 3 (xd (xr 30) pv rp v5 v6 v7 v8 v9 vf) (xd (xr 31) pv rp (b8 128) (b8 191) v7 v8 say39 vf) (sg l) = ((AVal.tup [] = AVal.tup []) ∧ ChkR (Ts (sg l) (xd (xr 31) pv rp (b8 128) (b8 191) v7 v8 say39 vf))) :=
  ⟨[(13, 229), (18, 19), (19, 20), (20, 21), (21, 329), (26, 242), (28, 18)], by kernel_rfl, match rp, hr with | _, .inl rfl => x30_n v5 v6 v7 v8 v9 pv vf | _, .inr rfl => x30_o v5 v6 v7 v8 v9 pv vf⟩
theorem y31 (v5 v6 v7 v8 v9 : AVal) (pv : PV) (vf : Nat → AVal) (rp : RV) (hr : rp = .n ∨ rp = .o) : ∃ l, good l = true ∧ Run3 F 3 (xd (xr 31) pv rp v5 v6 v7 v8 v9 vf) (xd (xr 32) pv rp (b8 128) (b8 191) v7 v8 say39 vf) (sg l) = ((AVal.tup [] = AVal.tup []) ∧ ChkR (Ts (sg l) (xd (xr 32) pv rp (b8 128) (b8 191) v7 v8 say39 vf))) :=
  ⟨[(21, 198)], by kernel_rfl, match rp, hr with | _, .inl rfl => x31_n v5 v6 v7 v8 v9 pv vf | _, .inr rfl => x31_o v5 v6 v7 v8 v9 pv vf⟩
theorem y32 (v5 v6 v7 v8 v9 : AVal) (pv : PV) (vf : Nat → AVal) (rp : RV) (hr : rp = .n ∨ rp = .o) : ∃ l, good l = true ∧ Run3 F 3 (xd (xr 32) pv rp v5 v6 v7 v8 v9 vf) (xd (xr 33) pv rp (b8 128) (b8 191) v7 v8 say39 vf) (sg l) = ((AVal.tup [] = AVal.tup []) ∧ ChkR (Ts (sg l) (xd (xr 33) pv rp (b8 128) (b8 191) v7 v8 say39 vf))) :=
  ⟨[(21, 198)], by kernel_rfl, match rp, hr with | _, .inl rfl => x32_n v5 v6 v7 v8 v9 pv vf | _, .inr rfl => x32_o v5 v6 v7 v8 v9 pv vf⟩
theorem y33 (v5 v6 v7 v8 v9 : AVal) (pv : PV) (vf : Nat → AVal) (rp : RV) (hr : rp = .n ∨ rp = .o) : ∃ l, good l = true ∧ Run3 F 3 (xd (xr 33) pv rp v5 v6 v7 v8 v9 vf) (xd (xr 34) pv rp (b8 128) (b8 191) v7 v8 say39 vf) (sg l) = ((AVal.tup [] = AVal.tup []) ∧ ChkR (Ts (sg l) (xd (xr 34) pv rp (b8 128) (b8 191) v7 v8 say39 vf))) :=
  ⟨[(21, 198)], by kernel_rfl, match rp, hr with | _, .inl rfl => x33_n v5 v6 v7 v8 v9 pv vf | _, .inr rfl => x33_o v5 v6 v7 v8 v9 pv vf⟩
theorem y34 (v5 v6 v7 v8 v9 : AVal) (pv : PV) (vf : Nat → AVal) (rp : RV) (hr : rp = .n ∨ rp = .o) : ∃ l, good l = true ∧ Run3 F 3 (xd (xr 34) pv rp v5 v6 v7 v8 v9 vf) (xd (xr 35) pv rp (b8 128) (b8 191) v7 v8 say39 vf) (sg l) = ((AVal.tup [] = AVal.tup []) ∧ ChkR (Ts (sg l) (xd (xr 35) pv rp (b8 128) (b8 191) v7 v8 say39 vf))) :=
  ⟨[(21, 198)], by kernel_rfl, match rp, hr with | _, .inl rfl => x34_n v5 v6 v7 v8 v9 pv vf | _, .inr rfl => x34_o v5 v6 v7 v8 v9 pv vf⟩
theorem y35 (v5 v6 v7 v8 v9 : AVal) (pv : PV) (vf : Nat → AVal) (rp : RV) (hr : rp = .n ∨ rp = .o) : ∃ l, good l = true ∧ Run3 F 3 (xd (xr 35) pv rp v5 v6 v7 v8 v9 vf) (xd (xr 36) pv rp (b8 128) (b8 191) v7 v8 say39 vf) (sg l) = ((AVal.tup [] = AVal.tup []) ∧ ChkR (Ts (sg l) (xd (xr 36) pv rp (b8 128) (b8 191) v7 v8 say39 vf))) :=
  ⟨[(21, 198)], by kernel_rfl, match rp, hr with | _, .inl rfl => x35_n v5 v6 v7 v8 v9 pv vf | _, .inr rfl => x35_o v5 v6 v7 v8 v9 pv vf⟩
theorem y36 (v5 v6 v7 v8 v9 : AVal) (pv : PV) (vf : Nat → AVal) (rp : RV) (hr : rp = .n ∨ rp = .o) : ∃ l, good l = true ∧ Run3 F 3 (xd (xr 36) pv rp v5 v6 v7 v8 v9 vf) (xd (xr 37) pv rp (b8 128) (b8 191) v7 v8 say39 vf) (sg l) = ((AVal.tup [] = AVal.tup []) ∧ ChkR (Ts (sg l) (xd (xr 37) pv rp (b8 128) (b8 191) v7 v8 say39 vf))) :=
  ⟨[(13, 229), (18, 19), (19, 20), (20, 21), (21, 329), (26, 242), (29, 18)], by kernel_rfl, match rp, hr with | _, .inl rfl => x36_n v5 v6 v7 v8 v9 pv vf | _, .inr rfl => x36_o v5 v6 v7 v8 v9 pv vf⟩
theorem y37 (v5 v6 v7 v8 v9 : AVal) (pv : PV) (vf : Nat → AVal) (rp : RV) (hr : rp = .n ∨ rp = .o) : ∃ l, good l = true ∧ Run3 F 3 (xd (xr 37) pv rp v5 v6 v7 v8 v9 vf) (xd (xr 38) pv rp (b8 128) (b8 191) v7 v8 say39 vf) (sg l) = ((AVal.tup [] = AVal.tup []) ∧ ChkR (Ts (sg l) (xd (xr 38) pv rp (b8 128) (b8 191) v7 v8 say39 vf))) :=
  ⟨[(21, 198)], by kernel_rfl, match rp, hr with | _, .inl rfl => x37_n v5 v6 v7 v8 v9 pv vf | _, .inr rfl => x37_o v5 v6 v7 v8 v9 pv vf⟩
theorem y38 (v5 v6 v7 v8 v9 : AVal) (pv : PV) (vf : Nat → AVal) (rp : RV) (hr : rp = .n ∨ rp = .o) : ∃ l, good l = true ∧ Run3 F 3 (xd (xr 38) pv rp v5 v6 v7 v8 v9 vf) (xd (xr 39) pv rp (b8 128) (b8 191) v7 v8 say39 vf) (sg l) = ((AVal.tup [] = AVal.tup []) ∧ ChkR (Ts (sg l) (xd (xr 39) pv rp (b8 128) (b8 191) v7 v8 say39 vf))) :=
  ⟨[(21, 198)], by kernel_rfl, match rp, hr with | _, .inl rfl => x38_n v5 v6 v7 v8 v9 pv vf | _, .inr rfl => x38_o v5 v6 v7 v8 v9 pv vf⟩
theorem y39 (v5 v6 v7 v8 v9 : AVal) (pv : PV) (vf : Nat → AVal) (rp : RV) (hr : rp = .n ∨ rp = .o) : ∃ l, good l = true ∧ Run3 F 3 (xd (xr 39) pv rp v5 v6 v7 v8 v9 vf) (xd (xr 40) pv rp (b8 128) (b8 191) v7 v8 say39 vf) (sg l) = ((AVal.tup [] = AVal.tup []) ∧ ChkR (Ts (sg l) (xd (xr 40) pv rp (b8 128) (b8 191) v7 v8 say39 vf))) :=
  ⟨[(21, 198)], by kernel_rfl, match rp, hr with | _, .inl rfl => x39_n v5 v6 v7 v8 v9 pv vf | _, .inr rfl => x39_o v5 v6 v7 v8 v9 pv vf⟩
theorem y40 (v5 v6 v7 v8 v9 : AVal) (pv : PV) (vf : Nat → AVal) (rp : RV) (hr : rp = .n ∨ rp = .o) : ∃ l, good l = true ∧ Run3 F 3 (xd (xr 40) pv rp v5 v6 v7 v8 v9 vf) (xd (xr 41) pv rp (b8 128) (b8 191) v7 v8 say39 vf) (sg l) = ((AVal.tup [] = AVal.tup []) ∧ ChkR (Ts (sg l) (xd (xr 41) pv rp (b8 128) (b8 191) v7 v8 say39 vf))) :=
  ⟨[(21, 198)], by kernel_rfl, match rp, hr with | _, .inl rfl => x40_n v5 v6 v7 v8 v9 pv vf | _, .inr rfl => x40_o v5 v6 v7 v8 v9 pv vf⟩
theorem y41 (v5 v6 v7 v8 v9 : AVal) (pv : PV) (vf : Nat → AVal) (rp : RV) (hr : rp = .n ∨ rp = .o) : ∃ l, good l = true ∧ Run3 F 3 (xd (xr 41) pv rp v5 v6 v7 v8 v9 vf) (xd (xr 42) pv rp (b8 128) (b8 191) v7 v8 say39 vf) (sg l) = ((AVal.tup [] = AVal.tup []) ∧ ChkR (Ts (sg l) (xd (xr 42) pv rp (b8 128) (b8 191) v7 v8 say39 vf))) :=
  ⟨[(21, 198)], by kernel_rfl, match rp, hr with | _, .inl rfl => x41_n v5 v6 v7 v8 v9 pv vf | _, .inr rfl => x41_o v5 v6 v7 v8 v9 pv vf⟩
theorem y42 (v5 v6 v7 v8 v9 : AVal) (pv : PV) (vf : Nat → AVal) (rp : RV) (hr : rp = .n ∨ rp = .o) : ∃ l, good l = true ∧ Run3 F 3 (xd (xr 42) pv rp v5 v6 v7 v8 v9 vf) (xd (xr 43) pv rp (b8 128) (b8 191) v7 v8 say39 vf) (sg l) = ((AVal.tup [] = AVal.tup []) ∧ ChkR (Ts (sg l) (xd (xr 43) pv rp (b8 128) (b8 191) v7 v8 say39 vf))) :=
  ⟨[(13, 229), (18, 19), (19, 20), (20, 21), (21, 364), (27, 18)], by kernel_rfl, match rp, hr with | _, .inl rfl => x42_n v5 v6 v7 v8 v9 pv vf | _, .inr rfl => x42_o v5 v6 v7 v8 v9 pv vf⟩
theorem y43 (v5 v6 v7 v8 v9 : AVal) (pv : PV) (vf : Nat → AVal) (rp : RV) (hr : rp = .n ∨ rp = .o) : ∃ l, good l = true ∧ Run3 F 3 (xd (xr 43) pv rp v5 v6 v7 v8 v9 vf) (xd (xr 44) pv rp (b8 128) (b8 191) v7 v8 say39 vf) (sg l) = ((AVal.tup [] = AVal.tup []) ∧ ChkR (Ts (sg l) (xd (xr 44) pv rp (b8 128) (b8 191) v7 v8 say39 vf))) :=
  ⟨[(21, 198)], by kernel_rfl, match rp, hr with | _, .inl rfl => x43_n v5 v6 v7 v8 v9 pv vf | _, .inr rfl => x43_o v5 v6 v7 v8 v9 pv vf⟩
theorem y44 (v5 v6 v7 v8 v9 : AVal) (pv : PV) (vf : Nat → AVal) (rp : RV) (hr : rp = .n ∨ rp = .o) : ∃ l, good l = true ∧ Run3 F 3 (xd (xr 44) pv rp v5 v6 v7 v8 v9 vf) (xd (xr 45) pv rp (b8 128) (b8 191) v7 v8 say39 vf) (sg l) = ((AVal.tup [] = AVal.tup []) ∧ ChkR (Ts (sg l) (xd (xr 45) pv rp (b8 128) (b8 191) v7 v8 say39 vf))) :=
  ⟨[(21, 198)], by kernel_rfl, match rp, hr with | _, .inl rfl => x44_n v5 v6 v7 v8 v9 pv vf | _, .inr rfl => x44_o v5 v6 v7 v8 v9 pv vf⟩
theorem y45 (v5 v6 v7 v8 v9 : AVal) (pv : PV) (vf : Nat → AVal) (rp : RV) (hr : rp = .n ∨ rp = .o) : ∃ l, good l = true ∧ Run3 F 3 (xd (xr 45) pv rp v5 v6 v7 v8 v9 vf) (xd (xr 46) pv rp (b8 128) (b8 191) v7 v8 say39 vf) (sg l) = ((AVal.tup [] = AVal.tup []) ∧ ChkR (Ts (sg l) (xd (xr 46) pv rp (b8 128) (b8 191) v7 v8 say39 vf))) :=
  ⟨[(21, 198)], by kernel_rfl, match rp, hr with | _, .inl rfl => x45_n v5 v6 v7 v8 v9 pv vf | _, .inr rfl => x45_o v5 v6 v7 v8 v9 pv vf⟩
theorem y46 (v5 v6 v7 v8 v9 : AVal) (pv : PV) (vf : Nat → AVal) (rp : RV) (hr : rp = .n ∨ rp = .o) : ∃ l, good l = true ∧ Run3 F 3 (xd (xr 46) pv rp v5 v6 v7 v8 v9 vf) (xd (xr 47) pv rp (b8 128) (b8 191) v7 v8 say39 vf) (sg l) = ((AVal.tup [] = AVal.tup []) ∧ ChkR (Ts (sg l) (xd (xr 47) pv rp (b8 128) (b8 191) v7 v8 say39 vf))) :=
  ⟨[(21, 198)], by kernel_rfl, match rp, hr with | _, .inl rfl => x46_n v5 v6 v7 v8 v9 pv vf | _, .inr rfl => x46_o v5 v6 v7 v8 v9 pv vf⟩
theorem y47 (v5 v6 v7 v8 v9 : AVal) (pv : PV) (vf : Nat → AVal) (rp : RV) (hr : rp = .n ∨ rp = .o) : ∃ l, good l = true ∧ Run3 F 3 (xd (xr 47) pv rp v5 v6 v7 v8 v9 vf) (xd (xr 48) pv rp (b8 128) (b8 191) v7 v8 say39 vf) (sg l) = ((AVal.tup [] = AVal.tup []) ∧ ChkR (Ts (sg l) (xd (xr 48) pv rp (b8 128) (b8 191) v7 v8 say39 vf))) :=
  ⟨[(21, 198)], by kernel_rfl, match rp, hr with | _, .inl rfl => x47_n v5 v6 v7 v8 v9 pv vf | _, .inr rfl => x47_o v5 v6 v7 v8 v9 pv vf⟩
theorem y48 (v5 v6 v7 v8 v9 : AVal) (pv : PV) (vf : Nat → AVal) (rp : RV) (hr : rp = .n ∨ rp = .o) : ∃ l, good l = true ∧ Run3 F 3 (xd (xr 48) pv rp v5 v6 v7 v8 v9 vf) (xd (xr 49) pv rp (b8 128) (b8 191) v7 v8 say39 vf) (sg l) = ((AVal.tup [] = AVal.tup []) ∧ ChkR (Ts (sg l) (xd (xr 49) pv rp (b8 128) (b8 191) v7 v8 say39 vf))) :=
  ⟨[(13, 229), (18, 19), (19, 20), (20, 21), (21, 364), (28, 18)], by kernel_rfl, match rp, hr with | _, .inl rfl => x48_n v5 v6 v7 v8 v9 pv vf | _, .inr rfl => x48_o v5 v6 v7 v8 v9 pv vf⟩
theorem y49 (v5 v6 v7 v8 v9 : AVal) (pv : PV) (vf : Nat → AVal) (rp : RV) (hr : rp = .n ∨ rp = .o) : ∃ l, good l = true ∧ Run3 F 3 (xd (xr 49) pv rp v5 v6 v7 v8 v9 vf) (xd (xr 50) pv rp (b8 128) (b8 191) v7 v8 say39 vf) (sg l) = ((AVal.tup [] = AVal.tup []) ∧ ChkR (Ts (sg l) (xd (xr 50) pv rp (b8 128) (b8 191) v7 v8 say39 vf))) :=
  ⟨[(21, 198)], by kernel_rfl, match rp, hr with | _, .inl rfl => x49_n v5 v6 v7 v8 v9 pv vf | _, .inr rfl => x49_o v5 v6 v7 v8 v9 pv vf⟩
theorem y50 (v5 v6 v7 v8 v9 : AVal) (pv : PV) (vf : Nat → AVal) (rp : RV) (hr : rp = .n ∨ rp = .o) : ∃ l, good l = true ∧ Run3 F 3 (xd (xr 50) pv rp v5 v6 v7 v8 v9 vf) (xd (xr 51) pv rp (b8 128) (b8 191) v7 v8 say39 vf) (sg l) = ((AVal.tup [] = AVal.tup []) ∧ ChkR (Ts (sg l) (xd (xr 51) pv rp (b8 128) (b8 191) v7 v8 say39 vf))) :=
  ⟨[(21, 198)], by kernel_rfl, match rp, hr with | _, .inl rfl => x50_n v5 v6 v7 v8 v9 pv vf | _, .inr rfl => x50_o v5 v6 v7 v8 v9 pv vf⟩
theorem y51 (v5 v6 v7 v8 v9 : AVal) (pv : PV) (vf : Nat → AVal) (rp : RV) (hr : rp = .n ∨ rp = .o) : ∃ l, good l = true ∧ Run3 F 3 (xd (xr 51) pv rp v5 v6 v7 v8 v9 vf) (xd (xr 52) pv rp (b8 128) (b8 191) v7 v8 say39 vf) (sg l) = ((AVal.tup [] = AVal.tup []) ∧ ChkR (Ts (sg l) (xd (xr 52) pv rp (b8 128) (b8 191) v7 v8 say39 vf))) :=
  ⟨[(21, 198)], by kernel_rfl, match rp, hr with | _, .inl rfl => x51_n v5 v6 v7 v8 v9 pv vf | _, .inr rfl => x51_o v5 v6 v7 v8 v9 pv vf⟩
theorem y52 (v5 v6 v7 v8 v9 : AVal) (pv : PV) (vf : Nat → AVal) (rp : RV) (hr : rp = .n ∨ rp = .o) : ∃ l, good l = true ∧ Run3 F 3 (xd (xr 52) pv rp v5 v6 v7 v8 v9 vf) (xd (xr 53) pv rp (b8 128) (b8 191) v7 v8 say39 vf) (sg l) = ((AVal.tup [] = AVal.tup []) ∧ ChkR (Ts (sg l) (xd (xr 53) pv rp (b8 128) (b8 191) v7 v8 say39 vf))) :=
  ⟨[(21, 198)], by kernel_rfl, match rp, hr with | _, .inl rfl => x52_n v5 v6 v7 v8 v9 pv vf | _, .inr rfl => x52_o v5 v6 v7 v8 v9 pv vf⟩
theorem y53 (v5 v6 v7 v8 v9 : AVal) (pv : PV) (vf : Nat → AVal) (rp : RV) (hr : rp = .n ∨ rp = .o) : ∃ l, good l = true ∧ Run3 F 3 (xd (xr 53) pv rp v5 v6 v7 v8 v9 vf) (xd (xr 54) pv rp (b8 128) (b8 191) v7 v8 say39 vf) (sg l) = ((AVal.tup [] = AVal.tup []) ∧ ChkR (Ts (sg l) (xd (xr 54) pv rp (b8 128) (b8 191) v7 v8 say39 vf))) :=
  ⟨[(21, 198)], by kernel_rfl, match rp, hr with | _, .inl rfl => x53_n v5 v6 v7 v8 v9 pv vf | _, .inr rfl => x53_o v5 v6 v7 v8 v9 pv vf⟩
theorem y54 (v5 v6 v7 v8 v9 : AVal) (pv : PV) (vf : Nat → AVal) (rp : RV) (hr : rp = .n ∨ rp = .o) : ∃ l, good l = true ∧ Run3 F 3 (xd (xr 54) pv rp v5 v6 v7 v8 v9 vf) (xd (xr 55) pv rp (b8 128) (b8 191) v7 v8 say39 vf) (sg l) = ((AVal.tup [] = AVal.tup []) ∧ ChkR (Ts (sg l) (xd (xr 55) pv rp (b8 128) (b8 191) v7 v8 say39 vf))) :=
  ⟨[(13, 229), (18, 19), (19, 20), (20, 21), (21, 364), (29, 18)], by kernel_rfl, match rp, hr with | _, .inl rfl => x54_n v5 v6 v7 v8 v9 pv vf | _, .inr rfl => x54_o v5 v6 v7 v8 v9 pv vf⟩
theorem y55 (v5 v6 v7 v8 v9 : AVal) (pv : PV) (vf : Nat → AVal) (rp : RV) (hr : rp = .n ∨ rp = .o) : ∃ l, good l = true ∧ Run3 F 3 (xd (xr 55) pv rp v5 v6 v7 v8 v9 vf) (xd (xr 56) pv rp (b8 128) (b8 191) v7 v8 say39 vf) (sg l) = ((AVal.tup [] = AVal.tup []) ∧ ChkR (Ts (sg l) (xd (xr 56) pv rp (b8 128) (b8 191) v7 v8 say39 vf))) :=
  ⟨[(21, 198)], by kernel_rfl, match rp, hr with | _, .inl rfl => x55_n v5 v6 v7 v8 v9 pv vf | _, .inr rfl => x55_o v5 v6 v7 v8 v9 pv vf⟩
theorem y56 (v5 v6 v7 v8 v9 : AVal) (pv : PV) (vf : Nat → AVal) (rp : RV) (hr : rp = .n ∨ rp = .o) : ∃ l, good l = true ∧ Run3 F 3 (xd (xr 56) pv rp v5 v6 v7 v8 v9 vf) (xd (xr 57) pv rp (b8 128) (b8 191) v7 v8 say39 vf) (sg l) = ((AVal.tup [] = AVal.tup []) ∧ ChkR (Ts (sg l) (xd (xr 57) pv rp (b8 128) (b8 191) v7 v8 say39 vf))) :=
  ⟨[(21, 198)], by kernel_rfl, match rp, hr with | _, .inl rfl => x56_n v5 v6 v7 v8 v9 pv vf | _, .inr rfl => x56_o v5 v6 v7 v8 v9 pv vf⟩
theorem y57 (v5 v6 v7 v8 v9 : AVal) (pv : PV) (vf : Nat → AVal) (rp : RV) (hr : rp = .n ∨ rp = .o) : ∃ l, good l = true ∧ Run3 F 3 (xd (xr 57) pv rp v5 v6 v7 v8 v9 vf) (xd (xr 58) pv rp (b8 128) (b8 191) v7 v8 say39 vf) (sg l) = ((AVal.tup [] = AVal.tup []) ∧ ChkR (Ts (sg l) (xd (xr 58) pv rp (b8 128) (b8 191) v7 v8 say39 vf))) :=
  ⟨[(21, 198)], by kernel_rfl, match rp, hr with | _, .inl rfl => x57_n v5 v6 v7 v8 v9 pv vf | _, .inr rfl => x57_o v5 v6 v7 v8 v9 pv vf⟩
theorem y58 (v5 v6 v7 v8 v9 : AVal) (pv : PV) (vf : Nat → AVal) (rp : RV) (hr : rp = .n ∨ rp = .o) : ∃ l, good l = true ∧ Run3 F 3 (xd (xr 58) pv rp v5 v6 v7 v8 v9 vf) (xd (xr 59) pv rp (b8 128) (b8 191) v7 v8 say39 vf) (sg l) = ((AVal.tup [] = AVal.tup []) ∧ ChkR (Ts (sg l) (xd (xr 59) pv rp (b8 128) (b8 191) v7 v8 say39 vf))) :=
  ⟨[(21, 198)], by kernel_rfl, match rp, hr with | _, .inl rfl => x58_n v5 v6 v7 v8 v9 pv vf | _, .inr rfl => x58_o v5 v6 v7 v8 v9 pv vf⟩
theorem y59 (v5 v6 v7 v8 v9 : AVal) (pv : PV) (vf : Nat → AVal) (rp : RV) (hr : rp = .n ∨ rp = .o) : ∃ l, good l = true ∧ Run3 F 3 (xd (xr 59) pv rp v5 v6 v7 v8 v9 vf) (xd (xr 60) pv rp (b8 128) (b8 191) v7 v8 say39 vf) (sg l) = ((AVal.tup [] = AVal.tup []) ∧ ChkR (Ts (sg l) (xd (xr 60) pv rp (b8 128) (b8 191) v7 v8 say39 vf))) :=
  ⟨[(21, 198)], by kernel_rfl, match rp, hr with | _, .inl rfl => x59_n v5 v6 v7 v8 v9 pv vf | _, .inr rfl => x59_o v5 v6 v7 v8 v9 pv vf⟩
theorem yy0 (v5 v6 v7 v8 v9 : AVal) (pv : PV) (vf : Nat → AVal) (rp : RV) (hr : rp = .n ∨ rp = .o) (c : Nat) (h1 : 0 ≤ c) (h2 : c < 10) : ∃ l, good l = true ∧ Run3 F 3 (xd (xr c) pv rp v5 v6 v7 v8 v9 vf) (xd (xr (c + 1)) pv rp (b8 128) (b8 191) v7 v8 say39 vf) (sg l) = ((AVal.tup [] = AVal.tup []) ∧ ChkR (Ts (sg l) (xd (xr (c + 1)) pv rp (b8 128) (b8 191) v7 v8 say39 vf))) := by
  rcases (show c = 0 ∨ c = 1 ∨ c = 2 ∨ c = 3 ∨ c = 4 ∨ c = 5 ∨ c = 6 ∨ c = 7 ∨ c = 8 ∨ c = 9 by omega) with rfl | rfl | rfl | rfl | rfl | rfl | rfl | rfl | rfl | rfl
  · exact y0 v5 v6 v7 v8 v9 pv vf rp hr
  · exact y1 v5 v6 v7 v8 v9 pv vf rp hr
  · exact y2 v5 v6 v7 v8 v9 pv vf rp hr
  · exact y3 v5 v6 v7 v8 v9 pv vf rp hr
  · exact y4 v5 v6 v7 v8 v9 pv vf rp hr
  · exact y5 v5 v6 v7 v8 v9 pv vf rp hr
  · exact y6 v5 v6 v7 v8 v9 pv vf rp hr
  · exact y7 v5 v6 v7 v8 v9 pv vf rp hr
  · exact y8 v5 v6 v7 v8 v9 pv vf rp hr
  · exact y9 v5 v6 v7 v8 v9 pv vf rp hr
theorem yy1 (v5 v6 v7 v8 v9 : AVal) (pv : PV) (vf : Nat → AVal) (rp : RV) (hr : rp = .n ∨ rp = .o) (c : Nat) (h1 : 10 ≤ c) (h2 : c < 20) : ∃ l, good l = true ∧ Run3 F 3 (xd (xr c) pv rp v5 v6 v7 v8 v9 vf) (xd (xr (c + 1)) pv rp (b8 128) (b8 191) v7 v8 say39 vf) (sg l) = ((AVal.tup [] = AVal.tup []) ∧ ChkR (Ts (sg l) (xd (xr (c + 1)) pv rp (b8 128) (b8 191) v7 v8 say39 vf))) := by
  rcases (show c = 10 ∨ c = 11 ∨ c = 12 ∨ c = 13 ∨ c = 14 ∨ c = 15 ∨ c = 16 ∨ c = 17 ∨ c = 18 ∨ c = 19 by omega) with rfl | rfl | rfl | rfl | rfl | rfl | rfl | rfl | rfl | rfl
  · exact y10 v5 v6 v7 v8 v9 pv vf rp hr
  · exact y11 v5 v6 v7 v8 v9 pv vf rp hr
  · exact y12 v5 v6 v7 v8 v9 pv vf rp hr
  · exact y13 v5 v6 v7 v8 v9 pv vf rp hr
  · exact y14 v5 v6 v7 v8 v9 pv vf rp hr
  · exact y15 v5 v6 v7 v8 v9 pv vf rp hr
  · exact y16 v5 v6 v7 v8 v9 pv vf rp hr
  · exact y17 v5 v6 v7 v8 v9 pv vf rp hr
  · exact y18 v5 v6 v7 v8 v9 pv vf rp hr
  · exact y19 v5 v6 v7 v8 v9 pv vf rp hr
theorem yy2 (v5 v6 v7 v8 v9 : AVal) (pv : PV) (vf : Nat → AVal) (rp : RV) (hr : rp = .n ∨ rp = .o) (c : Nat) (h1 : 20 ≤ c) (h2 : c < 30) : ∃ l, good l = true ∧ Run3 F 3 (xd (xr c) pv rp v5 v6 v7 v8 v9 vf) (xd (xr (c + 1)) pv rp (b8 128) (b8 191) v7 v8 say39 vf) (sg l) = ((AVal.tup [] = AVal.tup []) ∧ ChkR (Ts (sg l) (xd (xr (c + 1)) pv rp (b8 128) (b8 191) v7 v8 say39 vf))) := by
  rcases (show c = 20 ∨ c = 21 ∨ c = 22 ∨ c = 23 ∨ c = 24 ∨ c = 25 ∨ c = 26 ∨ c = 27 ∨ c = 28 ∨ c = 29 by omega) with rfl | rfl | rfl | rfl | rfl | rfl | rfl | rfl | rfl | rfl
  · exact y20 v5 v6 v7 v8 v9 pv vf rp hr
  · exact y21 v5 v6 v7 v8 v9 pv vf rp hr
  · exact y22 v5 v6 v7 v8 v9 pv vf rp hr
  · exact y23 v5 v6 v7 v8 v9 pv vf rp hr
  · exact y24 v5 v6 v7 v8 v9 pv vf rp hr
  · exact y25 v5 v6 v7 v8 v9 pv vf rp hr
  · exact y26 v5 v6 v7 v8 v9 pv vf rp hr
  · exact y27 v5 v6 v7 v8 v9 pv vf rp hr
  · exact y28 v5 v6 v7 v8 v9 pv vf rp hr
  · exact y29 v5 v6 v7 v8 v9 pv vf rp hr
theorem yy3 (v5 v6 v7 v8 v9 : AVal) (pv : PV) (vf : Nat → AVal) (rp : RV) (hr : rp = .n ∨ rp = .o) (c : Nat) (h1 : 30 ≤ c) (h2 : c < 40) : ∃ l, good l = true ∧ Run3 F 3 (xd (xr c) pv rp v5 v6 v7 v8 v9 vf) (xd (xr (c + 1)) pv rp (b8 128) (b8 191) v7 v8 say39 vf) (sg l) = ((AVal.tup [] = AVal.tup []) ∧ ChkR (Ts (sg l) (xd (xr (c + 1)) pv rp (b8 128) (b8 191) v7 v8 say39 vf))) := by
  rcases (show c = 30 ∨ c = 31 ∨ c = 32 ∨ c = 33 ∨ c = 34 ∨ c = 35 ∨ c = 36 ∨ c = 37 ∨ c = 38 ∨ c = 39 by omega) with rfl | rfl | rfl | rfl | rfl | rfl | rfl | rfl | rfl | rfl
  · exact y30 v5 v6 v7 v8 v9 pv vf rp hr
  · exact y31 v5 v6 v7 v8 v9 pv vf rp hr
  · exact y32 v5 v6 v7 v8 v9 pv vf rp hr
  · exact y33 v5 v6 v7 v8 v9 pv vf rp hr
  · exact y34 v5 v6 v7 v8 v9 pv vf rp hr
  · exact y35 v5 v6 v7 v8 v9 pv vf rp hr
  · exact y36 v5 v6 v7 v8 v9 pv vf rp hr
  · exact y37 v5 v6 v7 v8 v9 pv vf rp hr
  · exact y38 v5 v6 v7 v8 v9 pv vf rp hr
  · exact y39 v5 v6 v7 v8 v9 pv vf rp hr
theorem yy4 (v5 v6 v7 v8 v9 : AVal) (pv : PV) (vf : Nat → AVal) (rp : RV) (hr : rp = .n ∨ rp = .o) (c : Nat) (h1 : 40 ≤ c) (h2 : c < 50) : ∃ l, good l = true ∧ Run3 F 3 (xd (xr c) pv rp v5 v6 v7 v8 v9 vf) (xd (xr (c + 1)) pv rp (b8 128) (b8 191) v7 v8 say39 vf) (sg l) = ((AVal.tup [] = AVal.tup []) ∧ ChkR (Ts (sg l) (xd (xr (c + 1)) pv rp (b8 128) (b8 191) v7 v8 say39 vf))) := by
  rcases (show c = 40 ∨ c = 41 ∨ c = 42 ∨ c = 43 ∨ c = 44 ∨ c = 45 ∨ c = 46 ∨ c = 47 ∨ c = 48 ∨ c = 49 by omega) with rfl | rfl | rfl | rfl | rfl | rfl | rfl | rfl | rfl | rfl
  · exact y40 v5 v6 v7 v8 v9 pv vf rp hr
  · exact y41 v5 v6 v7 v8 v9 pv vf rp hr
  · exact y42 v5 v6 v7 v8 v9 pv vf rp hr
  · exact y43 v5 v6 v7 v8 v9 pv vf rp hr
  · exact y44 v5 v6 v7 v8 v9 pv vf rp hr
  · exact y45 v5 v6 v7 v8 v9 pv vf rp hr
  · exact y46 v5 v6 v7 v8 v9 pv vf rp hr
  · exact y47 v5 v6 v7 v8 v9 pv vf rp hr
  · exact y48 v5 v6 v7 v8 v9 pv vf rp hr
  · exact y49 v5 v6 v7 v8 v9 pv vf rp hr
theorem yy5 (v5 v6 v7 v8 v9 : AVal) (pv : PV) (vf : Nat → AVal) (rp : RV) (hr : rp = .n ∨ rp = .o) (c : Nat) (h1 : 50 ≤ c) (h2 : c < 60) : ∃ l, good l = true ∧ Run3 F 3 (xd (xr c) pv rp v5 v6 v7 v8 v9 vf) (xd (xr (c + 1)) pv rp (b8 128) (b8 191) v7 v8 say39 vf) (sg l) = ((AVal.tup [] = AVal.tup []) ∧ ChkR (Ts (sg l) (xd (xr (c + 1)) pv rp (b8 128) (b8 191) v7 v8 say39 vf))) := by
  rcases (show c = 50 ∨ c = 51 ∨ c = 52 ∨ c = 53 ∨ c = 54 ∨ c = 55 ∨ c = 56 ∨ c = 57 ∨ c = 58 ∨ c = 59 by omega) with rfl | rfl | rfl | rfl | rfl | rfl | rfl | rfl | rfl | rfl
  · exact y50 v5 v6 v7 v8 v9 pv vf rp hr
  · exact y51 v5 v6 v7 v8 v9 pv vf rp hr
  · exact y52 v5 v6 v7 v8 v9 pv vf rp hr
  · exact y53 v5 v6 v7 v8 v9 pv vf rp hr
  · exact y54 v5 v6 v7 v8 v9 pv vf rp hr
  · exact y55 v5 v6 v7 v8 v9 pv vf rp hr
  · exact y56 v5 v6 v7 v8 v9 pv vf rp hr
  · exact y57 v5 v6 v7 v8 v9 pv vf rp hr
  · exact y58 v5 v6 v7 v8 v9 pv vf rp hr
  · exact y59 v5 v6 v7 v8 v9 pv vf rp hr
theorem hrunx (v5 v6 v7 v8 v9 : AVal) (pv : PV) (vf : Nat → AVal) (rp : RV) (hr : rp = .n ∨ rp = .o) (c : Nat) (hc : c < 60) : ∃ l, good l = true ∧ Run3 F 3 (xd (xr c) pv rp v5 v6 v7 v8 v9 vf) (xd (xr (c + 1)) pv rp (b8 128) (b8 191) v7 v8 say39 vf) (sg l) = ((AVal.tup [] = AVal.tup []) ∧ ChkR (Ts (sg l) (xd (xr (c + 1)) pv rp (b8 128) (b8 191) v7 v8 say39 vf))) := by
  rcases (show c < 10 ∨ (10 ≤ c ∧ c < 20) ∨ (20 ≤ c ∧ c < 30) ∨ (30 ≤ c ∧ c < 40) ∨ (40 ≤ c ∧ c < 50) ∨ (50 ≤ c ∧ c < 60) by omega) with h | h | h | h | h | h
  · exact yy0 v5 v6 v7 v8 v9 pv vf rp hr c (by omega) h
  · exact yy1 v5 v6 v7 v8 v9 pv vf rp hr c h.1 h.2
  · exact yy2 v5 v6 v7 v8 v9 pv vf rp hr c h.1 h.2
  · exact yy3 v5 v6 v7 v8 v9 pv vf rp hr c h.1 h.2
  · exact yy4 v5 v6 v7 v8 v9 pv vf rp hr c h.1 h.2
  · exact yy5 v5 v6 v7 v8 v9 pv vf rp hr c h.1 h.2
end Go.Am
