/-
  The reference's CompareValues, for every two values.
-/
import Derived.Test.YtiioiajcoiaalaaGreatDoorBgS2i
namespace Go.Proofs.YtiioiajcoiaalaaGreatDoor
open Go.RowKit
theorem RCompareValues_any (a b : Val) (w : World) : Calls Tryz.prog 120 #[.agg #[.int .i64 a.k, .int .i64 a.n, .string a.s], .agg #[.int .i64 b.k, .int .i64 b.n, .string b.s]] w (RetV w (.int .i64 (cmpV a b))) := by
  by_cases hxy : cls a = cls b
  · have HR : cmpI (cls a) (cls b) = 0 := by rw [hxy]; exact cmpI_self _
    rcases cls_cases a with h0 | h0 | h0
    · rw [cmpV_0 h0 HR]
      exact RCV_a a b _ _ w rfl rfl h0 (by rw [← hxy, h0])
    · rw [cmpV_1 h0 HR]
      unfold cmpI
      split
      · exact RCV_b a b _ _ w rfl rfl h0 (by rw [← hxy, h0]) (by assumption)
      · split
        · exact RCV_c a b _ _ w rfl rfl h0 (by rw [← hxy, h0]) (by assumption)
        · exact RCV_d a b _ _ w rfl rfl h0 (by rw [← hxy, h0]) (by assumption) (by assumption)
    · rw [cmpV_2 h0 HR]
      unfold cmpS
      by_cases h1 : ltS a.s b.s
      · rw [if_pos h1]
        exact RCV_e a b _ _ w rfl rfl h0 (by rw [← hxy, h0]) (less_yes h1)
      · by_cases h2 : ltS b.s a.s
        · rw [if_neg h1, if_pos h2]
          exact RCV_f a b _ _ w rfl rfl h0 (by rw [← hxy, h0]) (less_no h1) (by rw [str_eq0]; exact decide_eq_false fun e => h1 (by rw [← e] at h2; rw [← e]; exact h2))
        · rw [if_neg h1, if_neg h2]
          exact RCV_g a b _ _ w rfl rfl h0 (by rw [← hxy, h0]) (less_no h1) (by rw [str_eq0]; exact decide_eq_true (ltS_eq h1 h2))
  · have h : cmpI (cls a) (cls b) = if cls a < cls b then -1 else if cls b < cls a then 1 else 0 := rfl
    by_cases h1 : cls a < cls b
    · rw [cmpV_ne (by rw [h, if_pos h1]; omega), h, if_pos h1]
      exact RCV_h a b _ _ w rfl rfl (by simpa using hxy) h1
    · have h2 : cls b < cls a := by omega
      rw [cmpV_ne (by rw [h, if_neg h1, if_pos h2]; omega), h, if_neg h1, if_pos h2]
      exact RCV_i a b _ _ w rfl rfl (by simpa using hxy) h1
end Go.Proofs.YtiioiajcoiaalaaGreatDoor
