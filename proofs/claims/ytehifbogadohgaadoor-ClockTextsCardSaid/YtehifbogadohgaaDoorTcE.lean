/-
  The walks of the reference's Number and number. No condition.
-/
import Derived.Test.YtehifbogadohgaaDoorTcD
import Derived.Test.YtehifbogadohgaaDoorMem
import Derived.Test.YtehifbogadohgaaDoorProg
import Derived.WalkKit
import Derived.Deep.Cut
import Derived.Deep.CutRange
import Derived.Handy
import Derived.BigQuiet
namespace Go.Proofs.YtehifbogadohgaaDoor
open Go.RowKit
set_option linter.unusedVariables false
set_option linter.unusedSimpArgs false

def RetNu (w : World) (n : Int) (e : Ending) (w' : World) : Prop := ∃ b : Bool, e = .returned (.tuple #[.int .i64 n, .bool b]) ∧ w = w'
theorem head_at (s : ByteArray) (h : 0 < s.size) : s.data.toList.head? = some s[0] := by
  rw [List.head?_eq_getElem?, Lib.data_getElem? s 0 h]
theorem isDg_lo {c : UInt8} (h : (c.toNat : Int) < 48) : isDg c = false := by unfold isDg; rw [Bool.and_eq_false_iff]; exact .inl (by rw [decide_eq_false_iff_not]; omega)
theorem isDg_hi {c : UInt8} (h : 57 < (c.toNat : Int)) : isDg c = false := by unfold isDg; rw [Bool.and_eq_false_iff]; exact .inr (by rw [decide_eq_false_iff_not]; omega)
set_option maxRecDepth 100000 in
set_option maxHeartbeats 4000000 in
theorem Number_any (s : ByteArray) (w : World) (hs : s.size ≤ 1000000) : Calls Tryd.prog 31 #[.string s] w (RetNu w (numV s.data.toList)) := by
  obtain ⟨fr, hfr⟩ : ∃ fr, frN s.data.toList = fr := ⟨_, rfl⟩
  have HFR := hide hfr
  have hls : s.data.toList.length = s.size := by simp
  have HLS := hide hls
  have hfr1 : fr ≤ 1 := by rw [← hfr]; unfold frN; split <;> omega
  clear hfr hls
  go_enter Tryd.func31, Tryd.ntmps31
  go_upto_region 1 with fail
  first
  | (iterate 2 (first | go_values | go_skip | go_guarded | go_step | go_upon | go_back)); go_cut [4] from 5 to 53 (fun s4 wx => s4 = .int .i64 (fr : Int) ∧ fr ≤ s.size ∧ w = wx)
  | (iterate 3 (first | go_values | go_skip | go_guarded | go_step | go_upon | go_back)); go_cut [4] from 5 to 53 (fun s4 wx => s4 = .int .i64 (fr : Int) ∧ fr ≤ s.size ∧ w = wx)
  | (iterate 4 (first | go_values | go_skip | go_guarded | go_step | go_upon | go_back)); go_cut [4] from 5 to 53 (fun s4 wx => s4 = .int .i64 (fr : Int) ∧ fr ≤ s.size ∧ w = wx)
  | (iterate 5 (first | go_values | go_skip | go_guarded | go_step | go_upon | go_back)); go_cut [4] from 5 to 53 (fun s4 wx => s4 = .int .i64 (fr : Int) ∧ fr ≤ s.size ∧ w = wx)
  | (iterate 6 (first | go_values | go_skip | go_guarded | go_step | go_upon | go_back)); go_cut [4] from 5 to 53 (fun s4 wx => s4 = .int .i64 (fr : Int) ∧ fr ≤ s.size ∧ w = wx)
  | (iterate 7 (first | go_values | go_skip | go_guarded | go_step | go_upon | go_back)); go_cut [4] from 5 to 53 (fun s4 wx => s4 = .int .i64 (fr : Int) ∧ fr ≤ s.size ∧ w = wx)
  | (iterate 8 (first | go_values | go_skip | go_guarded | go_step | go_upon | go_back)); go_cut [4] from 5 to 53 (fun s4 wx => s4 = .int .i64 (fr : Int) ∧ fr ≤ s.size ∧ w = wx)
  | (iterate 9 (first | go_values | go_skip | go_guarded | go_step | go_upon | go_back)); go_cut [4] from 5 to 53 (fun s4 wx => s4 = .int .i64 (fr : Int) ∧ fr ≤ s.size ∧ w = wx)
  | (iterate 10 (first | go_values | go_skip | go_guarded | go_step | go_upon | go_back)); go_cut [4] from 5 to 53 (fun s4 wx => s4 = .int .i64 (fr : Int) ∧ fr ≤ s.size ∧ w = wx)
  | (iterate 11 (first | go_values | go_skip | go_guarded | go_step | go_upon | go_back)); go_cut [4] from 5 to 53 (fun s4 wx => s4 = .int .i64 (fr : Int) ∧ fr ≤ s.size ∧ w = wx)
  | (iterate 12 (first | go_values | go_skip | go_guarded | go_step | go_upon | go_back)); go_cut [4] from 5 to 53 (fun s4 wx => s4 = .int .i64 (fr : Int) ∧ fr ≤ s.size ∧ w = wx)
  | (iterate 13 (first | go_values | go_skip | go_guarded | go_step | go_upon | go_back)); go_cut [4] from 5 to 53 (fun s4 wx => s4 = .int .i64 (fr : Int) ∧ fr ≤ s.size ∧ w = wx)
  | (iterate 14 (first | go_values | go_skip | go_guarded | go_step | go_upon | go_back)); go_cut [4] from 5 to 53 (fun s4 wx => s4 = .int .i64 (fr : Int) ∧ fr ≤ s.size ∧ w = wx)
  | (iterate 15 (first | go_values | go_skip | go_guarded | go_step | go_upon | go_back)); go_cut [4] from 5 to 53 (fun s4 wx => s4 = .int .i64 (fr : Int) ∧ fr ≤ s.size ∧ w = wx)
  | (iterate 16 (first | go_values | go_skip | go_guarded | go_step | go_upon | go_back)); go_cut [4] from 5 to 53 (fun s4 wx => s4 = .int .i64 (fr : Int) ∧ fr ≤ s.size ∧ w = wx)
  | (iterate 17 (first | go_values | go_skip | go_guarded | go_step | go_upon | go_back)); go_cut [4] from 5 to 53 (fun s4 wx => s4 = .int .i64 (fr : Int) ∧ fr ≤ s.size ∧ w = wx)
  | (iterate 18 (first | go_values | go_skip | go_guarded | go_step | go_upon | go_back)); go_cut [4] from 5 to 53 (fun s4 wx => s4 = .int .i64 (fr : Int) ∧ fr ≤ s.size ∧ w = wx)
  | (iterate 19 (first | go_values | go_skip | go_guarded | go_step | go_upon | go_back)); go_cut [4] from 5 to 53 (fun s4 wx => s4 = .int .i64 (fr : Int) ∧ fr ≤ s.size ∧ w = wx)
  case first =>
    by_cases h0 : 0 < s.size
    · have hh := head_at s h0
      by_cases h45 : (s[0].toNat : Int) = 45
      · have hf : fr = 1 := by
          rw [← HFR.out]
          unfold frN
          rw [hh]
          have e : s[0] = 45 := UInt8.toNat_inj.1 (by have : (45 : UInt8).toNat = 45 := rfl; omega)
          rw [e, if_pos rfl]
        have z : ((s[0].toNat : Int) == 45) = true := by simpa using h45
        have HF := hide hf
        clear hf h45 hh
        go_wp2_with fail
        go_meet
        case rel => exact ⟨by rw [HF.out]; rfl, by have := HF.out; omega, rfl⟩
      · have hf : fr = 0 := by
          rw [← HFR.out]
          unfold frN
          rw [hh, if_neg]
          intro e
          injection e with e
          rw [e] at h45
          exact h45 rfl
        have z : ((s[0].toNat : Int) == 45) = false := by simpa using h45
        have HF := hide hf
        clear hf h45 hh
        go_wp2_with fail
        go_meet
        case rel => exact ⟨by rw [HF.out]; rfl, by have := HF.out; omega, rfl⟩
    · have hf : fr = 0 := by
        rw [← HFR.out]
        unfold frN
        have e : s.data.toList = [] := List.eq_nil_of_length_eq_zero (by rw [HLS.out]; omega)
        rw [e]
        rfl
      have HF := hide hf
      clear hf
      go_wp2_with fail
      go_meet
      case rel => exact ⟨by rw [HF.out]; rfl, by have := HF.out; omega, rfl⟩
  case rest =>
  obtain ⟨rfl, hfs, rfl⟩ := hcut
  go_wp2
  go_loop [5, 6] (fun n i => ∃ (i0 j : Nat) (m : Int), n = .int .i64 m ∧ i = .int .i64 (i0 : Int) ∧ i0 = fr + j ∧ i0 ≤ s.size ∧ NumI s.data.toList j m) (fun _ i => s.size - (intOf i).toNat)
  case atStart => exact ⟨fr, 0, 0, rfl, rfl, rfl, hfs, NumI.zero _⟩
  case round =>
    obtain ⟨i0, j, m, rfl, rfl, hij, hle, hI⟩ := hrel
    have HI := hide hI
    have HIJ := hide hij
    have hj18 := hI.le18
    have hi2 : fr ≤ i0 ∧ i0 ≤ fr + 18 := by omega
    have hb := hI.bound
    clear hI hij
    by_cases hlt : i0 < s.size
    · have hc := Lib.data_getElem? s i0 hlt
      have HC := hide (show s.data.toList[frN s.data.toList + j]? = some s[i0] from by rw [HFR.out, ← HIJ.out]; exact hc)
      have q1 : (0 : Int) ≤ (i0 : Int) := by omega
      have q2 : (i0 : Int) < (s.size : Int) := by omega
      have hc8 := (s[i0]).toNat_lt
      clear hc
      obtain ⟨cv, hcv⟩ : ∃ cv : Nat, (s[i0]).toNat = cv := ⟨_, rfl⟩
      have HCV := hide hcv
      by_cases h1 : cv < 48
      · have z : ((cv : Int) < 48) := by omega
        have HN := hide (num_bad HC.out (isDg_lo (by rw [hcv]; omega)))
        clear hb
        go_wp2
        refine bodyPost_ret (results_tmp2 rfl _ _ _) rfl ?_
        exact ⟨false, by rw [HN.out]; rfl, rfl⟩
      · by_cases h2 : 57 < cv
        · have z : (57 < (cv : Int)) := by omega
          have HN := hide (num_bad HC.out (isDg_hi (by rw [hcv]; omega)))
          clear hb
          go_wp2
          refine bodyPost_ret (results_tmp2 rfl _ _ _) rfl ?_
          exact ⟨false, by rw [HN.out]; rfl, rfl⟩
        · have hw1 : IntKind.u8.wrap ((cv : Int) - 48) = (cv : Int) - 48 := by rw [IntKind.wrap_u8]; omega
          by_cases h18 : i0 = fr + 18
          · have z : (18 : Int) ≤ (i0 : Int) - (fr : Int) := by omega
            have HN := hide (HI.out.far HC.out (by have := HIJ.out; omega))
            have HH := hide h18
            clear hb h18
            go_wp2
            refine bodyPost_ret (results_tmp2 rfl _ _ _) rfl ?_
            exact ⟨false, by rw [HN.out]; rfl, rfl⟩
          · have z : ¬ (18 : Int) ≤ (i0 : Int) - (fr : Int) := by omega
            have z2 : (i0 : Int) - (fr : Int) < 18 := by omega
            have hj : j < 18 := by have := HIJ.out; omega
            have hb2 := HI.out.bound2 hj
            have HS := hide (show NumI s.data.toList (j + 1) (10 * m + ((cv : Int) - 48)) from by
              have := HI.out.step HC.out (by unfold isDg; rw [hcv, Bool.and_eq_true, decide_eq_true_eq, decide_eq_true_eq]; omega) hj
              rwa [hcv] at this)
            clear h18
            go_wp2
            go_round
            case rel => exact ⟨i0 + 1, j + 1, 10 * m + ((cv : Int) - 48), by go_num, by go_num, by have := HIJ.out; omega, by omega, HS.out⟩
            case measure => simp [intOf]; omega
    · have he : i0 = s.size := by omega
      have HN := hide (HI.out.fin (by rw [HFR.out, HLS.out, ← HIJ.out]; exact he))
      by_cases hf : fr = 1
      · have z : ((fr : Int) == 1) = true := by rw [hf]; rfl
        have HF := hide hf
        clear hf he
        go_wp2
        refine bodyPost_ret (results_tmp2 rfl _ _ _) rfl ?_
        exact ⟨_, by rw [HN.out, HFR.out, if_pos HF.out]; rfl, rfl⟩
      · have z : ((fr : Int) == 1) = false := by rw [beq_eq_false_iff_ne]; omega
        have HF := hide hf
        clear hf he
        go_wp2
        refine bodyPost_ret (results_tmp2 rfl _ _ _) rfl ?_
        exact ⟨_, by rw [HN.out, HFR.out, if_neg HF.out]; rfl, rfl⟩
theorem number_any (s : ByteArray) (w : World) (hs : s.size ≤ 1000000) : Calls Tryd.prog 19 #[.string s] w (fun e w' => e = .returned (.int .i64 (numV s.data.toList)) ∧ w = w') := by
  go_enter Tryd.func19, Tryd.ntmps19
  go_wp2_with fail
  refine (Number_any s w hs).mono ?_
  rintro e w' ⟨b, rfl, rfl⟩
  go_wp2
  go_ret
  exact ⟨rfl, rfl⟩
end Go.Proofs.YtehifbogadohgaaDoor
