/-
  The walk of the reference's Quoted.
-/
import Derived.Test.YthngjbhamgmcgaaDoorTxA
import Derived.Test.YthngjbhamgmcgaaDoorRow2
import Derived.Laws.Strings2
import Derived.Laws.Concat
namespace Go.Proofs.YthngjbhamgmcgaaDoor
open Go.RowKit Go.Proofs
attribute [local go_sem] Oper.semAt_some
set_option linter.unusedVariables false
set_option linter.unusedSimpArgs false

theorem ba_ext {a b : ByteArray} (h : a.data.toList = b.data.toList) : a = b := by
  apply ByteArray.ext
  exact Array.toList_inj.1 h
theorem ret_str {a b : ByteArray} (h : a = b) : Ending.returned (.string a) = Ending.returned (.string b) := by rw [h]
theorem ba_app (a b : ByteArray) : (a ++ b).data.toList = a.data.toList ++ b.data.toList := by simp [ByteArray.data_append]
theorem ba_list (a : ByteArray) : a.data.toList.length = a.size := rfl
theorem extract_one (s : ByteArray) (k : Nat) (h : k < s.size) : (s.extract k (k + 1)).data.toList = [s[k]] := by
  rw [ByteArray.data_extract, Array.toList_extract]
  have h2 : k < s.data.toList.length := h
  rw [List.extract_eq_take_drop, List.drop_eq_getElem_cons h2]
  simp
  rfl
theorem hex_one (n : Nat) (h : n < 16) : ((ByteArray.mk #[48, 49, 50, 51, 52, 53, 54, 55, 56, 57, 97, 98, 99, 100, 101, 102]).extract n (n + 1)).data.toList = [hexB n] := by
  rw [extract_one _ n (by show n < 16; exact h), hex_at n h]
theorem slice_one (s : ByteArray) (k : Nat) (h : k < s.size) (w : World) : (Instr.slice 9 (.string s) (some (.int .i64 (k : Int))) (some (.int .i64 ((k : Int) + 1))) none).run Tryd.prog w = .ok (.string (s.extract k (k + 1))) w := by
  rw [run_slice_string w 9 s .i64 .i64 (k : Int) ((k : Int) + 1) Tryd.underlying9 (by omega) (by omega) (by omega)]
  rfl
set_option maxRecDepth 100000 in
set_option maxHeartbeats 4000000 in
theorem RQuoted_any (s : ByteArray) (w : World) (hs : s.size ≤ 10000) : Calls Tryd.prog 57 #[.string s] w (RetV w (.string ⟨(quoB s.data.toList).toArray⟩)) := by
  go_enter Tryd.func57, Tryd.ntmps57
  go_wp2_with fail
  go_loopw [4, 5, 6] (fun o i _ wr => ∃ k q : Nat, ∃ O : ByteArray, k ≤ s.size ∧ i = .int .i64 k ∧ o = .string O ∧ O.data.toList = 34 :: (s.data.toList.take k).flatMap qB ∧ wr = w.drewN q) (fun _ i _ _ => s.size - (intOf i).toNat)
  case atStart => exact ⟨0, 0, _, Nat.zero_le _, rfl, rfl, rfl, rfl⟩
  case round =>
    obtain ⟨k, q, O, hk, rfl, rfl, hO, rfl⟩ := hrel
    by_cases hlt : k < s.size
    · have hsn : (s.data.toList.take (k + 1)).flatMap qB = (s.data.toList.take k).flatMap qB ++ qB s[k] := by rw [take_snocS s k hlt, List.flatMap_append]; simp
      have hll : ((s.data.toList.take k).flatMap qB).length ≤ 40000 := by
        have := flat_qB_len (s.data.toList.take k)
        have h2 : (s.data.toList.take k).length ≤ s.size := by rw [List.length_take]; simp; omega
        omega
      have hOs : O.size ≤ 40001 := by
        rw [← ba_list, hO]
        simp only [List.length_cons]
        omega
      have HS := hide hsn
      have HO := hide hO
      have HX := hide (extract_one s k hlt)
      have hc := (s[k]).toNat_lt
      clear hsn hll hO
      have hex : (s.extract k (k + 1)).size = 1 := by rw [← ba_list, HX.out]; rfl
      have hsl := slice_one s k hlt
      obtain ⟨E1, hE1⟩ : ∃ E1, s.extract k (k + 1) = E1 := ⟨_, rfl⟩
      rw [hE1] at HX hex
      simp only [hE1] at hsl
      clear hE1
      have q1 : (0 : Int) ≤ (k : Int) := by omega
      have q2 : (k : Int) < (s.size : Int) := by omega
      by_cases h34 : (s[k]).toNat = 34 ∨ (s[k]).toNat = 92
      · have HQ := hide (show qB s[k] = [92, s[k]] by unfold qB; rw [if_pos h34])
        rcases h34 with h | h
        · have z1 : (((s[k]).toNat : Int) == 34) = true := by simp [h]
          go_wp2_with fail
          go_roundw
          case rel => exact ⟨k + 1, _, _, by omega, by go_num, rfl, by simp only [ba_app, HO.out, HX.out, HS.out, HQ.out]; simp, by first | rfl | exact World.drewN_drewN _ _ _⟩
          case measure => simp [intOf]; omega
        · have z1 : (((s[k]).toNat : Int) == 34) = false := by simp [h]
          have z2 : (((s[k]).toNat : Int) == 92) = true := by simp [h]
          go_wp2_with fail
          go_roundw
          case rel => exact ⟨k + 1, _, _, by omega, by go_num, rfl, by simp only [ba_app, HO.out, HX.out, HS.out, HQ.out]; simp, by first | rfl | exact World.drewN_drewN _ _ _⟩
          case measure => simp [intOf]; omega
      · have z1 : (((s[k]).toNat : Int) == 34) = false := by simp; omega
        have z2 : (((s[k]).toNat : Int) == 92) = false := by simp; omega
        by_cases h10 : (s[k]).toNat = 10
        · have HQ := hide (show qB s[k] = [92, 110] by unfold qB; rw [if_neg h34, if_pos h10])
          have z3 : (((s[k]).toNat : Int) == 10) = true := by simp [h10]
          clear h34
          go_wp2_with fail
          go_roundw
          case rel => exact ⟨k + 1, _, _, by omega, by go_num, rfl, by simp only [ba_app, HO.out, HX.out, HS.out, HQ.out]; simp, by first | rfl | exact World.drewN_drewN _ _ _⟩
          case measure => simp [intOf]; omega
        · have z3 : (((s[k]).toNat : Int) == 10) = false := by simp; omega
          by_cases hx : (s[k]).toNat < 32 ∨ 126 < (s[k]).toNat
          · have HQ := hide (show qB s[k] = [92, 120, hexB ((s[k]).toNat / 16), hexB ((s[k]).toNat % 16)] by unfold qB; rw [if_neg h34, if_neg h10, if_pos hx])
            have hs1 := fun w => slice_one ⟨#[48, 49, 50, 51, 52, 53, 54, 55, 56, 57, 97, 98, 99, 100, 101, 102]⟩ ((s[k]).toNat / 16) (show _ < 16 by omega) w
            have hs2 := fun w => slice_one ⟨#[48, 49, 50, 51, 52, 53, 54, 55, 56, 57, 97, 98, 99, 100, 101, 102]⟩ ((s[k]).toNat % 16) (show _ < 16 by omega) w
            have hg1 := hex_one ((s[k]).toNat / 16) (by omega)
            have hg2 := hex_one ((s[k]).toNat % 16) (by omega)
            rw [show ((((s[k]).toNat / 16 : Nat)) : Int) = ((s[k]).toNat : Int) / 16 by omega] at hs1
            rw [show ((((s[k]).toNat % 16 : Nat)) : Int) = ((s[k]).toNat : Int) % 16 by omega] at hs2
            obtain ⟨G1, hG1⟩ : ∃ G1, (ByteArray.mk #[48, 49, 50, 51, 52, 53, 54, 55, 56, 57, 97, 98, 99, 100, 101, 102]).extract ((s[k]).toNat / 16) ((s[k]).toNat / 16 + 1) = G1 := ⟨_, rfl⟩
            obtain ⟨G2, hG2⟩ : ∃ G2, (ByteArray.mk #[48, 49, 50, 51, 52, 53, 54, 55, 56, 57, 97, 98, 99, 100, 101, 102]).extract ((s[k]).toNat % 16) ((s[k]).toNat % 16 + 1) = G2 := ⟨_, rfl⟩
            simp only [hG1] at hs1 hg1
            simp only [hG2] at hs2 hg2
            clear hG1 hG2
            have HG1 := hide hg1
            have HG2 := hide hg2
            have hn1 : G1.size = 1 := by rw [← ba_list, hg1]; rfl
            have hn2 : G2.size = 1 := by rw [← ba_list, hg2]; rfl
            clear h34 h10 hg1 hg2
            rcases hx with h | h
            · have z4 : decide (((s[k]).toNat : Int) < 32) = true := by simp; omega
              go_wp2_with fail
              go_quiet (fail)
              go_wp2_with fail
              go_roundw
              case rel => exact ⟨k + 1, _, _, by omega, by go_num, rfl, by simp only [ba_app, HO.out, HX.out, HS.out, HQ.out, HG1.out, HG2.out]; simp, by first | rfl | exact World.drewN_drewN _ _ _⟩
              case measure => simp [intOf]; omega
            · have z4 : decide (((s[k]).toNat : Int) < 32) = false := by simp; omega
              have z5 : decide ((126 : Int) < ((s[k]).toNat : Int)) = true := by simp; omega
              go_wp2_with fail
              go_quiet (fail)
              go_wp2_with fail
              go_roundw
              case rel => exact ⟨k + 1, _, _, by omega, by go_num, rfl, by simp only [ba_app, HO.out, HX.out, HS.out, HQ.out, HG1.out, HG2.out]; simp, by first | rfl | exact World.drewN_drewN _ _ _⟩
              case measure => simp [intOf]; omega
          · have HQ := hide (show qB s[k] = [s[k]] by unfold qB; rw [if_neg h34, if_neg h10, if_neg hx])
            have z4 : decide (((s[k]).toNat : Int) < 32) = false := by simp; omega
            have z5 : decide ((126 : Int) < ((s[k]).toNat : Int)) = false := by simp; omega
            clear h34 h10 hx
            go_wp2_with fail
            go_roundw
            case rel => exact ⟨k + 1, _, _, by omega, by go_num, rfl, by simp only [ba_app, HO.out, HX.out, HS.out, HQ.out]; simp, by first | rfl | exact World.drewN_drewN _ _ _⟩
            case measure => simp [intOf]; omega
    · obtain rfl : k = s.size := by omega
      rw [List.take_of_length_le (by simp)] at hO
      have hOs : O.size ≤ 40001 := by
        have := flat_qB_len s.data.toList
        have h2 : s.data.toList.length = s.size := rfl
        rw [← ba_list, hO]
        simp only [List.length_cons]
        omega
      have HO := hide hO
      clear hO
      go_wp2_with fail
      go_ret
      have HE := ba_ext (a := O ++ ⟨#[34]⟩) (b := ⟨(quoB s.data.toList).toArray⟩) (by simp only [ba_app, HO.out]; simp [quoB])
      exact ⟨ret_str HE, below_drewN (Below.refl _ _) _⟩
end Go.Proofs.YthngjbhamgmcgaaDoor
