/-
  (In seats that hold the bag's texts: these stand in BgR1 and BgR2.)
  The walk of the program's quoted.
  (In seats that hold the bag's texts: these stand in BgS1 and BgS3.)
  The walk of the reference's Quoted.
  The walks of Text on both sides.
-/
import Derived.Test.YtiioiajcoiaalaaGreatDoorBgR2
import Derived.Test.YtiioiajcoiaalaaGreatDoorTxM
import Derived.Test.YtiioiajcoiaalaaGreatDoorLib0
import Derived.Deep.CutRange
import Derived.Deep.CutBlock
import Derived.Test.YtiioiajcoiaalaaGreatDoorBgS3
import Derived.Laws.Strings2
import Derived.Laws.Concat
import Derived.Test.YtiioiajcoiaalaaGreatDoorApp
namespace Go.Proofs.YtiioiajcoiaalaaGreatDoor

section
open Go.RowKit Go.Proofs
attribute [local go_sem] Oper.semAt_some
set_option linter.unusedVariables false

theorem take_snocS (s : ByteArray) (k : Nat) (h : k < s.size) : s.data.toList.take (k + 1) = s.data.toList.take k ++ [s[k]] := by
  rw [List.take_succ_eq_append_getElem (by simpa using h)]; rfl
theorem wbyteI_any (B b : Nat) (l : List UInt8) (ci : Int) (c : UInt8) (w : World) (hci : ci = (c.toNat : Int)) (h : Bd w B b l) (hlen : l.length ≤ 1000000) (hB : B ≤ w.heap.size) :
    Calls Tryz.prog 145 #[.pointer (some ⟨b, 0, none⟩), .int .u8 ci] w fun e w' => e = .returned .nilIface ∧ Bd w' B b (l ++ [c]) ∧ Below B w w' := by
  subst hci; exact wbyte_any B b l c w h hlen hB
theorem hex_at (n : Nat) (h : n < 16) (hp : n < (ByteArray.mk #[48, 49, 50, 51, 52, 53, 54, 55, 56, 57, 97, 98, 99, 100, 101, 102]).size) : (ByteArray.mk #[48, 49, 50, 51, 52, 53, 54, 55, 56, 57, 97, 98, 99, 100, 101, 102])[n] = hexB n := by
  have h2 : ∀ i : Fin 16, (ByteArray.mk #[48, 49, 50, 51, 52, 53, 54, 55, 56, 57, 97, 98, 99, 100, 101, 102])[i.val]'(i.isLt) = hexB i.val := by decide
  exact h2 ⟨n, h⟩
set_option maxRecDepth 100000 in
set_option maxHeartbeats 4000000 in
theorem quoted_any (s : ByteArray) (w : World) (hs : s.size ≤ 10000) : Calls Tryz.prog 117 #[.string s] w (RetV w (.string ⟨(quoB s.data.toList).toArray⟩)) := by
  have k0 := Bd.new w
  have hB0 : Below w.heap.size w (w.alloc (.cells #[.pointer none, .slice none 0 0] 109)) := (Below.refl _ _).alloc (Nat.le_refl _) _
  go_enter Tryz.func117, Tryz.ntmps117
  go_upto_region 2 with fail
  obtain ⟨W, hW⟩ : ∃ W, w.alloc (.cells #[.pointer none, .slice none 0 0] 109) = W := ⟨_, rfl⟩
  obtain ⟨b, hb⟩ : ∃ b, w.heap.size = b := ⟨_, rfl⟩
  rw [hW] at k0 hB0 ⊢
  rw [hb] at k0 hB0 ⊢
  have hbw : b ≤ w.heap.size := by omega
  clear hW
  have HC := hide (wbyteI_any b b [] 34 34 W rfl k0 (by simp) (by have := hB0.size; omega))
  go_wp2_with fail
  refine HC.out.mono ?_
  rintro e W1 ⟨rfl, k1, hB1⟩
  have hB01 := hB0.trans hB1
  have k1 : Bd W1 b b (34 :: (s.data.toList.take 0).flatMap qB) := k1
  clear k0 hB0 hB1 HC
  go_wp2_with fail
  go_loopw [4, 5, 9] (fun _ _ i wr => ∃ k : Nat, k ≤ s.size ∧ i = .int .i64 k ∧ Bd wr b b (34 :: (s.data.toList.take k).flatMap qB) ∧ Below b w wr) (fun _ _ i _ => s.size - (intOf i).toNat)
  case atStart => exact ⟨0, Nat.zero_le _, rfl, k1, hB01⟩
  case round =>
    clear k1 hB01
    obtain ⟨k, hk, rfl, kb, hB⟩ := hrel
    have hsz := hB.size
    have hbr : b ≤ wr.heap.size := by omega
    by_cases hlt : k < s.size
    · have hsn : (s.data.toList.take (k + 1)).flatMap qB = (s.data.toList.take k).flatMap qB ++ qB s[k] := by rw [take_snocS s k hlt, List.flatMap_append]; simp
      have hll : ((s.data.toList.take k).flatMap qB).length ≤ 40000 := by
        have := flat_qB_len (s.data.toList.take k)
        have h2 : (s.data.toList.take k).length ≤ s.size := by rw [List.length_take]; simp; omega
        omega
      have HS := hide hsn
      have hc := (s[k]).toNat_lt
      obtain ⟨L, hL⟩ : ∃ L, (s.data.toList.take k).flatMap qB = L := ⟨_, rfl⟩
      rw [hL] at kb hll
      have HL := hide hL
      clear hsn hL
      have q1 : (0 : Int) ≤ (k : Int) := by omega
      have q2 : (k : Int) < (s.size : Int) := by omega
      by_cases h34 : (s[k]).toNat = 34 ∨ (s[k]).toNat = 92
      · have HQ := hide (show qB s[k] = [92, s[k]] by unfold qB; rw [if_pos h34])
        have HC := hide (wbyteI_any b b (34 :: L) 92 92 wr rfl kb (by simp; omega) hbr)
        rcases h34 with h | h
        · have z1 : (((s[k]).toNat : Int) == 34) = true := by simp [h]
          go_wp2_with fail
          refine HC.out.mono ?_
          rintro e W2 ⟨rfl, k2, hB2⟩
          have HC2 := hide (wbyteI_any b b (34 :: L ++ [92]) 34 s[k] W2 (by omega) k2 (by simp; omega) (by have := hB2.size; omega))
          have hBx := hB.trans hB2
          clear kb hB hB2 HC k2
          go_wp2_with fail
          refine HC2.out.mono ?_
          rintro e W3 ⟨rfl, k3, hB3⟩
          have HK := hide k3
          have HBX := hide (hBx.trans hB3)
          clear hBx hB3 HC2 k3
          go_wp2_with fail
          go_roundw
          case rel => exact ⟨k + 1, by omega, by go_num, by rw [HS.out, HL.out, HQ.out]; simpa using HK.out, HBX.out⟩
          case measure => simp [intOf]; omega
        · have z1 : (((s[k]).toNat : Int) == 34) = false := by simp [h]
          have z2 : (((s[k]).toNat : Int) == 92) = true := by simp [h]
          go_wp2_with fail
          refine HC.out.mono ?_
          rintro e W2 ⟨rfl, k2, hB2⟩
          have HC2 := hide (wbyteI_any b b (34 :: L ++ [92]) 92 s[k] W2 (by omega) k2 (by simp; omega) (by have := hB2.size; omega))
          have hBx := hB.trans hB2
          clear kb hB hB2 HC k2
          go_wp2_with fail
          refine HC2.out.mono ?_
          rintro e W3 ⟨rfl, k3, hB3⟩
          have HK := hide k3
          have HBX := hide (hBx.trans hB3)
          clear hBx hB3 HC2 k3
          go_wp2_with fail
          go_roundw
          case rel => exact ⟨k + 1, by omega, by go_num, by rw [HS.out, HL.out, HQ.out]; simpa using HK.out, HBX.out⟩
          case measure => simp [intOf]; omega
      · have z1 : (((s[k]).toNat : Int) == 34) = false := by simp; omega
        have z2 : (((s[k]).toNat : Int) == 92) = false := by simp; omega
        by_cases h10 : (s[k]).toNat = 10
        · have HQ := hide (show qB s[k] = [92, 110] by unfold qB; rw [if_neg h34, if_pos h10])
          have z3 : (((s[k]).toNat : Int) == 10) = true := by simp [h10]
          have HC := hide (wstr_any b b (34 :: L) ⟨#[92, 110]⟩ wr kb (by simp only [List.length_cons]; show _ + 2 ≤ _; omega) hbr)
          clear h34
          go_wp2_with fail
          refine HC.out.mono ?_
          rintro e W2 ⟨rfl, k2, hB2⟩
          have HK := hide k2
          have HBX := hide (hB.trans hB2)
          clear kb hB hB2 HC k2
          go_wp2_with fail
          go_roundw
          case rel => exact ⟨k + 1, by omega, by go_num, by rw [HS.out, HL.out, HQ.out]; simpa using HK.out, HBX.out⟩
          case measure => simp [intOf]; omega
        · have z3 : (((s[k]).toNat : Int) == 10) = false := by simp; omega
          by_cases hx : (s[k]).toNat < 32 ∨ 126 < (s[k]).toNat
          · have HQ := hide (show qB s[k] = [92, 120, hexB ((s[k]).toNat / 16), hexB ((s[k]).toNat % 16)] by unfold qB; rw [if_neg h34, if_neg h10, if_pos hx])
            have HC := hide (wstr_any b b (34 :: L) ⟨#[92, 120]⟩ wr kb (by simp only [List.length_cons]; show _ + 2 ≤ _; omega) hbr)
            clear h34 h10
            rcases hx with h | h
            · have z4 : decide (((s[k]).toNat : Int) < 32) = true := by simp; omega
              go_wp2_with fail
              refine HC.out.mono ?_
              rintro e W2 ⟨rfl, k2, hB2⟩
              have hBx := hB.trans hB2
              have hs2 := hB2.size
              clear kb hB hB2 HC
              go_wp2_with fail
              refine (wbyteI_any b b _ _ (hexB ((s[k]).toNat / 16)) W2 (by rw [hex_at _ (by omega)]) k2 (by simp; omega) (by omega)).mono ?_
              rintro e W3 ⟨rfl, k3, hB3⟩
              have hBy := hBx.trans hB3
              have hs3 := hB3.size
              clear hBx hB3 k2
              go_wp2_with fail
              refine (wbyteI_any b b _ _ (hexB ((s[k]).toNat % 16)) W3 (by rw [hex_at _ (by omega)]) k3 (by simp; omega) (by omega)).mono ?_
              rintro e W4 ⟨rfl, k4, hB4⟩
              have HK := hide k4
              have HBX := hide (hBy.trans hB4)
              clear hBy hB4 k3 k4
              go_wp2_with fail
              go_roundw
              case rel => exact ⟨k + 1, by omega, by go_num, by rw [HS.out, HL.out, HQ.out]; simpa using HK.out, HBX.out⟩
              case measure => simp [intOf]; omega
            · have z4 : decide (((s[k]).toNat : Int) < 32) = false := by simp; omega
              have z5 : decide ((126 : Int) < ((s[k]).toNat : Int)) = true := by simp; omega
              go_wp2_with fail
              refine HC.out.mono ?_
              rintro e W2 ⟨rfl, k2, hB2⟩
              have hBx := hB.trans hB2
              have hs2 := hB2.size
              clear kb hB hB2 HC
              go_wp2_with fail
              refine (wbyteI_any b b _ _ (hexB ((s[k]).toNat / 16)) W2 (by rw [hex_at _ (by omega)]) k2 (by simp; omega) (by omega)).mono ?_
              rintro e W3 ⟨rfl, k3, hB3⟩
              have hBy := hBx.trans hB3
              have hs3 := hB3.size
              clear hBx hB3 k2
              go_wp2_with fail
              refine (wbyteI_any b b _ _ (hexB ((s[k]).toNat % 16)) W3 (by rw [hex_at _ (by omega)]) k3 (by simp; omega) (by omega)).mono ?_
              rintro e W4 ⟨rfl, k4, hB4⟩
              have HK := hide k4
              have HBX := hide (hBy.trans hB4)
              clear hBy hB4 k3 k4
              go_wp2_with fail
              go_roundw
              case rel => exact ⟨k + 1, by omega, by go_num, by rw [HS.out, HL.out, HQ.out]; simpa using HK.out, HBX.out⟩
              case measure => simp [intOf]; omega
          · have HQ := hide (show qB s[k] = [s[k]] by unfold qB; rw [if_neg h34, if_neg h10, if_neg hx])
            have z4 : decide (((s[k]).toNat : Int) < 32) = false := by simp; omega
            have z5 : decide ((126 : Int) < ((s[k]).toNat : Int)) = false := by simp; omega
            have HC := hide (wbyteI_any b b (34 :: L) _ s[k] wr rfl kb (by simp; omega) hbr)
            clear h34 h10 hx
            go_wp2_with fail
            refine HC.out.mono ?_
            rintro e W2 ⟨rfl, k2, hB2⟩
            have HK := hide k2
            have HBX := hide (hB.trans hB2)
            clear kb hB hB2 HC k2
            go_wp2_with fail
            go_roundw
            case rel => exact ⟨k + 1, by omega, by go_num, by rw [HS.out, HL.out, HQ.out]; simpa using HK.out, HBX.out⟩
            case measure => simp [intOf]; omega
    · obtain rfl : k = s.size := by omega
      rw [List.take_of_length_le (by simp)] at kb
      have hll : (34 :: s.data.toList.flatMap qB).length ≤ 40001 := by
        have := flat_qB_len s.data.toList
        have h2 : s.data.toList.length = s.size := rfl
        simp only [List.length_cons]
        omega
      have HC := hide (wbyteI_any b b (34 :: s.data.toList.flatMap qB) 34 34 wr rfl kb (by omega) hbr)
      clear hll
      go_wp2_with fail
      refine HC.out.mono ?_
      rintro e W2 ⟨rfl, k2, hB2⟩
      have hBx := hB.trans hB2
      have HC2 := hide (str_any b b _ W2 k2 (by have := hB2.size; omega))
      clear kb hB hB2 HC
      go_wp2_with fail
      refine HC2.out.mono ?_
      rintro e W3 ⟨rfl, _, hB3⟩
      have HB := hide (hBx.trans hB3)
      clear hBx hB3 HC2 k2
      go_wp2_with fail
      go_ret
      exact ⟨rfl, by rw [hb]; exact HB.out⟩
end

section
open Go.RowKit Go.Proofs
attribute [local go_sem] Oper.semAt_some
set_option linter.unusedVariables false
set_option linter.unusedSimpArgs false

theorem ba_ext {a b : ByteArray} (h : a.data.toList = b.data.toList) : a = b := by
  apply ByteArray.ext
  exact Array.toList_inj.1 h
theorem ret_str {a b : ByteArray} (h : a = b) : Ending.returned (.string a) = Ending.returned (.string b) := by rw [h]
theorem ba_app (a b : ByteArray) : (a ++ b).data.toList = a.data.toList ++ b.data.toList := by simp [ByteArray.data_append]
theorem ba_list (a : ByteArray) : a.data.toList.length = a.size := rfl
theorem extract_one (s : ByteArray) (k : Nat) (h : k < s.size) : (s.extract k (k + 1)).data.toList = [s[k]] := by
  rw [ByteArray.data_extract, Array.toList_extract]
  have h2 : k < s.data.toList.length := h
  rw [List.extract_eq_take_drop, List.drop_eq_getElem_cons h2]
  simp
  rfl
theorem hex_one (n : Nat) (h : n < 16) : ((ByteArray.mk #[48, 49, 50, 51, 52, 53, 54, 55, 56, 57, 97, 98, 99, 100, 101, 102]).extract n (n + 1)).data.toList = [hexB n] := by
  rw [extract_one _ n (by show n < 16; exact h), hex_at n h]
theorem slice_one (s : ByteArray) (k : Nat) (h : k < s.size) (w : World) : (Instr.slice 9 (.string s) (some (.int .i64 (k : Int))) (some (.int .i64 ((k : Int) + 1))) none).run Tryz.prog w = .ok (.string (s.extract k (k + 1))) w := by
  rw [run_slice_string w 9 s .i64 .i64 (k : Int) ((k : Int) + 1) Tryz.underlying9 (by omega) (by omega) (by omega)]
  rfl
set_option maxRecDepth 100000 in
set_option maxHeartbeats 4000000 in
theorem RQuoted_any (s : ByteArray) (w : World) (hs : s.size ≤ 10000) : Calls Tryz.prog 152 #[.string s] w (RetV w (.string ⟨(quoB s.data.toList).toArray⟩)) := by
  go_enter Tryz.func152, Tryz.ntmps152
  go_wp2_with fail
  go_loopw [4, 5, 6] (fun o i _ wr => ∃ k q : Nat, ∃ O : ByteArray, k ≤ s.size ∧ i = .int .i64 k ∧ o = .string O ∧ O.data.toList = 34 :: (s.data.toList.take k).flatMap qB ∧ wr = w.drewN q) (fun _ i _ _ => s.size - (intOf i).toNat)
  case atStart => exact ⟨0, 0, _, Nat.zero_le _, rfl, rfl, rfl, rfl⟩
  case round =>
    obtain ⟨k, q, O, hk, rfl, rfl, hO, rfl⟩ := hrel
    by_cases hlt : k < s.size
    · have hsn : (s.data.toList.take (k + 1)).flatMap qB = (s.data.toList.take k).flatMap qB ++ qB s[k] := by rw [take_snocS s k hlt, List.flatMap_append]; simp
      have hll : ((s.data.toList.take k).flatMap qB).length ≤ 40000 := by
        have := flat_qB_len (s.data.toList.take k)
        have h2 : (s.data.toList.take k).length ≤ s.size := by rw [List.length_take]; simp; omega
        omega
      have hOs : O.size ≤ 40001 := by
        rw [← ba_list, hO]
        simp only [List.length_cons]
        omega
      have HS := hide hsn
      have HO := hide hO
      have HX := hide (extract_one s k hlt)
      have hc := (s[k]).toNat_lt
      clear hsn hll hO
      have hex : (s.extract k (k + 1)).size = 1 := by rw [← ba_list, HX.out]; rfl
      have hsl := slice_one s k hlt
      obtain ⟨E1, hE1⟩ : ∃ E1, s.extract k (k + 1) = E1 := ⟨_, rfl⟩
      rw [hE1] at HX hex
      simp only [hE1] at hsl
      clear hE1
      have q1 : (0 : Int) ≤ (k : Int) := by omega
      have q2 : (k : Int) < (s.size : Int) := by omega
      by_cases h34 : (s[k]).toNat = 34 ∨ (s[k]).toNat = 92
      · have HQ := hide (show qB s[k] = [92, s[k]] by unfold qB; rw [if_pos h34])
        rcases h34 with h | h
        · have z1 : (((s[k]).toNat : Int) == 34) = true := by simp [h]
          go_wp2_with fail
          go_roundw
          case rel => exact ⟨k + 1, _, _, by omega, by go_num, rfl, by simp only [ba_app, HO.out, HX.out, HS.out, HQ.out]; simp, by first | rfl | exact World.drewN_drewN _ _ _⟩
          case measure => simp [intOf]; omega
        · have z1 : (((s[k]).toNat : Int) == 34) = false := by simp [h]
          have z2 : (((s[k]).toNat : Int) == 92) = true := by simp [h]
          go_wp2_with fail
          go_roundw
          case rel => exact ⟨k + 1, _, _, by omega, by go_num, rfl, by simp only [ba_app, HO.out, HX.out, HS.out, HQ.out]; simp, by first | rfl | exact World.drewN_drewN _ _ _⟩
          case measure => simp [intOf]; omega
      · have z1 : (((s[k]).toNat : Int) == 34) = false := by simp; omega
        have z2 : (((s[k]).toNat : Int) == 92) = false := by simp; omega
        by_cases h10 : (s[k]).toNat = 10
        · have HQ := hide (show qB s[k] = [92, 110] by unfold qB; rw [if_neg h34, if_pos h10])
          have z3 : (((s[k]).toNat : Int) == 10) = true := by simp [h10]
          clear h34
          go_wp2_with fail
          go_roundw
          case rel => exact ⟨k + 1, _, _, by omega, by go_num, rfl, by simp only [ba_app, HO.out, HX.out, HS.out, HQ.out]; simp, by first | rfl | exact World.drewN_drewN _ _ _⟩
          case measure => simp [intOf]; omega
        · have z3 : (((s[k]).toNat : Int) == 10) = false := by simp; omega
          by_cases hx : (s[k]).toNat < 32 ∨ 126 < (s[k]).toNat
          · have HQ := hide (show qB s[k] = [92, 120, hexB ((s[k]).toNat / 16), hexB ((s[k]).toNat % 16)] by unfold qB; rw [if_neg h34, if_neg h10, if_pos hx])
            have hs1 := fun w => slice_one ⟨#[48, 49, 50, 51, 52, 53, 54, 55, 56, 57, 97, 98, 99, 100, 101, 102]⟩ ((s[k]).toNat / 16) (show _ < 16 by omega) w
            have hs2 := fun w => slice_one ⟨#[48, 49, 50, 51, 52, 53, 54, 55, 56, 57, 97, 98, 99, 100, 101, 102]⟩ ((s[k]).toNat % 16) (show _ < 16 by omega) w
            have hg1 := hex_one ((s[k]).toNat / 16) (by omega)
            have hg2 := hex_one ((s[k]).toNat % 16) (by omega)
            rw [show ((((s[k]).toNat / 16 : Nat)) : Int) = ((s[k]).toNat : Int) / 16 by omega] at hs1
            rw [show ((((s[k]).toNat % 16 : Nat)) : Int) = ((s[k]).toNat : Int) % 16 by omega] at hs2
            obtain ⟨G1, hG1⟩ : ∃ G1, (ByteArray.mk #[48, 49, 50, 51, 52, 53, 54, 55, 56, 57, 97, 98, 99, 100, 101, 102]).extract ((s[k]).toNat / 16) ((s[k]).toNat / 16 + 1) = G1 := ⟨_, rfl⟩
            obtain ⟨G2, hG2⟩ : ∃ G2, (ByteArray.mk #[48, 49, 50, 51, 52, 53, 54, 55, 56, 57, 97, 98, 99, 100, 101, 102]).extract ((s[k]).toNat % 16) ((s[k]).toNat % 16 + 1) = G2 := ⟨_, rfl⟩
            simp only [hG1] at hs1 hg1
            simp only [hG2] at hs2 hg2
            clear hG1 hG2
            have HG1 := hide hg1
            have HG2 := hide hg2
            have hn1 : G1.size = 1 := by rw [← ba_list, hg1]; rfl
            have hn2 : G2.size = 1 := by rw [← ba_list, hg2]; rfl
            clear h34 h10 hg1 hg2
            rcases hx with h | h
            · have z4 : decide (((s[k]).toNat : Int) < 32) = true := by simp; omega
              go_wp2_with fail
              go_quiet (fail)
              go_wp2_with fail
              go_roundw
              case rel => exact ⟨k + 1, _, _, by omega, by go_num, rfl, by simp only [ba_app, HO.out, HX.out, HS.out, HQ.out, HG1.out, HG2.out]; simp, by first | rfl | exact World.drewN_drewN _ _ _⟩
              case measure => simp [intOf]; omega
            · have z4 : decide (((s[k]).toNat : Int) < 32) = false := by simp; omega
              have z5 : decide ((126 : Int) < ((s[k]).toNat : Int)) = true := by simp; omega
              go_wp2_with fail
              go_quiet (fail)
              go_wp2_with fail
              go_roundw
              case rel => exact ⟨k + 1, _, _, by omega, by go_num, rfl, by simp only [ba_app, HO.out, HX.out, HS.out, HQ.out, HG1.out, HG2.out]; simp, by first | rfl | exact World.drewN_drewN _ _ _⟩
              case measure => simp [intOf]; omega
          · have HQ := hide (show qB s[k] = [s[k]] by unfold qB; rw [if_neg h34, if_neg h10, if_neg hx])
            have z4 : decide (((s[k]).toNat : Int) < 32) = false := by simp; omega
            have z5 : decide ((126 : Int) < ((s[k]).toNat : Int)) = false := by simp; omega
            clear h34 h10 hx
            go_wp2_with fail
            go_roundw
            case rel => exact ⟨k + 1, _, _, by omega, by go_num, rfl, by simp only [ba_app, HO.out, HX.out, HS.out, HQ.out]; simp, by first | rfl | exact World.drewN_drewN _ _ _⟩
            case measure => simp [intOf]; omega
    · obtain rfl : k = s.size := by omega
      rw [List.take_of_length_le (by simp)] at hO
      have hOs : O.size ≤ 40001 := by
        have := flat_qB_len s.data.toList
        have h2 : s.data.toList.length = s.size := rfl
        rw [← ba_list, hO]
        simp only [List.length_cons]
        omega
      have HO := hide hO
      clear hO
      go_wp2_with fail
      go_ret
      have HE := ba_ext (a := O ++ ⟨#[34]⟩) (b := ⟨(quoB s.data.toList).toArray⟩) (by simp only [ba_app, HO.out]; simp [quoB])
      exact ⟨ret_str HE, below_drewN (Below.refl _ _) _⟩
end

section
open Go.RowKit Go.Proofs
attribute [local go_sem] Oper.semAt_some
set_option linter.unusedVariables false
set_option linter.unusedSimpArgs false

theorem infoS : (Tryz.prog.info? 9).map (fun i => (i.zero, i.size, i.bytes)) = some (some (.string .empty), 1, 16) := by kernel_rfl
/-- A value's text as a string. -/
def valS (v : Val) : ByteArray := ⟨(valT v).toArray⟩
theorem valS_list (v : Val) : (valS v).data.toList = valT v := rfl
theorem valS_size (v : Val) : (valS v).size = (valT v).length := rfl
theorem rd_one (X : World) (a : Value) (t : TypeId) : Reads (X.alloc (.cells #[a] t)) (X.heap.size + 1) 1 (some ⟨X.heap.size, 0, none⟩) 1 [a] :=
  ⟨rfl, fun _ => ⟨X.heap.size, 0, rfl, by omega, fun j u hu => by rw [Nat.zero_add]; exact ((Blk.new X t #[a]).cell j).trans (by simpa using hu)⟩⟩
theorem own_capT {w : World} {base : Nat} {e : TypeId} {size n c : Nat} {A : Option Addr} {xs : List Value} (h : w.ownsRow base e size (.slice A n c) n xs) : n ≤ c := by
  rcases h.2 with ⟨h1, _⟩ | ⟨g, cap, cur, h1, _, _, h4, _⟩
  · injection h1 with _ h2 h3
    omega
  · injection h1 with _ _ h3
    subst h3
    exact h4
set_option maxRecDepth 100000 in
set_option maxHeartbeats 4000000 in
theorem Text_any (A : Option Addr) (n c : Nat) (r : Rw) (w : World) (hr : Reads w w.heap.size 3 A n (r.flatMap encV)) (hn : n ≤ 9223372036854775807) (ht : Tab w) :
    Calls Tryz.prog 73 #[.slice A n c] w (RetV w (.string ⟨(rowT r).toArray⟩)) := by
  have HL := hide (hr.len encV_len (by omega))
  have HV := hide (RowValid_any A n c _ r w hr (Nat.le_refl _) hn)
  obtain ⟨i0, hi, hz0, hz1, hz2⟩ := info_parts infoS
  cases hok : okR r
  · have HR := hide (show rowT r = [] by unfold rowT; rw [hok]; simp)
    rw [hok] at HV
    clear hok
    go_enter Tryz.func73, Tryz.ntmps73
    go_wp2_with fail
    refine HV.out.mono ?_
    rintro e W1 ⟨rfl, hB1⟩
    go_wp2_with fail
    go_ret
    exact ⟨by rw [HR.out]; rfl, hB1⟩
  · have HR := hide (show rowT r = Lib.join (r.map valT) [44] by unfold rowT; rw [if_pos hok])
    have HM := hide (fun v (hv : v ∈ r) => okR_mem hok hv)
    have HP := hide (part_len hok r.length)
    have hn8 : n ≤ 8 := by rw [← HL.out]; exact okR_len hok
    rw [hok] at HV
    clear hok
    go_enter Tryz.func73, Tryz.ntmps73
    go_wp2_with fail
    refine HV.out.mono ?_
    rintro e W1 ⟨rfl, hB1⟩
    clear HV
    go_wp2_with fail
    have ow0 : W1.ownsRow W1.heap.size 9 1 (.slice none 0 0) 0 [] := World.ownsRow_nil _ _ _ _
    go_loopw [3, 5, 11] (fun v _ i wr => ∃ k : Nat, k ≤ n ∧ i = .int .i64 k ∧ wr.ownsRow W1.heap.size 9 1 v k ((r.take k).map fun x => Value.string (valS x)) ∧ Below W1.heap.size W1 wr) (fun _ _ i _ => n - (intOf i).toNat)
    case atStart => exact ⟨0, Nat.zero_le _, rfl, ow0, Below.refl _ _⟩
    case round =>
      clear ow0
      obtain ⟨k, hk, rfl, hown, hBr⟩ := hrel
      have hB := bstep hB1 hBr
      by_cases hlt : k < n
      · obtain ⟨b, off, x, hA, hb, hxk, hcx⟩ := (hr.below hB).elem encV_len HL.out hlt
        have HS := hide (show (r.take (k + 1)).map (fun x => Value.string (valS x)) = (r.take k).map (fun x => Value.string (valS x)) ++ [.string (valS x)] by rw [take_snoc' hxk, List.map_append]; rfl)
        have hok := HM.out x (List.mem_of_getElem? hxk)
        have e0 : wr.cell? ⟨b, off + k * 3, none⟩ = some (.int .i64 x.k) := by simpa using hcx 0 _ rfl
        have e1 : wr.cell? ⟨b, off + k * 3 + 1, none⟩ = some (.int .i64 x.n) := by simpa [← Nat.add_assoc] using hcx 1 _ rfl
        have e2 : wr.cell? ⟨b, off + k * 3 + 2, none⟩ = some (.string x.s) := by simpa [← Nat.add_assoc] using hcx 2 _ rfl
        clear hcx hxk
        rw [hA]
        have HA := hide hA
        clear hA
        have q1 : (0 : Int) ≤ (k : Int) := by omega
        have q2 : (k : Int) < (n : Int) := by omega
        have kP := Blk.new wr 64 #[.int .i64 x.k, .int .i64 x.n, .string x.s]
        have hownA := hown.alloc (.cells #[.int .i64 x.k, .int .i64 x.n, .string x.s] 64)
        have hBA := hBr.alloc hBr.size (.cells #[.int .i64 x.k, .int .i64 x.n, .string x.s] 64)
        go_upto_region 7 with fail
        obtain ⟨W3, hW3⟩ : ∃ W3, wr.alloc (.cells #[.int .i64 x.k, .int .i64 x.n, .string x.s] 64) = W3 := ⟨_, rfl⟩
        obtain ⟨bP, hbP⟩ : ∃ bP, wr.heap.size = bP := ⟨_, rfl⟩
        rw [hW3] at kP hownA hBA ⊢
        rw [hbP] at kP ⊢
        clear hW3 hbP hown hBr e0 e1 e2
        have p0 := kP.cell 0
        have p1 := kP.cell 1
        have p2 := kP.cell 2
        simp at p0 p1 p2
        obtain ⟨PL, hPL⟩ : ∃ PL, (r.take k).map (fun x => Value.string (valS x)) = PL := ⟨_, rfl⟩
        have HPL := hide hPL
        rw [hPL] at hownA
        clear hPL
        have hB3 := bstep hB1 hBA
        have ht3 : Tab W3 := ht.below hB3
        by_cases h1 : x.k = 1
        · have z1 : (x.k == 1) = true := by simp [h1]
          have hT : valS x = ⟨(Lib.itoa x.n).toArray⟩ := by unfold valS valT; rw [if_pos h1]
          rcases okV_cases hok with ⟨h, _⟩ | ⟨_, _, hn1, hn2⟩ | ⟨h, _⟩
          · omega
          · have HC := hide (itoa_any x.n (by omega) (by omega) W3 ht3)
            rw [← hT] at HC
            clear hT h1
            go_wp2_with fail
            refine HC.out.mono ?_
            rintro e W4 ⟨rfl, hB4⟩
            have vA := own_below hownA hB4
            have bA := bstep hBA hB4
            clear hownA hBA hB4 HC p0 p1 p2 kP
            have vA2 := vA.alloc (.cells #[.string (valS x)] 9)
            have bA2 := bA.alloc bA.size (.cells #[.string (valS x)] 9)
            have xs : W1.heap.size ≤ (W4.alloc (.cells #[.string (valS x)] 9)).heap.size := bA2.size
            go_wp2_with (at_builtin; refine wpList_append_any _ rfl _ _ 128 rfl W1.heap.size 9 i0 _ 1 16 Tryz.underlying128 hi hz0 hz1 hz2 rfl (by decide) _ k PL rfl vA2 (W4.heap.size + 1) (some ⟨W4.heap.size, 0, none⟩) 1 1 [.string (valS x)] rfl (rd_one W4 _ _) (by simp [Value.oneCell']) (by unfold maxLen; omega) (by omega) xs ?_; intro v3 w3 hown3 hgrow hat)
            have hBe : Below W1.heap.size W1 w3 := below_append bA2 vA2 xs hgrow
            have HO := hide (show w3.ownsRow W1.heap.size 9 1 v3 (k + 1) ((r.take (k + 1)).map fun x => Value.string (valS x)) by rw [HS.out, HPL.out]; exact hown3)
            clear hown3 hgrow hat bA vA bA2 vA2
            go_wp2_with fail
            go_roundw
            case rel => exact ⟨k + 1, by omega, by go_num, HO.out, hBe⟩
            case measure => simp [intOf]; omega
          · omega
        · have z1 : (x.k == 1) = false := by simp [h1]
          by_cases h2 : x.k = 2
          · have z2 : (x.k == 2) = true := by simp [h2]
            have hT : valS x = ⟨(quoB x.s.data.toList).toArray⟩ := by unfold valS valT; rw [if_neg h1, if_pos h2]
            rcases okV_cases hok with ⟨h, _⟩ | ⟨h, _⟩ | ⟨_, _, hsz⟩
            · omega
            · omega
            · have HC := hide (quoted_any x.s W3 (by omega))
              rw [← hT] at HC
              clear hT h1 h2
              go_wp2_with fail
              refine HC.out.mono ?_
              rintro e W4 ⟨rfl, hB4⟩
              have vA := own_below hownA hB4
              have bA := bstep hBA hB4
              clear hownA hBA hB4 HC p0 p1 p2 kP
              have vA2 := vA.alloc (.cells #[.string (valS x)] 9)
              have bA2 := bA.alloc bA.size (.cells #[.string (valS x)] 9)
              have xs : W1.heap.size ≤ (W4.alloc (.cells #[.string (valS x)] 9)).heap.size := bA2.size
              go_wp2_with (at_builtin; refine wpList_append_any _ rfl _ _ 128 rfl W1.heap.size 9 i0 _ 1 16 Tryz.underlying128 hi hz0 hz1 hz2 rfl (by decide) _ k PL rfl vA2 (W4.heap.size + 1) (some ⟨W4.heap.size, 0, none⟩) 1 1 [.string (valS x)] rfl (rd_one W4 _ _) (by simp [Value.oneCell']) (by unfold maxLen; omega) (by omega) xs ?_; intro v3 w3 hown3 hgrow hat)
              have hBe : Below W1.heap.size W1 w3 := below_append bA2 vA2 xs hgrow
              have HO := hide (show w3.ownsRow W1.heap.size 9 1 v3 (k + 1) ((r.take (k + 1)).map fun x => Value.string (valS x)) by rw [HS.out, HPL.out]; exact hown3)
              clear hown3 hgrow hat bA vA bA2 vA2
              go_wp2_with fail
              go_roundw
              case rel => exact ⟨k + 1, by omega, by go_num, HO.out, hBe⟩
              case measure => simp [intOf]; omega
          · have z2 : (x.k == 2) = false := by simp [h2]
            have hT : valS x = ⟨#[126]⟩ := by unfold valS valT; rw [if_neg h1, if_neg h2]
            rw [hT] at HS
            clear hT h1 h2
            have vA2 := hownA.alloc (.cells #[.string ⟨#[126]⟩] 9)
            have bA2 := hBA.alloc hBA.size (.cells #[.string ⟨#[126]⟩] 9)
            have xs : W1.heap.size ≤ (W3.alloc (.cells #[.string ⟨#[126]⟩] 9)).heap.size := bA2.size
            go_wp2_with (at_builtin; refine wpList_append_any _ rfl _ _ 128 rfl W1.heap.size 9 i0 _ 1 16 Tryz.underlying128 hi hz0 hz1 hz2 rfl (by decide) _ k PL rfl vA2 (W3.heap.size + 1) (some ⟨W3.heap.size, 0, none⟩) 1 1 [.string ⟨#[126]⟩] rfl (rd_one W3 _ _) (by simp [Value.oneCell']) (by unfold maxLen; omega) (by omega) xs ?_; intro v3 w3 hown3 hgrow hat)
            have hBe : Below W1.heap.size W1 w3 := below_append bA2 vA2 xs hgrow
            have HO := hide (show w3.ownsRow W1.heap.size 9 1 v3 (k + 1) ((r.take (k + 1)).map fun x => Value.string (valS x)) by rw [HS.out, HPL.out]; exact hown3)
            clear hown3 hgrow hat bA2 vA2 hownA hBA p0 p1 p2 kP
            go_wp2_with fail
            go_roundw
            case rel => exact ⟨k + 1, by omega, by go_num, HO.out, hBe⟩
            case measure => simp [intOf]; omega
      · obtain rfl : n = k := by omega
        rw [take_all HL.out] at hown
        obtain ⟨A', c', rfl, hR⟩ := own_form hown
        have hcap := own_capT hown
        have hlist : (r.map valS).map (·.data.toList) = r.map valT := by rw [List.map_map]; rfl
        have hj : (Lib.join ((r.map valS).map (·.data.toList)) (ByteArray.mk #[44]).data.toList) = Lib.join (r.map valT) [44] := by rw [hlist]
        have HC := hide (join_any A' n c' (r.map valS) ⟨#[44]⟩ wr (by rw [List.map_map]; exact hR) (by omega) hcap (by
          rw [hj]
          have := HP.out
          rw [List.take_length] at this
          omega))
        rw [hj, ← HR.out] at HC
        clear hown hR hj hlist
        go_wp2_with fail
        refine HC.out.mono ?_
        rintro e W4 ⟨rfl, hB4⟩
        have HB := hide (bstep hB hB4)
        clear hB hB4 HC
        go_wp2_with fail
        go_ret
        exact ⟨rfl, HB.out⟩
theorem TextOf_any (v : Val) (w : World) (hok : okV v = true) (ht : Tab w) : Calls Tryz.prog 132 #[.agg #[.int .i64 v.k, .int .i64 v.n, .string v.s]] w (RetV w (.string (valS v))) := by
  have hB := below_val (w := w) #[.int .i64 v.k, .int .i64 v.n, .string v.s] 64
  have k0 := Blk.new w 64 #[.int .i64 v.k, .int .i64 v.n, .string v.s]
  have hc := okV_cases hok
  go_enter Tryz.func132, Tryz.ntmps132
  go_upto_region 1 with fail
  obtain ⟨W, hW⟩ : ∃ W, w.alloc (.cells #[.int .i64 v.k, .int .i64 v.n, .string v.s] 64) = W := ⟨_, rfl⟩
  rw [hW] at hB k0 ⊢
  clear hW
  have p0 := k0.cell 0
  have p1 := k0.cell 1
  have p2 := k0.cell 2
  simp at p0 p1 p2
  by_cases h1 : v.k = 1
  · have z1 : (v.k == 1) = true := by simp [h1]
    have hT : valS v = ⟨(Lib.itoa v.n).toArray⟩ := by unfold valS valT; rw [if_pos h1]
    have HC := hide (itoa_any v.n (by omega) (by omega) W (ht.below hB))
    rw [← hT] at HC
    clear hT h1 hc
    go_wp2_with fail
    refine HC.out.mono ?_
    rintro e W4 ⟨rfl, hB4⟩
    have HB := hide (bstep hB hB4)
    clear hB hB4 HC p0 p1 p2 k0
    go_wp2_with fail
    go_ret
    exact ⟨rfl, HB.out⟩
  · have z1 : (v.k == 1) = false := by simp [h1]
    by_cases h2 : v.k = 2
    · have z2 : (v.k == 2) = true := by simp [h2]
      have hT : valS v = ⟨(quoB v.s.data.toList).toArray⟩ := by unfold valS valT; rw [if_neg h1, if_pos h2]
      have HC := hide (RQuoted_any v.s W (by omega))
      rw [← hT] at HC
      clear hT h1 h2 hc
      go_wp2_with fail
      refine HC.out.mono ?_
      rintro e W4 ⟨rfl, hB4⟩
      have HB := hide (bstep hB hB4)
      clear hB hB4 HC p0 p1 p2 k0
      go_wp2_with fail
      go_ret
      exact ⟨rfl, HB.out⟩
    · have z2 : (v.k == 2) = false := by simp [h2]
      have HT := hide (show valS v = ⟨#[126]⟩ by unfold valS valT; rw [if_neg h1, if_neg h2])
      clear h1 h2 hc
      go_wp2_with fail
      go_ret
      exact ⟨by rw [HT.out]; rfl, hB⟩
set_option maxRecDepth 100000 in
set_option maxHeartbeats 4000000 in
theorem RText_any (A : Option Addr) (n c : Nat) (r : Rw) (w : World) (hr : Reads w w.heap.size 3 A n (r.flatMap encV)) (hn : n ≤ 9223372036854775807) (ht : Tab w) :
    Calls Tryz.prog 97 #[.slice A n c] w (RetV w (.string ⟨(rowT r).toArray⟩)) := by
  have HL := hide (hr.len encV_len (by omega))
  have HV := hide (R2Valid_any A n c _ r w hr (Nat.le_refl _) hn)
  cases hok : okR r
  · have HR := hide (show rowT r = [] by unfold rowT; rw [hok]; simp)
    rw [hok] at HV
    clear hok
    go_enter Tryz.func97, Tryz.ntmps97
    go_wp2_with fail
    refine HV.out.mono ?_
    rintro e W1 ⟨rfl, hB1⟩
    go_wp2_with fail
    go_ret
    exact ⟨by rw [HR.out]; rfl, hB1⟩
  · have HR := hide (show rowT r = Lib.join (r.map valT) [44] by unfold rowT; rw [if_pos hok])
    have HM := hide (fun v (hv : v ∈ r) => okR_mem hok hv)
    have HP := hide (fun k => part_len hok k)
    have hn8 : n ≤ 8 := by rw [← HL.out]; exact okR_len hok
    rw [hok] at HV
    clear hok
    go_enter Tryz.func97, Tryz.ntmps97
    go_wp2_with fail
    refine HV.out.mono ?_
    rintro e W1 ⟨rfl, hB1⟩
    clear HV
    go_wp2_with fail
    go_loopw [3, 4] (fun o i wr => ∃ (k : Nat) (O : ByteArray), k ≤ n ∧ i = .int .i64 k ∧ o = .string O ∧ O.data.toList = Lib.join ((r.take k).map valT) [44] ∧ Below w.heap.size w wr) (fun _ i _ => n - (intOf i).toNat)
    case atStart => exact ⟨0, _, Nat.zero_le _, rfl, rfl, rfl, hB1⟩
    case round =>
      clear hB1
      obtain ⟨k, O, hk, rfl, rfl, hO, hB⟩ := hrel
      have hOs : O.size ≤ 6424 := by rw [← ba_list, hO]; exact HP.out k
      have HO := hide hO
      clear hO
      by_cases hlt : k < n
      · obtain ⟨b, off, x, hA, hb, hxk, hcx⟩ := (hr.below hB).elem encV_len HL.out hlt
        have hok := HM.out x (List.mem_of_getElem? hxk)
        have hxs : (valS x).size ≤ 802 := valT_len hok
        have HS := hide (show (r.take (k + 1)).map valT = (r.take k).map valT ++ [valT x] by rw [take_snoc' hxk, List.map_append]; rfl)
        have e0 : wr.cell? ⟨b, off + k * 3, none⟩ = some (.int .i64 x.k) := by simpa using hcx 0 _ rfl
        have e1 : wr.cell? ⟨b, off + k * 3 + 1, none⟩ = some (.int .i64 x.n) := by simpa [← Nat.add_assoc] using hcx 1 _ rfl
        have e2 : wr.cell? ⟨b, off + k * 3 + 2, none⟩ = some (.string x.s) := by simpa [← Nat.add_assoc] using hcx 2 _ rfl
        have HC := hide (TextOf_any x wr hok (ht.below hB))
        clear hcx hxk
        rw [hA]
        have HA := hide hA
        clear hA
        have q1 : (0 : Int) ≤ (k : Int) := by omega
        have q2 : (k : Int) < (n : Int) := by omega
        by_cases h0 : k = 0
        · have z0 : decide (0 < k) = false := by simp; omega
          have HN := hide (show (O ++ valS x).data.toList = Lib.join ((r.take (k + 1)).map valT) [44] by
            rw [HS.out, join_snoc, ba_app, HO.out, h0]
            simp [Lib.join_nil, valS_list])
          clear h0
          go_wp2_with fail
          refine HC.out.mono ?_
          rintro e W4 ⟨rfl, hB4⟩
          have hB5 := bstep hB hB4
          clear hB hB4 HC e0 e1 e2
          go_wp2_with fail
          go_roundw
          case rel => exact ⟨k + 1, _, by omega, by go_num, rfl, HN.out, hB5⟩
          case measure => simp [intOf]; omega
        · have z0 : decide (0 < k) = true := by simp; omega
          have HN := hide (show (O ++ ⟨#[44]⟩ ++ valS x).data.toList = Lib.join ((r.take (k + 1)).map valT) [44] by
            rw [HS.out, join_snoc, if_neg (by
              intro e
              have := congrArg List.length e
              rw [List.length_map, List.length_take, HL.out] at this
              simp at this
              omega), ba_app, ba_app, HO.out]
            simp [valS_list])
          clear h0
          go_wp2_with fail
          refine HC.out.mono ?_
          rintro e W4 ⟨rfl, hB4⟩
          have hB5 := bstep hB hB4
          clear hB hB4 HC e0 e1 e2
          go_wp2_with fail
          go_roundw
          case rel => exact ⟨k + 1, _, by omega, by go_num, rfl, HN.out, hB5⟩
          case measure => simp [intOf]; omega
      · obtain rfl : n = k := by omega
        have HE := hide (show O = ⟨(rowT r).toArray⟩ from ba_ext (by rw [HO.out, take_all HL.out, HR.out]))
        go_wp2_with fail
        go_ret
        exact ⟨ret_str HE.out, hB⟩
end

end Go.Proofs.YtiioiajcoiaalaaGreatDoor
