/-
  The walk of the program's quoted.
-/
import Derived.Test.YthngjbhamgmcgaaDoorTxM
import Derived.Test.YthngjbhamgmcgaaDoorLib0
import Derived.Test.YthngjbhamgmcgaaDoorRow1
import Derived.Deep.CutRange
import Derived.Deep.CutBlock
namespace Go.Proofs.YthngjbhamgmcgaaDoor
open Go.RowKit Go.Proofs
attribute [local go_sem] Oper.semAt_some
set_option linter.unusedVariables false

theorem take_snocS (s : ByteArray) (k : Nat) (h : k < s.size) : s.data.toList.take (k + 1) = s.data.toList.take k ++ [s[k]] := by
  rw [List.take_succ_eq_append_getElem (by simpa using h)]; rfl
theorem wbyteI_any (B b : Nat) (l : List UInt8) (ci : Int) (c : UInt8) (w : World) (hci : ci = (c.toNat : Int)) (h : Bd w B b l) (hlen : l.length ≤ 1000000) (hB : B ≤ w.heap.size) :
    Calls Tryd.prog 52 #[.pointer (some ⟨b, 0, none⟩), .int .u8 ci] w fun e w' => e = .returned .nilIface ∧ Bd w' B b (l ++ [c]) ∧ Below B w w' := by
  subst hci; exact wbyte_any B b l c w h hlen hB
theorem hex_at (n : Nat) (h : n < 16) (hp : n < (ByteArray.mk #[48, 49, 50, 51, 52, 53, 54, 55, 56, 57, 97, 98, 99, 100, 101, 102]).size) : (ByteArray.mk #[48, 49, 50, 51, 52, 53, 54, 55, 56, 57, 97, 98, 99, 100, 101, 102])[n] = hexB n := by
  have h2 : ∀ i : Fin 16, (ByteArray.mk #[48, 49, 50, 51, 52, 53, 54, 55, 56, 57, 97, 98, 99, 100, 101, 102])[i.val]'(i.isLt) = hexB i.val := by decide
  exact h2 ⟨n, h⟩
set_option maxRecDepth 100000 in
set_option maxHeartbeats 4000000 in
theorem quoted_any (s : ByteArray) (w : World) (hs : s.size ≤ 10000) : Calls Tryd.prog 34 #[.string s] w (RetV w (.string ⟨(quoB s.data.toList).toArray⟩)) := by
  have k0 := Bd.new w
  have hB0 : Below w.heap.size w (w.alloc (.cells #[.pointer none, .slice none 0 0] 77)) := (Below.refl _ _).alloc (Nat.le_refl _) _
  go_enter Tryd.func34, Tryd.ntmps34
  go_upto_region 2 with fail
  obtain ⟨W, hW⟩ : ∃ W, w.alloc (.cells #[.pointer none, .slice none 0 0] 77) = W := ⟨_, rfl⟩
  obtain ⟨b, hb⟩ : ∃ b, w.heap.size = b := ⟨_, rfl⟩
  rw [hW] at k0 hB0 ⊢
  rw [hb] at k0 hB0 ⊢
  have hbw : b ≤ w.heap.size := by omega
  clear hW
  have HC := hide (wbyteI_any b b [] 34 34 W rfl k0 (by simp) (by have := hB0.size; omega))
  go_wp2_with fail
  refine HC.out.mono ?_
  rintro e W1 ⟨rfl, k1, hB1⟩
  have hB01 := hB0.trans hB1
  have k1 : Bd W1 b b (34 :: (s.data.toList.take 0).flatMap qB) := k1
  clear k0 hB0 hB1 HC
  go_wp2_with fail
  go_loopw [4, 5, 9] (fun _ _ i wr => ∃ k : Nat, k ≤ s.size ∧ i = .int .i64 k ∧ Bd wr b b (34 :: (s.data.toList.take k).flatMap qB) ∧ Below b w wr) (fun _ _ i _ => s.size - (intOf i).toNat)
  case atStart => exact ⟨0, Nat.zero_le _, rfl, k1, hB01⟩
  case round =>
    clear k1 hB01
    obtain ⟨k, hk, rfl, kb, hB⟩ := hrel
    have hsz := hB.size
    have hbr : b ≤ wr.heap.size := by omega
    by_cases hlt : k < s.size
    · have hsn : (s.data.toList.take (k + 1)).flatMap qB = (s.data.toList.take k).flatMap qB ++ qB s[k] := by rw [take_snocS s k hlt, List.flatMap_append]; simp
      have hll : ((s.data.toList.take k).flatMap qB).length ≤ 40000 := by
        have := flat_qB_len (s.data.toList.take k)
        have h2 : (s.data.toList.take k).length ≤ s.size := by rw [List.length_take]; simp; omega
        omega
      have HS := hide hsn
      have hc := (s[k]).toNat_lt
      obtain ⟨L, hL⟩ : ∃ L, (s.data.toList.take k).flatMap qB = L := ⟨_, rfl⟩
      rw [hL] at kb hll
      have HL := hide hL
      clear hsn hL
      have q1 : (0 : Int) ≤ (k : Int) := by omega
      have q2 : (k : Int) < (s.size : Int) := by omega
      by_cases h34 : (s[k]).toNat = 34 ∨ (s[k]).toNat = 92
      · have HQ := hide (show qB s[k] = [92, s[k]] by unfold qB; rw [if_pos h34])
        have HC := hide (wbyteI_any b b (34 :: L) 92 92 wr rfl kb (by simp; omega) hbr)
        rcases h34 with h | h
        · have z1 : (((s[k]).toNat : Int) == 34) = true := by simp [h]
          go_wp2_with fail
          refine HC.out.mono ?_
          rintro e W2 ⟨rfl, k2, hB2⟩
          have HC2 := hide (wbyteI_any b b (34 :: L ++ [92]) 34 s[k] W2 (by omega) k2 (by simp; omega) (by have := hB2.size; omega))
          have hBx := hB.trans hB2
          clear kb hB hB2 HC k2
          go_wp2_with fail
          refine HC2.out.mono ?_
          rintro e W3 ⟨rfl, k3, hB3⟩
          have HK := hide k3
          have HBX := hide (hBx.trans hB3)
          clear hBx hB3 HC2 k3
          go_wp2_with fail
          go_roundw
          case rel => exact ⟨k + 1, by omega, by go_num, by rw [HS.out, HL.out, HQ.out]; simpa using HK.out, HBX.out⟩
          case measure => simp [intOf]; omega
        · have z1 : (((s[k]).toNat : Int) == 34) = false := by simp [h]
          have z2 : (((s[k]).toNat : Int) == 92) = true := by simp [h]
          go_wp2_with fail
          refine HC.out.mono ?_
          rintro e W2 ⟨rfl, k2, hB2⟩
          have HC2 := hide (wbyteI_any b b (34 :: L ++ [92]) 92 s[k] W2 (by omega) k2 (by simp; omega) (by have := hB2.size; omega))
          have hBx := hB.trans hB2
          clear kb hB hB2 HC k2
          go_wp2_with fail
          refine HC2.out.mono ?_
          rintro e W3 ⟨rfl, k3, hB3⟩
          have HK := hide k3
          have HBX := hide (hBx.trans hB3)
          clear hBx hB3 HC2 k3
          go_wp2_with fail
          go_roundw
          case rel => exact ⟨k + 1, by omega, by go_num, by rw [HS.out, HL.out, HQ.out]; simpa using HK.out, HBX.out⟩
          case measure => simp [intOf]; omega
      · have z1 : (((s[k]).toNat : Int) == 34) = false := by simp; omega
        have z2 : (((s[k]).toNat : Int) == 92) = false := by simp; omega
        by_cases h10 : (s[k]).toNat = 10
        · have HQ := hide (show qB s[k] = [92, 110] by unfold qB; rw [if_neg h34, if_pos h10])
          have z3 : (((s[k]).toNat : Int) == 10) = true := by simp [h10]
          have HC := hide (wstr_any b b (34 :: L) ⟨#[92, 110]⟩ wr kb (by simp only [List.length_cons]; show _ + 2 ≤ _; omega) hbr)
          clear h34
          go_wp2_with fail
          refine HC.out.mono ?_
          rintro e W2 ⟨rfl, k2, hB2⟩
          have HK := hide k2
          have HBX := hide (hB.trans hB2)
          clear kb hB hB2 HC k2
          go_wp2_with fail
          go_roundw
          case rel => exact ⟨k + 1, by omega, by go_num, by rw [HS.out, HL.out, HQ.out]; simpa using HK.out, HBX.out⟩
          case measure => simp [intOf]; omega
        · have z3 : (((s[k]).toNat : Int) == 10) = false := by simp; omega
          by_cases hx : (s[k]).toNat < 32 ∨ 126 < (s[k]).toNat
          · have HQ := hide (show qB s[k] = [92, 120, hexB ((s[k]).toNat / 16), hexB ((s[k]).toNat % 16)] by unfold qB; rw [if_neg h34, if_neg h10, if_pos hx])
            have HC := hide (wstr_any b b (34 :: L) ⟨#[92, 120]⟩ wr kb (by simp only [List.length_cons]; show _ + 2 ≤ _; omega) hbr)
            clear h34 h10
            rcases hx with h | h
            · have z4 : decide (((s[k]).toNat : Int) < 32) = true := by simp; omega
              go_wp2_with fail
              refine HC.out.mono ?_
              rintro e W2 ⟨rfl, k2, hB2⟩
              have hBx := hB.trans hB2
              have hs2 := hB2.size
              clear kb hB hB2 HC
              go_wp2_with fail
              refine (wbyteI_any b b _ _ (hexB ((s[k]).toNat / 16)) W2 (by rw [hex_at _ (by omega)]) k2 (by simp; omega) (by omega)).mono ?_
              rintro e W3 ⟨rfl, k3, hB3⟩
              have hBy := hBx.trans hB3
              have hs3 := hB3.size
              clear hBx hB3 k2
              go_wp2_with fail
              refine (wbyteI_any b b _ _ (hexB ((s[k]).toNat % 16)) W3 (by rw [hex_at _ (by omega)]) k3 (by simp; omega) (by omega)).mono ?_
              rintro e W4 ⟨rfl, k4, hB4⟩
              have HK := hide k4
              have HBX := hide (hBy.trans hB4)
              clear hBy hB4 k3 k4
              go_wp2_with fail
              go_roundw
              case rel => exact ⟨k + 1, by omega, by go_num, by rw [HS.out, HL.out, HQ.out]; simpa using HK.out, HBX.out⟩
              case measure => simp [intOf]; omega
            · have z4 : decide (((s[k]).toNat : Int) < 32) = false := by simp; omega
              have z5 : decide ((126 : Int) < ((s[k]).toNat : Int)) = true := by simp; omega
              go_wp2_with fail
              refine HC.out.mono ?_
              rintro e W2 ⟨rfl, k2, hB2⟩
              have hBx := hB.trans hB2
              have hs2 := hB2.size
              clear kb hB hB2 HC
              go_wp2_with fail
              refine (wbyteI_any b b _ _ (hexB ((s[k]).toNat / 16)) W2 (by rw [hex_at _ (by omega)]) k2 (by simp; omega) (by omega)).mono ?_
              rintro e W3 ⟨rfl, k3, hB3⟩
              have hBy := hBx.trans hB3
              have hs3 := hB3.size
              clear hBx hB3 k2
              go_wp2_with fail
              refine (wbyteI_any b b _ _ (hexB ((s[k]).toNat % 16)) W3 (by rw [hex_at _ (by omega)]) k3 (by simp; omega) (by omega)).mono ?_
              rintro e W4 ⟨rfl, k4, hB4⟩
              have HK := hide k4
              have HBX := hide (hBy.trans hB4)
              clear hBy hB4 k3 k4
              go_wp2_with fail
              go_roundw
              case rel => exact ⟨k + 1, by omega, by go_num, by rw [HS.out, HL.out, HQ.out]; simpa using HK.out, HBX.out⟩
              case measure => simp [intOf]; omega
          · have HQ := hide (show qB s[k] = [s[k]] by unfold qB; rw [if_neg h34, if_neg h10, if_neg hx])
            have z4 : decide (((s[k]).toNat : Int) < 32) = false := by simp; omega
            have z5 : decide ((126 : Int) < ((s[k]).toNat : Int)) = false := by simp; omega
            have HC := hide (wbyteI_any b b (34 :: L) _ s[k] wr rfl kb (by simp; omega) hbr)
            clear h34 h10 hx
            go_wp2_with fail
            refine HC.out.mono ?_
            rintro e W2 ⟨rfl, k2, hB2⟩
            have HK := hide k2
            have HBX := hide (hB.trans hB2)
            clear kb hB hB2 HC k2
            go_wp2_with fail
            go_roundw
            case rel => exact ⟨k + 1, by omega, by go_num, by rw [HS.out, HL.out, HQ.out]; simpa using HK.out, HBX.out⟩
            case measure => simp [intOf]; omega
    · obtain rfl : k = s.size := by omega
      rw [List.take_of_length_le (by simp)] at kb
      have hll : (34 :: s.data.toList.flatMap qB).length ≤ 40001 := by
        have := flat_qB_len s.data.toList
        have h2 : s.data.toList.length = s.size := rfl
        simp only [List.length_cons]
        omega
      have HC := hide (wbyteI_any b b (34 :: s.data.toList.flatMap qB) 34 34 wr rfl kb (by omega) hbr)
      clear hll
      go_wp2_with fail
      refine HC.out.mono ?_
      rintro e W2 ⟨rfl, k2, hB2⟩
      have hBx := hB.trans hB2
      have HC2 := hide (str_any b b _ W2 k2 (by have := hB2.size; omega))
      clear kb hB hB2 HC
      go_wp2_with fail
      refine HC2.out.mono ?_
      rintro e W3 ⟨rfl, _, hB3⟩
      have HB := hide (hBx.trans hB3)
      clear hBx hB3 HC2 k2
      go_wp2_with fail
      go_ret
      exact ⟨rfl, by rw [hb]; exact HB.out⟩
end Go.Proofs.YthngjbhamgmcgaaDoor
