/-
  The walks of the reference's Valid over bags, and of told.
-/
import Derived.Test.YtiioiajcoiaalaaGreatDoorBgS3
namespace Go.Proofs.YtiioiajcoiaalaaGreatDoor
open Go.RowKit
attribute [local go_sem] Oper.semAt_some

set_option maxRecDepth 100000 in
set_option maxHeartbeats 8000000 in
theorem R3Valid_any (A : Option Addr) (n c B : Nat) (l : List It) (w : World) (hb : BagR w B A n l) : Calls Tryz.prog 41 #[.slice A n c] w (RetV w (.bool (okBag (dat l)))) := by
  have hn := hb.le
  have HL := hide (dat_len l)
  have HLN := hide hb.len
  go_enter Tryz.func41, Tryz.ntmps41
  go_wp2_with fail
  go_loopw [3] (fun i wr => ∃ k : Nat, k ≤ n ∧ i = .int .i64 k ∧ ascI none ((dat l).take k) = true ∧ Below w.heap.size w wr) (fun i _ => n - (intOf i).toNat)
  case atStart => exact ⟨0, Nat.zero_le _, rfl, rfl, Below.refl _ _⟩
  case round =>
    obtain ⟨k, hk, rfl, hasc, hBw⟩ := hrel
    have HA := hide hasc
    clear hasc
    by_cases hlt : k < n
    · obtain ⟨b, off, i, rfl, hbl, hik, c0, c1, hrow⟩ := (hb.below hBw).at_ hlt
      have HD := hide (dat_at hik)
      have q1 : (0 : Int) ≤ (k : Int) := by omega
      have q2 : (k : Int) < (n : Int) := by omega
      have p0 := fun (p : BW wr) => BW.cell (a := ⟨b, off + k * 2, none⟩) hbl c0 p
      have p1 := fun (p : BW wr) => BW.cell (a := ⟨b, off + k * 2 + 1, none⟩) hbl c1 p
      clear c0 c1
      obtain ⟨b1, hb1⟩ : ∃ b1, btw i.m (-1000000) 1000000 = b1 := ⟨_, rfl⟩
      obtain ⟨b2, hb2⟩ : ∃ b2, okR i.r = b2 := ⟨_, rfl⟩
      have C1 := hide (fun (p : BW wr) => calls_bw_same (p := p) (v := .bool b1) (by rw [← hb1]; exact R3within_any i.m _ _ p.x))
      have C2 := hide (fun (p : BW wr) => calls_bw (p := p) (v := .bool b2) (by rw [← hb2]; exact R2Valid_any i.A i.n i.c _ i.r p.x (hrow.below p.h).rd (Nat.le_refl _) hrow.le))
      have HN := hide (ascI_next HD.out)
      have HF := hide (ascI_fail HD.out)
      have hnum : numB i.m = (decide (i.m ≠ 0) && b1) := by rw [← hb1]; rfl
      rw [show numB (i.r, i.m).2 = (decide (i.m ≠ 0) && b1) from hnum, hb2] at HN HF
      clear hb1 hb2 hnum
      cases b2
      · have HX := hide (HF.out (by simp))
        clear HN HF
        go_wp2_with fail
        (refine wp_region_quiet_bw (by kernel_rfl) (by kernel_rfl) ?_
         repeat (first | go_big_quiet_step ((first | (go_at_call 76; with_reducible exact C1.out _) | (go_at_call 85; with_reducible exact C2.out _))) | quiet_step ((first | (go_at_call 76; with_reducible exact C1.out _) | (go_at_call 85; with_reducible exact C2.out _))))
         refine wpQuiet_nil ?_
         intro wq hw'
         obtain ⟨⟨_, hbq⟩, hw''⟩ := hw'
         subst hw'')
        have HE := hide (hBw.trans (hbq.mono hBw.size))
        clear hbq hBw p0 p1 C1 C2
        go_wp2
        go_ret
        exact ⟨ret_bool HX.out.symm, HE.out⟩
      · by_cases hm : i.m = 0
        · have HX := hide (HF.out (by simp [hm]))
          have z0 : (i.m == 0) = true := by simp [hm]
          clear HN HF hm
          go_wp2_with fail
          (refine wp_region_quiet_bw (by kernel_rfl) (by kernel_rfl) ?_
           repeat (first | go_big_quiet_step ((first | (go_at_call 76; with_reducible exact C1.out _) | (go_at_call 85; with_reducible exact C2.out _))) | quiet_step ((first | (go_at_call 76; with_reducible exact C1.out _) | (go_at_call 85; with_reducible exact C2.out _))))
           refine wpQuiet_nil ?_
           intro wq hw'
           obtain ⟨⟨_, hbq⟩, hw''⟩ := hw'
           subst hw'')
          have HE := hide (hBw.trans (hbq.mono hBw.size))
          clear hbq hBw p0 p1 C1 C2
          go_wp2
          go_ret
          exact ⟨ret_bool HX.out.symm, HE.out⟩
        · have z0 : (i.m == 0) = false := by simpa using hm
          rw [show decide (i.m ≠ 0) = true from decide_eq_true hm] at HN HF
          clear hm
          cases b1
          · have HX := hide (HF.out (by simp))
            clear HN HF
            go_wp2_with fail
            (refine wp_region_quiet_bw (by kernel_rfl) (by kernel_rfl) ?_
             repeat (first | go_big_quiet_step ((first | (go_at_call 76; with_reducible exact C1.out _) | (go_at_call 85; with_reducible exact C2.out _))) | quiet_step ((first | (go_at_call 76; with_reducible exact C1.out _) | (go_at_call 85; with_reducible exact C2.out _))))
             refine wpQuiet_nil ?_
             intro wq hw'
             obtain ⟨⟨_, hbq⟩, hw''⟩ := hw'
             subst hw'')
            have HE := hide (hBw.trans (hbq.mono hBw.size))
            clear hbq hBw p0 p1 C1 C2
            go_wp2
            go_ret
            exact ⟨ret_bool HX.out.symm, HE.out⟩
          · by_cases hk0 : k = 0
            · have HX := hide (show ascI none ((dat l).take (k + 1)) = true from by rw [HN.out, HA.out]; subst hk0; rfl)
              have q5 : decide (0 < k) = false := decide_eq_false (by omega)
              clear HN HF hk0
              go_wp2_with fail
              (refine wp_region_quiet_bw (by kernel_rfl) (by kernel_rfl) ?_
               repeat (first | go_big_quiet_step ((first | (go_at_call 76; with_reducible exact C1.out _) | (go_at_call 85; with_reducible exact C2.out _))) | quiet_step ((first | (go_at_call 76; with_reducible exact C1.out _) | (go_at_call 85; with_reducible exact C2.out _))))
               refine wpQuiet_nil ?_
               intro wq hw'
               obtain ⟨⟨_, hbq⟩, hw''⟩ := hw'
               subst hw'')
              have HE := hide (hBw.trans (hbq.mono hBw.size))
              clear hbq hBw p0 p1 C1 C2
              go_wp2
              go_roundw
              case rel => exact ⟨k + 1, by omega, by go_num, HX.out, HE.out⟩
              case measure => simp [intOf]; omega
            · obtain ⟨j, rfl⟩ : ∃ j, k = j + 1 := ⟨k - 1, by omega⟩
              obtain ⟨b', off', i', hA', hbl', hik', c0', c1', hrow'⟩ := (hb.below hBw).at_ (show j < n by omega)
              obtain ⟨rfl, rfl⟩ : b = b' ∧ off = off' := by
                injection hA' with h
                injection h with h1 h2
                exact ⟨h1, h2⟩
              clear hA'
              have HD' := hide (lastR_at (dat_at hik'))
              rw [HD'.out] at HN HF
              have y0 := fun (p : BW wr) => BW.cell (a := ⟨b, off + j * 2, none⟩) hbl' c0' p
              obtain ⟨cc, hcc⟩ : ∃ cc, cmpR i'.r i.r = cc := ⟨_, rfl⟩
              have C3 := hide (fun (p : BW wr) => calls_bw (p := p) (v := .int .i64 cc) (by rw [← hcc]; exact R2Compare_any i'.A i'.n i'.c i'.r i.A i.n i.c i.r p.x ((hrow'.below p.h).rd.more (by exact Nat.le_refl _)) ((hrow.below p.h).rd.more (by exact Nat.le_refl _)) hrow'.le))
              have w1 : ((j + 1 : Nat) : Int) - 1 = (j : Int) := by omega
              have w2 : IntKind.i64.wrap (((j + 1 : Nat) : Int) - 1) = (j : Int) := by rw [w1, IntKind.wrap_i64]; omega
              have q3 : (0 : Int) ≤ (j : Int) := by omega
              have q4 : (j : Int) < (n : Int) := by omega
              have q5 : (0 : Int) < ((j + 1 : Nat) : Int) := by omega
              simp only [upB, hcc] at HN HF
              clear hcc
              by_cases hc : cc < 0
              · have n1 : decide (0 ≤ cc) = false := by simp; omega
                have HX := hide (show ascI none ((dat l).take (j + 1 + 1)) = true from by rw [HN.out, HA.out, decide_eq_true hc]; rfl)
                clear HN HF
                go_wp2_with fail
                (refine wp_region_quiet_bw (by kernel_rfl) (by kernel_rfl) ?_
                 repeat (first | go_big_quiet_step ((first | (go_at_call 76; with_reducible exact C1.out _) | (go_at_call 85; with_reducible exact C2.out _) | (go_at_call 78; with_reducible exact C3.out _))) | quiet_step ((first | (go_at_call 76; with_reducible exact C1.out _) | (go_at_call 85; with_reducible exact C2.out _) | (go_at_call 78; with_reducible exact C3.out _))))
                 refine wpQuiet_nil ?_
                 intro wq hw'
                 obtain ⟨⟨_, hbq⟩, hw''⟩ := hw'
                 subst hw'')
                have HE := hide (hBw.trans (hbq.mono hBw.size))
                clear hbq hBw p0 p1 C1 C2 C3 y0
                go_wp2
                go_roundw
                case rel => exact ⟨j + 1 + 1, by omega, by go_num, HX.out, HE.out⟩
                case measure => simp [intOf]; omega
              · have n1 : decide (0 ≤ cc) = true := by simp; omega
                have HX := hide (HF.out (by rw [decide_eq_false hc]; rfl))
                clear HN HF
                go_wp2_with fail
                (refine wp_region_quiet_bw (by kernel_rfl) (by kernel_rfl) ?_
                 repeat (first | go_big_quiet_step ((first | (go_at_call 76; with_reducible exact C1.out _) | (go_at_call 85; with_reducible exact C2.out _) | (go_at_call 78; with_reducible exact C3.out _))) | quiet_step ((first | (go_at_call 76; with_reducible exact C1.out _) | (go_at_call 85; with_reducible exact C2.out _) | (go_at_call 78; with_reducible exact C3.out _))))
                 refine wpQuiet_nil ?_
                 intro wq hw'
                 obtain ⟨⟨_, hbq⟩, hw''⟩ := hw'
                 subst hw'')
                have HE := hide (hBw.trans (hbq.mono hBw.size))
                clear hbq hBw p0 p1 C1 C2 C3 y0
                go_wp2
                go_ret
                exact ⟨ret_bool HX.out.symm, HE.out⟩
    · obtain rfl : k = n := by omega
      have HX := hide (show okBag (dat l) = decide ((k : Int) ≤ 400) from by
        have h := HA.out
        rw [take_all (by rw [HL.out, HLN.out])] at h
        unfold okBag
        rw [h, HL.out, HLN.out, Bool.true_and, Bool.eq_iff_iff, decide_eq_true_eq, decide_eq_true_eq]
        omega)
      go_wp2
      go_ret
      exact ⟨ret_bool HX.out.symm, hBw⟩

theorem told_any (A : Option Addr) (n c B : Nat) (l : List It) (w : World) (hb : BagR w B A n l) (hB : B ≤ w.heap.size) (hc : n ≤ c) :
    Calls Tryz.prog 51 #[.slice A n c] w (RetPut w (dat l)) := by
  cases ho : okBag (dat l)
  · have HO := hide ho
    rw [show RetPut w (dat l) = RetBag w [] 4 from by unfold RetPut; rw [ho]; rfl]
    clear ho
    go_enter Tryz.func51, Tryz.ntmps51
    go_wp2_with fail
    refine (R3Valid_any A n c B l w hb).mono ?_
    rintro e w' ⟨rfl, hB1⟩
    rw [HO.out]
    go_wp2
    go_ret2
    exact ⟨none, 0, 0, [], rfl, rfl, BagR.nil _ _, Nat.le_refl _, hB1⟩
  · have HO := hide ho
    rw [show RetPut w (dat l) = RetBag w (dat l) 0 from by unfold RetPut; rw [ho]; rfl]
    clear ho
    go_enter Tryz.func51, Tryz.ntmps51
    go_wp2_with fail
    refine (R3Valid_any A n c B l w hb).mono ?_
    rintro e w' ⟨rfl, hB1⟩
    rw [HO.out]
    go_wp2
    go_ret2
    exact ⟨A, n, c, l, rfl, rfl, (hb.below hB1).mono (Nat.le_trans hB hB1.size), hc, hB1⟩
end Go.Proofs.YtiioiajcoiaalaaGreatDoor
