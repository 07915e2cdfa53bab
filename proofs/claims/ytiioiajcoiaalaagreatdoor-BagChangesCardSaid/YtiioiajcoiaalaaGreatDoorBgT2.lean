/-
  The walk of the reference's Same over bags, for every two of them.
-/
import Derived.Test.YtiioiajcoiaalaaGreatDoorBgT1
namespace Go.Proofs.YtiioiajcoiaalaaGreatDoor
open Go.RowKit
attribute [local go_sem] Oper.semAt_some

set_option maxRecDepth 100000 in
set_option maxHeartbeats 4000000 in
theorem RBagSame_any (A : Option Addr) (n c : Nat) (l : List It) (A' : Option Addr) (n' c' : Nat) (l' : List It) (B B' : Nat) (w : World) (hx : BagR w B A n l) (hy : BagR w B' A' n' l') :
    Calls Tryz.prog 14 #[.slice A n c, .slice A' n' c'] w (RetV w (.bool (decide (dat l = dat l')))) := by
  have hn := hx.le
  have HL := hide (show (dat l).length = n by rw [dat_len, hx.len])
  have HL' := hide (show (dat l').length = n' by rw [dat_len, hy.len])
  by_cases h : n = n'
  · subst h
    have n1 : ((n : Int) != (n : Int)) = false := by simp
    go_enter Tryz.func14, Tryz.ntmps14
    go_wp2_with fail
    go_loopw [5] (fun i wr => ∃ k : Nat, k ≤ n ∧ i = .int .i64 k ∧ (dat l).take k = (dat l').take k ∧ Below w.heap.size w wr) (fun i _ => n - (intOf i).toNat)
    case atStart => exact ⟨0, Nat.zero_le _, rfl, rfl, Below.refl _ _⟩
    case round =>
      obtain ⟨k, hk, rfl, ht, hB⟩ := hrel
      have HT := hide ht
      clear ht
      by_cases hlt : k < n
      · obtain ⟨b, off, x, rfl, hb, hxk, c0, c1, hrow⟩ := (hx.below hB).at_ hlt
        obtain ⟨b', off', x', rfl, hb', hxk', c0', c1', hrow'⟩ := (hy.below hB).at_ hlt
        have HE1 := hide (dat_at hxk)
        have HE2 := hide (dat_at hxk')
        have C1 := hide (fun (p : BW wr) => calls_bw (p := p) (RowSame_any x.A x.n x.c x.r x'.A x'.n x'.c x'.r p.x (hrow.below p.h).rd (hrow'.below p.h).rd hrow.le))
        have p0 := fun (p : BW wr) => BW.cell (a := ⟨b, off + k * 2, none⟩) hb c0 p
        have p1 := fun (p : BW wr) => BW.cell (a := ⟨b, off + k * 2 + 1, none⟩) hb c1 p
        have r0 := fun (p : BW wr) => BW.cell (a := ⟨b', off' + k * 2, none⟩) hb' c0' p
        have r1 := fun (p : BW wr) => BW.cell (a := ⟨b', off' + k * 2 + 1, none⟩) hb' c1' p
        clear c0 c1 c0' c1' hxk hxk' hrow hrow'
        have q1 : (0 : Int) ≤ (k : Int) := by omega
        have q2 : (k : Int) < (n : Int) := by omega
        obtain ⟨s, hs⟩ : ∃ s, decide (x.r = x'.r) = s := ⟨_, rfl⟩
        rw [hs] at C1
        by_cases hm : x.m = x'.m
        · have n2 : (x.m != x'.m) = false := by simpa using hm
          cases s
          · have HX := hide (show decide (dat l = dat l') = false from decide_eq_false (ne_at HE1.out HE2.out fun e => of_decide_eq_false hs (by injection e)))
            clear hm hs
            go_wp2_with fail
            (refine wp_region_quiet_bw (by kernel_rfl) (by kernel_rfl) ?_
             repeat (first | go_big_quiet_step (((go_at_call 53; exact C1.out _))) | quiet_step (((go_at_call 53; exact C1.out _))))
             refine wpQuiet_nil ?_
             intro wq hw'
             obtain ⟨⟨_, hbq⟩, hw''⟩ := hw'
             subst hw'')
            have HB2 := hide (bstep hB hbq)
            clear hbq hB p0 p1 r0 r1 C1
            go_wp2
            go_ret
            exact ⟨ret_bool HX.out.symm, HB2.out⟩
          · have HX := hide (eq_take HT.out HE1.out HE2.out (by rw [hm, of_decide_eq_true hs]))
            clear hm hs
            go_wp2_with fail
            (refine wp_region_quiet_bw (by kernel_rfl) (by kernel_rfl) ?_
             repeat (first | go_big_quiet_step (((go_at_call 53; exact C1.out _))) | quiet_step (((go_at_call 53; exact C1.out _))))
             refine wpQuiet_nil ?_
             intro wq hw'
             obtain ⟨⟨_, hbq⟩, hw''⟩ := hw'
             subst hw'')
            have hB2 := bstep hB hbq
            clear hbq hB p0 p1 r0 r1 C1
            go_wp2
            go_roundw
            case rel => exact ⟨k + 1, by omega, by go_num, HX.out, hB2⟩
            case measure => simp [intOf]; omega
        · have n2 : (x.m != x'.m) = true := by simpa using hm
          have HX := hide (show decide (dat l = dat l') = false from decide_eq_false (ne_at HE1.out HE2.out fun e => hm (by injection e)))
          clear hm hs
          go_wp2_with fail
          (refine wp_region_quiet_bw (by kernel_rfl) (by kernel_rfl) ?_
           repeat (first | go_big_quiet_step (((go_at_call 53; exact C1.out _))) | quiet_step (((go_at_call 53; exact C1.out _))))
           refine wpQuiet_nil ?_
           intro wq hw'
           obtain ⟨⟨_, hbq⟩, hw''⟩ := hw'
           subst hw'')
          have HB2 := hide (bstep hB hbq)
          clear hbq hB p0 p1 r0 r1 C1
          go_wp2
          go_ret
          exact ⟨ret_bool HX.out.symm, HB2.out⟩
      · obtain rfl : k = n := by omega
        have HX := hide (show decide (dat l = dat l') = true from by
          have h := HT.out
          rw [take_all HL.out, take_all HL'.out] at h
          simp [h])
        go_wp2
        go_ret
        exact ⟨ret_bool HX.out.symm, hB⟩
  · have n1 : ((n : Int) != (n' : Int)) = true := by simp; omega
    have HX := hide (show decide (dat l = dat l') = false from decide_eq_false fun e => h (by rw [← HL.out, ← HL'.out, e]))
    clear h
    go_enter Tryz.func14, Tryz.ntmps14
    go_wp2
    go_ret
    exact ⟨ret_bool HX.out.symm, Below.refl _ _⟩
end Go.Proofs.YtiioiajcoiaalaaGreatDoor
