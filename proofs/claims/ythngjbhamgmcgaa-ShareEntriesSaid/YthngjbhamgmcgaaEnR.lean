/-
  The walks of the reference's CompareEntries and Twice.
-/
import Derived.Test.YthngjbhamgmcgaaEnW
import Derived.Deep.CutRange
import Derived.Deep.RegionHeld3
namespace Go.Proofs.Ythngjbhamgmcgaa
open Go.RowKit
attribute [local go_sem] Oper.semAt_some
set_option linter.unusedVariables false

theorem cmE_g {x y : En} (h : x.g ≠ y.g) : cmE x y = cmpI x.g y.g := by
  have h0 : cmpI x.g y.g ≠ 0 := fun e => h (cmpI_zero e)
  have h1 : plE x y = cmpI x.g y.g := by unfold plE; rw [thenC, if_neg h0]
  unfold cmE
  rw [thenC, h1, if_neg h0]
theorem cmE_nm {x y : En} (h : x.g = y.g) (hc : cmpS x.nm y.nm ≠ 0) : cmE x y = cmpS x.nm y.nm := by
  have h1 : plE x y = cmpS x.nm y.nm := by unfold plE; rw [thenC, if_pos (by rw [h]; exact Tot.int.self _), thenC, if_neg hc]
  unfold cmE
  rw [thenC, h1, if_neg hc]
theorem cmE_ky {x y : En} (h : x.g = y.g) (h2 : x.nm = y.nm) (hc : cmpS x.ky y.ky ≠ 0) : cmE x y = cmpS x.ky y.ky := by
  have h1 : plE x y = cmpS x.ky y.ky := by unfold plE; rw [thenC, if_pos (by rw [h]; exact Tot.int.self _), thenC, if_pos (by rw [h2]; exact Tot.str.self _)]
  unfold cmE
  rw [thenC, h1, if_neg hc]
theorem plE_zero {x y : En} (h : x.g = y.g) (h2 : x.nm = y.nm) (h3 : x.ky = y.ky) : plE x y = 0 := by
  unfold plE; rw [thenC, if_pos (by rw [h]; exact Tot.int.self _), thenC, if_pos (by rw [h2]; exact Tot.str.self _), h3]; exact Tot.str.self _
theorem cmE_vl {x y : En} (h : x.g = y.g) (h2 : x.nm = y.nm) (h3 : x.ky = y.ky) : cmE x y = cmpS x.vl y.vl := by
  unfold cmE
  rw [thenC, if_pos (plE_zero h h2 h3)]
theorem cmpS_lt {x y : ByteArray} (h : ltS x y) : cmpS x y = -1 := by unfold cmpS; rw [if_pos h]
theorem cmpS_gt {x y : ByteArray} (h : ¬ ltS x y) (h2 : ltS y x) : cmpS x y = 1 := by unfold cmpS; rw [if_neg h, if_pos h2]
theorem plE_parts {x y : En} (h : plE x y = 0) : x.g = y.g ∧ x.nm = y.nm ∧ x.ky = y.ky := by
  obtain ⟨h1, h2⟩ := thenC_zero h
  obtain ⟨h2, h3⟩ := thenC_zero h2
  exact ⟨cmpI_zero h1, cmpS_zero h2, cmpS_zero h3⟩
set_option maxRecDepth 100000 in
set_option maxHeartbeats 16000000 in
theorem RCompareE_any (x y : En) (w : World) : Calls Try.prog 35 #[.agg #[.int .i64 x.g, .string x.nm, .string x.ky, .string x.vl], .agg #[.int .i64 y.g, .string y.nm, .string y.ky, .string y.vl]] w (RetV w (.int .i64 (cmE x y))) := by
  obtain ⟨res, hres⟩ : ∃ r, cmE x y = r := ⟨_, rfl⟩
  have HR := hide hres
  rw [hres]
  clear hres
  have hB := ((Grn.new w (.cells #[.int .i64 x.g, .string x.nm, .string x.ky, .string x.vl] 57)).alloc (.cells #[.int .i64 y.g, .string y.nm, .string y.ky, .string y.vl] 57)).below
  have k1 := (Blk.new w 57 #[.int .i64 x.g, .string x.nm, .string x.ky, .string x.vl]).alloc (.cells #[.int .i64 y.g, .string y.nm, .string y.ky, .string y.vl] 57)
  have k2 : Blk ((w.alloc (.cells #[.int .i64 x.g, .string x.nm, .string x.ky, .string x.vl] 57)).alloc (.cells #[.int .i64 y.g, .string y.nm, .string y.ky, .string y.vl] 57)) (w.heap.size + 1) 57 #[.int .i64 y.g, .string y.nm, .string y.ky, .string y.vl] := by
    have := Blk.new (w.alloc (.cells #[.int .i64 x.g, .string x.nm, .string x.ky, .string x.vl] 57)) 57 #[.int .i64 y.g, .string y.nm, .string y.ky, .string y.vl]
    rw [World.size_alloc] at this; exact this
  obtain ⟨W, hW⟩ : ∃ W, (w.alloc (.cells #[.int .i64 x.g, .string x.nm, .string x.ky, .string x.vl] 57)).alloc (.cells #[.int .i64 y.g, .string y.nm, .string y.ky, .string y.vl] 57) = W := ⟨_, rfl⟩
  rw [hW] at hB k1 k2
  have c0 := k1.cell 0
  have c1 := k1.cell 1
  have c2 := k1.cell 2
  have c3 := k1.cell 3
  have d0 := k2.cell 0
  have d1 := k2.cell 1
  have d2 := k2.cell 2
  have d3 := k2.cell 3
  simp at c0 c1 c2 c3 d0 d1 d2 d3
  have hw1 := k1.lt
  have hw2 := k2.lt
  by_cases hg : x.g = y.g
  · have zg : (x.g != y.g) = false := by simpa using hg
    have HEQ := hide hg
    clear hg
    go_enter Try.func35, Try.ntmps35
    go_upto_region 5 with fail
    clear hW
    go_cut [5, 6] from 18 to 31 (fun s5 s6 wx => ∃ b5 b6, s5 = .pointer (some ⟨b5, 0, none⟩) ∧ s6 = .pointer (some ⟨b6, 0, none⟩) ∧ Blk wx b5 82 #[.string x.nm, .string x.ky, .string x.vl] ∧ Blk wx b6 82 #[.string y.nm, .string y.ky, .string y.vl] ∧ Below W.heap.size W wx)
    case first =>
      have nn1 := World.new_ne W
      go_region_held3 (fun w' => w'.cell? ⟨w.heap.size, 1, none⟩ = some (.string x.nm) ∧ w'.cell? ⟨w.heap.size, 2, none⟩ = some (.string x.ky) ∧ w'.cell? ⟨w.heap.size, 3, none⟩ = some (.string x.vl) ∧ w'.cell? ⟨w.heap.size + 1, 1, none⟩ = some (.string y.nm) ∧ w'.cell? ⟨w.heap.size + 1, 2, none⟩ = some (.string y.ky) ∧ w'.cell? ⟨w.heap.size + 1, 3, none⟩ = some (.string y.vl)) (go_keep) (fail)
      · have m1 : Blk (((W.alloc (.cells #[.string x.nm, .string x.ky, .string x.vl] 82)).alloc (.cells #[.string y.nm, .string y.ky, .string y.vl] 82)).drew) W.heap.size 82 #[.string x.nm, .string x.ky, .string x.vl] := (Blk.new W _ _).alloc _
        have m2 : Blk (((W.alloc (.cells #[.string x.nm, .string x.ky, .string x.vl] 82)).alloc (.cells #[.string y.nm, .string y.ky, .string y.vl] 82)).drew) (W.heap.size + 1) 82 #[.string y.nm, .string y.ky, .string y.vl] := by
          have := Blk.new (W.alloc (.cells #[.string x.nm, .string x.ky, .string x.vl] 82)) 82 #[.string y.nm, .string y.ky, .string y.vl]
          rw [World.size_alloc] at this; exact this
        have m3 : Below W.heap.size W (((W.alloc (.cells #[.string x.nm, .string x.ky, .string x.vl] 82)).alloc (.cells #[.string y.nm, .string y.ky, .string y.vl] 82)).drew) := (((Below.refl W.heap.size W).alloc (Nat.le_refl _) _).alloc (by rw [World.size_alloc]; omega) _).drew
        clear c0 c1 c2 c3 d0 d1 d2 d3 k1 k2
        go_wp2_with fail
        go_meet
        case rel => exact ⟨_, _, rfl, rfl, m1, m2, m3⟩
      · have m1 : Blk (((W.alloc (.cells #[.string y.nm, .string y.ky, .string y.vl] 82)).alloc (.cells #[.string x.nm, .string x.ky, .string x.vl] 82)).drew) W.heap.size 82 #[.string y.nm, .string y.ky, .string y.vl] := (Blk.new W _ _).alloc _
        have m2 : Blk (((W.alloc (.cells #[.string y.nm, .string y.ky, .string y.vl] 82)).alloc (.cells #[.string x.nm, .string x.ky, .string x.vl] 82)).drew) (W.heap.size + 1) 82 #[.string x.nm, .string x.ky, .string x.vl] := by
          have := Blk.new (W.alloc (.cells #[.string y.nm, .string y.ky, .string y.vl] 82)) 82 #[.string x.nm, .string x.ky, .string x.vl]
          rw [World.size_alloc] at this; exact this
        have m3 : Below W.heap.size W (((W.alloc (.cells #[.string y.nm, .string y.ky, .string y.vl] 82)).alloc (.cells #[.string x.nm, .string x.ky, .string x.vl] 82)).drew) := (((Below.refl W.heap.size W).alloc (Nat.le_refl _) _).alloc (by rw [World.size_alloc]; omega) _).drew
        clear c0 c1 c2 c3 d0 d1 d2 d3 k1 k2
        go_wp2_with fail
        go_meet
        case rel => exact ⟨_, _, rfl, rfl, m2, m1, m3⟩
    case rest =>
      obtain ⟨b5, b6, rfl, rfl, k5, k6, hBc⟩ := hcut
      have hBX := hB.trans (hBc.mono hB.size)
      clear hB hBc c0 c1 c2 c3 d0 d1 d2 d3 k1 k2
      go_wp2_with fail
      go_loopw [7] (fun i wr => ∃ k : Nat, k ≤ 3 ∧ i = .int .i64 k ∧ (0 < k → x.nm = y.nm) ∧ (1 < k → x.ky = y.ky) ∧ (2 < k → x.vl = y.vl) ∧ Below wc.heap.size wc wr) (fun i _ => 3 - (intOf i).toNat)
      case atStart => exact ⟨0, Nat.zero_le _, rfl, (fun h => absurd h (by omega)), (fun h => absurd h (by omega)), (fun h => absurd h (by omega)), Below.refl _ _⟩
      case round =>
        obtain ⟨k, hk, rfl, z0, z1, z2, hBr⟩ := hrel
        have j5 := k5.below hBr k5.lt
        have j6 := k6.below hBr k6.lt
        by_cases hk0 : k = 0
        · subst hk0
          have f5 := j5.cell 0
          have f6 := j6.cell 0
          simp at f5 f6
          clear j5 j6
          by_cases h1 : ltS x.nm y.nm
          · have n1 := less_yes h1
            have HX := hide (show -1 = res by rw [← HR.out, cmE_nm HEQ.out (by rw [cmpS_lt h1]; decide), cmpS_lt h1])
            clear h1
            go_wp2_with fail
            go_quiet (fail)
            have HB := hide (hBX.trans ((below_drewN hBr nq).mono hBX.size))
            go_wp2
            go_ret
            exact ⟨ret_int HX.out, HB.out⟩
          · have n1 := less_no h1
            by_cases h2 : ltS y.nm x.nm
            · have n2 : (x.nm.toList == y.nm.toList) = false := by rw [str_eq0]; exact decide_eq_false fun e => ltS_irrefl x.nm (by rw [← e] at h2; exact h2)
              have HX := hide (show 1 = res by rw [← HR.out, cmE_nm HEQ.out (by rw [cmpS_gt h1 h2]; decide), cmpS_gt h1 h2])
              clear h1 h2
              go_wp2_with fail
              go_quiet (fail)
              obtain ⟨Y, hY⟩ : ∃ Y, wr.drewN nq = Y := ⟨_, rfl⟩
              have hBY := below_drewN hBr nq
              have f5 : Y.cell? ⟨b5, 0, none⟩ = some (.string x.nm) := by rw [← hY]; exact f5
              have f6 : Y.cell? ⟨b6, 0, none⟩ = some (.string y.nm) := by rw [← hY]; exact f6
              rw [hY] at hBY ⊢
              clear hY
              go_wp2_with fail
              go_quiet (fail)
              have HB := hide (hBX.trans ((below_drewN hBY nq).mono hBX.size))
              go_wp2
              go_ret
              exact ⟨ret_int HX.out, HB.out⟩
            · have n2 : (x.nm.toList == y.nm.toList) = true := by rw [str_eq0]; exact decide_eq_true (ltS_eq h1 h2)
              have HE := hide (ltS_eq h1 h2)
              clear h1 h2
              go_wp2_with fail
              go_quiet (fail)
              obtain ⟨Y, hY⟩ : ∃ Y, wr.drewN nq = Y := ⟨_, rfl⟩
              have hBY := below_drewN hBr nq
              have f5 : Y.cell? ⟨b5, 0, none⟩ = some (.string x.nm) := by rw [← hY]; exact f5
              have f6 : Y.cell? ⟨b6, 0, none⟩ = some (.string y.nm) := by rw [← hY]; exact f6
              rw [hY] at hBY ⊢
              clear hY
              go_wp2_with fail
              go_quiet (fail)
              have HB := hide (below_drewN hBY nq)
              go_wp2
              go_roundw
              case rel => exact ⟨1, by omega, rfl, (fun _ => HE.out), (fun h => absurd h (by omega)), (fun h => absurd h (by omega)), HB.out⟩
              case measure => simp [intOf]
        by_cases hk1 : k = 1
        · subst hk1
          have f5 := j5.cell 1
          have f6 := j6.cell 1
          simp at f5 f6
          clear j5 j6
          by_cases h1 : ltS x.ky y.ky
          · have n1 := less_yes h1
            have HX := hide (show -1 = res by rw [← HR.out, cmE_ky HEQ.out (z0 (by omega)) (by rw [cmpS_lt h1]; decide), cmpS_lt h1])
            clear h1
            go_wp2_with fail
            go_quiet (fail)
            have HB := hide (hBX.trans ((below_drewN hBr nq).mono hBX.size))
            go_wp2
            go_ret
            exact ⟨ret_int HX.out, HB.out⟩
          · have n1 := less_no h1
            by_cases h2 : ltS y.ky x.ky
            · have n2 : (x.ky.toList == y.ky.toList) = false := by rw [str_eq0]; exact decide_eq_false fun e => ltS_irrefl x.ky (by rw [← e] at h2; exact h2)
              have HX := hide (show 1 = res by rw [← HR.out, cmE_ky HEQ.out (z0 (by omega)) (by rw [cmpS_gt h1 h2]; decide), cmpS_gt h1 h2])
              clear h1 h2
              go_wp2_with fail
              go_quiet (fail)
              obtain ⟨Y, hY⟩ : ∃ Y, wr.drewN nq = Y := ⟨_, rfl⟩
              have hBY := below_drewN hBr nq
              have f5 : Y.cell? ⟨b5, 1, none⟩ = some (.string x.ky) := by rw [← hY]; exact f5
              have f6 : Y.cell? ⟨b6, 1, none⟩ = some (.string y.ky) := by rw [← hY]; exact f6
              rw [hY] at hBY ⊢
              clear hY
              go_wp2_with fail
              go_quiet (fail)
              have HB := hide (hBX.trans ((below_drewN hBY nq).mono hBX.size))
              go_wp2
              go_ret
              exact ⟨ret_int HX.out, HB.out⟩
            · have n2 : (x.ky.toList == y.ky.toList) = true := by rw [str_eq0]; exact decide_eq_true (ltS_eq h1 h2)
              have HE := hide (ltS_eq h1 h2)
              clear h1 h2
              go_wp2_with fail
              go_quiet (fail)
              obtain ⟨Y, hY⟩ : ∃ Y, wr.drewN nq = Y := ⟨_, rfl⟩
              have hBY := below_drewN hBr nq
              have f5 : Y.cell? ⟨b5, 1, none⟩ = some (.string x.ky) := by rw [← hY]; exact f5
              have f6 : Y.cell? ⟨b6, 1, none⟩ = some (.string y.ky) := by rw [← hY]; exact f6
              rw [hY] at hBY ⊢
              clear hY
              go_wp2_with fail
              go_quiet (fail)
              have HB := hide (below_drewN hBY nq)
              go_wp2
              go_roundw
              case rel => exact ⟨2, by omega, rfl, (fun _ => z0 (by omega)), (fun _ => HE.out), (fun h => absurd h (by omega)), HB.out⟩
              case measure => simp [intOf]
        by_cases hk2 : k = 2
        · subst hk2
          have f5 := j5.cell 2
          have f6 := j6.cell 2
          simp at f5 f6
          clear j5 j6
          by_cases h1 : ltS x.vl y.vl
          · have n1 := less_yes h1
            have HX := hide (show -1 = res by rw [← HR.out, cmE_vl HEQ.out (z0 (by omega)) (z1 (by omega)), cmpS_lt h1])
            clear h1
            go_wp2_with fail
            go_quiet (fail)
            have HB := hide (hBX.trans ((below_drewN hBr nq).mono hBX.size))
            go_wp2
            go_ret
            exact ⟨ret_int HX.out, HB.out⟩
          · have n1 := less_no h1
            by_cases h2 : ltS y.vl x.vl
            · have n2 : (x.vl.toList == y.vl.toList) = false := by rw [str_eq0]; exact decide_eq_false fun e => ltS_irrefl x.vl (by rw [← e] at h2; exact h2)
              have HX := hide (show 1 = res by rw [← HR.out, cmE_vl HEQ.out (z0 (by omega)) (z1 (by omega)), cmpS_gt h1 h2])
              clear h1 h2
              go_wp2_with fail
              go_quiet (fail)
              obtain ⟨Y, hY⟩ : ∃ Y, wr.drewN nq = Y := ⟨_, rfl⟩
              have hBY := below_drewN hBr nq
              have f5 : Y.cell? ⟨b5, 2, none⟩ = some (.string x.vl) := by rw [← hY]; exact f5
              have f6 : Y.cell? ⟨b6, 2, none⟩ = some (.string y.vl) := by rw [← hY]; exact f6
              rw [hY] at hBY ⊢
              clear hY
              go_wp2_with fail
              go_quiet (fail)
              have HB := hide (hBX.trans ((below_drewN hBY nq).mono hBX.size))
              go_wp2
              go_ret
              exact ⟨ret_int HX.out, HB.out⟩
            · have n2 : (x.vl.toList == y.vl.toList) = true := by rw [str_eq0]; exact decide_eq_true (ltS_eq h1 h2)
              have HE := hide (ltS_eq h1 h2)
              clear h1 h2
              go_wp2_with fail
              go_quiet (fail)
              obtain ⟨Y, hY⟩ : ∃ Y, wr.drewN nq = Y := ⟨_, rfl⟩
              have hBY := below_drewN hBr nq
              have f5 : Y.cell? ⟨b5, 2, none⟩ = some (.string x.vl) := by rw [← hY]; exact f5
              have f6 : Y.cell? ⟨b6, 2, none⟩ = some (.string y.vl) := by rw [← hY]; exact f6
              rw [hY] at hBY ⊢
              clear hY
              go_wp2_with fail
              go_quiet (fail)
              have HB := hide (below_drewN hBY nq)
              go_wp2
              go_roundw
              case rel => exact ⟨3, by omega, rfl, (fun _ => z0 (by omega)), (fun _ => z1 (by omega)), (fun _ => HE.out), HB.out⟩
              case measure => simp [intOf]
        obtain rfl : k = 3 := by omega
        have HX := hide (show 0 = res by rw [← HR.out, cmE_vl HEQ.out (z0 (by omega)) (z1 (by omega)), z2 (by omega)]; exact (Tot.str.self _).symm)
        have HB := hide (hBX.trans (hBr.mono hBX.size))
        clear j5 j6
        go_wp2
        go_ret
        exact ⟨ret_int HX.out, HB.out⟩
  · have zg : (x.g != y.g) = true := by simpa using hg
    by_cases hlt : x.g < y.g
    · have HX := hide (show -1 = res by rw [← HR.out, cmE_g hg]; unfold cmpI; rw [if_pos hlt])
      clear hg
      go_enter Try.func35, Try.ntmps35
      go_wp2
      go_ret
      exact ⟨ret_int HX.out, hB⟩
    · have HX := hide (show 1 = res by rw [← HR.out, cmE_g hg]; unfold cmpI; rw [if_neg hlt, if_pos (by omega)])
      clear hg
      go_enter Try.func35, Try.ntmps35
      go_wp2
      go_ret
      exact ⟨ret_int HX.out, hB⟩
end Go.Proofs.Ythngjbhamgmcgaa
