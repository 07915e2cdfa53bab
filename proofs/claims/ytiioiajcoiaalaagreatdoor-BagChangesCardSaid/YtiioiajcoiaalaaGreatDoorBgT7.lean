/-
  The walks of ValidChange on both sides, and of FewChanges at one change.
-/
import Derived.Test.YtiioiajcoiaalaaGreatDoorBgF
import Derived.Test.YtiioiajcoiaalaaGreatDoorBgS4
namespace Go.Proofs.YtiioiajcoiaalaaGreatDoor
open Go.RowKit
attribute [local go_sem] Oper.semAt_some

theorem R1Within_any (n lo hi : Int) (w : World) : Calls Tryz.prog 114 #[.int .i64 n, .int .i64 lo, .int .i64 hi] w fun e w' => e = .returned (.bool (btw n lo hi)) ∧ w = w' := by
  by_cases h1 : n < lo
  · rw [btw_lo h1]
    go_enter Tryz.func114, Tryz.ntmps114
    go_wp2
    go_ret
    exact ⟨rfl, rfl⟩
  · rw [show btw n lo hi = decide (n ≤ hi) from by simp [btw, show lo ≤ n by omega]]
    go_enter Tryz.func114, Tryz.ntmps114
    go_wp2
    go_ret
    exact ⟨rfl, rfl⟩
theorem R1Valid_any (n : Int) (w : World) : Calls Tryz.prog 58 #[.int .i64 n] w fun e w' => e = .returned (.bool (btw n (-1000000000000) 1000000000000)) ∧ w = w' := by
  go_enter Tryz.func58, Tryz.ntmps58
  go_wp2_with fail
  refine (R1Within_any n _ _ w).mono ?_
  rintro e w' ⟨rfl, rfl⟩
  go_wp2
  go_ret
  exact ⟨rfl, rfl⟩
/-- What ValidChange tells. -/
def okCh (t : Int) (r : Rw) (m : Int) : Bool := btw t (-1000000000000) 1000000000000 && okR r && numB m
set_option maxRecDepth 100000 in
set_option maxHeartbeats 4000000 in
theorem ValidChange_any (t : Int) (A : Option Addr) (n c : Nat) (r : Rw) (m : Int) (w : World) (hr : RowK w w.heap.size A n r) :
    Calls Tryz.prog 106 #[.agg #[.int .i64 t, .slice A n c, .int .i64 m]] w (RetV w (.bool (okCh t r m))) := by
  obtain ⟨p, hp⟩ : ∃ p, okCh t r m = p := ⟨_, rfl⟩
  have HP := hide hp
  rw [hp]
  clear hp
  have hB0 := below_val (w := w) #[.int .i64 t, .slice A n c, .int .i64 m] 45
  have b0 := Blk.new w 45 #[.int .i64 t, .slice A n c, .int .i64 m]
  have hr1 := (hr.below hB0).mono hB0.size
  go_enter Tryz.func106, Tryz.ntmps106
  go_wp2_with fail
  refine (bwithin_any t _ _ _).mono ?_
  rintro e W1 ⟨rfl, rfl⟩
  cases ht : btw t (-1000000000000) 1000000000000
  · have HX := hide (show false = p by rw [← HP.out]; unfold okCh; rw [ht]; rfl)
    clear ht
    go_wp2
    go_ret
    exact ⟨ret_bool HX.out, hB0⟩
  · have HT := hide ht
    clear ht
    go_wp2_with fail
    refine (RowValid_any A n c _ r _ hr1.rd (Nat.le_refl _) hr.le).mono ?_
    rintro e W2 ⟨rfl, hB2⟩
    have c2 : W2.cell? ⟨w.heap.size, 2, none⟩ = some (.int .i64 m) := (hB2.cell (p := ⟨w.heap.size, 2, none⟩) b0.lt).trans (b0.cell 2)
    have hB02 := bstep hB0 hB2
    clear hB2
    cases hq : okR r
    · have HX := hide (show false = p by rw [← HP.out]; unfold okCh; rw [hq]; simp)
      clear hq
      go_wp2
      go_ret
      exact ⟨ret_bool HX.out, hB02⟩
    · have HX := hide (show numB m = p by rw [← HP.out]; unfold okCh; rw [HT.out, hq]; rfl)
      clear hq
      go_wp2_with fail
      refine (number_any m W2).mono ?_
      rintro e W3 ⟨rfl, rfl⟩
      go_wp2
      go_ret
      exact ⟨ret_bool HX.out, hB02⟩
set_option maxRecDepth 100000 in
set_option maxHeartbeats 4000000 in
theorem RValidChange_any (t : Int) (A : Option Addr) (n c : Nat) (r : Rw) (m : Int) (w : World) (hr : RowK w w.heap.size A n r) :
    Calls Tryz.prog 112 #[.agg #[.int .i64 t, .slice A n c, .int .i64 m]] w (RetV w (.bool (okCh t r m))) := by
  obtain ⟨p, hp⟩ : ∃ p, okCh t r m = p := ⟨_, rfl⟩
  have HP := hide hp
  rw [hp]
  clear hp
  have hB0 := below_val (w := w) #[.int .i64 t, .slice A n c, .int .i64 m] 45
  have b0 := Blk.new w 45 #[.int .i64 t, .slice A n c, .int .i64 m]
  have hr1 := (hr.below hB0).mono hB0.size
  go_enter Tryz.func112, Tryz.ntmps112
  go_wp2_with fail
  refine (R1Valid_any t _).mono ?_
  rintro e W1 ⟨rfl, rfl⟩
  cases ht : btw t (-1000000000000) 1000000000000
  · have HX := hide (show false = p by rw [← HP.out]; unfold okCh; rw [ht]; rfl)
    clear ht
    go_wp2
    go_ret
    exact ⟨ret_bool HX.out, hB0⟩
  · have HT := hide ht
    clear ht
    go_wp2_with fail
    refine (R2Valid_any A n c _ r _ hr1.rd (Nat.le_refl _) hr.le).mono ?_
    rintro e W2 ⟨rfl, hB2⟩
    have c2 : W2.cell? ⟨w.heap.size, 2, none⟩ = some (.int .i64 m) := (hB2.cell (p := ⟨w.heap.size, 2, none⟩) b0.lt).trans (b0.cell 2)
    have hB02 := bstep hB0 hB2
    clear hB2
    cases hq : okR r
    · have HX := hide (show false = p by rw [← HP.out]; unfold okCh; rw [hq]; simp)
      clear hq
      go_wp2
      go_ret
      exact ⟨ret_bool HX.out, hB02⟩
    · have HX := hide (show numB m = p by rw [← HP.out]; unfold okCh; rw [HT.out, hq]; rfl)
      clear hq
      by_cases hm : m = 0
      · have z : (m != 0) = false := by simpa using hm
        have HY := hide (show false = p by rw [← HX.out, hm]; rfl)
        clear hm
        go_wp2
        go_ret
        exact ⟨ret_bool HY.out, hB02⟩
      · have z : (m != 0) = true := by simpa using hm
        have HY := hide (show btw m (-1000000) 1000000 = p by
          rw [← HX.out, show numB m = (decide (m ≠ 0) && btw m (-1000000) 1000000) from rfl]
          simp [hm])
        clear hm
        go_wp2_with fail
        refine (R3within_any m _ _ W2).mono ?_
        rintro e W3 ⟨rfl, rfl⟩
        go_wp2
        go_ret
        exact ⟨ret_bool HY.out, hB02⟩
set_option maxRecDepth 100000 in
set_option maxHeartbeats 4000000 in
theorem FewChanges_one (g : Nat) (t : Int) (A : Option Addr) (n c : Nat) (r : Rw) (m : Int) (w : World) (hg : Blk w g 45 #[.int .i64 t, .slice A n c, .int .i64 m]) (hr : RowK w w.heap.size A n r) :
    Calls Tryz.prog 10 #[.slice (some ⟨g, 0, none⟩) 1 1] w (RetSome w) := by
  have c1 := hg.cell 1
  have c1' : w.cell? ⟨g, 0 + 0 * 3 + 1, none⟩ = some (.slice A n c) := by simpa using c1
  have hlt := hg.lt
  have hB1 := below_val (w := w) #[.slice A n c] 43
  have HL := hide (Long_one A n c r w.heap.size _ (hr.below hB1).rd hr.le ((Blk.new w 43 #[.slice A n c]).cell 0))
  have HB := hide hB1
  clear hB1
  go_enter Tryz.func10, Tryz.ntmps10
  go_wp2_with fail
  go_loopw [3] (fun i wr => (i = .int .i64 0 ∧ wr = w) ∨ (i = .int .i64 1 ∧ Below w.heap.size w wr)) (fun i _ => 1 - (intOf i).toNat)
  case atStart => exact .inl ⟨rfl, rfl⟩
  case round =>
    rcases hrel with ⟨rfl, rfl⟩ | ⟨rfl, hB⟩
    · go_wp2_with fail
      refine HL.out.mono ?_
      rintro e W ⟨b, rfl, hB2⟩
      have HF := hide (bstep HB.out hB2)
      clear hB2
      cases b
      · go_wp2
        go_roundw
        case rel => exact .inr ⟨rfl, HF.out⟩
        case measure => simp [intOf]
      · go_wp2
        go_ret
        exact ⟨_, rfl, HF.out⟩
    · go_wp2
      go_ret
      exact ⟨_, rfl, hB⟩
end Go.Proofs.YtiioiajcoiaalaaGreatDoor
