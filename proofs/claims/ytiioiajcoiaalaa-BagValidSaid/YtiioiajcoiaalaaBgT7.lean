/-
  The walks of ValidChange on both sides, and of FewChanges at one change.
-/
import Derived.Test.YtiioiajcoiaalaaBgF
import Derived.Test.YtiioiajcoiaalaaBgS4
namespace Go.Proofs.Ytiioiajcoiaalaa
open Go.RowKit
attribute [local go_sem] Oper.semAt_some

theorem R1Within_any (n lo hi : Int) (w : World) : Calls Try.prog 65 #[.int .i64 n, .int .i64 lo, .int .i64 hi] w fun e w' => e = .returned (.bool (btw n lo hi)) ∧ w = w' := by
  by_cases h1 : n < lo
  · rw [btw_lo h1]
    go_enter Try.func65, Try.ntmps65
    go_wp2
    go_ret
    exact ⟨rfl, rfl⟩
  · rw [show btw n lo hi = decide (n ≤ hi) from by simp [btw, show lo ≤ n by omega]]
    go_enter Try.func65, Try.ntmps65
    go_wp2
    go_ret
    exact ⟨rfl, rfl⟩
theorem R1Valid_any (n : Int) (w : World) : Calls Try.prog 46 #[.int .i64 n] w fun e w' => e = .returned (.bool (btw n (-1000000000000) 1000000000000)) ∧ w = w' := by
  go_enter Try.func46, Try.ntmps46
  go_wp2_with fail
  refine (R1Within_any n _ _ w).mono ?_
  rintro e w' ⟨rfl, rfl⟩
  go_wp2
  go_ret
  exact ⟨rfl, rfl⟩
/-- What ValidChange tells. -/
def okCh (t : Int) (r : Rw) (m : Int) : Bool := btw t (-1000000000000) 1000000000000 && okR r && numB m
set_option maxRecDepth 100000 in
set_option maxHeartbeats 4000000 in
theorem ValidChange_any (t : Int) (A : Option Addr) (n c : Nat) (r : Rw) (m : Int) (w : World) (hr : RowK w w.heap.size A n r) :
    Calls Try.prog 20 #[.agg #[.int .i64 t, .slice A n c, .int .i64 m]] w (RetV w (.bool (okCh t r m))) := by
  obtain ⟨p, hp⟩ : ∃ p, okCh t r m = p := ⟨_, rfl⟩
  have HP := hide hp
  rw [hp]
  clear hp
  have hB0 := below_val (w := w) #[.int .i64 t, .slice A n c, .int .i64 m] 36
  have b0 := Blk.new w 36 #[.int .i64 t, .slice A n c, .int .i64 m]
  have hr1 := (hr.below hB0).mono hB0.size
  go_enter Try.func20, Try.ntmps20
  go_wp2_with fail
  refine (bwithin_any t _ _ _).mono ?_
  rintro e W1 ⟨rfl, rfl⟩
  cases ht : btw t (-1000000000000) 1000000000000
  · have HX := hide (show false = p by rw [← HP.out]; unfold okCh; rw [ht]; rfl)
    clear ht
    go_wp2
    go_ret
    exact ⟨ret_bool HX.out, hB0⟩
  · have HT := hide ht
    clear ht
    go_wp2_with fail
    refine (RowValid_any A n c _ r _ hr1.rd (Nat.le_refl _) hr.le).mono ?_
    rintro e W2 ⟨rfl, hB2⟩
    have c2 : W2.cell? ⟨w.heap.size, 2, none⟩ = some (.int .i64 m) := (hB2.cell (p := ⟨w.heap.size, 2, none⟩) b0.lt).trans (b0.cell 2)
    have hB02 := bstep hB0 hB2
    clear hB2
    cases hq : okR r
    · have HX := hide (show false = p by rw [← HP.out]; unfold okCh; rw [hq]; simp)
      clear hq
      go_wp2
      go_ret
      exact ⟨ret_bool HX.out, hB02⟩
    · have HX := hide (show numB m = p by rw [← HP.out]; unfold okCh; rw [HT.out, hq]; rfl)
      clear hq
      go_wp2_with fail
      refine (number_any m W2).mono ?_
      rintro e W3 ⟨rfl, rfl⟩
      go_wp2
      go_ret
      exact ⟨ret_bool HX.out, hB02⟩
set_option maxRecDepth 100000 in
set_option maxHeartbeats 4000000 in
theorem RValidChange_any (t : Int) (A : Option Addr) (n c : Nat) (r : Rw) (m : Int) (w : World) (hr : RowK w w.heap.size A n r) :
    Calls Try.prog 21 #[.agg #[.int .i64 t, .slice A n c, .int .i64 m]] w (RetV w (.bool (okCh t r m))) := by
  obtain ⟨p, hp⟩ : ∃ p, okCh t r m = p := ⟨_, rfl⟩
  have HP := hide hp
  rw [hp]
  clear hp
  have hB0 := below_val (w := w) #[.int .i64 t, .slice A n c, .int .i64 m] 36
  have b0 := Blk.new w 36 #[.int .i64 t, .slice A n c, .int .i64 m]
  have hr1 := (hr.below hB0).mono hB0.size
  go_enter Try.func21, Try.ntmps21
  go_wp2_with fail
  refine (R1Valid_any t _).mono ?_
  rintro e W1 ⟨rfl, rfl⟩
  cases ht : btw t (-1000000000000) 1000000000000
  · have HX := hide (show false = p by rw [← HP.out]; unfold okCh; rw [ht]; rfl)
    clear ht
    go_wp2
    go_ret
    exact ⟨ret_bool HX.out, hB0⟩
  · have HT := hide ht
    clear ht
    go_wp2_with fail
    refine (R2Valid_any A n c _ r _ hr1.rd (Nat.le_refl _) hr.le).mono ?_
    rintro e W2 ⟨rfl, hB2⟩
    have c2 : W2.cell? ⟨w.heap.size, 2, none⟩ = some (.int .i64 m) := (hB2.cell (p := ⟨w.heap.size, 2, none⟩) b0.lt).trans (b0.cell 2)
    have hB02 := bstep hB0 hB2
    clear hB2
    cases hq : okR r
    · have HX := hide (show false = p by rw [← HP.out]; unfold okCh; rw [hq]; simp)
      clear hq
      go_wp2
      go_ret
      exact ⟨ret_bool HX.out, hB02⟩
    · have HX := hide (show numB m = p by rw [← HP.out]; unfold okCh; rw [HT.out, hq]; rfl)
      clear hq
      by_cases hm : m = 0
      · have z : (m != 0) = false := by simpa using hm
        have HY := hide (show false = p by rw [← HX.out, hm]; rfl)
        clear hm
        go_wp2
        go_ret
        exact ⟨ret_bool HY.out, hB02⟩
      · have z : (m != 0) = true := by simpa using hm
        have HY := hide (show btw m (-1000000) 1000000 = p by
          rw [← HX.out, show numB m = (decide (m ≠ 0) && btw m (-1000000) 1000000) from rfl]
          simp [hm])
        clear hm
        go_wp2_with fail
        refine (R3within_any m _ _ W2).mono ?_
        rintro e W3 ⟨rfl, rfl⟩
        go_wp2
        go_ret
        exact ⟨ret_bool HY.out, hB02⟩
set_option maxRecDepth 100000 in
set_option maxHeartbeats 4000000 in
theorem FewChanges_one (g : Nat) (t : Int) (A : Option Addr) (n c : Nat) (r : Rw) (m : Int) (w : World) (hg : Blk w g 36 #[.int .i64 t, .slice A n c, .int .i64 m]) (hr : RowK w w.heap.size A n r) :
    Calls Try.prog 15 #[.slice (some ⟨g, 0, none⟩) 1 1] w (RetSome w) := by
  have c1 := hg.cell 1
  have c1' : w.cell? ⟨g, 0 + 0 * 3 + 1, none⟩ = some (.slice A n c) := by simpa using c1
  have hlt := hg.lt
  have hB1 := below_val (w := w) #[.slice A n c] 34
  have HL := hide (Long_one A n c r w.heap.size _ (hr.below hB1).rd hr.le ((Blk.new w 34 #[.slice A n c]).cell 0))
  have HB := hide hB1
  clear hB1
  go_enter Try.func15, Try.ntmps15
  go_wp2_with fail
  go_loopw [3] (fun i wr => (i = .int .i64 0 ∧ wr = w) ∨ (i = .int .i64 1 ∧ Below w.heap.size w wr)) (fun i _ => 1 - (intOf i).toNat)
  case atStart => exact .inl ⟨rfl, rfl⟩
  case round =>
    rcases hrel with ⟨rfl, rfl⟩ | ⟨rfl, hB⟩
    · go_wp2_with fail
      refine HL.out.mono ?_
      rintro e W ⟨b, rfl, hB2⟩
      have HF := hide (bstep HB.out hB2)
      clear hB2
      cases b
      · go_wp2
        go_roundw
        case rel => exact .inr ⟨rfl, HF.out⟩
        case measure => simp [intOf]
      · go_wp2
        go_ret
        exact ⟨_, rfl, HF.out⟩
    · go_wp2
      go_ret
      exact ⟨_, rfl, hB⟩
end Go.Proofs.Ytiioiajcoiaalaa
