/-
  The walk of tidewrightref01.Touch for every two windows, and the law ClockValid: the walk, for every input.
-/
import Derived.Test.YtehifbogadohgaaCkVal
import Derived.Test.YtehifbogadohgaaCkRW
import Derived.WalkLawsBesides
namespace Go.Proofs.Ytehifbogadohgaa
open Go.RowKit Go.Shelf

theorem touch_max (a b a' b' : Int) (h : a < b) (h' : a' < b') : decide (max a a' < min b b') = meetB a b a' b' := by
  unfold meetB; rw [decide_eq_decide]; omega

set_option maxHeartbeats 1000000 in
theorem RTouch_any (a b a' b' : Int) (w : World) : Calls Try.prog 28 #[.agg #[.int .i64 a, .int .i64 b], .agg #[.int .i64 a', .int .i64 b']] w (RetV w (.bool (touchB a b a' b'))) := by
  obtain ⟨W, hW⟩ : ∃ W, (w.alloc (.cells #[.int .i64 a, .int .i64 b] 35)).alloc (.cells #[.int .i64 a', .int .i64 b'] 35) = W := ⟨_, rfl⟩
  have b1 : Blk W w.heap.size 35 #[.int .i64 a, .int .i64 b] := by rw [← hW]; exact (Blk.new w _ _).alloc _
  have b2 : Blk W (w.heap.size + 1) 35 #[.int .i64 a', .int .i64 b'] := by
    rw [← hW]; have := Blk.new (w.alloc (.cells #[.int .i64 a, .int .i64 b] 35)) 35 #[.int .i64 a', .int .i64 b']; rwa [World.size_alloc] at this
  have hB0 : Below w.heap.size w W := by rw [← hW]; exact ((Below.refl _ _).alloc (Nat.le_refl _) _).alloc (by simp) _
  have l1 := b1.lt
  have l2 := b2.lt
  have d0 := b1.cell 0
  have d1 := b1.cell 1
  simp at d0 d1
  by_cases c1 : vwin a b = true
  · by_cases c2 : vwin a' b' = true
    · have hab : a < b := by unfold vwin at c1; rw [decide_eq_true_eq] at c1; exact c1.1
      have hab' : a' < b' := by unfold vwin at c2; rw [decide_eq_true_eq] at c2; exact c2.1
      have HM := hide (touch_max a b a' b' hab hab')
      have HT : Hid (touchB a b a' b' = meetB a b a' b') := hide (by simp [touchB, c1, c2])
      have HAB := hide hab
      have HAB' := hide hab'
      clear hab hab'
      go_enter Try.func28, Try.ntmps28
      go_wp2_with fail
      refine (RValidWindow_any _ _ _).mono ?_
      rintro e w1 ⟨rfl, hB1⟩
      have e0 := (b2.below hB1 l2).cell 0
      have e1 := (b2.below hB1 l2).cell 1
      simp at e0 e1
      go_wp2_with fail
      refine (RValidWindow_any _ _ _).mono ?_
      rintro e w2 ⟨rfl, hB2⟩
      have f0 := ((b1.below hB1 l1).below hB2 (Nat.lt_of_lt_of_le l1 hB1.size)).cell 0
      have f1 := ((b1.below hB1 l1).below hB2 (Nat.lt_of_lt_of_le l1 hB1.size)).cell 1
      have g0 := ((b2.below hB1 l2).below hB2 (Nat.lt_of_lt_of_le l2 hB1.size)).cell 0
      have g1 := ((b2.below hB1 l2).below hB2 (Nat.lt_of_lt_of_le l2 hB1.size)).cell 1
      simp at f0 f1 g0 g1
      go_wp2
      all_goals (go_ret; exact ⟨ret_bool (by have := HAB.out; have := HAB'.out; rw [HT.out]; unfold meetB; rw [decide_eq_decide]; omega), hB0.trans ((bstep hB1 hB2).mono hB0.size)⟩)
    · have c2' : vwin a' b' = false := by simpa using c2
      clear c2
      go_enter Try.func28, Try.ntmps28
      go_wp2_with fail
      refine (RValidWindow_any _ _ _).mono ?_
      rintro e w1 ⟨rfl, hB1⟩
      have e0 := (b2.below hB1 l2).cell 0
      have e1 := (b2.below hB1 l2).cell 1
      simp at e0 e1
      go_wp2_with fail
      refine (RValidWindow_any _ _ _).mono ?_
      rintro e w2 ⟨rfl, hB2⟩
      go_wp2
      go_ret
      exact ⟨ret_bool (by simp [touchB, c1, c2']), hB0.trans ((bstep hB1 hB2).mono hB0.size)⟩
  · have c1' : vwin a b = false := by simpa using c1
    clear c1
    go_enter Try.func28, Try.ntmps28
    go_wp2_with fail
    refine (RValidWindow_any _ _ _).mono ?_
    rintro e w1 ⟨rfl, hB1⟩
    go_wp2
    go_ret
    exact ⟨ret_bool (by simp [touchB, c1']), hB0.trans (hB1.mono hB0.size)⟩

/-- The cells of a block of two, of five, in every world that calls may leave. -/
theorem bw2 {w : World} {g : Nat} {t : TypeId} {a b : Value} (h : Blk w g t #[a, b]) : (∀ q : BW w, q.x.cell? ⟨g, 0, none⟩ = some a) ∧ (∀ q : BW w, q.x.cell? ⟨g, 1, none⟩ = some b) :=
  ⟨fun q => BW.cell (a := ⟨g, 0, none⟩) h.lt (h.cell 0) q, fun q => BW.cell (a := ⟨g, 1, none⟩) h.lt (h.cell 1) q⟩
theorem bw5 {w : World} {g : Nat} {t : TypeId} {a b c d e : Value} (h : Blk w g t #[a, b, c, d, e]) : (∀ q : BW w, q.x.cell? ⟨g, 0, none⟩ = some a) ∧ (∀ q : BW w, q.x.cell? ⟨g, 1, none⟩ = some b) ∧ (∀ q : BW w, q.x.cell? ⟨g, 2, none⟩ = some c) ∧ (∀ q : BW w, q.x.cell? ⟨g, 3, none⟩ = some d) ∧ (∀ q : BW w, q.x.cell? ⟨g, 4, none⟩ = some e) :=
  ⟨fun q => BW.cell (a := ⟨g, 0, none⟩) h.lt (h.cell 0) q, fun q => BW.cell (a := ⟨g, 1, none⟩) h.lt (h.cell 1) q, fun q => BW.cell (a := ⟨g, 2, none⟩) h.lt (h.cell 2) q, fun q => BW.cell (a := ⟨g, 3, none⟩) h.lt (h.cell 3) q, fun q => BW.cell (a := ⟨g, 4, none⟩) h.lt (h.cell 4) q⟩

set_option maxRecDepth 100000 in
set_option maxHeartbeats 4000000 in
theorem valid_law (k z p g h a b a' b' n m : Int) (w : World) :
    Calls Try.prog 6 #[.agg #[.int .i64 k, .int .i64 z, .int .i64 p, .int .i64 g, .int .i64 h], .agg #[.int .i64 a, .int .i64 b], .agg #[.int .i64 a', .int .i64 b'], .agg #[.int .i64 n, .int .i64 m]] w (RetV w (.bool true)) := by
  obtain ⟨W, hW⟩ : ∃ W, (((w.alloc (.cells #[.int .i64 k, .int .i64 z, .int .i64 p, .int .i64 g, .int .i64 h] 27)).alloc (.cells #[.int .i64 a, .int .i64 b] 35)).alloc (.cells #[.int .i64 a', .int .i64 b'] 35)).alloc (.cells #[.int .i64 n, .int .i64 m] 40) = W := ⟨_, rfl⟩
  have b0 : Blk W w.heap.size 27 #[.int .i64 k, .int .i64 z, .int .i64 p, .int .i64 g, .int .i64 h] := by rw [← hW]; exact (((Blk.new w _ _).alloc _).alloc _).alloc _
  have b1 : Blk W (w.heap.size + 1) 35 #[.int .i64 a, .int .i64 b] := by
    rw [← hW]; have := Blk.new (w.alloc (.cells #[.int .i64 k, .int .i64 z, .int .i64 p, .int .i64 g, .int .i64 h] 27)) 35 #[.int .i64 a, .int .i64 b]; rw [World.size_alloc] at this
    exact (this.alloc _).alloc _
  have b2 : Blk W (w.heap.size + 2) 35 #[.int .i64 a', .int .i64 b'] := by
    rw [← hW]; have := Blk.new ((w.alloc (.cells #[.int .i64 k, .int .i64 z, .int .i64 p, .int .i64 g, .int .i64 h] 27)).alloc (.cells #[.int .i64 a, .int .i64 b] 35)) 35 #[.int .i64 a', .int .i64 b']; simp only [World.size_alloc] at this
    exact this.alloc _
  have b3 : Blk W (w.heap.size + 3) 40 #[.int .i64 n, .int .i64 m] := by
    rw [← hW]; have := Blk.new (((w.alloc (.cells #[.int .i64 k, .int .i64 z, .int .i64 p, .int .i64 g, .int .i64 h] 27)).alloc (.cells #[.int .i64 a, .int .i64 b] 35)).alloc (.cells #[.int .i64 a', .int .i64 b'] 35)) 40 #[.int .i64 n, .int .i64 m]; simp only [World.size_alloc] at this
    exact this
  have hB0 : Below w.heap.size w W := by rw [← hW]; exact ((((Below.refl _ _).alloc (Nat.le_refl _) _).alloc (by simp) _).alloc (by simp; omega) _).alloc (by simp; omega) _
  have l0 := b0.lt
  have l1 := b1.lt
  have l2 := b2.lt
  have l3 := b3.lt
  obtain ⟨p0, p1, p2, p3, p4⟩ := bw5 b0
  obtain ⟨q0, q1⟩ := bw2 b1
  obtain ⟨r0, r1⟩ := bw2 b2
  obtain ⟨s0, s1⟩ := bw2 b3
  go_enter Try.func6, Try.ntmps6
  go_wp2_with fail
  clear hW
  (refine wp_region_quiet_bw (by kernel_rfl) (by kernel_rfl) ?_
   repeat (first | go_big_quiet_step ((first | (go_at_call 20; exact calls_bw_same (Valid_any _ _)) | (go_at_call 21; exact calls_bw_same (RValid_any _ _)) | (go_at_call 22; exact calls_bw (ValidWindow_any _ _ _)) | (go_at_call 23; exact calls_bw (RValidWindow_any _ _ _)) | (go_at_call 24; exact calls_bw (ValidSpec_any _ _ _ _ _ _)) | (go_at_call 25; exact calls_bw (RValidSpec_any _ _ _ _ _ _)))) | quiet_step ((first | (go_at_call 20; exact calls_bw_same (Valid_any _ _)) | (go_at_call 21; exact calls_bw_same (RValid_any _ _)) | (go_at_call 22; exact calls_bw (ValidWindow_any _ _ _)) | (go_at_call 23; exact calls_bw (RValidWindow_any _ _ _)) | (go_at_call 24; exact calls_bw (ValidSpec_any _ _ _ _ _ _)) | (go_at_call 25; exact calls_bw (RValidSpec_any _ _ _ _ _ _)))))
   refine wpQuiet_nil ?_
   intro wq hw'
   obtain ⟨⟨_, hbq⟩, hw''⟩ := hw'
   subst hw'')
  clear p0 p1 p2 p3 p4 q0 q1 r0 r1 s0 s1
  have b0' := b0.below hbq l0
  have b1' := b1.below hbq l1
  have b2' := b2.below hbq l2
  have b3' := b3.below hbq l3
  have hB1 := hB0.trans (hbq.mono hB0.size)
  clear hbq b0 b1 b2 b3 l0 l1 l2 l3
  have l1 := b1'.lt
  have l2 := b2'.lt
  have l3 := b3'.lt
  obtain ⟨q0, q1⟩ := bw2 b1'
  obtain ⟨r0, r1⟩ := bw2 b2'
  obtain ⟨s0, s1⟩ := bw2 b3'
  go_wp2_with fail
  (refine wp_region_quiet_bw (by kernel_rfl) (by kernel_rfl) ?_
   repeat (first | go_big_quiet_step ((first | (go_at_call 18; exact calls_bw (Contains_any _ _ _ _)) | (go_at_call 26; exact calls_bw (RContains_any _ _ _ _)) | (go_at_call 27; exact calls_bw (Touch_any _ _ _ _ _)) | (go_at_call 28; exact calls_bw (RTouch_any _ _ _ _ _)) | (go_at_call 19; exact calls_bw (Compare_any _ _ _ _ _)) | (go_at_call 29; exact calls_bw (RCompare_any _ _ _ _ _)))) | quiet_step ((first | (go_at_call 18; exact calls_bw (Contains_any _ _ _ _)) | (go_at_call 26; exact calls_bw (RContains_any _ _ _ _)) | (go_at_call 27; exact calls_bw (Touch_any _ _ _ _ _)) | (go_at_call 28; exact calls_bw (RTouch_any _ _ _ _ _)) | (go_at_call 19; exact calls_bw (Compare_any _ _ _ _ _)) | (go_at_call 29; exact calls_bw (RCompare_any _ _ _ _ _)))))
   refine wpQuiet_nil ?_
   intro wq hw'
   obtain ⟨⟨_, hbq⟩, hw''⟩ := hw'
   subst hw'')
  clear q0 q1 r0 r1 s0 s1
  have b3 := b3'.below hbq l3
  have s0 := b3.cell 0
  have s1 := b3.cell 1
  simp at s0 s1
  have hB2 := hB1.trans (hbq.mono hB1.size)
  clear hbq b0' b1' b2' b3' l1 l2 l3
  go_wp2_with fail
  refine (Floor_any _ _ _).mono ?_
  rintro e w3 ⟨rfl, rfl⟩
  go_wp2_with fail
  refine (RFloor_any _ _ _).mono ?_
  rintro e w3 ⟨rfl, rfl⟩
  go_wp2_with fail
  refine (awake_any _).mono ?_
  rintro e w4 ⟨rfl, hB4⟩
  go_wp2
  go_ret
  exact ⟨rfl, bstep hB2 hB4⟩
end Go.Proofs.Ytehifbogadohgaa
