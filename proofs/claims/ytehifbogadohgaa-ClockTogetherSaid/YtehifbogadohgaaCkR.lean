/-
  The walks of tidewrightref01's Div, every and first, for every input that a valid spec lets in.
-/
import Derived.Test.YtehifbogadohgaaCkD
import Derived.Deep.RegionHeld3
namespace Go.Proofs.Ytehifbogadohgaa
open Go.RowKit Go.Shelf

theorem Div_any (a b : Int) (hb : 1 ≤ b) (hb2 : b ≤ 1000000000) (h1 : -4000000000000000 ≤ a) (h2 : a ≤ 4000000000000000) (w : World) : Calls Try.prog 52 #[.int .i64 a, .int .i64 b] w fun e w' => e = .returned (.int .i64 (a / b)) ∧ w = w' := by
  by_cases h0 : 0 ≤ a
  · have e := Int.mul_ediv_add_emod a b
    have m0 := Int.emod_nonneg a (show b ≠ 0 by omega)
    have q0 : 0 ≤ a / b := Int.ediv_nonneg (by omega) (by omega)
    have q1 : a / b ≤ a := Int.ediv_le_self _ (by omega)
    have p0 : 0 ≤ a / b * b := Int.mul_nonneg q0 (by omega)
    have p1 : a / b * b ≤ a := by rw [Int.mul_comm]; omega
    clear e
    go_enter Try.func52, Try.ntmps52
    go_wp2
    go_ret
    exact ⟨rfl, rfl⟩
  · obtain ⟨f1, f2, f3, f4, f5⟩ := tdiv_facts a b hb (by omega)
    have e := Int.mul_tdiv_add_tmod a b
    have hm0 : a.tmod b ≤ 0 := by
      have : a.tmod b = -((-a).tmod b) := by rw [Int.neg_tmod]; omega
      have h3 : 0 ≤ (-a).tmod b := Int.tmod_nonneg b (by omega)
      omega
    have p1 : a ≤ a.tdiv b * b := by rw [Int.mul_comm]; omega
    have hmb : -b < a.tmod b := by
      have h3 : (-a).tmod b < b := by rw [Int.tmod_eq_emod_of_nonneg (by omega)]; exact Int.emod_lt_of_pos _ (by omega)
      rw [Int.neg_tmod] at h3; omega
    have p2 : a.tdiv b * b ≤ a + b := by rw [Int.mul_comm]; omega
    have F1 := hide f1
    have F2 := hide f2
    clear f1 f2
    by_cases hm : a.tmod b < 0
    · have p3 : a < a.tdiv b * b := by rw [Int.mul_comm]; omega
      clear e hm0 hmb
      go_enter Try.func52, Try.ntmps52
      go_wp2
      go_ret
      exact ⟨ret_int (F1.out hm), rfl⟩
    · have hm' : 0 ≤ a.tmod b := by omega
      have p3 : a.tdiv b * b ≤ a := by rw [Int.mul_comm]; omega
      clear e hm0 hmb hm
      go_enter Try.func52, Try.ntmps52
      go_wp2
      go_ret
      exact ⟨ret_int (F2.out hm'), rfl⟩

theorem every_any (k z p g h : Int) (w : World) : Calls Try.prog 46 #[.agg #[.int .i64 k, .int .i64 z, .int .i64 p, .int .i64 g, .int .i64 h]] w (RetV w (.int .i64 (stepOf k z p))) := by
  by_cases hk : k = 1
  · subst hk
    go_enter Try.func46, Try.ntmps46
    go_wp2
    go_ret
    exact ⟨ret_int (by simp [stepOf]), by go_grown⟩
  · have hk' : (k == 1) = false := by simpa using hk
    go_enter Try.func46, Try.ntmps46
    go_wp2
    go_ret
    exact ⟨ret_int (by simp [stepOf, hk]), by go_grown⟩

/-- The greatest beginning that is at most a number. -/
def firstOf (b h t : Int) : Int := (t - h) / b * b + h

set_option maxHeartbeats 1000000 in
theorem first_any (k z p g h t : Int) (s : Stp z (stepOf k z p) h) (ht1 : -2000000000000 ≤ t) (ht2 : t ≤ 2000000000000) (w : World) : Calls Try.prog 45 #[.agg #[.int .i64 k, .int .i64 z, .int .i64 p, .int .i64 g, .int .i64 h], .int .i64 t] w (RetV w (.int .i64 (firstOf (stepOf k z p) h t))) := by
  have hst := fun W => every_any k z p g h W
  obtain ⟨b, hb⟩ : ∃ b, stepOf k z p = b := ⟨_, rfl⟩
  rw [hb] at s ⊢
  simp only [hb] at hst
  clear hb
  have HST := hide hst
  clear hst
  obtain ⟨s1, s2, s3, s4, s5, s6⟩ := s
  have e := Int.mul_ediv_add_emod (t - h) b
  have m0 := Int.emod_nonneg (t - h) (show b ≠ 0 by omega)
  have m1 := Int.emod_lt_of_pos (t - h) (show 0 < b by omega)
  have hdv : ∀ W : World, Calls Try.prog 52 #[.int .i64 (t - h), .int .i64 b] W (RetV W (.int .i64 ((t - h) / b))) := fun W =>
    (Div_any _ _ (by omega) (by omega) (by omega) (by omega) W).mono fun _ _ ⟨he, hw⟩ => ⟨he, by rw [← hw]; exact Below.refl _ _⟩
  obtain ⟨q, hq⟩ : ∃ q, (t - h) / b = q := ⟨_, rfl⟩
  have hf : firstOf b h t = q * b + h := by rw [← hq]; rfl
  rw [hf]
  simp only [hq] at hdv
  rw [hq, Int.mul_comm] at e
  have HDV := hide hdv
  clear hdv hq hf
  have i1 : IntKind.i64.wrap (t - h) = t - h := IntWalk.i64_in _ (by omega)
  have i2 : IntKind.i64.wrap (q * b) = q * b := IntWalk.i64_in _ (by omega)
  have i3 : IntKind.i64.wrap (q * b + h) = q * b + h := IntWalk.i64_in _ (by omega)
  clear e m0 m1
  have c0 := fun (q : BW (w.alloc (.cells #[.int .i64 k, .int .i64 z, .int .i64 p, .int .i64 g, .int .i64 h] 27))) => BW.cell (a := ⟨w.heap.size, 0, none⟩) (by simp) ((Blk.new w 27 #[.int .i64 k, .int .i64 z, .int .i64 p, .int .i64 g, .int .i64 h]).cell 0) q
  have c1 := fun (q : BW (w.alloc (.cells #[.int .i64 k, .int .i64 z, .int .i64 p, .int .i64 g, .int .i64 h] 27))) => BW.cell (a := ⟨w.heap.size, 1, none⟩) (by simp) ((Blk.new w 27 #[.int .i64 k, .int .i64 z, .int .i64 p, .int .i64 g, .int .i64 h]).cell 1) q
  have c2 := fun (q : BW (w.alloc (.cells #[.int .i64 k, .int .i64 z, .int .i64 p, .int .i64 g, .int .i64 h] 27))) => BW.cell (a := ⟨w.heap.size, 2, none⟩) (by simp) ((Blk.new w 27 #[.int .i64 k, .int .i64 z, .int .i64 p, .int .i64 g, .int .i64 h]).cell 2) q
  have c3 := fun (q : BW (w.alloc (.cells #[.int .i64 k, .int .i64 z, .int .i64 p, .int .i64 g, .int .i64 h] 27))) => BW.cell (a := ⟨w.heap.size, 3, none⟩) (by simp) ((Blk.new w 27 #[.int .i64 k, .int .i64 z, .int .i64 p, .int .i64 g, .int .i64 h]).cell 3) q
  have c4 := fun (q : BW (w.alloc (.cells #[.int .i64 k, .int .i64 z, .int .i64 p, .int .i64 g, .int .i64 h] 27))) => BW.cell (a := ⟨w.heap.size, 4, none⟩) (by simp) ((Blk.new w 27 #[.int .i64 k, .int .i64 z, .int .i64 p, .int .i64 g, .int .i64 h]).cell 4) q
  simp at c0 c1 c2 c3 c4
  go_enter Try.func45, Try.ntmps45
  go_wp2_with fail
  (refine wp_region_quiet_bw (by kernel_rfl) (by kernel_rfl) ?_
   repeat (first | go_big_quiet_step ((first | (go_at_call 46; exact calls_bw (HST.out _)) | (go_at_call 52; exact calls_bw (HDV.out _)))) | quiet_step ((first | (go_at_call 46; exact calls_bw (HST.out _)) | (go_at_call 52; exact calls_bw (HDV.out _)))))
   refine wpQuiet_nil ?_
   intro wq hw'
   obtain ⟨⟨_, hbq⟩, hw''⟩ := hw'
   subst hw'')
  go_wp2
  go_ret
  exact ⟨rfl, bstep ((Below.refl _ _).alloc (Nat.le_refl _) _) hbq⟩
end Go.Proofs.Ytehifbogadohgaa
