/-
  The walks of the comparison of values, with the draws counted.
  The walk of the comparison of rows, with the draws counted.
-/
import Derived.Test.YtiioiajcoiaalaaGreatDoorBgR4
import Derived.Test.YtiioiajcoiaalaaGreatDoorGb
namespace Go.Proofs.YtiioiajcoiaalaaGreatDoor

section
open Go.RowKit
attribute [local go_sem] Oper.semAt_some
set_option linter.unusedVariables false

theorem kind_g (v : Val) (w : World) : Calls Tryz.prog 162 #[.agg #[.int .i64 v.k, .int .i64 v.n, .string v.s]] w (RetG w (.int .i64 (cls v))) := by
  have hB := gb_val (w := w) #[.int .i64 v.k, .int .i64 v.n, .string v.s] 64
  obtain ⟨bb, hbb⟩ : ∃ bb, btw v.k 1 2 = bb := ⟨_, rfl⟩
  have HC := hide (show cls v = if bb then v.k else 0 from by
    rw [← hbb]
    unfold cls btw
    by_cases h : v.k = 1 ∨ v.k = 2
    · rw [if_pos h, if_pos (by simp; omega)]
    · rw [if_neg h, if_neg (by simp; omega)])
  have HBB := hide hbb
  rw [HC.out]
  clear hbb
  obtain ⟨k, n, s⟩ := v
  simp only at HBB hB ⊢
  cases bb
  · go_enter Tryz.func162, Tryz.ntmps162
    go_wp2_with (go_at_call 127; refine (within_any _ _ _ _).mono ?_; rintro e w' ⟨rfl, rfl⟩; rw [HBB.out])
    go_ret
    exact ⟨rfl, hB⟩
  · go_enter Tryz.func162, Tryz.ntmps162
    go_wp2_with (go_at_call 127; refine (within_any _ _ _ _).mono ?_; rintro e w' ⟨rfl, rfl⟩; rw [HBB.out])
    go_ret
    exact ⟨rfl, hB⟩

theorem cv1_g (a b : Val) (w : World) : Calls Tryz.prog 164 #[.agg #[.int .i64 a.k, .int .i64 a.n, .string a.s], .agg #[.int .i64 b.k, .int .i64 b.n, .string b.s]] w (RetG w (.int .i64 0)) := by
  have hB := gb_two (w := w) (.cells #[.int .i64 a.k, .int .i64 a.n, .string a.s] 64) (.cells #[.int .i64 b.k, .int .i64 b.n, .string b.s] 64)
  go_enter Tryz.func164, Tryz.ntmps164
  go_wp2
  go_ret
  exact ⟨rfl, hB⟩
theorem cv2_g (a b : Val) (w : World) : Calls Tryz.prog 165 #[.agg #[.int .i64 a.k, .int .i64 a.n, .string a.s], .agg #[.int .i64 b.k, .int .i64 b.n, .string b.s]] w (RetG w (.int .i64 (cmpI a.n b.n))) := by
  have hB := gb_two (w := w) (.cells #[.int .i64 a.k, .int .i64 a.n, .string a.s] 64) (.cells #[.int .i64 b.k, .int .i64 b.n, .string b.s] 64)
  go_enter Tryz.func165, Tryz.ntmps165
  go_wp2_with (go_at_call 163; refine (cmpi_any _ _ _).mono ?_; rintro e w' ⟨rfl, rfl⟩)
  go_ret
  exact ⟨rfl, hB⟩
theorem cv3_g (a b : Val) (w : World) : Calls Tryz.prog 166 #[.agg #[.int .i64 a.k, .int .i64 a.n, .string a.s], .agg #[.int .i64 b.k, .int .i64 b.n, .string b.s]] w (RetG w (.int .i64 (cmpS a.s b.s))) := by
  have hB := gb_two (w := w) (.cells #[.int .i64 a.k, .int .i64 a.n, .string a.s] 64) (.cells #[.int .i64 b.k, .int .i64 b.n, .string b.s] 64)
  go_enter Tryz.func166, Tryz.ntmps166
  go_wp2_with (go_at_call 167; refine (cmps_any _ _ _).mono ?_; rintro e w' ⟨rfl, rfl⟩)
  go_ret
  exact ⟨rfl, hB⟩

set_option maxRecDepth 100000 in
set_option maxHeartbeats 4000000 in
theorem CompareValues_g (a b : Val) (w : World) : Calls Tryz.prog 141 #[.agg #[.int .i64 a.k, .int .i64 a.n, .string a.s], .agg #[.int .i64 b.k, .int .i64 b.n, .string b.s]] w (RetG w (.int .i64 (cmpV a b))) := by
  have hB := gb_two (w := w) (.cells #[.int .i64 a.k, .int .i64 a.n, .string a.s] 64) (.cells #[.int .i64 b.k, .int .i64 b.n, .string b.s] 64)
  have x1 := (Blk.new w 64 #[.int .i64 a.k, .int .i64 a.n, .string a.s]).alloc (.cells #[.int .i64 b.k, .int .i64 b.n, .string b.s] 64)
  have x2 := Blk.new (w.alloc (.cells #[.int .i64 a.k, .int .i64 a.n, .string a.s] 64)) 64 #[.int .i64 b.k, .int .i64 b.n, .string b.s]
  rw [World.size_alloc] at x2
  go_enter Tryz.func141, Tryz.ntmps141
  go_wp2_with fail
  obtain ⟨W0, hW0⟩ : ∃ W0, (w.alloc (.cells #[.int .i64 a.k, .int .i64 a.n, .string a.s] 64)).alloc (.cells #[.int .i64 b.k, .int .i64 b.n, .string b.s] 64) = W0 := ⟨_, rfl⟩
  rw [hW0] at hB x1 x2 ⊢
  clear hW0
  have l1 := x1.lt
  have l2 := x2.lt
  refine (kind_g a W0).mono ?_
  rintro e W1 ⟨rfl, hB1⟩
  have y1 := x1.below hB1.b l1
  have y2 := x2.below hB1.b l2
  have hB01 := gstep hB hB1
  have c0 := y2.cell 0
  have c1 := y2.cell 1
  have c2 := y2.cell 2
  simp at c0 c1 c2
  have l3 := hB1.size
  clear x1 x2 hB hB1
  go_wp2_with fail
  refine (kind_g b W1).mono ?_
  rintro e W2 ⟨rfl, hB2⟩
  have z1 := y1.below hB2.b (by omega)
  have z2 := y2.below hB2.b (by omega)
  have hB02 := gstep hB01 hB2
  have l4 := hB2.size
  clear y1 y2 hB01 hB2 c0 c1 c2
  go_wp2_with fail
  refine (cmpi_any (cls a) (cls b) W2).mono ?_
  rintro e w' ⟨rfl, rfl⟩
  by_cases h0 : cmpI (cls a) (cls b) = 0
  · have HV0 := hide (fun h => cmpV_0 (a := a) (b := b) h h0)
    have HV1 := hide (fun h => cmpV_1 (a := a) (b := b) h h0)
    have HV2 := hide (fun h => cmpV_2 (a := a) (b := b) h h0)
    rw [h0]
    clear h0
    have p0 := fun (p : GBW W2) => GBW.cell (a := ⟨w.heap.size, 0, none⟩) (by show w.heap.size < _; omega) (z1.cell 0) p
    have p1 := fun (p : GBW W2) => GBW.cell (a := ⟨w.heap.size, 1, none⟩) (by show w.heap.size < _; omega) (z1.cell 1) p
    have p2 := fun (p : GBW W2) => GBW.cell (a := ⟨w.heap.size, 2, none⟩) (by show w.heap.size < _; omega) (z1.cell 2) p
    have q0 := fun (p : GBW W2) => GBW.cell (a := ⟨w.heap.size + 1, 0, none⟩) (by show w.heap.size + 1 < _; omega) (z2.cell 0) p
    have q1 := fun (p : GBW W2) => GBW.cell (a := ⟨w.heap.size + 1, 1, none⟩) (by show w.heap.size + 1 < _; omega) (z2.cell 1) p
    have q2 := fun (p : GBW W2) => GBW.cell (a := ⟨w.heap.size + 1, 2, none⟩) (by show w.heap.size + 1 < _; omega) (z2.cell 2) p
    simp at p0 p1 p2 q0 q1 q2
    have C1 := hide (fun (p : GBW W2) => calls_gbw (p := p) (cv1_g a b p.x))
    have C2 := hide (fun (p : GBW W2) => calls_gbw (p := p) (cv2_g a b p.x))
    have C3 := hide (fun (p : GBW W2) => calls_gbw (p := p) (cv3_g a b p.x))
    obtain ⟨x, hx⟩ : ∃ x, cls a = x := ⟨_, rfl⟩
    have hc := cls_cases a
    rw [hx] at hc HV0 HV1 HV2 ⊢
    clear hx l1 l2 l3 l4 z1 z2
    rcases hc with rfl | rfl | rfl
    · have hI := fun W => hix 0 _ rfl (by omega) (by omega) W
      go_wp2_with fail
      (refine wp_region_quiet_gbw (by kernel_rfl) (by kernel_rfl) ?_
       repeat (first | go_big_quiet_step (((go_at_call 164; exact C1.out _))) | quiet_step (((go_at_call 164; exact C1.out _))))
       refine wpQuiet_nil ?_
       intro wq hw'
       obtain ⟨⟨_, hbq⟩, hw''⟩ := hw'
       subst hw'')
      have HE := hide (gstep hB02 hbq)
      clear hbq p0 p1 p2 q0 q1 q2 hB02
      go_wp2
      go_ret
      exact ⟨ret_int (HV0.out (by first | rfl | trivial)).symm, HE.out⟩
    · have hI := fun W => hix 1 _ rfl (by omega) (by omega) W
      go_wp2_with fail
      (refine wp_region_quiet_gbw (by kernel_rfl) (by kernel_rfl) ?_
       repeat (first | go_big_quiet_step (((go_at_call 165; exact C2.out _))) | quiet_step (((go_at_call 165; exact C2.out _))))
       refine wpQuiet_nil ?_
       intro wq hw'
       obtain ⟨⟨_, hbq⟩, hw''⟩ := hw'
       subst hw'')
      have HE := hide (gstep hB02 hbq)
      clear hbq p0 p1 p2 q0 q1 q2 hB02
      go_wp2
      go_ret
      exact ⟨ret_int (HV1.out (by first | rfl | trivial)).symm, HE.out⟩
    · have hI := fun W => hix 2 _ rfl (by omega) (by omega) W
      go_wp2_with fail
      (refine wp_region_quiet_gbw (by kernel_rfl) (by kernel_rfl) ?_
       repeat (first | go_big_quiet_step (((go_at_call 166; exact C3.out _))) | quiet_step (((go_at_call 166; exact C3.out _))))
       refine wpQuiet_nil ?_
       intro wq hw'
       obtain ⟨⟨_, hbq⟩, hw''⟩ := hw'
       subst hw'')
      have HE := hide (gstep hB02 hbq)
      clear hbq p0 p1 p2 q0 q1 q2 hB02
      go_wp2
      go_ret
      exact ⟨ret_int (HV2.out (by first | rfl | trivial)).symm, HE.out⟩
  · have HV := hide (cmpV_ne h0)
    obtain ⟨x, hx⟩ : ∃ x, cmpI (cls a) (cls b) = x := ⟨_, rfl⟩
    rw [hx] at h0 HV ⊢
    have n1 : (x != 0) = true := by simpa using h0
    clear h0 hx z1 z2
    go_wp2
    go_ret
    exact ⟨ret_int HV.out.symm, hB02⟩
end

section
open Go.RowKit
attribute [local go_sem] Oper.semAt_some
set_option linter.unusedVariables false

set_option maxRecDepth 100000 in
set_option maxHeartbeats 4000000 in
theorem cmpf_g (A : Option Addr) (n c : Nat) (x : Rw) (A' : Option Addr) (n' c' : Nat) (y : Rw) (w : World) (hx : Reads w w.heap.size 3 A n (x.flatMap encV)) (hy : Reads w w.heap.size 3 A' n' (y.flatMap encV)) (hn : n ≤ 9223372036854775807) :
    Calls Tryz.prog 140 #[.slice A n c, .slice A' n' c', .func (Fn.func 141) #[] #[]] w (RetG w (.int .i64 (cmpR x y))) := by
  have HL := hide (hx.len encV_len (by omega))
  have HL' := hide (hy.len encV_len (by omega))
  go_enter Tryz.func140, Tryz.ntmps140
  go_wp2_with fail
  go_loopw [13] (fun i wr => ∃ k : Nat, k ≤ n ∧ i = .int .i64 k ∧ (∀ i, i < k → ∃ a b, x[i]? = some a ∧ y[i]? = some b ∧ cmpV a b = 0) ∧ GB w.heap.size w wr) (fun i _ => n - (intOf i).toNat)
  case atStart => exact ⟨0, Nat.zero_le _, rfl, fun i hi => absurd hi (Nat.not_lt_zero _), GB.refl _ _⟩
  case round =>
    obtain ⟨k, hk, rfl, heq, hBw⟩ := hrel
    have HE := hide heq
    clear heq
    by_cases hlt : k < n
    · obtain ⟨b, off, e, rfl, hb, hek, hce⟩ := hx.below hBw.b |>.elem encV_len HL.out hlt
      have HEK := hide hek
      have e0 : wr.cell? ⟨b, off + k * 3, none⟩ = some (.int .i64 e.k) := by simpa using hce 0 _ rfl
      have e1 : wr.cell? ⟨b, off + k * 3 + 1, none⟩ = some (.int .i64 e.n) := by simpa [← Nat.add_assoc] using hce 1 _ rfl
      have e2 : wr.cell? ⟨b, off + k * 3 + 2, none⟩ = some (.string e.s) := by simpa [← Nat.add_assoc] using hce 2 _ rfl
      clear hce hek
      have q1 : (0 : Int) ≤ (k : Int) := by omega
      have q2 : (k : Int) < (n : Int) := by omega
      by_cases hlt' : k < n'
      · obtain ⟨b', off', e', rfl, hb', hek', hce'⟩ := hy.below hBw.b |>.elem encV_len HL'.out hlt'
        have HEK' := hide hek'
        have f0 : wr.cell? ⟨b', off' + k * 3, none⟩ = some (.int .i64 e'.k) := by simpa using hce' 0 _ rfl
        have f1 : wr.cell? ⟨b', off' + k * 3 + 1, none⟩ = some (.int .i64 e'.n) := by simpa [← Nat.add_assoc] using hce' 1 _ rfl
        have f2 : wr.cell? ⟨b', off' + k * 3 + 2, none⟩ = some (.string e'.s) := by simpa [← Nat.add_assoc] using hce' 2 _ rfl
        clear hce' hek'
        have q3 : (k : Int) < (n' : Int) := by omega
        have hws := hBw.size
        have g0 := (World.cell?_alloc_lt wr (.cells #[.int .i64 e.k, .int .i64 e.n, .string e.s] 64) ⟨b', off' + k * 3, none⟩ (by show b' < _; omega)).trans f0
        have g1 := (World.cell?_alloc_lt wr (.cells #[.int .i64 e.k, .int .i64 e.n, .string e.s] 64) ⟨b', off' + k * 3 + 1, none⟩ (by show b' < _; omega)).trans f1
        have g2 := (World.cell?_alloc_lt wr (.cells #[.int .i64 e.k, .int .i64 e.n, .string e.s] 64) ⟨b', off' + k * 3 + 2, none⟩ (by show b' < _; omega)).trans f2
        have hBa := hBw.trans ((gb_two (w := wr) (.cells #[.int .i64 e.k, .int .i64 e.n, .string e.s] 64) (.cells #[.int .i64 e'.k, .int .i64 e'.n, .string e'.s] 64)).mono hws)
        go_wp2_with fail
        refine (CompareValues_g e e' _).mono ?_
        rintro ee w1 ⟨rfl, hB1⟩
        have hB2 := gstep hBa hB1
        by_cases hc : cmpV e e' = 0
        · have HX := hide (show ∀ i, i < k + 1 → ∃ a b, x[i]? = some a ∧ y[i]? = some b ∧ cmpV a b = 0 from fun i hi => by
            by_cases h : i = k
            · subst h; exact ⟨e, e', HEK.out, HEK'.out, hc⟩
            · exact HE.out i (by omega))
          rw [hc]
          clear hc hB1 hBa hBw e0 e1 e2 f0 f1 f2 g0 g1 g2
          go_wp2
          go_roundw
          case rel => exact ⟨k + 1, by omega, by go_num, HX.out, hB2⟩
          case measure => simp [intOf]; omega
        · have HX := hide (cmpR_at HE.out HEK.out HEK'.out hc)
          obtain ⟨z, hz⟩ : ∃ z, cmpV e e' = z := ⟨_, rfl⟩
          rw [hz] at hc HX ⊢
          have n1 : (z != 0) = true := by simpa using hc
          clear hc hz hB1 hBa hBw e0 e1 e2 f0 f1 f2 g0 g1 g2
          go_wp2
          go_ret
          exact ⟨ret_int HX.out.symm, hB2⟩
      · have HX := hide (cmpR_gt HE.out (by rw [HL.out]; exact hlt) (by rw [HL'.out]; omega))
        have hB2 := hBw.trans ((gb_val (w := wr) #[.int .i64 e.k, .int .i64 e.n, .string e.s] 64).mono hBw.size)
        go_wp2
        go_ret
        exact ⟨ret_int HX.out.symm, hB2⟩
    · obtain rfl : k = n := by omega
      have HX := hide (cmpR_end HE.out (by rw [HL.out]; exact Nat.le_refl _))
      by_cases h : k < n'
      · have HY := hide (show cmpR x y = -1 from by rw [HX.out, if_pos (by rw [HL'.out]; exact h)])
        go_wp2
        go_ret
        exact ⟨ret_int HY.out.symm, hBw⟩
      · have HY := hide (show cmpR x y = 0 from by rw [HX.out, if_neg (by rw [HL'.out]; exact h)])
        go_wp2
        go_ret
        exact ⟨ret_int HY.out.symm, hBw⟩
theorem Compare_g (A : Option Addr) (n c : Nat) (x : Rw) (A' : Option Addr) (n' c' : Nat) (y : Rw) (w : World) (hx : Reads w w.heap.size 3 A n (x.flatMap encV)) (hy : Reads w w.heap.size 3 A' n' (y.flatMap encV)) (hn : n ≤ 9223372036854775807) :
    Calls Tryz.prog 103 #[.slice A n c, .slice A' n' c'] w (RetG w (.int .i64 (cmpR x y))) := by
  go_enter Tryz.func103, Tryz.ntmps103
  go_wp2_with fail
  refine (cmpf_g A n c x A' n' c' y w hx hy hn).mono ?_
  rintro ee w1 ⟨rfl, hB1⟩
  go_wp2
  go_ret
  exact ⟨rfl, hB1⟩
end

end Go.Proofs.YtiioiajcoiaalaaGreatDoor
