/-
  The walks of the program's comparison of values and rows.
-/
import Derived.Test.YtiioiajcoiaalaaGreatDoorBgR2
import Derived.Test.YtiioiajcoiaalaaGreatDoorQbw
namespace Go.Proofs.YtiioiajcoiaalaaGreatDoor
open Go.RowKit
attribute [local go_sem] Oper.semAt_some

theorem cls_cases (v : Val) : cls v = 0 ∨ cls v = 1 ∨ cls v = 2 := by unfold cls; split <;> omega
theorem kind_any (v : Val) (w : World) : Calls Tryz.prog 162 #[.agg #[.int .i64 v.k, .int .i64 v.n, .string v.s]] w (RetV w (.int .i64 (cls v))) := by
  have hB := below_val (w := w) #[.int .i64 v.k, .int .i64 v.n, .string v.s] 64
  obtain ⟨bb, hbb⟩ : ∃ bb, btw v.k 1 2 = bb := ⟨_, rfl⟩
  have HC := hide (show cls v = if bb then v.k else 0 from by
    rw [← hbb]
    unfold cls btw
    by_cases h : v.k = 1 ∨ v.k = 2
    · rw [if_pos h, if_pos (by simp; omega)]
    · rw [if_neg h, if_neg (by simp; omega)])
  have HBB := hide hbb
  rw [HC.out]
  clear hbb
  obtain ⟨k, n, s⟩ := v
  simp only at HBB hB ⊢
  cases bb
  · go_enter Tryz.func162, Tryz.ntmps162
    go_wp2_with (go_at_call 127; refine (within_any _ _ _ _).mono ?_; rintro e w' ⟨rfl, rfl⟩; rw [HBB.out])
    go_ret
    exact ⟨rfl, hB⟩
  · go_enter Tryz.func162, Tryz.ntmps162
    go_wp2_with (go_at_call 127; refine (within_any _ _ _ _).mono ?_; rintro e w' ⟨rfl, rfl⟩; rw [HBB.out])
    go_ret
    exact ⟨rfl, hB⟩

theorem below_two {w : World} (a b : Obj) : Below w.heap.size w ((w.alloc a).alloc b) := ((Below.refl _ _).alloc (Nat.le_refl _) _).alloc (by simp) _
theorem cv1_any (a b : Val) (w : World) : Calls Tryz.prog 164 #[.agg #[.int .i64 a.k, .int .i64 a.n, .string a.s], .agg #[.int .i64 b.k, .int .i64 b.n, .string b.s]] w (RetV w (.int .i64 0)) := by
  have hB := below_two (w := w) (.cells #[.int .i64 a.k, .int .i64 a.n, .string a.s] 64) (.cells #[.int .i64 b.k, .int .i64 b.n, .string b.s] 64)
  go_enter Tryz.func164, Tryz.ntmps164
  go_wp2
  go_ret
  exact ⟨rfl, hB⟩
theorem cv2_any (a b : Val) (w : World) : Calls Tryz.prog 165 #[.agg #[.int .i64 a.k, .int .i64 a.n, .string a.s], .agg #[.int .i64 b.k, .int .i64 b.n, .string b.s]] w (RetV w (.int .i64 (cmpI a.n b.n))) := by
  have hB := below_two (w := w) (.cells #[.int .i64 a.k, .int .i64 a.n, .string a.s] 64) (.cells #[.int .i64 b.k, .int .i64 b.n, .string b.s] 64)
  go_enter Tryz.func165, Tryz.ntmps165
  go_wp2_with (go_at_call 163; refine (cmpi_any _ _ _).mono ?_; rintro e w' ⟨rfl, rfl⟩)
  go_ret
  exact ⟨rfl, hB⟩
theorem cv3_any (a b : Val) (w : World) : Calls Tryz.prog 166 #[.agg #[.int .i64 a.k, .int .i64 a.n, .string a.s], .agg #[.int .i64 b.k, .int .i64 b.n, .string b.s]] w (RetV w (.int .i64 (cmpS a.s b.s))) := by
  have hB := below_two (w := w) (.cells #[.int .i64 a.k, .int .i64 a.n, .string a.s] 64) (.cells #[.int .i64 b.k, .int .i64 b.n, .string b.s] 64)
  go_enter Tryz.func166, Tryz.ntmps166
  go_wp2_with (go_at_call 167; refine (cmps_any _ _ _).mono ?_; rintro e w' ⟨rfl, rfl⟩)
  go_ret
  exact ⟨rfl, hB⟩

theorem hix (i : Int) (f : Value) (h : #[Value.func (Fn.func 164) #[] #[], Value.func (Fn.func 165) #[] #[], Value.func (Fn.func 166) #[] #[]][i.toNat]? = some f) (h0 : 0 ≤ i) (h1 : i < 3) (W : World) :
   (Instr.index 173 (.agg #[.func (Fn.func 164) #[] #[], .func (Fn.func 165) #[] #[], .func (Fn.func 166) #[] #[]]) (.int .i64 i)).run Tryz.prog W = .ok f W := by
  have u := Tryz.underlying173
  have z := Tryz.sizeOf132
  unfold Instr.index
  rcases (show i = 0 ∨ i = 1 ∨ i = 2 by omega) with rfl | rfl | rfl
  all_goals
    simp at h
    subst h
    go_simp
theorem cmpI_self (x : Int) : cmpI x x = 0 := Tot.int.self x
theorem cmpV_0 {a b : Val} (ha : cls a = 0) (h : cmpI (cls a) (cls b) = 0) : cmpV a b = 0 := by
  have hb := cmpI_zero h
  unfold cmpV
  rw [h, show nnV a = 0 from by simp [nnV, ha], show nnV b = 0 from by simp [nnV, ← hb, ha], show ssV a = ByteArray.empty from by simp [ssV, ha], show ssV b = ByteArray.empty from by simp [ssV, ← hb, ha], cmpI_self, Tot.str.self]; rfl
theorem cmpV_1 {a b : Val} (ha : cls a = 1) (h : cmpI (cls a) (cls b) = 0) : cmpV a b = cmpI a.n b.n := by
  have hb := cmpI_zero h
  unfold cmpV
  rw [h, show nnV a = a.n from by simp [nnV, ha], show nnV b = b.n from by simp [nnV, ← hb, ha], show ssV a = ByteArray.empty from by simp [ssV, ha], show ssV b = ByteArray.empty from by simp [ssV, ← hb, ha], Tot.str.self]
  unfold thenC
  rw [if_pos rfl]
  split <;> simp_all
theorem cmpV_2 {a b : Val} (ha : cls a = 2) (h : cmpI (cls a) (cls b) = 0) : cmpV a b = cmpS a.s b.s := by
  have hb := cmpI_zero h
  unfold cmpV
  rw [h, show nnV a = 0 from by simp [nnV, ha], show nnV b = 0 from by simp [nnV, ← hb, ha], show ssV a = a.s from by simp [ssV, ha], show ssV b = b.s from by simp [ssV, ← hb, ha], cmpI_self]; rfl
theorem cmpV_ne {a b : Val} (h : cmpI (cls a) (cls b) ≠ 0) : cmpV a b = cmpI (cls a) (cls b) := by unfold cmpV thenC; rw [if_neg h]

set_option maxRecDepth 100000 in
set_option maxHeartbeats 4000000 in
theorem CompareValues_any (a b : Val) (w : World) : Calls Tryz.prog 141 #[.agg #[.int .i64 a.k, .int .i64 a.n, .string a.s], .agg #[.int .i64 b.k, .int .i64 b.n, .string b.s]] w (RetV w (.int .i64 (cmpV a b))) := by
  have hB := below_two (w := w) (.cells #[.int .i64 a.k, .int .i64 a.n, .string a.s] 64) (.cells #[.int .i64 b.k, .int .i64 b.n, .string b.s] 64)
  have x1 := (Blk.new w 64 #[.int .i64 a.k, .int .i64 a.n, .string a.s]).alloc (.cells #[.int .i64 b.k, .int .i64 b.n, .string b.s] 64)
  have x2 := Blk.new (w.alloc (.cells #[.int .i64 a.k, .int .i64 a.n, .string a.s] 64)) 64 #[.int .i64 b.k, .int .i64 b.n, .string b.s]
  rw [World.size_alloc] at x2
  go_enter Tryz.func141, Tryz.ntmps141
  go_wp2_with fail
  obtain ⟨W0, hW0⟩ : ∃ W0, (w.alloc (.cells #[.int .i64 a.k, .int .i64 a.n, .string a.s] 64)).alloc (.cells #[.int .i64 b.k, .int .i64 b.n, .string b.s] 64) = W0 := ⟨_, rfl⟩
  rw [hW0] at hB x1 x2 ⊢
  clear hW0
  have l1 := x1.lt
  have l2 := x2.lt
  refine (kind_any a W0).mono ?_
  rintro e W1 ⟨rfl, hB1⟩
  have y1 := x1.below hB1 l1
  have y2 := x2.below hB1 l2
  have hB01 := bstep hB hB1
  have c0 := y2.cell 0
  have c1 := y2.cell 1
  have c2 := y2.cell 2
  simp at c0 c1 c2
  have l3 := hB1.size
  clear x1 x2 hB hB1
  go_wp2_with fail
  refine (kind_any b W1).mono ?_
  rintro e W2 ⟨rfl, hB2⟩
  have z1 := y1.below hB2 (by omega)
  have z2 := y2.below hB2 (by omega)
  have hB02 := bstep hB01 hB2
  have l4 := hB2.size
  clear y1 y2 hB01 hB2 c0 c1 c2
  go_wp2_with fail
  refine (cmpi_any (cls a) (cls b) W2).mono ?_
  rintro e w' ⟨rfl, rfl⟩
  by_cases h0 : cmpI (cls a) (cls b) = 0
  · have HV0 := hide (fun h => cmpV_0 (a := a) (b := b) h h0)
    have HV1 := hide (fun h => cmpV_1 (a := a) (b := b) h h0)
    have HV2 := hide (fun h => cmpV_2 (a := a) (b := b) h h0)
    rw [h0]
    clear h0
    have p0 := fun (p : BW W2) => BW.cell (a := ⟨w.heap.size, 0, none⟩) (by show w.heap.size < _; omega) (z1.cell 0) p
    have p1 := fun (p : BW W2) => BW.cell (a := ⟨w.heap.size, 1, none⟩) (by show w.heap.size < _; omega) (z1.cell 1) p
    have p2 := fun (p : BW W2) => BW.cell (a := ⟨w.heap.size, 2, none⟩) (by show w.heap.size < _; omega) (z1.cell 2) p
    have q0 := fun (p : BW W2) => BW.cell (a := ⟨w.heap.size + 1, 0, none⟩) (by show w.heap.size + 1 < _; omega) (z2.cell 0) p
    have q1 := fun (p : BW W2) => BW.cell (a := ⟨w.heap.size + 1, 1, none⟩) (by show w.heap.size + 1 < _; omega) (z2.cell 1) p
    have q2 := fun (p : BW W2) => BW.cell (a := ⟨w.heap.size + 1, 2, none⟩) (by show w.heap.size + 1 < _; omega) (z2.cell 2) p
    simp at p0 p1 p2 q0 q1 q2
    have C1 := hide (fun (p : BW W2) => calls_bw (p := p) (cv1_any a b p.x))
    have C2 := hide (fun (p : BW W2) => calls_bw (p := p) (cv2_any a b p.x))
    have C3 := hide (fun (p : BW W2) => calls_bw (p := p) (cv3_any a b p.x))
    obtain ⟨x, hx⟩ : ∃ x, cls a = x := ⟨_, rfl⟩
    have hc := cls_cases a
    rw [hx] at hc HV0 HV1 HV2 ⊢
    clear hx l1 l2 l3 l4 z1 z2
    rcases hc with rfl | rfl | rfl
    · have hI := fun W => hix 0 _ rfl (by omega) (by omega) W
      go_wp2_with fail
      (refine wp_region_quiet_bw (by kernel_rfl) (by kernel_rfl) ?_
       repeat (first | go_big_quiet_step (((go_at_call 164; exact C1.out _))) | quiet_step (((go_at_call 164; exact C1.out _))))
       refine wpQuiet_nil ?_
       intro wq hw'
       obtain ⟨⟨_, hbq⟩, hw''⟩ := hw'
       subst hw'')
      have HE := hide (bstep hB02 hbq)
      clear hbq p0 p1 p2 q0 q1 q2 hB02
      go_wp2
      go_ret
      exact ⟨ret_int (HV0.out (by first | rfl | trivial)).symm, HE.out⟩
    · have hI := fun W => hix 1 _ rfl (by omega) (by omega) W
      go_wp2_with fail
      (refine wp_region_quiet_bw (by kernel_rfl) (by kernel_rfl) ?_
       repeat (first | go_big_quiet_step (((go_at_call 165; exact C2.out _))) | quiet_step (((go_at_call 165; exact C2.out _))))
       refine wpQuiet_nil ?_
       intro wq hw'
       obtain ⟨⟨_, hbq⟩, hw''⟩ := hw'
       subst hw'')
      have HE := hide (bstep hB02 hbq)
      clear hbq p0 p1 p2 q0 q1 q2 hB02
      go_wp2
      go_ret
      exact ⟨ret_int (HV1.out (by first | rfl | trivial)).symm, HE.out⟩
    · have hI := fun W => hix 2 _ rfl (by omega) (by omega) W
      go_wp2_with fail
      (refine wp_region_quiet_bw (by kernel_rfl) (by kernel_rfl) ?_
       repeat (first | go_big_quiet_step (((go_at_call 166; exact C3.out _))) | quiet_step (((go_at_call 166; exact C3.out _))))
       refine wpQuiet_nil ?_
       intro wq hw'
       obtain ⟨⟨_, hbq⟩, hw''⟩ := hw'
       subst hw'')
      have HE := hide (bstep hB02 hbq)
      clear hbq p0 p1 p2 q0 q1 q2 hB02
      go_wp2
      go_ret
      exact ⟨ret_int (HV2.out (by first | rfl | trivial)).symm, HE.out⟩
  · have HV := hide (cmpV_ne h0)
    obtain ⟨x, hx⟩ : ∃ x, cmpI (cls a) (cls b) = x := ⟨_, rfl⟩
    rw [hx] at h0 HV ⊢
    have n1 : (x != 0) = true := by simpa using h0
    clear h0 hx z1 z2
    go_wp2
    go_ret
    exact ⟨ret_int HV.out.symm, hB02⟩
end Go.Proofs.YtiioiajcoiaalaaGreatDoor
