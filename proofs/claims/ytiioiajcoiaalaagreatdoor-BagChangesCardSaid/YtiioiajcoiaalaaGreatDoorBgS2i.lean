/-
  A case of the reference's CompareValues. (Printed by gen_bgs.)
  A case of the reference's CompareValues. (Printed by gen_bgs.)
  A case of the reference's CompareValues. (Printed by gen_bgs.)
  A case of the reference's CompareValues. (Printed by gen_bgs.)
  A case of the reference's CompareValues. (Printed by gen_bgs.)
  A case of the reference's CompareValues. (Printed by gen_bgs.)
  A case of the reference's CompareValues. (Printed by gen_bgs.)
  A case of the reference's CompareValues. (Printed by gen_bgs.)
  A case of the reference's CompareValues. (Printed by gen_bgs.)
-/
import Derived.Test.YtiioiajcoiaalaaGreatDoorBgS1
namespace Go.Proofs.YtiioiajcoiaalaaGreatDoor

section
open Go.RowKit
attribute [local go_sem] Oper.semAt_some
set_option maxRecDepth 100000 in
set_option maxHeartbeats 40000000 in
theorem RCV_a (a b : Val) (x y : Int) (w : World) (hx : cls a = x) (hy : cls b = y) (e1 : x = 0) (e2 : y = 0) :
    Calls Tryz.prog 120 #[.agg #[.int .i64 a.k, .int .i64 a.n, .string a.s], .agg #[.int .i64 b.k, .int .i64 b.n, .string b.s]] w (RetV w (.int .i64 (0))) := by
  have hB := below_two (w := w) (.cells #[.int .i64 a.k, .int .i64 a.n, .string a.s] 64) (.cells #[.int .i64 b.k, .int .i64 b.n, .string b.s] 64)
  have x1 := (Blk.new w 64 #[.int .i64 a.k, .int .i64 a.n, .string a.s]).alloc (.cells #[.int .i64 b.k, .int .i64 b.n, .string b.s] 64)
  have x2 := Blk.new (w.alloc (.cells #[.int .i64 a.k, .int .i64 a.n, .string a.s] 64)) 64 #[.int .i64 b.k, .int .i64 b.n, .string b.s]
  rw [World.size_alloc] at x2
  go_enter Tryz.func120, Tryz.ntmps120
  go_wp2_with fail
  obtain ⟨W0, hW0⟩ : ∃ W0, (w.alloc (.cells #[.int .i64 a.k, .int .i64 a.n, .string a.s] 64)).alloc (.cells #[.int .i64 b.k, .int .i64 b.n, .string b.s] 64) = W0 := ⟨_, rfl⟩
  rw [hW0] at hB x1 x2 ⊢
  clear hW0
  have p0 := fun (p : BW W0) => BW.cell (a := ⟨w.heap.size, 0, none⟩) x1.lt (x1.cell 0) p
  have p1 := fun (p : BW W0) => BW.cell (a := ⟨w.heap.size, 1, none⟩) x1.lt (x1.cell 1) p
  have p2 := fun (p : BW W0) => BW.cell (a := ⟨w.heap.size, 2, none⟩) x1.lt (x1.cell 2) p
  have q0 := fun (p : BW W0) => BW.cell (a := ⟨w.heap.size + 1, 0, none⟩) x2.lt (x2.cell 0) p
  have q1 := fun (p : BW W0) => BW.cell (a := ⟨w.heap.size + 1, 1, none⟩) x2.lt (x2.cell 1) p
  have q2 := fun (p : BW W0) => BW.cell (a := ⟨w.heap.size + 1, 2, none⟩) x2.lt (x2.cell 2) p
  simp at p0 p1 p2 q0 q1 q2
  have C1 := hide (fun (p : BW W0) => calls_bw (p := p) (v := .int .i64 x) (by rw [← hx]; exact class_any a p.x))
  have C2 := hide (fun (p : BW W0) => calls_bw (p := p) (v := .int .i64 y) (by rw [← hy]; exact class_any b p.x))
  clear hx hy x1 x2
  have HB := hide hB
  clear hB
  obtain ⟨p, hp⟩ : ∃ p : BW W0, p.x = W0 := ⟨⟨W0, Below.refl _ _⟩, rfl⟩
  rw [← hp]
  clear hp
  subst e1
  subst e2
  have n1 : ((0 : Int) != 0) = false := rfl
  (refine wp_region_quiet_bwp (by kernel_rfl) (by kernel_rfl) ?_
   repeat (first | go_big_quiet_step ((first | (go_at_call 147; with_reducible exact C1.out _) | (go_at_call 147; with_reducible exact C2.out _))) | quiet_step ((first | (go_at_call 147; with_reducible exact C1.out _) | (go_at_call 147; with_reducible exact C2.out _))))
   refine wpQuiet_nil ?_
   intro wq hw'
   obtain ⟨q, hw''⟩ := hw'
   subst hw'')
  go_wp2_with (go_at_call 147; (first | (with_reducible refine (C1.out _).mono ?_; skip; rintro e w' ⟨rfl, q, rfl⟩) | (with_reducible refine (C2.out _).mono ?_; skip; rintro e w' ⟨rfl, q, rfl⟩)))
  go_ret
  exact ⟨rfl, bstep HB.out (BW.h _)⟩
end

section
open Go.RowKit
attribute [local go_sem] Oper.semAt_some
set_option maxRecDepth 100000 in
set_option maxHeartbeats 40000000 in
theorem RCV_b (a b : Val) (x y : Int) (w : World) (hx : cls a = x) (hy : cls b = y) (e1 : x = 1) (e2 : y = 1) (h : a.n < b.n) :
    Calls Tryz.prog 120 #[.agg #[.int .i64 a.k, .int .i64 a.n, .string a.s], .agg #[.int .i64 b.k, .int .i64 b.n, .string b.s]] w (RetV w (.int .i64 (-1))) := by
  have hB := below_two (w := w) (.cells #[.int .i64 a.k, .int .i64 a.n, .string a.s] 64) (.cells #[.int .i64 b.k, .int .i64 b.n, .string b.s] 64)
  have x1 := (Blk.new w 64 #[.int .i64 a.k, .int .i64 a.n, .string a.s]).alloc (.cells #[.int .i64 b.k, .int .i64 b.n, .string b.s] 64)
  have x2 := Blk.new (w.alloc (.cells #[.int .i64 a.k, .int .i64 a.n, .string a.s] 64)) 64 #[.int .i64 b.k, .int .i64 b.n, .string b.s]
  rw [World.size_alloc] at x2
  go_enter Tryz.func120, Tryz.ntmps120
  go_wp2_with fail
  obtain ⟨W0, hW0⟩ : ∃ W0, (w.alloc (.cells #[.int .i64 a.k, .int .i64 a.n, .string a.s] 64)).alloc (.cells #[.int .i64 b.k, .int .i64 b.n, .string b.s] 64) = W0 := ⟨_, rfl⟩
  rw [hW0] at hB x1 x2 ⊢
  clear hW0
  have p0 := fun (p : BW W0) => BW.cell (a := ⟨w.heap.size, 0, none⟩) x1.lt (x1.cell 0) p
  have p1 := fun (p : BW W0) => BW.cell (a := ⟨w.heap.size, 1, none⟩) x1.lt (x1.cell 1) p
  have p2 := fun (p : BW W0) => BW.cell (a := ⟨w.heap.size, 2, none⟩) x1.lt (x1.cell 2) p
  have q0 := fun (p : BW W0) => BW.cell (a := ⟨w.heap.size + 1, 0, none⟩) x2.lt (x2.cell 0) p
  have q1 := fun (p : BW W0) => BW.cell (a := ⟨w.heap.size + 1, 1, none⟩) x2.lt (x2.cell 1) p
  have q2 := fun (p : BW W0) => BW.cell (a := ⟨w.heap.size + 1, 2, none⟩) x2.lt (x2.cell 2) p
  simp at p0 p1 p2 q0 q1 q2
  have C1 := hide (fun (p : BW W0) => calls_bw (p := p) (v := .int .i64 x) (by rw [← hx]; exact class_any a p.x))
  have C2 := hide (fun (p : BW W0) => calls_bw (p := p) (v := .int .i64 y) (by rw [← hy]; exact class_any b p.x))
  clear hx hy x1 x2
  have HB := hide hB
  clear hB
  obtain ⟨p, hp⟩ : ∃ p : BW W0, p.x = W0 := ⟨⟨W0, Below.refl _ _⟩, rfl⟩
  rw [← hp]
  clear hp
  subst e1
  subst e2
  have n1 : ((1 : Int) != 1) = false := rfl
  (refine wp_region_quiet_bwp (by kernel_rfl) (by kernel_rfl) ?_
   repeat (first | go_big_quiet_step ((first | (go_at_call 147; with_reducible exact C1.out _) | (go_at_call 147; with_reducible exact C2.out _))) | quiet_step ((first | (go_at_call 147; with_reducible exact C1.out _) | (go_at_call 147; with_reducible exact C2.out _))))
   refine wpQuiet_nil ?_
   intro wq hw'
   obtain ⟨q, hw''⟩ := hw'
   subst hw'')
  go_wp2_with (go_at_call 147; (first | (with_reducible refine (C1.out _).mono ?_; skip; rintro e w' ⟨rfl, q, rfl⟩) | (with_reducible refine (C2.out _).mono ?_; skip; rintro e w' ⟨rfl, q, rfl⟩)))
  go_ret
  exact ⟨rfl, bstep HB.out (BW.h _)⟩
end

section
open Go.RowKit
attribute [local go_sem] Oper.semAt_some
set_option maxRecDepth 100000 in
set_option maxHeartbeats 40000000 in
theorem RCV_c (a b : Val) (x y : Int) (w : World) (hx : cls a = x) (hy : cls b = y) (e1 : x = 1) (e2 : y = 1) (h2 : b.n < a.n) :
    Calls Tryz.prog 120 #[.agg #[.int .i64 a.k, .int .i64 a.n, .string a.s], .agg #[.int .i64 b.k, .int .i64 b.n, .string b.s]] w (RetV w (.int .i64 (1))) := by
  have hB := below_two (w := w) (.cells #[.int .i64 a.k, .int .i64 a.n, .string a.s] 64) (.cells #[.int .i64 b.k, .int .i64 b.n, .string b.s] 64)
  have x1 := (Blk.new w 64 #[.int .i64 a.k, .int .i64 a.n, .string a.s]).alloc (.cells #[.int .i64 b.k, .int .i64 b.n, .string b.s] 64)
  have x2 := Blk.new (w.alloc (.cells #[.int .i64 a.k, .int .i64 a.n, .string a.s] 64)) 64 #[.int .i64 b.k, .int .i64 b.n, .string b.s]
  rw [World.size_alloc] at x2
  go_enter Tryz.func120, Tryz.ntmps120
  go_wp2_with fail
  obtain ⟨W0, hW0⟩ : ∃ W0, (w.alloc (.cells #[.int .i64 a.k, .int .i64 a.n, .string a.s] 64)).alloc (.cells #[.int .i64 b.k, .int .i64 b.n, .string b.s] 64) = W0 := ⟨_, rfl⟩
  rw [hW0] at hB x1 x2 ⊢
  clear hW0
  have p0 := fun (p : BW W0) => BW.cell (a := ⟨w.heap.size, 0, none⟩) x1.lt (x1.cell 0) p
  have p1 := fun (p : BW W0) => BW.cell (a := ⟨w.heap.size, 1, none⟩) x1.lt (x1.cell 1) p
  have p2 := fun (p : BW W0) => BW.cell (a := ⟨w.heap.size, 2, none⟩) x1.lt (x1.cell 2) p
  have q0 := fun (p : BW W0) => BW.cell (a := ⟨w.heap.size + 1, 0, none⟩) x2.lt (x2.cell 0) p
  have q1 := fun (p : BW W0) => BW.cell (a := ⟨w.heap.size + 1, 1, none⟩) x2.lt (x2.cell 1) p
  have q2 := fun (p : BW W0) => BW.cell (a := ⟨w.heap.size + 1, 2, none⟩) x2.lt (x2.cell 2) p
  simp at p0 p1 p2 q0 q1 q2
  have C1 := hide (fun (p : BW W0) => calls_bw (p := p) (v := .int .i64 x) (by rw [← hx]; exact class_any a p.x))
  have C2 := hide (fun (p : BW W0) => calls_bw (p := p) (v := .int .i64 y) (by rw [← hy]; exact class_any b p.x))
  clear hx hy x1 x2
  have HB := hide hB
  clear hB
  obtain ⟨p, hp⟩ : ∃ p : BW W0, p.x = W0 := ⟨⟨W0, Below.refl _ _⟩, rfl⟩
  rw [← hp]
  clear hp
  subst e1
  subst e2
  have n1 : ((1 : Int) != 1) = false := rfl
  (refine wp_region_quiet_bwp (by kernel_rfl) (by kernel_rfl) ?_
   repeat (first | go_big_quiet_step ((first | (go_at_call 147; with_reducible exact C1.out _) | (go_at_call 147; with_reducible exact C2.out _))) | quiet_step ((first | (go_at_call 147; with_reducible exact C1.out _) | (go_at_call 147; with_reducible exact C2.out _))))
   refine wpQuiet_nil ?_
   intro wq hw'
   obtain ⟨q, hw''⟩ := hw'
   subst hw'')
  go_wp2_with (go_at_call 147; (first | (with_reducible refine (C1.out _).mono ?_; skip; rintro e w' ⟨rfl, q, rfl⟩) | (with_reducible refine (C2.out _).mono ?_; skip; rintro e w' ⟨rfl, q, rfl⟩)))
  go_ret
  exact ⟨rfl, bstep HB.out (BW.h _)⟩
end

section
open Go.RowKit
attribute [local go_sem] Oper.semAt_some
set_option maxRecDepth 100000 in
set_option maxHeartbeats 40000000 in
theorem RCV_d (a b : Val) (x y : Int) (w : World) (hx : cls a = x) (hy : cls b = y) (e1 : x = 1) (e2 : y = 1) (h : ¬ a.n < b.n) (h2 : ¬ b.n < a.n) :
    Calls Tryz.prog 120 #[.agg #[.int .i64 a.k, .int .i64 a.n, .string a.s], .agg #[.int .i64 b.k, .int .i64 b.n, .string b.s]] w (RetV w (.int .i64 (0))) := by
  have hB := below_two (w := w) (.cells #[.int .i64 a.k, .int .i64 a.n, .string a.s] 64) (.cells #[.int .i64 b.k, .int .i64 b.n, .string b.s] 64)
  have x1 := (Blk.new w 64 #[.int .i64 a.k, .int .i64 a.n, .string a.s]).alloc (.cells #[.int .i64 b.k, .int .i64 b.n, .string b.s] 64)
  have x2 := Blk.new (w.alloc (.cells #[.int .i64 a.k, .int .i64 a.n, .string a.s] 64)) 64 #[.int .i64 b.k, .int .i64 b.n, .string b.s]
  rw [World.size_alloc] at x2
  go_enter Tryz.func120, Tryz.ntmps120
  go_wp2_with fail
  obtain ⟨W0, hW0⟩ : ∃ W0, (w.alloc (.cells #[.int .i64 a.k, .int .i64 a.n, .string a.s] 64)).alloc (.cells #[.int .i64 b.k, .int .i64 b.n, .string b.s] 64) = W0 := ⟨_, rfl⟩
  rw [hW0] at hB x1 x2 ⊢
  clear hW0
  have p0 := fun (p : BW W0) => BW.cell (a := ⟨w.heap.size, 0, none⟩) x1.lt (x1.cell 0) p
  have p1 := fun (p : BW W0) => BW.cell (a := ⟨w.heap.size, 1, none⟩) x1.lt (x1.cell 1) p
  have p2 := fun (p : BW W0) => BW.cell (a := ⟨w.heap.size, 2, none⟩) x1.lt (x1.cell 2) p
  have q0 := fun (p : BW W0) => BW.cell (a := ⟨w.heap.size + 1, 0, none⟩) x2.lt (x2.cell 0) p
  have q1 := fun (p : BW W0) => BW.cell (a := ⟨w.heap.size + 1, 1, none⟩) x2.lt (x2.cell 1) p
  have q2 := fun (p : BW W0) => BW.cell (a := ⟨w.heap.size + 1, 2, none⟩) x2.lt (x2.cell 2) p
  simp at p0 p1 p2 q0 q1 q2
  have C1 := hide (fun (p : BW W0) => calls_bw (p := p) (v := .int .i64 x) (by rw [← hx]; exact class_any a p.x))
  have C2 := hide (fun (p : BW W0) => calls_bw (p := p) (v := .int .i64 y) (by rw [← hy]; exact class_any b p.x))
  clear hx hy x1 x2
  have HB := hide hB
  clear hB
  obtain ⟨p, hp⟩ : ∃ p : BW W0, p.x = W0 := ⟨⟨W0, Below.refl _ _⟩, rfl⟩
  rw [← hp]
  clear hp
  subst e1
  subst e2
  have n1 : ((1 : Int) != 1) = false := rfl
  (refine wp_region_quiet_bwp (by kernel_rfl) (by kernel_rfl) ?_
   repeat (first | go_big_quiet_step ((first | (go_at_call 147; with_reducible exact C1.out _) | (go_at_call 147; with_reducible exact C2.out _))) | quiet_step ((first | (go_at_call 147; with_reducible exact C1.out _) | (go_at_call 147; with_reducible exact C2.out _))))
   refine wpQuiet_nil ?_
   intro wq hw'
   obtain ⟨q, hw''⟩ := hw'
   subst hw'')
  go_wp2_with (go_at_call 147; (first | (with_reducible refine (C1.out _).mono ?_; skip; rintro e w' ⟨rfl, q, rfl⟩) | (with_reducible refine (C2.out _).mono ?_; skip; rintro e w' ⟨rfl, q, rfl⟩)))
  go_ret
  exact ⟨rfl, bstep HB.out (BW.h _)⟩
end

section
open Go.RowKit
attribute [local go_sem] Oper.semAt_some
set_option maxRecDepth 100000 in
set_option maxHeartbeats 40000000 in
theorem RCV_e (a b : Val) (x y : Int) (w : World) (hx : cls a = x) (hy : cls b = y) (e1 : x = 2) (e2 : y = 2) (h : Op.bytesLess a.s.toList b.s.toList = true) :
    Calls Tryz.prog 120 #[.agg #[.int .i64 a.k, .int .i64 a.n, .string a.s], .agg #[.int .i64 b.k, .int .i64 b.n, .string b.s]] w (RetV w (.int .i64 (-1))) := by
  have hB := below_two (w := w) (.cells #[.int .i64 a.k, .int .i64 a.n, .string a.s] 64) (.cells #[.int .i64 b.k, .int .i64 b.n, .string b.s] 64)
  have x1 := (Blk.new w 64 #[.int .i64 a.k, .int .i64 a.n, .string a.s]).alloc (.cells #[.int .i64 b.k, .int .i64 b.n, .string b.s] 64)
  have x2 := Blk.new (w.alloc (.cells #[.int .i64 a.k, .int .i64 a.n, .string a.s] 64)) 64 #[.int .i64 b.k, .int .i64 b.n, .string b.s]
  rw [World.size_alloc] at x2
  go_enter Tryz.func120, Tryz.ntmps120
  go_wp2_with fail
  obtain ⟨W0, hW0⟩ : ∃ W0, (w.alloc (.cells #[.int .i64 a.k, .int .i64 a.n, .string a.s] 64)).alloc (.cells #[.int .i64 b.k, .int .i64 b.n, .string b.s] 64) = W0 := ⟨_, rfl⟩
  rw [hW0] at hB x1 x2 ⊢
  clear hW0
  have p0 := fun (p : BW W0) => BW.cell (a := ⟨w.heap.size, 0, none⟩) x1.lt (x1.cell 0) p
  have p1 := fun (p : BW W0) => BW.cell (a := ⟨w.heap.size, 1, none⟩) x1.lt (x1.cell 1) p
  have p2 := fun (p : BW W0) => BW.cell (a := ⟨w.heap.size, 2, none⟩) x1.lt (x1.cell 2) p
  have q0 := fun (p : BW W0) => BW.cell (a := ⟨w.heap.size + 1, 0, none⟩) x2.lt (x2.cell 0) p
  have q1 := fun (p : BW W0) => BW.cell (a := ⟨w.heap.size + 1, 1, none⟩) x2.lt (x2.cell 1) p
  have q2 := fun (p : BW W0) => BW.cell (a := ⟨w.heap.size + 1, 2, none⟩) x2.lt (x2.cell 2) p
  simp at p0 p1 p2 q0 q1 q2
  have C1 := hide (fun (p : BW W0) => calls_bw (p := p) (v := .int .i64 x) (by rw [← hx]; exact class_any a p.x))
  have C2 := hide (fun (p : BW W0) => calls_bw (p := p) (v := .int .i64 y) (by rw [← hy]; exact class_any b p.x))
  clear hx hy x1 x2
  have HB := hide hB
  clear hB
  obtain ⟨p, hp⟩ : ∃ p : BW W0, p.x = W0 := ⟨⟨W0, Below.refl _ _⟩, rfl⟩
  rw [← hp]
  clear hp
  subst e1
  subst e2
  have n1 : ((2 : Int) != 2) = false := rfl
  (refine wp_region_quiet_bwp (by kernel_rfl) (by kernel_rfl) ?_
   repeat (first | go_big_quiet_step ((first | (go_at_call 147; with_reducible exact C1.out _) | (go_at_call 147; with_reducible exact C2.out _))) | quiet_step ((first | (go_at_call 147; with_reducible exact C1.out _) | (go_at_call 147; with_reducible exact C2.out _))))
   refine wpQuiet_nil ?_
   intro wq hw'
   obtain ⟨q, hw''⟩ := hw'
   subst hw'')
  go_wp2_with (go_at_call 147; (first | (with_reducible refine (C1.out _).mono ?_; skip; rintro e w' ⟨rfl, q, rfl⟩) | (with_reducible refine (C2.out _).mono ?_; skip; rintro e w' ⟨rfl, q, rfl⟩)))
  go_ret
  exact ⟨rfl, bstep HB.out (BW.h _)⟩
end

section
open Go.RowKit
attribute [local go_sem] Oper.semAt_some
set_option maxRecDepth 100000 in
set_option maxHeartbeats 40000000 in
theorem RCV_f (a b : Val) (x y : Int) (w : World) (hx : cls a = x) (hy : cls b = y) (e1 : x = 2) (e2 : y = 2) (h : Op.bytesLess a.s.toList b.s.toList = false) (h2 : (a.s.toList == b.s.toList) = false) :
    Calls Tryz.prog 120 #[.agg #[.int .i64 a.k, .int .i64 a.n, .string a.s], .agg #[.int .i64 b.k, .int .i64 b.n, .string b.s]] w (RetV w (.int .i64 (1))) := by
  have hB := below_two (w := w) (.cells #[.int .i64 a.k, .int .i64 a.n, .string a.s] 64) (.cells #[.int .i64 b.k, .int .i64 b.n, .string b.s] 64)
  have x1 := (Blk.new w 64 #[.int .i64 a.k, .int .i64 a.n, .string a.s]).alloc (.cells #[.int .i64 b.k, .int .i64 b.n, .string b.s] 64)
  have x2 := Blk.new (w.alloc (.cells #[.int .i64 a.k, .int .i64 a.n, .string a.s] 64)) 64 #[.int .i64 b.k, .int .i64 b.n, .string b.s]
  rw [World.size_alloc] at x2
  go_enter Tryz.func120, Tryz.ntmps120
  go_wp2_with fail
  obtain ⟨W0, hW0⟩ : ∃ W0, (w.alloc (.cells #[.int .i64 a.k, .int .i64 a.n, .string a.s] 64)).alloc (.cells #[.int .i64 b.k, .int .i64 b.n, .string b.s] 64) = W0 := ⟨_, rfl⟩
  rw [hW0] at hB x1 x2 ⊢
  clear hW0
  have p0 := fun (p : BW W0) => BW.cell (a := ⟨w.heap.size, 0, none⟩) x1.lt (x1.cell 0) p
  have p1 := fun (p : BW W0) => BW.cell (a := ⟨w.heap.size, 1, none⟩) x1.lt (x1.cell 1) p
  have p2 := fun (p : BW W0) => BW.cell (a := ⟨w.heap.size, 2, none⟩) x1.lt (x1.cell 2) p
  have q0 := fun (p : BW W0) => BW.cell (a := ⟨w.heap.size + 1, 0, none⟩) x2.lt (x2.cell 0) p
  have q1 := fun (p : BW W0) => BW.cell (a := ⟨w.heap.size + 1, 1, none⟩) x2.lt (x2.cell 1) p
  have q2 := fun (p : BW W0) => BW.cell (a := ⟨w.heap.size + 1, 2, none⟩) x2.lt (x2.cell 2) p
  simp at p0 p1 p2 q0 q1 q2
  have C1 := hide (fun (p : BW W0) => calls_bw (p := p) (v := .int .i64 x) (by rw [← hx]; exact class_any a p.x))
  have C2 := hide (fun (p : BW W0) => calls_bw (p := p) (v := .int .i64 y) (by rw [← hy]; exact class_any b p.x))
  clear hx hy x1 x2
  have HB := hide hB
  clear hB
  obtain ⟨p, hp⟩ : ∃ p : BW W0, p.x = W0 := ⟨⟨W0, Below.refl _ _⟩, rfl⟩
  rw [← hp]
  clear hp
  subst e1
  subst e2
  have n1 : ((2 : Int) != 2) = false := rfl
  (refine wp_region_quiet_bwp (by kernel_rfl) (by kernel_rfl) ?_
   repeat (first | go_big_quiet_step ((first | (go_at_call 147; with_reducible exact C1.out _) | (go_at_call 147; with_reducible exact C2.out _))) | quiet_step ((first | (go_at_call 147; with_reducible exact C1.out _) | (go_at_call 147; with_reducible exact C2.out _))))
   refine wpQuiet_nil ?_
   intro wq hw'
   obtain ⟨q, hw''⟩ := hw'
   subst hw'')
  go_wp2_with (go_at_call 147; (first | (with_reducible refine (C1.out _).mono ?_; skip; rintro e w' ⟨rfl, q, rfl⟩) | (with_reducible refine (C2.out _).mono ?_; skip; rintro e w' ⟨rfl, q, rfl⟩)))
  go_ret
  exact ⟨rfl, bstep HB.out (BW.h _)⟩
end

section
open Go.RowKit
attribute [local go_sem] Oper.semAt_some
set_option maxRecDepth 100000 in
set_option maxHeartbeats 40000000 in
theorem RCV_g (a b : Val) (x y : Int) (w : World) (hx : cls a = x) (hy : cls b = y) (e1 : x = 2) (e2 : y = 2) (h : Op.bytesLess a.s.toList b.s.toList = false) (h2 : (a.s.toList == b.s.toList) = true) :
    Calls Tryz.prog 120 #[.agg #[.int .i64 a.k, .int .i64 a.n, .string a.s], .agg #[.int .i64 b.k, .int .i64 b.n, .string b.s]] w (RetV w (.int .i64 (0))) := by
  have hB := below_two (w := w) (.cells #[.int .i64 a.k, .int .i64 a.n, .string a.s] 64) (.cells #[.int .i64 b.k, .int .i64 b.n, .string b.s] 64)
  have x1 := (Blk.new w 64 #[.int .i64 a.k, .int .i64 a.n, .string a.s]).alloc (.cells #[.int .i64 b.k, .int .i64 b.n, .string b.s] 64)
  have x2 := Blk.new (w.alloc (.cells #[.int .i64 a.k, .int .i64 a.n, .string a.s] 64)) 64 #[.int .i64 b.k, .int .i64 b.n, .string b.s]
  rw [World.size_alloc] at x2
  go_enter Tryz.func120, Tryz.ntmps120
  go_wp2_with fail
  obtain ⟨W0, hW0⟩ : ∃ W0, (w.alloc (.cells #[.int .i64 a.k, .int .i64 a.n, .string a.s] 64)).alloc (.cells #[.int .i64 b.k, .int .i64 b.n, .string b.s] 64) = W0 := ⟨_, rfl⟩
  rw [hW0] at hB x1 x2 ⊢
  clear hW0
  have p0 := fun (p : BW W0) => BW.cell (a := ⟨w.heap.size, 0, none⟩) x1.lt (x1.cell 0) p
  have p1 := fun (p : BW W0) => BW.cell (a := ⟨w.heap.size, 1, none⟩) x1.lt (x1.cell 1) p
  have p2 := fun (p : BW W0) => BW.cell (a := ⟨w.heap.size, 2, none⟩) x1.lt (x1.cell 2) p
  have q0 := fun (p : BW W0) => BW.cell (a := ⟨w.heap.size + 1, 0, none⟩) x2.lt (x2.cell 0) p
  have q1 := fun (p : BW W0) => BW.cell (a := ⟨w.heap.size + 1, 1, none⟩) x2.lt (x2.cell 1) p
  have q2 := fun (p : BW W0) => BW.cell (a := ⟨w.heap.size + 1, 2, none⟩) x2.lt (x2.cell 2) p
  simp at p0 p1 p2 q0 q1 q2
  have C1 := hide (fun (p : BW W0) => calls_bw (p := p) (v := .int .i64 x) (by rw [← hx]; exact class_any a p.x))
  have C2 := hide (fun (p : BW W0) => calls_bw (p := p) (v := .int .i64 y) (by rw [← hy]; exact class_any b p.x))
  clear hx hy x1 x2
  have HB := hide hB
  clear hB
  obtain ⟨p, hp⟩ : ∃ p : BW W0, p.x = W0 := ⟨⟨W0, Below.refl _ _⟩, rfl⟩
  rw [← hp]
  clear hp
  subst e1
  subst e2
  have n1 : ((2 : Int) != 2) = false := rfl
  (refine wp_region_quiet_bwp (by kernel_rfl) (by kernel_rfl) ?_
   repeat (first | go_big_quiet_step ((first | (go_at_call 147; with_reducible exact C1.out _) | (go_at_call 147; with_reducible exact C2.out _))) | quiet_step ((first | (go_at_call 147; with_reducible exact C1.out _) | (go_at_call 147; with_reducible exact C2.out _))))
   refine wpQuiet_nil ?_
   intro wq hw'
   obtain ⟨q, hw''⟩ := hw'
   subst hw'')
  go_wp2_with (go_at_call 147; (first | (with_reducible refine (C1.out _).mono ?_; skip; rintro e w' ⟨rfl, q, rfl⟩) | (with_reducible refine (C2.out _).mono ?_; skip; rintro e w' ⟨rfl, q, rfl⟩)))
  go_ret
  exact ⟨rfl, bstep HB.out (BW.h _)⟩
end

section
open Go.RowKit
attribute [local go_sem] Oper.semAt_some
set_option maxRecDepth 100000 in
set_option maxHeartbeats 40000000 in
theorem RCV_h (a b : Val) (x y : Int) (w : World) (hx : cls a = x) (hy : cls b = y) (n1 : (x != y) = true) (h : x < y) :
    Calls Tryz.prog 120 #[.agg #[.int .i64 a.k, .int .i64 a.n, .string a.s], .agg #[.int .i64 b.k, .int .i64 b.n, .string b.s]] w (RetV w (.int .i64 (-1))) := by
  have hB := below_two (w := w) (.cells #[.int .i64 a.k, .int .i64 a.n, .string a.s] 64) (.cells #[.int .i64 b.k, .int .i64 b.n, .string b.s] 64)
  have x1 := (Blk.new w 64 #[.int .i64 a.k, .int .i64 a.n, .string a.s]).alloc (.cells #[.int .i64 b.k, .int .i64 b.n, .string b.s] 64)
  have x2 := Blk.new (w.alloc (.cells #[.int .i64 a.k, .int .i64 a.n, .string a.s] 64)) 64 #[.int .i64 b.k, .int .i64 b.n, .string b.s]
  rw [World.size_alloc] at x2
  go_enter Tryz.func120, Tryz.ntmps120
  go_wp2_with fail
  obtain ⟨W0, hW0⟩ : ∃ W0, (w.alloc (.cells #[.int .i64 a.k, .int .i64 a.n, .string a.s] 64)).alloc (.cells #[.int .i64 b.k, .int .i64 b.n, .string b.s] 64) = W0 := ⟨_, rfl⟩
  rw [hW0] at hB x1 x2 ⊢
  clear hW0
  have p0 := fun (p : BW W0) => BW.cell (a := ⟨w.heap.size, 0, none⟩) x1.lt (x1.cell 0) p
  have p1 := fun (p : BW W0) => BW.cell (a := ⟨w.heap.size, 1, none⟩) x1.lt (x1.cell 1) p
  have p2 := fun (p : BW W0) => BW.cell (a := ⟨w.heap.size, 2, none⟩) x1.lt (x1.cell 2) p
  have q0 := fun (p : BW W0) => BW.cell (a := ⟨w.heap.size + 1, 0, none⟩) x2.lt (x2.cell 0) p
  have q1 := fun (p : BW W0) => BW.cell (a := ⟨w.heap.size + 1, 1, none⟩) x2.lt (x2.cell 1) p
  have q2 := fun (p : BW W0) => BW.cell (a := ⟨w.heap.size + 1, 2, none⟩) x2.lt (x2.cell 2) p
  simp at p0 p1 p2 q0 q1 q2
  have C1 := hide (fun (p : BW W0) => calls_bw (p := p) (v := .int .i64 x) (by rw [← hx]; exact class_any a p.x))
  have C2 := hide (fun (p : BW W0) => calls_bw (p := p) (v := .int .i64 y) (by rw [← hy]; exact class_any b p.x))
  clear hx hy x1 x2
  have HB := hide hB
  clear hB
  obtain ⟨p, hp⟩ : ∃ p : BW W0, p.x = W0 := ⟨⟨W0, Below.refl _ _⟩, rfl⟩
  rw [← hp]
  clear hp
  (refine wp_region_quiet_bwp (by kernel_rfl) (by kernel_rfl) ?_
   repeat (first | go_big_quiet_step ((first | (go_at_call 147; with_reducible exact C1.out _) | (go_at_call 147; with_reducible exact C2.out _))) | quiet_step ((first | (go_at_call 147; with_reducible exact C1.out _) | (go_at_call 147; with_reducible exact C2.out _))))
   refine wpQuiet_nil ?_
   intro wq hw'
   obtain ⟨q, hw''⟩ := hw'
   subst hw'')
  go_wp2_with fail
  (refine wp_region_quiet_bwp (by kernel_rfl) (by kernel_rfl) ?_
   repeat (first | go_big_quiet_step ((first | (go_at_call 147; with_reducible exact C1.out _) | (go_at_call 147; with_reducible exact C2.out _))) | quiet_step ((first | (go_at_call 147; with_reducible exact C1.out _) | (go_at_call 147; with_reducible exact C2.out _))))
   refine wpQuiet_nil ?_
   intro wq hw'
   obtain ⟨q, hw''⟩ := hw'
   subst hw'')
  go_wp2
  go_ret
  exact ⟨rfl, bstep HB.out (BW.h _)⟩
end

section
open Go.RowKit
attribute [local go_sem] Oper.semAt_some
set_option maxRecDepth 100000 in
set_option maxHeartbeats 40000000 in
theorem RCV_i (a b : Val) (x y : Int) (w : World) (hx : cls a = x) (hy : cls b = y) (n1 : (x != y) = true) (h : ¬ x < y) :
    Calls Tryz.prog 120 #[.agg #[.int .i64 a.k, .int .i64 a.n, .string a.s], .agg #[.int .i64 b.k, .int .i64 b.n, .string b.s]] w (RetV w (.int .i64 (1))) := by
  have hB := below_two (w := w) (.cells #[.int .i64 a.k, .int .i64 a.n, .string a.s] 64) (.cells #[.int .i64 b.k, .int .i64 b.n, .string b.s] 64)
  have x1 := (Blk.new w 64 #[.int .i64 a.k, .int .i64 a.n, .string a.s]).alloc (.cells #[.int .i64 b.k, .int .i64 b.n, .string b.s] 64)
  have x2 := Blk.new (w.alloc (.cells #[.int .i64 a.k, .int .i64 a.n, .string a.s] 64)) 64 #[.int .i64 b.k, .int .i64 b.n, .string b.s]
  rw [World.size_alloc] at x2
  go_enter Tryz.func120, Tryz.ntmps120
  go_wp2_with fail
  obtain ⟨W0, hW0⟩ : ∃ W0, (w.alloc (.cells #[.int .i64 a.k, .int .i64 a.n, .string a.s] 64)).alloc (.cells #[.int .i64 b.k, .int .i64 b.n, .string b.s] 64) = W0 := ⟨_, rfl⟩
  rw [hW0] at hB x1 x2 ⊢
  clear hW0
  have p0 := fun (p : BW W0) => BW.cell (a := ⟨w.heap.size, 0, none⟩) x1.lt (x1.cell 0) p
  have p1 := fun (p : BW W0) => BW.cell (a := ⟨w.heap.size, 1, none⟩) x1.lt (x1.cell 1) p
  have p2 := fun (p : BW W0) => BW.cell (a := ⟨w.heap.size, 2, none⟩) x1.lt (x1.cell 2) p
  have q0 := fun (p : BW W0) => BW.cell (a := ⟨w.heap.size + 1, 0, none⟩) x2.lt (x2.cell 0) p
  have q1 := fun (p : BW W0) => BW.cell (a := ⟨w.heap.size + 1, 1, none⟩) x2.lt (x2.cell 1) p
  have q2 := fun (p : BW W0) => BW.cell (a := ⟨w.heap.size + 1, 2, none⟩) x2.lt (x2.cell 2) p
  simp at p0 p1 p2 q0 q1 q2
  have C1 := hide (fun (p : BW W0) => calls_bw (p := p) (v := .int .i64 x) (by rw [← hx]; exact class_any a p.x))
  have C2 := hide (fun (p : BW W0) => calls_bw (p := p) (v := .int .i64 y) (by rw [← hy]; exact class_any b p.x))
  clear hx hy x1 x2
  have HB := hide hB
  clear hB
  obtain ⟨p, hp⟩ : ∃ p : BW W0, p.x = W0 := ⟨⟨W0, Below.refl _ _⟩, rfl⟩
  rw [← hp]
  clear hp
  (refine wp_region_quiet_bwp (by kernel_rfl) (by kernel_rfl) ?_
   repeat (first | go_big_quiet_step ((first | (go_at_call 147; with_reducible exact C1.out _) | (go_at_call 147; with_reducible exact C2.out _))) | quiet_step ((first | (go_at_call 147; with_reducible exact C1.out _) | (go_at_call 147; with_reducible exact C2.out _))))
   refine wpQuiet_nil ?_
   intro wq hw'
   obtain ⟨q, hw''⟩ := hw'
   subst hw'')
  go_wp2_with fail
  (refine wp_region_quiet_bwp (by kernel_rfl) (by kernel_rfl) ?_
   repeat (first | go_big_quiet_step ((first | (go_at_call 147; with_reducible exact C1.out _) | (go_at_call 147; with_reducible exact C2.out _))) | quiet_step ((first | (go_at_call 147; with_reducible exact C1.out _) | (go_at_call 147; with_reducible exact C2.out _))))
   refine wpQuiet_nil ?_
   intro wq hw'
   obtain ⟨q, hw''⟩ := hw'
   subst hw'')
  go_wp2
  go_ret
  exact ⟨rfl, bstep HB.out (BW.h _)⟩
end

end Go.Proofs.YtiioiajcoiaalaaGreatDoor
