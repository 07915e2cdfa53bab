/-
  A case of the reference's CompareValues. (Printed by gen_bgs.)
  A case of the reference's CompareValues. (Printed by gen_bgs.)
  A case of the reference's CompareValues. (Printed by gen_bgs.)
  A case of the reference's CompareValues. (Printed by gen_bgs.)
  A case of the reference's CompareValues. (Printed by gen_bgs.)
  A case of the reference's CompareValues. (Printed by gen_bgs.)
  A case of the reference's CompareValues. (Printed by gen_bgs.)
  A case of the reference's CompareValues. (Printed by gen_bgs.)
  A case of the reference's CompareValues. (Printed by gen_bgs.)
  The reference's CompareValues, for every two values.
  The walks of the reference's functions over rows: Valid, Compare, Own.
-/
import Derived.Test.YtoapjidpfghnlaaGreatDoorBgS1
import Derived.Test.YtoapjidpfghnlaaGreatDoorGb
namespace Go.Proofs.YtoapjidpfghnlaaGreatDoor

section
open Go.RowKit
attribute [local go_sem] Oper.semAt_some
set_option maxRecDepth 100000 in
set_option maxHeartbeats 40000000 in
theorem RCV_a (a b : Val) (x y : Int) (w : World) (hx : cls a = x) (hy : cls b = y) (e1 : x = 0) (e2 : y = 0) :
    Calls Tryz.prog 131 #[.agg #[.int .i64 a.k, .int .i64 a.n, .string a.s], .agg #[.int .i64 b.k, .int .i64 b.n, .string b.s]] w (RetV w (.int .i64 (0))) := by
  have hB := below_two (w := w) (.cells #[.int .i64 a.k, .int .i64 a.n, .string a.s] 102) (.cells #[.int .i64 b.k, .int .i64 b.n, .string b.s] 102)
  have x1 := (Blk.new w 102 #[.int .i64 a.k, .int .i64 a.n, .string a.s]).alloc (.cells #[.int .i64 b.k, .int .i64 b.n, .string b.s] 102)
  have x2 := Blk.new (w.alloc (.cells #[.int .i64 a.k, .int .i64 a.n, .string a.s] 102)) 102 #[.int .i64 b.k, .int .i64 b.n, .string b.s]
  rw [World.size_alloc] at x2
  go_enter Tryz.func131, Tryz.ntmps131
  go_wp2_with fail
  obtain ⟨W0, hW0⟩ : ∃ W0, (w.alloc (.cells #[.int .i64 a.k, .int .i64 a.n, .string a.s] 102)).alloc (.cells #[.int .i64 b.k, .int .i64 b.n, .string b.s] 102) = W0 := ⟨_, rfl⟩
  rw [hW0] at hB x1 x2 ⊢
  clear hW0
  have p0 := fun (p : BW W0) => BW.cell (a := ⟨w.heap.size, 0, none⟩) x1.lt (x1.cell 0) p
  have p1 := fun (p : BW W0) => BW.cell (a := ⟨w.heap.size, 1, none⟩) x1.lt (x1.cell 1) p
  have p2 := fun (p : BW W0) => BW.cell (a := ⟨w.heap.size, 2, none⟩) x1.lt (x1.cell 2) p
  have q0 := fun (p : BW W0) => BW.cell (a := ⟨w.heap.size + 1, 0, none⟩) x2.lt (x2.cell 0) p
  have q1 := fun (p : BW W0) => BW.cell (a := ⟨w.heap.size + 1, 1, none⟩) x2.lt (x2.cell 1) p
  have q2 := fun (p : BW W0) => BW.cell (a := ⟨w.heap.size + 1, 2, none⟩) x2.lt (x2.cell 2) p
  simp at p0 p1 p2 q0 q1 q2
  have C1 := hide (fun (p : BW W0) => calls_bw (p := p) (v := .int .i64 x) (by rw [← hx]; exact class_any a p.x))
  have C2 := hide (fun (p : BW W0) => calls_bw (p := p) (v := .int .i64 y) (by rw [← hy]; exact class_any b p.x))
  clear hx hy x1 x2
  have HB := hide hB
  clear hB
  obtain ⟨p, hp⟩ : ∃ p : BW W0, p.x = W0 := ⟨⟨W0, Below.refl _ _⟩, rfl⟩
  rw [← hp]
  clear hp
  subst e1
  subst e2
  have n1 : ((0 : Int) != 0) = false := rfl
  (refine wp_region_quiet_bwp (by kernel_rfl) (by kernel_rfl) ?_
   repeat (first | go_big_quiet_step ((first | (go_at_call 183; with_reducible exact C1.out _) | (go_at_call 183; with_reducible exact C2.out _))) | quiet_step ((first | (go_at_call 183; with_reducible exact C1.out _) | (go_at_call 183; with_reducible exact C2.out _))))
   refine wpQuiet_nil ?_
   intro wq hw'
   obtain ⟨q, hw''⟩ := hw'
   subst hw'')
  go_wp2_with (go_at_call 183; (first | (with_reducible refine (C1.out _).mono ?_; skip; rintro e w' ⟨rfl, q, rfl⟩) | (with_reducible refine (C2.out _).mono ?_; skip; rintro e w' ⟨rfl, q, rfl⟩)))
  go_ret
  exact ⟨rfl, bstep HB.out (BW.h _)⟩
end

section
open Go.RowKit
attribute [local go_sem] Oper.semAt_some
set_option maxRecDepth 100000 in
set_option maxHeartbeats 40000000 in
theorem RCV_b (a b : Val) (x y : Int) (w : World) (hx : cls a = x) (hy : cls b = y) (e1 : x = 1) (e2 : y = 1) (h : a.n < b.n) :
    Calls Tryz.prog 131 #[.agg #[.int .i64 a.k, .int .i64 a.n, .string a.s], .agg #[.int .i64 b.k, .int .i64 b.n, .string b.s]] w (RetV w (.int .i64 (-1))) := by
  have hB := below_two (w := w) (.cells #[.int .i64 a.k, .int .i64 a.n, .string a.s] 102) (.cells #[.int .i64 b.k, .int .i64 b.n, .string b.s] 102)
  have x1 := (Blk.new w 102 #[.int .i64 a.k, .int .i64 a.n, .string a.s]).alloc (.cells #[.int .i64 b.k, .int .i64 b.n, .string b.s] 102)
  have x2 := Blk.new (w.alloc (.cells #[.int .i64 a.k, .int .i64 a.n, .string a.s] 102)) 102 #[.int .i64 b.k, .int .i64 b.n, .string b.s]
  rw [World.size_alloc] at x2
  go_enter Tryz.func131, Tryz.ntmps131
  go_wp2_with fail
  obtain ⟨W0, hW0⟩ : ∃ W0, (w.alloc (.cells #[.int .i64 a.k, .int .i64 a.n, .string a.s] 102)).alloc (.cells #[.int .i64 b.k, .int .i64 b.n, .string b.s] 102) = W0 := ⟨_, rfl⟩
  rw [hW0] at hB x1 x2 ⊢
  clear hW0
  have p0 := fun (p : BW W0) => BW.cell (a := ⟨w.heap.size, 0, none⟩) x1.lt (x1.cell 0) p
  have p1 := fun (p : BW W0) => BW.cell (a := ⟨w.heap.size, 1, none⟩) x1.lt (x1.cell 1) p
  have p2 := fun (p : BW W0) => BW.cell (a := ⟨w.heap.size, 2, none⟩) x1.lt (x1.cell 2) p
  have q0 := fun (p : BW W0) => BW.cell (a := ⟨w.heap.size + 1, 0, none⟩) x2.lt (x2.cell 0) p
  have q1 := fun (p : BW W0) => BW.cell (a := ⟨w.heap.size + 1, 1, none⟩) x2.lt (x2.cell 1) p
  have q2 := fun (p : BW W0) => BW.cell (a := ⟨w.heap.size + 1, 2, none⟩) x2.lt (x2.cell 2) p
  simp at p0 p1 p2 q0 q1 q2
  have C1 := hide (fun (p : BW W0) => calls_bw (p := p) (v := .int .i64 x) (by rw [← hx]; exact class_any a p.x))
  have C2 := hide (fun (p : BW W0) => calls_bw (p := p) (v := .int .i64 y) (by rw [← hy]; exact class_any b p.x))
  clear hx hy x1 x2
  have HB := hide hB
  clear hB
  obtain ⟨p, hp⟩ : ∃ p : BW W0, p.x = W0 := ⟨⟨W0, Below.refl _ _⟩, rfl⟩
  rw [← hp]
  clear hp
  subst e1
  subst e2
  have n1 : ((1 : Int) != 1) = false := rfl
  (refine wp_region_quiet_bwp (by kernel_rfl) (by kernel_rfl) ?_
   repeat (first | go_big_quiet_step ((first | (go_at_call 183; with_reducible exact C1.out _) | (go_at_call 183; with_reducible exact C2.out _))) | quiet_step ((first | (go_at_call 183; with_reducible exact C1.out _) | (go_at_call 183; with_reducible exact C2.out _))))
   refine wpQuiet_nil ?_
   intro wq hw'
   obtain ⟨q, hw''⟩ := hw'
   subst hw'')
  go_wp2_with (go_at_call 183; (first | (with_reducible refine (C1.out _).mono ?_; skip; rintro e w' ⟨rfl, q, rfl⟩) | (with_reducible refine (C2.out _).mono ?_; skip; rintro e w' ⟨rfl, q, rfl⟩)))
  go_ret
  exact ⟨rfl, bstep HB.out (BW.h _)⟩
end

section
open Go.RowKit
attribute [local go_sem] Oper.semAt_some
set_option maxRecDepth 100000 in
set_option maxHeartbeats 40000000 in
theorem RCV_c (a b : Val) (x y : Int) (w : World) (hx : cls a = x) (hy : cls b = y) (e1 : x = 1) (e2 : y = 1) (h2 : b.n < a.n) :
    Calls Tryz.prog 131 #[.agg #[.int .i64 a.k, .int .i64 a.n, .string a.s], .agg #[.int .i64 b.k, .int .i64 b.n, .string b.s]] w (RetV w (.int .i64 (1))) := by
  have hB := below_two (w := w) (.cells #[.int .i64 a.k, .int .i64 a.n, .string a.s] 102) (.cells #[.int .i64 b.k, .int .i64 b.n, .string b.s] 102)
  have x1 := (Blk.new w 102 #[.int .i64 a.k, .int .i64 a.n, .string a.s]).alloc (.cells #[.int .i64 b.k, .int .i64 b.n, .string b.s] 102)
  have x2 := Blk.new (w.alloc (.cells #[.int .i64 a.k, .int .i64 a.n, .string a.s] 102)) 102 #[.int .i64 b.k, .int .i64 b.n, .string b.s]
  rw [World.size_alloc] at x2
  go_enter Tryz.func131, Tryz.ntmps131
  go_wp2_with fail
  obtain ⟨W0, hW0⟩ : ∃ W0, (w.alloc (.cells #[.int .i64 a.k, .int .i64 a.n, .string a.s] 102)).alloc (.cells #[.int .i64 b.k, .int .i64 b.n, .string b.s] 102) = W0 := ⟨_, rfl⟩
  rw [hW0] at hB x1 x2 ⊢
  clear hW0
  have p0 := fun (p : BW W0) => BW.cell (a := ⟨w.heap.size, 0, none⟩) x1.lt (x1.cell 0) p
  have p1 := fun (p : BW W0) => BW.cell (a := ⟨w.heap.size, 1, none⟩) x1.lt (x1.cell 1) p
  have p2 := fun (p : BW W0) => BW.cell (a := ⟨w.heap.size, 2, none⟩) x1.lt (x1.cell 2) p
  have q0 := fun (p : BW W0) => BW.cell (a := ⟨w.heap.size + 1, 0, none⟩) x2.lt (x2.cell 0) p
  have q1 := fun (p : BW W0) => BW.cell (a := ⟨w.heap.size + 1, 1, none⟩) x2.lt (x2.cell 1) p
  have q2 := fun (p : BW W0) => BW.cell (a := ⟨w.heap.size + 1, 2, none⟩) x2.lt (x2.cell 2) p
  simp at p0 p1 p2 q0 q1 q2
  have C1 := hide (fun (p : BW W0) => calls_bw (p := p) (v := .int .i64 x) (by rw [← hx]; exact class_any a p.x))
  have C2 := hide (fun (p : BW W0) => calls_bw (p := p) (v := .int .i64 y) (by rw [← hy]; exact class_any b p.x))
  clear hx hy x1 x2
  have HB := hide hB
  clear hB
  obtain ⟨p, hp⟩ : ∃ p : BW W0, p.x = W0 := ⟨⟨W0, Below.refl _ _⟩, rfl⟩
  rw [← hp]
  clear hp
  subst e1
  subst e2
  have n1 : ((1 : Int) != 1) = false := rfl
  (refine wp_region_quiet_bwp (by kernel_rfl) (by kernel_rfl) ?_
   repeat (first | go_big_quiet_step ((first | (go_at_call 183; with_reducible exact C1.out _) | (go_at_call 183; with_reducible exact C2.out _))) | quiet_step ((first | (go_at_call 183; with_reducible exact C1.out _) | (go_at_call 183; with_reducible exact C2.out _))))
   refine wpQuiet_nil ?_
   intro wq hw'
   obtain ⟨q, hw''⟩ := hw'
   subst hw'')
  go_wp2_with (go_at_call 183; (first | (with_reducible refine (C1.out _).mono ?_; skip; rintro e w' ⟨rfl, q, rfl⟩) | (with_reducible refine (C2.out _).mono ?_; skip; rintro e w' ⟨rfl, q, rfl⟩)))
  go_ret
  exact ⟨rfl, bstep HB.out (BW.h _)⟩
end

section
open Go.RowKit
attribute [local go_sem] Oper.semAt_some
set_option maxRecDepth 100000 in
set_option maxHeartbeats 40000000 in
theorem RCV_d (a b : Val) (x y : Int) (w : World) (hx : cls a = x) (hy : cls b = y) (e1 : x = 1) (e2 : y = 1) (h : ¬ a.n < b.n) (h2 : ¬ b.n < a.n) :
    Calls Tryz.prog 131 #[.agg #[.int .i64 a.k, .int .i64 a.n, .string a.s], .agg #[.int .i64 b.k, .int .i64 b.n, .string b.s]] w (RetV w (.int .i64 (0))) := by
  have hB := below_two (w := w) (.cells #[.int .i64 a.k, .int .i64 a.n, .string a.s] 102) (.cells #[.int .i64 b.k, .int .i64 b.n, .string b.s] 102)
  have x1 := (Blk.new w 102 #[.int .i64 a.k, .int .i64 a.n, .string a.s]).alloc (.cells #[.int .i64 b.k, .int .i64 b.n, .string b.s] 102)
  have x2 := Blk.new (w.alloc (.cells #[.int .i64 a.k, .int .i64 a.n, .string a.s] 102)) 102 #[.int .i64 b.k, .int .i64 b.n, .string b.s]
  rw [World.size_alloc] at x2
  go_enter Tryz.func131, Tryz.ntmps131
  go_wp2_with fail
  obtain ⟨W0, hW0⟩ : ∃ W0, (w.alloc (.cells #[.int .i64 a.k, .int .i64 a.n, .string a.s] 102)).alloc (.cells #[.int .i64 b.k, .int .i64 b.n, .string b.s] 102) = W0 := ⟨_, rfl⟩
  rw [hW0] at hB x1 x2 ⊢
  clear hW0
  have p0 := fun (p : BW W0) => BW.cell (a := ⟨w.heap.size, 0, none⟩) x1.lt (x1.cell 0) p
  have p1 := fun (p : BW W0) => BW.cell (a := ⟨w.heap.size, 1, none⟩) x1.lt (x1.cell 1) p
  have p2 := fun (p : BW W0) => BW.cell (a := ⟨w.heap.size, 2, none⟩) x1.lt (x1.cell 2) p
  have q0 := fun (p : BW W0) => BW.cell (a := ⟨w.heap.size + 1, 0, none⟩) x2.lt (x2.cell 0) p
  have q1 := fun (p : BW W0) => BW.cell (a := ⟨w.heap.size + 1, 1, none⟩) x2.lt (x2.cell 1) p
  have q2 := fun (p : BW W0) => BW.cell (a := ⟨w.heap.size + 1, 2, none⟩) x2.lt (x2.cell 2) p
  simp at p0 p1 p2 q0 q1 q2
  have C1 := hide (fun (p : BW W0) => calls_bw (p := p) (v := .int .i64 x) (by rw [← hx]; exact class_any a p.x))
  have C2 := hide (fun (p : BW W0) => calls_bw (p := p) (v := .int .i64 y) (by rw [← hy]; exact class_any b p.x))
  clear hx hy x1 x2
  have HB := hide hB
  clear hB
  obtain ⟨p, hp⟩ : ∃ p : BW W0, p.x = W0 := ⟨⟨W0, Below.refl _ _⟩, rfl⟩
  rw [← hp]
  clear hp
  subst e1
  subst e2
  have n1 : ((1 : Int) != 1) = false := rfl
  (refine wp_region_quiet_bwp (by kernel_rfl) (by kernel_rfl) ?_
   repeat (first | go_big_quiet_step ((first | (go_at_call 183; with_reducible exact C1.out _) | (go_at_call 183; with_reducible exact C2.out _))) | quiet_step ((first | (go_at_call 183; with_reducible exact C1.out _) | (go_at_call 183; with_reducible exact C2.out _))))
   refine wpQuiet_nil ?_
   intro wq hw'
   obtain ⟨q, hw''⟩ := hw'
   subst hw'')
  go_wp2_with (go_at_call 183; (first | (with_reducible refine (C1.out _).mono ?_; skip; rintro e w' ⟨rfl, q, rfl⟩) | (with_reducible refine (C2.out _).mono ?_; skip; rintro e w' ⟨rfl, q, rfl⟩)))
  go_ret
  exact ⟨rfl, bstep HB.out (BW.h _)⟩
end

section
open Go.RowKit
attribute [local go_sem] Oper.semAt_some
set_option maxRecDepth 100000 in
set_option maxHeartbeats 40000000 in
theorem RCV_e (a b : Val) (x y : Int) (w : World) (hx : cls a = x) (hy : cls b = y) (e1 : x = 2) (e2 : y = 2) (h : Op.bytesLess a.s.toList b.s.toList = true) :
    Calls Tryz.prog 131 #[.agg #[.int .i64 a.k, .int .i64 a.n, .string a.s], .agg #[.int .i64 b.k, .int .i64 b.n, .string b.s]] w (RetV w (.int .i64 (-1))) := by
  have hB := below_two (w := w) (.cells #[.int .i64 a.k, .int .i64 a.n, .string a.s] 102) (.cells #[.int .i64 b.k, .int .i64 b.n, .string b.s] 102)
  have x1 := (Blk.new w 102 #[.int .i64 a.k, .int .i64 a.n, .string a.s]).alloc (.cells #[.int .i64 b.k, .int .i64 b.n, .string b.s] 102)
  have x2 := Blk.new (w.alloc (.cells #[.int .i64 a.k, .int .i64 a.n, .string a.s] 102)) 102 #[.int .i64 b.k, .int .i64 b.n, .string b.s]
  rw [World.size_alloc] at x2
  go_enter Tryz.func131, Tryz.ntmps131
  go_wp2_with fail
  obtain ⟨W0, hW0⟩ : ∃ W0, (w.alloc (.cells #[.int .i64 a.k, .int .i64 a.n, .string a.s] 102)).alloc (.cells #[.int .i64 b.k, .int .i64 b.n, .string b.s] 102) = W0 := ⟨_, rfl⟩
  rw [hW0] at hB x1 x2 ⊢
  clear hW0
  have p0 := fun (p : BW W0) => BW.cell (a := ⟨w.heap.size, 0, none⟩) x1.lt (x1.cell 0) p
  have p1 := fun (p : BW W0) => BW.cell (a := ⟨w.heap.size, 1, none⟩) x1.lt (x1.cell 1) p
  have p2 := fun (p : BW W0) => BW.cell (a := ⟨w.heap.size, 2, none⟩) x1.lt (x1.cell 2) p
  have q0 := fun (p : BW W0) => BW.cell (a := ⟨w.heap.size + 1, 0, none⟩) x2.lt (x2.cell 0) p
  have q1 := fun (p : BW W0) => BW.cell (a := ⟨w.heap.size + 1, 1, none⟩) x2.lt (x2.cell 1) p
  have q2 := fun (p : BW W0) => BW.cell (a := ⟨w.heap.size + 1, 2, none⟩) x2.lt (x2.cell 2) p
  simp at p0 p1 p2 q0 q1 q2
  have C1 := hide (fun (p : BW W0) => calls_bw (p := p) (v := .int .i64 x) (by rw [← hx]; exact class_any a p.x))
  have C2 := hide (fun (p : BW W0) => calls_bw (p := p) (v := .int .i64 y) (by rw [← hy]; exact class_any b p.x))
  clear hx hy x1 x2
  have HB := hide hB
  clear hB
  obtain ⟨p, hp⟩ : ∃ p : BW W0, p.x = W0 := ⟨⟨W0, Below.refl _ _⟩, rfl⟩
  rw [← hp]
  clear hp
  subst e1
  subst e2
  have n1 : ((2 : Int) != 2) = false := rfl
  (refine wp_region_quiet_bwp (by kernel_rfl) (by kernel_rfl) ?_
   repeat (first | go_big_quiet_step ((first | (go_at_call 183; with_reducible exact C1.out _) | (go_at_call 183; with_reducible exact C2.out _))) | quiet_step ((first | (go_at_call 183; with_reducible exact C1.out _) | (go_at_call 183; with_reducible exact C2.out _))))
   refine wpQuiet_nil ?_
   intro wq hw'
   obtain ⟨q, hw''⟩ := hw'
   subst hw'')
  go_wp2_with (go_at_call 183; (first | (with_reducible refine (C1.out _).mono ?_; skip; rintro e w' ⟨rfl, q, rfl⟩) | (with_reducible refine (C2.out _).mono ?_; skip; rintro e w' ⟨rfl, q, rfl⟩)))
  go_ret
  exact ⟨rfl, bstep HB.out (BW.h _)⟩
end

section
open Go.RowKit
attribute [local go_sem] Oper.semAt_some
set_option maxRecDepth 100000 in
set_option maxHeartbeats 40000000 in
theorem RCV_f (a b : Val) (x y : Int) (w : World) (hx : cls a = x) (hy : cls b = y) (e1 : x = 2) (e2 : y = 2) (h : Op.bytesLess a.s.toList b.s.toList = false) (h2 : (a.s.toList == b.s.toList) = false) :
    Calls Tryz.prog 131 #[.agg #[.int .i64 a.k, .int .i64 a.n, .string a.s], .agg #[.int .i64 b.k, .int .i64 b.n, .string b.s]] w (RetV w (.int .i64 (1))) := by
  have hB := below_two (w := w) (.cells #[.int .i64 a.k, .int .i64 a.n, .string a.s] 102) (.cells #[.int .i64 b.k, .int .i64 b.n, .string b.s] 102)
  have x1 := (Blk.new w 102 #[.int .i64 a.k, .int .i64 a.n, .string a.s]).alloc (.cells #[.int .i64 b.k, .int .i64 b.n, .string b.s] 102)
  have x2 := Blk.new (w.alloc (.cells #[.int .i64 a.k, .int .i64 a.n, .string a.s] 102)) 102 #[.int .i64 b.k, .int .i64 b.n, .string b.s]
  rw [World.size_alloc] at x2
  go_enter Tryz.func131, Tryz.ntmps131
  go_wp2_with fail
  obtain ⟨W0, hW0⟩ : ∃ W0, (w.alloc (.cells #[.int .i64 a.k, .int .i64 a.n, .string a.s] 102)).alloc (.cells #[.int .i64 b.k, .int .i64 b.n, .string b.s] 102) = W0 := ⟨_, rfl⟩
  rw [hW0] at hB x1 x2 ⊢
  clear hW0
  have p0 := fun (p : BW W0) => BW.cell (a := ⟨w.heap.size, 0, none⟩) x1.lt (x1.cell 0) p
  have p1 := fun (p : BW W0) => BW.cell (a := ⟨w.heap.size, 1, none⟩) x1.lt (x1.cell 1) p
  have p2 := fun (p : BW W0) => BW.cell (a := ⟨w.heap.size, 2, none⟩) x1.lt (x1.cell 2) p
  have q0 := fun (p : BW W0) => BW.cell (a := ⟨w.heap.size + 1, 0, none⟩) x2.lt (x2.cell 0) p
  have q1 := fun (p : BW W0) => BW.cell (a := ⟨w.heap.size + 1, 1, none⟩) x2.lt (x2.cell 1) p
  have q2 := fun (p : BW W0) => BW.cell (a := ⟨w.heap.size + 1, 2, none⟩) x2.lt (x2.cell 2) p
  simp at p0 p1 p2 q0 q1 q2
  have C1 := hide (fun (p : BW W0) => calls_bw (p := p) (v := .int .i64 x) (by rw [← hx]; exact class_any a p.x))
  have C2 := hide (fun (p : BW W0) => calls_bw (p := p) (v := .int .i64 y) (by rw [← hy]; exact class_any b p.x))
  clear hx hy x1 x2
  have HB := hide hB
  clear hB
  obtain ⟨p, hp⟩ : ∃ p : BW W0, p.x = W0 := ⟨⟨W0, Below.refl _ _⟩, rfl⟩
  rw [← hp]
  clear hp
  subst e1
  subst e2
  have n1 : ((2 : Int) != 2) = false := rfl
  (refine wp_region_quiet_bwp (by kernel_rfl) (by kernel_rfl) ?_
   repeat (first | go_big_quiet_step ((first | (go_at_call 183; with_reducible exact C1.out _) | (go_at_call 183; with_reducible exact C2.out _))) | quiet_step ((first | (go_at_call 183; with_reducible exact C1.out _) | (go_at_call 183; with_reducible exact C2.out _))))
   refine wpQuiet_nil ?_
   intro wq hw'
   obtain ⟨q, hw''⟩ := hw'
   subst hw'')
  go_wp2_with (go_at_call 183; (first | (with_reducible refine (C1.out _).mono ?_; skip; rintro e w' ⟨rfl, q, rfl⟩) | (with_reducible refine (C2.out _).mono ?_; skip; rintro e w' ⟨rfl, q, rfl⟩)))
  go_ret
  exact ⟨rfl, bstep HB.out (BW.h _)⟩
end

section
open Go.RowKit
attribute [local go_sem] Oper.semAt_some
set_option maxRecDepth 100000 in
set_option maxHeartbeats 40000000 in
theorem RCV_g (a b : Val) (x y : Int) (w : World) (hx : cls a = x) (hy : cls b = y) (e1 : x = 2) (e2 : y = 2) (h : Op.bytesLess a.s.toList b.s.toList = false) (h2 : (a.s.toList == b.s.toList) = true) :
    Calls Tryz.prog 131 #[.agg #[.int .i64 a.k, .int .i64 a.n, .string a.s], .agg #[.int .i64 b.k, .int .i64 b.n, .string b.s]] w (RetV w (.int .i64 (0))) := by
  have hB := below_two (w := w) (.cells #[.int .i64 a.k, .int .i64 a.n, .string a.s] 102) (.cells #[.int .i64 b.k, .int .i64 b.n, .string b.s] 102)
  have x1 := (Blk.new w 102 #[.int .i64 a.k, .int .i64 a.n, .string a.s]).alloc (.cells #[.int .i64 b.k, .int .i64 b.n, .string b.s] 102)
  have x2 := Blk.new (w.alloc (.cells #[.int .i64 a.k, .int .i64 a.n, .string a.s] 102)) 102 #[.int .i64 b.k, .int .i64 b.n, .string b.s]
  rw [World.size_alloc] at x2
  go_enter Tryz.func131, Tryz.ntmps131
  go_wp2_with fail
  obtain ⟨W0, hW0⟩ : ∃ W0, (w.alloc (.cells #[.int .i64 a.k, .int .i64 a.n, .string a.s] 102)).alloc (.cells #[.int .i64 b.k, .int .i64 b.n, .string b.s] 102) = W0 := ⟨_, rfl⟩
  rw [hW0] at hB x1 x2 ⊢
  clear hW0
  have p0 := fun (p : BW W0) => BW.cell (a := ⟨w.heap.size, 0, none⟩) x1.lt (x1.cell 0) p
  have p1 := fun (p : BW W0) => BW.cell (a := ⟨w.heap.size, 1, none⟩) x1.lt (x1.cell 1) p
  have p2 := fun (p : BW W0) => BW.cell (a := ⟨w.heap.size, 2, none⟩) x1.lt (x1.cell 2) p
  have q0 := fun (p : BW W0) => BW.cell (a := ⟨w.heap.size + 1, 0, none⟩) x2.lt (x2.cell 0) p
  have q1 := fun (p : BW W0) => BW.cell (a := ⟨w.heap.size + 1, 1, none⟩) x2.lt (x2.cell 1) p
  have q2 := fun (p : BW W0) => BW.cell (a := ⟨w.heap.size + 1, 2, none⟩) x2.lt (x2.cell 2) p
  simp at p0 p1 p2 q0 q1 q2
  have C1 := hide (fun (p : BW W0) => calls_bw (p := p) (v := .int .i64 x) (by rw [← hx]; exact class_any a p.x))
  have C2 := hide (fun (p : BW W0) => calls_bw (p := p) (v := .int .i64 y) (by rw [← hy]; exact class_any b p.x))
  clear hx hy x1 x2
  have HB := hide hB
  clear hB
  obtain ⟨p, hp⟩ : ∃ p : BW W0, p.x = W0 := ⟨⟨W0, Below.refl _ _⟩, rfl⟩
  rw [← hp]
  clear hp
  subst e1
  subst e2
  have n1 : ((2 : Int) != 2) = false := rfl
  (refine wp_region_quiet_bwp (by kernel_rfl) (by kernel_rfl) ?_
   repeat (first | go_big_quiet_step ((first | (go_at_call 183; with_reducible exact C1.out _) | (go_at_call 183; with_reducible exact C2.out _))) | quiet_step ((first | (go_at_call 183; with_reducible exact C1.out _) | (go_at_call 183; with_reducible exact C2.out _))))
   refine wpQuiet_nil ?_
   intro wq hw'
   obtain ⟨q, hw''⟩ := hw'
   subst hw'')
  go_wp2_with (go_at_call 183; (first | (with_reducible refine (C1.out _).mono ?_; skip; rintro e w' ⟨rfl, q, rfl⟩) | (with_reducible refine (C2.out _).mono ?_; skip; rintro e w' ⟨rfl, q, rfl⟩)))
  go_ret
  exact ⟨rfl, bstep HB.out (BW.h _)⟩
end

section
open Go.RowKit
attribute [local go_sem] Oper.semAt_some
set_option maxRecDepth 100000 in
set_option maxHeartbeats 40000000 in
theorem RCV_h (a b : Val) (x y : Int) (w : World) (hx : cls a = x) (hy : cls b = y) (n1 : (x != y) = true) (h : x < y) :
    Calls Tryz.prog 131 #[.agg #[.int .i64 a.k, .int .i64 a.n, .string a.s], .agg #[.int .i64 b.k, .int .i64 b.n, .string b.s]] w (RetV w (.int .i64 (-1))) := by
  have hB := below_two (w := w) (.cells #[.int .i64 a.k, .int .i64 a.n, .string a.s] 102) (.cells #[.int .i64 b.k, .int .i64 b.n, .string b.s] 102)
  have x1 := (Blk.new w 102 #[.int .i64 a.k, .int .i64 a.n, .string a.s]).alloc (.cells #[.int .i64 b.k, .int .i64 b.n, .string b.s] 102)
  have x2 := Blk.new (w.alloc (.cells #[.int .i64 a.k, .int .i64 a.n, .string a.s] 102)) 102 #[.int .i64 b.k, .int .i64 b.n, .string b.s]
  rw [World.size_alloc] at x2
  go_enter Tryz.func131, Tryz.ntmps131
  go_wp2_with fail
  obtain ⟨W0, hW0⟩ : ∃ W0, (w.alloc (.cells #[.int .i64 a.k, .int .i64 a.n, .string a.s] 102)).alloc (.cells #[.int .i64 b.k, .int .i64 b.n, .string b.s] 102) = W0 := ⟨_, rfl⟩
  rw [hW0] at hB x1 x2 ⊢
  clear hW0
  have p0 := fun (p : BW W0) => BW.cell (a := ⟨w.heap.size, 0, none⟩) x1.lt (x1.cell 0) p
  have p1 := fun (p : BW W0) => BW.cell (a := ⟨w.heap.size, 1, none⟩) x1.lt (x1.cell 1) p
  have p2 := fun (p : BW W0) => BW.cell (a := ⟨w.heap.size, 2, none⟩) x1.lt (x1.cell 2) p
  have q0 := fun (p : BW W0) => BW.cell (a := ⟨w.heap.size + 1, 0, none⟩) x2.lt (x2.cell 0) p
  have q1 := fun (p : BW W0) => BW.cell (a := ⟨w.heap.size + 1, 1, none⟩) x2.lt (x2.cell 1) p
  have q2 := fun (p : BW W0) => BW.cell (a := ⟨w.heap.size + 1, 2, none⟩) x2.lt (x2.cell 2) p
  simp at p0 p1 p2 q0 q1 q2
  have C1 := hide (fun (p : BW W0) => calls_bw (p := p) (v := .int .i64 x) (by rw [← hx]; exact class_any a p.x))
  have C2 := hide (fun (p : BW W0) => calls_bw (p := p) (v := .int .i64 y) (by rw [← hy]; exact class_any b p.x))
  clear hx hy x1 x2
  have HB := hide hB
  clear hB
  obtain ⟨p, hp⟩ : ∃ p : BW W0, p.x = W0 := ⟨⟨W0, Below.refl _ _⟩, rfl⟩
  rw [← hp]
  clear hp
  (refine wp_region_quiet_bwp (by kernel_rfl) (by kernel_rfl) ?_
   repeat (first | go_big_quiet_step ((first | (go_at_call 183; with_reducible exact C1.out _) | (go_at_call 183; with_reducible exact C2.out _))) | quiet_step ((first | (go_at_call 183; with_reducible exact C1.out _) | (go_at_call 183; with_reducible exact C2.out _))))
   refine wpQuiet_nil ?_
   intro wq hw'
   obtain ⟨q, hw''⟩ := hw'
   subst hw'')
  go_wp2_with fail
  (refine wp_region_quiet_bwp (by kernel_rfl) (by kernel_rfl) ?_
   repeat (first | go_big_quiet_step ((first | (go_at_call 183; with_reducible exact C1.out _) | (go_at_call 183; with_reducible exact C2.out _))) | quiet_step ((first | (go_at_call 183; with_reducible exact C1.out _) | (go_at_call 183; with_reducible exact C2.out _))))
   refine wpQuiet_nil ?_
   intro wq hw'
   obtain ⟨q, hw''⟩ := hw'
   subst hw'')
  go_wp2
  go_ret
  exact ⟨rfl, bstep HB.out (BW.h _)⟩
end

section
open Go.RowKit
attribute [local go_sem] Oper.semAt_some
set_option maxRecDepth 100000 in
set_option maxHeartbeats 40000000 in
theorem RCV_i (a b : Val) (x y : Int) (w : World) (hx : cls a = x) (hy : cls b = y) (n1 : (x != y) = true) (h : ¬ x < y) :
    Calls Tryz.prog 131 #[.agg #[.int .i64 a.k, .int .i64 a.n, .string a.s], .agg #[.int .i64 b.k, .int .i64 b.n, .string b.s]] w (RetV w (.int .i64 (1))) := by
  have hB := below_two (w := w) (.cells #[.int .i64 a.k, .int .i64 a.n, .string a.s] 102) (.cells #[.int .i64 b.k, .int .i64 b.n, .string b.s] 102)
  have x1 := (Blk.new w 102 #[.int .i64 a.k, .int .i64 a.n, .string a.s]).alloc (.cells #[.int .i64 b.k, .int .i64 b.n, .string b.s] 102)
  have x2 := Blk.new (w.alloc (.cells #[.int .i64 a.k, .int .i64 a.n, .string a.s] 102)) 102 #[.int .i64 b.k, .int .i64 b.n, .string b.s]
  rw [World.size_alloc] at x2
  go_enter Tryz.func131, Tryz.ntmps131
  go_wp2_with fail
  obtain ⟨W0, hW0⟩ : ∃ W0, (w.alloc (.cells #[.int .i64 a.k, .int .i64 a.n, .string a.s] 102)).alloc (.cells #[.int .i64 b.k, .int .i64 b.n, .string b.s] 102) = W0 := ⟨_, rfl⟩
  rw [hW0] at hB x1 x2 ⊢
  clear hW0
  have p0 := fun (p : BW W0) => BW.cell (a := ⟨w.heap.size, 0, none⟩) x1.lt (x1.cell 0) p
  have p1 := fun (p : BW W0) => BW.cell (a := ⟨w.heap.size, 1, none⟩) x1.lt (x1.cell 1) p
  have p2 := fun (p : BW W0) => BW.cell (a := ⟨w.heap.size, 2, none⟩) x1.lt (x1.cell 2) p
  have q0 := fun (p : BW W0) => BW.cell (a := ⟨w.heap.size + 1, 0, none⟩) x2.lt (x2.cell 0) p
  have q1 := fun (p : BW W0) => BW.cell (a := ⟨w.heap.size + 1, 1, none⟩) x2.lt (x2.cell 1) p
  have q2 := fun (p : BW W0) => BW.cell (a := ⟨w.heap.size + 1, 2, none⟩) x2.lt (x2.cell 2) p
  simp at p0 p1 p2 q0 q1 q2
  have C1 := hide (fun (p : BW W0) => calls_bw (p := p) (v := .int .i64 x) (by rw [← hx]; exact class_any a p.x))
  have C2 := hide (fun (p : BW W0) => calls_bw (p := p) (v := .int .i64 y) (by rw [← hy]; exact class_any b p.x))
  clear hx hy x1 x2
  have HB := hide hB
  clear hB
  obtain ⟨p, hp⟩ : ∃ p : BW W0, p.x = W0 := ⟨⟨W0, Below.refl _ _⟩, rfl⟩
  rw [← hp]
  clear hp
  (refine wp_region_quiet_bwp (by kernel_rfl) (by kernel_rfl) ?_
   repeat (first | go_big_quiet_step ((first | (go_at_call 183; with_reducible exact C1.out _) | (go_at_call 183; with_reducible exact C2.out _))) | quiet_step ((first | (go_at_call 183; with_reducible exact C1.out _) | (go_at_call 183; with_reducible exact C2.out _))))
   refine wpQuiet_nil ?_
   intro wq hw'
   obtain ⟨q, hw''⟩ := hw'
   subst hw'')
  go_wp2_with fail
  (refine wp_region_quiet_bwp (by kernel_rfl) (by kernel_rfl) ?_
   repeat (first | go_big_quiet_step ((first | (go_at_call 183; with_reducible exact C1.out _) | (go_at_call 183; with_reducible exact C2.out _))) | quiet_step ((first | (go_at_call 183; with_reducible exact C1.out _) | (go_at_call 183; with_reducible exact C2.out _))))
   refine wpQuiet_nil ?_
   intro wq hw'
   obtain ⟨q, hw''⟩ := hw'
   subst hw'')
  go_wp2
  go_ret
  exact ⟨rfl, bstep HB.out (BW.h _)⟩
end

section
open Go.RowKit
theorem RCompareValues_any (a b : Val) (w : World) : Calls Tryz.prog 131 #[.agg #[.int .i64 a.k, .int .i64 a.n, .string a.s], .agg #[.int .i64 b.k, .int .i64 b.n, .string b.s]] w (RetV w (.int .i64 (cmpV a b))) := by
  by_cases hxy : cls a = cls b
  · have HR : cmpI (cls a) (cls b) = 0 := by rw [hxy]; exact cmpI_self _
    rcases cls_cases a with h0 | h0 | h0
    · rw [cmpV_0 h0 HR]
      exact RCV_a a b _ _ w rfl rfl h0 (by rw [← hxy, h0])
    · rw [cmpV_1 h0 HR]
      unfold cmpI
      split
      · exact RCV_b a b _ _ w rfl rfl h0 (by rw [← hxy, h0]) (by assumption)
      · split
        · exact RCV_c a b _ _ w rfl rfl h0 (by rw [← hxy, h0]) (by assumption)
        · exact RCV_d a b _ _ w rfl rfl h0 (by rw [← hxy, h0]) (by assumption) (by assumption)
    · rw [cmpV_2 h0 HR]
      unfold cmpS
      by_cases h1 : ltS a.s b.s
      · rw [if_pos h1]
        exact RCV_e a b _ _ w rfl rfl h0 (by rw [← hxy, h0]) (less_yes h1)
      · by_cases h2 : ltS b.s a.s
        · rw [if_neg h1, if_pos h2]
          exact RCV_f a b _ _ w rfl rfl h0 (by rw [← hxy, h0]) (less_no h1) (by rw [str_eq0]; exact decide_eq_false fun e => h1 (by rw [← e] at h2; rw [← e]; exact h2))
        · rw [if_neg h1, if_neg h2]
          exact RCV_g a b _ _ w rfl rfl h0 (by rw [← hxy, h0]) (less_no h1) (by rw [str_eq0]; exact decide_eq_true (ltS_eq h1 h2))
  · have h : cmpI (cls a) (cls b) = if cls a < cls b then -1 else if cls b < cls a then 1 else 0 := rfl
    by_cases h1 : cls a < cls b
    · rw [cmpV_ne (by rw [h, if_pos h1]; omega), h, if_pos h1]
      exact RCV_h a b _ _ w rfl rfl (by simpa using hxy) h1
    · have h2 : cls b < cls a := by omega
      rw [cmpV_ne (by rw [h, if_neg h1, if_pos h2]; omega), h, if_neg h1, if_pos h2]
      exact RCV_i a b _ _ w rfl rfl (by simpa using hxy) h1
end

section
open Go.RowKit
attribute [local go_sem] Oper.semAt_some

set_option maxRecDepth 100000 in
set_option maxHeartbeats 4000000 in
theorem R2Valid_any (A : Option Addr) (n c B : Nat) (r : Rw) (w : World) (hr : Reads w B 3 A n (r.flatMap encV)) (hB : B ≤ w.heap.size) (hn : n ≤ 9223372036854775807) :
    Calls Tryz.prog 83 #[.slice A n c] w (RetV w (.bool (okR r))) := by
  have HL := hide (hr.len encV_len (by omega))
  have ho := okR_any r
  rw [HL.out] at ho
  have HO := hide ho
  clear ho
  go_enter Tryz.func83, Tryz.ntmps83
  go_wp2_with fail
  go_loopw [3] (fun i wr => ∃ k : Nat, k ≤ n ∧ i = .int .i64 k ∧ (r.take k).any (fun v => !okV v) = false ∧ Below w.heap.size w wr) (fun i _ => n - (intOf i).toNat)
  case atStart => exact ⟨0, Nat.zero_le _, rfl, rfl, Below.refl _ _⟩
  case round =>
    obtain ⟨k, hk, rfl, hany, hBw⟩ := hrel
    have HA := hide hany
    clear hany
    by_cases hlt : k < n
    · obtain ⟨b, off, e, rfl, hb, hek, hce⟩ := (hr.more hB).below hBw |>.elem encV_len HL.out hlt
      have HEK := hide hek
      have e0 : wr.cell? ⟨b, off + k * 3, none⟩ = some (.int .i64 e.k) := by simpa using hce 0 _ rfl
      have e1 : wr.cell? ⟨b, off + k * 3 + 1, none⟩ = some (.int .i64 e.n) := by simpa [← Nat.add_assoc] using hce 1 _ rfl
      have e2 : wr.cell? ⟨b, off + k * 3 + 2, none⟩ = some (.string e.s) := by simpa [← Nat.add_assoc] using hce 2 _ rfl
      clear hce hek
      have q1 : (0 : Int) ≤ (k : Int) := by omega
      have q2 : (k : Int) < (n : Int) := by omega
      go_wp2_with fail
      refine (RValidValue_any e wr).mono ?_
      rintro ee w1 ⟨rfl, hB1⟩
      have hB2 := bstep hBw hB1
      cases hq : okV e
      · have HX := hide (show okR r = false from by
          rw [HO.out, List.any_eq_true.2 ⟨e, List.mem_of_getElem? HEK.out, by rw [hq]; rfl⟩]; simp)
        clear hq hB1 hBw e0 e1 e2
        go_wp2
        go_ret
        exact ⟨ret_bool HX.out.symm, hB2⟩
      · have HX := hide (any_take' (p := fun v => !okV v) HEK.out (by rw [hq]; rfl) HA.out)
        clear hq hB1 hBw e0 e1 e2
        go_wp2
        go_roundw
        case rel => exact ⟨k + 1, by omega, by go_num, HX.out, hB2⟩
        case measure => simp [intOf]; omega
    · obtain rfl : k = n := by omega
      have HX := hide (show okR r = decide ((k : Int) ≤ 8) from by
        have := HA.out
        rw [take_all HL.out] at this
        rw [HO.out, this, Bool.eq_iff_iff]
        simp
        omega)
      go_wp2
      go_ret
      exact ⟨ret_bool HX.out.symm, hBw⟩

set_option maxRecDepth 100000 in
set_option maxHeartbeats 8000000 in
theorem R2Compare_any (A : Option Addr) (n c : Nat) (x : Rw) (A' : Option Addr) (n' c' : Nat) (y : Rw) (w : World) (hx : Reads w w.heap.size 3 A n (x.flatMap encV)) (hy : Reads w w.heap.size 3 A' n' (y.flatMap encV)) (hn : n ≤ 9223372036854775807) :
    Calls Tryz.prog 106 #[.slice A n c, .slice A' n' c'] w (RetV w (.int .i64 (cmpR x y))) := by
  have HL := hide (hx.len encV_len (by omega))
  have HL' := hide (hy.len encV_len (by omega))
  go_enter Tryz.func106, Tryz.ntmps106
  go_wp2_with fail
  go_loopw [5] (fun i wr => ∃ k : Nat, k ≤ n ∧ i = .int .i64 k ∧ (∀ i, i < k → ∃ a b, x[i]? = some a ∧ y[i]? = some b ∧ cmpV a b = 0) ∧ Below w.heap.size w wr) (fun i _ => n - (intOf i).toNat)
  case atStart => exact ⟨0, Nat.zero_le _, rfl, fun i hi => absurd hi (Nat.not_lt_zero _), Below.refl _ _⟩
  case round =>
    obtain ⟨k, hk, rfl, heq, hBw⟩ := hrel
    have HE := hide heq
    clear heq
    by_cases hlt : k < n
    · have q1 : (0 : Int) ≤ (k : Int) := by omega
      have q2 : (k : Int) < (n : Int) := by omega
      by_cases hlt' : k < n'
      · obtain ⟨b, off, e, rfl, hb, hek, hce⟩ := hx.below hBw |>.elem encV_len HL.out hlt
        have HEK := hide hek
        have e0 := fun (p : BW wr) => BW.cell (a := ⟨b, off + k * 3, none⟩) (Nat.lt_of_lt_of_le hb hBw.size) (v := .int .i64 e.k) (by simpa using hce 0 _ rfl) p
        have e1 := fun (p : BW wr) => BW.cell (a := ⟨b, off + k * 3 + 1, none⟩) (Nat.lt_of_lt_of_le hb hBw.size) (v := .int .i64 e.n) (by simpa [← Nat.add_assoc] using hce 1 _ rfl) p
        have e2 := fun (p : BW wr) => BW.cell (a := ⟨b, off + k * 3 + 2, none⟩) (Nat.lt_of_lt_of_le hb hBw.size) (v := .string e.s) (by simpa [← Nat.add_assoc] using hce 2 _ rfl) p
        clear hce hek
        obtain ⟨b', off', e', rfl, hb', hek', hce'⟩ := hy.below hBw |>.elem encV_len HL'.out hlt'
        have HEK' := hide hek'
        have f0 := fun (p : BW wr) => BW.cell (a := ⟨b', off' + k * 3, none⟩) (Nat.lt_of_lt_of_le hb' hBw.size) (v := .int .i64 e'.k) (by simpa using hce' 0 _ rfl) p
        have f1 := fun (p : BW wr) => BW.cell (a := ⟨b', off' + k * 3 + 1, none⟩) (Nat.lt_of_lt_of_le hb' hBw.size) (v := .int .i64 e'.n) (by simpa [← Nat.add_assoc] using hce' 1 _ rfl) p
        have f2 := fun (p : BW wr) => BW.cell (a := ⟨b', off' + k * 3 + 2, none⟩) (Nat.lt_of_lt_of_le hb' hBw.size) (v := .string e'.s) (by simpa [← Nat.add_assoc] using hce' 2 _ rfl) p
        clear hce' hek'
        have q3 : (k : Int) < (n' : Int) := by omega
        obtain ⟨z, hz⟩ : ∃ z, cmpV e e' = z := ⟨_, rfl⟩
        have C1 := hide (fun (p : BW wr) => calls_bw (p := p) (v := .int .i64 z) (by rw [← hz]; exact RCompareValues_any e e' p.x))
        by_cases hc : z = 0
        · subst hc
          have HX := hide (show ∀ i, i < k + 1 → ∃ a b, x[i]? = some a ∧ y[i]? = some b ∧ cmpV a b = 0 from fun i hi => by
            by_cases h : i = k
            · subst h; exact ⟨e, e', HEK.out, HEK'.out, hz⟩
            · exact HE.out i (by omega))
          clear hz
          go_wp2_with fail
          (refine wp_region_quiet_bw (by kernel_rfl) (by kernel_rfl) ?_
           repeat (first | go_big_quiet_step (((go_at_call 131; with_reducible exact C1.out _))) | quiet_step (((go_at_call 131; with_reducible exact C1.out _))))
           refine wpQuiet_nil ?_
           intro wq hw'
           obtain ⟨⟨_, hbq⟩, hw''⟩ := hw'
           subst hw'')
          have HB := hide (hBw.trans (hbq.mono hBw.size))
          clear hbq hBw e0 e1 e2 f0 f1 f2 C1
          go_wp2
          go_roundw
          case rel => exact ⟨k + 1, by omega, by go_num, HX.out, HB.out⟩
          case measure => simp [intOf]; omega
        · have HX := hide (show cmpR x y = z from by rw [← hz]; exact cmpR_at HE.out HEK.out HEK'.out (by rw [hz]; exact hc))
          have n1 : (z != 0) = true := by simpa using hc
          clear hc hz
          go_wp2_with fail
          (refine wp_region_quiet_bw (by kernel_rfl) (by kernel_rfl) ?_
           repeat (first | go_big_quiet_step (((go_at_call 131; with_reducible exact C1.out _))) | quiet_step (((go_at_call 131; with_reducible exact C1.out _))))
           refine wpQuiet_nil ?_
           intro wq hw'
           obtain ⟨⟨_, hbq⟩, hw''⟩ := hw'
           subst hw'')
          have HB := hide (hBw.trans (hbq.mono hBw.size))
          clear hbq hBw e0 e1 e2 f0 f1 f2 C1
          go_wp2
          go_ret
          exact ⟨ret_int HX.out.symm, HB.out⟩
      · have HX := hide (cmpR_gt HE.out (by rw [HL.out]; exact hlt) (by rw [HL'.out]; omega))
        have z1 : ¬ ((n : Int) < (n' : Int)) := by omega
        have z2 : (n' : Int) < (n : Int) := by omega
        have z3 : ¬ ((k : Int) < (n' : Int)) := by omega
        go_wp2
        go_ret
        exact ⟨ret_int HX.out.symm, hBw⟩
    · obtain rfl : k = n := by omega
      have HX := hide (cmpR_end HE.out (by rw [HL.out]; exact Nat.le_refl _))
      by_cases h : k < n'
      · have HY := hide (show cmpR x y = -1 from by rw [HX.out, if_pos (by rw [HL'.out]; exact h)])
        have z1 : (k : Int) < (n' : Int) := by omega
        go_wp2
        go_ret
        exact ⟨ret_int HY.out.symm, hBw⟩
      · by_cases h2 : n' < k
        · exact absurd h2 (fun h2 => by
            obtain ⟨a, b, _, hb, _⟩ := HE.out n' h2
            rw [List.getElem?_eq_none (by rw [HL'.out]; exact Nat.le_refl _)] at hb
            cases hb)
        · have HY := hide (show cmpR x y = 0 from by rw [HX.out, if_neg (by rw [HL'.out]; exact h)])
          have z1 : ¬ ((k : Int) < (n' : Int)) := by omega
          have z2 : ¬ ((n' : Int) < (k : Int)) := by omega
          go_wp2
          go_ret
          exact ⟨ret_int HY.out.symm, hBw⟩

end

end Go.Proofs.YtoapjidpfghnlaaGreatDoor
