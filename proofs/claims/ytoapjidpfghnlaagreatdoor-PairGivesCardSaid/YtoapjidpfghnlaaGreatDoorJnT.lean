/-
  The walks of a joiner's comparison of changes and of the closures of Left and Right. No condition. (Printed by gen_jnT.)
-/
import Derived.Test.YtoapjidpfghnlaaGreatDoorJnA
import Derived.Test.YtoapjidpfghnlaaGreatDoorSrtC
import Derived.Test.YtoapjidpfghnlaaGreatDoorPrO
import Derived.Test.YtoapjidpfghnlaaGreatDoorPrC
import Derived.Test.YtoapjidpfghnlaaGreatDoorCcV
namespace Go.Proofs.YtoapjidpfghnlaaGreatDoor
open Go.RowKit
attribute [local go_sem] Oper.semAt_some wide_fn wide_depth
set_option linter.unusedVariables false
set_option linter.unusedSimpArgs false

set_option maxRecDepth 100000 in
set_option maxHeartbeats 4000000 in
theorem tellc_g (x y : Ch) (w : World) (hx : RowK w w.heap.size x.A x.n x.r) (hy : RowK w w.heap.size y.A y.n y.r) :
    Calls Tryz.prog 154 #[.agg #[.int .i64 x.t, .slice x.A x.n x.c, .int .i64 x.m], .agg #[.int .i64 y.t, .slice y.A y.n y.c, .int .i64 y.m]] w (RetG w (.int .i64 (cmpT (thC x) (thC y)))) := by
  have hB := gb_two (w := w) (.cells #[.int .i64 x.t, .slice x.A x.n x.c, .int .i64 x.m] 57) (.cells #[.int .i64 y.t, .slice y.A y.n y.c, .int .i64 y.m] 57)
  have k1 := (Blk.new w 57 #[.int .i64 x.t, .slice x.A x.n x.c, .int .i64 x.m]).alloc (.cells #[.int .i64 y.t, .slice y.A y.n y.c, .int .i64 y.m] 57)
  have k2 := Blk.new (w.alloc (.cells #[.int .i64 x.t, .slice x.A x.n x.c, .int .i64 x.m] 57)) 57 #[.int .i64 y.t, .slice y.A y.n y.c, .int .i64 y.m]
  rw [World.size_alloc] at k2
  have hx1 := (hx.below hB.b).mono hB.size
  have hy1 := (hy.below hB.b).mono hB.size
  obtain ⟨v, hv⟩ : ∃ v, cmpT (thC x) (thC y) = v := ⟨_, rfl⟩
  rw [hv]
  have HV := hide hv
  clear hv hx hy
  go_enter Tryz.func154, Tryz.ntmps154
  go_upto_region 1 with fail
  obtain ⟨W, hW⟩ : ∃ W, (w.alloc (.cells #[.int .i64 x.t, .slice x.A x.n x.c, .int .i64 x.m] 57)).alloc (.cells #[.int .i64 y.t, .slice y.A y.n y.c, .int .i64 y.m] 57) = W := ⟨_, rfl⟩
  obtain ⟨bx, hbx⟩ : ∃ bx, w.heap.size = bx := ⟨_, rfl⟩
  rw [hW] at hB k1 k2 hx1 hy1 ⊢
  rw [hbx] at k1 k2 ⊢
  clear hW
  refine Held.begin (fun z => z.cell? ⟨bx, 0, none⟩ = some (.int .i64 x.t) ∧ z.cell? ⟨bx, 1, none⟩ = some (.slice x.A x.n x.c) ∧ z.cell? ⟨bx + 1, 0, none⟩ = some (.int .i64 y.t) ∧ z.cell? ⟨bx + 1, 1, none⟩ = some (.slice y.A y.n y.c)) 12 (by kernel_rfl) ?_
  obtain ⟨X1, hX1⟩ : ∃ X1, W.drew = X1 := ⟨_, rfl⟩
  have hD : GB W.heap.size W X1 := by rw [← hX1]; exact (GB.refl _ _).drew
  rw [hX1]
  have hB1 := gstep hB hD
  have hx2 := (hx1.below hD.b).mono hD.size
  have hy2 := (hy1.below hD.b).mono hD.size
  have k3 := k1.below hD.b k1.lt
  have k4 := k2.below hD.b k2.lt
  have hS : X1.cell? ⟨bx, 0, none⟩ = some (.int .i64 x.t) ∧ X1.cell? ⟨bx, 1, none⟩ = some (.slice x.A x.n x.c) ∧ X1.cell? ⟨bx + 1, 0, none⟩ = some (.int .i64 y.t) ∧ X1.cell? ⟨bx + 1, 1, none⟩ = some (.slice y.A y.n y.c) := ⟨by simpa using k3.cell 0, by simpa using k3.cell 1, by simpa using k4.cell 0, by simpa using k4.cell 1⟩
  clear hX1 hD k1 k2 hx1 hy1 hB
  refine Held.take (i := 0) (.pointer (some ⟨bx, 1, none⟩)) rfl hS (by kernel_rfl) (by kernel_rfl) (by kernel_rfl) (by kernel_rfl) (fun _ _ _ h => h) rfl (fun y hy => by obtain ⟨x1, x2, x3, x4⟩ := hy; go_simp) ?_
  try simp only [Act.put]
  refine Held.take (i := 1) (.slice x.A x.n x.c) rfl hS (by kernel_rfl) (by kernel_rfl) (by kernel_rfl) (by kernel_rfl) (fun _ _ _ h => h) rfl (fun y hy => by obtain ⟨x1, x2, x3, x4⟩ := hy; go_simp) ?_
  try simp only [Act.put]
  refine Held.take (i := 2) (.pointer (some ⟨bx + 1, 1, none⟩)) rfl hS (by kernel_rfl) (by kernel_rfl) (by kernel_rfl) (by kernel_rfl) (fun _ _ _ h => h) rfl (fun y hy => by obtain ⟨x1, x2, x3, x4⟩ := hy; go_simp) ?_
  try simp only [Act.put]
  refine Held.take (i := 3) (.slice y.A y.n y.c) rfl hS (by kernel_rfl) (by kernel_rfl) (by kernel_rfl) (by kernel_rfl) (fun _ _ _ h => h) rfl (fun y hy => by obtain ⟨x1, x2, x3, x4⟩ := hy; go_simp) ?_
  try simp only [Act.put]
  refine Held.take (i := 5) (.pointer (some ⟨bx, 0, none⟩)) rfl hS (by kernel_rfl) (by kernel_rfl) (by kernel_rfl) (by kernel_rfl) (fun _ _ _ h => h) rfl (fun y hy => by obtain ⟨x1, x2, x3, x4⟩ := hy; go_simp) ?_
  try simp only [Act.put]
  refine Held.take (i := 6) (.int .i64 x.t) rfl hS (by kernel_rfl) (by kernel_rfl) (by kernel_rfl) (by kernel_rfl) (fun _ _ _ h => h) rfl (fun y hy => by obtain ⟨x1, x2, x3, x4⟩ := hy; go_simp) ?_
  try simp only [Act.put]
  refine Held.take (i := 7) (.pointer (some ⟨bx + 1, 0, none⟩)) rfl hS (by kernel_rfl) (by kernel_rfl) (by kernel_rfl) (by kernel_rfl) (fun _ _ _ h => h) rfl (fun y hy => by obtain ⟨x1, x2, x3, x4⟩ := hy; go_simp) ?_
  try simp only [Act.put]
  refine Held.take (i := 8) (.int .i64 y.t) rfl hS (by kernel_rfl) (by kernel_rfl) (by kernel_rfl) (by kernel_rfl) (fun _ _ _ h => h) rfl (fun y hy => by obtain ⟨x1, x2, x3, x4⟩ := hy; go_simp) ?_
  try simp only [Act.put]
  refine Held.one (i := 4) rfl (by kernel_rfl) rfl (fun K hK => ?_)
  unfold Oper.wp
  go_simp
  refine (Compare_g x.A x.n x.c x.r y.A y.n y.c y.r X1 hx2.rd hy2.rd hx2.le).mono ?_
  rintro e X2 ⟨rfl, hG2⟩
  have hB2 := gstep hB1 hG2
  have k5 := k3.below hG2.b k3.lt
  have k6 := k4.below hG2.b k4.lt
  have hS : X2.cell? ⟨bx, 0, none⟩ = some (.int .i64 x.t) ∧ X2.cell? ⟨bx, 1, none⟩ = some (.slice x.A x.n x.c) ∧ X2.cell? ⟨bx + 1, 0, none⟩ = some (.int .i64 y.t) ∧ X2.cell? ⟨bx + 1, 1, none⟩ = some (.slice y.A y.n y.c) := ⟨by simpa using k5.cell 0, by simpa using k5.cell 1, by simpa using k6.cell 0, by simpa using k6.cell 1⟩
  refine hK _ _ (fun _ => hS) ?_
  try simp only [Act.put]
  clear hK K hG2 hB1 k3 k4 hx2 hy2
  refine Held.one (i := 9) rfl (by kernel_rfl) rfl (fun K hK => ?_)
  unfold Oper.wp
  go_simp
  refine (cmpi_any x.t y.t X2).mono ?_
  rintro e X2' ⟨rfl, rfl⟩
  refine hK _ _ (fun _ => hS) ?_
  try simp only [Act.put]
  clear hK K
  refine Held.one (i := 10) rfl (by kernel_rfl) rfl (fun K hK => ?_)
  unfold Oper.wp
  go_simp
  have hB3 := gb_val (w := X2) #[.int .i64 (cmpR x.r y.r), .int .i64 (cmpI x.t y.t)] 3
  have kz := Blk.new X2 3 #[.int .i64 (cmpR x.r y.r), .int .i64 (cmpI x.t y.t)]
  have k7 := k5.below hB3.b k5.lt
  have k8 := k6.below hB3.b k6.lt
  have hB4 := gstep hB2 hB3
  obtain ⟨X3, hX3⟩ : ∃ X3, X2.alloc (.cells #[.int .i64 (cmpR x.r y.r), .int .i64 (cmpI x.t y.t)] 3) = X3 := ⟨_, rfl⟩
  rw [hX3] at kz k7 k8 hB4 ⊢
  have hS : X3.cell? ⟨bx, 0, none⟩ = some (.int .i64 x.t) ∧ X3.cell? ⟨bx, 1, none⟩ = some (.slice x.A x.n x.c) ∧ X3.cell? ⟨bx + 1, 0, none⟩ = some (.int .i64 y.t) ∧ X3.cell? ⟨bx + 1, 1, none⟩ = some (.slice y.A y.n y.c) := ⟨by simpa using k7.cell 0, by simpa using k7.cell 1, by simpa using k8.cell 0, by simpa using k8.cell 1⟩
  refine hK _ _ (fun _ => hS) ?_
  try simp only [Act.put]
  clear hK K hX3 hB3 hB2 k5 k6 k7 k8
  refine Held.one (i := 11) rfl (by kernel_rfl) rfl (fun K hK => ?_)
  unfold Oper.wp
  go_simp
  refine (OrI_any X2.heap.size (cmpR x.r y.r) (cmpI x.t y.t) X3 (by simpa using kz.cell 0) (by simpa using kz.cell 1)).mono ?_
  rintro e X4 ⟨rfl, rfl⟩
  refine hK _ _ (fun _ => hS) ?_
  try simp only [Act.put]
  clear hK K kz
  have HX := hide (show thenC (cmpR x.r y.r) (cmpI x.t y.t) = v from HV.out)
  rw [HX.out]
  refine Held.one (i := 12) rfl (by kernel_rfl) rfl (fun K hK => ?_)
  unfold Oper.wp
  go_simp
  refine hK _ _ (fun _ => hS) ?_
  try simp only [Act.put]
  clear hK K
  refine Held.done (by kernel_rfl) ?_
  clear hS
  go_wp2
  go_ret
  exact ⟨rfl, hB4⟩
/-- What a closure hands back: a row of its own, and whether it meets. -/
def RetPr (w : World) (n : Nat) (r : Rw) (b : Bool) (e : Ending) (w' : World) : Prop := ∃ A c, e = .returned (.tuple #[.slice A n c, .bool b]) ∧ w'.ownsRow w.heap.size 102 3 (.slice A n c) n (r.flatMap encV) ∧ Below w.heap.size w w'
set_option maxRecDepth 100000 in
set_option maxHeartbeats 4000000 in
theorem jLeft1_any (cb jx jb : Nat) (Ar : Option Addr) (nr cr : Nat) (t m : Int) (x : Rw) (h : Hd) (lo hi : Int) (w : World)
    (c0 : w.cell? ⟨cb, 0, none⟩ = some (.int .i64 t)) (c1 : w.cell? ⟨cb, 1, none⟩ = some (.slice Ar nr cr)) (j0 : w.cell? ⟨jx, 0, none⟩ = some (.pointer (some ⟨jb, 0, none⟩))) (j4 : w.cell? ⟨jb, 4, none⟩ = some (.int .i64 lo)) (j5 : w.cell? ⟨jb, 5, none⟩ = some (.int .i64 hi))
    (hr : RowK w w.heap.size Ar nr x) (hh : RowK w w.heap.size h.A h.n h.r) (hnr : nr ≤ 60) (hnh : h.n ≤ 60) (ht : -1000000000000 ≤ t ∧ t ≤ 1000000000000) (hht : -1000000000000 ≤ h.t ∧ h.t ≤ 1000000000000) :
    Calls Tryz.prog 108 #[.agg #[.int .i64 h.t, .int .i64 h.m, .slice h.A h.n h.c], .pointer (some ⟨cb, 0, none⟩), .pointer (some ⟨jx, 0, none⟩)] w (RetPr w (nr + h.n) (jnT true ⟨t, m, x⟩ (thD h)).r (btw (dtT true ⟨t, m, x⟩ (thD h)) lo hi)) := by
  have hB := below_val (w := w) #[.int .i64 h.t, .int .i64 h.m, .slice h.A h.n h.c] 144
  have kb := Blk.new w 144 #[.int .i64 h.t, .int .i64 h.m, .slice h.A h.n h.c]
  have hw1 : IntKind.i64.wrap (h.t - t) = h.t - t := by rw [IntKind.wrap_i64]; omega
  obtain ⟨D, hD⟩ : ∃ D, h.t - t = D := ⟨_, rfl⟩
  rw [hD] at hw1
  have HBT := hide (show btw D lo hi = btw (dtT true ⟨t, m, x⟩ (thD h)) lo hi by rw [← hD]; rfl)
  have c0 := (hB.cell (World.block_lt_of_cell? _ _ c0)).trans c0
  have c1 := (hB.cell (World.block_lt_of_cell? _ _ c1)).trans c1
  have j0 := (hB.cell (World.block_lt_of_cell? _ _ j0)).trans j0
  have j4 := (hB.cell (World.block_lt_of_cell? _ _ j4)).trans j4
  have j5 := (hB.cell (World.block_lt_of_cell? _ _ j5)).trans j5
  have hr1 := (hr.below hB).mono hB.size
  have hh1 := (hh.below hB).mono hB.size
  clear hr hh
  go_enter Tryz.func108, Tryz.ntmps108
  go_upto_region 1 with fail
  obtain ⟨W, hW⟩ : ∃ W, w.alloc (.cells #[.int .i64 h.t, .int .i64 h.m, .slice h.A h.n h.c] 144) = W := ⟨_, rfl⟩
  obtain ⟨bx, hbx⟩ : ∃ bx, w.heap.size = bx := ⟨_, rfl⟩
  rw [hW] at hB kb hr1 hh1 c0 c1 j0 j4 j5 ⊢
  rw [hbx] at kb ⊢
  clear hW
  refine Held.begin (fun z => z.cell? ⟨cb, 0, none⟩ = some (.int .i64 t) ∧ z.cell? ⟨cb, 1, none⟩ = some (.slice Ar nr cr) ∧ z.cell? ⟨bx, 0, none⟩ = some (.int .i64 h.t) ∧ z.cell? ⟨bx, 2, none⟩ = some (.slice h.A h.n h.c) ∧ z.cell? ⟨jx, 0, none⟩ = some (.pointer (some ⟨jb, 0, none⟩)) ∧ z.cell? ⟨jb, 4, none⟩ = some (.int .i64 lo) ∧ z.cell? ⟨jb, 5, none⟩ = some (.int .i64 hi)) 21 (by kernel_rfl) ?_
  obtain ⟨X1, hX1⟩ : ∃ X1, W.drew = X1 := ⟨_, rfl⟩
  have hDr : Below W.heap.size W X1 := by rw [← hX1]; exact (Below.refl _ _).drew
  rw [hX1]
  have hS : W.cell? ⟨cb, 0, none⟩ = some (.int .i64 t) ∧ W.cell? ⟨cb, 1, none⟩ = some (.slice Ar nr cr) ∧ W.cell? ⟨bx, 0, none⟩ = some (.int .i64 h.t) ∧ W.cell? ⟨bx, 2, none⟩ = some (.slice h.A h.n h.c) ∧ W.cell? ⟨jx, 0, none⟩ = some (.pointer (some ⟨jb, 0, none⟩)) ∧ W.cell? ⟨jb, 4, none⟩ = some (.int .i64 lo) ∧ W.cell? ⟨jb, 5, none⟩ = some (.int .i64 hi) := ⟨c0, c1, by simpa using kb.cell 0, by simpa using kb.cell 2, j0, j4, j5⟩
  have hS : X1.cell? ⟨cb, 0, none⟩ = some (.int .i64 t) ∧ X1.cell? ⟨cb, 1, none⟩ = some (.slice Ar nr cr) ∧ X1.cell? ⟨bx, 0, none⟩ = some (.int .i64 h.t) ∧ X1.cell? ⟨bx, 2, none⟩ = some (.slice h.A h.n h.c) ∧ X1.cell? ⟨jx, 0, none⟩ = some (.pointer (some ⟨jb, 0, none⟩)) ∧ X1.cell? ⟨jb, 4, none⟩ = some (.int .i64 lo) ∧ X1.cell? ⟨jb, 5, none⟩ = some (.int .i64 hi) := ⟨(hDr.cell (World.block_lt_of_cell? _ _ hS.1)).trans hS.1, (hDr.cell (World.block_lt_of_cell? _ _ hS.2.1)).trans hS.2.1, (hDr.cell (World.block_lt_of_cell? _ _ hS.2.2.1)).trans hS.2.2.1, (hDr.cell (World.block_lt_of_cell? _ _ hS.2.2.2.1)).trans hS.2.2.2.1, (hDr.cell (World.block_lt_of_cell? _ _ hS.2.2.2.2.1)).trans hS.2.2.2.2.1, (hDr.cell (World.block_lt_of_cell? _ _ hS.2.2.2.2.2.1)).trans hS.2.2.2.2.2.1, (hDr.cell (World.block_lt_of_cell? _ _ hS.2.2.2.2.2.2)).trans hS.2.2.2.2.2.2⟩
  have hB1 := bstep hB hDr
  have hr2 := (hr1.below hDr).mono hDr.size
  have hh2 := (hh1.below hDr).mono hDr.size
  clear hX1 hDr kb hr1 hh1 hB c0 c1 j0 j4 j5
  refine Held.take (i := 0) (.pointer (some ⟨cb, 1, none⟩)) rfl hS (by kernel_rfl) (by kernel_rfl) (by kernel_rfl) (by kernel_rfl) (fun _ _ _ h => h) rfl (fun y hy => by obtain ⟨x1, x2, x3, x4, x5, x6, x7⟩ := hy; go_simp) ?_
  try simp only [Act.put]
  refine Held.take (i := 1) (.slice Ar nr cr) rfl hS (by kernel_rfl) (by kernel_rfl) (by kernel_rfl) (by kernel_rfl) (fun _ _ _ h => h) rfl (fun y hy => by obtain ⟨x1, x2, x3, x4, x5, x6, x7⟩ := hy; go_simp) ?_
  try simp only [Act.put]
  refine Held.take (i := 2) (.pointer (some ⟨bx, 2, none⟩)) rfl hS (by kernel_rfl) (by kernel_rfl) (by kernel_rfl) (by kernel_rfl) (fun _ _ _ h => h) rfl (fun y hy => by obtain ⟨x1, x2, x3, x4, x5, x6, x7⟩ := hy; go_simp) ?_
  try simp only [Act.put]
  refine Held.take (i := 3) (.slice h.A h.n h.c) rfl hS (by kernel_rfl) (by kernel_rfl) (by kernel_rfl) (by kernel_rfl) (fun _ _ _ h => h) rfl (fun y hy => by obtain ⟨x1, x2, x3, x4, x5, x6, x7⟩ := hy; go_simp) ?_
  try simp only [Act.put]
  refine Held.take (i := 6) (.pointer (some ⟨bx, 0, none⟩)) rfl hS (by kernel_rfl) (by kernel_rfl) (by kernel_rfl) (by kernel_rfl) (fun _ _ _ h => h) rfl (fun y hy => by obtain ⟨x1, x2, x3, x4, x5, x6, x7⟩ := hy; go_simp) ?_
  try simp only [Act.put]
  refine Held.take (i := 7) (.int .i64 h.t) rfl hS (by kernel_rfl) (by kernel_rfl) (by kernel_rfl) (by kernel_rfl) (fun _ _ _ h => h) rfl (fun y hy => by obtain ⟨x1, x2, x3, x4, x5, x6, x7⟩ := hy; go_simp) ?_
  try simp only [Act.put]
  refine Held.take (i := 8) (.pointer (some ⟨cb, 0, none⟩)) rfl hS (by kernel_rfl) (by kernel_rfl) (by kernel_rfl) (by kernel_rfl) (fun _ _ _ h => h) rfl (fun y hy => by obtain ⟨x1, x2, x3, x4, x5, x6, x7⟩ := hy; go_simp) ?_
  try simp only [Act.put]
  refine Held.take (i := 9) (.int .i64 t) rfl hS (by kernel_rfl) (by kernel_rfl) (by kernel_rfl) (by kernel_rfl) (fun _ _ _ h => h) rfl (fun y hy => by obtain ⟨x1, x2, x3, x4, x5, x6, x7⟩ := hy; go_simp) ?_
  try simp only [Act.put]
  refine Held.take (i := 10) (.int .i64 D) rfl hS (by kernel_rfl) (by kernel_rfl) (by kernel_rfl) (by kernel_rfl) (fun _ _ _ h => h) rfl (fun y hy => by obtain ⟨x1, x2, x3, x4, x5, x6, x7⟩ := hy; rw [← hD]; go_simp) ?_
  try simp only [Act.put]
  refine Held.take (i := 11) (.pointer (some ⟨jb, 0, none⟩)) rfl hS (by kernel_rfl) (by kernel_rfl) (by kernel_rfl) (by kernel_rfl) (fun _ _ _ h => h) rfl (fun y hy => by obtain ⟨x1, x2, x3, x4, x5, x6, x7⟩ := hy; go_simp) ?_
  try simp only [Act.put]
  refine Held.take (i := 12) (.pointer (some ⟨jb, 0, none⟩)) rfl hS (by kernel_rfl) (by kernel_rfl) (by kernel_rfl) (by kernel_rfl) (fun _ _ _ h => h) rfl (fun y hy => by obtain ⟨x1, x2, x3, x4, x5, x6, x7⟩ := hy; go_simp) ?_
  try simp only [Act.put]
  refine Held.take (i := 13) (.pointer (some ⟨jb, 4, none⟩)) rfl hS (by kernel_rfl) (by kernel_rfl) (by kernel_rfl) (by kernel_rfl) (fun _ _ _ h => h) rfl (fun y hy => by obtain ⟨x1, x2, x3, x4, x5, x6, x7⟩ := hy; go_simp) ?_
  try simp only [Act.put]
  refine Held.take (i := 14) (.int .i64 lo) rfl hS (by kernel_rfl) (by kernel_rfl) (by kernel_rfl) (by kernel_rfl) (fun _ _ _ h => h) rfl (fun y hy => by obtain ⟨x1, x2, x3, x4, x5, x6, x7⟩ := hy; go_simp) ?_
  try simp only [Act.put]
  refine Held.take (i := 15) (.pointer (some ⟨jb, 0, none⟩)) rfl hS (by kernel_rfl) (by kernel_rfl) (by kernel_rfl) (by kernel_rfl) (fun _ _ _ h => h) rfl (fun y hy => by obtain ⟨x1, x2, x3, x4, x5, x6, x7⟩ := hy; go_simp) ?_
  try simp only [Act.put]
  refine Held.take (i := 16) (.pointer (some ⟨jb, 0, none⟩)) rfl hS (by kernel_rfl) (by kernel_rfl) (by kernel_rfl) (by kernel_rfl) (fun _ _ _ h => h) rfl (fun y hy => by obtain ⟨x1, x2, x3, x4, x5, x6, x7⟩ := hy; go_simp) ?_
  try simp only [Act.put]
  refine Held.take (i := 17) (.pointer (some ⟨jb, 5, none⟩)) rfl hS (by kernel_rfl) (by kernel_rfl) (by kernel_rfl) (by kernel_rfl) (fun _ _ _ h => h) rfl (fun y hy => by obtain ⟨x1, x2, x3, x4, x5, x6, x7⟩ := hy; go_simp) ?_
  try simp only [Act.put]
  refine Held.take (i := 18) (.int .i64 hi) rfl hS (by kernel_rfl) (by kernel_rfl) (by kernel_rfl) (by kernel_rfl) (fun _ _ _ h => h) rfl (fun y hy => by obtain ⟨x1, x2, x3, x4, x5, x6, x7⟩ := hy; go_simp) ?_
  try simp only [Act.put]
  refine Held.one (i := 4) rfl (by kernel_rfl) rfl (fun K hK => ?_)
  have hbr := below_val (w := X1) #[.slice Ar nr cr, .slice h.A h.n h.c] 34
  have kq := Blk.new X1 34 #[.slice Ar nr cr, .slice h.A h.n h.c]
  have hX2s : (X1.alloc (.cells #[.slice Ar nr cr, .slice h.A h.n h.c] 34)).heap.size = X1.heap.size + 1 := World.size_alloc _ _
  unfold Oper.wp
  go_simp
  obtain ⟨X2, hXe⟩ : ∃ X2, X1.alloc (.cells #[.slice Ar nr cr, .slice h.A h.n h.c] 34) = X2 := ⟨_, rfl⟩
  rw [hXe] at hbr kq hX2s ⊢
  have hS2 : X2.cell? ⟨cb, 0, none⟩ = some (.int .i64 t) ∧ X2.cell? ⟨cb, 1, none⟩ = some (.slice Ar nr cr) ∧ X2.cell? ⟨bx, 0, none⟩ = some (.int .i64 h.t) ∧ X2.cell? ⟨bx, 2, none⟩ = some (.slice h.A h.n h.c) ∧ X2.cell? ⟨jx, 0, none⟩ = some (.pointer (some ⟨jb, 0, none⟩)) ∧ X2.cell? ⟨jb, 4, none⟩ = some (.int .i64 lo) ∧ X2.cell? ⟨jb, 5, none⟩ = some (.int .i64 hi) := ⟨(hbr.cell (World.block_lt_of_cell? _ _ hS.1)).trans hS.1, (hbr.cell (World.block_lt_of_cell? _ _ hS.2.1)).trans hS.2.1, (hbr.cell (World.block_lt_of_cell? _ _ hS.2.2.1)).trans hS.2.2.1, (hbr.cell (World.block_lt_of_cell? _ _ hS.2.2.2.1)).trans hS.2.2.2.1, (hbr.cell (World.block_lt_of_cell? _ _ hS.2.2.2.2.1)).trans hS.2.2.2.2.1, (hbr.cell (World.block_lt_of_cell? _ _ hS.2.2.2.2.2.1)).trans hS.2.2.2.2.2.1, (hbr.cell (World.block_lt_of_cell? _ _ hS.2.2.2.2.2.2)).trans hS.2.2.2.2.2.2⟩
  have hr3 := (hr2.below hbr).mono hbr.size
  have hh3 := (hh2.below hbr).mono hbr.size
  have hB2 := bstep hB1 hbr
  refine hK _ _ (fun _ => hS2) ?_
  try simp only [Act.put]
  clear hK K hS hXe hbr hB1 hr2 hh2
  have hS := hS2
  clear hS2
  refine Held.one (i := 5) rfl (by kernel_rfl) rfl (fun K hK => ?_)
  unfold Oper.wp
  go_simp
  have hrd2 : Reads X2 X2.heap.size 1 (some ⟨X1.heap.size, 0, none⟩) 2 [.slice Ar nr cr, .slice h.A h.n h.c] := ⟨rfl, fun _ => ⟨X1.heap.size, 0, rfl, by omega, fun j u hu => by rw [Nat.zero_add, kq.cell j]; simpa using hu⟩⟩
  refine (ConcatV_any (some ⟨X1.heap.size, 0, none⟩) 2 2 [⟨Ar, nr, cr, x⟩, ⟨h.A, h.n, h.c, h.r⟩] X2 ⟨hrd2, fun r hr => by
    rcases List.mem_cons.1 hr with rfl | hr
    · exact hr3.rd
    · obtain rfl : r = ⟨h.A, h.n, h.c, h.r⟩ := by simpa using hr
      exact hh3.rd⟩ (by omega) (fun r hr => by
    rcases List.mem_cons.1 hr with rfl | hr
    · show _ ≤ 60; dsimp only; omega
    · obtain rfl : r = ⟨h.A, h.n, h.c, h.r⟩ := by simpa using hr
      show _ ≤ 60; dsimp only; omega)).mono ?_
  have hlv : lenV [⟨Ar, nr, cr, x⟩, ⟨h.A, h.n, h.c, h.r⟩] = nr + h.n := by simp [lenV]
  have hav : allV [⟨Ar, nr, cr, x⟩, ⟨h.A, h.n, h.c, h.r⟩] = (jnT true ⟨t, m, x⟩ (thD h)).r := by simp [allV, jnT, thD]
  rw [hlv, hav]
  clear hlv hav hrd2 kq hX2s
  rintro e X3 ⟨Ac, cc, rfl, hown3, hb3⟩
  have hS2 : X3.cell? ⟨cb, 0, none⟩ = some (.int .i64 t) ∧ X3.cell? ⟨cb, 1, none⟩ = some (.slice Ar nr cr) ∧ X3.cell? ⟨bx, 0, none⟩ = some (.int .i64 h.t) ∧ X3.cell? ⟨bx, 2, none⟩ = some (.slice h.A h.n h.c) ∧ X3.cell? ⟨jx, 0, none⟩ = some (.pointer (some ⟨jb, 0, none⟩)) ∧ X3.cell? ⟨jb, 4, none⟩ = some (.int .i64 lo) ∧ X3.cell? ⟨jb, 5, none⟩ = some (.int .i64 hi) := ⟨(hb3.cell (World.block_lt_of_cell? _ _ hS.1)).trans hS.1, (hb3.cell (World.block_lt_of_cell? _ _ hS.2.1)).trans hS.2.1, (hb3.cell (World.block_lt_of_cell? _ _ hS.2.2.1)).trans hS.2.2.1, (hb3.cell (World.block_lt_of_cell? _ _ hS.2.2.2.1)).trans hS.2.2.2.1, (hb3.cell (World.block_lt_of_cell? _ _ hS.2.2.2.2.1)).trans hS.2.2.2.2.1, (hb3.cell (World.block_lt_of_cell? _ _ hS.2.2.2.2.2.1)).trans hS.2.2.2.2.2.1, (hb3.cell (World.block_lt_of_cell? _ _ hS.2.2.2.2.2.2)).trans hS.2.2.2.2.2.2⟩
  have hown3 := own_mono hown3 hB2.size
  have hB3 := bstep hB2 hb3
  refine hK _ _ (fun _ => hS2) ?_
  try simp only [Act.put]
  clear hK K hS hb3 hB2 hr3 hh3
  have hS := hS2
  clear hS2
  refine Held.one (i := 19) rfl (by kernel_rfl) rfl (fun K hK => ?_)
  unfold Oper.wp
  go_simp
  refine (pwithin_any D lo hi X3).mono ?_
  rintro e X4 ⟨rfl, rfl⟩
  rw [HBT.out]
  refine hK _ _ (fun _ => hS) ?_
  try simp only [Act.put]
  clear hK K
  refine Held.one (i := 20) rfl (by kernel_rfl) rfl (fun K hK => ?_)
  unfold Oper.wp
  go_simp
  refine hK _ _ (fun _ => hS) ?_
  try simp only [Act.put]
  clear hK K
  refine Held.one (i := 21) rfl (by kernel_rfl) rfl (fun K hK => ?_)
  unfold Oper.wp
  go_simp
  refine hK _ _ (fun _ => hS) ?_
  try simp only [Act.put]
  clear hK K
  refine Held.done (by kernel_rfl) ?_
  clear hS
  have HR := hide (show RetPr w (nr + h.n) (jnT true ⟨t, m, x⟩ (thD h)).r (btw (dtT true ⟨t, m, x⟩ (thD h)) lo hi) _ X3 from ⟨Ac, cc, rfl, hown3, hB3⟩)
  clear hown3 hB3
  go_wp2
  refine bodyPost_ret (results_tmp2 rfl _ _ _) rfl ?_
  exact HR.out
set_option maxRecDepth 100000 in
set_option maxHeartbeats 4000000 in
theorem jRight1_any (cb jx jb : Nat) (Ar : Option Addr) (nr cr : Nat) (t m : Int) (x : Rw) (h : Hd) (lo hi : Int) (w : World)
    (c0 : w.cell? ⟨cb, 0, none⟩ = some (.int .i64 t)) (c1 : w.cell? ⟨cb, 1, none⟩ = some (.slice Ar nr cr)) (j0 : w.cell? ⟨jx, 0, none⟩ = some (.pointer (some ⟨jb, 0, none⟩))) (j4 : w.cell? ⟨jb, 4, none⟩ = some (.int .i64 lo)) (j5 : w.cell? ⟨jb, 5, none⟩ = some (.int .i64 hi))
    (hr : RowK w w.heap.size Ar nr x) (hh : RowK w w.heap.size h.A h.n h.r) (hnr : nr ≤ 60) (hnh : h.n ≤ 60) (ht : -1000000000000 ≤ t ∧ t ≤ 1000000000000) (hht : -1000000000000 ≤ h.t ∧ h.t ≤ 1000000000000) :
    Calls Tryz.prog 109 #[.agg #[.int .i64 h.t, .int .i64 h.m, .slice h.A h.n h.c], .pointer (some ⟨cb, 0, none⟩), .pointer (some ⟨jx, 0, none⟩)] w (RetPr w (h.n + nr) (jnT false ⟨t, m, x⟩ (thD h)).r (btw (dtT false ⟨t, m, x⟩ (thD h)) lo hi)) := by
  have hB := below_val (w := w) #[.int .i64 h.t, .int .i64 h.m, .slice h.A h.n h.c] 144
  have kb := Blk.new w 144 #[.int .i64 h.t, .int .i64 h.m, .slice h.A h.n h.c]
  have hw1 : IntKind.i64.wrap (t - h.t) = t - h.t := by rw [IntKind.wrap_i64]; omega
  obtain ⟨D, hD⟩ : ∃ D, t - h.t = D := ⟨_, rfl⟩
  rw [hD] at hw1
  have HBT := hide (show btw D lo hi = btw (dtT false ⟨t, m, x⟩ (thD h)) lo hi by rw [← hD]; rfl)
  have c0 := (hB.cell (World.block_lt_of_cell? _ _ c0)).trans c0
  have c1 := (hB.cell (World.block_lt_of_cell? _ _ c1)).trans c1
  have j0 := (hB.cell (World.block_lt_of_cell? _ _ j0)).trans j0
  have j4 := (hB.cell (World.block_lt_of_cell? _ _ j4)).trans j4
  have j5 := (hB.cell (World.block_lt_of_cell? _ _ j5)).trans j5
  have hr1 := (hr.below hB).mono hB.size
  have hh1 := (hh.below hB).mono hB.size
  clear hr hh
  go_enter Tryz.func109, Tryz.ntmps109
  go_upto_region 1 with fail
  obtain ⟨W, hW⟩ : ∃ W, w.alloc (.cells #[.int .i64 h.t, .int .i64 h.m, .slice h.A h.n h.c] 144) = W := ⟨_, rfl⟩
  obtain ⟨bx, hbx⟩ : ∃ bx, w.heap.size = bx := ⟨_, rfl⟩
  rw [hW] at hB kb hr1 hh1 c0 c1 j0 j4 j5 ⊢
  rw [hbx] at kb ⊢
  clear hW
  refine Held.begin (fun z => z.cell? ⟨cb, 0, none⟩ = some (.int .i64 t) ∧ z.cell? ⟨cb, 1, none⟩ = some (.slice Ar nr cr) ∧ z.cell? ⟨bx, 0, none⟩ = some (.int .i64 h.t) ∧ z.cell? ⟨bx, 2, none⟩ = some (.slice h.A h.n h.c) ∧ z.cell? ⟨jx, 0, none⟩ = some (.pointer (some ⟨jb, 0, none⟩)) ∧ z.cell? ⟨jb, 4, none⟩ = some (.int .i64 lo) ∧ z.cell? ⟨jb, 5, none⟩ = some (.int .i64 hi)) 21 (by kernel_rfl) ?_
  obtain ⟨X1, hX1⟩ : ∃ X1, W.drew = X1 := ⟨_, rfl⟩
  have hDr : Below W.heap.size W X1 := by rw [← hX1]; exact (Below.refl _ _).drew
  rw [hX1]
  have hS : W.cell? ⟨cb, 0, none⟩ = some (.int .i64 t) ∧ W.cell? ⟨cb, 1, none⟩ = some (.slice Ar nr cr) ∧ W.cell? ⟨bx, 0, none⟩ = some (.int .i64 h.t) ∧ W.cell? ⟨bx, 2, none⟩ = some (.slice h.A h.n h.c) ∧ W.cell? ⟨jx, 0, none⟩ = some (.pointer (some ⟨jb, 0, none⟩)) ∧ W.cell? ⟨jb, 4, none⟩ = some (.int .i64 lo) ∧ W.cell? ⟨jb, 5, none⟩ = some (.int .i64 hi) := ⟨c0, c1, by simpa using kb.cell 0, by simpa using kb.cell 2, j0, j4, j5⟩
  have hS : X1.cell? ⟨cb, 0, none⟩ = some (.int .i64 t) ∧ X1.cell? ⟨cb, 1, none⟩ = some (.slice Ar nr cr) ∧ X1.cell? ⟨bx, 0, none⟩ = some (.int .i64 h.t) ∧ X1.cell? ⟨bx, 2, none⟩ = some (.slice h.A h.n h.c) ∧ X1.cell? ⟨jx, 0, none⟩ = some (.pointer (some ⟨jb, 0, none⟩)) ∧ X1.cell? ⟨jb, 4, none⟩ = some (.int .i64 lo) ∧ X1.cell? ⟨jb, 5, none⟩ = some (.int .i64 hi) := ⟨(hDr.cell (World.block_lt_of_cell? _ _ hS.1)).trans hS.1, (hDr.cell (World.block_lt_of_cell? _ _ hS.2.1)).trans hS.2.1, (hDr.cell (World.block_lt_of_cell? _ _ hS.2.2.1)).trans hS.2.2.1, (hDr.cell (World.block_lt_of_cell? _ _ hS.2.2.2.1)).trans hS.2.2.2.1, (hDr.cell (World.block_lt_of_cell? _ _ hS.2.2.2.2.1)).trans hS.2.2.2.2.1, (hDr.cell (World.block_lt_of_cell? _ _ hS.2.2.2.2.2.1)).trans hS.2.2.2.2.2.1, (hDr.cell (World.block_lt_of_cell? _ _ hS.2.2.2.2.2.2)).trans hS.2.2.2.2.2.2⟩
  have hB1 := bstep hB hDr
  have hr2 := (hr1.below hDr).mono hDr.size
  have hh2 := (hh1.below hDr).mono hDr.size
  clear hX1 hDr kb hr1 hh1 hB c0 c1 j0 j4 j5
  refine Held.take (i := 0) (.pointer (some ⟨bx, 2, none⟩)) rfl hS (by kernel_rfl) (by kernel_rfl) (by kernel_rfl) (by kernel_rfl) (fun _ _ _ h => h) rfl (fun y hy => by obtain ⟨x1, x2, x3, x4, x5, x6, x7⟩ := hy; go_simp) ?_
  try simp only [Act.put]
  refine Held.take (i := 1) (.slice h.A h.n h.c) rfl hS (by kernel_rfl) (by kernel_rfl) (by kernel_rfl) (by kernel_rfl) (fun _ _ _ h => h) rfl (fun y hy => by obtain ⟨x1, x2, x3, x4, x5, x6, x7⟩ := hy; go_simp) ?_
  try simp only [Act.put]
  refine Held.take (i := 2) (.pointer (some ⟨cb, 1, none⟩)) rfl hS (by kernel_rfl) (by kernel_rfl) (by kernel_rfl) (by kernel_rfl) (fun _ _ _ h => h) rfl (fun y hy => by obtain ⟨x1, x2, x3, x4, x5, x6, x7⟩ := hy; go_simp) ?_
  try simp only [Act.put]
  refine Held.take (i := 3) (.slice Ar nr cr) rfl hS (by kernel_rfl) (by kernel_rfl) (by kernel_rfl) (by kernel_rfl) (fun _ _ _ h => h) rfl (fun y hy => by obtain ⟨x1, x2, x3, x4, x5, x6, x7⟩ := hy; go_simp) ?_
  try simp only [Act.put]
  refine Held.take (i := 6) (.pointer (some ⟨cb, 0, none⟩)) rfl hS (by kernel_rfl) (by kernel_rfl) (by kernel_rfl) (by kernel_rfl) (fun _ _ _ h => h) rfl (fun y hy => by obtain ⟨x1, x2, x3, x4, x5, x6, x7⟩ := hy; go_simp) ?_
  try simp only [Act.put]
  refine Held.take (i := 7) (.int .i64 t) rfl hS (by kernel_rfl) (by kernel_rfl) (by kernel_rfl) (by kernel_rfl) (fun _ _ _ h => h) rfl (fun y hy => by obtain ⟨x1, x2, x3, x4, x5, x6, x7⟩ := hy; go_simp) ?_
  try simp only [Act.put]
  refine Held.take (i := 8) (.pointer (some ⟨bx, 0, none⟩)) rfl hS (by kernel_rfl) (by kernel_rfl) (by kernel_rfl) (by kernel_rfl) (fun _ _ _ h => h) rfl (fun y hy => by obtain ⟨x1, x2, x3, x4, x5, x6, x7⟩ := hy; go_simp) ?_
  try simp only [Act.put]
  refine Held.take (i := 9) (.int .i64 h.t) rfl hS (by kernel_rfl) (by kernel_rfl) (by kernel_rfl) (by kernel_rfl) (fun _ _ _ h => h) rfl (fun y hy => by obtain ⟨x1, x2, x3, x4, x5, x6, x7⟩ := hy; go_simp) ?_
  try simp only [Act.put]
  refine Held.take (i := 10) (.int .i64 D) rfl hS (by kernel_rfl) (by kernel_rfl) (by kernel_rfl) (by kernel_rfl) (fun _ _ _ h => h) rfl (fun y hy => by obtain ⟨x1, x2, x3, x4, x5, x6, x7⟩ := hy; rw [← hD]; go_simp) ?_
  try simp only [Act.put]
  refine Held.take (i := 11) (.pointer (some ⟨jb, 0, none⟩)) rfl hS (by kernel_rfl) (by kernel_rfl) (by kernel_rfl) (by kernel_rfl) (fun _ _ _ h => h) rfl (fun y hy => by obtain ⟨x1, x2, x3, x4, x5, x6, x7⟩ := hy; go_simp) ?_
  try simp only [Act.put]
  refine Held.take (i := 12) (.pointer (some ⟨jb, 0, none⟩)) rfl hS (by kernel_rfl) (by kernel_rfl) (by kernel_rfl) (by kernel_rfl) (fun _ _ _ h => h) rfl (fun y hy => by obtain ⟨x1, x2, x3, x4, x5, x6, x7⟩ := hy; go_simp) ?_
  try simp only [Act.put]
  refine Held.take (i := 13) (.pointer (some ⟨jb, 4, none⟩)) rfl hS (by kernel_rfl) (by kernel_rfl) (by kernel_rfl) (by kernel_rfl) (fun _ _ _ h => h) rfl (fun y hy => by obtain ⟨x1, x2, x3, x4, x5, x6, x7⟩ := hy; go_simp) ?_
  try simp only [Act.put]
  refine Held.take (i := 14) (.int .i64 lo) rfl hS (by kernel_rfl) (by kernel_rfl) (by kernel_rfl) (by kernel_rfl) (fun _ _ _ h => h) rfl (fun y hy => by obtain ⟨x1, x2, x3, x4, x5, x6, x7⟩ := hy; go_simp) ?_
  try simp only [Act.put]
  refine Held.take (i := 15) (.pointer (some ⟨jb, 0, none⟩)) rfl hS (by kernel_rfl) (by kernel_rfl) (by kernel_rfl) (by kernel_rfl) (fun _ _ _ h => h) rfl (fun y hy => by obtain ⟨x1, x2, x3, x4, x5, x6, x7⟩ := hy; go_simp) ?_
  try simp only [Act.put]
  refine Held.take (i := 16) (.pointer (some ⟨jb, 0, none⟩)) rfl hS (by kernel_rfl) (by kernel_rfl) (by kernel_rfl) (by kernel_rfl) (fun _ _ _ h => h) rfl (fun y hy => by obtain ⟨x1, x2, x3, x4, x5, x6, x7⟩ := hy; go_simp) ?_
  try simp only [Act.put]
  refine Held.take (i := 17) (.pointer (some ⟨jb, 5, none⟩)) rfl hS (by kernel_rfl) (by kernel_rfl) (by kernel_rfl) (by kernel_rfl) (fun _ _ _ h => h) rfl (fun y hy => by obtain ⟨x1, x2, x3, x4, x5, x6, x7⟩ := hy; go_simp) ?_
  try simp only [Act.put]
  refine Held.take (i := 18) (.int .i64 hi) rfl hS (by kernel_rfl) (by kernel_rfl) (by kernel_rfl) (by kernel_rfl) (fun _ _ _ h => h) rfl (fun y hy => by obtain ⟨x1, x2, x3, x4, x5, x6, x7⟩ := hy; go_simp) ?_
  try simp only [Act.put]
  refine Held.one (i := 4) rfl (by kernel_rfl) rfl (fun K hK => ?_)
  have hbr := below_val (w := X1) #[.slice h.A h.n h.c, .slice Ar nr cr] 34
  have kq := Blk.new X1 34 #[.slice h.A h.n h.c, .slice Ar nr cr]
  have hX2s : (X1.alloc (.cells #[.slice h.A h.n h.c, .slice Ar nr cr] 34)).heap.size = X1.heap.size + 1 := World.size_alloc _ _
  unfold Oper.wp
  go_simp
  obtain ⟨X2, hXe⟩ : ∃ X2, X1.alloc (.cells #[.slice h.A h.n h.c, .slice Ar nr cr] 34) = X2 := ⟨_, rfl⟩
  rw [hXe] at hbr kq hX2s ⊢
  have hS2 : X2.cell? ⟨cb, 0, none⟩ = some (.int .i64 t) ∧ X2.cell? ⟨cb, 1, none⟩ = some (.slice Ar nr cr) ∧ X2.cell? ⟨bx, 0, none⟩ = some (.int .i64 h.t) ∧ X2.cell? ⟨bx, 2, none⟩ = some (.slice h.A h.n h.c) ∧ X2.cell? ⟨jx, 0, none⟩ = some (.pointer (some ⟨jb, 0, none⟩)) ∧ X2.cell? ⟨jb, 4, none⟩ = some (.int .i64 lo) ∧ X2.cell? ⟨jb, 5, none⟩ = some (.int .i64 hi) := ⟨(hbr.cell (World.block_lt_of_cell? _ _ hS.1)).trans hS.1, (hbr.cell (World.block_lt_of_cell? _ _ hS.2.1)).trans hS.2.1, (hbr.cell (World.block_lt_of_cell? _ _ hS.2.2.1)).trans hS.2.2.1, (hbr.cell (World.block_lt_of_cell? _ _ hS.2.2.2.1)).trans hS.2.2.2.1, (hbr.cell (World.block_lt_of_cell? _ _ hS.2.2.2.2.1)).trans hS.2.2.2.2.1, (hbr.cell (World.block_lt_of_cell? _ _ hS.2.2.2.2.2.1)).trans hS.2.2.2.2.2.1, (hbr.cell (World.block_lt_of_cell? _ _ hS.2.2.2.2.2.2)).trans hS.2.2.2.2.2.2⟩
  have hr3 := (hr2.below hbr).mono hbr.size
  have hh3 := (hh2.below hbr).mono hbr.size
  have hB2 := bstep hB1 hbr
  refine hK _ _ (fun _ => hS2) ?_
  try simp only [Act.put]
  clear hK K hS hXe hbr hB1 hr2 hh2
  have hS := hS2
  clear hS2
  refine Held.one (i := 5) rfl (by kernel_rfl) rfl (fun K hK => ?_)
  unfold Oper.wp
  go_simp
  have hrd2 : Reads X2 X2.heap.size 1 (some ⟨X1.heap.size, 0, none⟩) 2 [.slice h.A h.n h.c, .slice Ar nr cr] := ⟨rfl, fun _ => ⟨X1.heap.size, 0, rfl, by omega, fun j u hu => by rw [Nat.zero_add, kq.cell j]; simpa using hu⟩⟩
  refine (ConcatV_any (some ⟨X1.heap.size, 0, none⟩) 2 2 [⟨h.A, h.n, h.c, h.r⟩, ⟨Ar, nr, cr, x⟩] X2 ⟨hrd2, fun r hr => by
    rcases List.mem_cons.1 hr with rfl | hr
    · exact hh3.rd
    · obtain rfl : r = ⟨Ar, nr, cr, x⟩ := by simpa using hr
      exact hr3.rd⟩ (by omega) (fun r hr => by
    rcases List.mem_cons.1 hr with rfl | hr
    · show _ ≤ 60; dsimp only; omega
    · obtain rfl : r = ⟨Ar, nr, cr, x⟩ := by simpa using hr
      show _ ≤ 60; dsimp only; omega)).mono ?_
  have hlv : lenV [⟨h.A, h.n, h.c, h.r⟩, ⟨Ar, nr, cr, x⟩] = h.n + nr := by simp [lenV]
  have hav : allV [⟨h.A, h.n, h.c, h.r⟩, ⟨Ar, nr, cr, x⟩] = (jnT false ⟨t, m, x⟩ (thD h)).r := by simp [allV, jnT, thD]
  rw [hlv, hav]
  clear hlv hav hrd2 kq hX2s
  rintro e X3 ⟨Ac, cc, rfl, hown3, hb3⟩
  have hS2 : X3.cell? ⟨cb, 0, none⟩ = some (.int .i64 t) ∧ X3.cell? ⟨cb, 1, none⟩ = some (.slice Ar nr cr) ∧ X3.cell? ⟨bx, 0, none⟩ = some (.int .i64 h.t) ∧ X3.cell? ⟨bx, 2, none⟩ = some (.slice h.A h.n h.c) ∧ X3.cell? ⟨jx, 0, none⟩ = some (.pointer (some ⟨jb, 0, none⟩)) ∧ X3.cell? ⟨jb, 4, none⟩ = some (.int .i64 lo) ∧ X3.cell? ⟨jb, 5, none⟩ = some (.int .i64 hi) := ⟨(hb3.cell (World.block_lt_of_cell? _ _ hS.1)).trans hS.1, (hb3.cell (World.block_lt_of_cell? _ _ hS.2.1)).trans hS.2.1, (hb3.cell (World.block_lt_of_cell? _ _ hS.2.2.1)).trans hS.2.2.1, (hb3.cell (World.block_lt_of_cell? _ _ hS.2.2.2.1)).trans hS.2.2.2.1, (hb3.cell (World.block_lt_of_cell? _ _ hS.2.2.2.2.1)).trans hS.2.2.2.2.1, (hb3.cell (World.block_lt_of_cell? _ _ hS.2.2.2.2.2.1)).trans hS.2.2.2.2.2.1, (hb3.cell (World.block_lt_of_cell? _ _ hS.2.2.2.2.2.2)).trans hS.2.2.2.2.2.2⟩
  have hown3 := own_mono hown3 hB2.size
  have hB3 := bstep hB2 hb3
  refine hK _ _ (fun _ => hS2) ?_
  try simp only [Act.put]
  clear hK K hS hb3 hB2 hr3 hh3
  have hS := hS2
  clear hS2
  refine Held.one (i := 19) rfl (by kernel_rfl) rfl (fun K hK => ?_)
  unfold Oper.wp
  go_simp
  refine (pwithin_any D lo hi X3).mono ?_
  rintro e X4 ⟨rfl, rfl⟩
  rw [HBT.out]
  refine hK _ _ (fun _ => hS) ?_
  try simp only [Act.put]
  clear hK K
  refine Held.one (i := 20) rfl (by kernel_rfl) rfl (fun K hK => ?_)
  unfold Oper.wp
  go_simp
  refine hK _ _ (fun _ => hS) ?_
  try simp only [Act.put]
  clear hK K
  refine Held.one (i := 21) rfl (by kernel_rfl) rfl (fun K hK => ?_)
  unfold Oper.wp
  go_simp
  refine hK _ _ (fun _ => hS) ?_
  try simp only [Act.put]
  clear hK K
  refine Held.done (by kernel_rfl) ?_
  clear hS
  have HR := hide (show RetPr w (h.n + nr) (jnT false ⟨t, m, x⟩ (thD h)).r (btw (dtT false ⟨t, m, x⟩ (thD h)) lo hi) _ X3 from ⟨Ac, cc, rfl, hown3, hB3⟩)
  clear hown3 hB3
  go_wp2
  refine bodyPost_ret (results_tmp2 rfl _ _ _) rfl ?_
  exact HR.out
end Go.Proofs.YtoapjidpfghnlaaGreatDoor
