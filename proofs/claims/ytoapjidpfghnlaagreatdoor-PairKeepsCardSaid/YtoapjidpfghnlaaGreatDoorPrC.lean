/-
  The walk of pair.compare, with the draws counted; the sort of events by it. No condition.
-/
import Derived.Test.YtoapjidpfghnlaaGreatDoorPrA
import Derived.Test.YtoapjidpfghnlaaGreatDoorSrtE
import Derived.Test.YtoapjidpfghnlaaGreatDoorRngH
namespace Go.Proofs.YtoapjidpfghnlaaGreatDoor
open Go.RowKit
attribute [local go_sem] Oper.semAt_some wide_fn wide_depth
set_option linter.unusedVariables false
set_option linter.unusedSimpArgs false

set_option maxRecDepth 100000 in
set_option maxHeartbeats 4000000 in
theorem compare_g (x y : Ev) (w : World) (hx : RowK w w.heap.size x.A x.n x.r) (hy : RowK w w.heap.size y.A y.n y.r) :
    Calls Tryz.prog 71 #[.agg #[.int .i64 x.t, .slice x.A x.n x.c], .agg #[.int .i64 y.t, .slice y.A y.n y.c]] w (RetG w (.int .i64 (cmpE (x.t, x.r) (y.t, y.r)))) := by
  have hB := gb_two (w := w) (.cells #[.int .i64 x.t, .slice x.A x.n x.c] 36) (.cells #[.int .i64 y.t, .slice y.A y.n y.c] 36)
  have k1 := (Blk.new w 36 #[.int .i64 x.t, .slice x.A x.n x.c]).alloc (.cells #[.int .i64 y.t, .slice y.A y.n y.c] 36)
  have k2 := Blk.new (w.alloc (.cells #[.int .i64 x.t, .slice x.A x.n x.c] 36)) 36 #[.int .i64 y.t, .slice y.A y.n y.c]
  rw [World.size_alloc] at k2
  have hx1 := (hx.below hB.b).mono hB.size
  have hy1 := (hy.below hB.b).mono hB.size
  obtain ⟨v, hv⟩ : ∃ v, cmpE (x.t, x.r) (y.t, y.r) = v := ⟨_, rfl⟩
  rw [hv]
  have HV := hide hv
  clear hv hx hy
  go_enter Tryz.func71, Tryz.ntmps71
  go_upto_region 1 with fail
  obtain ⟨W, hW⟩ : ∃ W, (w.alloc (.cells #[.int .i64 x.t, .slice x.A x.n x.c] 36)).alloc (.cells #[.int .i64 y.t, .slice y.A y.n y.c] 36) = W := ⟨_, rfl⟩
  obtain ⟨bx, hbx⟩ : ∃ bx, w.heap.size = bx := ⟨_, rfl⟩
  rw [hW] at hB k1 k2 hx1 hy1 ⊢
  rw [hbx] at k1 k2 ⊢
  clear hW
  refine Held.begin (fun z => z.cell? ⟨bx, 0, none⟩ = some (.int .i64 x.t) ∧ z.cell? ⟨bx, 1, none⟩ = some (.slice x.A x.n x.c) ∧ z.cell? ⟨bx + 1, 0, none⟩ = some (.int .i64 y.t) ∧ z.cell? ⟨bx + 1, 1, none⟩ = some (.slice y.A y.n y.c)) 100 (by kernel_rfl) ?_
  obtain ⟨X1, hX1⟩ : ∃ X1, W.drew = X1 := ⟨_, rfl⟩
  have hD : GB W.heap.size W X1 := by rw [← hX1]; exact (GB.refl _ _).drew
  rw [hX1]
  have hB1 := gstep hB hD
  have hx2 := (hx1.below hD.b).mono hD.size
  have hy2 := (hy1.below hD.b).mono hD.size
  have k3 := k1.below hD.b k1.lt
  have k4 := k2.below hD.b k2.lt
  have hS : X1.cell? ⟨bx, 0, none⟩ = some (.int .i64 x.t) ∧ X1.cell? ⟨bx, 1, none⟩ = some (.slice x.A x.n x.c) ∧ X1.cell? ⟨bx + 1, 0, none⟩ = some (.int .i64 y.t) ∧ X1.cell? ⟨bx + 1, 1, none⟩ = some (.slice y.A y.n y.c) := ⟨by simpa using k3.cell 0, by simpa using k3.cell 1, by simpa using k4.cell 0, by simpa using k4.cell 1⟩
  clear hX1 hD k1 k2 hx1 hy1 hB
  refine Held.take (i := 0) (.pointer (some ⟨bx, 0, none⟩)) rfl hS (by kernel_rfl) (by kernel_rfl) (by kernel_rfl) (by kernel_rfl) (fun _ _ _ h => h) rfl (fun y hy => by obtain ⟨x1, x2, x3, x4⟩ := hy; go_simp) ?_
  try simp only [Act.put]
  refine Held.take (i := 1) (.int .i64 x.t) rfl hS (by kernel_rfl) (by kernel_rfl) (by kernel_rfl) (by kernel_rfl) (fun _ _ _ h => h) rfl (fun y hy => by obtain ⟨x1, x2, x3, x4⟩ := hy; go_simp) ?_
  try simp only [Act.put]
  refine Held.take (i := 2) (.pointer (some ⟨bx + 1, 0, none⟩)) rfl hS (by kernel_rfl) (by kernel_rfl) (by kernel_rfl) (by kernel_rfl) (fun _ _ _ h => h) rfl (fun y hy => by obtain ⟨x1, x2, x3, x4⟩ := hy; go_simp) ?_
  try simp only [Act.put]
  refine Held.take (i := 3) (.int .i64 y.t) rfl hS (by kernel_rfl) (by kernel_rfl) (by kernel_rfl) (by kernel_rfl) (fun _ _ _ h => h) rfl (fun y hy => by obtain ⟨x1, x2, x3, x4⟩ := hy; go_simp) ?_
  try simp only [Act.put]
  refine Held.take (i := 5) (.pointer (some ⟨bx, 1, none⟩)) rfl hS (by kernel_rfl) (by kernel_rfl) (by kernel_rfl) (by kernel_rfl) (fun _ _ _ h => h) rfl (fun y hy => by obtain ⟨x1, x2, x3, x4⟩ := hy; go_simp) ?_
  try simp only [Act.put]
  refine Held.take (i := 6) (.slice x.A x.n x.c) rfl hS (by kernel_rfl) (by kernel_rfl) (by kernel_rfl) (by kernel_rfl) (fun _ _ _ h => h) rfl (fun y hy => by obtain ⟨x1, x2, x3, x4⟩ := hy; go_simp) ?_
  try simp only [Act.put]
  refine Held.take (i := 7) (.pointer (some ⟨bx + 1, 1, none⟩)) rfl hS (by kernel_rfl) (by kernel_rfl) (by kernel_rfl) (by kernel_rfl) (fun _ _ _ h => h) rfl (fun y hy => by obtain ⟨x1, x2, x3, x4⟩ := hy; go_simp) ?_
  try simp only [Act.put]
  refine Held.take (i := 8) (.slice y.A y.n y.c) rfl hS (by kernel_rfl) (by kernel_rfl) (by kernel_rfl) (by kernel_rfl) (fun _ _ _ h => h) rfl (fun y hy => by obtain ⟨x1, x2, x3, x4⟩ := hy; go_simp) ?_
  try simp only [Act.put]
  refine Held.one (i := 4) rfl (by kernel_rfl) rfl (fun K hK => ?_)
  unfold Oper.wp
  go_simp
  refine (cmpi_any x.t y.t X1).mono ?_
  rintro e X2 ⟨rfl, rfl⟩
  refine hK _ _ (fun _ => hS) ?_
  try simp only [Act.put]
  clear hK K
  refine Held.one (i := 9) rfl (by kernel_rfl) rfl (fun K hK => ?_)
  unfold Oper.wp
  go_simp
  refine (Compare_g x.A x.n x.c x.r y.A y.n y.c y.r X1 hx2.rd hy2.rd hx2.le).mono ?_
  rintro e X2 ⟨rfl, hG2⟩
  have hB2 := gstep hB1 hG2
  have k5 := k3.below hG2.b k3.lt
  have k6 := k4.below hG2.b k4.lt
  have hS : X2.cell? ⟨bx, 0, none⟩ = some (.int .i64 x.t) ∧ X2.cell? ⟨bx, 1, none⟩ = some (.slice x.A x.n x.c) ∧ X2.cell? ⟨bx + 1, 0, none⟩ = some (.int .i64 y.t) ∧ X2.cell? ⟨bx + 1, 1, none⟩ = some (.slice y.A y.n y.c) := ⟨by simpa using k5.cell 0, by simpa using k5.cell 1, by simpa using k6.cell 0, by simpa using k6.cell 1⟩
  refine hK _ _ (fun _ => hS) ?_
  try simp only [Act.put]
  clear hK K hG2 hB1 k3 k4 hx2 hy2
  refine Held.one (i := 10) rfl (by kernel_rfl) rfl (fun K hK => ?_)
  unfold Oper.wp
  go_simp
  have hB3 := gb_val (w := X2) #[.int .i64 (cmpI x.t y.t), .int .i64 (cmpR x.r y.r)] 3
  have kz := Blk.new X2 3 #[.int .i64 (cmpI x.t y.t), .int .i64 (cmpR x.r y.r)]
  have k7 := k5.below hB3.b k5.lt
  have k8 := k6.below hB3.b k6.lt
  have hB4 := gstep hB2 hB3
  obtain ⟨X3, hX3⟩ : ∃ X3, X2.alloc (.cells #[.int .i64 (cmpI x.t y.t), .int .i64 (cmpR x.r y.r)] 3) = X3 := ⟨_, rfl⟩
  rw [hX3] at kz k7 k8 hB4 ⊢
  have hS : X3.cell? ⟨bx, 0, none⟩ = some (.int .i64 x.t) ∧ X3.cell? ⟨bx, 1, none⟩ = some (.slice x.A x.n x.c) ∧ X3.cell? ⟨bx + 1, 0, none⟩ = some (.int .i64 y.t) ∧ X3.cell? ⟨bx + 1, 1, none⟩ = some (.slice y.A y.n y.c) := ⟨by simpa using k7.cell 0, by simpa using k7.cell 1, by simpa using k8.cell 0, by simpa using k8.cell 1⟩
  refine hK _ _ (fun _ => hS) ?_
  try simp only [Act.put]
  clear hK K hX3 hB3 hB2 k5 k6 k7 k8
  refine Held.one (i := 11) rfl (by kernel_rfl) rfl (fun K hK => ?_)
  unfold Oper.wp
  go_simp
  refine (OrI_any X2.heap.size (cmpI x.t y.t) (cmpR x.r y.r) X3 (by simpa using kz.cell 0) (by simpa using kz.cell 1)).mono ?_
  rintro e X4 ⟨rfl, rfl⟩
  refine hK _ _ (fun _ => hS) ?_
  try simp only [Act.put]
  clear hK K kz
  have HX := hide (show thenC (cmpI x.t y.t) (cmpR x.r y.r) = v from HV.out)
  rw [HX.out]
  refine Held.one (i := 12) rfl (by kernel_rfl) rfl (fun K hK => ?_)
  unfold Oper.wp
  go_simp
  refine hK _ _ (fun _ => hS) ?_
  try simp only [Act.put]
  clear hK K
  refine Held.done (by kernel_rfl) ?_
  clear hS
  go_wp2
  go_ret
  exact ⟨rfl, hB4⟩
end Go.Proofs.YtoapjidpfghnlaaGreatDoor
