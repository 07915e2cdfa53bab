/-
  The walks of heavy and of tidewrightref26.Valid.
-/
import Derived.Test.YtblepaocekojbaaDkA
namespace Go.Proofs.Ytblepaocekojbaa
open Go.RowKit Go.Shelf
attribute [local go_sem] Oper.semAt_some

def heavyB (g : Gr) : Bool := (decide (30 < g.n1) && decide (g.n1 ≤ 200)) || decide (300 < g.n1) || decide (60 < g.n2)
set_option maxHeartbeats 1000000 in
theorem heavy_any (g : Gr) (w : World) : Calls Try.prog 11 #[.agg #[g.v1, g.v2]] w fun e w' => e = .returned (.bool (heavyB g)) ∧ Below w.heap.size w w' := by
  have hc1 : (w.alloc (.cells #[g.v1, g.v2] 25)).cell? ⟨w.heap.size, 0, none⟩ = some (.slice g.a1 g.n1 g.c1) := by simp [Gr.v1]
  have hc2 : (w.alloc (.cells #[g.v1, g.v2] 25)).cell? ⟨w.heap.size, 1, none⟩ = some (.slice g.a2 g.n2 g.c2) := by simp [Gr.v2]
  have hB0 : Below w.heap.size w (w.alloc (.cells #[g.v1, g.v2] 25)) := (Below.refl _ _).alloc (Nat.le_refl _) _
  obtain ⟨W, hW⟩ : ∃ W, w.alloc (.cells #[g.v1, g.v2] 25) = W := ⟨_, rfl⟩
  rw [hW] at hc1 hc2 hB0
  unfold heavyB
  by_cases h1 : 30 < g.n1
  · by_cases h2 : g.n1 ≤ 200
    · go_enter Try.func11, Try.ntmps11
      go_wp2
      go_ret
      exact ⟨ret_bool (by first | rfl | (rw [Bool.eq_iff_iff]; simp <;> omega)), hB0⟩
    · by_cases h3 : 300 < g.n1
      · go_enter Try.func11, Try.ntmps11
        go_wp2
        go_ret
        exact ⟨ret_bool (by first | rfl | (rw [Bool.eq_iff_iff]; simp <;> omega)), hB0⟩
      · go_enter Try.func11, Try.ntmps11
        go_wp2
        go_ret
        exact ⟨ret_bool (by first | rfl | (rw [Bool.eq_iff_iff]; simp <;> omega)), hB0⟩
  · go_enter Try.func11, Try.ntmps11
    go_wp2
    go_ret
    exact ⟨ret_bool (by first | rfl | (rw [Bool.eq_iff_iff]; simp <;> omega)), hB0⟩
end Go.Proofs.Ytblepaocekojbaa
