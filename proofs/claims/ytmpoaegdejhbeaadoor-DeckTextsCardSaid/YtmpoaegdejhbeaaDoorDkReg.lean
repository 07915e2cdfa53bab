/-
  The walks of deck.Regions and tidewrightref26.Regions, and of tidewrightref26.Back where it refuses.
-/
import Derived.Test.YtmpoaegdejhbeaaDoorDkRB
namespace Go.Proofs.YtmpoaegdejhbeaaDoor
open Go.RowKit Go.Shelf Go.Deep
attribute [local go_sem] Oper.semAt_some

theorem errT_two (g : Gr) (A1 : Option Addr) (m1 c1 : Nat) (fallen : List Int) (A2 : Option Addr) (m2 c2 : Nat) (gone : List Int) : errT g [⟨A1, m1, c1, fallen⟩, ⟨A2, m2, c2, gone⟩] = errB g fallen gone := by
  simp [errT, errB]
theorem errB_ok {g : Gr} {fallen gone : List Int} (h : errB g fallen gone = 0) : validB g = true ∧ ascB fallen = true ∧ ascB gone = true ∧ fallen.any (outT g.n1) = false ∧ gone.any (outT g.n1) = false := by
  unfold errB at h
  by_cases h1 : (validB g && (ascB fallen && ascB gone)) = true
  · rw [if_pos h1] at h
    by_cases h2 : (fallen.any (outT g.n1) || gone.any (outT g.n1)) = true
    · rw [if_pos h2] at h; omega
    · simp only [Bool.and_eq_true, Bool.or_eq_true, not_or, Bool.not_eq_true] at h1 h2
      exact ⟨h1.1, h1.2.1, h1.2.2, h2.1, h2.2⟩
  · rw [if_neg h1] at h; omega

/-- The regions' numbers, if the graph is valid. -/
def regL (g : Gr) : List Value := if validB g then rowL g.n1 fun i => .int .i64 ((numOf (labs g.es) i : Nat) : Int) else []
def regN (g : Gr) : Nat := if validB g then g.n1 else 0
def regE (g : Gr) : Int := if validB g then 0 else 1
set_option maxHeartbeats 1000000 in
theorem Regions_any (g : Gr) (w : World) (hg : g.Ok w w.heap.size) (hn1 : g.n1 ≤ 4611686018427387904) (hn2 : g.n2 ≤ 4611686018427387904) :
    Calls Tryd.prog 13 #[.agg #[g.v1, g.v2]] w (RetSlE w 1 (regN g) (regL g) (regE g)) := by
  have hB0 : Below w.heap.size w (w.alloc (.cells #[g.v1, g.v2] 31)) := (Below.refl _ _).alloc (Nat.le_refl _) _
  have b0 : Blk (w.alloc (.cells #[g.v1, g.v2] 31)) w.heap.size 31 #[g.v1, g.v2] := Blk.new w _ _
  have hs0 : (w.alloc (.cells #[g.v1, g.v2] 31)).heap.size = w.heap.size + 1 := World.size_alloc _ _
  cases hv : validB g
  · have HV := hide hv
    clear hv
    go_enter Tryd.func13, Tryd.ntmps13
    go_wp2_with fail
    obtain ⟨W0, hW0⟩ : ∃ W0, w.alloc (.cells #[g.v1, g.v2] 31) = W0 := ⟨_, rfl⟩
    rw [hW0] at hB0 b0 hs0 ⊢
    clear hW0
    refine (Valid_any g W0 (hg.up hB0) hn1 hn2).mono ?_
    rintro e W1 ⟨rfl, hB1⟩
    rw [HV.out]
    have HE := hide (bstep hB0 hB1)
    clear hB0 hB1
    go_wp2
    go_ret2
    exact ⟨none, 0, by simp [regE, regN, HV.out], by simp [regN, regL, HV.out]; exact Reads.none_, HE.out⟩
  · have HV := hide hv
    clear hv
    go_enter Tryd.func13, Tryd.ntmps13
    go_wp2_with fail
    obtain ⟨W0, hW0⟩ : ∃ W0, w.alloc (.cells #[g.v1, g.v2] 31) = W0 := ⟨_, rfl⟩
    rw [hW0] at hB0 b0 hs0 ⊢
    clear hW0
    refine (Valid_any g W0 (hg.up hB0) hn1 hn2).mono ?_
    rintro e W1 ⟨rfl, hB1⟩
    rw [HV.out]
    have hB01 := bstep hB0 hB1
    have b1 := b0.below hB1 (by omega)
    clear hB0 hB1
    have d0 := b1.cell 0
    have d1 := b1.cell 1
    simp at d0 d1
    go_wp2_with fail
    refine (regions_any g W1 (hg.up hB01) HV.out).mono ?_
    rintro e W2 ⟨A, c, rfl, hR, hB2⟩
    have HE := hide (bstep hB01 hB2)
    clear hB01 hB2 b1 d0 d1
    go_wp2
    go_ret2
    exact ⟨A, c, by simp [regE, regN, HV.out], by simp only [regN, regL, HV.out, if_true]; rw [← nums_row]; exact hR, HE.out⟩

end Go.Proofs.YtmpoaegdejhbeaaDoor
