/-
  The law DeckBack: the walk, for every input.
-/
import Derived.Test.YtblepaocekojbaaDkLm
import Derived.Test.YtblepaocekojbaaDkB
import Derived.Test.YtblepaocekojbaaQbw
namespace Go.Proofs.Ytblepaocekojbaa
open Go.RowKit Go.Shelf Go.Deep
attribute [local go_sem] Oper.semAt_some

set_option maxRecDepth 100000 in
set_option maxHeartbeats 2000000 in
theorem deckBack_far (g : Gr) (A1 : Option Addr) (m1 c1 : Nat) (A2 : Option Addr) (m2 c2 : Nat) (more : Int) (w : World) (hm1 : m1 ≤ 9223372036854775807) (hm2 : m2 ≤ 9223372036854775807)
    (hh : heavyB g = true ∨ 60 < m1 ∨ 60 < m2) :
    Calls Try.prog 3 #[.agg #[g.v1, g.v2], .slice A1 m1 c1, .slice A2 m2 c2, .int .i64 more] w (RetV w (.bool true)) := by
  have hB0 : Below w.heap.size w (w.alloc (.cells #[g.v1, g.v2] 25)) := (Below.refl _ _).alloc (Nat.le_refl _) _
  have b0 : Blk (w.alloc (.cells #[g.v1, g.v2] 25)) w.heap.size 25 #[g.v1, g.v2] := Blk.new w _ _
  have hs0 : (w.alloc (.cells #[g.v1, g.v2] 25)).heap.size = w.heap.size + 1 := World.size_alloc _ _
  have HH := hide hh
  clear hh
  go_enter Try.func3, Try.ntmps3
  go_wp2_with fail
  obtain ⟨W0, hW0⟩ : ∃ W0, w.alloc (.cells #[g.v1, g.v2] 25) = W0 := ⟨_, rfl⟩
  rw [hW0] at hB0 b0 hs0 ⊢
  clear hW0
  refine (awake_any W0).mono ?_
  rintro e W1 ⟨rfl, hB1⟩
  have b1 := b0.below hB1 (by omega)
  have hB01 := bstep hB0 hB1
  clear b0 hB0 hs0 hB1
  have d0 := b1.cell 0
  have d1 := b1.cell 1
  simp at d0 d1
  go_wp2_with fail
  refine (heavy_any g W1).mono ?_
  rintro e W2 ⟨rfl, hB2⟩
  have HE := hide (bstep hB01 hB2)
  clear hB01 hB2 b1 d0 d1
  cases hv : heavyB g
  · by_cases h1 : 60 < m1
    · go_wp2
      go_ret
      exact ⟨rfl, HE.out⟩
    · have h2 : 60 < m2 := by
        have := HH.out
        rw [hv] at this
        rcases this with h | h | h
        · cases h
        · exact absurd h h1
        · exact h
      go_wp2
      go_ret
      exact ⟨rfl, HE.out⟩
  · go_wp2
    go_ret
    exact ⟨rfl, HE.out⟩
end Go.Proofs.Ytblepaocekojbaa
