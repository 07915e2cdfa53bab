/-
  The law ClockTumbling: the walk, for every input.
-/
import Derived.Test.YtehifbogadohgaaCkD
namespace Go.Proofs.Ytehifbogadohgaa
open Go.RowKit

theorem tumb (z h t : Int) : winsE 1 z 0 0 h t = winsE 2 z z 0 h t := by
  have hv : vspec 1 z 0 0 h = vspec 2 z z 0 h := by
    unfold vspec; rw [Bool.eq_iff_iff, decide_eq_true_eq, decide_eq_true_eq]; omega
  have hw : wins 1 z 0 0 h t = wins 2 z z 0 h t := by simp [wins, stepOf]
  unfold winsE
  rw [hv, hw]

theorem tumbling_law (z h t : Int) (w : World) : Calls Try.prog 3 #[.int .i64 z, .int .i64 h, .int .i64 t] w (RetV w (.bool true)) := by
  have cA := fun W => Windows_any 1 z 0 0 h t W
  have cB := fun W => Windows_any 2 z z 0 h t W
  rw [tumb] at cA
  have hl : (winsE 2 z z 0 h t).1.length ≤ 50 := by
    unfold winsE
    split
    · rename_i hv
      split
      · exact wins_len _ _ _ _ _ _ hv
      · simp
    · simp
  obtain ⟨L, E, hLE⟩ : ∃ L E, winsE 2 z z 0 h t = (L, E) := ⟨_, _, rfl⟩
  rw [hLE] at cA cB hl
  dsimp only at cA cB hl
  clear hLE
  obtain ⟨n, hn⟩ : ∃ n, L.length = n := ⟨_, rfl⟩
  rw [hn] at cA cB hl
  clear hn
  have CA := hide cA
  have CB := hide cB
  clear cA cB
  go_enter Try.func3, Try.ntmps3
  go_wp2_with fail
  refine (CA.out _).mono ?_
  rintro e w1 ⟨A1, c1, rfl, hR1, hB1⟩
  go_wp2_with fail
  refine (CB.out _).mono ?_
  rintro e w2 ⟨A2, c2, rfl, hR2, hB2⟩
  have hR1' := hR1.up hB2
  go_wp2_with fail
  refine (SameW_any _ _ _ _ _ _ _ _ L L _ hR1' hR2 (by omega) (by omega)).mono ?_
  rintro e w3 ⟨rfl, n3, rfl⟩
  have hd : decide (L = L) = true := by simp
  rw [hd]
  go_wp2_with fail
  refine (awake_any _).mono ?_
  rintro e w4 ⟨rfl, hB4⟩
  go_wp2
  go_ret
  exact ⟨rfl, bstep (bstep (bstep hB1 hB2) (below_drewN (Below.refl _ _) n3)) hB4⟩
end Go.Proofs.Ytehifbogadohgaa
