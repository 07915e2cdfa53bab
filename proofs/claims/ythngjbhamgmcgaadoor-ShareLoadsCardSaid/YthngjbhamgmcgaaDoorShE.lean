/-
  The walks of share.Moves and tidewrightref12.Moves where the numbers are out of range, and of the chapter's example (awake).
-/
import Derived.Test.YthngjbhamgmcgaaDoorShD
namespace Go.Proofs.YthngjbhamgmcgaaDoor
open Go.RowKit Go.Shelf
attribute [local go_sem] Oper.semAt_some

theorem Moves_no (g p q : Int) (h : rightB p g = false ∨ rightB q g = false) (w : World) :
    Calls Tryd.prog 14 #[.int .i64 g, .int .i64 p, .int .i64 q] w (RetSlE w 3 0 [] 7) := by
  rcases h with h | h
  · go_enter Tryd.func14, Tryd.ntmps14
    go_wp2_with (go_at_call 20; refine (right_any _ _ _).mono ?_; rintro e w' ⟨rfl, rfl⟩)
    go_ret2
    exact ⟨none, 0, rfl, Reads.none_, by go_grown⟩
  · by_cases h0 : rightB p g = true
    · go_enter Tryd.func14, Tryd.ntmps14
      go_wp2_with (go_at_call 20; refine (right_any _ _ _).mono ?_; rintro e w' ⟨rfl, rfl⟩)
      go_ret2
      exact ⟨none, 0, rfl, Reads.none_, by go_grown⟩
    · have h0' : rightB p g = false := by simpa using h0
      go_enter Tryd.func14, Tryd.ntmps14
      go_wp2_with (go_at_call 20; refine (right_any _ _ _).mono ?_; rintro e w' ⟨rfl, rfl⟩)
      go_ret2
      exact ⟨none, 0, rfl, Reads.none_, by go_grown⟩

/-- The chapter's example holds. -/
theorem awake_any (w : World) : Calls Tryd.prog 4 #[] w (RetV w (.bool true)) := by
  have em : mvs 5 2 5 = [(1, 0, 1), (2, 0, 2), (3, 1, 3), (4, 1, 4)] := by decide
  have eo : owns 5 2 = [0, 0, 0, 1, 1] := by decide
  have EM := hide em
  have EO := hide eo
  clear em eo
  have hne := eqMove
  have hm : Tryd.prog.eqGuardType Tryd.prog.depth 44 = false := by kernel_rfl
  go_enter Tryd.func4, Tryd.ntmps4
  go_wp2_with fail
  refine (Owners_yes 5 2 (by omega) (by omega) (by omega) (by omega) _).mono ?_
  rintro e w1 ⟨A1, c1, rfl, hR1, hB1⟩
  rw [EO.out] at hR1 ⊢
  go_wp2_with fail
  refine (Moves_yes 5 2 5 (by omega) (by omega) (by omega) (by omega) (by omega) (by omega) _).mono ?_
  rintro e w2 ⟨A2, c2, rfl, hR2, hB2⟩
  rw [EM.out] at hR2 ⊢
  have hR1' := (hR1.up hB2)
  obtain ⟨b, off, x, rfl, hb, hx, hc⟩ := hR2.elem encM_len (i := 0) rfl (by simp)
  simp at hx
  subst hx
  have hc0 : w2.cell? ⟨b, off, none⟩ = some (.int .i64 1) := by simpa using hc 0 _ rfl
  have hc1 : w2.cell? ⟨b, off + 1, none⟩ = some (.int .i64 0) := by simpa using hc 1 _ rfl
  have hc2 : w2.cell? ⟨b, off + 2, none⟩ = some (.int .i64 1) := by simpa using hc 2 _ rfl
  clear hc
  go_wp2_with fail
  refine (SameInts_any _ _ _ _ _ _ w2.heap.size (w2.heap.size + 1) [0, 0, 0, 1, 1] [0, 0, 0, 1, 1] _ (hR1'.alloc (Nat.le_refl _) _) ?_ (by simp) (by omega)).mono ?_
  · refine ⟨rfl, fun _ => ⟨w2.heap.size, 0, rfl, by omega, ?_⟩⟩
    intro j u hu
    rw [(Blk.new w2 _ _).cell]
    simpa using hu
  rintro e w3 ⟨rfl, n3, rfl⟩
  go_wp2
  go_ret
  exact ⟨rfl, bstep (bstep hB1 hB2) (below_drewN ((Below.refl _ _).alloc (Nat.le_refl _) _) n3)⟩

def swp (x : Nat × Nat × Nat) : Nat × Nat × Nat := (x.1, x.2.2, x.2.1)
theorem mvs_swap (g p q : Nat) : mvs g q p = (mvs g p q).map swp := by
  unfold mvs mvF
  rw [List.map_map]
  have h : (fun i => decide (i * p / g ≠ i * q / g)) = (fun i => decide (i * q / g ≠ i * p / g)) := by
    funext i; rw [decide_eq_decide]; exact ⟨fun h e => h e.symm, fun h e => h e.symm⟩
  rw [h]
  rfl
theorem mvs_len (g p q : Nat) (hg : g ≤ 128) : (mvs g p q).length ≤ 128 := by
  have := mvF_len g p q (List.range g)
  rw [List.length_range] at this
  exact Nat.le_trans this hg

end Go.Proofs.YthngjbhamgmcgaaDoor
