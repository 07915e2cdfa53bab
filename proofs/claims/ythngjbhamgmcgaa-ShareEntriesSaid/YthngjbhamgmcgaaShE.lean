/-
  The walks of share.Moves and tidewrightref12.Moves where the numbers are out of range, and of the chapter's example (awake).
-/
import Derived.Test.YthngjbhamgmcgaaShD
namespace Go.Proofs.Ythngjbhamgmcgaa
open Go.RowKit Go.Shelf
attribute [local go_sem] Oper.semAt_some

theorem Moves_no (g p q : Int) (h : rightB p g = false ∨ rightB q g = false) (w : World) :
    Calls Try.prog 9 #[.int .i64 g, .int .i64 p, .int .i64 q] w (RetSlE w 3 0 [] 7) := by
  rcases h with h | h
  · go_enter Try.func9, Try.ntmps9
    go_wp2_with (go_at_call 41; refine (right_any _ _ _).mono ?_; rintro e w' ⟨rfl, rfl⟩)
    go_ret2
    exact ⟨none, 0, rfl, Reads.none_, by go_grown⟩
  · by_cases h0 : rightB p g = true
    · go_enter Try.func9, Try.ntmps9
      go_wp2_with (go_at_call 41; refine (right_any _ _ _).mono ?_; rintro e w' ⟨rfl, rfl⟩)
      go_ret2
      exact ⟨none, 0, rfl, Reads.none_, by go_grown⟩
    · have h0' : rightB p g = false := by simpa using h0
      go_enter Try.func9, Try.ntmps9
      go_wp2_with (go_at_call 41; refine (right_any _ _ _).mono ?_; rintro e w' ⟨rfl, rfl⟩)
      go_ret2
      exact ⟨none, 0, rfl, Reads.none_, by go_grown⟩

theorem RMoves_no (g p q : Int) (h : rightB p g = false ∨ rightB q g = false) (w : World) :
    Calls Try.prog 10 #[.int .i64 g, .int .i64 p, .int .i64 q] w (RetSlE w 3 0 [] 7) := by
  by_cases h0 : rightB p g = true
  · have h1 : decide (1 ≤ q ∧ q ≤ 16) = false := by
      rcases h with h | h
      · rw [h0] at h; cases h
      · simp [rightB] at h0 h ⊢; omega
    clear h
    go_enter Try.func10, Try.ntmps10
    go_wp2_with (first | (go_at_call 43; refine (numbers_any _ _ _).mono ?_; rintro e w' ⟨rfl, rfl⟩) | (go_at_call 44; refine (In_any _ _ _).mono ?_; rintro e w' ⟨rfl, rfl⟩))
    go_ret2
    exact ⟨none, 0, rfl, Reads.none_, by go_grown⟩
  · have h0' : rightB p g = false := by simpa using h0
    clear h h0
    go_enter Try.func10, Try.ntmps10
    go_wp2_with (first | (go_at_call 43; refine (numbers_any _ _ _).mono ?_; rintro e w' ⟨rfl, rfl⟩) | (go_at_call 44; refine (In_any _ _ _).mono ?_; rintro e w' ⟨rfl, rfl⟩))
    go_ret2
    exact ⟨none, 0, rfl, Reads.none_, by go_grown⟩

/-- The chapter's example holds. -/
theorem awake_any (w : World) : Calls Try.prog 8 #[] w (RetV w (.bool true)) := by
  have em : mvs 5 2 5 = [(1, 0, 1), (2, 0, 2), (3, 1, 3), (4, 1, 4)] := by decide
  have eo : owns 5 2 = [0, 0, 0, 1, 1] := by decide
  have EM := hide em
  have EO := hide eo
  clear em eo
  have hne := eqMove
  have hm : Try.prog.eqGuardType Try.prog.depth 28 = false := by kernel_rfl
  go_enter Try.func8, Try.ntmps8
  go_wp2_with fail
  refine (Owners_yes 5 2 (by omega) (by omega) (by omega) (by omega) _).mono ?_
  rintro e w1 ⟨A1, c1, rfl, hR1, hB1⟩
  rw [EO.out] at hR1 ⊢
  go_wp2_with fail
  refine (Moves_yes 5 2 5 (by omega) (by omega) (by omega) (by omega) (by omega) (by omega) _).mono ?_
  rintro e w2 ⟨A2, c2, rfl, hR2, hB2⟩
  rw [EM.out] at hR2 ⊢
  have hR1' := (hR1.up hB2)
  obtain ⟨b, off, x, rfl, hb, hx, hc⟩ := hR2.elem encM_len (i := 0) rfl (by simp)
  simp at hx
  subst hx
  have hc0 : w2.cell? ⟨b, off, none⟩ = some (.int .i64 1) := by simpa using hc 0 _ rfl
  have hc1 : w2.cell? ⟨b, off + 1, none⟩ = some (.int .i64 0) := by simpa using hc 1 _ rfl
  have hc2 : w2.cell? ⟨b, off + 2, none⟩ = some (.int .i64 1) := by simpa using hc 2 _ rfl
  clear hc
  go_wp2_with fail
  refine (SameInts_any _ _ _ _ _ _ w2.heap.size (w2.heap.size + 1) [0, 0, 0, 1, 1] [0, 0, 0, 1, 1] _ (hR1'.alloc (Nat.le_refl _) _) ?_ (by simp) (by omega)).mono ?_
  · refine ⟨rfl, fun _ => ⟨w2.heap.size, 0, rfl, by omega, ?_⟩⟩
    intro j u hu
    rw [(Blk.new w2 _ _).cell]
    simpa using hu
  rintro e w3 ⟨rfl, n3, rfl⟩
  go_wp2
  go_ret
  exact ⟨rfl, bstep (bstep hB1 hB2) (below_drewN ((Below.refl _ _).alloc (Nat.le_refl _) _) n3)⟩

def swp (x : Nat × Nat × Nat) : Nat × Nat × Nat := (x.1, x.2.2, x.2.1)
theorem mvs_swap (g p q : Nat) : mvs g q p = (mvs g p q).map swp := by
  unfold mvs mvF
  rw [List.map_map]
  have h : (fun i => decide (i * p / g ≠ i * q / g)) = (fun i => decide (i * q / g ≠ i * p / g)) := by
    funext i; rw [decide_eq_decide]; exact ⟨fun h e => h e.symm, fun h e => h e.symm⟩
  rw [h]
  rfl
theorem mvs_len (g p q : Nat) (hg : g ≤ 128) : (mvs g p q).length ≤ 128 := by
  have := mvF_len g p q (List.range g)
  rw [List.length_range] at this
  exact Nat.le_trans this hg

set_option maxRecDepth 100000 in
set_option maxHeartbeats 2000000 in
theorem law_yes (g p q : Nat) (hg1 : 1 ≤ g) (hg : g ≤ 128) (hp1 : 1 ≤ p) (hp : p ≤ 16) (hq1 : 1 ≤ q) (hq : q ≤ 16) (w : World) :
    Calls Try.prog 3 #[.int .i64 (g : Int), .int .i64 (p : Int), .int .i64 (q : Int)] w (RetV w (.bool true)) := by
  have hml := mvs_len g p q hg
  obtain ⟨L, hL⟩ : ∃ L, mvs g p q = L := ⟨_, rfl⟩
  have hL2 : mvs g q p = L.map swp := by rw [mvs_swap, hL]
  have cA := fun W => Moves_yes g p q hg1 hg hp1 hp hq1 hq W
  have cB := fun W => RMoves_yes g p q hg1 hg hp1 hp hq1 hq W
  have cC := fun W => Moves_yes g q p hg1 hg hq1 hq hp1 hp W
  rw [hL] at hml
  simp only [hL] at cA cB
  simp only [hL2, List.length_map] at cC
  clear hL hL2
  have CA := hide cA
  have CB := hide cB
  have CC := hide cC
  clear cA cB cC
  obtain ⟨n, hn⟩ : ∃ n, L.length = n := ⟨_, rfl⟩
  rw [hn] at hml CA CB CC
  have HN := hide hn
  clear hn
  go_enter Try.func3, Try.ntmps3
  go_wp2_with fail
  refine (awake_any _).mono ?_
  rintro e w0 ⟨rfl, hB0⟩
  go_wp2_with fail
  refine (CA.out _).mono ?_
  rintro e w1 ⟨A1, c1, rfl, hR1, hB1⟩
  go_wp2_with fail
  refine (CB.out _).mono ?_
  rintro e w2 ⟨A2, c2, rfl, hR2, hB2⟩
  go_wp2_with fail
  refine (CC.out _).mono ?_
  rintro e w3 ⟨A3, c3, rfl, hR3, hB3⟩
  have hR1' := (hR1.up hB2).up hB3
  have hR2' := hR2.up hB3
  have hB := bstep (bstep (bstep hB0 hB1) hB2) hB3
  clear hR1 hR2 hB0 hB1 hB2 hB3
  have hn1 := neqMove
  have hm : Try.prog.eqGuardType Try.prog.depth 28 = false := by kernel_rfl
  go_wp2_with fail
  go_loopw [13] (fun i wr => ∃ k q : Nat, k ≤ n ∧ i = .int .i64 k ∧ wr = w3.drewN q) (fun i _ => n - (intOf i).toNat)
  case atStart => exact ⟨0, 0, Nat.zero_le _, rfl, rfl⟩
  case round =>
    obtain ⟨k, d, hk, rfl, rfl⟩ := hrel
    by_cases hlt : k < n
    · obtain ⟨b1, o1, x, rfl, hb1, hx1, hc1⟩ := hR1'.elem encM_len HN.out hlt
      obtain ⟨b2, o2, x2, rfl, hb2, hx2, hc2⟩ := hR2'.elem encM_len HN.out hlt
      obtain rfl : x2 = x := Option.some.inj (hx2.symm.trans hx1)
      obtain ⟨b3, o3, x3, rfl, hb3, hx3, hc3⟩ := hR3.elem encM_len (by rw [List.length_map]; exact HN.out) hlt
      obtain rfl : x3 = swp x2 := by rw [List.getElem?_map, hx1] at hx3; simpa using hx3.symm
      have d10 := hc1 0 _ rfl
      have d11 := hc1 1 _ rfl
      have d12 := hc1 2 _ rfl
      have d20 := hc2 0 _ rfl
      have d21 := hc2 1 _ rfl
      have d22 := hc2 2 _ rfl
      have d30 := hc3 0 _ rfl
      have d31 := hc3 1 _ rfl
      have d32 := hc3 2 _ rfl
      clear hc1 hc2 hc3 hx1 hx2 hx3
      simp only [swp, Nat.add_zero, ← Nat.add_assoc] at d10 d11 d12 d20 d21 d22 d30 d31 d32
      go_wp2
      go_quiet (fail)
      go_wp2
      go_roundw
      case rel => exact ⟨k + 1, _, by omega, by go_num, by first | rfl | exact World.drewN_drewN _ _ _⟩
      case measure => simp [intOf]; omega
    · obtain rfl : k = n := by omega
      go_wp2
      go_ret
      exact ⟨rfl, below_drewN hB d⟩

theorem law_no (g p q : Int) (h : rightB p g = false ∨ rightB q g = false) (w : World) :
    Calls Try.prog 3 #[.int .i64 g, .int .i64 p, .int .i64 q] w (RetV w (.bool true)) := by
  have CA := hide (fun W => Moves_no g p q h W)
  have CB := hide (fun W => RMoves_no g p q h W)
  have CC := hide (fun W => Moves_no g q p h.symm W)
  clear h
  go_enter Try.func3, Try.ntmps3
  go_wp2_with fail
  refine (awake_any _).mono ?_
  rintro e w0 ⟨rfl, hB0⟩
  go_wp2_with fail
  refine (CA.out _).mono ?_
  rintro e w1 ⟨A1, c1, rfl, hR1, hB1⟩
  go_wp2_with fail
  refine (CB.out _).mono ?_
  rintro e w2 ⟨A2, c2, rfl, hR2, hB2⟩
  go_wp2_with fail
  refine (CC.out _).mono ?_
  rintro e w3 ⟨A3, c3, rfl, hR3, hB3⟩
  have hB := bstep (bstep (bstep hB0 hB1) hB2) hB3
  clear hR1 hR2 hR3 hB0 hB1 hB2 hB3
  go_wp2_with fail
  go_loopw [13] (fun i wr => i = .int .i64 0 ∧ wr = w3) (fun i _ => 0)
  case atStart => exact ⟨rfl, rfl⟩
  case round =>
    obtain ⟨rfl, rfl⟩ := hrel
    go_wp2
    go_ret
    exact ⟨rfl, hB⟩

theorem law_all (g p q : Int) (w : World) :
    Calls Try.prog 3 #[.int .i64 g, .int .i64 p, .int .i64 q] w (RetV w (.bool true)) := by
  by_cases h1 : rightB p g = true
  · by_cases h2 : rightB q g = true
    · simp only [rightB, decide_eq_true_eq] at h1 h2
      obtain ⟨G, rfl⟩ := Int.eq_ofNat_of_zero_le (show 0 ≤ g by omega)
      obtain ⟨P, rfl⟩ := Int.eq_ofNat_of_zero_le (show 0 ≤ p by omega)
      obtain ⟨Q, rfl⟩ := Int.eq_ofNat_of_zero_le (show 0 ≤ q by omega)
      exact law_yes G P Q (by omega) (by omega) (by omega) (by omega) (by omega) (by omega) w
    · exact law_no g p q (.inr (by simpa using h2)) w
  · exact law_no g p q (.inl (by simpa using h1)) w
end Go.Proofs.Ythngjbhamgmcgaa
