/-
  The walk of the law ShareParts.
-/
import Derived.Test.YthngjbhamgmcgaaShS
namespace Go.Proofs.Ythngjbhamgmcgaa
open Go.RowKit Go.Shelf
attribute [local go_sem] Oper.semAt_some

theorem Range_nat (i p G : Nat) (hp1 : 1 ≤ p) (hp : p ≤ 16) (hG1 : 1 ≤ G) (hG : G ≤ 128) (hi : i < p) (w : World) : Calls Try.prog 17 #[.int .i64 (i : Int), .int .i64 (p : Int), .int .i64 (G : Int)] w fun e w' => e = .returned (.tuple #[.int .i64 ((fstN i p G : Nat) : Int), .int .i64 ((fstN (i + 1) p G : Nat) : Int), .int .i64 0]) ∧ w = w' := by
  have h : rightB (p : Int) (G : Int) = true := by rw [rightB_iff]; omega
  have hc := Range_any (i : Int) (p : Int) (G : Int) w
  unfold rngE at hc
  rw [if_pos (by simp [h]; omega), fst_cast i p G hp1, show ((i : Int) + 1) = ((i + 1 : Nat) : Int) from rfl, fst_cast (i + 1) p G hp1] at hc
  exact hc

set_option maxRecDepth 100000 in
theorem parts_long (s : ByteArray) (hs : s.size ≤ maxLen) (hl : 300 < s.size) (group part p g : Int) (w : World) :
    Calls Try.prog 4 #[.string s, .int .i64 group, .int .i64 part, .int .i64 p, .int .i64 g] w (RetV w (.bool true)) := by
  unfold maxLen at hs
  go_enter Try.func4, Try.ntmps4
  go_wp2_with fail
  refine (awake_any _).mono ?_
  rintro e w0 ⟨rfl, hB0⟩
  go_wp2_with fail
  go_ret
  exact ⟨rfl, hB0⟩

set_option maxRecDepth 100000 in
set_option maxHeartbeats 2000000 in
theorem parts_no (s : ByteArray) (hl : s.size ≤ 300) (group part p g : Int) (h : rightB p g = false) (w : World) :
    Calls Try.prog 4 #[.string s, .int .i64 group, .int .i64 part, .int .i64 p, .int .i64 g] w (RetV w (.bool true)) := by
  have cO := hide (fun W => Owners_no g p h W)
  have cR := hide (fun W => ROwners_no g p h W)
  clear h
  have hs : s.size ≤ 65536 := by omega
  have c1 := hide (fun W => Group_any s hs g W)
  have c2 := hide (fun W => RGroup_any s hs g W)
  have c3 := hide (fun W => Part_any group p g W)
  have c4 := hide (fun W => RPart_any group p g W)
  have c5 := hide (fun W => Of_any s hs p g W)
  have c6 := hide (fun W => ROf_any s hs p g W)
  have c7 := hide (fun W => Range_any part p g W)
  have c8 := hide (fun W => RRange_any part p g W)
  go_enter Try.func4, Try.ntmps4
  go_wp2_with fail
  refine (awake_any _).mono ?_
  rintro e w0 ⟨rfl, hB0⟩
  go_wp2_with fail
  refine (c1.out _).mono ?_
  rintro e w' ⟨rfl, rfl⟩
  go_wp2_with fail
  refine (c2.out _).mono ?_
  rintro e w' ⟨rfl, rfl⟩
  go_wp2_with fail
  refine (c3.out _).mono ?_
  rintro e w' ⟨rfl, rfl⟩
  go_wp2_with fail
  refine (c4.out _).mono ?_
  rintro e w' ⟨rfl, rfl⟩
  go_wp2_with fail
  refine (c5.out _).mono ?_
  rintro e w' ⟨rfl, rfl⟩
  go_wp2_with fail
  refine (c6.out _).mono ?_
  rintro e w' ⟨rfl, rfl⟩
  go_wp2_with fail
  refine (c7.out _).mono ?_
  rintro e w' ⟨rfl, rfl⟩
  go_wp2_with fail
  refine (c8.out _).mono ?_
  rintro e w' ⟨rfl, rfl⟩
  go_wp2_with fail
  refine (cO.out _).mono ?_
  rintro e w1 ⟨A1, k1, rfl, hR1, hB1⟩
  go_wp2_with fail
  refine (cR.out _).mono ?_
  rintro e w2 ⟨A2, k2, rfl, hR2, hB2⟩
  go_wp2_with fail
  refine (SameInts_any A1 A2 0 0 _ _ w2.heap.size w2.heap.size [] [] _ (hR1.up hB2) hR2 (by omega) (by omega)).mono ?_
  rintro e w3 ⟨rfl, n3, rfl⟩
  go_wp2
  go_ret
  exact ⟨rfl, below_drewN (bstep (bstep hB0 hB1) hB2) n3⟩

set_option maxRecDepth 100000 in
set_option maxHeartbeats 4000000 in
theorem parts_yes (s : ByteArray) (hl : s.size ≤ 300) (group part : Int) (p g : Nat) (hg1 : 1 ≤ g) (hg : g ≤ 128) (hp1 : 1 ≤ p) (hp : p ≤ 16) (w : World) :
    Calls Try.prog 4 #[.string s, .int .i64 group, .int .i64 part, .int .i64 (p : Int), .int .i64 (g : Int)] w (RetV w (.bool true)) := by
  have cO := fun W => Owners_yes g p hg1 hg hp1 hp W
  have cR := fun W => ROwners_yes g p hg1 hg hp1 hp W
  have hlen : (owns g p).length = g := by unfold owns; rw [ownF_len, List.length_range]
  have hat : ∀ i, i < g → (owns g p)[i]? = some ((i * p / g : Nat) : Int) := by
    intro i hi; unfold owns ownF own1; rw [List.getElem?_map, List.getElem?_range hi]; rfl
  obtain ⟨L, hL⟩ : ∃ L, owns g p = L := ⟨_, rfl⟩
  simp only [hL] at cO cR hlen hat
  clear hL
  simp only [hlen] at cO cR
  have HL := hide hlen
  have HA := hide hat
  clear hlen hat
  have CO := hide cO
  have CR := hide cR
  clear cO cR
  have hs : s.size ≤ 65536 := by omega
  have c1 := hide (fun W => Group_any s hs (g : Int) W)
  have c2 := hide (fun W => RGroup_any s hs (g : Int) W)
  have c3 := hide (fun W => Part_any group (p : Int) (g : Int) W)
  have c4 := hide (fun W => RPart_any group (p : Int) (g : Int) W)
  have c5 := hide (fun W => Of_any s hs (p : Int) (g : Int) W)
  have c6 := hide (fun W => ROf_any s hs (p : Int) (g : Int) W)
  have c7 := hide (fun W => Range_any part (p : Int) (g : Int) W)
  have c8 := hide (fun W => RRange_any part (p : Int) (g : Int) W)
  have CN := hide (fun i hi W => Range_nat i p g hp1 hp hg1 hg hi W)
  have HF := hide (fun k i => lt_fst k i p g hp1 hg1)
  have HZ := hide (fst_zero p g hp1)
  have HE := hide (fst_all p g hp1)
  have HM := hide (fun i j h => fst_mono i j p g h)
  go_enter Try.func4, Try.ntmps4
  go_wp2_with fail
  refine (awake_any _).mono ?_
  rintro e w0 ⟨rfl, hB0⟩
  go_wp2_with fail
  refine (c1.out _).mono ?_
  rintro e w' ⟨rfl, rfl⟩
  go_wp2_with fail
  refine (c2.out _).mono ?_
  rintro e w' ⟨rfl, rfl⟩
  go_wp2_with fail
  refine (c3.out _).mono ?_
  rintro e w' ⟨rfl, rfl⟩
  go_wp2_with fail
  refine (c4.out _).mono ?_
  rintro e w' ⟨rfl, rfl⟩
  go_wp2_with fail
  refine (c5.out _).mono ?_
  rintro e w' ⟨rfl, rfl⟩
  go_wp2_with fail
  refine (c6.out _).mono ?_
  rintro e w' ⟨rfl, rfl⟩
  go_wp2_with fail
  refine (c7.out _).mono ?_
  rintro e w' ⟨rfl, rfl⟩
  go_wp2_with fail
  refine (c8.out _).mono ?_
  rintro e w' ⟨rfl, rfl⟩
  go_wp2_with fail
  refine (CO.out _).mono ?_
  rintro e w1 ⟨A1, k1, rfl, hR1, hB1⟩
  go_wp2_with fail
  refine (CR.out _).mono ?_
  rintro e w2 ⟨A2, k2, rfl, hR2, hB2⟩
  have hR1' := hR1.up hB2
  go_wp2_with fail
  refine (SameInts_any A1 A2 g g _ _ w2.heap.size w2.heap.size L L _ hR1' hR2 (by omega) (by omega)).mono ?_
  rintro e w3 ⟨rfl, n3, rfl⟩
  have hB := bstep (bstep hB0 hB1) hB2
  clear hR1 hR2 hB0 hB1 hB2
  go_wp2_with fail
  go_loopw [21, 22] (fun a i wr => ∃ k q : Nat, k ≤ p ∧ i = .int .i64 k ∧ a = .int .i64 (fstN k p g : Nat) ∧ wr = w2.drewN q) (fun _ i _ => p - (intOf i).toNat)
  case atStart => exact ⟨0, _, Nat.zero_le _, rfl, by rw [HZ.out]; rfl, rfl⟩
  case round =>
    obtain ⟨k, d, hk, rfl, rfl, rfl⟩ := hrel
    by_cases hlt : k < p
    · have hf := HM.out k (k + 1) (by omega)
      have hg2 := HM.out (k + 1) p (by omega)
      rw [HE.out] at hg2
      have h1 := fun j => HF.out j k
      have h2 := fun j => HF.out j (k + 1)
      have cN := fun W => CN.out k hlt W
      obtain ⟨f, ef⟩ : ∃ f, fstN k p g = f := ⟨_, rfl⟩
      obtain ⟨t, et⟩ : ∃ t, fstN (k + 1) p g = t := ⟨_, rfl⟩
      rw [ef] at hf ⊢
      rw [et] at hf hg2
      simp only [ef] at h1
      simp only [et] at h2
      simp only [ef, et] at cN
      have HT := hide et
      clear ef et
      have H1 := hide h1
      have H2 := hide h2
      clear h1 h2
      have CN' := hide cN
      clear cN
      go_wp2_with fail
      refine (CN'.out _).mono ?_
      rintro e w' ⟨rfl, rfl⟩
      have hge : decide (t < f) = false := by simp; omega
      go_wp2_with fail
      go_loopw [26] (fun v wr => ∃ j q : Nat, f ≤ j ∧ j ≤ t ∧ v = .int .i64 j ∧ wr = w2.drewN q) (fun v _ => t - (intOf v).toNat)
      case atStart => exact ⟨f, _, Nat.le_refl _, hf, rfl, rfl⟩
      case round =>
        obtain ⟨j, q, hfj, hjt, rfl, rfl⟩ := hrel
        by_cases hlt2 : j < t
        · have hjg : j < g := by omega
          have ho : j * p / g = k := by
            have a1 := (H2.out j).1 hlt2
            have a2 : ¬ j * p / g < k := fun h => by have := (H1.out j).2 h; omega
            omega
          obtain ⟨b, off, x, rfl, hb, hx, hc⟩ := hR1'.at1 hjg
          have hx2 := HA.out j hjg
          rw [hx2, ho] at hx
          obtain rfl : ((k : Nat) : Int) = x := by simpa using hx
          clear hx hx2
          go_wp2
          go_roundw
          case rel => exact ⟨j + 1, _, by omega, by omega, by go_num, by first | rfl | exact World.drewN_drewN _ _ _⟩
          case measure => simp [intOf]; omega
        · obtain rfl : j = t := by omega
          go_wp2
          all_goals
            go_roundw
            case rel => exact ⟨k + 1, _, by omega, by go_num, by rw [HT.out] <;> first | rfl | (congr 2; omega), by first | rfl | exact World.drewN_drewN _ _ _⟩
            case measure => simp [intOf]; omega
    · obtain rfl : k = p := by omega
      have HE' := HE.out
      go_wp2
      go_ret
      exact ⟨ret_bool (by simp), below_drewN hB d⟩

theorem parts_all (s : ByteArray) (hs : s.size ≤ maxLen) (group part p g : Int) (w : World) :
    Calls Try.prog 4 #[.string s, .int .i64 group, .int .i64 part, .int .i64 p, .int .i64 g] w (RetV w (.bool true)) := by
  by_cases hl : s.size ≤ 300
  · by_cases h1 : rightB p g = true
    · have h0 := (rightB_iff p g).1 h1
      obtain ⟨G, rfl⟩ := Int.eq_ofNat_of_zero_le (show 0 ≤ g by omega)
      obtain ⟨P, rfl⟩ := Int.eq_ofNat_of_zero_le (show 0 ≤ p by omega)
      exact parts_yes s hl group part P G (by omega) (by omega) (by omega) (by omega) w
    · exact parts_no s hl group part p g (by simpa using h1) w
  · exact parts_long s hs (by omega) group part p g w
end Go.Proofs.Ythngjbhamgmcgaa
