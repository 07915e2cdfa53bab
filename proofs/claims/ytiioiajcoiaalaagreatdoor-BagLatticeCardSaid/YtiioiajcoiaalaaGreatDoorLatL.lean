/-
  The walk of BagLattice, for every two bags. (Printed by gen_latl.)
-/
import Derived.Test.YtiioiajcoiaalaaGreatDoorLatD
import Derived.Test.YtiioiajcoiaalaaGreatDoorBcL
namespace Go.Proofs.YtiioiajcoiaalaaGreatDoor
open Go.RowKit
attribute [local go_sem] Oper.semAt_some
set_option linter.unusedVariables false
set_option linter.unusedSimpArgs false

theorem meet_leE {a b d : Bg} (h : comb (fE false) a b = (d, 0)) : leB d a = true ∧ leB d b = true := meet_le h
theorem join_geE {a b d : Bg} (h : comb (fE true) a b = (d, 0)) : leB a d = true ∧ leB b d = true := join_ge h
theorem fE_self (g : Bool) (m : Int) : fE g m m = m := by cases g <;> simp [fE]
theorem distE_again {d e : Bg} (h : distE d = (e, 0)) : distE e = (e, 0) := by
  unfold distE at h
  cases ho : okBag d
  · rw [ho] at h; cases h
  rw [ho] at h
  simp only [if_true] at h
  injection h with h
  subst h
  unfold distE
  rw [dist_ok ho, dist_dist]
  rfl
theorem Within_any (A : Option Addr) (n c : Nat) (la : List It) (A' : Option Addr) (n' c' : Nat) (lb : List It) (w : World) (ha : BagR w w.heap.size A n la) (hb : BagR w w.heap.size A' n' lb) (hc : n ≤ c) (hc' : n' ≤ c') :
    Calls Tryz.prog 20 #[.slice A n c, .slice A' n' c'] w (RetV w (.bool (leB (dat la) (dat lb)))) := callsIn_wide.1 (Within_gen A n c la A' n' c' lb w ha hb hc hc')
set_option maxRecDepth 100000 in
set_option maxHeartbeats 8000000 in
theorem bagLattice_all (A1 : Option Addr) (n1 c1 : Nat) (l1 : List It) (A2 : Option Addr) (n2 c2 : Nat) (l2 : List It) (w : World)
    (h1 : BagR w w.heap.size A1 n1 l1) (h2 : BagR w w.heap.size A2 n2 l2) (k1 : n1 ≤ c1) (k2 : n2 ≤ c2) (ht : Tab w) :
    Calls Tryz.prog 4 #[.slice A1 n1 c1, .slice A2 n2 c2] w (RetV w (.bool true)) := by
  have hB0 := below_val (w := w) #[.slice A1 n1 c1, .slice A2 n2 c2] 23
  have b0 := Blk.new w 23 #[.slice A1 n1 c1, .slice A2 n2 c2]
  have g1 := h1.step hB0
  have g2 := h2.step hB0
  have HF := hide (Few_any [⟨A1, n1, c1, l1⟩, ⟨A2, n2, c2, l2⟩] 2 w.heap.size _ rfl (by omega) (fun i x hx => by
    have hi := (List.getElem?_eq_some_iff.1 hx).1
    simp only [List.length_cons, List.length_nil] at hi
    match i, hi, hx with
    | 0, _, hx => injection hx with hx; subst hx; exact ⟨by rw [b0.cell]; rfl, g1⟩
    | 1, _, hx => injection hx with hx; subst hx; exact ⟨by rw [b0.cell]; rfl, g2⟩))
  clear b0 g1 g2
  have H0 := hide hB0
  clear hB0
  have HA := hide (awake_any)
  go_enter Tryz.func4, Tryz.ntmps4
  go_wp2_with fail
  refine HF.out.mono ?_
  rintro e W1 ⟨b, rfl, _, hB1⟩
  have hB := bstep H0.out hB1
  clear hB1 HF H0
  cases b
  · go_wp2_with fail
    refine (HA.out W1).mono ?_
    rintro e W2 ⟨rfl, hB2⟩
    have HE := hide (bstep hB hB2)
    clear hB hB2
    go_wp2
    go_ret
    exact ⟨rfl, HE.out⟩
  obtain ⟨dd, ED, hp1⟩ : ∃ d E, distE (dat l1) = (d, E) := ⟨_, _, rfl⟩
  obtain ⟨dm, EM, hp2⟩ : ∃ d E, comb (fE false) (dat l1) (dat l2) = (d, E) := ⟨_, _, rfl⟩
  obtain ⟨dj, EJ, hp3⟩ : ∃ d E, comb (fE true) (dat l1) (dat l2) = (d, E) := ⟨_, _, rfl⟩
  obtain ⟨bw, hp4⟩ : ∃ b, leB (dat l1) (dat l2) = b := ⟨_, rfl⟩
  have zD : (ED != ED) = false := by simp
  have zM : (EM != EM) = false := by simp
  have zJ : (EJ != EJ) = false := by simp
  have zw : (bw != bw) = false := by simp
  have HP1 := hide hp1
  have HP2 := hide hp2
  have HP3 := hide hp3
  have HP4 := hide hp4
  clear hp1 hp2 hp3 hp4
  go_wp2_with fail
  refine (Distinct_any A1 n1 c1 l1 W1 (h1.step hB) (ht.below hB)).mono ?_
  rw [HP1.out]
  rintro e W2 ⟨A3, n3, c3, l3, rfl, hd3, hb3, hc3, hX⟩
  have hB := bstep hB hX
  clear hX
  go_wp2_with fail
  refine (RDistinct_any A1 n1 c1 l1 W2 (h1.step hB)).mono ?_
  rw [HP1.out]
  rintro e W3 ⟨A4, n4, c4, l4, rfl, hd4, hb4, hc4, hX⟩
  have hB := bstep hB hX
  have hb3 := hb3.step hX
  have HS := hide (same_dat (c := c3) (c' := c4) hb3 hb4 (by rw [hd3, hd4]))
  clear hX hb4 hd4
  go_wp2_with fail
  refine HS.out.mono ?_
  rintro e W4 ⟨rfl, hX⟩
  have hB := bstep hB hX
  have hb3 := hb3.step hX
  clear hX HS
  go_wp2_with fail
  refine (Within_any A1 n1 c1 l1 A2 n2 c2 l2 W4 (h1.step hB) (h2.step hB) k1 k2).mono ?_
  rw [HP4.out]
  rintro e W5 ⟨rfl, hX⟩
  have hB := bstep hB hX
  have hb3 := hb3.step hX
  clear hX
  go_wp2_with fail
  refine (RWithin_any A1 n1 c1 l1 A2 n2 c2 l2 W5 (h1.step hB) (h2.step hB)).mono ?_
  rw [HP4.out]
  rintro e W6 ⟨rfl, hX⟩
  have hB := bstep hB hX
  have hb3 := hb3.step hX
  clear hX
  by_cases h0 : ED = 0
  · subst h0
    have HAG := hide (show distE (dat l3) = (dd, 0) by rw [hd3]; exact distE_again HP1.out)
    go_wp2_with fail
    refine (Distinct_any A3 n3 c3 l3 W6 hb3 (ht.below hB)).mono ?_
    rw [HAG.out]
    rintro e W7 ⟨A5, n5, c5, l5, rfl, hd5, hb5, hc5, hX⟩
    have hB := bstep hB hX
    have hb3 := hb3.step hX
    have HS := hide (same_dat (c := c3) (c' := c5) hb3 hb5 (by rw [hd3, hd5]))
    clear hX hb5 hd5
    go_wp2_with fail
    refine HS.out.mono ?_
    rintro e W8 ⟨rfl, hX⟩
    have hB := bstep hB hX
    clear hX HS hb3 hd3
    go_wp2_with fail
    refine (Meet_any A1 n1 c1 l1 A2 n2 c2 l2 W8 (h1.step hB) (h2.step hB) k1 k2).mono ?_
    rw [HP2.out]
    rintro e W9 ⟨A6, n6, c6, l6, rfl, hd6, hb6, hc6, hX⟩
    have hB := bstep hB hX
    clear hX
    go_wp2_with fail
    refine (RMeet_any A1 n1 c1 l1 A2 n2 c2 l2 W9 (h1.step hB) (h2.step hB)).mono ?_
    rw [HP2.out]
    rintro e W10 ⟨A7, n7, c7, l7, rfl, hd7, hb7, hc7, hX⟩
    have hB := bstep hB hX
    have hb6 := hb6.step hX
    have HS := hide (same_dat (c := c6) (c' := c7) hb6 hb7 (by rw [hd6, hd7]))
    clear hX hb7 hd7
    go_wp2_with fail
    refine HS.out.mono ?_
    rintro e W11 ⟨rfl, hX⟩
    have hB := bstep hB hX
    have hb6 := hb6.step hX
    clear hX HS
    go_wp2_with fail
    refine (Join_any A1 n1 c1 l1 A2 n2 c2 l2 W11 (h1.step hB) (h2.step hB) k1 k2).mono ?_
    rw [HP3.out]
    rintro e W12 ⟨A8, n8, c8, l8, rfl, hd8, hb8, hc8, hX⟩
    have hB := bstep hB hX
    have hb6 := hb6.step hX
    clear hX
    go_wp2_with fail
    refine (RJoin_any A1 n1 c1 l1 A2 n2 c2 l2 W12 (h1.step hB) (h2.step hB)).mono ?_
    rw [HP3.out]
    rintro e W13 ⟨A9, n9, c9, l9, rfl, hd9, hb9, hc9, hX⟩
    have hB := bstep hB hX
    have hb6 := hb6.step hX
    have hb8 := hb8.step hX
    have HS := hide (same_dat (c := c8) (c' := c9) hb8 hb9 (by rw [hd8, hd9]))
    clear hX hb9 hd9
    go_wp2_with fail
    refine HS.out.mono ?_
    rintro e W14 ⟨rfl, hX⟩
    have hB := bstep hB hX
    have hb6 := hb6.step hX
    have hb8 := hb8.step hX
    clear hX HS
    by_cases hM : EM = 0
    · subst hM
      have HL := hide (meet_leE (a := dat l1) (b := dat l2) (d := dm) HP2.out)
      go_wp2_with fail
      refine (Within_any A6 n6 c6 l6 A1 n1 c1 l1 W14 hb6 (h1.step hB) hc6 k1).mono ?_
      rw [hd6, HL.out.1]
      rintro e W15 ⟨rfl, hX⟩
      have hB := bstep hB hX
      have hb6 := hb6.step hX
      have hb8 := hb8.step hX
      clear hX
      go_wp2_with fail
      refine (Within_any A6 n6 c6 l6 A2 n2 c2 l2 W15 hb6 (h2.step hB) hc6 k2).mono ?_
      rw [hd6, HL.out.2]
      rintro e W16 ⟨rfl, hX⟩
      have hB := bstep hB hX
      have hb8 := hb8.step hX
      clear hX hb6 hd6 HL
      by_cases hJ : EJ = 0
      · subst hJ
        have HL := hide (join_geE (a := dat l1) (b := dat l2) (d := dj) HP3.out)
        go_wp2_with fail
        refine (Within_any A1 n1 c1 l1 A8 n8 c8 l8 W16 (h1.step hB) hb8 k1 hc8).mono ?_
        rw [hd8, HL.out.1]
        rintro e W17 ⟨rfl, hX⟩
        have hB := bstep hB hX
        have hb8 := hb8.step hX
        clear hX
        go_wp2_with fail
        refine (Within_any A2 n2 c2 l2 A8 n8 c8 l8 W17 (h2.step hB) hb8 k2 hc8).mono ?_
        rw [hd8, HL.out.2]
        rintro e W18 ⟨rfl, hX⟩
        have hB := bstep hB hX
        clear hX hb8 hd8 HL
        obtain ⟨ds, ES, hps⟩ : ∃ d E, (if okBag (dat l1) then (dat l1, (0 : Int)) else ([], 1)) = (d, E) := ⟨_, _, rfl⟩
        have HPS := hide hps
        clear hps
        go_wp2_with fail
        refine (Meet_any A1 n1 c1 l1 A1 n1 c1 l1 W18 (h1.step hB) (h1.step hB) k1 k1).mono ?_
        rw [comb_self (fE_self false), HPS.out]
        rintro e W20 ⟨A10, n10, c10, l10, rfl, hd10, hb10, hc10, hX⟩
        have hB := bstep hB hX
        clear hX
        go_wp2_with fail
        refine (Join_any A1 n1 c1 l1 A1 n1 c1 l1 W20 (h1.step hB) (h1.step hB) k1 k1).mono ?_
        rw [comb_self (fE_self true), HPS.out]
        rintro e W21 ⟨A11, n11, c11, l11, rfl, hd11, hb11, hc11, hX⟩
        have hB := bstep hB hX
        have hb10 := hb10.step hX
        clear hX
        cases oa : okBag (dat l1)
        · have h3 := HPS.out
          rw [oa] at h3
          injection h3 with h3 h4
          subst h4
          clear h3 oa hb10 hb11 hd10 hd11
          go_wp2_with fail
          refine (HA.out W21).mono ?_
          rintro e W22 ⟨rfl, hX⟩
          have HE := hide (bstep hB hX)
          clear hB hX
          go_wp2
          go_ret
          exact ⟨rfl, HE.out⟩
        · have h3 := HPS.out
          rw [oa] at h3
          injection h3 with h3 h4
          subst h4
          have HS1 := hide (fun (W : World) (hX : Below W21.heap.size W21 W) => same_dat (c := c10) (c' := c1) (hb10.step hX) (h1.step (bstep hB hX)) (by rw [hd10, ← h3]))
          have HS2 := hide (fun (W : World) (hX : Below W21.heap.size W21 W) => same_dat (c := c11) (c' := c1) (hb11.step hX) (h1.step (bstep hB hX)) (by rw [hd11, ← h3]))
          clear h3 oa hb10 hb11 hd10 hd11
          go_wp2_with fail
          refine (HS1.out W21 (Below.refl _ _)).mono ?_
          rintro e W22 ⟨rfl, hX⟩
          have hB1 := hX
          clear hX
          go_wp2_with fail
          refine (HS2.out W22 hB1).mono ?_
          rintro e W23 ⟨rfl, hX⟩
          have hB := bstep (bstep hB hB1) hX
          clear hX hB1 HS1 HS2
          go_wp2_with fail
          refine (HA.out W23).mono ?_
          rintro e W24 ⟨rfl, hX⟩
          have HE := hide (bstep hB hX)
          clear hB hX
          go_wp2
          go_ret
          exact ⟨rfl, HE.out⟩
      · have nJ : (EJ == 0) = false := by simpa using hJ
        clear hJ hb8 hd8
        obtain ⟨ds, ES, hps⟩ : ∃ d E, (if okBag (dat l1) then (dat l1, (0 : Int)) else ([], 1)) = (d, E) := ⟨_, _, rfl⟩
        have HPS := hide hps
        clear hps
        go_wp2_with fail
        refine (Meet_any A1 n1 c1 l1 A1 n1 c1 l1 W16 (h1.step hB) (h1.step hB) k1 k1).mono ?_
        rw [comb_self (fE_self false), HPS.out]
        rintro e W20 ⟨A10, n10, c10, l10, rfl, hd10, hb10, hc10, hX⟩
        have hB := bstep hB hX
        clear hX
        go_wp2_with fail
        refine (Join_any A1 n1 c1 l1 A1 n1 c1 l1 W20 (h1.step hB) (h1.step hB) k1 k1).mono ?_
        rw [comb_self (fE_self true), HPS.out]
        rintro e W21 ⟨A11, n11, c11, l11, rfl, hd11, hb11, hc11, hX⟩
        have hB := bstep hB hX
        have hb10 := hb10.step hX
        clear hX
        cases oa : okBag (dat l1)
        · have h3 := HPS.out
          rw [oa] at h3
          injection h3 with h3 h4
          subst h4
          clear h3 oa hb10 hb11 hd10 hd11
          go_wp2_with fail
          refine (HA.out W21).mono ?_
          rintro e W22 ⟨rfl, hX⟩
          have HE := hide (bstep hB hX)
          clear hB hX
          go_wp2
          go_ret
          exact ⟨rfl, HE.out⟩
        · have h3 := HPS.out
          rw [oa] at h3
          injection h3 with h3 h4
          subst h4
          have HS1 := hide (fun (W : World) (hX : Below W21.heap.size W21 W) => same_dat (c := c10) (c' := c1) (hb10.step hX) (h1.step (bstep hB hX)) (by rw [hd10, ← h3]))
          have HS2 := hide (fun (W : World) (hX : Below W21.heap.size W21 W) => same_dat (c := c11) (c' := c1) (hb11.step hX) (h1.step (bstep hB hX)) (by rw [hd11, ← h3]))
          clear h3 oa hb10 hb11 hd10 hd11
          go_wp2_with fail
          refine (HS1.out W21 (Below.refl _ _)).mono ?_
          rintro e W22 ⟨rfl, hX⟩
          have hB1 := hX
          clear hX
          go_wp2_with fail
          refine (HS2.out W22 hB1).mono ?_
          rintro e W23 ⟨rfl, hX⟩
          have hB := bstep (bstep hB hB1) hX
          clear hX hB1 HS1 HS2
          go_wp2_with fail
          refine (HA.out W23).mono ?_
          rintro e W24 ⟨rfl, hX⟩
          have HE := hide (bstep hB hX)
          clear hB hX
          go_wp2
          go_ret
          exact ⟨rfl, HE.out⟩
    · have nM : (EM == 0) = false := by simpa using hM
      clear hM hb6 hd6
      by_cases hJ : EJ = 0
      · subst hJ
        have HL := hide (join_geE (a := dat l1) (b := dat l2) (d := dj) HP3.out)
        go_wp2_with fail
        refine (Within_any A1 n1 c1 l1 A8 n8 c8 l8 W14 (h1.step hB) hb8 k1 hc8).mono ?_
        rw [hd8, HL.out.1]
        rintro e W17 ⟨rfl, hX⟩
        have hB := bstep hB hX
        have hb8 := hb8.step hX
        clear hX
        go_wp2_with fail
        refine (Within_any A2 n2 c2 l2 A8 n8 c8 l8 W17 (h2.step hB) hb8 k2 hc8).mono ?_
        rw [hd8, HL.out.2]
        rintro e W18 ⟨rfl, hX⟩
        have hB := bstep hB hX
        clear hX hb8 hd8 HL
        obtain ⟨ds, ES, hps⟩ : ∃ d E, (if okBag (dat l1) then (dat l1, (0 : Int)) else ([], 1)) = (d, E) := ⟨_, _, rfl⟩
        have HPS := hide hps
        clear hps
        go_wp2_with fail
        refine (Meet_any A1 n1 c1 l1 A1 n1 c1 l1 W18 (h1.step hB) (h1.step hB) k1 k1).mono ?_
        rw [comb_self (fE_self false), HPS.out]
        rintro e W20 ⟨A10, n10, c10, l10, rfl, hd10, hb10, hc10, hX⟩
        have hB := bstep hB hX
        clear hX
        go_wp2_with fail
        refine (Join_any A1 n1 c1 l1 A1 n1 c1 l1 W20 (h1.step hB) (h1.step hB) k1 k1).mono ?_
        rw [comb_self (fE_self true), HPS.out]
        rintro e W21 ⟨A11, n11, c11, l11, rfl, hd11, hb11, hc11, hX⟩
        have hB := bstep hB hX
        have hb10 := hb10.step hX
        clear hX
        cases oa : okBag (dat l1)
        · have h3 := HPS.out
          rw [oa] at h3
          injection h3 with h3 h4
          subst h4
          clear h3 oa hb10 hb11 hd10 hd11
          go_wp2_with fail
          refine (HA.out W21).mono ?_
          rintro e W22 ⟨rfl, hX⟩
          have HE := hide (bstep hB hX)
          clear hB hX
          go_wp2
          go_ret
          exact ⟨rfl, HE.out⟩
        · have h3 := HPS.out
          rw [oa] at h3
          injection h3 with h3 h4
          subst h4
          have HS1 := hide (fun (W : World) (hX : Below W21.heap.size W21 W) => same_dat (c := c10) (c' := c1) (hb10.step hX) (h1.step (bstep hB hX)) (by rw [hd10, ← h3]))
          have HS2 := hide (fun (W : World) (hX : Below W21.heap.size W21 W) => same_dat (c := c11) (c' := c1) (hb11.step hX) (h1.step (bstep hB hX)) (by rw [hd11, ← h3]))
          clear h3 oa hb10 hb11 hd10 hd11
          go_wp2_with fail
          refine (HS1.out W21 (Below.refl _ _)).mono ?_
          rintro e W22 ⟨rfl, hX⟩
          have hB1 := hX
          clear hX
          go_wp2_with fail
          refine (HS2.out W22 hB1).mono ?_
          rintro e W23 ⟨rfl, hX⟩
          have hB := bstep (bstep hB hB1) hX
          clear hX hB1 HS1 HS2
          go_wp2_with fail
          refine (HA.out W23).mono ?_
          rintro e W24 ⟨rfl, hX⟩
          have HE := hide (bstep hB hX)
          clear hB hX
          go_wp2
          go_ret
          exact ⟨rfl, HE.out⟩
      · have nJ : (EJ == 0) = false := by simpa using hJ
        clear hJ hb8 hd8
        obtain ⟨ds, ES, hps⟩ : ∃ d E, (if okBag (dat l1) then (dat l1, (0 : Int)) else ([], 1)) = (d, E) := ⟨_, _, rfl⟩
        have HPS := hide hps
        clear hps
        go_wp2_with fail
        refine (Meet_any A1 n1 c1 l1 A1 n1 c1 l1 W14 (h1.step hB) (h1.step hB) k1 k1).mono ?_
        rw [comb_self (fE_self false), HPS.out]
        rintro e W20 ⟨A10, n10, c10, l10, rfl, hd10, hb10, hc10, hX⟩
        have hB := bstep hB hX
        clear hX
        go_wp2_with fail
        refine (Join_any A1 n1 c1 l1 A1 n1 c1 l1 W20 (h1.step hB) (h1.step hB) k1 k1).mono ?_
        rw [comb_self (fE_self true), HPS.out]
        rintro e W21 ⟨A11, n11, c11, l11, rfl, hd11, hb11, hc11, hX⟩
        have hB := bstep hB hX
        have hb10 := hb10.step hX
        clear hX
        cases oa : okBag (dat l1)
        · have h3 := HPS.out
          rw [oa] at h3
          injection h3 with h3 h4
          subst h4
          clear h3 oa hb10 hb11 hd10 hd11
          go_wp2_with fail
          refine (HA.out W21).mono ?_
          rintro e W22 ⟨rfl, hX⟩
          have HE := hide (bstep hB hX)
          clear hB hX
          go_wp2
          go_ret
          exact ⟨rfl, HE.out⟩
        · have h3 := HPS.out
          rw [oa] at h3
          injection h3 with h3 h4
          subst h4
          have HS1 := hide (fun (W : World) (hX : Below W21.heap.size W21 W) => same_dat (c := c10) (c' := c1) (hb10.step hX) (h1.step (bstep hB hX)) (by rw [hd10, ← h3]))
          have HS2 := hide (fun (W : World) (hX : Below W21.heap.size W21 W) => same_dat (c := c11) (c' := c1) (hb11.step hX) (h1.step (bstep hB hX)) (by rw [hd11, ← h3]))
          clear h3 oa hb10 hb11 hd10 hd11
          go_wp2_with fail
          refine (HS1.out W21 (Below.refl _ _)).mono ?_
          rintro e W22 ⟨rfl, hX⟩
          have hB1 := hX
          clear hX
          go_wp2_with fail
          refine (HS2.out W22 hB1).mono ?_
          rintro e W23 ⟨rfl, hX⟩
          have hB := bstep (bstep hB hB1) hX
          clear hX hB1 HS1 HS2
          go_wp2_with fail
          refine (HA.out W23).mono ?_
          rintro e W24 ⟨rfl, hX⟩
          have HE := hide (bstep hB hX)
          clear hB hX
          go_wp2
          go_ret
          exact ⟨rfl, HE.out⟩
  · have n0 : (ED == 0) = false := by simpa using h0
    clear h0 hb3 hd3
    go_wp2_with fail
    refine (Meet_any A1 n1 c1 l1 A2 n2 c2 l2 W6 (h1.step hB) (h2.step hB) k1 k2).mono ?_
    rw [HP2.out]
    rintro e W9 ⟨A6, n6, c6, l6, rfl, hd6, hb6, hc6, hX⟩
    have hB := bstep hB hX
    clear hX
    go_wp2_with fail
    refine (RMeet_any A1 n1 c1 l1 A2 n2 c2 l2 W9 (h1.step hB) (h2.step hB)).mono ?_
    rw [HP2.out]
    rintro e W10 ⟨A7, n7, c7, l7, rfl, hd7, hb7, hc7, hX⟩
    have hB := bstep hB hX
    have hb6 := hb6.step hX
    have HS := hide (same_dat (c := c6) (c' := c7) hb6 hb7 (by rw [hd6, hd7]))
    clear hX hb7 hd7
    go_wp2_with fail
    refine HS.out.mono ?_
    rintro e W11 ⟨rfl, hX⟩
    have hB := bstep hB hX
    have hb6 := hb6.step hX
    clear hX HS
    go_wp2_with fail
    refine (Join_any A1 n1 c1 l1 A2 n2 c2 l2 W11 (h1.step hB) (h2.step hB) k1 k2).mono ?_
    rw [HP3.out]
    rintro e W12 ⟨A8, n8, c8, l8, rfl, hd8, hb8, hc8, hX⟩
    have hB := bstep hB hX
    have hb6 := hb6.step hX
    clear hX
    go_wp2_with fail
    refine (RJoin_any A1 n1 c1 l1 A2 n2 c2 l2 W12 (h1.step hB) (h2.step hB)).mono ?_
    rw [HP3.out]
    rintro e W13 ⟨A9, n9, c9, l9, rfl, hd9, hb9, hc9, hX⟩
    have hB := bstep hB hX
    have hb6 := hb6.step hX
    have hb8 := hb8.step hX
    have HS := hide (same_dat (c := c8) (c' := c9) hb8 hb9 (by rw [hd8, hd9]))
    clear hX hb9 hd9
    go_wp2_with fail
    refine HS.out.mono ?_
    rintro e W14 ⟨rfl, hX⟩
    have hB := bstep hB hX
    have hb6 := hb6.step hX
    have hb8 := hb8.step hX
    clear hX HS
    by_cases hM : EM = 0
    · subst hM
      have HL := hide (meet_leE (a := dat l1) (b := dat l2) (d := dm) HP2.out)
      go_wp2_with fail
      refine (Within_any A6 n6 c6 l6 A1 n1 c1 l1 W14 hb6 (h1.step hB) hc6 k1).mono ?_
      rw [hd6, HL.out.1]
      rintro e W15 ⟨rfl, hX⟩
      have hB := bstep hB hX
      have hb6 := hb6.step hX
      have hb8 := hb8.step hX
      clear hX
      go_wp2_with fail
      refine (Within_any A6 n6 c6 l6 A2 n2 c2 l2 W15 hb6 (h2.step hB) hc6 k2).mono ?_
      rw [hd6, HL.out.2]
      rintro e W16 ⟨rfl, hX⟩
      have hB := bstep hB hX
      have hb8 := hb8.step hX
      clear hX hb6 hd6 HL
      by_cases hJ : EJ = 0
      · subst hJ
        have HL := hide (join_geE (a := dat l1) (b := dat l2) (d := dj) HP3.out)
        go_wp2_with fail
        refine (Within_any A1 n1 c1 l1 A8 n8 c8 l8 W16 (h1.step hB) hb8 k1 hc8).mono ?_
        rw [hd8, HL.out.1]
        rintro e W17 ⟨rfl, hX⟩
        have hB := bstep hB hX
        have hb8 := hb8.step hX
        clear hX
        go_wp2_with fail
        refine (Within_any A2 n2 c2 l2 A8 n8 c8 l8 W17 (h2.step hB) hb8 k2 hc8).mono ?_
        rw [hd8, HL.out.2]
        rintro e W18 ⟨rfl, hX⟩
        have hB := bstep hB hX
        clear hX hb8 hd8 HL
        obtain ⟨ds, ES, hps⟩ : ∃ d E, (if okBag (dat l1) then (dat l1, (0 : Int)) else ([], 1)) = (d, E) := ⟨_, _, rfl⟩
        have HPS := hide hps
        clear hps
        go_wp2_with fail
        refine (Meet_any A1 n1 c1 l1 A1 n1 c1 l1 W18 (h1.step hB) (h1.step hB) k1 k1).mono ?_
        rw [comb_self (fE_self false), HPS.out]
        rintro e W20 ⟨A10, n10, c10, l10, rfl, hd10, hb10, hc10, hX⟩
        have hB := bstep hB hX
        clear hX
        go_wp2_with fail
        refine (Join_any A1 n1 c1 l1 A1 n1 c1 l1 W20 (h1.step hB) (h1.step hB) k1 k1).mono ?_
        rw [comb_self (fE_self true), HPS.out]
        rintro e W21 ⟨A11, n11, c11, l11, rfl, hd11, hb11, hc11, hX⟩
        have hB := bstep hB hX
        have hb10 := hb10.step hX
        clear hX
        cases oa : okBag (dat l1)
        · have h3 := HPS.out
          rw [oa] at h3
          injection h3 with h3 h4
          subst h4
          clear h3 oa hb10 hb11 hd10 hd11
          go_wp2_with fail
          refine (HA.out W21).mono ?_
          rintro e W22 ⟨rfl, hX⟩
          have HE := hide (bstep hB hX)
          clear hB hX
          go_wp2
          go_ret
          exact ⟨rfl, HE.out⟩
        · have h3 := HPS.out
          rw [oa] at h3
          injection h3 with h3 h4
          subst h4
          have HS1 := hide (fun (W : World) (hX : Below W21.heap.size W21 W) => same_dat (c := c10) (c' := c1) (hb10.step hX) (h1.step (bstep hB hX)) (by rw [hd10, ← h3]))
          have HS2 := hide (fun (W : World) (hX : Below W21.heap.size W21 W) => same_dat (c := c11) (c' := c1) (hb11.step hX) (h1.step (bstep hB hX)) (by rw [hd11, ← h3]))
          clear h3 oa hb10 hb11 hd10 hd11
          go_wp2_with fail
          refine (HS1.out W21 (Below.refl _ _)).mono ?_
          rintro e W22 ⟨rfl, hX⟩
          have hB1 := hX
          clear hX
          go_wp2_with fail
          refine (HS2.out W22 hB1).mono ?_
          rintro e W23 ⟨rfl, hX⟩
          have hB := bstep (bstep hB hB1) hX
          clear hX hB1 HS1 HS2
          go_wp2_with fail
          refine (HA.out W23).mono ?_
          rintro e W24 ⟨rfl, hX⟩
          have HE := hide (bstep hB hX)
          clear hB hX
          go_wp2
          go_ret
          exact ⟨rfl, HE.out⟩
      · have nJ : (EJ == 0) = false := by simpa using hJ
        clear hJ hb8 hd8
        obtain ⟨ds, ES, hps⟩ : ∃ d E, (if okBag (dat l1) then (dat l1, (0 : Int)) else ([], 1)) = (d, E) := ⟨_, _, rfl⟩
        have HPS := hide hps
        clear hps
        go_wp2_with fail
        refine (Meet_any A1 n1 c1 l1 A1 n1 c1 l1 W16 (h1.step hB) (h1.step hB) k1 k1).mono ?_
        rw [comb_self (fE_self false), HPS.out]
        rintro e W20 ⟨A10, n10, c10, l10, rfl, hd10, hb10, hc10, hX⟩
        have hB := bstep hB hX
        clear hX
        go_wp2_with fail
        refine (Join_any A1 n1 c1 l1 A1 n1 c1 l1 W20 (h1.step hB) (h1.step hB) k1 k1).mono ?_
        rw [comb_self (fE_self true), HPS.out]
        rintro e W21 ⟨A11, n11, c11, l11, rfl, hd11, hb11, hc11, hX⟩
        have hB := bstep hB hX
        have hb10 := hb10.step hX
        clear hX
        cases oa : okBag (dat l1)
        · have h3 := HPS.out
          rw [oa] at h3
          injection h3 with h3 h4
          subst h4
          clear h3 oa hb10 hb11 hd10 hd11
          go_wp2_with fail
          refine (HA.out W21).mono ?_
          rintro e W22 ⟨rfl, hX⟩
          have HE := hide (bstep hB hX)
          clear hB hX
          go_wp2
          go_ret
          exact ⟨rfl, HE.out⟩
        · have h3 := HPS.out
          rw [oa] at h3
          injection h3 with h3 h4
          subst h4
          have HS1 := hide (fun (W : World) (hX : Below W21.heap.size W21 W) => same_dat (c := c10) (c' := c1) (hb10.step hX) (h1.step (bstep hB hX)) (by rw [hd10, ← h3]))
          have HS2 := hide (fun (W : World) (hX : Below W21.heap.size W21 W) => same_dat (c := c11) (c' := c1) (hb11.step hX) (h1.step (bstep hB hX)) (by rw [hd11, ← h3]))
          clear h3 oa hb10 hb11 hd10 hd11
          go_wp2_with fail
          refine (HS1.out W21 (Below.refl _ _)).mono ?_
          rintro e W22 ⟨rfl, hX⟩
          have hB1 := hX
          clear hX
          go_wp2_with fail
          refine (HS2.out W22 hB1).mono ?_
          rintro e W23 ⟨rfl, hX⟩
          have hB := bstep (bstep hB hB1) hX
          clear hX hB1 HS1 HS2
          go_wp2_with fail
          refine (HA.out W23).mono ?_
          rintro e W24 ⟨rfl, hX⟩
          have HE := hide (bstep hB hX)
          clear hB hX
          go_wp2
          go_ret
          exact ⟨rfl, HE.out⟩
    · have nM : (EM == 0) = false := by simpa using hM
      clear hM hb6 hd6
      by_cases hJ : EJ = 0
      · subst hJ
        have HL := hide (join_geE (a := dat l1) (b := dat l2) (d := dj) HP3.out)
        go_wp2_with fail
        refine (Within_any A1 n1 c1 l1 A8 n8 c8 l8 W14 (h1.step hB) hb8 k1 hc8).mono ?_
        rw [hd8, HL.out.1]
        rintro e W17 ⟨rfl, hX⟩
        have hB := bstep hB hX
        have hb8 := hb8.step hX
        clear hX
        go_wp2_with fail
        refine (Within_any A2 n2 c2 l2 A8 n8 c8 l8 W17 (h2.step hB) hb8 k2 hc8).mono ?_
        rw [hd8, HL.out.2]
        rintro e W18 ⟨rfl, hX⟩
        have hB := bstep hB hX
        clear hX hb8 hd8 HL
        obtain ⟨ds, ES, hps⟩ : ∃ d E, (if okBag (dat l1) then (dat l1, (0 : Int)) else ([], 1)) = (d, E) := ⟨_, _, rfl⟩
        have HPS := hide hps
        clear hps
        go_wp2_with fail
        refine (Meet_any A1 n1 c1 l1 A1 n1 c1 l1 W18 (h1.step hB) (h1.step hB) k1 k1).mono ?_
        rw [comb_self (fE_self false), HPS.out]
        rintro e W20 ⟨A10, n10, c10, l10, rfl, hd10, hb10, hc10, hX⟩
        have hB := bstep hB hX
        clear hX
        go_wp2_with fail
        refine (Join_any A1 n1 c1 l1 A1 n1 c1 l1 W20 (h1.step hB) (h1.step hB) k1 k1).mono ?_
        rw [comb_self (fE_self true), HPS.out]
        rintro e W21 ⟨A11, n11, c11, l11, rfl, hd11, hb11, hc11, hX⟩
        have hB := bstep hB hX
        have hb10 := hb10.step hX
        clear hX
        cases oa : okBag (dat l1)
        · have h3 := HPS.out
          rw [oa] at h3
          injection h3 with h3 h4
          subst h4
          clear h3 oa hb10 hb11 hd10 hd11
          go_wp2_with fail
          refine (HA.out W21).mono ?_
          rintro e W22 ⟨rfl, hX⟩
          have HE := hide (bstep hB hX)
          clear hB hX
          go_wp2
          go_ret
          exact ⟨rfl, HE.out⟩
        · have h3 := HPS.out
          rw [oa] at h3
          injection h3 with h3 h4
          subst h4
          have HS1 := hide (fun (W : World) (hX : Below W21.heap.size W21 W) => same_dat (c := c10) (c' := c1) (hb10.step hX) (h1.step (bstep hB hX)) (by rw [hd10, ← h3]))
          have HS2 := hide (fun (W : World) (hX : Below W21.heap.size W21 W) => same_dat (c := c11) (c' := c1) (hb11.step hX) (h1.step (bstep hB hX)) (by rw [hd11, ← h3]))
          clear h3 oa hb10 hb11 hd10 hd11
          go_wp2_with fail
          refine (HS1.out W21 (Below.refl _ _)).mono ?_
          rintro e W22 ⟨rfl, hX⟩
          have hB1 := hX
          clear hX
          go_wp2_with fail
          refine (HS2.out W22 hB1).mono ?_
          rintro e W23 ⟨rfl, hX⟩
          have hB := bstep (bstep hB hB1) hX
          clear hX hB1 HS1 HS2
          go_wp2_with fail
          refine (HA.out W23).mono ?_
          rintro e W24 ⟨rfl, hX⟩
          have HE := hide (bstep hB hX)
          clear hB hX
          go_wp2
          go_ret
          exact ⟨rfl, HE.out⟩
      · have nJ : (EJ == 0) = false := by simpa using hJ
        clear hJ hb8 hd8
        obtain ⟨ds, ES, hps⟩ : ∃ d E, (if okBag (dat l1) then (dat l1, (0 : Int)) else ([], 1)) = (d, E) := ⟨_, _, rfl⟩
        have HPS := hide hps
        clear hps
        go_wp2_with fail
        refine (Meet_any A1 n1 c1 l1 A1 n1 c1 l1 W14 (h1.step hB) (h1.step hB) k1 k1).mono ?_
        rw [comb_self (fE_self false), HPS.out]
        rintro e W20 ⟨A10, n10, c10, l10, rfl, hd10, hb10, hc10, hX⟩
        have hB := bstep hB hX
        clear hX
        go_wp2_with fail
        refine (Join_any A1 n1 c1 l1 A1 n1 c1 l1 W20 (h1.step hB) (h1.step hB) k1 k1).mono ?_
        rw [comb_self (fE_self true), HPS.out]
        rintro e W21 ⟨A11, n11, c11, l11, rfl, hd11, hb11, hc11, hX⟩
        have hB := bstep hB hX
        have hb10 := hb10.step hX
        clear hX
        cases oa : okBag (dat l1)
        · have h3 := HPS.out
          rw [oa] at h3
          injection h3 with h3 h4
          subst h4
          clear h3 oa hb10 hb11 hd10 hd11
          go_wp2_with fail
          refine (HA.out W21).mono ?_
          rintro e W22 ⟨rfl, hX⟩
          have HE := hide (bstep hB hX)
          clear hB hX
          go_wp2
          go_ret
          exact ⟨rfl, HE.out⟩
        · have h3 := HPS.out
          rw [oa] at h3
          injection h3 with h3 h4
          subst h4
          have HS1 := hide (fun (W : World) (hX : Below W21.heap.size W21 W) => same_dat (c := c10) (c' := c1) (hb10.step hX) (h1.step (bstep hB hX)) (by rw [hd10, ← h3]))
          have HS2 := hide (fun (W : World) (hX : Below W21.heap.size W21 W) => same_dat (c := c11) (c' := c1) (hb11.step hX) (h1.step (bstep hB hX)) (by rw [hd11, ← h3]))
          clear h3 oa hb10 hb11 hd10 hd11
          go_wp2_with fail
          refine (HS1.out W21 (Below.refl _ _)).mono ?_
          rintro e W22 ⟨rfl, hX⟩
          have hB1 := hX
          clear hX
          go_wp2_with fail
          refine (HS2.out W22 hB1).mono ?_
          rintro e W23 ⟨rfl, hX⟩
          have hB := bstep (bstep hB hB1) hX
          clear hX hB1 HS1 HS2
          go_wp2_with fail
          refine (HA.out W23).mono ?_
          rintro e W24 ⟨rfl, hX⟩
          have HE := hide (bstep hB hX)
          clear hB hX
          go_wp2
          go_ret
          exact ⟨rfl, HE.out⟩
end Go.Proofs.YtiioiajcoiaalaaGreatDoor
