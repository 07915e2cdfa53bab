/-
  The walk of pair.Outer. No condition but the lists' lengths. (Printed by gen_ouW.)
-/
import Derived.Test.YtoapjidpfghnlaaGreatDoorOuI
import Derived.Test.YtoapjidpfghnlaaGreatDoorPrB
import Derived.Test.YtoapjidpfghnlaaGreatDoorOuH
import Derived.Test.YtoapjidpfghnlaaGreatDoorBgT5
namespace Go.Proofs.YtoapjidpfghnlaaGreatDoor
open Go.RowKit
attribute [local go_sem] Oper.semAt_some wide_fn wide_depth
set_option linter.unusedVariables false
set_option linter.unusedSimpArgs false

theorem RetOu_bad {w w' : World} (hB : Below w.heap.size w w') (E : Int) : RetOu w ([], E) (.returned (.tuple #[.slice none 0 0, .int .i64 E])) w' := ⟨none, 0, 0, [], rfl, rfl, BagR.nil _ _, Nat.le_refl _, fun b o h => absurd h (by omega), hB⟩
theorem wholeB_small {l : Bg} (h : wholeB l = true) : okBag l = true := by
  unfold wholeB at h
  rw [Bool.and_eq_true] at h
  exact h.1
set_option maxRecDepth 100000 in
set_option maxHeartbeats 16000000 in
theorem Outer_any (kind : Int) (A1 : Option Addr) (n1 c1 : Nat) (on : List Int) (A2 : Option Addr) (n2 c2 : Nat) (others : List Int) (wide width : Int) (A3 : Option Addr) (n3 c3 : Nat) (ll : List It) (A4 : Option Addr) (n4 c4 : Nat) (lr : List It) (w : World)
    (h1 : Reads w w.heap.size 1 A1 n1 (on.map (Value.int .i64))) (h2 : Reads w w.heap.size 1 A2 n2 (others.map (Value.int .i64))) (hn1 : n1 ≤ 1000) (hn2 : n2 ≤ 1000) (h3 : BagR w w.heap.size A3 n3 ll) (h4 : BagR w w.heap.size A4 n4 lr) (hm3 : n3 ≤ 60) (hm4 : n4 ≤ 60)
    (hc3 : ∀ x ∈ ll, x.n ≤ x.c) (hc4 : ∀ x ∈ lr, x.n ≤ x.c) (ht : Tab w) :
    Calls Tryz.prog 22 #[.int .i64 kind, .slice A1 n1 c1, .slice A2 n2 c2, .int .i64 wide, .int .i64 width, .slice A3 n3 c3, .slice A4 n4 c4] w (RetOu w (outB kind on others wide width (dat ll) (dat lr))) := by
  obtain ⟨p, hp⟩ : ∃ p, outB kind on others wide width (dat ll) (dat lr) = p := ⟨_, rfl⟩
  rw [hp]
  have HL1 := hide h1.len1
  have HL2 := hide h2.len1
  unfold outB outE at hp
  obtain ⟨J, hJ⟩ : ∃ J, aftB [] (joinL (decide (kind % 2 = 1)) (decide (2 ≤ kind)) on others wide.toNat width.toNat (dat ll) (dat lr)) = J := ⟨_, rfl⟩
  obtain ⟨o1, r1⟩ : ∃ b, okBag (dat ll) = b := ⟨_, rfl⟩
  obtain ⟨o2, r2⟩ : ∃ b, okBag (dat lr) = b := ⟨_, rfl⟩
  obtain ⟨o3, r3⟩ : ∃ b, fitK on others = b := ⟨_, rfl⟩
  obtain ⟨o4, r4⟩ : ∃ b, wideG (dat ll) wide = b := ⟨_, rfl⟩
  obtain ⟨o5, r5⟩ : ∃ b, wideG (dat lr) width = b := ⟨_, rfl⟩
  obtain ⟨o6, r6⟩ : ∃ b, widerB wide width = b := ⟨_, rfl⟩
  obtain ⟨o7, r7⟩ : ∃ b, btw wide 0 8 = b := ⟨_, rfl⟩
  obtain ⟨o8, r8⟩ : ∃ b, btw width 0 8 = b := ⟨_, rfl⟩
  obtain ⟨o9, r9⟩ : ∃ b, btw kind 0 3 = b := ⟨_, rfl⟩
  obtain ⟨o10, r10⟩ : ∃ b, insK on wide = b := ⟨_, rfl⟩
  obtain ⟨o11, r11⟩ : ∃ b, insK others width = b := ⟨_, rfl⟩
  obtain ⟨o12, r12⟩ : ∃ b, wholeB (dat ll) = b := ⟨_, rfl⟩
  obtain ⟨o13, r13⟩ : ∃ b, wholeB (dat lr) = b := ⟨_, rfl⟩
  obtain ⟨o14, r14⟩ : ∃ b, okBag J = b := ⟨_, rfl⟩
  rw [hJ, r1, r2, r3, r4, r5, r6, r7, r8, r9, r10, r11, r12, r13, r14] at hp
  have HP := hide hp
  have HJ := hide hJ
  have R1 := hide r1
  have R2 := hide r2
  have R3 := hide r3
  have R4 := hide r4
  have R5 := hide r5
  have R6 := hide r6
  have R7 := hide r7
  have R8 := hide r8
  have R9 := hide r9
  have R10 := hide r10
  have R11 := hide r11
  have R12 := hide r12
  have R13 := hide r13
  have R14 := hide r14
  clear hp hJ r1 r2 r3 r4 r5 r6 r7 r8 r9 r10 r11 r12 r13 r14
  have HT := hide ht
  have HC3 := hide hc3
  have HC4 := hide hc4
  have PA := hide h1
  have PB := hide h2
  have PC := hide h3
  have PD := hide h4
  clear h1 h2 h3 h4 hc3 hc4 ht
  have hB0 := below_val (w := w) #[.slice A1 n1 c1, .slice A2 n2 c2] 91
  have x1 := Blk.new w 91 #[.slice A1 n1 c1, .slice A2 n2 c2]
  obtain ⟨kb, hkb⟩ : ∃ kb, w.heap.size = kb := ⟨_, rfl⟩
  rw [hkb] at x1
  go_enter Tryz.func22, Tryz.ntmps22
  go_wp2_with fail
  try rw [hkb]
  obtain ⟨W0, hW0⟩ : ∃ W0, w.alloc (.cells #[.slice A1 n1 c1, .slice A2 n2 c2] 91) = W0 := ⟨_, rfl⟩
  rw [hW0] at hB0 x1 ⊢
  clear hW0
  have HKB := hide hkb
  clear hkb
  go_wp2_with fail
  refine (BagValid_any A3 n3 c3 _ ll W0 (PC.out.stepO hB0)).mono ?_
  rintro e W1 ⟨rfl, hb⟩
  have hB1 := bstep hB0 hb
  have x1 := x1.below hb x1.lt
  clear hb hB0
  rw [R1.out]
  cases o1
  · skip
    have HBZ := hide hB1
    clear hB1
    go_wp2
    refine bodyPost_ret (results_tmp2 rfl _ _ _) rfl ?_
    rw [show p = ([], 1) from HP.out.symm.trans (by first | rfl | simp)]
    exact RetOu_bad HBZ.out 1
  · skip
    go_wp2_with fail
    refine (BagValid_any A4 n4 c4 _ lr W1 (PD.out.stepO hB1)).mono ?_
    rintro e W2 ⟨rfl, hb⟩
    have hB2 := bstep hB1 hb
    have x1 := x1.below hb x1.lt
    clear hb hB1
    rw [R2.out]
    cases o2
    · skip
      have HBZ := hide hB2
      clear hB2
      go_wp2
      refine bodyPost_ret (results_tmp2 rfl _ _ _) rfl ?_
      rw [show p = ([], 1) from HP.out.symm.trans (by first | rfl | simp)]
      exact RetOu_bad HBZ.out 1
    · skip
      have d4 : W2.cell? ⟨kb, 0, none⟩ = some (.slice A1 n1 c1) := by simpa using x1.cell 0
      have d5 : W2.cell? ⟨kb, 1, none⟩ = some (.slice A2 n2 c2) := by simpa using x1.cell 1
      go_wp2_with fail
      refine (sized_any A1 n1 c1 A2 n2 c2 on others W2 HL1.out HL2.out (by omega) (by omega)).mono ?_
      rintro e W3 ⟨rfl, hb⟩
      have hB3 := bstep hB2 hb
      have x1 := x1.below hb x1.lt
      clear hb hB2 d4 d5
      rw [R3.out]
      cases o3
      · skip
        have HBZ := hide hB3
        clear hB3
        go_wp2
        refine bodyPost_ret (results_tmp2 rfl _ _ _) rfl ?_
        rw [show p = ([], 9) from HP.out.symm.trans (by first | rfl | simp)]
        exact RetOu_bad HBZ.out 9
      · skip
        go_wp2_with fail
        refine (wrongWidth_any A3 n3 c3 ll wide W3 (PC.out.stepO hB3) (by omega)).mono ?_
        rintro e W4 ⟨rfl, hb⟩
        have hB4 := bstep hB3 hb
        have x1 := x1.below hb x1.lt
        clear hb hB3
        rw [R4.out]
        cases o4
        · skip
          have HBZ := hide hB4
          clear hB4
          go_wp2
          refine bodyPost_ret (results_tmp2 rfl _ _ _) rfl ?_
          rw [show p = ([], 9) from HP.out.symm.trans (by first | rfl | simp)]
          exact RetOu_bad HBZ.out 9
        · skip
          go_wp2_with fail
          refine (wrongWidth_any A4 n4 c4 lr width W4 (PD.out.stepO hB4) (by omega)).mono ?_
          rintro e W5 ⟨rfl, hb⟩
          have hB5 := bstep hB4 hb
          have x1 := x1.below hb x1.lt
          clear hb hB4
          rw [R5.out]
          cases o5
          · skip
            have HBZ := hide hB5
            clear hB5
            go_wp2
            refine bodyPost_ret (results_tmp2 rfl _ _ _) rfl ?_
            rw [show p = ([], 9) from HP.out.symm.trans (by first | rfl | simp)]
            exact RetOu_bad HBZ.out 9
          · skip
            go_wp2_with fail
            refine (wider_any wide width W5).mono ?_
            rintro e w' ⟨rfl, rfl⟩
            rw [R6.out]
            cases o6
            case true =>
              have HBZ := hide hB5
              clear hB5
              go_wp2
              refine bodyPost_ret (results_tmp2 rfl _ _ _) rfl ?_
              rw [show p = ([], 9) from HP.out.symm.trans (by first | rfl | simp)]
              exact RetOu_bad HBZ.out 9
            case false =>
              go_wp2_with fail
              refine (pwithin_any wide 0 8 W5).mono ?_
              rintro e w' ⟨rfl, rfl⟩
              rw [R7.out]
              cases o7
              · skip
                have HBZ := hide hB5
                clear hB5
                go_wp2
                refine bodyPost_ret (results_tmp2 rfl _ _ _) rfl ?_
                rw [show p = ([], 7) from HP.out.symm.trans (by first | rfl | simp)]
                exact RetOu_bad HBZ.out 7
              · skip
                go_wp2_with fail
                refine (pwithin_any width 0 8 W5).mono ?_
                rintro e w' ⟨rfl, rfl⟩
                rw [R8.out]
                cases o8
                · skip
                  have HBZ := hide hB5
                  clear hB5
                  go_wp2
                  refine bodyPost_ret (results_tmp2 rfl _ _ _) rfl ?_
                  rw [show p = ([], 7) from HP.out.symm.trans (by first | rfl | simp)]
                  exact RetOu_bad HBZ.out 7
                · skip
                  go_wp2_with fail
                  refine (pwithin_any kind 0 3 W5).mono ?_
                  rintro e w' ⟨rfl, rfl⟩
                  rw [R9.out]
                  cases o9
                  · skip
                    have HBZ := hide hB5
                    clear hB5
                    go_wp2
                    refine bodyPost_ret (results_tmp2 rfl _ _ _) rfl ?_
                    rw [show p = ([], 7) from HP.out.symm.trans (by first | rfl | simp)]
                    exact RetOu_bad HBZ.out 7
                  · skip
                    have d4 : W5.cell? ⟨kb, 0, none⟩ = some (.slice A1 n1 c1) := by simpa using x1.cell 0
                    have d5 : W5.cell? ⟨kb, 1, none⟩ = some (.slice A2 n2 c2) := by simpa using x1.cell 1
                    go_wp2_with fail
                    refine (below_any A1 n1 c1 on A2 n2 c2 others wide width W5 (PA.out.up hB5) (PB.out.up hB5) (by omega) (by omega) (by have := btw_iff.1 R7.out; omega) (by have := btw_iff.1 R8.out; omega)).mono ?_
                    rintro e W6 ⟨rfl, hb⟩
                    have hB6 := bstep hB5 hb
                    have x1 := x1.below hb x1.lt
                    clear hb hB5 d4 d5
                    rw [R10.out, R11.out]
                    cases o10
                    · rw [Bool.false_and]
                      have HBZ := hide hB6
                      clear hB6
                      go_wp2
                      refine bodyPost_ret (results_tmp2 rfl _ _ _) rfl ?_
                      rw [show p = ([], 7) from HP.out.symm.trans (by first | rfl | simp)]
                      exact RetOu_bad HBZ.out 7
                    · skip
                      cases o11
                      · rw [Bool.and_false]
                        have HBZ := hide hB6
                        clear hB6
                        go_wp2
                        refine bodyPost_ret (results_tmp2 rfl _ _ _) rfl ?_
                        rw [show p = ([], 7) from HP.out.symm.trans (by first | rfl | simp)]
                        exact RetOu_bad HBZ.out 7
                      · skip
                        rw [Bool.and_true]
                        go_wp2_with fail
                        refine (Whole_any A3 n3 c3 _ ll W6 (PC.out.stepO hB6)).mono ?_
                        rintro e W7 ⟨rfl, hb⟩
                        have hB7 := bstep hB6 hb
                        have x1 := x1.below hb x1.lt
                        clear hb hB6
                        rw [R12.out]
                        cases o12
                        · skip
                          have HBZ := hide hB7
                          clear hB7
                          go_wp2
                          refine bodyPost_ret (results_tmp2 rfl _ _ _) rfl ?_
                          rw [show p = ([], 10) from HP.out.symm.trans (by first | rfl | simp)]
                          exact RetOu_bad HBZ.out 10
                        · skip
                          go_wp2_with fail
                          refine (Whole_any A4 n4 c4 _ lr W7 (PD.out.stepO hB7)).mono ?_
                          rintro e W8 ⟨rfl, hb⟩
                          have hB8 := bstep hB7 hb
                          have x1 := x1.below hb x1.lt
                          clear hb hB7
                          rw [R13.out]
                          cases o13
                          · skip
                            have HBZ := hide hB8
                            clear hB8
                            go_wp2
                            refine bodyPost_ret (results_tmp2 rfl _ _ _) rfl ?_
                            rw [show p = ([], 10) from HP.out.symm.trans (by first | rfl | simp)]
                            exact RetOu_bad HBZ.out 10
                          · skip
                            have d4 : W8.cell? ⟨kb, 0, none⟩ = some (.slice A1 n1 c1) := by simpa using x1.cell 0
                            have d5 : W8.cell? ⟨kb, 1, none⟩ = some (.slice A2 n2 c2) := by simpa using x1.cell 1
                            have HP2 := hide (show p = if o14 then (J, 0) else ([], 4) from HP.out.symm.trans (by cases o14 <;> first | rfl | simp))
                            have hz1 := btw_iff.1 R7.out
                            obtain ⟨a, rfl⟩ : ∃ a : Nat, wide = (a : Int) := ⟨wide.toNat, by omega⟩
                            have hz2 := btw_iff.1 R8.out
                            obtain ⟨b, rfl⟩ : ∃ b : Nat, width = (b : Int) := ⟨width.toNat, by omega⟩
                            have hf := wider_fit R6.out R7.out R8.out
                            have HF := hide (show a + b ≤ 8 from by omega)
                            have hk := btw_iff.1 R9.out
                            have SL := hide (side_ok R12.out R4.out R10.out)
                            have SR := hide (side_ok R13.out R5.out R11.out)
                            have HJ2 := hide (show aftB [] (joinL (decide (kind % 2 = 1)) (decide (2 ≤ kind)) on others a b (dat ll) (dat lr)) = J from by
                              have := HJ.out
                              rwa [show ((a : Int)).toNat = a from by omega, show ((b : Int)).toNat = b from by omega] at this)
                            have hnn : n1 = n2 := by
                              have r3 := R3.out
                              unfold fitK at r3
                              rw [Bool.and_eq_true, decide_eq_true_eq, HL1.out, HL2.out] at r3
                              exact r3.1
                            have HNN := hide hnn
                            clear hf hnn hz1 hz2 HP HJ
                            have HO := hide (outer_any kind A1 n1 c1 on A2 n2 c2 others a b A3 n3 c3 ll A4 n4 c4 lr W8 (PA.out.up hB8) (PB.out.up hB8) HNN.out hn1 (PC.out.stepO hB8) (PD.out.stepO hB8) hm3 hm4 HC3.out HC4.out (HT.out.below hB8) SL.out SR.out HF.out hk)
                            rw [HJ2.out, R14.out, ← HP2.out] at HO
                            clear HP2
                            go_wp2_with fail
                            refine HO.out.mono ?_
                            rintro e W9 hres
                            obtain ⟨An, nn, cn, l', rfl, hd, hg, hc, hfr, hb⟩ := hres
                            have HBZ := hide (bstep hB8 hb)
                            have hs := hB8.size
                            have HFR := hide (show ∀ b o, 0 < nn → An = some ⟨b, o, none⟩ → w.heap.size ≤ b from fun b o h0 e => Nat.le_trans hs (hfr b o h0 e))
                            clear hb hB8 d4 d5 hfr
                            go_wp2
                            refine bodyPost_ret (results_tmp2 rfl _ _ _) rfl ?_
                            exact ⟨An, nn, cn, l', rfl, hd, hg, hc, HFR.out, HBZ.out⟩
end Go.Proofs.YtoapjidpfghnlaaGreatDoor
