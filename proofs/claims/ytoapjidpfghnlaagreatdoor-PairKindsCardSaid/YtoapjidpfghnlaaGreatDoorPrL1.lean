/-
  The walks of SameKey on both sides, and of SameEvents at events that are equal. No condition.
-/
import Derived.Test.YtoapjidpfghnlaaGreatDoorPrR5
namespace Go.Proofs.YtoapjidpfghnlaaGreatDoor
open Go.RowKit
attribute [local go_sem] Oper.semAt_some wide_fn wide_depth
set_option linter.unusedVariables false
set_option linter.unusedSimpArgs false

/-- What SameKey answers. -/
def sameK (on others : List Int) (l r : Rw) : Bool := okR l && (okR r && (fitK on others && (hasC l on && (hasC r others && eqK on others l r))))
set_option maxRecDepth 100000 in
set_option maxHeartbeats 4000000 in
theorem RSameKey_any (A1 : Option Addr) (n1 c1 : Nat) (on : List Int) (A2 : Option Addr) (n2 c2 : Nat) (others : List Int) (Al : Option Addr) (nl cl : Nat) (l : Rw) (Ar : Option Addr) (nr cr : Nat) (r : Rw) (w : World)
    (h1 : Reads w w.heap.size 1 A1 n1 (on.map (Value.int .i64))) (h2 : Reads w w.heap.size 1 A2 n2 (others.map (Value.int .i64))) (hn1 : n1 ≤ 1000) (hn2 : n2 ≤ 1000) (hl : RowK w w.heap.size Al nl l) (hr : RowK w w.heap.size Ar nr r) :
    Calls Tryz.prog 18 #[.slice A1 n1 c1, .slice A2 n2 c2, .slice Al nl cl, .slice Ar nr cr] w (RetV w (.bool (sameK on others l r))) := by
  have HL1 := hide h1.len1
  have HL2 := hide h2.len1
  obtain ⟨p, hp⟩ : ∃ p, sameK on others l r = p := ⟨_, rfl⟩
  rw [hp]
  unfold sameK at hp
  obtain ⟨o1, r1⟩ : ∃ b, okR l = b := ⟨_, rfl⟩
  obtain ⟨o2, r2⟩ : ∃ b, okR r = b := ⟨_, rfl⟩
  obtain ⟨o3, r3⟩ : ∃ b, fitK on others = b := ⟨_, rfl⟩
  obtain ⟨o4, r4⟩ : ∃ b, hasC l on = b := ⟨_, rfl⟩
  obtain ⟨o5, r5⟩ : ∃ b, hasC r others = b := ⟨_, rfl⟩
  obtain ⟨o6, r6⟩ : ∃ b, eqK on others l r = b := ⟨_, rfl⟩
  rw [r1, r2, r3, r4, r5, r6] at hp
  have HP := hide hp
  have R1 := hide r1
  have R2 := hide r2
  have R3 := hide r3
  have R4 := hide r4
  have R5 := hide r5
  have R6 := hide r6
  clear hp r1 r2 r3 r4 r5 r6
  go_enter Tryz.func18, Tryz.ntmps18
  go_wp2_with fail
  refine (R2Valid_any Al nl cl w.heap.size l w hl.rd (Nat.le_refl _) hl.le).mono ?_
  rintro e W1 ⟨rfl, hB1⟩
  rw [R1.out]
  cases o1
  · go_wp2
    go_ret
    exact ⟨ret_bool (show false = p from HP.out), hB1⟩
  · go_wp2_with fail
    refine (R2Valid_any Ar nr cr W1.heap.size r W1 ((hr.below hB1).rd.up (Below.refl _ _)) (Nat.le_refl _) hr.le).mono ?_
    rintro e W2 ⟨rfl, hb⟩
    have hB2 := bstep hB1 hb
    clear hb hB1
    rw [R2.out]
    cases o2
    · go_wp2
      go_ret
      exact ⟨ret_bool (show false = p from HP.out), hB2⟩
    · go_wp2_with fail
      refine (fit_any A1 n1 c1 A2 n2 c2 on others W2 HL1.out HL2.out).mono ?_
      rintro e w' ⟨rfl, rfl⟩
      rw [R3.out]
      cases o3
      · go_wp2
        go_ret
        exact ⟨ret_bool (show false = p from HP.out), hB2⟩
      · go_wp2_with fail
        refine (rhas_any Al nl cl l A1 n1 c1 on W2 hl.len hl.le (h1.up hB2) (by omega)).mono ?_
        rintro e W3 ⟨rfl, hb⟩
        have hB3 := bstep hB2 hb
        clear hb hB2
        rw [R4.out]
        cases o4
        · go_wp2
          go_ret
          exact ⟨ret_bool (show false = p from HP.out), hB3⟩
        · go_wp2_with fail
          refine (rhas_any Ar nr cr r A2 n2 c2 others W3 hr.len hr.le (h2.up hB3) (by omega)).mono ?_
          rintro e W4 ⟨rfl, hb⟩
          have hB4 := bstep hB3 hb
          clear hb hB3
          rw [R5.out]
          cases o5
          · go_wp2
            go_ret
            exact ⟨ret_bool (show false = p from HP.out), hB4⟩
          · go_wp2_with fail
            have hnn : n1 = n2 := by
              have r3 := R3.out
              unfold fitK at r3
              rw [Bool.and_eq_true, decide_eq_true_eq, HL1.out, HL2.out] at r3
              exact r3.1
            refine (equal_any A1 n1 c1 on A2 n2 c2 others Al nl cl l Ar nr cr r W4 (h1.up hB4) (h2.up hB4) hnn (by omega) ((hl.below hB4).mono hB4.size) ((hr.below hB4).mono hB4.size) (okR_vals R1.out) (okR_vals R2.out) R4.out R5.out).mono ?_
            rintro e W5 ⟨rfl, hb⟩
            have hB5 := bstep hB4 hb
            clear hb hB4 hnn
            rw [R6.out]
            have HX := hide (show o6 = p from HP.out)
            go_wp2
            go_ret
            exact ⟨ret_bool HX.out, hB5⟩
set_option maxRecDepth 100000 in
set_option maxHeartbeats 4000000 in
theorem PSameKey_any (A1 : Option Addr) (n1 c1 : Nat) (on : List Int) (A2 : Option Addr) (n2 c2 : Nat) (others : List Int) (Al : Option Addr) (nl cl : Nat) (l : Rw) (Ar : Option Addr) (nr cr : Nat) (r : Rw) (w : World)
    (h1 : Reads w w.heap.size 1 A1 n1 (on.map (Value.int .i64))) (h2 : Reads w w.heap.size 1 A2 n2 (others.map (Value.int .i64))) (hn1 : n1 ≤ 1000) (hn2 : n2 ≤ 1000) (hl : RowK w w.heap.size Al nl l) (hr : RowK w w.heap.size Ar nr r) (hcl : nl ≤ cl) (hcr : nr ≤ cr) (ht : Tab w) :
    Calls Tryz.prog 17 #[.slice A1 n1 c1, .slice A2 n2 c2, .slice Al nl cl, .slice Ar nr cr] w (RetV w (.bool (sameK on others l r))) := by
  have HL1 := hide h1.len1
  have HL2 := hide h2.len1
  obtain ⟨p, hp⟩ : ∃ p, sameK on others l r = p := ⟨_, rfl⟩
  rw [hp]
  unfold sameK at hp
  obtain ⟨o1, r1⟩ : ∃ b, okR l = b := ⟨_, rfl⟩
  obtain ⟨o2, r2⟩ : ∃ b, okR r = b := ⟨_, rfl⟩
  obtain ⟨o3, r3⟩ : ∃ b, fitK on others = b := ⟨_, rfl⟩
  obtain ⟨o4, r4⟩ : ∃ b, hasC l on = b := ⟨_, rfl⟩
  obtain ⟨o5, r5⟩ : ∃ b, hasC r others = b := ⟨_, rfl⟩
  obtain ⟨o6, r6⟩ : ∃ b, eqK on others l r = b := ⟨_, rfl⟩
  rw [r1, r2, r3, r4, r5, r6] at hp
  have HP := hide hp
  have R1 := hide r1
  have R2 := hide r2
  have R3 := hide r3
  have R4 := hide r4
  have R5 := hide r5
  have R6 := hide r6
  clear hp r1 r2 r3 r4 r5 r6
  have hB0 := below_val (w := w) #[.slice A1 n1 c1, .slice A2 n2 c2] 91
  have k1 := Blk.new w 91 #[.slice A1 n1 c1, .slice A2 n2 c2]
  go_enter Tryz.func17, Tryz.ntmps17
  go_wp2_with fail
  obtain ⟨W0, hW0⟩ : ∃ W0, w.alloc (.cells #[.slice A1 n1 c1, .slice A2 n2 c2] 91) = W0 := ⟨_, rfl⟩
  rw [hW0] at hB0 k1 ⊢
  clear hW0
  refine (RowValid_any Al nl cl W0.heap.size l W0 ((hl.below hB0).rd.up (Below.refl _ _)) (Nat.le_refl _) hl.le).mono ?_
  rintro e W1 ⟨rfl, hb⟩
  have hB1 := bstep hB0 hb
  have k2 := k1.below hb k1.lt
  clear hb hB0 k1
  rw [R1.out]
  cases o1
  · go_wp2
    go_ret
    exact ⟨ret_bool (show false = p from HP.out), hB1⟩
  · go_wp2_with fail
    refine (RowValid_any Ar nr cr W1.heap.size r W1 ((hr.below hB1).rd.up (Below.refl _ _)) (Nat.le_refl _) hr.le).mono ?_
    rintro e W2 ⟨rfl, hb⟩
    have hB2 := bstep hB1 hb
    have k3 := k2.below hb k2.lt
    clear hb hB1 k2
    rw [R2.out]
    have d4 : W2.cell? ⟨w.heap.size, 0, none⟩ = some (.slice A1 n1 c1) := by simpa using k3.cell 0
    have d5 : W2.cell? ⟨w.heap.size, 1, none⟩ = some (.slice A2 n2 c2) := by simpa using k3.cell 1
    cases o2
    · go_wp2
      go_ret
      exact ⟨ret_bool (show false = p from HP.out), hB2⟩
    · go_wp2_with fail
      refine (sized_any A1 n1 c1 A2 n2 c2 on others W2 HL1.out HL2.out (by omega) (by omega)).mono ?_
      rintro e W3 ⟨rfl, hb⟩
      have hB3 := bstep hB2 hb
      clear hb hB2 k3 d4 d5
      rw [R3.out]
      cases o3
      · go_wp2
        go_ret
        exact ⟨ret_bool (show false = p from HP.out), hB3⟩
      · go_wp2_with fail
        refine (has_pair A1 n1 c1 on Al nl cl l W3 (h1.up hB3) (by omega) hl.len hl.le).mono ?_
        rintro e W4 ⟨rfl, hb⟩
        have hB4 := bstep hB3 hb
        clear hb hB3
        rw [R4.out]
        cases o4
        · go_wp2
          go_ret
          exact ⟨ret_bool (show false = p from HP.out), hB4⟩
        · go_wp2_with fail
          refine (has_pair A2 n2 c2 others Ar nr cr r W4 (h2.up hB4) (by omega) hr.len hr.le).mono ?_
          rintro e W5 ⟨rfl, hb⟩
          have hB5 := bstep hB4 hb
          clear hb hB4
          rw [R5.out]
          cases o5
          · go_wp2
            go_ret
            exact ⟨ret_bool (show false = p from HP.out), hB5⟩
          · have HX := hide (show o6 = p from HP.out)
            go_wp2_with fail
            refine (of_any A1 n1 c1 on Al nl cl l W5 (h1.up hB5) hn1 ((hl.below hB5).mono hB5.size) hcl R1.out R4.out (ht.below hB5)).mono ?_
            rintro e W6 ⟨rfl, hb⟩
            have hB6 := bstep hB5 hb
            clear hb hB5
            go_wp2_with fail
            refine (of_any A2 n2 c2 others Ar nr cr r W6 (h2.up hB6) hn2 ((hr.below hB6).mono hB6.size) hcr R2.out R5.out (ht.below hB6)).mono ?_
            rintro e W7 ⟨rfl, hb⟩
            have hB7 := bstep hB6 hb
            clear hb hB6
            have HEQ := hide (fun (hn : nonul (pick l on) = true) => ofS_eq (others := others) (okR_vals R1.out) (okR_vals R2.out) hn)
            have HNU := hide (show nonul (pick l on) = false → eqK on others l r = false from fun h => by unfold eqK; rw [h]; rfl)
            obtain ⟨u, hu⟩ : ∃ u, nonul (pick l on) = u := ⟨_, rfl⟩
            obtain ⟨v, hv⟩ : ∃ v, nonul (pick r others) = v := ⟨_, rfl⟩
            obtain ⟨a, ha⟩ : ∃ a, ofS on l = a := ⟨_, rfl⟩
            obtain ⟨b, hb⟩ : ∃ b, ofS others r = b := ⟨_, rfl⟩
            rw [hu, hv, ha, hb, R6.out] at HEQ
            rw [hu, R6.out] at HNU
            rw [hu, hv, ha, hb]
            clear hu hv ha hb
            cases u
            · have HY := hide (show false = p from (HNU.out rfl).symm.trans HX.out)
              go_wp2
              go_ret
              exact ⟨ret_bool HY.out, hB7⟩
            · cases v
              · have HY := hide (show false = p from (HEQ.out rfl).trans HX.out)
                go_wp2
                go_ret
                exact ⟨ret_bool HY.out, hB7⟩
              · by_cases hab : b = a
                · have z := bytes_eq hab.symm
                  have HY := hide (show true = p from by have := (HEQ.out rfl).trans HX.out; rw [← this]; simp [hab])
                  clear hab HEQ HNU
                  go_wp2
                  go_ret
                  exact ⟨ret_bool HY.out, hB7⟩
                · have z := bytes_ne (fun h : a = b => hab h.symm)
                  have HY := hide (show false = p from by have := (HEQ.out rfl).trans HX.out; rw [← this]; simp [hab])
                  clear hab HEQ HNU
                  go_wp2
                  go_ret
                  exact ⟨ret_bool HY.out, hB7⟩
end Go.Proofs.YtoapjidpfghnlaaGreatDoor
