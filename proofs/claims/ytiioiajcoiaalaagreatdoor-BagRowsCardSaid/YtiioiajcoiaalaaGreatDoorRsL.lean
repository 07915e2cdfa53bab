/-
  The walk of BagRows, for every bag, rows and columns.
-/
import Derived.Test.YtiioiajcoiaalaaGreatDoorRsE
import Derived.Test.YtiioiajcoiaalaaGreatDoorBcL
import Derived.Test.YtiioiajcoiaalaaGreatDoorOpenRws
namespace Go.Proofs.YtiioiajcoiaalaaGreatDoor
open Go.RowKit
attribute [local go_sem] Oper.semAt_some
set_option linter.unusedVariables false
set_option linter.unusedSimpArgs false

theorem same_rows {A : Option Addr} {n c : Nat} {A' : Option Addr} {n' c' B B' : Nat} {l l' : List Rk} {w : World} (hx : RowL w B A n l) (hy : RowL w B' A' n' l') (hd : rwD l = rwD l') :
    Calls Tryz.prog 37 #[.slice A n c, .slice A' n' c'] w (RetV w (.bool true)) := by
  have hn : n' = n := by rw [← hx.len, ← hy.len, ← rwD_len, ← rwD_len, hd]
  subst hn
  exact SameRows_one A n' c A' c' B B' l l' w hx hy hd
set_option maxRecDepth 100000 in
set_option maxHeartbeats 8000000 in
theorem bagRows_all (A1 : Option Addr) (n1 c1 : Nat) (l1 : List It) (A2 : Option Addr) (n2 c2 : Nat) (l2 : List Rk) (A3 : Option Addr) (n3 c3 : Nat) (xs : List Int) (w : World)
    (h1 : BagR w w.heap.size A1 n1 l1) (h2 : RowL w w.heap.size A2 n2 l2) (h3 : Reads w w.heap.size 1 A3 n3 (xs.map (Value.int .i64))) (k1 : n1 ≤ c1) (k3 : n3 ≤ 9223372036854775807) (ht : Tab w) :
    Calls Tryz.prog 7 #[.slice A1 n1 c1, .slice A2 n2 c2, .slice A3 n3 c3] w (RetV w (.bool true)) := by
  have hB0 := below_val (w := w) #[.slice A1 n1 c1] 23
  have b0 := Blk.new w 23 #[.slice A1 n1 c1]
  have g1 := h1.step hB0
  have HF := hide (Few_any [⟨A1, n1, c1, l1⟩] 1 w.heap.size _ rfl (by omega) (fun i x hx => by
    have hi := (List.getElem?_eq_some_iff.1 hx).1
    simp only [List.length_cons, List.length_nil] at hi
    match i, hi, hx with
    | 0, _, hx => injection hx with hx; subst hx; exact ⟨by rw [b0.cell]; rfl, g1⟩))
  clear b0 g1
  have H0 := hide hB0
  clear hB0
  have HA := hide (awake_any)
  have hle2 := h2.le
  go_enter Tryz.func7, Tryz.ntmps7
  go_wp2_with fail
  refine HF.out.mono ?_
  rintro e W1 ⟨b, rfl, _, hB1⟩
  have hB := bstep H0.out hB1
  clear hB1 HF H0
  cases b
  · go_wp2_with fail
    refine (HA.out W1).mono ?_
    rintro e W2 ⟨rfl, hX⟩
    have HE := hide (bstep hB hX)
    clear hB hX
    go_wp2
    go_ret
    exact ⟨rfl, HE.out⟩
  by_cases h5 : n2 ≤ 500
  case neg =>
    have z5 : decide ((500 : Int) < (n2 : Int)) = true := by simp; omega
    clear h5
    go_wp2_with fail
    refine (HA.out W1).mono ?_
    rintro e W2 ⟨rfl, hX⟩
    have HE := hide (bstep hB hX)
    clear hB hX
    go_wp2
    go_ret
    exact ⟨rfl, HE.out⟩
  have z5 : decide ((500 : Int) < (n2 : Int)) = false := by simp; omega
  clear h5
  go_wp2_with fail
  refine (Long_rows A2 n2 c2 l2 W1 (h2.step hB)).mono ?_
  rintro e W2 ⟨b, rfl, hX⟩
  have hB := bstep hB hX
  clear hX
  cases b
  case true =>
    go_wp2_with fail
    refine (HA.out W2).mono ?_
    rintro e W3 ⟨rfl, hX⟩
    have HE := hide (bstep hB hX)
    clear hB hX
    go_wp2
    go_ret
    exact ⟨rfl, HE.out⟩
  by_cases h9 : n3 ≤ 1000
  case neg =>
    have z9 : decide ((1000 : Int) < (n3 : Int)) = true := by simp; omega
    clear h9
    go_wp2_with fail
    refine (HA.out W2).mono ?_
    rintro e W3 ⟨rfl, hX⟩
    have HE := hide (bstep hB hX)
    clear hB hX
    go_wp2
    go_ret
    exact ⟨rfl, HE.out⟩
  have z9 : decide ((1000 : Int) < (n3 : Int)) = false := by simp; omega
  clear h9
  obtain ⟨dO, EO, hp1⟩ : ∃ d E, ofB (rwD l2) = (d, E) := ⟨_, _, rfl⟩
  obtain ⟨dP, EP, hp2⟩ : ∃ d E, pjB (dat l1) xs = (d, E) := ⟨_, _, rfl⟩
  obtain ⟨dR, ER, hp3⟩ : ∃ d E, rowsB (dat l1) = (d, E) := ⟨_, _, rfl⟩
  have zO : (EO != EO) = false := by simp
  have zP : (EP != EP) = false := by simp
  have zR : (ER != ER) = false := by simp
  have HP1 := hide hp1
  have HP2 := hide hp2
  have HP3 := hide hp3
  clear hp1 hp2 hp3
  go_wp2_with fail
  refine (Of_any A2 n2 c2 l2 W2 (h2.step hB) (ht.below hB)).mono ?_
  rw [HP1.out]
  rintro e W3 ⟨A4, n4, c4, l4, rfl, hd4, hb4, hc4, hX⟩
  have hB := bstep hB hX
  clear hX
  go_wp2_with fail
  refine (ROf_any A2 n2 c2 l2 W3 (h2.step hB)).mono ?_
  rw [HP1.out]
  rintro e W4 ⟨A5, n5, c5, l5, rfl, hd5, hb5, hc5, hX⟩
  have hB := bstep hB hX
  have HS := hide (same_dat (c := c4) (c' := c5) (hb4.step hX) hb5 (by rw [hd4, hd5]))
  clear hX hb4 hd4 hb5 hd5
  go_wp2_with fail
  refine HS.out.mono ?_
  rintro e W5 ⟨rfl, hX⟩
  have hB := bstep hB hX
  clear hX HS
  go_wp2_with fail
  refine (BgProject_any A1 n1 c1 l1 A3 n3 c3 xs W5 (h1.step hB) (h3.up hB) k3 (ht.below hB)).mono ?_
  rw [HP2.out]
  rintro e W6 ⟨A6, n6, c6, l6, rfl, hd6, hb6, hc6, hX⟩
  have hB := bstep hB hX
  clear hX
  go_wp2_with fail
  refine (RBgProject_any A1 n1 c1 l1 A3 n3 c3 xs W6 (h1.step hB) (h3.up hB) k3).mono ?_
  rw [HP2.out]
  rintro e W7 ⟨A7, n7, c7, l7, rfl, hd7, hb7, hc7, hX⟩
  have hB := bstep hB hX
  have HS := hide (same_dat (c := c6) (c' := c7) (hb6.step hX) hb7 (by rw [hd6, hd7]))
  clear hX hb6 hd6 hb7 hd7
  go_wp2_with fail
  refine HS.out.mono ?_
  rintro e W8 ⟨rfl, hX⟩
  have hB := bstep hB hX
  clear hX HS
  go_wp2_with fail
  refine (Rows_any A1 n1 c1 l1 W8 (h1.step hB)).mono ?_
  rw [HP3.out]
  rintro e W9 ⟨A8, n8, c8, l8, rfl, hd8, hb8, hX⟩
  have hB := bstep hB hX
  clear hX
  go_wp2_with fail
  refine (RRows_any A1 n1 c1 l1 W9 (h1.step hB)).mono ?_
  rw [HP3.out]
  rintro e W10 ⟨A9, n9, c9, l9, rfl, hd9, hb9, hX⟩
  have hB := bstep hB hX
  have hb8 := hb8.step hX
  have HS := hide (same_rows (c := c8) (c' := c9) hb8 hb9 (by rw [hd8, hd9]))
  clear hX hb9 hd9
  go_wp2_with fail
  refine HS.out.mono ?_
  rintro e W11 ⟨rfl, hX⟩
  have hB := bstep hB hX
  have hb8 := hb8.step hX
  clear hX HS
  by_cases h0 : ER = 0
  · subst h0
    have HOF := hide (show ofB (rwD l8) = (dat l1, 0) by rw [hd8]; exact of_rows HP3.out)
    clear hd8
    go_wp2_with fail
    refine (Of_any A8 n8 c8 l8 W11 hb8 (ht.below hB)).mono ?_
    rw [HOF.out]
    rintro e W12 ⟨A10, n10, c10, l10, rfl, hd10, hb10, hc10, hX⟩
    have hB := bstep hB hX
    have HS := hide (same_dat (c := c10) (c' := c1) hb10 (h1.step hB) hd10)
    clear hX hb8 hb10 hd10
    go_wp2_with fail
    refine HS.out.mono ?_
    rintro e W13 ⟨rfl, hX⟩
    have hB := bstep hB hX
    clear hX HS
    go_wp2_with fail
    refine (HA.out W13).mono ?_
    rintro e W14 ⟨rfl, hX⟩
    have HE := hide (bstep hB hX)
    clear hB hX
    go_wp2
    go_ret
    exact ⟨rfl, HE.out⟩
  · have n0 : (ER != 0) = true := by simpa using h0
    clear h0 hd8 hb8
    go_wp2_with fail
    refine (HA.out W11).mono ?_
    rintro e W12 ⟨rfl, hX⟩
    have HE := hide (bstep hB hX)
    clear hB hX
    go_wp2
    go_ret
    exact ⟨rfl, HE.out⟩
end Go.Proofs.YtiioiajcoiaalaaGreatDoor
