/-
  The walk of BagSums, for every two bags and number.
-/
import Derived.Test.YtiioiajcoiaalaaBgO
import Derived.Test.YtiioiajcoiaalaaBgS10
namespace Go.Proofs.Ytiioiajcoiaalaa
open Go.RowKit
attribute [local go_sem] Oper.semAt_some

theorem sumR_add (a b : Bg) : sumR a b 1 = addB a b := by
  show _ = comb _ a b
  rw [comb_told (n := 1) (fun m k => by omega) a b]
  rfl
theorem sumR_sub (a b : Bg) : sumR a b (-1) = subB a b := by
  show _ = comb _ a b
  rw [comb_told (n := -1) (fun m k => by omega) a b]
  rfl
theorem RSum_add {A : Option Addr} {n c : Nat} {la : List It} {A' : Option Addr} {n' c' : Nat} {lb : List It} {w : World} {d : Bg} {E : Int} (hp : addB (dat la) (dat lb) = (d, E)) (ha : BagR w w.heap.size A n la) (hb : BagR w w.heap.size A' n' lb) :
    Calls Try.prog 10 #[.slice A n c, .slice A' n' c'] w (RetBag w d E) := by
  have h := RSum_any A n c la A' n' c' lb w ha hb
  rw [sumR_add, hp] at h
  exact h
theorem Minus_sub {A : Option Addr} {n c : Nat} {la : List It} {A' : Option Addr} {n' c' : Nat} {lb : List It} {w : World} {d : Bg} {E : Int} (hp : subB (dat la) (dat lb) = (d, E)) (ha : BagR w w.heap.size A n la) (hb : BagR w w.heap.size A' n' lb) (hc : n ≤ c) (hc' : n' ≤ c') :
    Calls Try.prog 11 #[.slice A n c, .slice A' n' c'] w (RetBag w d E) := by
  have h := Minus_any A n c la A' n' c' lb w ha hb hc hc'
  rw [show comb (fun m k => m - k) (dat la) (dat lb) = (d, E) from hp] at h
  exact h
theorem RMinus_sub {A : Option Addr} {n c : Nat} {la : List It} {A' : Option Addr} {n' c' : Nat} {lb : List It} {w : World} {d : Bg} {E : Int} (hp : subB (dat la) (dat lb) = (d, E)) (ha : BagR w w.heap.size A n la) (hb : BagR w w.heap.size A' n' lb) :
    Calls Try.prog 12 #[.slice A n c, .slice A' n' c'] w (RetBag w d E) := by
  have h := RMinus_any A n c la A' n' c' lb w ha hb
  rw [sumR_sub, hp] at h
  exact h
theorem Times_tim {A : Option Addr} {n c : Nat} {l : List It} {x : Int} {w : World} {d : Bg} {E : Int} (hp : timesB (dat l) x = (d, E)) (hb : BagR w w.heap.size A n l) (hc : n ≤ c) :
    Calls Try.prog 13 #[.slice A n c, .int .i64 x] w (RetBag w d E) := by
  have h := Times_any A n c l x w hb hc
  rw [hp] at h
  exact h
theorem RTimes_tim {A : Option Addr} {n c : Nat} {l : List It} {x : Int} {w : World} {d : Bg} {E : Int} (hp : timesB (dat l) x = (d, E)) (hb : BagR w w.heap.size A n l) :
    Calls Try.prog 14 #[.slice A n c, .int .i64 x] w (RetBag w d E) := by
  have h := RTimes_any A n c l x w hb
  rw [← times_eq, hp] at h
  exact h
/-- Two bags with the same data are the same. -/
theorem Same_dat {A : Option Addr} {n c : Nat} {A' : Option Addr} {n' c' B B' : Nat} {l l' : List It} {w : World} (hx : BagR w B A n l) (hy : BagR w B' A' n' l') (hd : dat l = dat l') :
    Calls Try.prog 9 #[.slice A n c, .slice A' n' c'] w (RetV w (.bool true)) := by
  have hn : n' = n := by rw [← hx.len, ← hy.len, ← dat_len, ← dat_len, hd]
  subst hn
  exact BagSame_one A n' c A' c' B B' l l' w hx hy hd
set_option maxRecDepth 100000 in
set_option maxHeartbeats 4000000 in
theorem bagSums_all (A1 : Option Addr) (n1 c1 : Nat) (l1 : List It) (A2 : Option Addr) (n2 c2 : Nat) (l2 : List It) (x : Int) (w : World)
    (h1 : BagR w w.heap.size A1 n1 l1) (h2 : BagR w w.heap.size A2 n2 l2) (k1 : n1 ≤ c1) (k2 : n2 ≤ c2) :
    Calls Try.prog 4 #[.slice A1 n1 c1, .slice A2 n2 c2, .int .i64 x] w (RetV w (.bool true)) := by
  have hB0 := below_val (w := w) #[.slice A1 n1 c1, .slice A2 n2 c2] 23
  have b0 := Blk.new w 23 #[.slice A1 n1 c1, .slice A2 n2 c2]
  have g1 := h1.step hB0
  have g2 := h2.step hB0
  have HF := hide (Few_any [⟨A1, n1, c1, l1⟩, ⟨A2, n2, c2, l2⟩] 2 w.heap.size _ rfl (by omega) (fun i x hx => by
    have hi := (List.getElem?_eq_some_iff.1 hx).1
    simp only [List.length_cons, List.length_nil] at hi
    match i, hi, hx with
    | 0, _, hx => injection hx with hx; subst hx; exact ⟨by rw [b0.cell]; rfl, g1⟩
    | 1, _, hx => injection hx with hx; subst hx; exact ⟨by rw [b0.cell]; rfl, g2⟩))
  clear b0 g1 g2
  have H0 := hide hB0
  clear hB0
  go_enter Try.func4, Try.ntmps4
  go_wp2_with fail
  refine HF.out.mono ?_
  rintro e W1 ⟨b, rfl, _, hB1⟩
  have hB01 := bstep H0.out hB1
  clear hB1 HF H0
  have HA := hide (awake_any)
  cases b
  · go_wp2_with fail
    refine (HA.out W1).mono ?_
    rintro e W2 ⟨rfl, hB2⟩
    have HE := hide (bstep hB01 hB2)
    clear hB01 hB2
    go_wp2
    go_ret
    exact ⟨rfl, HE.out⟩
  · obtain ⟨d1, E, hp1⟩ : ∃ d E, addB (dat l1) (dat l2) = (d, E) := ⟨_, _, rfl⟩
    have hp1' : addB (dat l2) (dat l1) = (d1, E) := by rw [addB_comm]; exact hp1
    obtain ⟨d2, F, hp2⟩ : ∃ d E, subB (dat l1) (dat l2) = (d, E) := ⟨_, _, rfl⟩
    obtain ⟨d3, G, hp3⟩ : ∃ d E, timesB (dat l1) x = (d, E) := ⟨_, _, rfl⟩
    have zE : (E != E) = false := by simp
    have zF : (F != F) = false := by simp
    have zG : (G == G) = true := by simp
    go_wp2_with fail
    refine (Sum_add hp1 (h1.step hB01) (h2.step hB01) k1 k2).mono ?_
    rintro e W2 ⟨A3, n3, c3, l3, rfl, hd3, hb3, hc3, hB2⟩
    have hB02 := bstep hB01 hB2
    clear hB01 hB2
    go_wp2_with fail
    refine (RSum_add hp1 (h1.step hB02) (h2.step hB02)).mono ?_
    rintro e W3 ⟨A4, n4, c4, l4, rfl, hd4, hb4, hc4, hB3⟩
    have hB03 := bstep hB02 hB3
    have hb3 := hb3.step hB3
    clear hB02 hB3
    have HS := hide (Same_dat (c := c3) (c' := c4) hb3 hb4 (by rw [hd3, hd4]))
    clear hb4 hd4
    go_wp2_with fail
    refine HS.out.mono ?_
    rintro e W4 ⟨rfl, hB4⟩
    have hB04 := bstep hB03 hB4
    have hb3 := hb3.step hB4
    clear hB03 hB4 HS
    go_wp2_with fail
    refine (Sum_add hp1' (h2.step hB04) (h1.step hB04) k2 k1).mono ?_
    rintro e W5 ⟨A5, n5, c5, l5, rfl, hd5, hb5, hc5, hB5⟩
    have hB05 := bstep hB04 hB5
    have hb3 := hb3.step hB5
    clear hB04 hB5
    have HS := hide (Same_dat (c := c3) (c' := c5) hb3 hb5 (by rw [hd3, hd5]))
    clear hb5 hd5
    go_wp2_with fail
    refine HS.out.mono ?_
    rintro e W6 ⟨rfl, hB6⟩
    have hB06 := bstep hB05 hB6
    have hb3 := hb3.step hB6
    clear hB05 hB6 HS
    by_cases hE : E = 0
    · have hq : subB (dat l3) (dat l2) = (dat l1, 0) := by
        have := subB_add (a := dat l1) (b := dat l2) (by rw [hp1]; exact hE)
        rw [hp1] at this
        rw [hd3]
        exact this
      subst hE
      clear hp1 hp1' hd3
      have z0 : ((0 : Int) == 0) = true := rfl
      have z1 : ((0 : Int) != 0) = false := rfl
      go_wp2_with fail
      refine (Minus_sub hq hb3 (h2.step hB06) hc3 k2).mono ?_
      rintro e W7 ⟨A7, n7, c7, l7, rfl, hd7, hb7, hc7, hB7⟩
      have hB07 := bstep hB06 hB7
      clear hB06 hB7 hb3 hq
      have HS := hide (Same_dat (c := c7) (c' := c1) hb7 (h1.step hB07) hd7)
      clear hb7 hd7
      go_wp2_with fail
      refine HS.out.mono ?_
      rintro e W8 ⟨rfl, hB8⟩
      have hB08 := bstep hB07 hB8
      clear hB07 hB8 HS z0 z1 zE
      go_wp2_with fail
      refine (Minus_sub hp2 (h1.step hB08) (h2.step hB08) k1 k2).mono ?_
      rintro e X1 ⟨A9, n9, c9, l9, rfl, hd9, hb9, hc9, hC1⟩
      have hC01 := bstep hB08 hC1
      clear hB08 hC1
      go_wp2_with fail
      refine (RMinus_sub hp2 (h1.step hC01) (h2.step hC01)).mono ?_
      rintro e X2 ⟨Aa, na, ca, la, rfl, hda, hba, hca, hC2⟩
      have hC02 := bstep hC01 hC2
      have hb9 := hb9.step hC2
      clear hC01 hC2
      have HS := hide (Same_dat (c := c9) (c' := ca) hb9 hba (by rw [hd9, hda]))
      clear hb9 hba hd9 hda hp2
      go_wp2_with fail
      refine HS.out.mono ?_
      rintro e X3 ⟨rfl, hC3⟩
      have hC03 := bstep hC02 hC3
      clear hC02 hC3 HS
      go_wp2_with fail
      refine (Times_tim hp3 (h1.step hC03) k1).mono ?_
      rintro e X4 ⟨A9, n9, c9, l9, rfl, hd9, hb9, hc9, hC4⟩
      have hC04 := bstep hC03 hC4
      clear hC03 hC4
      go_wp2_with fail
      refine (RTimes_tim hp3 (h1.step hC04)).mono ?_
      rintro e X5 ⟨Aa, na, ca, la, rfl, hda, hba, hca, hC5⟩
      have hC05 := bstep hC04 hC5
      have hb9 := hb9.step hC5
      clear hC04 hC5
      have HS := hide (Same_dat (c := c9) (c' := ca) hb9 hba (by rw [hd9, hda]))
      clear hb9 hba hd9 hda hp3 h1 h2
      go_wp2_with fail
      refine HS.out.mono ?_
      rintro e X6 ⟨rfl, hC6⟩
      have hC06 := bstep hC05 hC6
      clear hC05 hC6 HS
      go_wp2_with fail
      refine (HA.out X6).mono ?_
      rintro e X7 ⟨rfl, hC7⟩
      have HE := hide (bstep hC06 hC7)
      clear hC06 hC7
      go_wp2
      go_ret
      exact ⟨rfl, HE.out⟩
    · have z0 : (E == 0) = false := by simpa using hE
      clear hp1 hp1' hd3 hb3 hE
      go_wp2_with fail
      refine (Minus_sub hp2 (h1.step hB06) (h2.step hB06) k1 k2).mono ?_
      rintro e X1 ⟨A9, n9, c9, l9, rfl, hd9, hb9, hc9, hC1⟩
      have hC01 := bstep hB06 hC1
      clear hB06 hC1
      go_wp2_with fail
      refine (RMinus_sub hp2 (h1.step hC01) (h2.step hC01)).mono ?_
      rintro e X2 ⟨Aa, na, ca, la, rfl, hda, hba, hca, hC2⟩
      have hC02 := bstep hC01 hC2
      have hb9 := hb9.step hC2
      clear hC01 hC2
      have HS := hide (Same_dat (c := c9) (c' := ca) hb9 hba (by rw [hd9, hda]))
      clear hb9 hba hd9 hda hp2
      go_wp2_with fail
      refine HS.out.mono ?_
      rintro e X3 ⟨rfl, hC3⟩
      have hC03 := bstep hC02 hC3
      clear hC02 hC3 HS
      go_wp2_with fail
      refine (Times_tim hp3 (h1.step hC03) k1).mono ?_
      rintro e X4 ⟨A9, n9, c9, l9, rfl, hd9, hb9, hc9, hC4⟩
      have hC04 := bstep hC03 hC4
      clear hC03 hC4
      go_wp2_with fail
      refine (RTimes_tim hp3 (h1.step hC04)).mono ?_
      rintro e X5 ⟨Aa, na, ca, la, rfl, hda, hba, hca, hC5⟩
      have hC05 := bstep hC04 hC5
      have hb9 := hb9.step hC5
      clear hC04 hC5
      have HS := hide (Same_dat (c := c9) (c' := ca) hb9 hba (by rw [hd9, hda]))
      clear hb9 hba hd9 hda hp3 h1 h2
      go_wp2_with fail
      refine HS.out.mono ?_
      rintro e X6 ⟨rfl, hC6⟩
      have hC06 := bstep hC05 hC6
      clear hC05 hC6 HS
      go_wp2_with fail
      refine (HA.out X6).mono ?_
      rintro e X7 ⟨rfl, hC7⟩
      have HE := hide (bstep hC06 hC7)
      clear hC06 hC7
      go_wp2
      go_ret
      exact ⟨rfl, HE.out⟩
end Go.Proofs.Ytiioiajcoiaalaa
