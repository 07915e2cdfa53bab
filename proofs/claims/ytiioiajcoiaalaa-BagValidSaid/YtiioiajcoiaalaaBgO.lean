/-
  The walk of BagGroups, for every three bags.
-/
import Derived.Test.YtiioiajcoiaalaaBgL
import Derived.Test.YtiioiajcoiaalaaBgN
namespace Go.Proofs.Ytiioiajcoiaalaa
open Go.RowKit
attribute [local go_sem] Oper.semAt_some

theorem BagR.step {w w' : World} {A : Option Addr} {n : Nat} {l : List It} (h : BagR w w.heap.size A n l) (hb : Below w.heap.size w w') : BagR w' w'.heap.size A n l := (h.below hb).mono hb.size
theorem Sum_add {A : Option Addr} {n c : Nat} {la : List It} {A' : Option Addr} {n' c' : Nat} {lb : List It} {w : World} {d : Bg} {E : Int} (hp : addB (dat la) (dat lb) = (d, E)) (ha : BagR w w.heap.size A n la) (hb : BagR w w.heap.size A' n' lb) (hc : n ≤ c) (hc' : n' ≤ c') :
    Calls Try.prog 8 #[.slice A n c, .slice A' n' c'] w (RetBag w d E) := by
  have h := Sum_any A n c la A' n' c' lb w ha hb hc hc'
  rw [show comb (fun m k => m + k) (dat la) (dat lb) = (d, E) from hp] at h
  exact h
set_option maxRecDepth 100000 in
set_option maxHeartbeats 4000000 in
theorem bagGroups_all (A1 : Option Addr) (n1 c1 : Nat) (l1 : List It) (A2 : Option Addr) (n2 c2 : Nat) (l2 : List It) (A3 : Option Addr) (n3 c3 : Nat) (l3 : List It) (w : World)
    (h1 : BagR w w.heap.size A1 n1 l1) (h2 : BagR w w.heap.size A2 n2 l2) (h3 : BagR w w.heap.size A3 n3 l3) (k1 : n1 ≤ c1) (k2 : n2 ≤ c2) (k3 : n3 ≤ c3) :
    Calls Try.prog 3 #[.slice A1 n1 c1, .slice A2 n2 c2, .slice A3 n3 c3] w (RetV w (.bool true)) := by
  have hB0 := below_val (w := w) #[.slice A1 n1 c1, .slice A2 n2 c2, .slice A3 n3 c3] 23
  have b0 := Blk.new w 23 #[.slice A1 n1 c1, .slice A2 n2 c2, .slice A3 n3 c3]
  have g1 := h1.step hB0
  have g2 := h2.step hB0
  have g3 := h3.step hB0
  have HF := hide (Few_any [⟨A1, n1, c1, l1⟩, ⟨A2, n2, c2, l2⟩, ⟨A3, n3, c3, l3⟩] 3 w.heap.size _ rfl (by omega) (fun i x hx => by
    have hi := (List.getElem?_eq_some_iff.1 hx).1
    simp only [List.length_cons, List.length_nil] at hi
    match i, hi, hx with
    | 0, _, hx => injection hx with hx; subst hx; exact ⟨by rw [b0.cell]; rfl, g1⟩
    | 1, _, hx => injection hx with hx; subst hx; exact ⟨by rw [b0.cell]; rfl, g2⟩
    | 2, _, hx => injection hx with hx; subst hx; exact ⟨by rw [b0.cell]; rfl, g3⟩))
  clear b0 g1 g2 g3
  have H0 := hide hB0
  clear hB0
  go_enter Try.func3, Try.ntmps3
  go_wp2_with fail
  refine HF.out.mono ?_
  rintro e W1 ⟨b, rfl, _, hB1⟩
  have hB01 := bstep H0.out hB1
  clear hB1 HF H0
  have HA := hide (awake_any)
  cases b
  · go_wp2_with fail
    refine (HA.out W1).mono ?_
    rintro e W2 ⟨rfl, hB2⟩
    have HE := hide (bstep hB01 hB2)
    clear hB01 hB2
    go_wp2
    go_ret
    exact ⟨rfl, HE.out⟩
  · obtain ⟨d12, E12, hp12⟩ : ∃ d E, addB (dat l1) (dat l2) = (d, E) := ⟨_, _, rfl⟩
    obtain ⟨d23, E23, hp23⟩ : ∃ d E, addB (dat l2) (dat l3) = (d, E) := ⟨_, _, rfl⟩
    go_wp2_with fail
    refine (Sum_add hp12 (h1.step hB01) (h2.step hB01) k1 k2).mono ?_
    rintro e W2 ⟨A12, n12, c12, l12, rfl, hd12, hb12, hc12, hB2⟩
    have hB02 := bstep hB01 hB2
    clear hB01 hB2
    go_wp2_with fail
    refine (Sum_add hp23 (h2.step hB02) (h3.step hB02) k2 k3).mono ?_
    rintro e W3 ⟨A23, n23, c23, l23, rfl, hd23, hb23, hc23, hB3⟩
    have hB03 := bstep hB02 hB3
    have hb12 := hb12.step hB3
    clear hB02 hB3
    by_cases hE : E12 = 0
    · subst hE
      by_cases hE : E23 = 0
      · subst hE
        obtain ⟨d, E, hp⟩ : ∃ d E, addB (dat l12) (dat l3) = (d, E) := ⟨_, _, rfl⟩
        have hp' : addB (dat l1) (dat l23) = (d, E) := by
          have := addB_groups (by rw [hp12]) (by rw [hp23] : (addB (dat l2) (dat l3)).2 = 0)
          rw [hp12, hp23] at this
          rw [hd12] at hp
          rw [hd23, ← this]
          exact hp
        have z0 : ((0 : Int) != 0) = false := rfl
        clear hp12 hp23 hd12 hd23
        go_wp2_with fail
        refine (Sum_add hp hb12 (h3.step hB03) hc12 k3).mono ?_
        rintro e W4 ⟨A4, n4, c4, l4, rfl, hd4, hb4, hc4, hB4⟩
        have hB04 := bstep hB03 hB4
        have hb23 := hb23.step hB4
        clear hB03 hB4 hb12
        go_wp2_with fail
        refine (Sum_add hp' (h1.step hB04) hb23 k1 hc23).mono ?_
        rintro e W5 ⟨A5, n5, c5, l5, rfl, hd5, hb5, hc5, hB5⟩
        have hB05 := bstep hB04 hB5
        have hb4 := hb4.step hB5
        clear hB04 hB5 hb23 hp hp'
        have hn : n5 = n4 := by rw [← hb4.len, ← hb5.len, ← dat_len, ← dat_len, hd4, hd5]
        subst hn
        have z1 : (E == E) = true := by simp
        have HS := hide (BagSame_one A4 n5 c4 A5 c5 _ _ l4 l5 W5 hb4 hb5 (by rw [hd4, hd5]))
        clear hb4 hb5 hd4 hd5 h1 h2 h3
        go_wp2_with fail
        refine HS.out.mono ?_
        rintro e W6 ⟨rfl, hB6⟩
        have hB06 := bstep hB05 hB6
        clear hB05 hB6 HS
        go_wp2_with fail
        refine (HA.out W6).mono ?_
        rintro e W7 ⟨rfl, hB7⟩
        have HE := hide (bstep hB06 hB7)
        clear hB06 hB7
        go_wp2
        go_ret
        exact ⟨rfl, HE.out⟩
      · have z0 : ((0 : Int) != 0) = false := rfl
        have z1 : (E23 != 0) = true := by simpa using hE
        clear hp12 hp23 hd12 hd23 hb12 hb23 h1 h2 h3 hE
        go_wp2_with fail
        refine (HA.out W3).mono ?_
        rintro e W4 ⟨rfl, hB4⟩
        have HE := hide (bstep hB03 hB4)
        clear hB03 hB4
        go_wp2
        go_ret
        exact ⟨rfl, HE.out⟩
    · have z1 : (E12 != 0) = true := by simpa using hE
      clear hp12 hp23 hd12 hd23 hb12 hb23 h1 h2 h3 hE
      go_wp2_with fail
      refine (HA.out W3).mono ?_
      rintro e W4 ⟨rfl, hB4⟩
      have HE := hide (bstep hB03 hB4)
      clear hB03 hB4
      go_wp2
      go_ret
      exact ⟨rfl, HE.out⟩
end Go.Proofs.Ytiioiajcoiaalaa
