/-
  The walk of BagUpserts, for every bag, changes and key.
-/
import Derived.Test.YtiioiajcoiaalaaGreatDoorUpC
import Derived.Test.YtiioiajcoiaalaaGreatDoorBcL
import Derived.Test.YtiioiajcoiaalaaGreatDoorOpenCap
namespace Go.Proofs.YtiioiajcoiaalaaGreatDoor
open Go.RowKit
attribute [local go_sem] Oper.semAt_some
set_option linter.unusedVariables false
set_option linter.unusedSimpArgs false

set_option maxRecDepth 100000 in
set_option maxHeartbeats 8000000 in
theorem bagUpserts_all (A1 : Option Addr) (n1 c1 : Nat) (l1 : List It) (A2 : Option Addr) (n2 c2 : Nat) (l2 : List Ch) (A3 : Option Addr) (n3 c3 : Nat) (key : List Int) (w : World)
    (h1 : BagR w w.heap.size A1 n1 l1) (h2 : ChgR w w.heap.size A2 n2 l2) (h3 : Reads w w.heap.size 1 A3 n3 (key.map (Value.int .i64))) (k1 : n1 ≤ c1) (q1 : Caps l1) (q2 : CapsC l2) (k3 : n3 ≤ 9223372036854775807) (ht : Tab w) :
    Calls Tryz.prog 5 #[.slice A1 n1 c1, .slice A2 n2 c2, .slice A3 n3 c3] w (RetV w (.bool true)) := by
  have hB0 := below_val (w := w) #[.slice A1 n1 c1] 23
  have b0 := Blk.new w 23 #[.slice A1 n1 c1]
  have g1 := h1.step hB0
  have HF := hide (Few_any [⟨A1, n1, c1, l1⟩] 1 w.heap.size _ rfl (by omega) (fun i x hx => by
    have hi := (List.getElem?_eq_some_iff.1 hx).1
    simp only [List.length_cons, List.length_nil] at hi
    match i, hi, hx with
    | 0, _, hx => injection hx with hx; subst hx; exact ⟨by rw [b0.cell]; rfl, g1⟩))
  clear b0 g1
  have H0 := hide hB0
  clear hB0
  have HA := hide (awake_any)
  go_enter Tryz.func5, Tryz.ntmps5
  go_wp2_with fail
  refine HF.out.mono ?_
  rintro e W1 ⟨b, rfl, _, hB1⟩
  have hB := bstep H0.out hB1
  clear hB1 HF H0
  cases b
  · go_wp2_with fail
    refine (HA.out W1).mono ?_
    rintro e W2 ⟨rfl, hX⟩
    have HE := hide (bstep hB hX)
    clear hB hX
    go_wp2
    go_ret
    exact ⟨rfl, HE.out⟩
  go_wp2_with fail
  refine (FewChanges_any A2 n2 c2 l2 W1 (h2.step hB)).mono ?_
  rintro e W2 ⟨b, rfl, hX⟩
  have hB := bstep hB hX
  clear hX
  cases b
  · go_wp2_with fail
    refine (HA.out W2).mono ?_
    rintro e W3 ⟨rfl, hX⟩
    have HE := hide (bstep hB hX)
    clear hB hX
    go_wp2
    go_ret
    exact ⟨rfl, HE.out⟩
  by_cases h9 : n3 ≤ 1000
  case neg =>
    have z9 : decide ((1000 : Int) < (n3 : Int)) = true := by simp; omega
    clear h9
    go_wp2_with fail
    refine (HA.out W2).mono ?_
    rintro e W3 ⟨rfl, hX⟩
    have HE := hide (bstep hB hX)
    clear hB hX
    go_wp2
    go_ret
    exact ⟨rfl, HE.out⟩
  have z9 : decide ((1000 : Int) < (n3 : Int)) = false := by simp; omega
  obtain ⟨dU, EU, hp1⟩ : ∃ d E, upsB (dat l1) l2 key = (d, E) := ⟨_, _, rfl⟩
  have zU : (EU != EU) = false := by simp
  have HP1 := hide hp1
  clear hp1
  go_wp2_with fail
  refine (Upserts_any A1 n1 c1 l1 A2 n2 c2 l2 A3 n3 c3 key W2 (h1.step hB) q1 (h2.step hB) q2 (h3.up hB) h9 (ht.below hB)).mono ?_
  rw [HP1.out]
  rintro e W3 ⟨A4, n4, c4, l4, rfl, hd4, hb4, hc4, hq4, hX⟩
  have hB := bstep hB hX
  clear hX
  go_wp2_with fail
  refine (RUpserts_any A1 n1 c1 l1 A2 n2 c2 l2 A3 n3 c3 key W3 (h1.step hB) k1 (h2.step hB) (h3.up hB) h9).mono ?_
  rw [HP1.out]
  rintro e W4 ⟨A5, n5, c5, l5, rfl, hd5, hb5, hc5, hX⟩
  have hB := bstep hB hX
  have hb4 := hb4.step hX
  have HS := hide (same_dat (c := c4) (c' := c5) hb4 hb5 (by rw [hd4, hd5]))
  clear hX hb5 hd5
  go_wp2_with fail
  refine HS.out.mono ?_
  rintro e W5 ⟨rfl, hX⟩
  have hB := bstep hB hX
  have hb4 := hb4.step hX
  clear hX HS
  by_cases h0 : EU = 0
  · subst h0
    have HTW := hide (show upsB (dat l4) l2 key = (dU, 0) by rw [hd4]; exact up_twice HP1.out)
    go_wp2_with fail
    refine (Upserts_any A4 n4 c4 l4 A2 n2 c2 l2 A3 n3 c3 key W5 hb4 hq4 (h2.step hB) q2 (h3.up hB) h9 (ht.below hB)).mono ?_
    rw [HTW.out]
    rintro e W6 ⟨A6, n6, c6, l6, rfl, hd6, hb6, hc6, _, hX⟩
    have hB := bstep hB hX
    have HS := hide (same_dat (c := c4) (c' := c6) (hb4.step hX) hb6 (by rw [hd4, hd6]))
    clear hX hb4 hb6 hd4 hd6
    go_wp2_with fail
    refine HS.out.mono ?_
    rintro e W7 ⟨rfl, hX⟩
    have hB := bstep hB hX
    clear hX HS
    go_wp2_with fail
    refine (HA.out W7).mono ?_
    rintro e W8 ⟨rfl, hX⟩
    have HE := hide (bstep hB hX)
    clear hB hX
    go_wp2
    go_ret
    exact ⟨rfl, HE.out⟩
  · have n0 : (EU != 0) = true := by simpa using h0
    clear h0 hd4 hb4
    go_wp2_with fail
    refine (HA.out W5).mono ?_
    rintro e W6 ⟨rfl, hX⟩
    have HE := hide (bstep hB hX)
    clear hB hX
    go_wp2
    go_ret
    exact ⟨rfl, HE.out⟩
end Go.Proofs.YtiioiajcoiaalaaGreatDoor
