/-
  The walks of the reference's Sum and Minus.
-/
import Derived.Test.YtiioiajcoiaalaaBgS8
namespace Go.Proofs.Ytiioiajcoiaalaa
open Go.RowKit
attribute [local go_sem] Oper.semAt_some

/-- What the reference's Sum and Minus tell. -/
def sumR (a b : Bg) (n : Int) : Bg × Int := if okBag a && okBag b then toldB (plusB a b n) else ([], 1)
theorem told_ret {w w1 w2 : World} {d : Bg} {e : Ending} (hB : Below w.heap.size w w1) (h : RetPut w1 d e w2) : RetC w (toldB d) e w2 := by
  have : RetC w1 (toldB d) e w2 := by
    unfold RetC toldB
    unfold RetPut at h
    cases ho : okBag d <;> rw [ho] at h <;> exact h
  obtain ⟨A, n, c, l, h1, h2, h3, h4, h5⟩ := this
  exact ⟨A, n, c, l, h1, h2, h3, h4, bstep hB h5⟩
set_option maxRecDepth 100000 in
theorem RSum_any (A : Option Addr) (n c : Nat) (la : List It) (A' : Option Addr) (n' c' : Nat) (lb : List It) (w : World) (ha : BagR w w.heap.size A n la) (hb : BagR w w.heap.size A' n' lb) :
    Calls Try.prog 10 #[.slice A n c, .slice A' n' c'] w (RetC w (sumR (dat la) (dat lb) 1)) := by
  obtain ⟨p, hp⟩ : ∃ p, sumR (dat la) (dat lb) 1 = p := ⟨_, rfl⟩
  rw [hp]
  have HP := hide hp
  clear hp
  go_enter Try.func10, Try.ntmps10
  go_wp2_with fail
  refine (R3Valid_any A n c _ la w ha).mono ?_
  rintro e W1 ⟨rfl, hB1⟩
  cases oa : okBag (dat la)
  · have hq : p = ([], 1) := by rw [← HP.out]; unfold sumR; rw [oa]; rfl
    have HQ := hide hq
    clear oa hq
    go_wp2
    go_ret2
    rw [HQ.out]
    exact ⟨none, 0, 0, [], rfl, rfl, BagR.nil _ _, Nat.le_refl _, hB1⟩
  · have OA := hide oa
    clear oa
    go_wp2_with fail
    refine (R3Valid_any A' n' c' _ lb W1 (hb.below hB1)).mono ?_
    rintro e W2 ⟨rfl, hB2⟩
    have hB02 := bstep hB1 hB2
    clear hB1 hB2
    cases ob : okBag (dat lb)
    · have hq : p = ([], 1) := by rw [← HP.out]; unfold sumR; rw [OA.out, ob]; rfl
      have HQ := hide hq
      clear ob hq
      go_wp2
      go_ret2
      rw [HQ.out]
      exact ⟨none, 0, 0, [], rfl, rfl, BagR.nil _ _, Nat.le_refl _, hB02⟩
    · have hq : p = toldB (plusB (dat la) (dat lb) 1) := by rw [← HP.out]; unfold sumR; rw [OA.out, ob]; rfl
      have HQ := hide hq
      have OB := hide ob
      clear ob hq
      go_wp2_with fail
      refine (RPlus_any A n c la A' n' c' lb 1 W2 ((ha.below hB02).mono hB02.size) ((hb.below hB02).mono hB02.size) OA.out OB.out (by omega)).mono ?_
      rintro e W3 ⟨A3, n3, c3, l3, rfl, hd3, hb3, hc3, hB3⟩
      have hB03 := bstep hB02 hB3
      clear hB02 hB3
      go_wp2_with fail
      refine (told_any A3 n3 c3 _ l3 W3 hb3 (Nat.le_refl _) hc3).mono ?_
      intro e W4 h
      rw [hd3] at h
      obtain ⟨A5, n5, c5, l5, rfl, r2, r3, r4, r5⟩ := told_ret hB03 h
      have HE := hide r5
      clear r5 h hB03
      go_wp2
      go_ret2
      rw [HQ.out]
      exact ⟨A5, n5, c5, l5, rfl, r2, r3, r4, HE.out⟩
set_option maxRecDepth 100000 in
theorem RMinus_any (A : Option Addr) (n c : Nat) (la : List It) (A' : Option Addr) (n' c' : Nat) (lb : List It) (w : World) (ha : BagR w w.heap.size A n la) (hb : BagR w w.heap.size A' n' lb) :
    Calls Try.prog 12 #[.slice A n c, .slice A' n' c'] w (RetC w (sumR (dat la) (dat lb) (-1))) := by
  obtain ⟨p, hp⟩ : ∃ p, sumR (dat la) (dat lb) (-1) = p := ⟨_, rfl⟩
  rw [hp]
  have HP := hide hp
  clear hp
  go_enter Try.func12, Try.ntmps12
  go_wp2_with fail
  refine (R3Valid_any A n c _ la w ha).mono ?_
  rintro e W1 ⟨rfl, hB1⟩
  cases oa : okBag (dat la)
  · have hq : p = ([], 1) := by rw [← HP.out]; unfold sumR; rw [oa]; rfl
    have HQ := hide hq
    clear oa hq
    go_wp2
    go_ret2
    rw [HQ.out]
    exact ⟨none, 0, 0, [], rfl, rfl, BagR.nil _ _, Nat.le_refl _, hB1⟩
  · have OA := hide oa
    clear oa
    go_wp2_with fail
    refine (R3Valid_any A' n' c' _ lb W1 (hb.below hB1)).mono ?_
    rintro e W2 ⟨rfl, hB2⟩
    have hB02 := bstep hB1 hB2
    clear hB1 hB2
    cases ob : okBag (dat lb)
    · have hq : p = ([], 1) := by rw [← HP.out]; unfold sumR; rw [OA.out, ob]; rfl
      have HQ := hide hq
      clear ob hq
      go_wp2
      go_ret2
      rw [HQ.out]
      exact ⟨none, 0, 0, [], rfl, rfl, BagR.nil _ _, Nat.le_refl _, hB02⟩
    · have hq : p = toldB (plusB (dat la) (dat lb) (-1)) := by rw [← HP.out]; unfold sumR; rw [OA.out, ob]; rfl
      have HQ := hide hq
      have OB := hide ob
      clear ob hq
      go_wp2_with fail
      refine (RPlus_any A n c la A' n' c' lb (-1) W2 ((ha.below hB02).mono hB02.size) ((hb.below hB02).mono hB02.size) OA.out OB.out (by omega)).mono ?_
      rintro e W3 ⟨A3, n3, c3, l3, rfl, hd3, hb3, hc3, hB3⟩
      have hB03 := bstep hB02 hB3
      clear hB02 hB3
      go_wp2_with fail
      refine (told_any A3 n3 c3 _ l3 W3 hb3 (Nat.le_refl _) hc3).mono ?_
      intro e W4 h
      rw [hd3] at h
      obtain ⟨A5, n5, c5, l5, rfl, r2, r3, r4, r5⟩ := told_ret hB03 h
      have HE := hide r5
      clear r5 h hB03
      go_wp2
      go_ret2
      rw [HQ.out]
      exact ⟨A5, n5, c5, l5, rfl, r2, r3, r4, HE.out⟩
end Go.Proofs.Ytiioiajcoiaalaa
