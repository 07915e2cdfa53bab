/-
  The walk of the reference's Times.
-/
import Derived.Test.YtiioiajcoiaalaaBgS9
namespace Go.Proofs.Ytiioiajcoiaalaa
open Go.RowKit
attribute [local go_sem] Oper.semAt_some

/-- What the reference's Times tells. -/
def timesR (b : Bg) (n : Int) : Bg × Int := if okBag b then (if btw n (-1000000) 1000000 then toldB (plusB [] b n) else ([], 7)) else ([], 1)
theorem times_eq (b : Bg) (n : Int) : timesB b n = timesR b n := by
  unfold timesB timesR
  cases ob : okBag b
  · rfl
  · rw [times_told, ob]
    rfl
set_option maxRecDepth 100000 in
theorem RTimes_any (A : Option Addr) (n c : Nat) (l : List It) (x : Int) (w : World) (hb : BagR w w.heap.size A n l) :
    Calls Try.prog 14 #[.slice A n c, .int .i64 x] w (RetC w (timesR (dat l) x)) := by
  obtain ⟨p, hp⟩ : ∃ p, timesR (dat l) x = p := ⟨_, rfl⟩
  rw [hp]
  have HP := hide hp
  clear hp
  go_enter Try.func14, Try.ntmps14
  go_wp2_with fail
  refine (R3Valid_any A n c _ l w hb).mono ?_
  rintro e W1 ⟨rfl, hB1⟩
  cases ob : okBag (dat l)
  · have hq : p = ([], 1) := by rw [← HP.out]; unfold timesR; rw [ob]; rfl
    have HQ := hide hq
    clear ob hq
    go_wp2
    go_ret2
    rw [HQ.out]
    exact ⟨none, 0, 0, [], rfl, rfl, BagR.nil _ _, Nat.le_refl _, hB1⟩
  · have OB := hide ob
    clear ob
    go_wp2_with fail
    refine (R3within_any x _ _ W1).mono ?_
    rintro e w' ⟨rfl, rfl⟩
    cases hw : btw x (-1000000) 1000000
    · have hq : p = ([], 7) := by rw [← HP.out]; unfold timesR; rw [OB.out, hw]; rfl
      have HQ := hide hq
      clear hw hq
      go_wp2
      go_ret2
      rw [HQ.out]
      exact ⟨none, 0, 0, [], rfl, rfl, BagR.nil _ _, Nat.le_refl _, hB1⟩
    · have hq : p = toldB (plusB (dat []) (dat l) x) := by rw [← HP.out]; unfold timesR; rw [OB.out, hw]; rfl
      have hx : -1000000 ≤ x ∧ x ≤ 1000000 := by unfold btw at hw; simpa using hw
      have HQ := hide hq
      clear hw hq
      go_wp2_with fail
      refine (RPlus_any none 0 0 [] A n c l x W1 (BagR.nil _ _) ((hb.below hB1).mono hB1.size) rfl OB.out hx).mono ?_
      rintro e W3 ⟨A3, n3, c3, l3, rfl, hd3, hb3, hc3, hB3⟩
      have hB03 := bstep hB1 hB3
      clear hB1 hB3
      go_wp2_with fail
      refine (told_any A3 n3 c3 _ l3 W3 hb3 (Nat.le_refl _) hc3).mono ?_
      intro e W4 h
      rw [hd3] at h
      obtain ⟨A5, n5, c5, l5, rfl, r2, r3, r4, r5⟩ := told_ret hB03 h
      have HE := hide r5
      clear r5 h hB03
      go_wp2
      go_ret2
      rw [HQ.out]
      exact ⟨A5, n5, c5, l5, rfl, r2, r3, r4, HE.out⟩
end Go.Proofs.Ytiioiajcoiaalaa
