/-
  The plain laws of sums of bags: they commute, Minus undoes them, and they are what the reference tells.
-/
import Derived.Test.YtiioiajcoiaalaaGreatDoorBgN
namespace Go.Proofs.YtiioiajcoiaalaaGreatDoor
open Go.RowKit

abbrev subB : Bg → Bg → Bg × Int := comb (fun m k => m - k)
theorem addB_comm (a b : Bg) : addB a b = addB b a := by
  show comb _ a b = comb _ b a
  unfold comb
  rw [Bool.and_comm (okBag b) (okBag a)]
  cases ha : okBag a
  · rfl
  · cases hb : okBag b
    · rfl
    · have p1 := both_prs (f := fun m k => m + k) rfl (okBag_asc ha).1 (okBag_asc hb).1
      have p2 := both_prs (f := fun m k => m + k) rfl (okBag_asc hb).1 (okBag_asc ha).1
      rw [Asc.ext p1.1 p2.1 p1.2.1 p2.2.1 fun r => by rw [p1.2.2 r, p2.2.2 r]; omega]
theorem subB_add {a b : Bg} (h : (addB a b).2 = 0) : subB (addB a b).1 b = (a, 0) := by
  obtain ⟨oa, ob, oab, _⟩ := addB_ok h
  have p1 := both_prs (f := fun m k => m - k) rfl (okBag_asc oab).1 (okBag_asc ob).1
  have e : both (fun m k => m - k) (prs (addB a b).1 b) = a :=
    Asc.ext p1.1 (okBag_asc oa).1 p1.2.1 (fun x hx => (numB_ne ((okBag_asc oa).2.1 x hx)).1) fun r => by
      rw [p1.2.2 r, addB_look h]
      omega
  show comb _ (addB a b).1 b = _
  unfold comb
  rw [oab, ob, e, oa]; rfl
/-- What the reference tells of a list. -/
def toldB (d : Bg) : Bg × Int := if okBag d then (d, 0) else ([], 4)
theorem comb_told {f : Int → Int → Int} {n : Int} (hf : ∀ m k, f m k = m + n * k) (a b : Bg) : comb f a b = if okBag a && okBag b then toldB (plusB a b n) else ([], 1) := by
  have e : f = fun m k => m + n * k := funext fun m => funext fun k => hf m k
  subst e
  unfold comb toldB
  cases ha : okBag a
  · rfl
  · cases hb : okBag b
    · rfl
    · rw [plus_both ha hb n]
/-- A bag times a number. -/
theorem times_told (b : Bg) (n : Int) : comb (fun m _ => m * n) b [] = if okBag b then toldB (plusB [] b n) else ([], 1) := by
  unfold comb toldB
  have h0 : okBag [] = true := rfl
  rw [h0, Bool.and_true]
  cases hb : okBag b
  · rfl
  · have p1 := both_prs (f := fun m _ => m * n) (by simp) (okBag_asc hb).1 Asc.nil
    have p2 := plus_ok (n := n) Asc.nil (by simp) (okBag_asc hb).1
    rw [Asc.ext p1.1 p2.1 p1.2.1 p2.2.1 fun r => by rw [p1.2.2 r, p2.2.2 r, Int.mul_comm]; show _ = 0 + _; omega]
end Go.Proofs.YtiioiajcoiaalaaGreatDoor
