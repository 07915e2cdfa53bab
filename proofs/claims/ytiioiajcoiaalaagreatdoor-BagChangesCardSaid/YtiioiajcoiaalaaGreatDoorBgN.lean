/-
  Sums group: (a + b) + c and a + (b + c) are the same list where all four sums are told without error. (Plain law.)
-/
import Derived.Test.YtiioiajcoiaalaaGreatDoorBgE
namespace Go.Proofs.YtiioiajcoiaalaaGreatDoor
open Go.RowKit

abbrev addB : Bg → Bg → Bg × Int := comb (fun m k => m + k)
theorem addB_ok {a b : Bg} (h : (addB a b).2 = 0) : okBag a = true ∧ okBag b = true ∧ okBag (addB a b).1 = true ∧ (addB a b).1 = both (fun m k => m + k) (prs a b) := by
  unfold addB comb at h ⊢
  cases ha : okBag a
  · rw [ha] at h; simp at h
  · cases hb : okBag b
    · rw [ha, hb] at h; simp at h
    · rw [ha, hb] at h
      cases ho : okBag (both (fun m k => m + k) (prs a b))
      · rw [ho] at h; simp at h
      · simp [ho]
theorem addB_look {a b : Bg} (h : (addB a b).2 = 0) (r : Rw) : look (addB a b).1 r = look a r + look b r := by
  obtain ⟨h1, h2, _, h4⟩ := addB_ok h
  rw [h4]
  exact (both_prs rfl (okBag_asc h1).1 (okBag_asc h2).1).2.2 r
theorem okBag_ext {a b : Bg} (ha : okBag a = true) (hb : okBag b = true) (h : ∀ r, look a r = look b r) : a = b :=
  Asc.ext (okBag_asc ha).1 (okBag_asc hb).1 (fun x hx => (numB_ne ((okBag_asc ha).2.1 x hx)).1) (fun x hx => (numB_ne ((okBag_asc hb).2.1 x hx)).1) h
/-- Two ascending lists of counts without zeros: their sums, told or not, agree wherever the looks do. -/
theorem addB_groups {a b c : Bg} (h1 : (addB a b).2 = 0) (h2 : (addB b c).2 = 0) : addB (addB a b).1 c = addB a (addB b c).1 := by
  obtain ⟨oa, ob, oab, _⟩ := addB_ok h1
  obtain ⟨_, oc, obc, _⟩ := addB_ok h2
  have p1 := both_prs (f := fun m k => m + k) rfl (okBag_asc oab).1 (okBag_asc oc).1
  have p2 := both_prs (f := fun m k => m + k) rfl (okBag_asc oa).1 (okBag_asc obc).1
  have e : both (fun m k => m + k) (prs (addB a b).1 c) = both (fun m k => m + k) (prs a (addB b c).1) :=
    Asc.ext p1.1 p2.1 p1.2.1 p2.2.1 fun r => by
      rw [p1.2.2 r, p2.2.2 r, addB_look h1, addB_look h2]
      show look a r + look b r + look c r = look a r + (look b r + look c r)
      omega
  show comb _ (addB a b).1 c = comb _ a (addB b c).1
  unfold comb
  rw [oab, oc, oa, obc, e]
end Go.Proofs.YtiioiajcoiaalaaGreatDoor
