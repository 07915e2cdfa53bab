/-
  A valid bag and the empty one, added up. Plain Lean; no condition.
-/
import Derived.Test.YtljglceaibgknaaGreatDoorRqM
namespace Go.Proofs.YtljglceaibgknaaGreatDoor
open Go.RowKit
set_option linter.unusedVariables false

theorem comb_empty {d : Bg} (h : okBag d = true) : comb (fun m k => m + k) d [] = (d, 0) := by
  obtain ⟨d1, d2, d3⟩ := okBag_asc h
  have he : okBag [] = true := rfl
  obtain ⟨i1, i2, i3⟩ := both_prs (f := fun m k => m + k) rfl d1 (okBag_asc he).1
  have e : both (fun m k => m + k) (prs d []) = d := Asc.ext i1 d1 i2 (fun x hx => (numB_ne (d2 x hx)).1) fun r => by
    rw [i3]
    exact Int.add_zero _
  unfold comb
  rw [e, h, he]
  rfl
theorem plus_empty {d : Bg} (h : okBag d = true) : plusB [] d 1 = d := by
  obtain ⟨d1, d2, d3⟩ := okBag_asc h
  have he : okBag [] = true := rfl
  obtain ⟨i1, i2, i3⟩ := plus_ok (n := 1) (a := []) (okBag_asc he).1 nofun d1
  exact Asc.ext i1 d1 i2 (fun x hx => (numB_ne (d2 x hx)).1) fun r => by
    rw [i3]
    show 0 + 1 * look d r = look d r
    omega
end Go.Proofs.YtljglceaibgknaaGreatDoor
