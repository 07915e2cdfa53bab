/-
  The walks of a ranker's Now and All, at a pointer and at none. No condition.
-/
import Derived.Test.YtljglceaibgknaaGreatDoorRqO
namespace Go.Proofs.YtljglceaibgknaaGreatDoor
open Go.RowKit
attribute [local go_sem] Oper.semAt_some wide_fn wide_depth
set_option linter.unusedVariables false
set_option linter.unusedSimpArgs false

theorem Now_nil (w : World) : Calls Tryz.prog 46 #[.pointer none] w (RetC w ([], 1)) := by
  go_enter Tryz.func46, Tryz.ntmps46
  go_wp2
  go_ret2
  exact ⟨none, 0, 0, [], rfl, rfl, BagR.nil _ _, Nat.le_refl _, Below.refl _ _⟩
theorem All_nil (w : World) : Calls Tryz.prog 47 #[.pointer none] w (RetC w ([], 1)) := by
  go_enter Tryz.func47, Tryz.ntmps47
  go_wp2
  go_ret2
  exact ⟨none, 0, 0, [], rfl, rfl, BagR.nil _ _, Nat.le_refl _, Below.refl _ _⟩
set_option maxRecDepth 100000 in
set_option maxHeartbeats 2000000 in
theorem Now_any {b : Nat} {k : Sk} {s : Stp} {width : Int} {A A' : Option Addr} {n c n' c' : Nat} {l l' : List It} (w : World) (h : RkB w b k s width A n c l A' n' c' l') :
    Calls Tryz.prog 46 #[.pointer (some ⟨b, 0, none⟩)] w (RetC w (comb (fun m k => m + k) (dat l') [])) := by
  have c6 : w.cell? ⟨b, 6, none⟩ = some (.slice A' n' c') := h.blk.cell 6
  have H := hide (Sum_any A' n' c' l' none 0 0 [] w h.now (BagR.nil _ _) h.nc' (Nat.le_refl _))
  clear h
  go_enter Tryz.func46, Tryz.ntmps46
  go_wp2_with fail
  refine H.out.mono ?_
  rintro e W1 ⟨A1, n1, c1, l1, rfl, h1, h2, h3, h4⟩
  go_wp2
  go_ret2
  exact ⟨A1, n1, c1, l1, rfl, h1, h2, h3, h4⟩
set_option maxRecDepth 100000 in
set_option maxHeartbeats 2000000 in
theorem All_any {b : Nat} {k : Sk} {s : Stp} {width : Int} {A A' : Option Addr} {n c n' c' : Nat} {l l' : List It} (w : World) (h : RkB w b k s width A n c l A' n' c' l') :
    Calls Tryz.prog 47 #[.pointer (some ⟨b, 0, none⟩)] w (RetC w (comb (fun m k => m + k) (dat l) [])) := by
  have c5 : w.cell? ⟨b, 5, none⟩ = some (.slice A n c) := h.blk.cell 5
  have H := hide (Sum_any A n c l none 0 0 [] w h.all (BagR.nil _ _) h.nc (Nat.le_refl _))
  clear h
  go_enter Tryz.func47, Tryz.ntmps47
  go_wp2_with fail
  refine H.out.mono ?_
  rintro e W1 ⟨A1, n1, c1, l1, rfl, h1, h2, h3, h4⟩
  go_wp2
  go_ret2
  exact ⟨A1, n1, c1, l1, rfl, h1, h2, h3, h4⟩
end Go.Proofs.YtljglceaibgknaaGreatDoor
