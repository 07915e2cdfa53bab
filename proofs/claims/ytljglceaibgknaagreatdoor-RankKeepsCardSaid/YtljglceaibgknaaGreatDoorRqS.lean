/-
  The reference's ranker in memory, and the walk of its All. No condition.
-/
import Derived.Test.YtljglceaibgknaaGreatDoorRqQ
import Derived.Test.YtljglceaibgknaaGreatDoorRqR
namespace Go.Proofs.YtljglceaibgknaaGreatDoor
open Go.RowKit
attribute [local go_sem] Oper.semAt_some wide_fn wide_depth
set_option linter.unusedVariables false
set_option linter.unusedSimpArgs false

/-- The block of the reference's ranker. -/
structure RkR (w : World) (b : Nat) (k : Sk) (s : Stp) (width : Int) (A : Option Addr) (n c : Nat) (l : List It) : Prop where
  blk : Blk w b 139 #[.slice k.A k.n k.c, .slice k.A' k.n' k.c', .bool s.dn, .int .i64 s.n, .int .i64 width, .slice A n c]
  set : SetK w b k s
  kc : k.n ≤ k.c
  kc' : k.n' ≤ k.c'
  all : BagR w w.heap.size A n l
  nc : n ≤ c
section
variable {w w' : World} {b : Nat} {k : Sk} {s : Stp} {width : Int} {A : Option Addr} {n c : Nat} {l : List It}
theorem RkR.lt (h : RkR w b k s width A n c l) : b < w.heap.size := h.blk.lt
theorem RkR.box (h : RkR w b k s width A n c l) : BoxS w b k s := ⟨h.blk.cell 0, h.blk.cell 1, h.blk.cell 2, h.blk.cell 3⟩
theorem RkR.up (h : RkR w b k s width A n c l) (hb : Below w.heap.size w w') : RkR w' b k s width A n c l :=
  ⟨h.blk.below hb h.lt, h.set.keep fun _ hp => hb.cell (Nat.lt_trans hp h.lt), h.kc, h.kc', (h.all.below hb).mono hb.size, h.nc⟩
theorem RkR.set5 (h : RkR w b k s width A n c l) {A2 : Option Addr} {n2 c2 : Nat} {l2 : List It} (h2 : BagR w w.heap.size A2 n2 l2) (hc : n2 ≤ c2) : RkR (w.setCell ⟨b, 5, none⟩ (.slice A2 n2 c2)) b k s width A2 n2 c2 l2 := by
  have hz : (w.setCell ⟨b, 5, none⟩ (.slice A2 n2 c2)).heap.size = w.heap.size := by simp [World.setCell]
  have c5 : w.cell? ⟨b, 5, none⟩ = some (.slice A n c) := h.blk.cell 5
  have c6 : ∀ k m, w.cell? ⟨b, 5 + 1, none⟩ ≠ some (.int k m) := fun k m e => by
    have h6 : w.cell? ⟨b, 6, none⟩ = none := h.blk.cell 6
    rw [show 5 + 1 = 6 from rfl, h6] at e
    cases e
  refine ⟨h.blk.set_ 5 _, ⟨h.set.p.setCell (Nat.le_refl _) _, h.set.b.setCell (Nat.le_refl _) _, h.set.np, h.set.nb⟩, h.kc, h.kc', ?_, hc⟩
  rw [hz]; exact h2.off c5 c6 _
end
set_option maxRecDepth 100000 in
set_option maxHeartbeats 2000000 in
theorem RAll_any {b : Nat} {k : Sk} {s : Stp} {width : Int} {A : Option Addr} {n c : Nat} {l : List It} (w : World) (h : RkR w b k s width A n c l) (ho : okBag (dat l) = true) :
    Calls Tryz.prog 48 #[.pointer (some ⟨b, 0, none⟩)] w (RetC w (dat l, 0)) := by
  have c5 : w.cell? ⟨b, 5, none⟩ = some (.slice A n c) := h.blk.cell 5
  have H := hide (RPlus_any none 0 0 [] A n c l 1 w (BagR.nil _ _) h.all rfl ho (by omega))
  have HP := hide (plus_empty ho)
  clear h
  go_enter Tryz.func48, Tryz.ntmps48
  go_wp2_with fail
  refine H.out.mono ?_
  rintro e W1 ⟨A1, n1, c1, l1, rfl, h1, h2, h3, h4⟩
  have h5 : dat l1 = dat l := h1.trans HP.out
  go_wp2
  go_ret2
  exact ⟨A1, n1, c1, l1, rfl, h5, h2, h3, h4⟩
end Go.Proofs.YtljglceaibgknaaGreatDoor
