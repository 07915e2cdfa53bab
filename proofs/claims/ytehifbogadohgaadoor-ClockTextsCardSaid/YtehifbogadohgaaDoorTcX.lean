/-
  From a row's list of laid variables to the library's two errors, and from the world's shape to internal/bytealg.MaxLen.
-/
import Derived.Test.YtehifbogadohgaaDoorLaidT
import Derived.Test.YtehifbogadohgaaDoorLib2
import Derived.LaidLaws
import Derived.Shelf.Vars
namespace Go.Proofs.YtehifbogadohgaaDoor
open Go.RowKit Go.ChangeShapes
set_option linter.unusedVariables false

theorem laid_iface {P : Program} {n nm : String} {d : DataW Unit} {r : List (String × DataW Unit)} {W : World} {g : Nat} {ti : TypeId} {ms : Array (String × TypeId)} (h : laidMet P ((n, .iface nm d) :: r) W)
    (hg : P.globalNamed n = some g) (ht : (P.globals[g]?).map (·.type) = some ti) (hi : P.underlying ti = some (.interface ms)) : ∃ u v, W.var? P n = some #[.iface u v] := by
  obtain ⟨ps, ⟨g0, t0, cs0, f0, p0, q0, hg0, ht0, hv0, hd0, _, e0⟩, _, hrows⟩ := h
  obtain rfl := Option.some.inj (hg.symm.trans hg0)
  obtain rfl := Option.some.inj (ht.symm.trans ht0)
  obtain ⟨l0⟩ := cs0
  obtain ⟨f1, u, v, h1, _⟩ := iface_of_trod hi hd0
  obtain rfl : l0 = [.iface u v] := h1
  exact ⟨u, v, hv0⟩
theorem errs_of_laid {w : World} {l r1 r2 : List (String × DataW Unit)} (i j : Nat) {d1 d2 : DataW Unit} {n1 n2 : String} (h1 : l.drop i = ("strconv.ErrSyntax", .iface n1 d1) :: r1) (h2 : l.drop j = ("strconv.ErrRange", .iface n2 d2) :: r2) (h : laidMet Tryd.prog l w) : Errs w := by
  have a := laid_drop i h
  have b := laid_drop j h
  rw [h1] at a
  rw [h2] at b
  exact ⟨laid_iface (g := 0) (ti := 43) a (by kernel_rfl) (by kernel_rfl) Tryd.underlying43, laid_iface (g := 1) (ti := 43) b (by kernel_rfl) (by kernel_rfl) Tryd.underlying43⟩
theorem maxL_of_shape {w : World} (h : w.ShapedOpen Tryd.prog) : MaxL w := laysM146.s1_3 w h
end Go.Proofs.YtehifbogadohgaaDoor
