/-
  From a row's list of laid variables to the table of powers of ten.
-/
import Derived.Test.YtehifbogadohgaaDoorLib0
import Derived.Stop.LaidErr
import Derived.Lib.LaidTab
namespace Go.Proofs.YtehifbogadohgaaDoor
open Go.RowKit
theorem laid_drop {P : Program} {w : World} : ∀ (i : Nat) {l : List (String × DataW Unit)}, laidMet P l w → laidMet P (l.drop i) w
  | 0, _, h => h
  | _ + 1, [], h => h
  | i + 1, _ :: _, h => laid_drop i h.tail
theorem tab_of_laid {w : World} {l r : List (String × DataW Unit)} (i : Nat) (he : l.drop i = ("internal/strconv.uint64pow10", Lib.tabData .u64 Lib.pow10Tab) :: r) (h : laidMet Tryd.prog l w) : Tab w := by
  have h1 := laid_drop i h
  rw [he] at h1
  exact Lib.tabIs_of_head (g := 2) (t := 100) (e := 80) (n := 20) (by kernel_rfl) (by kernel_rfl) Tryd.underlying100 Tryd.underlying80 (by kernel_rfl) (by kernel_rfl) h1
end Go.Proofs.YtehifbogadohgaaDoor
