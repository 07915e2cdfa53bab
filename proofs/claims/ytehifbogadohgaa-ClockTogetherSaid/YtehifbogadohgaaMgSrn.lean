/-
  slices.SortFunc over no windows.
-/
import Derived.Shelf.SlSortCmp.NoneTotal
import Derived.Test.YtehifbogadohgaaMgSrt
namespace Go.Proofs.Ytehifbogadohgaa
open Go.Shelf Go.RowKit Go.Lib Go.Sort

theorem Sort_none (c : Nat) (w : World) :
    Calls Try.prog 65 #[.slice none 0 c, .func (Fn.func 19) #[] #[]] w fun e w' => e = .returned (.tuple #[]) ∧ w' = w :=
  AnyF.slices_SortFunc_none (P := Try.prog) (ρ := sortW_ren) { sortW with } none c _ w
end Go.Proofs.Ytehifbogadohgaa
