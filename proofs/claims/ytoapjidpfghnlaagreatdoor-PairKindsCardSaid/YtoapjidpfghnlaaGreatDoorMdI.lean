/-
  The iterator that bag.made hands out: each item of a list through a function; those with 0 are left out. Whatever the function.
-/
import Derived.Test.YtoapjidpfghnlaaGreatDoorApl
namespace Go.Proofs.YtoapjidpfghnlaaGreatDoor
open Go.RowKit
attribute [local go_sem] Oper.semAt_some wide_fn wide_depth
set_option linter.unusedVariables false
set_option linter.unusedSimpArgs false

/-- Items through a function; those with 0 are left out. -/
def mk (g : Rw × Int → Rw × Int) (d : Bg) : Bg := (d.map g).filter fun x => decide (x.2 ≠ 0)
theorem mk_snoc (g : Rw × Int → Rw × Int) (d : Bg) (x : Rw × Int) : mk g (d ++ [x]) = mk g d ++ if (g x).2 ≠ 0 then [g x] else [] := by
  unfold mk
  rw [List.map_append, List.filter_append]
  congr 1
  by_cases h : (g x).2 = 0 <;> simp [h]
theorem mk_take_pre (g : Rw × Int → Rw × Int) (d : Bg) (k : Nat) : mk g (d.take k) <+: mk g d := by
  unfold mk
  exact List.IsPrefix.filter _ (List.IsPrefix.map _ (List.take_prefix k d))
theorem WrB.with_ {B S : Nat} {Xs : List Nat} {X Y : World} (h : WrB B S [] X Y) (low : ∀ k ∈ Xs, B ≤ k ∧ ∀ c fz, X.heap[k]? ≠ some (.cells c 102 fz)) : WrB B S Xs X Y :=
  ⟨h.os, h.tape, h.output, h.size, fun k o hk _ ho => h.blk k o hk (by simp) ho, low⟩
theorem IterGF.g {F : Fence} {n : Nat} {P : Program} {α : Type} {g : Nat} {lb : Array Value} {Arg : α → Array Value → World → Prop} {xs : List α} {Wr Kp : World → World → Prop} {Fin : World → Prop} {W : World} (h : IterGF F n P g lb Arg xs Wr Kp Fin W) : IterG F n P g lb Arg xs Wr Kp W :=
  fun l J Jx h1 h2 h3 h4 => (h l J Jx h1 h2 h3 h4).mono fun _ _ h => ⟨h.1, h.2.imp (fun h => h.1) id⟩
end Go.Proofs.YtoapjidpfghnlaaGreatDoor
