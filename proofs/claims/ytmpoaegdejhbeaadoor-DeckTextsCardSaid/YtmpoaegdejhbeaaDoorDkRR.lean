/-
  The walk of tidewrightref26.regions.
-/
import Derived.Test.YtmpoaegdejhbeaaDoorDkRg
import Derived.Test.YtmpoaegdejhbeaaDoorDkCt
namespace Go.Proofs.YtmpoaegdejhbeaaDoor
open Go.RowKit Go.Shelf Go.Deep Go.Maps
attribute [local go_sem] Oper.semAt_some

theorem mem_at {es : List Ed} {k : Nat} {e : Ed} (h : es[k]? = some e) : e ∈ es := List.mem_of_getElem? h
theorem fold_snoc {es : List Ed} {k : Nat} {e : Ed} (L0 : Nat → Nat) (h : es[k]? = some e) : (es.take (k + 1)).foldl relab L0 = relab ((es.take k).foldl relab L0) e := by
  rw [take_snoc' h, List.foldl_append]; rfl
theorem Lab.fold {L : Nat → Nat} (h : Lab L) (es : List Ed) : Lab (es.foldl Go.Proofs.YtmpoaegdejhbeaaDoor.relab L) := by
  induction es generalizing L with
  | nil => exact h
  | cons e es ih => exact ih (h.relab e)

end Go.Proofs.YtmpoaegdejhbeaaDoor
