/-
  The argument of type Graph opened. No condition.
-/
import Derived.Test.YtmpoaegdejhbeaaDoorOpenRec
import Derived.Test.YtmpoaegdejhbeaaDoorDkC
import Derived.Lib.SmallJoins
import Derived.ChangeArms
namespace Go.Proofs.YtmpoaegdejhbeaaDoor
open Go.RowKit Go.Deep Go.WideShapes Go.ChangeShapes

section
variable {H : Type} {enc : TypeId × Value → H} {w : World} {base : Nat} {held : Bool}
set_option maxRecDepth 100000 in
theorem dec_edge (n : Nat) (cs : List Value) (y : DataW H × List MemPlace) (h : DataW.trod enc Tryd.prog w base (fun _ => true) held n 50 cs = some y) : ∃ z : Ed, cs = encEd z := by
  obtain ⟨y0, y1, y2, k, _, hl, h0, h1, h2⟩ := Go.Deep.trod_struct3 Tryd.underlying50 h
  rw [show Tryd.prog.cellsOf 50 = 3 by kernel_rfl] at hl
  match cs, hl with
  | [v0, v1, v2], _ =>
    change DataW.trod enc Tryd.prog w base (fun _ => true) held k 3 (([v0, v1, v2].drop 0).take (Tryd.prog.cellsOf 3)) = some y0 at h0
    change DataW.trod enc Tryd.prog w base (fun _ => true) held k 3 (([v0, v1, v2].drop 1).take (Tryd.prog.cellsOf 3)) = some y1 at h1
    change DataW.trod enc Tryd.prog w base (fun _ => true) held k 4 (([v0, v1, v2].drop 2).take (Tryd.prog.cellsOf 4)) = some y2 at h2
    rw [show Tryd.prog.cellsOf 3 = 1 by kernel_rfl] at h0 h1
    rw [show Tryd.prog.cellsOf 4 = 1 by kernel_rfl] at h2
    have g0 : DataW.trod enc Tryd.prog w base (fun _ => true) held k 3 [v0] = some y0 := h0
    have g1 : DataW.trod enc Tryd.prog w base (fun _ => true) held k 3 [v1] = some y1 := h1
    have g2 : DataW.trod enc Tryd.prog w base (fun _ => true) held k 4 [v2] = some y2 := h2
    obtain ⟨a, ea, _⟩ := DataW.trod_int Tryd.underlying3 g0
    obtain ⟨b, eb, _⟩ := DataW.trod_int Tryd.underlying3 g1
    obtain ⟨c, ec, _⟩ := DataW.trod_bool Tryd.underlying4 g2
    simp at ea eb ec
    subst ea eb ec
    exact ⟨⟨a, b, c⟩, rfl⟩
set_option maxRecDepth 100000 in
theorem open_graph {r : Reach} {b0 : Nat} {v : Value} {d : DataW H} {ps : List MemPlace} (hval : Value.okWide Tryd.prog w r b0 25 v) (hd : DataW.Trod enc Tryd.prog w base (fun _ => true) held 25 v d ps) :
    ∃ g : Gr, v = .agg #[g.v1, g.v2] ∧ g.Ok w w.heap.size ∧ g.n1 ≤ 9223372036854775807 ∧ g.n2 ≤ 9223372036854775807 := by
  obtain ⟨x0, x1, y0, y1, m, rfl, _, _, t0, t1⟩ := Go.Joins.open_agg2 Tryd.underlying25 (by kernel_rfl) (by kernel_rfl) hval hd
  obtain ⟨A1, n1, c1, ops, rfl, r1, l1⟩ := open_intsR Tryd.underlying22 Tryd.underlying3 (by kernel_rfl) t0
  obtain ⟨A2, n2, c2, es, rfl, r2, l2⟩ := open_recs (α := Ed) (encα := encEd) (k := 3) encEd_len (by omega) Tryd.underlying23 (by kernel_rfl) (fun n cs' y hy => dec_edge n cs' y hy) t1
  exact ⟨⟨A1, n1, c1, ops, A2, n2, c2, es⟩, rfl, ⟨r1, r2⟩, l1, l2⟩
end
end Go.Proofs.YtmpoaegdejhbeaaDoor
