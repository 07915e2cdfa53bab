/-
  The argument of type Graph opened; the law DeckBack for every input.
-/
import Derived.Test.YtblepaocekojbaaOpenRec
import Derived.Test.YtblepaocekojbaaDkLx
import Derived.Lib.SmallJoins
import Derived.ChangeArms
namespace Go.Proofs.Ytblepaocekojbaa
open Go.RowKit Go.Deep Go.WideShapes Go.ChangeShapes

section
variable {H : Type} {enc : TypeId × Value → H} {w : World} {base : Nat} {held : Bool}
set_option maxRecDepth 100000 in
theorem dec_edge (n : Nat) (cs : List Value) (y : DataW H × List MemPlace) (h : DataW.trod enc Try.prog w base (fun _ => true) held n 40 cs = some y) : ∃ z : Ed, cs = encEd z := by
  obtain ⟨y0, y1, y2, k, _, hl, h0, h1, h2⟩ := Go.Deep.trod_struct3 Try.underlying40 h
  rw [show Try.prog.cellsOf 40 = 3 by kernel_rfl] at hl
  match cs, hl with
  | [v0, v1, v2], _ =>
    change DataW.trod enc Try.prog w base (fun _ => true) held k 3 (([v0, v1, v2].drop 0).take (Try.prog.cellsOf 3)) = some y0 at h0
    change DataW.trod enc Try.prog w base (fun _ => true) held k 3 (([v0, v1, v2].drop 1).take (Try.prog.cellsOf 3)) = some y1 at h1
    change DataW.trod enc Try.prog w base (fun _ => true) held k 4 (([v0, v1, v2].drop 2).take (Try.prog.cellsOf 4)) = some y2 at h2
    rw [show Try.prog.cellsOf 3 = 1 by kernel_rfl] at h0 h1
    rw [show Try.prog.cellsOf 4 = 1 by kernel_rfl] at h2
    have g0 : DataW.trod enc Try.prog w base (fun _ => true) held k 3 [v0] = some y0 := h0
    have g1 : DataW.trod enc Try.prog w base (fun _ => true) held k 3 [v1] = some y1 := h1
    have g2 : DataW.trod enc Try.prog w base (fun _ => true) held k 4 [v2] = some y2 := h2
    obtain ⟨a, ea, _⟩ := DataW.trod_int Try.underlying3 g0
    obtain ⟨b, eb, _⟩ := DataW.trod_int Try.underlying3 g1
    obtain ⟨c, ec, _⟩ := DataW.trod_bool Try.underlying4 g2
    simp at ea eb ec
    subst ea eb ec
    exact ⟨⟨a, b, c⟩, rfl⟩
set_option maxRecDepth 100000 in
theorem open_graph {r : Reach} {b0 : Nat} {v : Value} {d : DataW H} {ps : List MemPlace} (hval : Value.okWide Try.prog w r b0 25 v) (hd : DataW.Trod enc Try.prog w base (fun _ => true) held 25 v d ps) :
    ∃ g : Gr, v = .agg #[g.v1, g.v2] ∧ g.Ok w w.heap.size ∧ g.n1 ≤ 9223372036854775807 ∧ g.n2 ≤ 9223372036854775807 := by
  obtain ⟨x0, x1, y0, y1, m, rfl, _, _, t0, t1⟩ := Go.Joins.open_agg2 Try.underlying25 (by kernel_rfl) (by kernel_rfl) hval hd
  obtain ⟨A1, n1, c1, ops, rfl, r1, l1⟩ := open_intsR Try.underlying22 Try.underlying3 (by kernel_rfl) t0
  obtain ⟨A2, n2, c2, es, rfl, r2, l2⟩ := open_recs (α := Ed) (encα := encEd) (k := 3) encEd_len (by omega) Try.underlying23 (by kernel_rfl) (fun n cs' y hy => dec_edge n cs' y hy) t1
  exact ⟨⟨A1, n1, c1, ops, A2, n2, c2, es⟩, rfl, ⟨r1, r2⟩, l1, l2⟩
end

theorem deckBack_all (g : Gr) (A1 : Option Addr) (m1 c1 : Nat) (fallen : List Int) (A2 : Option Addr) (m2 c2 : Nat) (gone : List Int) (more : Int) (w : World) (hg : g.Ok w w.heap.size)
    (hf : Reads w w.heap.size 1 A1 m1 (fallen.map (Value.int .i64))) (hgo : Reads w w.heap.size 1 A2 m2 (gone.map (Value.int .i64))) (hm1 : m1 ≤ 9223372036854775807) (hm2 : m2 ≤ 9223372036854775807) :
    Calls Try.prog 3 #[.agg #[g.v1, g.v2], .slice A1 m1 c1, .slice A2 m2 c2, .int .i64 more] w (RetV w (.bool true)) := by
  by_cases h : heavyB g = true ∨ 60 < m1 ∨ 60 < m2
  · exact deckBack_far g A1 m1 c1 A2 m2 c2 more w hm1 hm2 h
  · exact deckBack_near g A1 m1 c1 fallen A2 m2 c2 gone more w hg hf hgo (by omega) (by omega) (by simpa using fun h' => h (.inl h'))
end Go.Proofs.Ytblepaocekojbaa
