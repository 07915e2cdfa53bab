/-
  The argument of type []api.Window opened.
-/
import Derived.Test.YtehifbogadohgaaOpenRec
import Derived.Test.YtehifbogadohgaaCkC
import Derived.ChangeArms
namespace Go.Proofs.Ytehifbogadohgaa
open Go.RowKit Go.Deep Go.WideShapes Go.ChangeShapes
section
variable {H : Type} {enc : TypeId × Value → H} {w : World} {base : Nat} {held : Bool}
set_option maxRecDepth 100000 in
theorem dec_win (n : Nat) (cs : List Value) (y : DataW H × List MemPlace) (h : DataW.trod enc Try.prog w base (fun _ => true) held n 35 cs = some y) : ∃ z : Int × Int, cs = encW z := by
  obtain ⟨y0, y1, k, _, hl, h0, h1⟩ := Go.ChangeShapes.trod_struct2 Try.underlying35 h
  rw [show Try.prog.cellsOf 35 = 2 by kernel_rfl] at hl
  match cs, hl with
  | [v0, v1], _ =>
    change DataW.trod enc Try.prog w base (fun _ => true) held k 3 (([v0, v1].drop 0).take (Try.prog.cellsOf 3)) = some y0 at h0
    change DataW.trod enc Try.prog w base (fun _ => true) held k 3 (([v0, v1].drop 1).take (Try.prog.cellsOf 3)) = some y1 at h1
    rw [show Try.prog.cellsOf 3 = 1 by kernel_rfl] at h0 h1
    have g0 : DataW.trod enc Try.prog w base (fun _ => true) held k 3 [v0] = some y0 := h0
    have g1 : DataW.trod enc Try.prog w base (fun _ => true) held k 3 [v1] = some y1 := h1
    obtain ⟨a, ea, _⟩ := DataW.trod_int Try.underlying3 g0
    obtain ⟨b, eb, _⟩ := DataW.trod_int Try.underlying3 g1
    simp at ea eb
    subst ea eb
    exact ⟨(a, b), rfl⟩
set_option maxRecDepth 100000 in
theorem open_wins {r : Reach} {b0 : Nat} {v : Value} {d : DataW H} {ps : List MemPlace} (hval : Value.okWide Try.prog w r b0 22 v) (hd : DataW.Trod enc Try.prog w base (fun _ => true) held 22 v d ps) :
    ∃ A n c, ∃ l : List (Int × Int), v = .slice A n c ∧ Reads w w.heap.size 2 A n (flatW l) ∧ n ≤ 9223372036854775807 := by
  obtain ⟨a0, l0, c0, rfl⟩ := okWide_slice Try.underlying22 hval
  obtain ⟨fuel, hf⟩ := hd
  obtain ⟨A, n, c, l, h1, hr, hn⟩ := open_recs (α := Int × Int) (encα := encW) (k := 2) (fun _ => rfl) (by omega) Try.underlying22 (by kernel_rfl) (fun n cs' y hy => dec_win n cs' y hy) (by simpa only [Value.cells] using hf)
  exact ⟨A, n, c, l, h1, hr, hn⟩
end
end Go.Proofs.Ytehifbogadohgaa
