/-
  The argument of type Change opened: a struct of a time, a row and a number.
-/
import Derived.Test.YtiioiajcoiaalaaOpenBag
namespace Go.Proofs.Ytiioiajcoiaalaa
open Go.RowKit Go.Deep Go.WideShapes Go.ChangeShapes
section
variable {H : Type} {enc : TypeId × Value → H} {w : World} {base : Nat} {held : Bool}
set_option maxRecDepth 100000 in
theorem open_change {r : Reach} {b0 : Nat} {v : Value} {d : DataW H} {ps : List MemPlace} (hval : Value.okWide Try.prog w r b0 36 v) (hd : DataW.Trod enc Try.prog w base (fun _ => true) held 36 v d ps) :
    ∃ (t : Int) (A : Option Addr) (n c : Nat) (x : Rw) (m : Int), v = .agg #[.int .i64 t, .slice A n c, .int .i64 m] ∧ RowK w w.heap.size A n x := by
  obtain ⟨cs, rfl, hsz⟩ := okWide_struct Try.underlying36 hval
  obtain ⟨fuel, hf⟩ := hd
  obtain ⟨cs⟩ := cs
  have hf' : DataW.trod enc Try.prog w base (fun _ => true) held fuel 36 cs = some (d, ps) := by simpa only [Value.cells] using hf
  obtain ⟨y0, y1, y2, k, _, hl, h0, h1, h2⟩ := Go.Deep.trod_struct3 Try.underlying36 hf'
  rw [show Try.prog.cellsOf 36 = 3 by kernel_rfl] at hl
  match cs, hl with
  | [v0, v1, v2], _ =>
    change DataW.trod enc Try.prog w base (fun _ => true) held k 3 (([v0, v1, v2].drop 0).take (Try.prog.cellsOf 3)) = some y0 at h0
    change DataW.trod enc Try.prog w base (fun _ => true) held k 34 (([v0, v1, v2].drop 1).take (Try.prog.cellsOf 34)) = some y1 at h1
    change DataW.trod enc Try.prog w base (fun _ => true) held k 3 (([v0, v1, v2].drop 2).take (Try.prog.cellsOf 3)) = some y2 at h2
    rw [show Try.prog.cellsOf 3 = 1 by kernel_rfl] at h0 h2
    rw [show Try.prog.cellsOf 34 = 1 by kernel_rfl] at h1
    have g0 : DataW.trod enc Try.prog w base (fun _ => true) held k 3 [v0] = some y0 := h0
    have g1 : DataW.trod enc Try.prog w base (fun _ => true) held k 34 [v1] = some y1 := h1
    have g2 : DataW.trod enc Try.prog w base (fun _ => true) held k 3 [v2] = some y2 := h2
    obtain ⟨a, ea, _⟩ := DataW.trod_int Try.underlying3 g0
    obtain ⟨A, m, c, r, rfl, hr, hm, _, _⟩ := open_recsP (α := Val) (encα := encV) (k := 3) (fun _ => True) encV_len (by omega) Try.underlying34 (by kernel_rfl) (fun n cs' y hy => dec_val n cs' y hy) g1
    obtain ⟨b, eb, _⟩ := DataW.trod_int Try.underlying3 g2
    simp at ea eb
    subst ea eb
    exact ⟨a, A, m, c, r, b, rfl, RowK.of_reads hr (Nat.le_refl _) hm⟩
end
end Go.Proofs.Ytiioiajcoiaalaa
