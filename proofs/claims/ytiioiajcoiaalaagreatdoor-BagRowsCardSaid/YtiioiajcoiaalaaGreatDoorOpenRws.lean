/-
  The argument of type []Row opened: a slice of rows.
-/
import Derived.Test.YtiioiajcoiaalaaGreatDoorLaidT
import Derived.Test.YtiioiajcoiaalaaGreatDoorRwL
namespace Go.Proofs.YtiioiajcoiaalaaGreatDoor
open Go.RowKit Go.Deep Go.WideShapes Go.ChangeShapes
section
variable {H : Type} {enc : TypeId × Value → H} {w : World} {base : Nat} {held : Bool}
set_option maxRecDepth 100000 in
theorem dec_rowk (n : Nat) (cs : List Value) (y : DataW H × List MemPlace) (h : DataW.trod enc Tryz.prog w base (fun _ => true) held n 43 cs = some y) : ∃ z : Rk, cs = encRk z ∧ RowK w w.heap.size z.A z.n z.r := by
  have hl : cs.length = 1 := by
    rcases DataW.trod_slice Tryz.underlying43 h with h0 | ⟨_, _, _, _, _, _, _, rfl, _⟩
    · first | (rw [h0.1]; rfl) | (obtain ⟨rfl, _⟩ := h0; rfl)
    · rfl
  match cs, hl with
  | [v1], _ =>
    obtain ⟨A, m, c, r, rfl, hr, hm, _, _⟩ := open_recsP (α := Val) (encα := encV) (k := 3) (fun _ => True) encV_len (by omega) Tryz.underlying43 (by kernel_rfl) (fun n cs' y hy => dec_val n cs' y hy) h
    exact ⟨⟨A, m, c, r⟩, rfl, RowK.of_reads hr (Nat.le_refl _) hm⟩
set_option maxRecDepth 100000 in
theorem open_rows {r : Reach} {b0 : Nat} {v : Value} {d : DataW H} {ps : List MemPlace} (hval : Value.okWide Tryz.prog w r b0 47 v) (hd : DataW.Trod enc Tryz.prog w base (fun _ => true) held 47 v d ps) :
    ∃ A n c, ∃ l : List Rk, v = .slice A n c ∧ RowL w w.heap.size A n l := by
  obtain ⟨a0, l0, c0, rfl⟩ := okWide_slice Tryz.underlying47 hval
  obtain ⟨fuel, hf⟩ := hd
  obtain ⟨A, n, c, l, h1, hr, hn, _, hp⟩ := open_recsP (α := Rk) (encα := encRk) (k := 1) (fun z => RowK w w.heap.size z.A z.n z.r) encRk_len (by omega) Tryz.underlying47 (by kernel_rfl) (fun n cs' y hy => dec_rowk n cs' y hy) (by simpa only [Value.cells] using hf)
  exact ⟨A, n, c, l, h1, ⟨hr, hp, hn⟩⟩
end
end Go.Proofs.YtiioiajcoiaalaaGreatDoor
