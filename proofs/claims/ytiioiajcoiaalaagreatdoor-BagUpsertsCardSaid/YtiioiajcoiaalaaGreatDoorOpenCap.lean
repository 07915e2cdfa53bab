/-
  The arguments of type Bag and []Change opened, with the room of every row.
-/
import Derived.Test.YtiioiajcoiaalaaGreatDoorLaidT
import Derived.Test.YtiioiajcoiaalaaGreatDoorUpB
namespace Go.Proofs.YtiioiajcoiaalaaGreatDoor
open Go.RowKit Go.Deep Go.WideShapes Go.ChangeShapes
section
variable {H : Type} {enc : TypeId × Value → H} {w : World} {base : Nat} {held : Bool}
set_option maxRecDepth 100000 in
theorem dec_itemC (n : Nat) (cs : List Value) (y : DataW H × List MemPlace) (h : DataW.trod enc Tryz.prog w base (fun _ => true) held n 62 cs = some y) : ∃ z : It, cs = encIt z ∧ RowK w w.heap.size z.A z.n z.r ∧ z.n ≤ z.c := by
  obtain ⟨y0, y1, k, _, hl, h0, h1⟩ := Go.ChangeShapes.trod_struct2 Tryz.underlying62 h
  rw [show Tryz.prog.cellsOf 62 = 2 by kernel_rfl] at hl
  match cs, hl with
  | [v0, v1], _ =>
    change DataW.trod enc Tryz.prog w base (fun _ => true) held k 43 (([v0, v1].drop 0).take (Tryz.prog.cellsOf 43)) = some y0 at h0
    change DataW.trod enc Tryz.prog w base (fun _ => true) held k 3 (([v0, v1].drop 1).take (Tryz.prog.cellsOf 3)) = some y1 at h1
    rw [show Tryz.prog.cellsOf 43 = 1 by kernel_rfl] at h0
    rw [show Tryz.prog.cellsOf 3 = 1 by kernel_rfl] at h1
    have g0 : DataW.trod enc Tryz.prog w base (fun _ => true) held k 43 [v0] = some y0 := h0
    have g1 : DataW.trod enc Tryz.prog w base (fun _ => true) held k 3 [v1] = some y1 := h1
    obtain ⟨A, m, c, r, rfl, hr, hm, hmc, _⟩ := open_recsP (α := Val) (encα := encV) (k := 3) (fun _ => True) encV_len (by omega) Tryz.underlying43 (by kernel_rfl) (fun n cs' y hy => dec_val n cs' y hy) g0
    obtain ⟨b, eb, _⟩ := DataW.trod_int Tryz.underlying3 g1
    simp at eb
    subst eb
    exact ⟨⟨A, m, c, r, b⟩, rfl, RowK.of_reads hr (Nat.le_refl _) hm, hmc⟩
set_option maxRecDepth 100000 in
theorem open_bagC {r : Reach} {b0 : Nat} {v : Value} {d : DataW H} {ps : List MemPlace} (hval : Value.okWide Tryz.prog w r b0 23 v) (hd : DataW.Trod enc Tryz.prog w base (fun _ => true) held 23 v d ps) :
    ∃ A n c, ∃ l : List It, v = .slice A n c ∧ BagR w w.heap.size A n l ∧ n ≤ c ∧ Caps l := by
  obtain ⟨a0, l0, c0, rfl⟩ := okWide_slice Tryz.underlying23 hval
  obtain ⟨fuel, hf⟩ := hd
  obtain ⟨A, n, c, l, h1, hr, hn, hc, hp⟩ := open_recsP (α := It) (encα := encIt) (k := 2) (fun z => RowK w w.heap.size z.A z.n z.r ∧ z.n ≤ z.c) encIt_len (by omega) Tryz.underlying23 (by kernel_rfl) (fun n cs' y hy => dec_itemC n cs' y hy) (by simpa only [Value.cells] using hf)
  exact ⟨A, n, c, l, h1, ⟨hr, fun i hi => (hp i hi).1, hn⟩, hc, fun i hi => (hp i hi).2⟩
set_option maxRecDepth 100000 in
theorem dec_chgC (n : Nat) (cs : List Value) (y : DataW H × List MemPlace) (h : DataW.trod enc Tryz.prog w base (fun _ => true) held n 45 cs = some y) : ∃ z : Ch, cs = encCh z ∧ RowK w w.heap.size z.A z.n z.r ∧ z.n ≤ z.c := by
  obtain ⟨y0, y1, y2, k, _, hl, h0, h1, h2⟩ := Go.Deep.trod_struct3 Tryz.underlying45 h
  rw [show Tryz.prog.cellsOf 45 = 3 by kernel_rfl] at hl
  match cs, hl with
  | [v0, v1, v2], _ =>
    change DataW.trod enc Tryz.prog w base (fun _ => true) held k 3 (([v0, v1, v2].drop 0).take (Tryz.prog.cellsOf 3)) = some y0 at h0
    change DataW.trod enc Tryz.prog w base (fun _ => true) held k 43 (([v0, v1, v2].drop 1).take (Tryz.prog.cellsOf 43)) = some y1 at h1
    change DataW.trod enc Tryz.prog w base (fun _ => true) held k 3 (([v0, v1, v2].drop 2).take (Tryz.prog.cellsOf 3)) = some y2 at h2
    rw [show Tryz.prog.cellsOf 3 = 1 by kernel_rfl] at h0 h2
    rw [show Tryz.prog.cellsOf 43 = 1 by kernel_rfl] at h1
    have g0 : DataW.trod enc Tryz.prog w base (fun _ => true) held k 3 [v0] = some y0 := h0
    have g1 : DataW.trod enc Tryz.prog w base (fun _ => true) held k 43 [v1] = some y1 := h1
    have g2 : DataW.trod enc Tryz.prog w base (fun _ => true) held k 3 [v2] = some y2 := h2
    obtain ⟨a, ea, _⟩ := DataW.trod_int Tryz.underlying3 g0
    obtain ⟨A, m, c, r, rfl, hr, hm, hmc, _⟩ := open_recsP (α := Val) (encα := encV) (k := 3) (fun _ => True) encV_len (by omega) Tryz.underlying43 (by kernel_rfl) (fun n cs' y hy => dec_val n cs' y hy) g1
    obtain ⟨b, eb, _⟩ := DataW.trod_int Tryz.underlying3 g2
    simp at ea eb
    subst ea eb
    exact ⟨⟨a, A, m, c, r, b⟩, rfl, RowK.of_reads hr (Nat.le_refl _) hm, hmc⟩
set_option maxRecDepth 100000 in
theorem open_chgsC {r : Reach} {b0 : Nat} {v : Value} {d : DataW H} {ps : List MemPlace} (hval : Value.okWide Tryz.prog w r b0 24 v) (hd : DataW.Trod enc Tryz.prog w base (fun _ => true) held 24 v d ps) :
    ∃ A n c, ∃ l : List Ch, v = .slice A n c ∧ ChgR w w.heap.size A n l ∧ CapsC l := by
  obtain ⟨a0, l0, c0, rfl⟩ := okWide_slice Tryz.underlying24 hval
  obtain ⟨fuel, hf⟩ := hd
  obtain ⟨A, n, c, l, h1, hr, hn, _, hp⟩ := open_recsP (α := Ch) (encα := encCh) (k := 3) (fun z => RowK w w.heap.size z.A z.n z.r ∧ z.n ≤ z.c) encCh_len (by omega) Tryz.underlying24 (by kernel_rfl) (fun n cs' y hy => dec_chgC n cs' y hy) (by simpa only [Value.cells] using hf)
  exact ⟨A, n, c, l, h1, ⟨hr, fun i hi => (hp i hi).1, hn⟩, fun i hi => (hp i hi).2⟩
end
end Go.Proofs.YtiioiajcoiaalaaGreatDoor
