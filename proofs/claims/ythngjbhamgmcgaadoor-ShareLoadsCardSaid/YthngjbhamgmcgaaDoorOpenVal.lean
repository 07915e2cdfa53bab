/-
  Arguments of type Row ([]Value) and []string opened.
-/
import Derived.Test.YthngjbhamgmcgaaDoorOpenRec
import Derived.Test.YthngjbhamgmcgaaDoorRow1
import Derived.SliceStrings
import Derived.ChangeArms
import Derived.Deep.Strs
namespace Go.Proofs.YthngjbhamgmcgaaDoor
open Go.RowKit Go.Deep Go.WideShapes Go.ChangeShapes
section
variable {H : Type} {enc : TypeId × Value → H} {w : World} {base : Nat} {held : Bool}
set_option maxRecDepth 100000 in
theorem dec_valV (n : Nat) (cs : List Value) (y : DataW H × List MemPlace) (h : DataW.trod enc Tryd.prog w base (fun _ => true) held n 29 cs = some y) : ∃ z : Val, cs = encV z := by
  obtain ⟨y0, y1, y2, k, _, hl, h0, h1, h2⟩ := Go.Deep.trod_struct3 Tryd.underlying29 h
  rw [show Tryd.prog.cellsOf 29 = 3 by kernel_rfl] at hl
  match cs, hl with
  | [v0, v1, v2], _ =>
    change DataW.trod enc Tryd.prog w base (fun _ => true) held k 3 (([v0, v1, v2].drop 0).take (Tryd.prog.cellsOf 3)) = some y0 at h0
    change DataW.trod enc Tryd.prog w base (fun _ => true) held k 3 (([v0, v1, v2].drop 1).take (Tryd.prog.cellsOf 3)) = some y1 at h1
    change DataW.trod enc Tryd.prog w base (fun _ => true) held k 9 (([v0, v1, v2].drop 2).take (Tryd.prog.cellsOf 9)) = some y2 at h2
    rw [show Tryd.prog.cellsOf 3 = 1 by kernel_rfl] at h0 h1
    rw [show Tryd.prog.cellsOf 9 = 1 by kernel_rfl] at h2
    have g0 : DataW.trod enc Tryd.prog w base (fun _ => true) held k 3 [v0] = some y0 := h0
    have g1 : DataW.trod enc Tryd.prog w base (fun _ => true) held k 3 [v1] = some y1 := h1
    have g2 : DataW.trod enc Tryd.prog w base (fun _ => true) held k 9 [v2] = some y2 := h2
    obtain ⟨a, ea, _⟩ := DataW.trod_int Tryd.underlying3 g0
    obtain ⟨b, eb, _⟩ := DataW.trod_int Tryd.underlying3 g1
    obtain ⟨c, ec, _⟩ := DataW.trod_string Tryd.underlying9 g2
    simp at ea eb ec
    subst ea eb ec
    exact ⟨⟨a, b, c⟩, rfl⟩
set_option maxRecDepth 100000 in
theorem open_rowV {r : Reach} {b0 : Nat} {v : Value} {d : DataW H} {ps : List MemPlace} (hval : Value.okWide Tryd.prog w r b0 23 v) (hd : DataW.Trod enc Tryd.prog w base (fun _ => true) held 23 v d ps) :
    ∃ A n c, ∃ l : Rw, v = .slice A n c ∧ Reads w w.heap.size 3 A n (l.flatMap encV) ∧ n ≤ 9223372036854775807 := by
  obtain ⟨a0, l0, c0, rfl⟩ := okWide_slice Tryd.underlying23 hval
  obtain ⟨fuel, hf⟩ := hd
  exact open_recs (α := Val) (encα := encV) (k := 3) encV_len (by omega) Tryd.underlying23 (by kernel_rfl) (fun n cs' y hy => dec_valV n cs' y hy) (by simpa only [Value.cells] using hf)
theorem reads_cellsV {w : World} {a : Addr} {len : Nat} {V : Nat → Value} (h : ∀ i, i < len → w.cell? (a.add i) = some (V i)) : Reads w w.heap.size 1 (some a) len ((List.range len).map V) := by
  refine ⟨by simp, fun hn => ?_⟩
  have h0 := h 0 hn
  rw [show a.add 0 = a by simp [Addr.add]] at h0
  have hp := plain_of_cell h0
  refine ⟨a.block, a.off, by rw [← hp], World.block_lt_of_cell? w _ h0, fun j u hu => ?_⟩
  by_cases hj : j < len
  · rw [List.getElem?_map, List.getElem?_range hj] at hu
    simp only [Option.map_some, Option.some.injEq] at hu
    subst hu
    have := h j hj
    rw [hp, add_plain] at this
    exact this
  · rw [List.getElem?_eq_none (by simpa using hj)] at hu; cases hu
theorem open_textsV {P : Program} {t e : TypeId} {r : Reach} {b0 : Nat} {v : Value} {d : DataW H} {ps : List MemPlace} (ht : P.underlying t = some (.slice e)) (he : P.underlying e = some .string) (ce : P.cellsOf e = 1)
    (hval : Value.okWide P w r b0 t v) (hd : DataW.Trod enc P w base (fun _ => true) held t v d ps) :
    ∃ A n c, ∃ xs : List ByteArray, v = .slice A n c ∧ Reads w w.heap.size 1 A n (xs.map Value.string) ∧ n ≤ 9223372036854775807 ∧ ∀ s ∈ xs, s.size ≤ 9223372036854775807 := by
  obtain ⟨a0, l0, c0, rfl⟩ := okWide_slice ht hval
  obtain ⟨fuel, hf⟩ := hd
  have h : DataW.trod enc P w base (fun _ => true) held fuel t [.slice a0 l0 c0] = some (d, ps) := by simpa only [Value.cells] using hf
  rcases open_strings ht he ce h with ⟨hc, _⟩ | ⟨a, len, cap, ss, hc, _, hl, hm, hsl, _, hcell, hss⟩
  · exact ⟨none, 0, 0, [], by injection hc, Reads.none_, by omega, fun s hs => by cases hs⟩
  · have hlen : len ≤ ss.length := by rw [hsl]; simpa using hl
    unfold maxLen at hm hss
    refine ⟨some a, len, cap, ss.take len, by injection hc, ?_, by omega, fun s hs => by have := hss s (List.mem_of_mem_take hs); omega⟩
    have hr := reads_cellsV (w := w) (a := a) (len := len) (V := fun i => .string (ss.getD i ByteArray.empty)) (fun i hi => hcell i (by omega))
    have e : (List.range len).map (fun i => Value.string (ss.getD i ByteArray.empty)) = (ss.take len).map Value.string := by
      apply List.ext_getElem?
      intro i
      by_cases hi : i < len
      · rw [List.getElem?_map, List.getElem?_range hi, List.getElem?_map, List.getElem?_take, if_pos hi, List.getElem?_eq_getElem (by omega)]
        simp [List.getD, List.getElem?_eq_getElem (show i < ss.length by omega)]
      · rw [List.getElem?_eq_none (by simpa using hi), List.getElem?_eq_none (by simp; omega)]
    rw [e] at hr
    exact hr
end
end Go.Proofs.YthngjbhamgmcgaaDoor
