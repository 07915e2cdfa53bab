/-
  The argument of type [][]string opened: it reads as a table. (Readings of the claim's own form; any program.)
-/
import Derived.Test.YthngjbhamgmcgaaTab
import Derived.SliceStrings
import Derived.Deep.Slices
import Derived.WideShapes
namespace Go.Proofs.Ythngjbhamgmcgaa
open Go.RowKit Go.Deep Go.WideShapes Go.ChangeShapes

theorem plain_of_cell' {w : World} {a : Addr} {v : Value} (h : w.cell? a = some v) : a = ⟨a.block, a.off, none⟩ := by
  obtain ⟨b, o, s⟩ := a
  cases s with
  | none => rfl
  | some s =>
    unfold World.cell? at h
    split at h <;> simp at h

theorem reads_cells {w : World} {a : Addr} {len : Nat} {V : Nat → Value} (h : ∀ i, i < len → w.cell? (a.add i) = some (V i)) : Reads w w.heap.size 1 (some a) len ((List.range len).map V) := by
  refine ⟨by simp, fun hn => ?_⟩
  have h0 := h 0 hn
  rw [show a.add 0 = a by simp [Addr.add]] at h0
  have hp := plain_of_cell' h0
  refine ⟨a.block, a.off, by rw [← hp], World.block_lt_of_cell? w _ h0, fun j u hu => ?_⟩
  by_cases hj : j < len
  · rw [List.getElem?_map, List.getElem?_range hj] at hu
    simp only [Option.map_some, Option.some.injEq] at hu
    subst hu
    have := h j hj
    rw [hp, add_plain] at this
    exact this
  · rw [List.getElem?_eq_none (by simpa using hj)] at hu; cases hu

section
variable {H : Type} {enc : TypeId × Value → H} {P : Program} {w : World} {base : Nat} {held : Bool}

theorem open_row {t e : TypeId} {fuel : Nat} {v : Value} {x : DataW H × List MemPlace} (ht : P.underlying t = some (.slice e)) (he : P.underlying e = some .string) (ce : P.cellsOf e = 1)
    (h : DataW.trod enc P w base (fun _ => true) held fuel t [v] = some x) :
    ∃ r : RowT, v = r.val ∧ r.Ok w w.heap.size ∧ r.n ≤ 9223372036854775807 ∧ ∀ s ∈ r.xs, s.size ≤ 9223372036854775807 := by
  rcases open_strings ht he ce h with ⟨hc, _⟩ | ⟨a, len, cap, ss, hc, _, hl, hm, hsl, _, hcell, hss⟩
  · refine ⟨⟨none, 0, 0, []⟩, by injection hc, Reads.none_, by show (0 : Nat) ≤ _; omega, (fun s hs => by cases hs)⟩
  · have hlen : len ≤ ss.length := by rw [hsl]; simpa using hl
    unfold maxLen at hm hss
    refine ⟨⟨some a, len, cap, ss.take len⟩, by injection hc, ?_, by show len ≤ _; omega, fun s hs => by have := hss s (List.mem_of_mem_take hs); omega⟩
    have hr := reads_cells (w := w) (a := a) (len := len) (V := fun i => .string (ss.getD i ByteArray.empty)) (fun i hi => hcell i (by omega))
    have e : (List.range len).map (fun i => Value.string (ss.getD i ByteArray.empty)) = (ss.take len).map Value.string := by
      apply List.ext_getElem?
      intro i
      by_cases hi : i < len
      · rw [List.getElem?_map, List.getElem?_range hi, List.getElem?_map, List.getElem?_take, if_pos hi, List.getElem?_eq_getElem (by omega)]
        simp [List.getD, List.getElem?_eq_getElem (show i < ss.length by omega)]
      · rw [List.getElem?_eq_none (by simpa using hi), List.getElem?_eq_none (by simp; omega)]
    rw [e] at hr
    exact hr

theorem rows_of {len : Nat} {V : Nat → Value} {p : RowT → Prop} (h : ∀ i, i < len → ∃ r : RowT, V i = r.val ∧ p r) : ∃ R : List RowT, R.map RowT.val = (List.range len).map V ∧ ∀ r ∈ R, p r := by
  induction len with
  | zero => exact ⟨[], rfl, fun r hr => by cases hr⟩
  | succ n ih =>
    obtain ⟨R, h1, h2⟩ := ih fun i hi => h i (by omega)
    obtain ⟨r, h3, h4⟩ := h n (by omega)
    refine ⟨R ++ [r], by rw [List.map_append, h1, List.range_succ, List.map_append]; simp [h3], fun s hs => ?_⟩
    rcases List.mem_append.1 hs with h | h
    · exact h2 s h
    · rw [List.mem_singleton.1 h]; exact h4

theorem open_tab {t e q : TypeId} {r : Reach} {b0 : Nat} {v : Value} {d : DataW H} {ps : List MemPlace} (ht : P.underlying t = some (.slice e)) (he : P.underlying e = some (.slice q)) (hq : P.underlying q = some .string)
    (ce : P.cellsOf e = 1) (cq : P.cellsOf q = 1) (hval : Value.okWide P w r b0 t v) (hd : DataW.Trod enc P w base (fun _ => true) held t v d ps) :
    ∃ A n c R, v = .slice A n c ∧ Tab w w.heap.size A n R ∧ n ≤ 9223372036854775807 ∧ (∀ r ∈ R, r.n ≤ 9223372036854775807) ∧ ∀ r ∈ R, ∀ s ∈ r.xs, s.size ≤ 9223372036854775807 := by
  obtain ⟨a0, l0, c0, rfl⟩ := okWide_slice ht hval
  obtain ⟨fuel, hf⟩ := hd
  simp only [Value.cells] at hf
  rcases open_slice1 ht ce hf with ⟨hc, _⟩ | ⟨a, len, cap, m, n, V, D, Pl, hc, _, hl, hm, hmm, _, hx⟩
  · injection hc with hc
    refine ⟨none, 0, 0, [], by rw [hc], ⟨Reads.none_, fun r hr => by cases hr⟩, by omega, (fun r hr => by cases hr), (fun r hr => by cases hr)⟩
  · injection hc with hc
    simp only [if_true] at hmm
    have hlm : len ≤ m := by omega
    obtain ⟨R, h1, h2⟩ := rows_of (len := len) (V := V) (p := fun r => r.Ok w w.heap.size ∧ r.n ≤ 9223372036854775807 ∧ ∀ s ∈ r.xs, s.size ≤ 9223372036854775807) (fun i hi => open_row he hq cq (hx i (by omega)).2)
    unfold maxLen at hm
    refine ⟨some a, len, cap, R, hc, ⟨?_, fun r hr => (h2 r hr).1⟩, by omega, (fun r hr => (h2 r hr).2.1), (fun r hr => (h2 r hr).2.2)⟩
    rw [h1]
    exact reads_cells fun i hi => (hx i (by omega)).1
end
end Go.Proofs.Ythngjbhamgmcgaa
