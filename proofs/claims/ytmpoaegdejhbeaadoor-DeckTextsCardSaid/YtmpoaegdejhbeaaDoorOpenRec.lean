/-
  A slice of records opened: it reads as a list of them, whatever the records are. (Readings of the claim's own form; any program.)
-/
import Derived.Test.YtmpoaegdejhbeaaDoorMem
import Derived.Deep.Slices
import Derived.WideShapes
import Derived.ChangeSame
namespace Go.Proofs.YtmpoaegdejhbeaaDoor
open Go.RowKit Go.Deep Go.WideShapes Go.ChangeShapes

theorem plain_of_cell {w : World} {a : Addr} {v : Value} (h : w.cell? a = some v) : a = ⟨a.block, a.off, none⟩ := by
  obtain ⟨b, o, s⟩ := a
  cases s with
  | none => rfl
  | some s =>
    unfold World.cell? at h
    split at h <;> simp at h

theorem list_of {α : Type} {len : Nat} {p : Nat → α → Prop} (h : ∀ i, i < len → ∃ y, p i y) : ∃ L : List α, L.length = len ∧ ∀ i y, L[i]? = some y → p i y := by
  induction len with
  | zero => exact ⟨[], rfl, fun i y h => by simp at h⟩
  | succ n ih =>
    obtain ⟨L, h1, h2⟩ := ih fun i hi => h i (by omega)
    obtain ⟨y, hy⟩ := h n (by omega)
    refine ⟨L ++ [y], by simp [h1], fun i z hz => ?_⟩
    by_cases hi : i < n
    · rw [List.getElem?_append_left (by omega)] at hz
      exact h2 i z hz
    · have hl := (List.getElem?_eq_some_iff.1 hz).1
      rw [List.length_append, h1] at hl
      obtain rfl : i = n := by simp at hl; omega
      rw [List.getElem?_append_right (by omega), h1, Nat.sub_self] at hz
      obtain rfl : y = z := by simpa using hz
      exact hy

section
variable {H : Type} {enc : TypeId × Value → H} {P : Program} {w : World} {base : Nat} {held : Bool}

theorem open_recs {α : Type} {encα : α → List Value} {k : Nat} (hk : ∀ x, (encα x).length = k) (hk0 : 0 < k) {t e : TypeId} {fuel : Nat} {v : Value} {x : DataW H × List MemPlace} (ht : P.underlying t = some (.slice e)) (ce : P.cellsOf e = k)
    (hdec : ∀ n cs' y, DataW.trod enc P w base (fun _ => true) held n e cs' = some y → ∃ z, cs' = encα z)
    (h : DataW.trod enc P w base (fun _ => true) held fuel t [v] = some x) :
    ∃ (A : Option Addr) (n c : Nat) (xs : List α), v = .slice A n c ∧ Reads w w.heap.size k A n (xs.flatMap encα) ∧ n ≤ 9223372036854775807 := by
  rcases open_slice ht h with ⟨hc, _⟩ | ⟨a, len, cap, m, n, D, Pl, hc, _, hl, hm, hmm, _, hx⟩
  · injection hc with hc
    exact ⟨none, 0, 0, [], hc, Reads.none_, by omega⟩
  · injection hc with hc
    simp only [if_true] at hmm
    have hlm : len ≤ m := by omega
    have each : ∀ i, i < len → ∃ z : α, ∀ j u, (encα z)[j]? = some u → w.cell? (a.add (i * k + j)) = some u := by
      intro i hi
      obtain ⟨cs', h1, h2⟩ := hx i (by omega)
      rw [ce] at h1
      obtain ⟨_, hlen, hcell⟩ := World.cells?_some h1
      obtain ⟨z, rfl⟩ := hdec n _ _ h2
      refine ⟨z, fun j u hu => ?_⟩
      have hj := (List.getElem?_eq_some_iff.1 hu).1
      rw [hk] at hj
      have := hcell j (by omega)
      rw [add_add] at this
      rw [this, hu]
    obtain ⟨L, h1, h2⟩ := list_of each
    unfold maxLen at hm
    refine ⟨some a, len, cap, L, hc, ⟨by rw [flat_length hk, h1], fun hn => ?_⟩, by omega⟩
    obtain ⟨y0, hy0⟩ : ∃ y, L[0]? = some y := ⟨_, List.getElem?_eq_getElem (by omega)⟩
    obtain ⟨u0, hu0⟩ : ∃ u, (encα y0)[0]? = some u := ⟨_, List.getElem?_eq_getElem (by rw [hk]; exact hk0)⟩
    have c0 := h2 0 y0 hy0 0 u0 hu0
    rw [Nat.zero_mul, show a.add (0 + 0) = a by simp [Addr.add]] at c0
    have hp := plain_of_cell c0
    refine ⟨a.block, a.off, by rw [← hp], World.block_lt_of_cell? w _ c0, fun j u hu => ?_⟩
    have hj : j < L.length * k := by
      have := (List.getElem?_eq_some_iff.1 hu).1
      rwa [flat_length hk] at this
    have hq : j / k < L.length := (Nat.div_lt_iff_lt_mul hk0).2 hj
    obtain ⟨y, hy⟩ : ∃ y, L[j / k]? = some y := ⟨_, List.getElem?_eq_getElem hq⟩
    have hjm : j = (j / k) * k + j % k := by rw [Nat.mul_comm]; exact (Nat.div_add_mod j k).symm
    rw [hjm, flat_get hk L (j / k) (j % k) y hy (Nat.mod_lt _ hk0)] at hu
    have := h2 (j / k) y hy (j % k) u hu
    rw [hp, add_plain, ← hjm] at this
    exact this

theorem flat_one (xs : List Int) : xs.flatMap (fun x => [Value.int .i64 x]) = xs.map (Value.int .i64) := by
  induction xs with
  | nil => rfl
  | cons x r ih => rw [List.flatMap_cons, ih]; rfl
/-- A slice of ints. -/
theorem open_intsR {t e : TypeId} {fuel : Nat} {v : Value} {x : DataW H × List MemPlace} (ht : P.underlying t = some (.slice e)) (he : P.underlying e = some (.int .i64)) (ce : P.cellsOf e = 1)
    (h : DataW.trod enc P w base (fun _ => true) held fuel t [v] = some x) : ∃ A n c, ∃ xs : List Int, v = .slice A n c ∧ Reads w w.heap.size 1 A n (xs.map (Value.int .i64)) ∧ n ≤ 9223372036854775807 := by
  obtain ⟨A, n, c, xs, h1, h2, h3⟩ := open_recs (α := Int) (encα := fun x => [Value.int .i64 x]) (k := 1) (fun _ => rfl) (by omega) ht ce (fun n cs' y hy => by
    obtain ⟨z, hz, _⟩ := DataW.trod_int he hy
    exact ⟨z, hz⟩) h
  exact ⟨A, n, c, xs, h1, by rwa [flat_one] at h2, h3⟩
theorem open_intsV {t e : TypeId} {r : Reach} {b0 : Nat} {v : Value} {d : DataW H} {ps : List MemPlace} (ht : P.underlying t = some (.slice e)) (he : P.underlying e = some (.int .i64)) (ce : P.cellsOf e = 1)
    (hval : Value.okWide P w r b0 t v) (hd : DataW.Trod enc P w base (fun _ => true) held t v d ps) : ∃ A n c, ∃ xs : List Int, v = .slice A n c ∧ Reads w w.heap.size 1 A n (xs.map (Value.int .i64)) ∧ n ≤ 9223372036854775807 := by
  obtain ⟨a0, l0, c0, rfl⟩ := okWide_slice ht hval
  obtain ⟨fuel, hf⟩ := hd
  exact open_intsR ht he ce (by simpa only [Value.cells] using hf)
end
end Go.Proofs.YtmpoaegdejhbeaaDoor
