/-
  A slice of records opened, each with a property of its own. (Any program.)
-/
import Derived.Test.YtblepaocekojbaaOpenRec
import Derived.ChangeArms
import Derived.Deep.Strs
namespace Go.Proofs.Ytblepaocekojbaa
open Go.RowKit Go.Deep Go.WideShapes Go.ChangeShapes

section
variable {H : Type} {enc : TypeId × Value → H} {P : Program} {w : World} {base : Nat} {held : Bool}
/-- A slice of records, with what each of them holds, and its length within its capacity. -/
theorem open_recsP {α : Type} {encα : α → List Value} {k : Nat} (p : α → Prop) (hk : ∀ x, (encα x).length = k) (hk0 : 0 < k) {t e : TypeId} {fuel : Nat} {v : Value} {x : DataW H × List MemPlace} (ht : P.underlying t = some (.slice e)) (ce : P.cellsOf e = k)
    (hdec : ∀ n cs' y, DataW.trod enc P w base (fun _ => true) held n e cs' = some y → ∃ z, cs' = encα z ∧ p z)
    (h : DataW.trod enc P w base (fun _ => true) held fuel t [v] = some x) :
    ∃ (A : Option Addr) (n c : Nat) (xs : List α), v = .slice A n c ∧ Reads w w.heap.size k A n (xs.flatMap encα) ∧ n ≤ 9223372036854775807 ∧ n ≤ c ∧ ∀ z ∈ xs, p z := by
  rcases open_slice ht h with ⟨hc, _⟩ | ⟨a, len, cap, m, n, D, Pl, hc, _, hl, hm, hmm, _, hx⟩
  · injection hc with hc
    exact ⟨none, 0, 0, [], hc, Reads.none_, by omega, by omega, by simp⟩
  · injection hc with hc
    simp only [if_true] at hmm
    have hlm : len ≤ m := by omega
    have each : ∀ i, i < len → ∃ z : α, (∀ j u, (encα z)[j]? = some u → w.cell? (a.add (i * k + j)) = some u) ∧ p z := by
      intro i hi
      obtain ⟨cs', h1, h2⟩ := hx i (by omega)
      rw [ce] at h1
      obtain ⟨_, hlen, hcell⟩ := World.cells?_some h1
      obtain ⟨z, rfl, hz⟩ := hdec n _ _ h2
      refine ⟨z, fun j u hu => ?_, hz⟩
      have hj := (List.getElem?_eq_some_iff.1 hu).1
      rw [hk] at hj
      have := hcell j (by omega)
      rw [add_add] at this
      rw [this, hu]
    obtain ⟨L, h1, h2⟩ := list_of each
    have hL : ∀ z ∈ L, p z := fun z hz => by
      obtain ⟨i, hi⟩ := List.mem_iff_getElem?.1 hz
      exact (h2 i z hi).2
    replace h2 := fun i y hy => (h2 i y hy).1
    unfold maxLen at hm
    refine ⟨some a, len, cap, L, hc, ⟨by rw [flat_length hk, h1], fun hn => ?_⟩, by omega, by omega, hL⟩
    obtain ⟨y0, hy0⟩ : ∃ y, L[0]? = some y := ⟨_, List.getElem?_eq_getElem (by omega)⟩
    obtain ⟨u0, hu0⟩ : ∃ u, (encα y0)[0]? = some u := ⟨_, List.getElem?_eq_getElem (by rw [hk]; exact hk0)⟩
    have c0 := h2 0 y0 hy0 0 u0 hu0
    rw [Nat.zero_mul, show a.add (0 + 0) = a by simp [Addr.add]] at c0
    have hp := plain_of_cell c0
    refine ⟨a.block, a.off, by rw [← hp], World.block_lt_of_cell? w _ c0, fun j u hu => ?_⟩
    have hj : j < L.length * k := by
      have := (List.getElem?_eq_some_iff.1 hu).1
      rwa [flat_length hk] at this
    have hq : j / k < L.length := (Nat.div_lt_iff_lt_mul hk0).2 hj
    obtain ⟨y, hy⟩ : ∃ y, L[j / k]? = some y := ⟨_, List.getElem?_eq_getElem hq⟩
    have hjm : j = (j / k) * k + j % k := by rw [Nat.mul_comm]; exact (Nat.div_add_mod j k).symm
    rw [hjm, flat_get hk L (j / k) (j % k) y hy (Nat.mod_lt _ hk0)] at hu
    have := h2 (j / k) y hy (j % k) u hu
    rw [hp, add_plain, ← hjm] at this
    exact this
end
end Go.Proofs.Ytblepaocekojbaa
