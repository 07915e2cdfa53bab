/-
  The argument of type Bag opened: a slice of items, each with a row.
-/
import Derived.Test.YtiioiajcoiaalaaOpenRec
import Derived.Test.YtiioiajcoiaalaaBgM
import Derived.ChangeArms
import Derived.Deep.Strs
namespace Go.Proofs.Ytiioiajcoiaalaa
open Go.RowKit Go.Deep Go.WideShapes Go.ChangeShapes

section
variable {H : Type} {enc : TypeId × Value → H} {P : Program} {w : World} {base : Nat} {held : Bool}
/-- A slice of records, with what each of them holds, and its length within its capacity. -/
theorem open_recsP {α : Type} {encα : α → List Value} {k : Nat} (p : α → Prop) (hk : ∀ x, (encα x).length = k) (hk0 : 0 < k) {t e : TypeId} {fuel : Nat} {v : Value} {x : DataW H × List MemPlace} (ht : P.underlying t = some (.slice e)) (ce : P.cellsOf e = k)
    (hdec : ∀ n cs' y, DataW.trod enc P w base (fun _ => true) held n e cs' = some y → ∃ z, cs' = encα z ∧ p z)
    (h : DataW.trod enc P w base (fun _ => true) held fuel t [v] = some x) :
    ∃ (A : Option Addr) (n c : Nat) (xs : List α), v = .slice A n c ∧ Reads w w.heap.size k A n (xs.flatMap encα) ∧ n ≤ 9223372036854775807 ∧ n ≤ c ∧ ∀ z ∈ xs, p z := by
  rcases open_slice ht h with ⟨hc, _⟩ | ⟨a, len, cap, m, n, D, Pl, hc, _, hl, hm, hmm, _, hx⟩
  · injection hc with hc
    exact ⟨none, 0, 0, [], hc, Reads.none_, by omega, by omega, by simp⟩
  · injection hc with hc
    simp only [if_true] at hmm
    have hlm : len ≤ m := by omega
    have each : ∀ i, i < len → ∃ z : α, (∀ j u, (encα z)[j]? = some u → w.cell? (a.add (i * k + j)) = some u) ∧ p z := by
      intro i hi
      obtain ⟨cs', h1, h2⟩ := hx i (by omega)
      rw [ce] at h1
      obtain ⟨_, hlen, hcell⟩ := World.cells?_some h1
      obtain ⟨z, rfl, hz⟩ := hdec n _ _ h2
      refine ⟨z, fun j u hu => ?_, hz⟩
      have hj := (List.getElem?_eq_some_iff.1 hu).1
      rw [hk] at hj
      have := hcell j (by omega)
      rw [add_add] at this
      rw [this, hu]
    obtain ⟨L, h1, h2⟩ := list_of each
    have hL : ∀ z ∈ L, p z := fun z hz => by
      obtain ⟨i, hi⟩ := List.mem_iff_getElem?.1 hz
      exact (h2 i z hi).2
    replace h2 := fun i y hy => (h2 i y hy).1
    unfold maxLen at hm
    refine ⟨some a, len, cap, L, hc, ⟨by rw [flat_length hk, h1], fun hn => ?_⟩, by omega, by omega, hL⟩
    obtain ⟨y0, hy0⟩ : ∃ y, L[0]? = some y := ⟨_, List.getElem?_eq_getElem (by omega)⟩
    obtain ⟨u0, hu0⟩ : ∃ u, (encα y0)[0]? = some u := ⟨_, List.getElem?_eq_getElem (by rw [hk]; exact hk0)⟩
    have c0 := h2 0 y0 hy0 0 u0 hu0
    rw [Nat.zero_mul, show a.add (0 + 0) = a by simp [Addr.add]] at c0
    have hp := plain_of_cell c0
    refine ⟨a.block, a.off, by rw [← hp], World.block_lt_of_cell? w _ c0, fun j u hu => ?_⟩
    have hj : j < L.length * k := by
      have := (List.getElem?_eq_some_iff.1 hu).1
      rwa [flat_length hk] at this
    have hq : j / k < L.length := (Nat.div_lt_iff_lt_mul hk0).2 hj
    obtain ⟨y, hy⟩ : ∃ y, L[j / k]? = some y := ⟨_, List.getElem?_eq_getElem hq⟩
    have hjm : j = (j / k) * k + j % k := by rw [Nat.mul_comm]; exact (Nat.div_add_mod j k).symm
    rw [hjm, flat_get hk L (j / k) (j % k) y hy (Nat.mod_lt _ hk0)] at hu
    have := h2 (j / k) y hy (j % k) u hu
    rw [hp, add_plain, ← hjm] at this
    exact this
end

section
variable {H : Type} {enc : TypeId × Value → H} {w : World} {base : Nat} {held : Bool}
set_option maxRecDepth 100000 in
theorem dec_val (n : Nat) (cs : List Value) (y : DataW H × List MemPlace) (h : DataW.trod enc Try.prog w base (fun _ => true) held n 49 cs = some y) : ∃ z : Val, cs = encV z ∧ True := by
  obtain ⟨y0, y1, y2, k, _, hl, h0, h1, h2⟩ := Go.Deep.trod_struct3 Try.underlying49 h
  rw [show Try.prog.cellsOf 49 = 3 by kernel_rfl] at hl
  match cs, hl with
  | [v0, v1, v2], _ =>
    change DataW.trod enc Try.prog w base (fun _ => true) held k 3 (([v0, v1, v2].drop 0).take (Try.prog.cellsOf 3)) = some y0 at h0
    change DataW.trod enc Try.prog w base (fun _ => true) held k 3 (([v0, v1, v2].drop 1).take (Try.prog.cellsOf 3)) = some y1 at h1
    change DataW.trod enc Try.prog w base (fun _ => true) held k 9 (([v0, v1, v2].drop 2).take (Try.prog.cellsOf 9)) = some y2 at h2
    rw [show Try.prog.cellsOf 3 = 1 by kernel_rfl] at h0 h1
    rw [show Try.prog.cellsOf 9 = 1 by kernel_rfl] at h2
    have g0 : DataW.trod enc Try.prog w base (fun _ => true) held k 3 [v0] = some y0 := h0
    have g1 : DataW.trod enc Try.prog w base (fun _ => true) held k 3 [v1] = some y1 := h1
    have g2 : DataW.trod enc Try.prog w base (fun _ => true) held k 9 [v2] = some y2 := h2
    obtain ⟨a, ea, _⟩ := DataW.trod_int Try.underlying3 g0
    obtain ⟨b, eb, _⟩ := DataW.trod_int Try.underlying3 g1
    obtain ⟨c, ec, _⟩ := DataW.trod_string Try.underlying9 g2
    simp at ea eb ec
    subst ea eb ec
    exact ⟨⟨a, b, c⟩, rfl, trivial⟩
set_option maxRecDepth 100000 in
theorem dec_item (n : Nat) (cs : List Value) (y : DataW H × List MemPlace) (h : DataW.trod enc Try.prog w base (fun _ => true) held n 47 cs = some y) : ∃ z : It, cs = encIt z ∧ RowK w w.heap.size z.A z.n z.r := by
  obtain ⟨y0, y1, k, _, hl, h0, h1⟩ := Go.ChangeShapes.trod_struct2 Try.underlying47 h
  rw [show Try.prog.cellsOf 47 = 2 by kernel_rfl] at hl
  match cs, hl with
  | [v0, v1], _ =>
    change DataW.trod enc Try.prog w base (fun _ => true) held k 34 (([v0, v1].drop 0).take (Try.prog.cellsOf 34)) = some y0 at h0
    change DataW.trod enc Try.prog w base (fun _ => true) held k 3 (([v0, v1].drop 1).take (Try.prog.cellsOf 3)) = some y1 at h1
    rw [show Try.prog.cellsOf 34 = 1 by kernel_rfl] at h0
    rw [show Try.prog.cellsOf 3 = 1 by kernel_rfl] at h1
    have g0 : DataW.trod enc Try.prog w base (fun _ => true) held k 34 [v0] = some y0 := h0
    have g1 : DataW.trod enc Try.prog w base (fun _ => true) held k 3 [v1] = some y1 := h1
    obtain ⟨A, m, c, r, rfl, hr, hm, _, _⟩ := open_recsP (α := Val) (encα := encV) (k := 3) (fun _ => True) encV_len (by omega) Try.underlying34 (by kernel_rfl) (fun n cs' y hy => dec_val n cs' y hy) g0
    obtain ⟨b, eb, _⟩ := DataW.trod_int Try.underlying3 g1
    simp at eb
    subst eb
    exact ⟨⟨A, m, c, r, b⟩, rfl, RowK.of_reads hr (Nat.le_refl _) hm⟩
set_option maxRecDepth 100000 in
theorem open_bag {r : Reach} {b0 : Nat} {v : Value} {d : DataW H} {ps : List MemPlace} (hval : Value.okWide Try.prog w r b0 23 v) (hd : DataW.Trod enc Try.prog w base (fun _ => true) held 23 v d ps) :
    ∃ A n c, ∃ l : List It, v = .slice A n c ∧ BagR w w.heap.size A n l ∧ n ≤ c := by
  obtain ⟨a0, l0, c0, rfl⟩ := okWide_slice Try.underlying23 hval
  obtain ⟨fuel, hf⟩ := hd
  obtain ⟨A, n, c, l, h1, hr, hn, hc, hp⟩ := open_recsP (α := It) (encα := encIt) (k := 2) (fun z => RowK w w.heap.size z.A z.n z.r) encIt_len (by omega) Try.underlying23 (by kernel_rfl) (fun n cs' y hy => dec_item n cs' y hy) (by simpa only [Value.cells] using hf)
  exact ⟨A, n, c, l, h1, ⟨hr, hp, hn⟩, hc⟩
end
end Go.Proofs.Ytiioiajcoiaalaa
