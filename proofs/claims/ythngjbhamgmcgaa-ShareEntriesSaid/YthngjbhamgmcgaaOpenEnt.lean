/-
  The argument of type [][]Entry opened: it reads as a list of lists of entries. (Readings of the claim's own form.)
-/
import Derived.Test.YthngjbhamgmcgaaEnCc
import Derived.Test.YthngjbhamgmcgaaOpenRec
import Derived.SliceStrings
import Derived.Deep.Slices
import Derived.WideShapes
import Derived.ChangeArms
import Derived.Lib.SmallJoins
namespace Go.Proofs.Ythngjbhamgmcgaa
open Go.RowKit Go.Deep Go.WideShapes Go.ChangeShapes

theorem reads_cellsE {w : World} {a : Addr} {len : Nat} {V : Nat → Value} (h : ∀ i, i < len → w.cell? (a.add i) = some (V i)) : Reads w w.heap.size 1 (some a) len ((List.range len).map V) := by
  refine ⟨by simp, fun hn => ?_⟩
  have h0 := h 0 hn
  rw [show a.add 0 = a by simp [Addr.add]] at h0
  have hp := plain_of_cell h0
  refine ⟨a.block, a.off, by rw [← hp], World.block_lt_of_cell? w _ h0, fun j u hu => ?_⟩
  by_cases hj : j < len
  · rw [List.getElem?_map, List.getElem?_range hj] at hu
    simp only [Option.map_some, Option.some.injEq] at hu
    subst hu
    have := h j hj
    rw [hp, add_plain] at this
    exact this
  · rw [List.getElem?_eq_none (by simpa using hj)] at hu; cases hu

section
variable {H : Type} {enc : TypeId × Value → H} {P : Program} {w : World} {base : Nat} {held : Bool}
/-- A slice of records, with what each of them holds. -/
theorem open_recsQ {α : Type} {encα : α → List Value} {k : Nat} (p : α → Prop) (hk : ∀ x, (encα x).length = k) (hk0 : 0 < k) {t e : TypeId} {fuel : Nat} {v : Value} {x : DataW H × List MemPlace} (ht : P.underlying t = some (.slice e)) (ce : P.cellsOf e = k)
    (hdec : ∀ n cs' y, DataW.trod enc P w base (fun _ => true) held n e cs' = some y → ∃ z, cs' = encα z ∧ p z)
    (h : DataW.trod enc P w base (fun _ => true) held fuel t [v] = some x) :
    ∃ (A : Option Addr) (n c : Nat) (xs : List α), v = .slice A n c ∧ Reads w w.heap.size k A n (xs.flatMap encα) ∧ n ≤ 9223372036854775807 ∧ ∀ z ∈ xs, p z := by
  rcases open_slice ht h with ⟨hc, _⟩ | ⟨a, len, cap, m, n, D, Pl, hc, _, hl, hm, hmm, _, hx⟩
  · injection hc with hc
    exact ⟨none, 0, 0, [], hc, Reads.none_, by omega, by simp⟩
  · injection hc with hc
    simp only [if_true] at hmm
    have hlm : len ≤ m := by omega
    have each : ∀ i, i < len → ∃ z : α, (∀ j u, (encα z)[j]? = some u → w.cell? (a.add (i * k + j)) = some u) ∧ p z := by
      intro i hi
      obtain ⟨cs', h1, h2⟩ := hx i (by omega)
      rw [ce] at h1
      obtain ⟨_, hlen, hcell⟩ := World.cells?_some h1
      obtain ⟨z, rfl, hz⟩ := hdec n _ _ h2
      refine ⟨z, fun j u hu => ?_, hz⟩
      have hj := (List.getElem?_eq_some_iff.1 hu).1
      rw [hk] at hj
      have := hcell j (by omega)
      rw [add_add] at this
      rw [this, hu]
    obtain ⟨L, h1, h2⟩ := list_of each
    have hL : ∀ z ∈ L, p z := fun z hz => by
      obtain ⟨i, hi⟩ := List.mem_iff_getElem?.1 hz
      exact (h2 i z hi).2
    replace h2 := fun i y hy => (h2 i y hy).1
    unfold maxLen at hm
    refine ⟨some a, len, cap, L, hc, ⟨by rw [flat_length hk, h1], fun hn => ?_⟩, by omega, hL⟩
    obtain ⟨y0, hy0⟩ : ∃ y, L[0]? = some y := ⟨_, List.getElem?_eq_getElem (by omega)⟩
    obtain ⟨u0, hu0⟩ : ∃ u, (encα y0)[0]? = some u := ⟨_, List.getElem?_eq_getElem (by rw [hk]; exact hk0)⟩
    have c0 := h2 0 y0 hy0 0 u0 hu0
    rw [Nat.zero_mul, show a.add (0 + 0) = a by simp [Addr.add]] at c0
    have hp := plain_of_cell c0
    refine ⟨a.block, a.off, by rw [← hp], World.block_lt_of_cell? w _ c0, fun j u hu => ?_⟩
    have hj : j < L.length * k := by
      have := (List.getElem?_eq_some_iff.1 hu).1
      rwa [flat_length hk] at this
    have hq : j / k < L.length := (Nat.div_lt_iff_lt_mul hk0).2 hj
    obtain ⟨y, hy⟩ : ∃ y, L[j / k]? = some y := ⟨_, List.getElem?_eq_getElem hq⟩
    have hjm : j = (j / k) * k + j % k := by rw [Nat.mul_comm]; exact (Nat.div_add_mod j k).symm
    rw [hjm, flat_get hk L (j / k) (j % k) y hy (Nat.mod_lt _ hk0)] at hu
    have := h2 (j / k) y hy (j % k) u hu
    rw [hp, add_plain, ← hjm] at this
    exact this
theorem ers_of {len : Nat} {V : Nat → Value} {p : Er → Prop} (h : ∀ i, i < len → ∃ r : Er, V i = r.val ∧ p r) : ∃ R : List Er, R.map Er.val = (List.range len).map V ∧ ∀ r ∈ R, p r := by
  induction len with
  | zero => exact ⟨[], rfl, fun r hr => by cases hr⟩
  | succ n ih =>
    obtain ⟨R, h1, h2⟩ := ih fun i hi => h i (by omega)
    obtain ⟨r, h3, h4⟩ := h n (by omega)
    refine ⟨R ++ [r], by rw [List.map_append, h1, List.range_succ, List.map_append]; simp [h3], fun s hs => ?_⟩
    rcases List.mem_append.1 hs with h | h
    · exact h2 s h
    · rw [List.mem_singleton.1 h]; exact h4
end

section
variable {H : Type} {enc : TypeId × Value → H} {w : World} {base : Nat} {held : Bool}
set_option maxRecDepth 100000 in
theorem dec_ent (n : Nat) (cs : List Value) (y : DataW H × List MemPlace) (h : DataW.trod enc Try.prog w base (fun _ => true) held n 57 cs = some y) : ∃ z : En, cs = encE z ∧ SzE z := by
  obtain ⟨y0, y1, y2, y3, k, _, hl, h0, h1, h2, h3⟩ := Go.Joins.trod_struct4 Try.underlying57 h
  rw [show Try.prog.cellsOf 57 = 4 by kernel_rfl] at hl
  match cs, hl with
  | [v0, v1, v2, v3], _ =>
    change DataW.trod enc Try.prog w base (fun _ => true) held k 3 (([v0, v1, v2, v3].drop 0).take (Try.prog.cellsOf 3)) = some y0 at h0
    change DataW.trod enc Try.prog w base (fun _ => true) held k 9 (([v0, v1, v2, v3].drop 1).take (Try.prog.cellsOf 9)) = some y1 at h1
    change DataW.trod enc Try.prog w base (fun _ => true) held k 9 (([v0, v1, v2, v3].drop 2).take (Try.prog.cellsOf 9)) = some y2 at h2
    change DataW.trod enc Try.prog w base (fun _ => true) held k 9 (([v0, v1, v2, v3].drop 3).take (Try.prog.cellsOf 9)) = some y3 at h3
    rw [show Try.prog.cellsOf 3 = 1 by kernel_rfl] at h0
    rw [show Try.prog.cellsOf 9 = 1 by kernel_rfl] at h1 h2 h3
    have g0 : DataW.trod enc Try.prog w base (fun _ => true) held k 3 [v0] = some y0 := h0
    have g1 : DataW.trod enc Try.prog w base (fun _ => true) held k 9 [v1] = some y1 := h1
    have g2 : DataW.trod enc Try.prog w base (fun _ => true) held k 9 [v2] = some y2 := h2
    have g3 : DataW.trod enc Try.prog w base (fun _ => true) held k 9 [v3] = some y3 := h3
    obtain ⟨a, ea, _⟩ := DataW.trod_int Try.underlying3 g0
    obtain ⟨b, eb, _, sb⟩ := DataW.trod_string Try.underlying9 g1
    obtain ⟨c, ec, _, sc⟩ := DataW.trod_string Try.underlying9 g2
    obtain ⟨d, ed, _, sd⟩ := DataW.trod_string Try.underlying9 g3
    simp at ea eb ec ed
    subst ea eb ec ed
    unfold maxLen at sb sc sd
    exact ⟨⟨a, b, c, d⟩, rfl, by omega, by omega, by omega⟩
set_option maxRecDepth 100000 in
theorem open_ents1 {r : Reach} {b0 : Nat} {v : Value} {d : DataW H} {ps : List MemPlace} (hval : Value.okWide Try.prog w r b0 50 v) (hd : DataW.Trod enc Try.prog w base (fun _ => true) held 50 v d ps) :
    ∃ A n c, ∃ l : List En, v = .slice A n c ∧ Reads w w.heap.size 4 A n (flatE l) ∧ n ≤ 9223372036854775807 ∧ AllSz l := by
  obtain ⟨a0, l0, c0, rfl⟩ := okWide_slice Try.underlying50 hval
  obtain ⟨fuel, hf⟩ := hd
  exact open_recsQ (α := En) (encα := encE) (k := 4) SzE encE_len (by omega) Try.underlying50 (by kernel_rfl) (fun n cs' y hy => dec_ent n cs' y hy) (by simpa only [Value.cells] using hf)
set_option maxRecDepth 100000 in
theorem open_ents {r : Reach} {b0 : Nat} {v : Value} {d : DataW H} {ps : List MemPlace} (hval : Value.okWide Try.prog w r b0 48 v) (hd : DataW.Trod enc Try.prog w base (fun _ => true) held 48 v d ps) :
    ∃ A n c R, v = .slice A n c ∧ TabE w w.heap.size A n R ∧ n ≤ 9223372036854775807 ∧ (∀ r ∈ R, r.n ≤ 9223372036854775807) ∧ ∀ r ∈ R, AllSz r.xs := by
  obtain ⟨a0, l0, c0, rfl⟩ := okWide_slice Try.underlying48 hval
  obtain ⟨fuel, hf⟩ := hd
  simp only [Value.cells] at hf
  rcases open_slice1 Try.underlying48 (by kernel_rfl) hf with ⟨hc, _⟩ | ⟨a, len, cap, m, n, V, D, Pl, hc, _, hl, hm, hmm, _, hx⟩
  · injection hc with hc
    refine ⟨none, 0, 0, [], by rw [hc], ⟨Reads.none_, fun r hr => by cases hr⟩, by omega, (fun r hr => by cases hr), (fun r hr => by cases hr)⟩
  · injection hc with hc
    simp only [if_true] at hmm
    have hlm : len ≤ m := by omega
    obtain ⟨R, h1, h2⟩ := ers_of (len := len) (V := V) (p := fun r => Reads w w.heap.size 4 r.a r.n (flatE r.xs) ∧ r.n ≤ 9223372036854775807 ∧ AllSz r.xs) (fun i hi => by
      obtain ⟨A1, n1, c1, xs, e1, e2, e3, e4⟩ := open_recsQ (α := En) (encα := encE) (k := 4) SzE encE_len (by omega) Try.underlying50 (by kernel_rfl) (fun n cs' y hy => dec_ent n cs' y hy) (hx i (by omega)).2
      exact ⟨⟨A1, n1, c1, xs⟩, e1, e2, e3, e4⟩)
    unfold maxLen at hm
    refine ⟨some a, len, cap, R, hc, ⟨?_, fun r hr => (h2 r hr).1⟩, by omega, (fun r hr => (h2 r hr).2.1), (fun r hr => (h2 r hr).2.2)⟩
    rw [h1]
    exact reads_cellsE fun i hi => (hx i (by omega)).1
end
end Go.Proofs.Ythngjbhamgmcgaa
