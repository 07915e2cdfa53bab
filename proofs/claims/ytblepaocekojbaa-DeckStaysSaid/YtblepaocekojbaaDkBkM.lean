/-
  What goes back, in plain sets of regions: the least set that holds the seeds and is closed; a search that goes deep, and rounds that go on until nothing turns, both find it. Plain theorems; no condition.
-/
import Derived.Test.YtblepaocekojbaaDkRows
namespace Go.Proofs.Ytblepaocekojbaa

/-- One step back: from region x to region y. -/
def Nx (of : Nat → Nat) (es : List Ed) (gone : List Int) (x y : Nat) : Prop :=
  ∃ e ∈ es, e.s = true ∧ ((of e.f.toNat = x ∧ of e.t.toNat = y) ∨ (of e.t.toNat = x ∧ of e.f.toNat = y ∧ hasB gone e.f = true))
def Cls (N : Nat → Nat → Prop) (P : Nat → Prop) : Prop := ∀ x y, P x → N x y → P y
/-- The least closed set that holds the seeds. -/
def Lst (N : Nat → Nat → Prop) (seed : Nat → Prop) (x : Nat) : Prop := ∀ P : Nat → Prop, Cls N P → (∀ r, seed r → P r) → P x
theorem Lst.seed {N : Nat → Nat → Prop} {seed : Nat → Prop} {r : Nat} (h : seed r) : Lst N seed r := fun _ _ hs => hs r h
theorem Lst.cls (N : Nat → Nat → Prop) (seed : Nat → Prop) : Cls N (Lst N seed) := fun x y hx hn P hc hs => hc x y (hx P hc hs) hn

/-- What a search from r makes of the set S. -/
structure Went (N : Nat → Nat → Prop) (r : Nat) (S T : Nat → Bool) : Prop where
  mono : ∀ x, S x = true → T x = true
  has : T r = true
  shut : ∀ x, T x = true → S x = false → ∀ y, N x y → T y = true
  least : ∀ P : Nat → Prop, Cls N P → P r → (∀ x, S x = true → P x) → ∀ x, T x = true → P x
theorem Went.same {N : Nat → Nat → Prop} {r : Nat} {S : Nat → Bool} (h : S r = true) : Went N r S S :=
  ⟨fun _ h => h, h, fun x h1 h2 => absurd (h1.symm.trans h2) (by simp), fun _ _ _ h => h⟩

def put (S : Nat → Bool) (r : Nat) : Nat → Bool := fun j => if j = r then true else S j
theorem put_true {S : Nat → Bool} {r x : Nat} : put S r x = true ↔ x = r ∨ S x = true := by
  unfold put
  by_cases h : x = r
  · simp [h]
  · simp [h]

/-- In the search from r, behind k edges. -/
structure Mid (of : Nat → Nat) (es : List Ed) (gone : List Int) (r : Nat) (S : Nat → Bool) (k : Nat) (T : Nat → Bool) : Prop where
  mono : ∀ x, put S r x = true → T x = true
  shut : ∀ x, T x = true → put S r x = false → ∀ y, Nx of es gone x y → T y = true
  out : ∀ e ∈ es.take k, e.s = true → (of e.f.toNat = r → T (of e.t.toNat) = true) ∧ (of e.t.toNat = r → hasB gone e.f = true → T (of e.f.toNat) = true)
  least : ∀ P : Nat → Prop, Cls (Nx of es gone) P → P r → (∀ x, S x = true → P x) → ∀ x, T x = true → P x
section
variable {of : Nat → Nat} {es : List Ed} {gone : List Int} {r : Nat} {S T T' : Nat → Bool} {k : Nat}
theorem Mid.start (of : Nat → Nat) (es : List Ed) (gone : List Int) (r : Nat) (S : Nat → Bool) : Mid of es gone r S 0 (put S r) :=
  ⟨fun _ h => h, fun x h1 h2 => absurd (h1.symm.trans h2) (by simp), by simp, fun P _ hr hs x hx => by
    rcases put_true.1 hx with rfl | h
    · exact hr
    · exact hs x h⟩
theorem Mid.went (h : Mid of es gone r S k T) {r' : Nat} (hn : Nx of es gone r r') (hw : Went (Nx of es gone) r' T T') : Mid of es gone r S k T' :=
  ⟨fun x hx => hw.mono x (h.mono x hx), fun x h1 h2 y hy => by
    cases ht : T x
    · exact hw.shut x h1 ht y hy
    · exact hw.mono y (h.shut x ht h2 y hy), fun e he hs => ⟨fun h1 => hw.mono _ ((h.out e he hs).1 h1), fun h1 h2 => hw.mono _ ((h.out e he hs).2 h1 h2)⟩,
   fun P hc hr hs x hx => hw.least P hc (hc r r' hr hn) (h.least P hc hr hs) x hx⟩
theorem Mid.next (h : Mid of es gone r S k T) {e : Ed} (he : es[k]? = some e) (hs : e.s = true → (of e.f.toNat = r → T (of e.t.toNat) = true) ∧ (of e.t.toNat = r → hasB gone e.f = true → T (of e.f.toNat) = true)) :
    Mid of es gone r S (k + 1) T :=
  ⟨h.mono, h.shut, fun e' he' hs' => by
    rw [take_snoc' he, List.mem_append] at he'
    rcases he' with he' | he'
    · exact h.out e' he' hs'
    · obtain rfl : e' = e := by simpa using he'
      exact hs hs', h.least⟩
theorem Mid.done (h : Mid of es gone r S k T) (hk : es.length ≤ k) (hr : S r = false) : Went (Nx of es gone) r S T :=
  ⟨fun x hx => h.mono x (put_true.2 (.inr hx)), h.mono r (put_true.2 (.inl rfl)), fun x h1 h2 y hy => by
    by_cases e : x = r
    · subst e
      obtain ⟨e, he, hs, h3⟩ := hy
      have ho := h.out e (by rwa [List.take_of_length_le hk]) hs
      rcases h3 with ⟨h3, rfl⟩ | ⟨h3, rfl, h4⟩
      · exact ho.1 h3
      · exact ho.2 h3 h4
    · exact h.shut x h1 (by unfold put; rw [if_neg e]; exact h2) y hy, h.least⟩
end

/-- How many of n regions are not in the set. -/
def cnt (n : Nat) (S : Nat → Bool) : Nat := (List.range n).countP fun x => !S x
theorem cnt_mono {n : Nat} {S T : Nat → Bool} (h : ∀ x, S x = true → T x = true) : cnt n T ≤ cnt n S := by
  unfold cnt
  apply List.countP_mono_left
  intro x _ hx
  cases hs : S x
  · rfl
  · rw [h x hs] at hx; cases hx
theorem cnt_le (n : Nat) (S : Nat → Bool) : cnt n S ≤ n := by
  unfold cnt
  exact Nat.le_trans List.countP_le_length (by simp)
theorem cnt_put {n r : Nat} {S : Nat → Bool} (hr : r < n) (h : S r = false) : cnt n (put S r) + 1 ≤ cnt n S := by
  unfold cnt
  obtain ⟨l1, l2, hl⟩ := List.append_of_mem (List.mem_range.2 hr)
  rw [hl, List.countP_append, List.countP_append, List.countP_cons, List.countP_cons]
  have e1 : (!S r) = true := by rw [h]; rfl
  have e2 : ¬ ((!put S r r) = true) := by rw [put_true.2 (.inl rfl)]; simp
  rw [if_pos e1, if_neg e2]
  have m : ∀ l : List Nat, l.countP (fun x => !put S r x) ≤ l.countP (fun x => !S x) := fun l => List.countP_mono_left fun x _ hx => by
    cases hs : S x
    · rfl
    · rw [put_true.2 (.inr hs)] at hx; cases hx
  have m1 := m l1
  have m2 := m l2
  omega
theorem cnt_pos {n r : Nat} {S : Nat → Bool} (hr : r < n) (h : S r = false) : 1 ≤ cnt n S := by have := cnt_put hr h; omega
end Go.Proofs.Ytblepaocekojbaa
