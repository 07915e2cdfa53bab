/-
  Regions in plain numbers: a label for each task, the least task of its region; the program's roots array carries the same labels.
-/
import Derived.Test.YtblepaocekojbaaDkC
namespace Go.Proofs.Ytblepaocekojbaa

/-- One edge joins two regions, if it is not stored. -/
def relab (L : Nat → Nat) (e : Ed) : Nat → Nat :=
  if e.s then L else fun k => if L k = max (L e.f.toNat) (L e.t.toNat) then min (L e.f.toNat) (L e.t.toNat) else L k
def labs (es : List Ed) : Nat → Nat := es.foldl relab id
theorem labs_snoc (es : List Ed) (e : Ed) : labs (es ++ [e]) = relab (labs es) e := by simp [labs]

/-- Labels are least, and their own. -/
structure Lab (L : Nat → Nat) : Prop where
  le : ∀ k, L k ≤ k
  idem : ∀ k, L (L k) = L k
theorem Lab.id : Lab (fun k => k) := ⟨fun _ => Nat.le_refl _, fun _ => rfl⟩
theorem Lab.relab {L : Nat → Nat} (h : Lab L) (e : Ed) : Lab (relab L e) := by
  unfold Go.Proofs.Ytblepaocekojbaa.relab
  cases e.s
  · simp only [Bool.false_eq_true, if_false]
    obtain ⟨a, ha⟩ : ∃ a, L e.f.toNat = a := ⟨_, rfl⟩
    obtain ⟨b, hb⟩ : ∃ b, L e.t.toNat = b := ⟨_, rfl⟩
    have ia : L a = a := by rw [← ha]; exact h.idem _
    have ib : L b = b := by rw [← hb]; exact h.idem _
    have im : L (min a b) = min a b := by rcases Nat.le_total a b with h1 | h1 <;> simp [h1, ia, ib]
    rw [ha, hb]
    refine ⟨fun k => ?_, fun k => ?_⟩
    · have := h.le k
      by_cases e1 : L k = max a b
      · rw [if_pos e1]; omega
      · rw [if_neg e1]; exact this
    · by_cases e1 : L k = max a b
      · simp only [if_pos e1, im]
        by_cases e2 : min a b = max a b
        · rw [if_pos e2]
        · rw [if_neg e2]
      · simp only [if_neg e1, h.idem k]
  · simpa using h
theorem Lab.labs (es : List Ed) : Lab (labs es) := by
  unfold Go.Proofs.Ytblepaocekojbaa.labs
  suffices h : ∀ L, Lab L → Lab (es.foldl Go.Proofs.Ytblepaocekojbaa.relab L) from h _ Lab.id
  induction es with
  | nil => intro L h; exact h
  | cons e es ih => intro L h; exact ih _ (h.relab e)

/-- The roots array carries the labels. -/
structure Roots (N : Nat) (R L : Nat → Nat) : Prop where
  le : ∀ i, i < N → R i ≤ i
  same : ∀ i, i < N → L (R i) = L i
  top : ∀ i, i < N → (R i = i ↔ L i = i)
theorem Roots.id (N : Nat) : Roots N (fun k => k) (fun k => k) := ⟨fun _ _ => Nat.le_refl _, fun _ _ => rfl, fun _ _ => Iff.rfl⟩
theorem Roots.step {N : Nat} {R L : Nat → Nat} (h : Roots N R L) (hL : Lab L) (e : Ed) (hs : e.s = false) :
    Roots N (fun i => if i = max (L e.f.toNat) (L e.t.toNat) then min (L e.f.toNat) (L e.t.toNat) else R i) (relab L e) := by
  unfold relab
  simp only [hs, Bool.false_eq_true, if_false]
  obtain ⟨a, ha⟩ : ∃ a, L e.f.toNat = a := ⟨_, rfl⟩
  obtain ⟨b, hb⟩ : ∃ b, L e.t.toNat = b := ⟨_, rfl⟩
  have ia : L a = a := by rw [← ha]; exact hL.idem _
  have ib : L b = b := by rw [← hb]; exact hL.idem _
  have im : L (min a b) = min a b := by rcases Nat.le_total a b with h1 | h1 <;> simp [h1, ia, ib]
  have ix : L (max a b) = max a b := by rcases Nat.le_total a b with h1 | h1 <;> simp [h1, ia, ib]
  rw [ha, hb]
  refine ⟨fun i hi => ?_, fun i hi => ?_, fun i hi => ?_⟩
  · by_cases e1 : i = max a b
    · rw [if_pos e1]; omega
    · rw [if_neg e1]; exact h.le i hi
  · by_cases e1 : i = max a b
    · subst e1
      simp only [if_true, im, ix]
      by_cases e2 : min a b = max a b
      · rw [if_pos e2]
      · rw [if_neg e2]
    · simp only [if_neg e1, h.same i hi]
  · by_cases e1 : i = max a b
    · subst e1
      simp only [if_true, ix]
    · simp only [if_neg e1]
      rw [h.top i hi]
      by_cases e2 : L i = max a b
      · rw [if_pos e2]
        constructor
        · intro h1; exact absurd (h1.symm.trans e2) e1
        · intro h1
          have h3 : L i = i := by rw [← h1]; exact im
          exact h3
      · rw [if_neg e2]
theorem relab_stored (L : Nat → Nat) (e : Ed) (hs : e.s = true) : relab L e = L := by simp [relab, hs]
end Go.Proofs.Ytblepaocekojbaa
