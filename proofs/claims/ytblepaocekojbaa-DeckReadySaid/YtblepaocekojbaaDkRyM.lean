/-
  Ready in plain terms: how many tasks of a region are done, and what follows from that. Plain lists; no program.
-/
import Derived.Test.YtblepaocekojbaaDkRy
namespace Go.Proofs.Ytblepaocekojbaa
open Go.RowKit Go.Shelf Go.Deep

/-- How many of the first tasks of a region are done. -/
def nIn (num : Nat → Nat) (dn : List Int) : Nat → Nat → Nat
  | 0, _ => 0
  | k + 1, r => if num k = r ∧ hasB dn (k : Int) = true then nIn num dn k r + 1 else nIn num dn k r
/-- How many of the first tasks a region has. -/
def nAll (num : Nat → Nat) : Nat → Nat → Nat
  | 0, _ => 0
  | k + 1, r => if num k = r then nAll num k r + 1 else nAll num k r
theorem nIn_succ (num : Nat → Nat) (dn : List Int) (k r : Nat) : nIn num dn (k + 1) r = if num k = r ∧ hasB dn (k : Int) = true then nIn num dn k r + 1 else nIn num dn k r := rfl
theorem nAll_succ (num : Nat → Nat) (k r : Nat) : nAll num (k + 1) r = if num k = r then nAll num k r + 1 else nAll num k r := rfl
theorem nAll_le (num : Nat → Nat) (k r : Nat) : nAll num k r ≤ k := by
  induction k with
  | zero => exact Nat.le_refl _
  | succ k ih => rw [nAll_succ]; split <;> omega
theorem nIn_le (num : Nat → Nat) (dn : List Int) (k r : Nat) : nIn num dn k r ≤ nAll num k r := by
  induction k with
  | zero => exact Nat.le_refl _
  | succ k ih =>
    rw [nAll_succ, nIn_succ]
    by_cases h : num k = r
    · rw [if_pos h]; split <;> omega
    · rw [if_neg h, if_neg (fun e => h e.1)]; exact ih
theorem nIn_zero (num : Nat → Nat) (dn : List Int) (k r : Nat) : nIn num dn k r = 0 ↔ ∀ i, i < k → num i = r → hasB dn (i : Int) = false := by
  induction k with
  | zero => exact ⟨fun _ i hi => by omega, fun _ => rfl⟩
  | succ k ih =>
    rw [nIn_succ]
    by_cases h : num k = r ∧ hasB dn (k : Int) = true
    · rw [if_pos h]
      refine ⟨fun e => by omega, fun e => ?_⟩
      have := e k (by omega) h.1
      rw [h.2] at this
      exact absurd this (by simp)
    · rw [if_neg h, ih]
      refine ⟨fun e i hi hn => ?_, fun e i hi => e i (by omega)⟩
      by_cases hik : i = k
      · subst hik
        cases hb : hasB dn (i : Int)
        · rfl
        · exact absurd ⟨hn, hb⟩ h
      · exact e i (by omega) hn
theorem nIn_all (num : Nat → Nat) (dn : List Int) (k r : Nat) : nIn num dn k r = nAll num k r ↔ ∀ i, i < k → num i = r → hasB dn (i : Int) = true := by
  induction k with
  | zero => exact ⟨fun _ i hi => by omega, fun _ => rfl⟩
  | succ k ih =>
    have hle := nIn_le num dn k r
    rw [nIn_succ, nAll_succ]
    by_cases h : num k = r
    · rw [if_pos h]
      cases hb : hasB dn (k : Int)
      · rw [if_neg (fun e => absurd e.2 (by simp))]
        refine ⟨fun e => by omega, fun e => ?_⟩
        have := e k (by omega) h
        rw [hb] at this
        exact absurd this (by simp)
      · rw [if_pos ⟨h, rfl⟩]
        have : (nIn num dn k r + 1 = nAll num k r + 1) ↔ nIn num dn k r = nAll num k r := by omega
        rw [this, ih]
        refine ⟨fun e i hi hn => ?_, fun e i hi => e i (by omega)⟩
        by_cases hik : i = k
        · subst hik; exact hb
        · exact e i (by omega) hn
    · rw [if_neg h, if_neg (fun e => h e.1), ih]
      refine ⟨fun e i hi hn => ?_, fun e i hi => e i (by omega)⟩
      by_cases hik : i = k
      · subst hik; exact absurd hn h
      · exact e i (by omega) hn

/-- Whole regions are done exactly if of each region none or all are. -/
theorem whole_iff (g : Gr) (dn : List Int) : whole g dn ↔ ∀ r, r < wvK g → nIn (wvNum g) dn g.n1 r = 0 ∨ nIn (wvNum g) dn g.n1 r = nAll (wvNum g) g.n1 r := by
  have hL := Lab.labs g.es
  constructor
  · intro h r _
    by_cases h0 : nIn (wvNum g) dn g.n1 r = 0
    · exact .inl h0
    · right
      rw [nIn_all]
      intro j hj hjr
      have h0' : ¬ ∀ i, i < g.n1 → wvNum g i = r → hasB dn (i : Int) = false := fun e => h0 ((nIn_zero _ _ _ _).2 e)
      obtain ⟨i, hi⟩ := Classical.not_forall.1 h0'
      simp only [Classical.not_imp, Bool.not_eq_false] at hi
      obtain ⟨hi1, hi2, hi3⟩ := hi
      have he : labs g.es j = labs g.es i := (numOf_eq hL).1 (hjr.trans hi2.symm)
      rw [h j hj, he, ← h i hi1, hi3]
  · intro h i hi
    have hl := hL.le i
    have hn : wvNum g (labs g.es i) = wvNum g i := (numOf_eq hL).2 (hL.idem i)
    rcases h (wvNum g i) (numOf_num hL hi) with h0 | h0
    · rw [nIn_zero] at h0
      rw [h0 i hi rfl, h0 _ (by omega) hn]
    · rw [nIn_all] at h0
      rw [h0 i hi rfl, h0 _ (by omega) hn]

/-- A region can begin, told by counts and by lists of what each region reads. -/
theorem rdy_in {g : Gr} {dn : List Int} (hv : validB g = true) (hw : whole g dn) {Ls : Nat → List Int} (hr : IsRead (wvNum g) g.es Ls) (p : Nat) :
    rdy g dn p = (decide (nIn (wvNum g) dn g.n1 p = 0) && !(Ls p).any (fun x => decide (nIn (wvNum g) dn g.n1 x.toNat = 0))) := by
  have hL := Lab.labs g.es
  have hed : ∀ e ∈ g.es, 0 ≤ e.f ∧ e.f < e.t ∧ e.t < (g.n1 : Int) := fun e he => by
    obtain ⟨k, hk⟩ := List.getElem?_of_mem he
    have := ok_edge hv hk
    exact ⟨this.1, this.2.1, this.2.2.1⟩
  unfold rdy
  have h1 : (List.range g.n1).all (fun i => !(decide (wvNum g i = p) && hasB dn (i : Int))) = decide (nIn (wvNum g) dn g.n1 p = 0) := by
    rw [Bool.eq_iff_iff, decide_eq_true_eq, nIn_zero, List.all_eq_true]
    constructor
    · intro h i hi hp
      have := h i (List.mem_range.2 hi)
      simpa [hp] using this
    · intro h i hi
      by_cases hp : wvNum g i = p
      · simp [hp, h i (List.mem_range.1 hi) hp]
      · simp [hp]
  have h2 : g.es.any (holdL (wvNum g) dn p) = (Ls p).any (fun x => decide (nIn (wvNum g) dn g.n1 x.toNat = 0)) := by
    rw [Bool.eq_iff_iff, List.any_eq_true, List.any_eq_true]
    constructor
    · rintro ⟨e, he, hh⟩
      simp only [holdL, Bool.and_eq_true, decide_eq_true_eq, Bool.not_eq_true'] at hh
      obtain ⟨hs, ht, hf, hb⟩ := hh
      obtain ⟨q1, q2, q3⟩ := hed e he
      refine ⟨((wvNum g e.f.toNat : Nat) : Int), (hr p _).2 ⟨_, rfl, e, he, rfl, ht, hf⟩, ?_⟩
      rw [decide_eq_true_eq, nIn_zero]
      intro i hi hn
      have hn' : wvNum g i = wvNum g e.f.toNat := by simpa using hn
      have hfe : ((e.f.toNat : Nat) : Int) = e.f := by omega
      have e1 := hw i hi
      have e2 := hw e.f.toNat (by omega)
      rw [hfe, hb] at e2
      rw [e1, (numOf_eq hL).1 hn', ← e2]
    · rintro ⟨x, hx, hz⟩
      obtain ⟨a, rfl, e, he, h1, h2, h3⟩ := (hr p x).1 hx
      obtain ⟨q1, q2, q3⟩ := hed e he
      rw [decide_eq_true_eq, nIn_zero] at hz
      have hb := hz e.f.toNat (by omega) (by simpa using h1)
      have hfe : ((e.f.toNat : Nat) : Int) = e.f := by omega
      rw [hfe] at hb
      refine ⟨e, he, ?_⟩
      have hs : e.s = true := by
        cases hs : e.s
        · have := labs_closed he hs
          exact absurd (h1.symm.trans (((numOf_eq hL).2 this).trans h2)) h3
        · rfl
      have hne : wvNum g e.f.toNat ≠ p := fun hc => h3 (h1.symm.trans hc)
      simp [holdL, hs, h2, hne, hb]
  rw [h1, h2]

/-- The error of a graph and one list of tasks. -/
def errR (g : Gr) (dn : List Int) : Int := if validB g && ascB dn then (if dn.any (outT g.n1) then 7 else 0) else 1
theorem errT_one (g : Gr) (A1 : Option Addr) (m1 c1 : Nat) (dn : List Int) : errT g [⟨A1, m1, c1, dn⟩] = errR g dn := by
  simp [errT, errR]
theorem errR_ok {g : Gr} {dn : List Int} (h : errR g dn = 0) : validB g = true ∧ ascB dn = true ∧ dn.any (outT g.n1) = false := by
  unfold errR at h
  by_cases h1 : (validB g && ascB dn) = true
  · rw [if_pos h1] at h
    by_cases h2 : dn.any (outT g.n1) = true
    · rw [if_pos h2] at h; omega
    · simp only [Bool.and_eq_true, Bool.not_eq_true] at h1 h2
      exact ⟨h1.1, h1.2, h2⟩
  · rw [if_neg h1] at h; omega
/-- What Ready answers, of any graph and tasks. -/
def RetRA (g : Gr) (dn : List Int) (w : World) (e : Ending) (w' : World) : Prop := (errR g dn ≠ 0 ∧ RetSlE w 1 0 [] (errR g dn) e w') ∨ (errR g dn = 0 ∧ RetRy g dn w e w')
end Go.Proofs.Ytblepaocekojbaa
