/-
  What Local answers, in plain words: the slots in order, the places used, the old place of each, and where each goes.
-/
import Derived.Test.YtblepaocekojbaaLcA
namespace Go.Proofs.Ytblepaocekojbaa
set_option linter.unusedVariables false

/-- The first s slots of machine m; all slots of the first m machines, in order. -/
def rowS (m s : Nat) : List Pl := (List.range s).map fun (i : Nat) => (⟨(m : Int), (i : Int)⟩ : Pl)
def slotsL (S : Nat → Nat) : Nat → List Pl
  | 0 => []
  | m + 1 => slotsL S m ++ rowS m (S m)
theorem slotsL_succ (S : Nat → Nat) (m : Nat) : slotsL S (m + 1) = slotsL S m ++ rowS m (S m) := rfl
theorem rowS_succ (m s : Nat) : rowS m (s + 1) = rowS m s ++ [⟨(m : Int), (s : Int)⟩] := by
  unfold rowS; rw [List.range_succ, List.map_append]; rfl
theorem rowS_len (m s : Nat) : (rowS m s).length = s := by simp [rowS]
theorem slotsL_len (S : Nat → Nat) (m : Nat) : (slotsL S m).length = offW S m := by
  induction m with
  | zero => rfl
  | succ m ih => rw [slotsL_succ, List.length_append, rowS_len, ih, offW_succ]
theorem rowS_mem {m s : Nat} {p : Pl} : p ∈ rowS m s ↔ ∃ i : Nat, i < s ∧ p = ⟨(m : Int), (i : Int)⟩ := by
  unfold rowS
  rw [List.mem_map]
  constructor
  · rintro ⟨i, hi, rfl⟩; exact ⟨i, List.mem_range.1 hi, rfl⟩
  · rintro ⟨i, hi, rfl⟩; exact ⟨i, List.mem_range.2 hi, rfl⟩
theorem slotsL_mem {S : Nat → Nat} {m : Nat} {p : Pl} : p ∈ slotsL S m ↔ ∃ a i : Nat, a < m ∧ i < S a ∧ p = ⟨(a : Int), (i : Int)⟩ := by
  induction m with
  | zero => exact ⟨fun h => (by cases h), fun ⟨a, _, h, _⟩ => absurd h (Nat.not_lt_zero _)⟩
  | succ m ih =>
    rw [slotsL_succ, List.mem_append, ih, rowS_mem]
    constructor
    · rintro (⟨a, i, h1, h2, h3⟩ | ⟨i, h1, h2⟩)
      · exact ⟨a, i, by omega, h2, h3⟩
      · exact ⟨m, i, by omega, h1, h2⟩
    · rintro ⟨a, i, h1, h2, h3⟩
      by_cases e : a = m
      · subst e; exact .inr ⟨i, h2, h3⟩
      · exact .inl ⟨a, i, by omega, h2, h3⟩
/-- The order of places. -/
def ltPl (p q : Pl) : Prop := p.m < q.m ∨ (p.m = q.m ∧ p.s < q.s)
theorem rowS_asc (m s : Nat) : (rowS m s).Pairwise ltPl := by
  unfold rowS
  rw [List.pairwise_map]
  exact List.pairwise_lt_range.imp fun {a b} h => .inr ⟨rfl, by show (a : Int) < (b : Int); omega⟩
theorem slotsL_asc (S : Nat → Nat) (m : Nat) : (slotsL S m).Pairwise ltPl := by
  induction m with
  | zero => exact List.Pairwise.nil
  | succ m ih =>
    rw [slotsL_succ, List.pairwise_append]
    refine ⟨ih, rowS_asc _ _, fun p hp q hq => ?_⟩
    obtain ⟨a, i, h1, _, rfl⟩ := slotsL_mem.1 hp
    obtain ⟨k, _, rfl⟩ := rowS_mem.1 hq
    exact .inl (by show (a : Int) < (m : Int); omega)
theorem ltPl_irrefl (p : Pl) : ¬ ltPl p p := by unfold ltPl; omega
theorem ltPl_asymm {p q : Pl} (h : ltPl p q) : ¬ ltPl q p := by unfold ltPl at *; omega
theorem asc_nodup {l : List Pl} (h : l.Pairwise ltPl) : l.Nodup := by
  unfold List.Nodup
  exact h.imp fun {a b} (hlt : ltPl a b) (e : a = b) => ltPl_irrefl b (by rw [e] at hlt; exact hlt)
/-- Two ascending lists with the same places are one. -/
theorem asc_one {a b : List Pl} (ha : a.Pairwise ltPl) (hb : b.Pairwise ltPl) (h : ∀ x, x ∈ a ↔ x ∈ b) : a = b :=
  List.Perm.eq_of_pairwise (le := ltPl) (fun x y _ _ h1 h2 => absurd h2 (ltPl_asymm h1)) ha hb (nodup_perm (asc_nodup ha) (asc_nodup hb) h)
/-- The old place of the least of the first k tasks at p that had one. -/
def hadF (old new : Nat → Pl) : Nat → Pl → Option Pl
  | 0, _ => none
  | k + 1, p => match hadF old new k p with
    | some o => some o
    | none => if new k = p ∧ 0 ≤ (old k).m ∧ 0 ≤ (old k).s then some (old k) else none
theorem hadF_succ (old new : Nat → Pl) (k : Nat) (p : Pl) : hadF old new (k + 1) p = match hadF old new k p with
    | some o => some o
    | none => if new k = p ∧ 0 ≤ (old k).m ∧ 0 ≤ (old k).s then some (old k) else none := rfl
/-- The first slot that is not taken. -/
def freeL (sl tk : List Pl) : Pl := (sl.find? fun x => !decide (x ∈ tk)).getD ⟨0, 0⟩
/-- Where p would go; where it goes. -/
def wantF (W : Pl → Bool) (had : Pl → Option Pl) (tk : List Pl) (p : Pl) : Pl := match had p with
  | some o => if W o = true ∧ ¬ o ∈ tk then o else p
  | none => p
def toF (sl : List Pl) (W : Pl → Bool) (had : Pl → Option Pl) (tk : List Pl) (p : Pl) : Pl := if wantF W had tk p ∈ tk then freeL sl tk else wantF W had tk p
/-- Where the places of a list go, one behind the other. -/
def tkOf (sl : List Pl) (W : Pl → Bool) (had : Pl → Option Pl) : List Pl → List Pl → List Pl
  | [], tk => tk
  | p :: us, tk => tkOf sl W had us (tk ++ [toF sl W had tk p])
section
variable {sl : List Pl} {W : Pl → Bool} {had : Pl → Option Pl}
theorem tkOf_snoc (us : List Pl) (p : Pl) : ∀ tk, tkOf sl W had (us ++ [p]) tk = tkOf sl W had us tk ++ [toF sl W had (tkOf sl W had us tk) p] := by
  induction us with
  | nil => intro tk; rfl
  | cons x us ih => intro tk; exact ih _
theorem tkOf_len (us : List Pl) : ∀ tk, (tkOf sl W had us tk).length = tk.length + us.length := by
  induction us with
  | nil => intro tk; rfl
  | cons x us ih => intro tk; rw [tkOf, ih]; simp; omega
theorem tkOf_get_old (us : List Pl) : ∀ (tk : List Pl) (i : Nat), i < tk.length → (tkOf sl W had us tk)[i]? = tk[i]? := by
  induction us with
  | nil => intro tk i _; rfl
  | cons x us ih => intro tk i h; rw [tkOf, ih _ i (by simp; omega), List.getElem?_append_left h]
/-- A list without a place of another is not longer. -/
theorem le_of_sub : ∀ {a b : List Pl}, a.Nodup → (∀ x, x ∈ a → x ∈ b) → a.length ≤ b.length
  | [], _, _, _ => Nat.zero_le _
  | x :: a, b, hn, h => by
    obtain ⟨h1, h2⟩ := List.nodup_cons.1 hn
    have hx := h x List.mem_cons_self
    have h3 : a.length ≤ (b.erase x).length := le_of_sub h2 fun y hy => by
      have hne : y ≠ x := fun e => h1 (e ▸ hy)
      exact (List.mem_erase_of_ne hne).2 (h y (List.mem_cons_of_mem _ hy))
    rw [List.length_erase_of_mem hx] at h3
    have := List.length_pos_of_mem hx
    simp only [List.length_cons]
    omega
/-- While fewer are taken than there are slots, one is free. -/
theorem free_there {tk : List Pl} (hn : sl.Nodup) (h : tk.length < sl.length) : ∃ x, sl.find? (fun x => !decide (x ∈ tk)) = some x := by
  cases hf : sl.find? (fun x => !decide (x ∈ tk)) with
  | some x => exact ⟨x, rfl⟩
  | none =>
    exfalso
    have h1 := List.find?_eq_none.1 hf
    have h2 := le_of_sub hn (b := tk) fun x hx => by
      have := h1 x hx
      simpa using this
    omega
theorem freeL_some {tk : List Pl} {x : Pl} (h : sl.find? (fun x => !decide (x ∈ tk)) = some x) : freeL sl tk = x ∧ x ∉ tk ∧ x ∈ sl := by
  refine ⟨by unfold freeL; rw [h]; rfl, ?_, List.mem_of_find?_eq_some h⟩
  have := List.find?_some h
  simpa using this
/-- A place goes where none is yet. -/
theorem toF_new {tk : List Pl} (hn : sl.Nodup) (h : tk.length < sl.length) (p : Pl) : toF sl W had tk p ∉ tk := by
  unfold toF
  by_cases e : wantF W had tk p ∈ tk
  · rw [if_pos e]
    obtain ⟨x, hx⟩ := free_there hn h
    obtain ⟨h1, h2, _⟩ := freeL_some hx
    rw [h1]; exact h2
  · rw [if_neg e]; exact e
end
end Go.Proofs.Ytblepaocekojbaa
