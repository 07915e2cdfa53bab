/-
  The texts of values and rows, in plain words.
-/
import Derived.Test.YtiioiajcoiaalaaGreatDoorBgA
import Derived.Lib.Join
import Derived.Lib.ItoaLen
namespace Go.Proofs.YtiioiajcoiaalaaGreatDoor

/-- The digits at base 16. -/
def hexL : List UInt8 := [48, 49, 50, 51, 52, 53, 54, 55, 56, 57, 97, 98, 99, 100, 101, 102]
def hexB (d : Nat) : UInt8 := hexL.getD d 0
/-- A byte within quotes. -/
def qB (c : UInt8) : List UInt8 := if c.toNat = 34 ∨ c.toNat = 92 then [92, c] else if c.toNat = 10 then [92, 110] else if c.toNat < 32 ∨ 126 < c.toNat then [92, 120, hexB (c.toNat / 16), hexB (c.toNat % 16)] else [c]
def quoB (l : List UInt8) : List UInt8 := 34 :: (l.flatMap qB ++ [34])
/-- A value's text; a row's. -/
def valT (v : Val) : List UInt8 := if v.k = 1 then Lib.itoa v.n else if v.k = 2 then quoB v.s.data.toList else [126]
def rowT (r : Rw) : List UInt8 := if okR r = true then Lib.join (r.map valT) [44] else []
theorem qB_len (c : UInt8) : (qB c).length ≤ 4 := by
  unfold qB
  split
  · simp
  · split
    · simp
    · split <;> simp
theorem flat_qB_len (l : List UInt8) : (l.flatMap qB).length ≤ 4 * l.length := by
  induction l with
  | nil => simp
  | cons c l ih =>
    have := qB_len c
    simp only [List.flatMap_cons, List.length_append, List.length_cons]
    omega
theorem quoB_len (l : List UInt8) : (quoB l).length ≤ 4 * l.length + 2 := by
  have := flat_qB_len l
  unfold quoB
  simp only [List.length_cons, List.length_append, List.length_nil]
  omega
theorem okV_cases {v : Val} (h : okV v = true) : (v.k = 0 ∧ v.n = 0 ∧ v.s.size = 0) ∨ (v.k = 1 ∧ v.s.size = 0 ∧ -1000000000000000 ≤ v.n ∧ v.n ≤ 1000000000000000) ∨ (v.k = 2 ∧ v.n = 0 ∧ v.s.size ≤ 200) := by
  unfold okV at h
  simp only [Bool.or_eq_true, Bool.and_eq_true, beq_iff_eq, decide_eq_true_eq] at h
  rcases h with (h | h) | h
  · exact .inl ⟨h.1.1, h.1.2, h.2⟩
  · exact .inr (.inl ⟨h.1.1.1, h.1.1.2, h.1.2, h.2⟩)
  · exact .inr (.inr ⟨h.1.1, h.1.2, h.2⟩)
theorem valT_len {v : Val} (h : okV v = true) : (valT v).length ≤ 802 := by
  unfold valT
  rcases okV_cases h with ⟨h0, _, _⟩ | ⟨h1, _, h2, h3⟩ | ⟨h1, _, h2⟩
  · simp [h0]
  · rw [if_pos h1]
    exact Nat.le_trans (Lib.itoa_length_le v.n (by omega) (by omega)) (by omega)
  · rw [if_neg (by omega), if_pos h1]
    have h3 := quoB_len v.s.data.toList
    have h4 : v.s.data.toList.length = v.s.size := rfl
    omega
theorem join_snoc (l : List (List UInt8)) (x sep : List UInt8) : Lib.join (l ++ [x]) sep = if l = [] then x else Lib.join l sep ++ sep ++ x := by
  cases l with
  | nil => simp [Lib.join_one]
  | cons y l =>
    rw [if_neg (by simp), List.cons_append, Lib.join_cons, Lib.join_cons]
    simp [Lib.joinTail]
theorem join_len_le {l : List (List UInt8)} {M : Nat} (h : ∀ x ∈ l, x.length ≤ M) : (Lib.join l [44]).length ≤ l.length * (M + 1) := by
  cases l with
  | nil => simp [Lib.join_nil]
  | cons x l =>
    rw [Lib.join_length]
    have h2 : Lib.lens (x :: l) ≤ (x :: l).length * M := by
      revert h
      generalize x :: l = m
      intro h
      induction m with
      | nil => simp [Lib.lens]
      | cons y m ih =>
        have h1 := h y List.mem_cons_self
        have h3 := ih fun z hz => h z (List.mem_cons_of_mem _ hz)
        simp only [Lib.lens, List.map_cons, List.sum_cons, List.length_cons] at h3 ⊢
        rw [Nat.add_mul]
        omega
    simp only [List.length_cons, List.length_nil] at h2 ⊢
    have h4 : (l.length + 1) * (M + 1) = (l.length + 1) * M + (l.length + 1) := by rw [Nat.mul_add, Nat.mul_one]
    omega
theorem okR_len {r : Rw} (h : okR r = true) : r.length ≤ 8 := by
  unfold okR at h
  rw [Bool.and_eq_true, decide_eq_true_eq] at h
  exact h.2
theorem okR_mem {r : Rw} (h : okR r = true) {v : Val} (hv : v ∈ r) : okV v = true := List.all_eq_true.1 (okR_all h) v hv
theorem part_len {r : Rw} (h : okR r = true) (k : Nat) : (Lib.join ((r.take k).map valT) [44]).length ≤ 6424 := by
  have h1 := join_len_le (l := (r.take k).map valT) (M := 802) fun x hx => by
    rw [List.mem_map] at hx
    obtain ⟨v, hv, rfl⟩ := hx
    exact valT_len (okR_mem h (List.mem_of_mem_take hv))
  have h2 := okR_len h
  rw [List.length_map, List.length_take] at h1
  have h3 : min k r.length ≤ 8 := by omega
  have h4 := Nat.mul_le_mul_right 803 h3
  exact Nat.le_trans h1 h4
theorem rowT_len (r : Rw) : (rowT r).length ≤ 6424 := by
  unfold rowT
  split
  · rename_i h
    have := part_len h r.length
    rwa [List.take_length] at this
  · simp
end Go.Proofs.YtiioiajcoiaalaaGreatDoor
