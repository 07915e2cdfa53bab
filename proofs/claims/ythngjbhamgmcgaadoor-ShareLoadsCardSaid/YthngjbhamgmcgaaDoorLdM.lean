/-
  Loads of parts, in plain numbers.
-/
import Derived.Test.YthngjbhamgmcgaaDoorShQ
namespace Go.Proofs.YthngjbhamgmcgaaDoor

/-- A key's part. -/
def ofN (p G : Int) (s : ByteArray) : Nat := (grpN s G * p / G).toNat
theorem ofN_spec {p G : Int} (h : rightB p G = true) (s : ByteArray) : grpN s G * p / G = ((ofN p G s : Nat) : Int) ∧ (ofN p G s : Int) < p := by
  have h0 := (rightB_iff p G).1 h
  have hb := grpN_b s G h0.2.2.1
  have h1 : 0 ≤ grpN s G * p / G := Int.ediv_nonneg (Int.mul_nonneg hb.1 (by omega)) (by omega)
  have h2 : grpN s G * p / G < p := by
    apply Int.ediv_lt_of_lt_mul (by omega)
    rw [Int.mul_comm p G]
    exact Int.mul_lt_mul_of_pos_right hb.2 (by omega)
  unfold ofN
  omega
theorem ofE_yes {p G : Int} (h : rightB p G = true) (s : ByteArray) : ofE s p G = (((ofN p G s : Nat) : Int), 0) := by
  unfold ofE
  rw [if_pos h, (ofN_spec h s).1]
/-- How many keys a part has. -/
def ldN (f : ByteArray → Nat) (xs : List ByteArray) (j : Nat) : Nat := xs.countP fun s => f s == j
theorem ldN_nil (f : ByteArray → Nat) (j : Nat) : ldN f [] j = 0 := rfl
theorem ldN_snoc (f : ByteArray → Nat) (xs : List ByteArray) (x : ByteArray) (j : Nat) : ldN f (xs ++ [x]) j = if j = f x then ldN f xs j + 1 else ldN f xs j := by
  unfold ldN
  rw [List.countP_append]
  by_cases h : j = f x
  · subst h; simp
  · have h2 : (f x == j) = false := by simp; exact fun e => h e.symm
    rw [if_neg h]
    simp [h2]
theorem ldN_le (f : ByteArray → Nat) (xs : List ByteArray) (j : Nat) : ldN f xs j ≤ xs.length := List.countP_le_length
theorem ldN_far {f : ByteArray → Nat} {xs : List ByteArray} {p j : Nat} (h : ∀ s, f s < p) (hj : p ≤ j) : ldN f xs j = 0 := by
  unfold ldN
  rw [List.countP_eq_zero]
  intro s _
  have := h s
  simp
  omega
/-- Sums and greatest values of the first n. -/
def smN (g : Nat → Nat) : Nat → Nat
  | 0 => 0
  | k + 1 => smN g k + g k
theorem smN_succ (g : Nat → Nat) (k : Nat) : smN g (k + 1) = smN g k + g k := rfl
theorem smN_add (g h : Nat → Nat) (n : Nat) : smN (fun j => g j + h j) n = smN g n + smN h n := by
  induction n with
  | zero => rfl
  | succ n ih => simp only [smN_succ, ih]; omega
theorem smN_zero (n : Nat) : smN (fun _ => 0) n = 0 := by
  induction n with
  | zero => rfl
  | succ n ih => rw [smN_succ, ih]
theorem smN_congr {g h : Nat → Nat} {n : Nat} (H : ∀ j, j < n → g j = h j) : smN g n = smN h n := by
  induction n with
  | zero => rfl
  | succ n ih => rw [smN_succ, smN_succ, ih fun j hj => H j (by omega), H n (by omega)]
theorem smN_one {a n : Nat} (h : a < n) : smN (fun j => if a = j then 1 else 0) n = 1 := by
  induction n with
  | zero => omega
  | succ n ih =>
    rw [smN_succ]
    by_cases e : a = n
    · subst e
      rw [if_pos rfl, smN_congr (h := fun _ => 0) fun j hj => if_neg (by omega), smN_zero]
    · rw [if_neg e, ih (by omega)]
theorem smN_ld {f : ByteArray → Nat} {p : Nat} (h : ∀ s, f s < p) (xs : List ByteArray) : smN (ldN f xs) p = xs.length := by
  induction xs with
  | nil => exact (smN_congr (h := fun _ => 0) fun _ _ => rfl).trans (smN_zero p)
  | cons x xs ih =>
    have h1 : ∀ j, ldN f (x :: xs) j = ldN f xs j + (if f x = j then 1 else 0) := by
      intro j
      unfold ldN
      rw [List.countP_cons]
      by_cases e : f x = j
      · simp [e]
      · simp [e]
    rw [smN_congr fun j _ => h1 j, smN_add, ih, smN_one (h x), List.length_cons]
theorem smN_le {f : ByteArray → Nat} {p k : Nat} (h : ∀ s, f s < p) (xs : List ByteArray) (hk : k ≤ p) : smN (ldN f xs) k ≤ xs.length := by
  have h2 : ∀ d, smN (ldN f xs) k ≤ smN (ldN f xs) (k + d) := by
    intro d
    induction d with
    | zero => exact Nat.le_refl _
    | succ d ih => exact Nat.le_trans ih (by rw [← Nat.add_assoc, smN_succ]; omega)
  have h3 := h2 (p - k)
  rw [show k + (p - k) = p by omega, smN_ld h] at h3
  exact h3
def mxF (g : Nat → Nat) : Nat → Nat
  | 0 => 0
  | k + 1 => max (mxF g k) (g k)
theorem mxF_succ (g : Nat → Nat) (k : Nat) : mxF g (k + 1) = max (mxF g k) (g k) := rfl
theorem mxF_far {g : Nat → Nat} {p : Nat} (h : ∀ j, p ≤ j → g j = 0) (d : Nat) : mxF g (p + d) = mxF g p := by
  induction d with
  | zero => rfl
  | succ d ih => rw [← Nat.add_assoc, mxF_succ, ih, h _ (by omega)]; omega
theorem mxF_le {g : Nat → Nat} {M : Nat} (h : ∀ j, g j ≤ M) (n : Nat) : mxF g n ≤ M := by
  induction n with
  | zero => exact Nat.zero_le _
  | succ n ih => have := h n; rw [mxF_succ]; omega
/-- The greatest load at so many parts. -/
def mxP (G : Int) (xs : List ByteArray) (p : Nat) : Nat := mxF (ldN (ofN (p : Int) G) xs) p
theorem mxP_le (G : Int) (xs : List ByteArray) (p : Nat) : mxP G xs p ≤ xs.length := mxF_le (fun j => ldN_le _ _ j) _
theorem ofN_lt {p : Nat} {G : Int} (h : rightB p G = true) (s : ByteArray) : ofN (p : Int) G s < p := by have := (ofN_spec h s).2; omega
theorem mxP_16 {G : Int} {p : Nat} (h : rightB p G = true) (hp : p ≤ 16) (xs : List ByteArray) : mxF (ldN (ofN (p : Int) G) xs) 16 = mxP G xs p := by
  have h1 := mxF_far (g := ldN (ofN (p : Int) G) xs) (p := p) (fun j hj => ldN_far (fun s => ofN_lt h s) hj) (16 - p)
  rw [show p + (16 - p) = 16 by omega] at h1
  exact h1
/-- The best number of parts of the first k, and its load. -/
def bstP (G : Int) (xs : List ByteArray) : Nat → Nat × Nat
  | 0 => (0, xs.length + 1)
  | k + 1 => if mxP G xs (k + 1) < (bstP G xs k).2 then (k + 1, mxP G xs (k + 1)) else bstP G xs k
theorem bstP_succ (G : Int) (xs : List ByteArray) (k : Nat) : bstP G xs (k + 1) = if mxP G xs (k + 1) < (bstP G xs k).2 then (k + 1, mxP G xs (k + 1)) else bstP G xs k := rfl
theorem bstP_le (G : Int) (xs : List ByteArray) (k : Nat) : (bstP G xs k).1 ≤ k ∧ (bstP G xs k).2 ≤ xs.length + 1 := by
  induction k with
  | zero => exact ⟨Nat.le_refl _, Nat.le_refl _⟩
  | succ k ih =>
    rw [bstP_succ]
    split
    · exact ⟨Nat.le_refl _, by have := mxP_le G xs (k + 1); show mxP G xs (k + 1) ≤ _; omega⟩
    · exact ⟨by omega, ih.2⟩
theorem bstP_pos (G : Int) (xs : List ByteArray) {k : Nat} (h : 1 ≤ k) : 1 ≤ (bstP G xs k).1 := by
  induction k with
  | zero => omega
  | succ k ih =>
    rw [bstP_succ]
    split
    · show 1 ≤ k + 1; omega
    · rename_i hn
      by_cases e : k = 0
      · subst e
        have := mxP_le G xs 1
        have h2 : (bstP G xs 0).2 = xs.length + 1 := rfl
        rw [h2] at hn
        simp only [Nat.zero_add] at hn
        omega
      · exact ih (by omega)
/-- What Least answers. -/
def lstP (G : Int) (xs : List ByteArray) : Nat := if 1 ≤ G ∧ G ≤ 128 then (bstP G xs (min G.toNat 16)).1 else 0
def lstE (G : Int) : Int := if 1 ≤ G ∧ G ≤ 128 then 0 else 7
/-- What Load answers. -/
def lodL (p G : Int) (xs : List ByteArray) : List Nat := if rightB p G = true then (List.range p.toNat).map (ldN (ofN p G) xs) else []
def lodE (p G : Int) : Int := if rightB p G = true then 0 else 7
/-- Keys as short as the law looks at. -/
def Kok (xs : List ByteArray) : Prop := xs.length ≤ 60 ∧ ∀ s ∈ xs, s.size ≤ 200
end Go.Proofs.YthngjbhamgmcgaaDoor
