/-
  The plain law of windows: which specs are valid, which windows a time lies in. No Go in sight.
-/
import Derived.Test.YtehifbogadohgaaDoorMem
namespace Go.Proofs.YtehifbogadohgaaDoor

/-- A spec is valid: its kind, size, step, gap and shift. -/
def vspec (k z p g h : Int) : Bool :=
  decide ((k = 1 ∧ 1 ≤ z ∧ z ≤ 1000000000 ∧ 0 ≤ h ∧ h ≤ z - 1 ∧ p = 0 ∧ g = 0) ∨
    (k = 2 ∧ 1 ≤ z ∧ z ≤ 1000000000 ∧ 1 ≤ p ∧ p ≤ z ∧ z ≤ 50 * p ∧ 0 ≤ h ∧ h ≤ p - 1 ∧ g = 0) ∨
    (k = 3 ∧ 1 ≤ g ∧ g ≤ 1000000000 ∧ z = 0 ∧ p = 0 ∧ h = 0) ∨
    (k = 4 ∧ z = 0 ∧ p = 0 ∧ g = 0 ∧ h = 0))
def vtime (t : Int) : Bool := decide (-1000000000000 ≤ t ∧ t ≤ 1000000000000)
/-- The step of a spec. -/
def stepOf (k z p : Int) : Int := if k = 1 then z else p
/-- The first beginning above t - size. -/
def from0 (z b h t : Int) : Int := ((t - z - h) / b + 1) * b + h
/-- n windows from a beginning on. -/
def winsFrom (a b z : Int) (n : Nat) : List (Int × Int) := (List.range n).map fun (i : Nat) => (a + (i : Int) * b, a + (i : Int) * b + z)
/-- How many beginnings lie in a .. t. -/
def count (a b t : Int) : Nat := ((t - a) / b + 1).toNat
/-- The windows of a time. -/
def wins (k z p g h t : Int) : List (Int × Int) :=
  if k = 3 then [(t, t + g)] else if k = 4 then [(-1000000000000, 1000000000001)]
  else winsFrom (from0 z (stepOf k z p) h t) (stepOf k z p) z (count (from0 z (stepOf k z p) h t) (stepOf k z p) t)

theorem winsFrom_length (a b z : Int) (n : Nat) : (winsFrom a b z n).length = n := by simp [winsFrom]
theorem winsFrom_snoc (a b z : Int) (n : Nat) : winsFrom a b z (n + 1) = winsFrom a b z n ++ [(a + n * b, a + n * b + z)] := by simp [winsFrom, List.range_succ]
theorem winsFrom_get (a b z : Int) (n i : Nat) (h : i < n) : (winsFrom a b z n)[i]? = some (a + i * b, a + i * b + z) := by simp [winsFrom, h]
theorem winsFrom_cons (a b z : Int) (n : Nat) : winsFrom a b z (n + 1) = (a, a + z) :: winsFrom (a + b) b z n := by
  unfold winsFrom
  rw [List.range_succ_eq_map, List.map_cons, List.map_map]
  refine List.cons_eq_cons.2 ⟨by simp, List.map_congr_left fun i _ => ?_⟩
  have e : a + ((i + 1 : Nat) : Int) * b = a + b + (i : Int) * b := by rw [Int.natCast_add, Int.add_mul]; omega
  simp only [Function.comp]
  rw [e]

/-- What a valid stepped spec's numbers keep to. -/
structure Stp (z b h : Int) : Prop where
  b1 : 1 ≤ b
  bz : b ≤ z
  z1 : z ≤ 1000000000
  h0 : 0 ≤ h
  hb : h ≤ b - 1
  zb : z ≤ 50 * b

theorem stp_of (k z p g h : Int) (hv : vspec k z p g h = true) (hk : k = 1 ∨ k = 2) : Stp z (stepOf k z p) h := by
  unfold vspec at hv
  rw [decide_eq_true_eq] at hv
  unfold stepOf
  rcases hk with rfl | rfl
  · rcases hv with hv | hv | hv | hv
    · simp only [if_true]; exact ⟨by omega, by omega, by omega, by omega, by omega, by omega⟩
    all_goals (exfalso; omega)
  · rcases hv with hv | hv | hv | hv
    · exfalso; omega
    · rw [if_neg (by omega)]; exact ⟨by omega, by omega, by omega, by omega, by omega, by omega⟩
    all_goals (exfalso; omega)

/-- Where the first beginning lies. -/
theorem from0_bd {z b h t : Int} (s : Stp z b h) : t - z < from0 z b h t ∧ from0 z b h t ≤ t - z + b := by
  have hb := s.b1
  have e := Int.mul_ediv_add_emod (t - z - h) b
  have m0 := Int.emod_nonneg (t - z - h) (show b ≠ 0 by omega)
  have m1 := Int.emod_lt_of_pos (t - z - h) (show 0 < b by omega)
  have e2 : ((t - z - h) / b + 1) * b = b * ((t - z - h) / b) + b := by rw [Int.add_mul, Int.mul_comm]; omega
  unfold from0
  rw [e2]
  omega

theorem count_bd {a b t : Int} (hb : 1 ≤ b) (ha : a ≤ t) (i : Nat) : i < count a b t ↔ a + i * b ≤ t := by
  have e := Int.mul_ediv_add_emod (t - a) b
  have m0 := Int.emod_nonneg (t - a) (show b ≠ 0 by omega)
  have m1 := Int.emod_lt_of_pos (t - a) (show 0 < b by omega)
  have q0 : 0 ≤ (t - a) / b := Int.ediv_nonneg (by omega) (by omega)
  unfold count
  generalize hq : (t - a) / b = q at *
  constructor
  · intro h
    have h1 : (i : Int) ≤ q := by omega
    have h2 : (i : Int) * b ≤ q * b := Int.mul_le_mul_of_nonneg_right h1 (by omega)
    rw [Int.mul_comm q b] at h2
    omega
  · intro h
    rcases Nat.lt_or_ge i (q + 1).toNat with h1 | h1
    · exact h1
    · have h2 : (q + 1) * b ≤ (i : Int) * b := Int.mul_le_mul_of_nonneg_right (by omega) (by omega)
      rw [Int.add_mul, Int.mul_comm q b] at h2
      omega

theorem count_small {a b t : Int} (hb : 1 ≤ b) (ha : a ≤ t) {m : Nat} (h : t < a + m * b) : count a b t ≤ m := by
  rcases Nat.lt_or_ge m (count a b t) with h1 | h1
  · have := (count_bd hb ha m).1 h1; omega
  · exact h1
end Go.Proofs.YtehifbogadohgaaDoor
