/-
  The plain law of a time's windows: each contains the time, they ascend, and there are as many as the size has steps. No Go in sight.
-/
import Derived.Test.YtehifbogadohgaaCkCont
import Derived.Test.YtehifbogadohgaaCkAt
namespace Go.Proofs.Ytehifbogadohgaa

theorem winsFrom_mem {a b z : Int} {n i : Nat} {x : Int × Int} (h : (winsFrom a b z n)[i]? = some x) : i < n ∧ x = (a + i * b, a + i * b + z) := by
  have hi : i < n := by
    have := (List.getElem?_eq_some_iff.1 h).1
    rwa [winsFrom_length] at this
  rw [winsFrom_get a b z n i hi] at h
  exact ⟨hi, (Option.some.inj h).symm⟩

theorem wins_cont (k z p g h t : Int) (hv : vspec k z p g h = true) (ht : vtime t = true) (i : Nat) (x : Int × Int) (hx : (wins k z p g h t)[i]? = some x) : cont x.1 x.2 t = true := by
  have htb : -1000000000000 ≤ t ∧ t ≤ 1000000000000 := by simpa [vtime] using ht
  have hv' := hv
  unfold vspec at hv'
  rw [decide_eq_true_eq] at hv'
  have key : x.1 < x.2 ∧ -2000000000000 ≤ x.1 ∧ x.1 ≤ t ∧ t ≤ x.2 - 1 ∧ x.2 ≤ 2000000000000 := by
    by_cases h3 : k = 3
    · simp only [wins, h3, if_true] at hx
      obtain rfl : i = 0 := by
        have := (List.getElem?_eq_some_iff.1 hx).1; simp at this; exact this
      simp at hx; subst hx; simp only; omega
    by_cases h4 : k = 4
    · simp only [wins, h4] at hx
      obtain rfl : i = 0 := by
        have := (List.getElem?_eq_some_iff.1 hx).1; simp at this; exact this
      simp at hx; subst hx; simp only; omega
    have hs := stp_of k z p g h hv (by omega)
    simp only [wins, h3, h4, if_false] at hx
    obtain ⟨hi, rfl⟩ := winsFrom_mem hx
    obtain ⟨f1, f2⟩ := from0_bd (t := t) hs
    have hc := (count_bd hs.b1 (by have := hs.bz; omega) i).1 hi
    have h0 : 0 ≤ (i : Int) * stepOf k z p := Int.mul_nonneg (by omega) (by have := hs.b1; omega)
    have := hs.b1; have := hs.bz; have := hs.z1
    simp only
    omega
  have hvw : vwin x.1 x.2 = true := by unfold vwin; rw [decide_eq_true_eq]; omega
  have hin : inB t x.1 (x.2 - 1) = true := (inB_iff _ _ _).2 (by omega)
  simp [cont, hvw, ht, hin]

theorem wins_asc (k z p g h t : Int) (hv : vspec k z p g h = true) (i : Nat) (x y : Int × Int) (hx : (wins k z p g h t)[i]? = some x) (hy : (wins k z p g h t)[i + 1]? = some y) : cmpW x.1 x.2 y.1 y.2 = -1 := by
  have hv' := hv
  unfold vspec at hv'
  rw [decide_eq_true_eq] at hv'
  by_cases h3 : k = 3
  · simp [wins, h3] at hy
  by_cases h4 : k = 4
  · simp [wins, h4] at hy
  have hs := stp_of k z p g h hv (by omega)
  simp only [wins, h3, h4, if_false] at hx hy
  obtain ⟨hi, rfl⟩ := winsFrom_mem hx
  obtain ⟨hj, rfl⟩ := winsFrom_mem hy
  have e : ((i + 1 : Nat) : Int) * stepOf k z p = (i : Int) * stepOf k z p + stepOf k z p := by rw [Int.natCast_add, Int.add_mul]; omega
  unfold cmpW
  simp only
  rw [e, cmpI_lt (by have := hs.b1; omega)]
  rfl

theorem wins_num (k z p g h t : Int) (hv : vspec k z p g h = true) (hk : k = 2) : ((wins k z p g h t).length : Int) = z / p ∨ ((wins k z p g h t).length : Int) = (z + p - 1) / p := by
  subst hk
  have hs := stp_of 2 z p g h hv (by omega)
  have e : wins 2 z p g h t = winsFrom (from0 z p h t) p z (count (from0 z p h t) p t) := by simp [wins, stepOf]
  have es : stepOf 2 z p = p := by simp [stepOf]
  rw [es] at hs
  rw [e, winsFrom_length]
  obtain ⟨f1, f2⟩ := from0_bd (t := t) hs
  have hb := hs.b1
  have hz := hs.bz
  obtain ⟨a, ha⟩ : ∃ a, from0 z p h t = a := ⟨_, rfl⟩
  rw [ha] at f1 f2 ⊢
  have hcb := fun i => count_bd (b := p) (a := a) (t := t) hb (by omega) i
  obtain ⟨c, hc⟩ : ∃ c, count a p t = c := ⟨_, rfl⟩
  rw [hc]
  simp only [hc] at hcb
  have hc0 : 0 < c := (hcb 0).2 (by omega)
  have l1 := (hcb (c - 1)).1 (by omega)
  have l2 : t < a + (c : Int) * p := by
    have := mt (hcb c).2 (by omega); omega
  have e1 : ((c - 1 : Nat) : Int) = (c : Int) - 1 := by omega
  rw [e1, Int.sub_mul] at l1
  by_cases hcz : (c : Int) * p ≤ z
  · left
    have := (Int.ediv_emod_unique (show 0 < p by omega) (a := z) (q := c) (r := z - (c : Int) * p)).2 ⟨by rw [Int.mul_comm]; omega, by omega, by omega⟩
    exact this.1.symm
  · right
    have := (Int.ediv_emod_unique (show 0 < p by omega) (a := z + p - 1) (q := c) (r := z + p - 1 - (c : Int) * p)).2 ⟨by rw [Int.mul_comm]; omega, by omega, by omega⟩
    exact this.1.symm

theorem wins_one (k z p g h t : Int) (hv : vspec k z p g h = true) (hk : k ≠ 2) : (wins k z p g h t).length = 1 := by
  have hv' := hv
  unfold vspec at hv'
  rw [decide_eq_true_eq] at hv'
  by_cases h3 : k = 3
  · simp [wins, h3]
  by_cases h4 : k = 4
  · simp [wins, h4]
  have h1 : k = 1 := by omega
  subst h1
  have hs := stp_of 1 z p g h hv (by omega)
  have e : wins 1 z p g h t = winsFrom (from0 z z h t) z z (count (from0 z z h t) z t) := by simp [wins, stepOf]
  have es : stepOf 1 z p = z := by simp [stepOf]
  rw [es] at hs
  rw [e, winsFrom_length]
  obtain ⟨f1, f2⟩ := from0_bd (t := t) hs
  have hb := hs.b1
  have h0 : 0 < count (from0 z z h t) z t := (count_bd hb (by omega) 0).2 (by omega)
  have h1 := count_small (m := 1) hb (a := from0 z z h t) (t := t) (by omega) (by omega)
  omega
end Go.Proofs.Ytehifbogadohgaa
