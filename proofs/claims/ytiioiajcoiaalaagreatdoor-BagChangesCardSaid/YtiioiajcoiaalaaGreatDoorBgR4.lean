/-
  The walk of the program's row.Compare, for every two rows.
-/
import Derived.Test.YtiioiajcoiaalaaGreatDoorBgR3
namespace Go.Proofs.YtiioiajcoiaalaaGreatDoor
open Go.RowKit
attribute [local go_sem] Oper.semAt_some

/-- What is compared, behind k values that were equal. -/
theorem cmpR_drop {x y : Rw} : ∀ {k : Nat}, (∀ i, i < k → ∃ a b, x[i]? = some a ∧ y[i]? = some b ∧ cmpV a b = 0) → cmpR x y = cmpR (x.drop k) (y.drop k)
  | 0, _ => by simp
  | k + 1, h => by
    rw [cmpR_drop (k := k) fun i hi => h i (by omega)]
    obtain ⟨a, b, ha, hb, hc⟩ := h k (by omega)
    have hx : x.drop k = a :: x.drop (k + 1) := by
      obtain ⟨h1, h2⟩ := List.getElem?_eq_some_iff.1 ha
      rw [List.drop_eq_getElem_cons h1, h2]
    have hy : y.drop k = b :: y.drop (k + 1) := by
      obtain ⟨h1, h2⟩ := List.getElem?_eq_some_iff.1 hb
      rw [List.drop_eq_getElem_cons h1, h2]
    rw [hx, hy]
    show thenC (cmpV a b) _ = _
    unfold thenC
    rw [if_pos hc]
theorem cmpR_at {x y : Rw} {k : Nat} (h : ∀ i, i < k → ∃ a b, x[i]? = some a ∧ y[i]? = some b ∧ cmpV a b = 0) {a b : Val} (ha : x[k]? = some a) (hb : y[k]? = some b) (hc : cmpV a b ≠ 0) : cmpR x y = cmpV a b := by
  rw [cmpR_drop h]
  obtain ⟨h1, h2⟩ := List.getElem?_eq_some_iff.1 ha
  obtain ⟨h3, h4⟩ := List.getElem?_eq_some_iff.1 hb
  rw [List.drop_eq_getElem_cons h1, List.drop_eq_getElem_cons h3, h2, h4]
  show thenC (cmpV a b) _ = _
  unfold thenC
  rw [if_neg hc]
theorem cmpR_gt {x y : Rw} {k : Nat} (h : ∀ i, i < k → ∃ a b, x[i]? = some a ∧ y[i]? = some b ∧ cmpV a b = 0) (hx : k < x.length) (hy : y.length ≤ k) : cmpR x y = 1 := by
  rw [cmpR_drop h, List.drop_eq_getElem_cons hx, List.drop_eq_nil_of_le hy]; rfl
theorem cmpR_end {x y : Rw} {k : Nat} (h : ∀ i, i < k → ∃ a b, x[i]? = some a ∧ y[i]? = some b ∧ cmpV a b = 0) (hx : x.length ≤ k) : cmpR x y = if k < y.length then -1 else 0 := by
  rw [cmpR_drop h, List.drop_eq_nil_of_le hx]
  by_cases hy : k < y.length
  · rw [List.drop_eq_getElem_cons hy, if_pos hy]; rfl
  · rw [List.drop_eq_nil_of_le (by omega), if_neg hy]; rfl

set_option maxRecDepth 100000 in
set_option maxHeartbeats 4000000 in
theorem cmpf_any (A : Option Addr) (n c : Nat) (x : Rw) (A' : Option Addr) (n' c' : Nat) (y : Rw) (w : World) (hx : Reads w w.heap.size 3 A n (x.flatMap encV)) (hy : Reads w w.heap.size 3 A' n' (y.flatMap encV)) (hn : n ≤ 9223372036854775807) :
    Calls Tryz.prog 140 #[.slice A n c, .slice A' n' c', .func (Fn.func 141) #[] #[]] w (RetV w (.int .i64 (cmpR x y))) := by
  have HL := hide (hx.len encV_len (by omega))
  have HL' := hide (hy.len encV_len (by omega))
  go_enter Tryz.func140, Tryz.ntmps140
  go_wp2_with fail
  go_loopw [13] (fun i wr => ∃ k : Nat, k ≤ n ∧ i = .int .i64 k ∧ (∀ i, i < k → ∃ a b, x[i]? = some a ∧ y[i]? = some b ∧ cmpV a b = 0) ∧ Below w.heap.size w wr) (fun i _ => n - (intOf i).toNat)
  case atStart => exact ⟨0, Nat.zero_le _, rfl, fun i hi => absurd hi (Nat.not_lt_zero _), Below.refl _ _⟩
  case round =>
    obtain ⟨k, hk, rfl, heq, hBw⟩ := hrel
    have HE := hide heq
    clear heq
    by_cases hlt : k < n
    · obtain ⟨b, off, e, rfl, hb, hek, hce⟩ := hx.below hBw |>.elem encV_len HL.out hlt
      have HEK := hide hek
      have e0 : wr.cell? ⟨b, off + k * 3, none⟩ = some (.int .i64 e.k) := by simpa using hce 0 _ rfl
      have e1 : wr.cell? ⟨b, off + k * 3 + 1, none⟩ = some (.int .i64 e.n) := by simpa [← Nat.add_assoc] using hce 1 _ rfl
      have e2 : wr.cell? ⟨b, off + k * 3 + 2, none⟩ = some (.string e.s) := by simpa [← Nat.add_assoc] using hce 2 _ rfl
      clear hce hek
      have q1 : (0 : Int) ≤ (k : Int) := by omega
      have q2 : (k : Int) < (n : Int) := by omega
      by_cases hlt' : k < n'
      · obtain ⟨b', off', e', rfl, hb', hek', hce'⟩ := hy.below hBw |>.elem encV_len HL'.out hlt'
        have HEK' := hide hek'
        have f0 : wr.cell? ⟨b', off' + k * 3, none⟩ = some (.int .i64 e'.k) := by simpa using hce' 0 _ rfl
        have f1 : wr.cell? ⟨b', off' + k * 3 + 1, none⟩ = some (.int .i64 e'.n) := by simpa [← Nat.add_assoc] using hce' 1 _ rfl
        have f2 : wr.cell? ⟨b', off' + k * 3 + 2, none⟩ = some (.string e'.s) := by simpa [← Nat.add_assoc] using hce' 2 _ rfl
        clear hce' hek'
        have q3 : (k : Int) < (n' : Int) := by omega
        have hws := hBw.size
        have g0 := (World.cell?_alloc_lt wr (.cells #[.int .i64 e.k, .int .i64 e.n, .string e.s] 64) ⟨b', off' + k * 3, none⟩ (by show b' < _; omega)).trans f0
        have g1 := (World.cell?_alloc_lt wr (.cells #[.int .i64 e.k, .int .i64 e.n, .string e.s] 64) ⟨b', off' + k * 3 + 1, none⟩ (by show b' < _; omega)).trans f1
        have g2 := (World.cell?_alloc_lt wr (.cells #[.int .i64 e.k, .int .i64 e.n, .string e.s] 64) ⟨b', off' + k * 3 + 2, none⟩ (by show b' < _; omega)).trans f2
        have hBa := hBw.trans ((below_two (w := wr) (.cells #[.int .i64 e.k, .int .i64 e.n, .string e.s] 64) (.cells #[.int .i64 e'.k, .int .i64 e'.n, .string e'.s] 64)).mono hws)
        go_wp2_with fail
        refine (CompareValues_any e e' _).mono ?_
        rintro ee w1 ⟨rfl, hB1⟩
        have hB2 := bstep hBa hB1
        by_cases hc : cmpV e e' = 0
        · have HX := hide (show ∀ i, i < k + 1 → ∃ a b, x[i]? = some a ∧ y[i]? = some b ∧ cmpV a b = 0 from fun i hi => by
            by_cases h : i = k
            · subst h; exact ⟨e, e', HEK.out, HEK'.out, hc⟩
            · exact HE.out i (by omega))
          rw [hc]
          clear hc hB1 hBa hBw e0 e1 e2 f0 f1 f2 g0 g1 g2
          go_wp2
          go_roundw
          case rel => exact ⟨k + 1, by omega, by go_num, HX.out, hB2⟩
          case measure => simp [intOf]; omega
        · have HX := hide (cmpR_at HE.out HEK.out HEK'.out hc)
          obtain ⟨z, hz⟩ : ∃ z, cmpV e e' = z := ⟨_, rfl⟩
          rw [hz] at hc HX ⊢
          have n1 : (z != 0) = true := by simpa using hc
          clear hc hz hB1 hBa hBw e0 e1 e2 f0 f1 f2 g0 g1 g2
          go_wp2
          go_ret
          exact ⟨ret_int HX.out.symm, hB2⟩
      · have HX := hide (cmpR_gt HE.out (by rw [HL.out]; exact hlt) (by rw [HL'.out]; omega))
        have hB2 := hBw.trans ((below_val (w := wr) #[.int .i64 e.k, .int .i64 e.n, .string e.s] 64).mono hBw.size)
        go_wp2
        go_ret
        exact ⟨ret_int HX.out.symm, hB2⟩
    · obtain rfl : k = n := by omega
      have HX := hide (cmpR_end HE.out (by rw [HL.out]; exact Nat.le_refl _))
      by_cases h : k < n'
      · have HY := hide (show cmpR x y = -1 from by rw [HX.out, if_pos (by rw [HL'.out]; exact h)])
        go_wp2
        go_ret
        exact ⟨ret_int HY.out.symm, hBw⟩
      · have HY := hide (show cmpR x y = 0 from by rw [HX.out, if_neg (by rw [HL'.out]; exact h)])
        go_wp2
        go_ret
        exact ⟨ret_int HY.out.symm, hBw⟩
theorem Compare_any (A : Option Addr) (n c : Nat) (x : Rw) (A' : Option Addr) (n' c' : Nat) (y : Rw) (w : World) (hx : Reads w w.heap.size 3 A n (x.flatMap encV)) (hy : Reads w w.heap.size 3 A' n' (y.flatMap encV)) (hn : n ≤ 9223372036854775807) :
    Calls Tryz.prog 103 #[.slice A n c, .slice A' n' c'] w (RetV w (.int .i64 (cmpR x y))) := by
  go_enter Tryz.func103, Tryz.ntmps103
  go_wp2_with fail
  refine (cmpf_any A n c x A' n' c' y w hx hy hn).mono ?_
  rintro ee w1 ⟨rfl, hB1⟩
  go_wp2
  go_ret
  exact ⟨rfl, hB1⟩
end Go.Proofs.YtiioiajcoiaalaaGreatDoor
