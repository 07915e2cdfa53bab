/-
  The walk of the reference's Twice.
-/
import Derived.Test.YthngjbhamgmcgaaEnR
namespace Go.Proofs.Ythngjbhamgmcgaa
open Go.RowKit
attribute [local go_sem] Oper.semAt_some
set_option linter.unusedVariables false

set_option maxRecDepth 100000 in
set_option maxHeartbeats 8000000 in
theorem Twice_any (A : Option Addr) (n c : Nat) (l : List En) (w : World) (hl : Reads w w.heap.size 4 A n (flatE l)) (hn : n ≤ 40000) :
    Calls Try.prog 60 #[.slice A n c] w (RetV w (.bool (twB l))) := by
  have HL := hide (show l.length = n from hl.len (enc := encE) encE_len (by omega))
  obtain ⟨p, hp⟩ : ∃ p, twB l = p := ⟨_, rfl⟩
  have HP := hide hp
  rw [hp]
  clear hp
  go_enter Try.func60, Try.ntmps60
  go_wp2_with fail
  go_loopw [3] (fun i wr => ∃ k : Nat, k ≤ n ∧ i = .int .i64 ((k + 1 : Nat) : Int) ∧ (∀ (q : Nat) (x y : En), q < k → l[q]? = some x → l[q + 1]? = some y → plE x y ≠ 0) ∧ Below w.heap.size w wr) (fun i _ => n + 1 - (intOf i).toNat)
  case atStart => exact ⟨0, Nat.zero_le _, rfl, fun q x y h => absurd h (by omega), Below.refl _ _⟩
  case round =>
    obtain ⟨k, hk, rfl, hno, hB⟩ := hrel
    have HN := hide hno
    clear hno
    by_cases hlt : k + 1 < n
    · obtain ⟨b, off, x, rfl, hb, hxk, hc⟩ := (hl.up hB).elem (enc := encE) encE_len HL.out (show k < n by omega)
      obtain ⟨b', off', y, e, _, hyk, hc'⟩ := (hl.up hB).elem (enc := encE) encE_len HL.out hlt
      injection e with e
      injection e with e1 e2
      subst e1 e2
      have c0 : wr.cell? ⟨b, off + k * 4, none⟩ = some (.int .i64 x.g) := by simpa using hc 0 _ rfl
      have c1 : wr.cell? ⟨b, off + k * 4 + 1, none⟩ = some (.string x.nm) := by simpa [← Nat.add_assoc] using hc 1 _ rfl
      have c2 : wr.cell? ⟨b, off + k * 4 + 2, none⟩ = some (.string x.ky) := by simpa [← Nat.add_assoc] using hc 2 _ rfl
      have d0 : wr.cell? ⟨b, off + (k + 1) * 4, none⟩ = some (.int .i64 y.g) := by simpa using hc' 0 _ rfl
      have d1 : wr.cell? ⟨b, off + (k + 1) * 4 + 1, none⟩ = some (.string y.nm) := by simpa [← Nat.add_assoc] using hc' 1 _ rfl
      have d2 : wr.cell? ⟨b, off + (k + 1) * 4 + 2, none⟩ = some (.string y.ky) := by simpa [← Nat.add_assoc] using hc' 2 _ rfl
      have HXK := hide hxk
      have HYK := hide hyk
      have HNX := hide (show plE x y ≠ 0 → ∀ (q : Nat) (u v : En), q < k + 1 → l[q]? = some u → l[q + 1]? = some v → plE u v ≠ 0 from fun h q u v hq hu hv => by
        by_cases e : q = k
        · subst e
          rw [HXK.out] at hu
          rw [HYK.out] at hv
          injection hu with hu
          injection hv with hv
          rw [← hu, ← hv]; exact h
        · exact HN.out q u v (by omega) hu hv)
      clear hc hc' hxk hyk
      have w1 : ((k + 1 : Nat) : Int) - 1 = (k : Int) := by omega
      have w2 : IntKind.i64.wrap (((k + 1 : Nat) : Int) - 1) = (k : Int) := by rw [w1, IntKind.wrap_i64]; omega
      have q1 : (0 : Int) ≤ (k : Int) := by omega
      have q2 : (k : Int) < (n : Int) := by omega
      have q3 : (0 : Int) ≤ ((k + 1 : Nat) : Int) := by omega
      have q4 : ((k + 1 : Nat) : Int) < (n : Int) := by omega
      by_cases hg : x.g = y.g
      · have z0 : (x.g == y.g) = true := by simpa using hg
        by_cases hm : x.nm = y.nm
        · have z1 : (x.nm.toList == y.nm.toList) = true := by rw [str_eq0]; exact decide_eq_true hm
          by_cases hky : x.ky = y.ky
          · have z2 : (x.ky.toList == y.ky.toList) = true := by rw [str_eq0]; exact decide_eq_true hky
            have HX := hide (show true = p by rw [← HP.out]; exact (twB_yes HXK.out HYK.out (plE_zero hg hm hky)).symm)
            clear hg hm hky
            go_wp2_with fail
            go_quiet (fail)
            go_wp2
            go_ret
            exact ⟨ret_bool HX.out, below_drewN hB _⟩
          · have z2 : (x.ky.toList == y.ky.toList) = false := by rw [str_eq0]; exact decide_eq_false hky
            have HX := hide (HNX.out fun h => hky (plE_parts h).2.2)
            clear hg hm hky
            go_wp2_with fail
            go_quiet (fail)
            go_wp2
            go_roundw
            case rel => exact ⟨k + 1, by omega, by go_num, HX.out, below_drewN hB _⟩
            case measure => simp [intOf] <;> omega
        · have z1 : (x.nm.toList == y.nm.toList) = false := by rw [str_eq0]; exact decide_eq_false hm
          have HX := hide (HNX.out fun h => hm (plE_parts h).2.1)
          clear hg hm
          go_wp2_with fail
          go_quiet (fail)
          go_wp2
          go_roundw
          case rel => exact ⟨k + 1, by omega, by go_num, HX.out, below_drewN hB _⟩
          case measure => simp [intOf] <;> omega
      · have z0 : (x.g == y.g) = false := by simpa using hg
        have HX := hide (HNX.out fun h => hg (plE_parts h).1)
        clear hg
        go_wp2_with fail
        go_quiet (fail)
        go_wp2
        go_roundw
        case rel => exact ⟨k + 1, by omega, by go_num, HX.out, below_drewN hB _⟩
        case measure => simp [intOf] <;> omega
    · have HX := hide (show false = p by
        rw [← HP.out]
        exact (twB_no fun q x y hx hy => HN.out q x y (by have := (List.getElem?_eq_some_iff.1 hy).1; rw [HL.out] at this; omega) hx hy).symm)
      go_wp2
      go_ret
      exact ⟨ret_bool HX.out, hB⟩
end Go.Proofs.Ythngjbhamgmcgaa
