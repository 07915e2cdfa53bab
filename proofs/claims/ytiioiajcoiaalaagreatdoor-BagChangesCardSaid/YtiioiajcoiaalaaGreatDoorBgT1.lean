/-
  The walks of Same over rows and bags, on both sides, for every two of them.
-/
import Derived.Test.YtiioiajcoiaalaaGreatDoorBgF
namespace Go.Proofs.YtiioiajcoiaalaaGreatDoor
open Go.RowKit
attribute [local go_sem] Oper.semAt_some

theorem neVal2 (a b : Int) (s : ByteArray) (a' b' : Int) (s' : ByteArray) (w : World) : (binOp .neq 64 (.agg #[.int .i64 a, .int .i64 b, .string s]) (.agg #[.int .i64 a', .int .i64 b', .string s'])).run Tryz.prog w = .ok (.bool (!decide (a = a' ∧ b = b' ∧ s = s'))) w := by
  have u3 := Tryz.underlying3
  have a3 := Tryz.isAgg3
  have z3 := Tryz.sizeOf3
  have u9 := Tryz.underlying9
  have a9 := Tryz.isAgg9
  have z9 := Tryz.sizeOf9
  have hS : Tryz.prog.underlying 64 = some (.struct (Tryz.prog.fieldsOf 64)) := by kernel_rfl
  have hp : Tryz.prog.stoodInHeld 64 = false := by kernel_rfl
  rw [run_neq_struct, show (10000 : Nat) = 9999 + 1 from rfl, run_equalIn_agg w 9999 64 _ _ hS hp]
  simp only [Program.fieldsOf, Tryz.underlying64]
  by_cases h1 : a = a'
  · subst h1
    by_cases h2 : b = b'
    · subst h2
      by_cases h3 : s = s'
      · subst h3
        go_simp
      · have hs := str_eq0 s s'
        rw [decide_eq_false h3] at hs
        go_simp
    · have h2' : (b == b') = false := by simpa using h2
      go_simp
  · have h1' : (a == a') = false := by simpa using h1
    go_simp
theorem val_eq (a b : Val) : decide (a = b) = decide (a.k = b.k ∧ a.n = b.n ∧ a.s = b.s) := by
  cases a; cases b; simp
theorem eq_take {α : Type} {x y : List α} {k : Nat} {a b : α} (h : x.take k = y.take k) (ha : x[k]? = some a) (hb : y[k]? = some b) (he : a = b) : x.take (k + 1) = y.take (k + 1) := by
  rw [take_snoc' ha, take_snoc' hb, h, he]
theorem ne_at {α : Type} {x y : List α} {k : Nat} {a b : α} (ha : x[k]? = some a) (hb : y[k]? = some b) (he : a ≠ b) : x ≠ y := fun e => by
  subst e
  rw [ha] at hb
  injection hb with hb
  exact he hb
set_option maxRecDepth 100000 in
set_option maxHeartbeats 2000000 in
theorem RowSame_any (A : Option Addr) (n c : Nat) (r : Rw) (A' : Option Addr) (n' c' : Nat) (r' : Rw) (w : World) (hx : Reads w w.heap.size 3 A n (r.flatMap encV)) (hy : Reads w w.heap.size 3 A' n' (r'.flatMap encV)) (hn : n ≤ 9223372036854775807) :
    Calls Tryz.prog 53 #[.slice A n c, .slice A' n' c'] w (RetV w (.bool (decide (r = r')))) := by
  have HL := hide (hx.len encV_len (by omega))
  have HL' := hide (hy.len encV_len (by omega))
  have hm : Tryz.prog.eqGuardType Tryz.prog.depth 64 = false := by kernel_rfl
  have hne := neVal2
  by_cases h : n = n'
  · subst h
    have n1 : ((n : Int) != (n : Int)) = false := by simp
    go_enter Tryz.func53, Tryz.ntmps53
    go_wp2_with fail
    go_loopw [5] (fun i wr => ∃ k : Nat, k ≤ n ∧ i = .int .i64 k ∧ r.take k = r'.take k ∧ Below w.heap.size w wr) (fun i _ => n - (intOf i).toNat)
    case atStart => exact ⟨0, Nat.zero_le _, rfl, rfl, Below.refl _ _⟩
    case round =>
      obtain ⟨k, hk, rfl, ht, hB⟩ := hrel
      have HT := hide ht
      clear ht
      by_cases hlt : k < n
      · obtain ⟨b, off, e, rfl, hb, hek, hce⟩ := (hx.below hB).elem encV_len HL.out hlt
        obtain ⟨b', off', e', rfl, hb', hek', hce'⟩ := (hy.below hB).elem encV_len HL'.out hlt
        have e0 : wr.cell? ⟨b, off + k * 3, none⟩ = some (.int .i64 e.k) := by simpa using hce 0 _ rfl
        have e1 : wr.cell? ⟨b, off + k * 3 + 1, none⟩ = some (.int .i64 e.n) := by simpa [← Nat.add_assoc] using hce 1 _ rfl
        have e2 : wr.cell? ⟨b, off + k * 3 + 2, none⟩ = some (.string e.s) := by simpa [← Nat.add_assoc] using hce 2 _ rfl
        have f0 : wr.cell? ⟨b', off' + k * 3, none⟩ = some (.int .i64 e'.k) := by simpa using hce' 0 _ rfl
        have f1 : wr.cell? ⟨b', off' + k * 3 + 1, none⟩ = some (.int .i64 e'.n) := by simpa [← Nat.add_assoc] using hce' 1 _ rfl
        have f2 : wr.cell? ⟨b', off' + k * 3 + 2, none⟩ = some (.string e'.s) := by simpa [← Nat.add_assoc] using hce' 2 _ rfl
        have HE1 := hide hek
        have HE2 := hide hek'
        clear hce hce' hek hek'
        have q1 : (0 : Int) ≤ (k : Int) := by omega
        have q2 : (k : Int) < (n : Int) := by omega
        have hv := val_eq e e'
        cases hd : decide (e = e')
        · rw [hd] at hv
          have HX := hide (decide_eq_false (ne_at HE1.out HE2.out (of_decide_eq_false hd)))
          have hv' := hv.symm
          clear hd hv
          go_wp2_with fail
          go_quiet (fail)
          go_wp2
          go_ret
          exact ⟨ret_bool HX.out.symm, below_drewN hB _⟩
        · rw [hd] at hv
          have HX := hide (eq_take HT.out HE1.out HE2.out (of_decide_eq_true hd))
          have hv' := hv.symm
          clear hd hv
          go_wp2_with fail
          go_quiet (fail)
          go_wp2
          go_roundw
          case rel => exact ⟨k + 1, by omega, by go_num, HX.out, below_drewN hB _⟩
          case measure => simp [intOf]; omega
      · obtain rfl : k = n := by omega
        have HX := hide (show decide (r = r') = true from by
          have h := HT.out
          rw [take_all HL.out, take_all HL'.out] at h
          simp [h])
        go_wp2
        go_ret
        exact ⟨ret_bool HX.out.symm, hB⟩
  · have n1 : ((n : Int) != (n' : Int)) = true := by simp; omega
    have HX := hide (show decide (r = r') = false from decide_eq_false fun e => h (by rw [← HL.out, ← HL'.out, e]))
    clear h
    go_enter Tryz.func53, Tryz.ntmps53
    go_wp2
    go_ret
    exact ⟨ret_bool HX.out.symm, Below.refl _ _⟩
end Go.Proofs.YtiioiajcoiaalaaGreatDoor
