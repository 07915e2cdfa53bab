/-
  The walks of the reference's functions over rows: Valid, Compare, Own.
-/
import Derived.Test.YtiioiajcoiaalaaGreatDoorBgS2
import Derived.Test.YtiioiajcoiaalaaGreatDoorBgC
namespace Go.Proofs.YtiioiajcoiaalaaGreatDoor
open Go.RowKit
attribute [local go_sem] Oper.semAt_some

set_option maxRecDepth 100000 in
set_option maxHeartbeats 4000000 in
theorem R2Valid_any (A : Option Addr) (n c B : Nat) (r : Rw) (w : World) (hr : Reads w B 3 A n (r.flatMap encV)) (hB : B ≤ w.heap.size) (hn : n ≤ 9223372036854775807) :
    Calls Tryz.prog 85 #[.slice A n c] w (RetV w (.bool (okR r))) := by
  have HL := hide (hr.len encV_len (by omega))
  have ho := okR_any r
  rw [HL.out] at ho
  have HO := hide ho
  clear ho
  go_enter Tryz.func85, Tryz.ntmps85
  go_wp2_with fail
  go_loopw [3] (fun i wr => ∃ k : Nat, k ≤ n ∧ i = .int .i64 k ∧ (r.take k).any (fun v => !okV v) = false ∧ Below w.heap.size w wr) (fun i _ => n - (intOf i).toNat)
  case atStart => exact ⟨0, Nat.zero_le _, rfl, rfl, Below.refl _ _⟩
  case round =>
    obtain ⟨k, hk, rfl, hany, hBw⟩ := hrel
    have HA := hide hany
    clear hany
    by_cases hlt : k < n
    · obtain ⟨b, off, e, rfl, hb, hek, hce⟩ := (hr.more hB).below hBw |>.elem encV_len HL.out hlt
      have HEK := hide hek
      have e0 : wr.cell? ⟨b, off + k * 3, none⟩ = some (.int .i64 e.k) := by simpa using hce 0 _ rfl
      have e1 : wr.cell? ⟨b, off + k * 3 + 1, none⟩ = some (.int .i64 e.n) := by simpa [← Nat.add_assoc] using hce 1 _ rfl
      have e2 : wr.cell? ⟨b, off + k * 3 + 2, none⟩ = some (.string e.s) := by simpa [← Nat.add_assoc] using hce 2 _ rfl
      clear hce hek
      have q1 : (0 : Int) ≤ (k : Int) := by omega
      have q2 : (k : Int) < (n : Int) := by omega
      go_wp2_with fail
      refine (RValidValue_any e wr).mono ?_
      rintro ee w1 ⟨rfl, hB1⟩
      have hB2 := bstep hBw hB1
      cases hq : okV e
      · have HX := hide (show okR r = false from by
          rw [HO.out, List.any_eq_true.2 ⟨e, List.mem_of_getElem? HEK.out, by rw [hq]; rfl⟩]; simp)
        clear hq hB1 hBw e0 e1 e2
        go_wp2
        go_ret
        exact ⟨ret_bool HX.out.symm, hB2⟩
      · have HX := hide (any_take' (p := fun v => !okV v) HEK.out (by rw [hq]; rfl) HA.out)
        clear hq hB1 hBw e0 e1 e2
        go_wp2
        go_roundw
        case rel => exact ⟨k + 1, by omega, by go_num, HX.out, hB2⟩
        case measure => simp [intOf]; omega
    · obtain rfl : k = n := by omega
      have HX := hide (show okR r = decide ((k : Int) ≤ 8) from by
        have := HA.out
        rw [take_all HL.out] at this
        rw [HO.out, this, Bool.eq_iff_iff]
        simp
        omega)
      go_wp2
      go_ret
      exact ⟨ret_bool HX.out.symm, hBw⟩

set_option maxRecDepth 100000 in
set_option maxHeartbeats 8000000 in
theorem R2Compare_any (A : Option Addr) (n c : Nat) (x : Rw) (A' : Option Addr) (n' c' : Nat) (y : Rw) (w : World) (hx : Reads w w.heap.size 3 A n (x.flatMap encV)) (hy : Reads w w.heap.size 3 A' n' (y.flatMap encV)) (hn : n ≤ 9223372036854775807) :
    Calls Tryz.prog 78 #[.slice A n c, .slice A' n' c'] w (RetV w (.int .i64 (cmpR x y))) := by
  have HL := hide (hx.len encV_len (by omega))
  have HL' := hide (hy.len encV_len (by omega))
  go_enter Tryz.func78, Tryz.ntmps78
  go_wp2_with fail
  go_loopw [5] (fun i wr => ∃ k : Nat, k ≤ n ∧ i = .int .i64 k ∧ (∀ i, i < k → ∃ a b, x[i]? = some a ∧ y[i]? = some b ∧ cmpV a b = 0) ∧ Below w.heap.size w wr) (fun i _ => n - (intOf i).toNat)
  case atStart => exact ⟨0, Nat.zero_le _, rfl, fun i hi => absurd hi (Nat.not_lt_zero _), Below.refl _ _⟩
  case round =>
    obtain ⟨k, hk, rfl, heq, hBw⟩ := hrel
    have HE := hide heq
    clear heq
    by_cases hlt : k < n
    · have q1 : (0 : Int) ≤ (k : Int) := by omega
      have q2 : (k : Int) < (n : Int) := by omega
      by_cases hlt' : k < n'
      · obtain ⟨b, off, e, rfl, hb, hek, hce⟩ := hx.below hBw |>.elem encV_len HL.out hlt
        have HEK := hide hek
        have e0 := fun (p : BW wr) => BW.cell (a := ⟨b, off + k * 3, none⟩) (Nat.lt_of_lt_of_le hb hBw.size) (v := .int .i64 e.k) (by simpa using hce 0 _ rfl) p
        have e1 := fun (p : BW wr) => BW.cell (a := ⟨b, off + k * 3 + 1, none⟩) (Nat.lt_of_lt_of_le hb hBw.size) (v := .int .i64 e.n) (by simpa [← Nat.add_assoc] using hce 1 _ rfl) p
        have e2 := fun (p : BW wr) => BW.cell (a := ⟨b, off + k * 3 + 2, none⟩) (Nat.lt_of_lt_of_le hb hBw.size) (v := .string e.s) (by simpa [← Nat.add_assoc] using hce 2 _ rfl) p
        clear hce hek
        obtain ⟨b', off', e', rfl, hb', hek', hce'⟩ := hy.below hBw |>.elem encV_len HL'.out hlt'
        have HEK' := hide hek'
        have f0 := fun (p : BW wr) => BW.cell (a := ⟨b', off' + k * 3, none⟩) (Nat.lt_of_lt_of_le hb' hBw.size) (v := .int .i64 e'.k) (by simpa using hce' 0 _ rfl) p
        have f1 := fun (p : BW wr) => BW.cell (a := ⟨b', off' + k * 3 + 1, none⟩) (Nat.lt_of_lt_of_le hb' hBw.size) (v := .int .i64 e'.n) (by simpa [← Nat.add_assoc] using hce' 1 _ rfl) p
        have f2 := fun (p : BW wr) => BW.cell (a := ⟨b', off' + k * 3 + 2, none⟩) (Nat.lt_of_lt_of_le hb' hBw.size) (v := .string e'.s) (by simpa [← Nat.add_assoc] using hce' 2 _ rfl) p
        clear hce' hek'
        have q3 : (k : Int) < (n' : Int) := by omega
        obtain ⟨z, hz⟩ : ∃ z, cmpV e e' = z := ⟨_, rfl⟩
        have C1 := hide (fun (p : BW wr) => calls_bw (p := p) (v := .int .i64 z) (by rw [← hz]; exact RCompareValues_any e e' p.x))
        by_cases hc : z = 0
        · subst hc
          have HX := hide (show ∀ i, i < k + 1 → ∃ a b, x[i]? = some a ∧ y[i]? = some b ∧ cmpV a b = 0 from fun i hi => by
            by_cases h : i = k
            · subst h; exact ⟨e, e', HEK.out, HEK'.out, hz⟩
            · exact HE.out i (by omega))
          clear hz
          go_wp2_with fail
          (refine wp_region_quiet_bw (by kernel_rfl) (by kernel_rfl) ?_
           repeat (first | go_big_quiet_step (((go_at_call 120; with_reducible exact C1.out _))) | quiet_step (((go_at_call 120; with_reducible exact C1.out _))))
           refine wpQuiet_nil ?_
           intro wq hw'
           obtain ⟨⟨_, hbq⟩, hw''⟩ := hw'
           subst hw'')
          have HB := hide (hBw.trans (hbq.mono hBw.size))
          clear hbq hBw e0 e1 e2 f0 f1 f2 C1
          go_wp2
          go_roundw
          case rel => exact ⟨k + 1, by omega, by go_num, HX.out, HB.out⟩
          case measure => simp [intOf]; omega
        · have HX := hide (show cmpR x y = z from by rw [← hz]; exact cmpR_at HE.out HEK.out HEK'.out (by rw [hz]; exact hc))
          have n1 : (z != 0) = true := by simpa using hc
          clear hc hz
          go_wp2_with fail
          (refine wp_region_quiet_bw (by kernel_rfl) (by kernel_rfl) ?_
           repeat (first | go_big_quiet_step (((go_at_call 120; with_reducible exact C1.out _))) | quiet_step (((go_at_call 120; with_reducible exact C1.out _))))
           refine wpQuiet_nil ?_
           intro wq hw'
           obtain ⟨⟨_, hbq⟩, hw''⟩ := hw'
           subst hw'')
          have HB := hide (hBw.trans (hbq.mono hBw.size))
          clear hbq hBw e0 e1 e2 f0 f1 f2 C1
          go_wp2
          go_ret
          exact ⟨ret_int HX.out.symm, HB.out⟩
      · have HX := hide (cmpR_gt HE.out (by rw [HL.out]; exact hlt) (by rw [HL'.out]; omega))
        have z1 : ¬ ((n : Int) < (n' : Int)) := by omega
        have z2 : (n' : Int) < (n : Int) := by omega
        have z3 : ¬ ((k : Int) < (n' : Int)) := by omega
        go_wp2
        go_ret
        exact ⟨ret_int HX.out.symm, hBw⟩
    · obtain rfl : k = n := by omega
      have HX := hide (cmpR_end HE.out (by rw [HL.out]; exact Nat.le_refl _))
      by_cases h : k < n'
      · have HY := hide (show cmpR x y = -1 from by rw [HX.out, if_pos (by rw [HL'.out]; exact h)])
        have z1 : (k : Int) < (n' : Int) := by omega
        go_wp2
        go_ret
        exact ⟨ret_int HY.out.symm, hBw⟩
      · by_cases h2 : n' < k
        · exact absurd h2 (fun h2 => by
            obtain ⟨a, b, _, hb, _⟩ := HE.out n' h2
            rw [List.getElem?_eq_none (by rw [HL'.out]; exact Nat.le_refl _)] at hb
            cases hb)
        · have HY := hide (show cmpR x y = 0 from by rw [HX.out, if_neg (by rw [HL'.out]; exact h)])
          have z1 : ¬ ((k : Int) < (n' : Int)) := by omega
          have z2 : ¬ ((n' : Int) < (k : Int)) := by omega
          go_wp2
          go_ret
          exact ⟨ret_int HY.out.symm, hBw⟩

set_option maxRecDepth 100000 in
set_option maxHeartbeats 2000000 in
theorem Own_any (A : Option Addr) (n c B B' : Nat) (r : Rw) (w : World) (hr : RowK w B A n r) (hn : n ≤ 1000) :
    Calls Tryz.prog 63 #[.slice A n c] w (RetRow w B' n r) := by
  obtain ⟨i0, hi, hz0, hz1, hz2⟩ := info_parts3 infoVal
  have hlit := own_lit w 64 3 0 #[] rfl (by unfold maxLen; omega) (Nat.le_refl w.heap.size)
  have hB0 := below_val (w := w) #[] 64
  have hrd := hr.rd.alloc (Nat.le_refl _) (.cells #[] 64)
  have hle := hr.le
  clear hr
  go_enter Tryz.func63, Tryz.ntmps63
  go_wp2_with (at_builtin; refine wpList_append_any _ rfl _ _ 43 rfl w.heap.size 64 i0 _ 3 32 Tryz.underlying43 hi hz0 hz1 hz2 rfl (by decide) (.slice (some ⟨w.heap.size, 0, none⟩) 0 0) 0 [] rfl hlit w.heap.size A n c (r.flatMap encV) rfl hrd one_cell (by unfold maxLen; omega) (by omega) (by simp) ?_; intro v' W1 hown hgrow _; rw [Nat.zero_add, List.nil_append] at hown)
  have hB1 : Below w.heap.size w W1 := below_append hB0 hlit (by simp) hgrow
  obtain ⟨A', c', rfl, hR⟩ := own_form hown
  go_ret
  exact ⟨A', c', rfl, RowK.of_own hown hle, hB1⟩
end Go.Proofs.YtiioiajcoiaalaaGreatDoor
