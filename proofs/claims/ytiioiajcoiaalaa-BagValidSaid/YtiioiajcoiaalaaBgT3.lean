/-
  The walk of the program's Same over bags, for every two of them.
-/
import Derived.Test.YtiioiajcoiaalaaBgT2
namespace Go.Proofs.Ytiioiajcoiaalaa
open Go.RowKit
attribute [local go_sem] Oper.semAt_some

set_option maxRecDepth 100000 in
set_option maxHeartbeats 2000000 in
theorem RowEq_any (A : Option Addr) (n c : Nat) (r : Rw) (A' : Option Addr) (n' c' : Nat) (r' : Rw) (w : World) (hx : Reads w w.heap.size 3 A n (r.flatMap encV)) (hy : Reads w w.heap.size 3 A' n' (r'.flatMap encV)) (hn : n ≤ 9223372036854775807) :
    Calls Try.prog 52 #[.slice A n c, .slice A' n' c'] w (RetV w (.bool (decide (r = r')))) := by
  have HL := hide (hx.len encV_len (by omega))
  have HL' := hide (hy.len encV_len (by omega))
  have hm : Try.prog.eqGuardType Try.prog.depth 49 = false := by kernel_rfl
  have hne := neVal2
  by_cases h : n = n'
  · subst h
    have n1 : ((n : Int) != (n : Int)) = false := by simp
    go_enter Try.func52, Try.ntmps52
    go_wp2_with fail
    go_loopw [13] (fun i wr => ∃ k : Nat, k ≤ n ∧ i = .int .i64 k ∧ r.take k = r'.take k ∧ Below w.heap.size w wr) (fun i _ => n - (intOf i).toNat)
    case atStart => exact ⟨0, Nat.zero_le _, rfl, rfl, Below.refl _ _⟩
    case round =>
      obtain ⟨k, hk, rfl, ht, hB⟩ := hrel
      have HT := hide ht
      clear ht
      by_cases hlt : k < n
      · obtain ⟨b, off, e, rfl, hb, hek, hce⟩ := (hx.below hB).elem encV_len HL.out hlt
        obtain ⟨b', off', e', rfl, hb', hek', hce'⟩ := (hy.below hB).elem encV_len HL'.out hlt
        have e0 : wr.cell? ⟨b, off + k * 3, none⟩ = some (.int .i64 e.k) := by simpa using hce 0 _ rfl
        have e1 : wr.cell? ⟨b, off + k * 3 + 1, none⟩ = some (.int .i64 e.n) := by simpa [← Nat.add_assoc] using hce 1 _ rfl
        have e2 : wr.cell? ⟨b, off + k * 3 + 2, none⟩ = some (.string e.s) := by simpa [← Nat.add_assoc] using hce 2 _ rfl
        have f0 : wr.cell? ⟨b', off' + k * 3, none⟩ = some (.int .i64 e'.k) := by simpa using hce' 0 _ rfl
        have f1 : wr.cell? ⟨b', off' + k * 3 + 1, none⟩ = some (.int .i64 e'.n) := by simpa [← Nat.add_assoc] using hce' 1 _ rfl
        have f2 : wr.cell? ⟨b', off' + k * 3 + 2, none⟩ = some (.string e'.s) := by simpa [← Nat.add_assoc] using hce' 2 _ rfl
        have HE1 := hide hek
        have HE2 := hide hek'
        clear hce hce' hek hek'
        have q1 : (0 : Int) ≤ (k : Int) := by omega
        have q2 : (k : Int) < (n : Int) := by omega
        have hv := val_eq e e'
        cases hd : decide (e = e')
        · rw [hd] at hv
          have HX := hide (decide_eq_false (ne_at HE1.out HE2.out (of_decide_eq_false hd)))
          have hv' := hv.symm
          clear hd hv
          go_wp2_with fail
          go_quiet (fail)
          go_wp2
          go_ret
          exact ⟨ret_bool HX.out.symm, below_drewN hB _⟩
        · rw [hd] at hv
          have HX := hide (eq_take HT.out HE1.out HE2.out (of_decide_eq_true hd))
          have hv' := hv.symm
          clear hd hv
          go_wp2_with fail
          go_quiet (fail)
          go_wp2
          go_roundw
          case rel => exact ⟨k + 1, by omega, by go_num, HX.out, below_drewN hB _⟩
          case measure => simp [intOf]; omega
      · obtain rfl : k = n := by omega
        have HX := hide (show decide (r = r') = true from by
          have h := HT.out
          rw [take_all HL.out, take_all HL'.out] at h
          simp [h])
        go_wp2
        go_ret
        exact ⟨ret_bool HX.out.symm, hB⟩
  · have n1 : ((n : Int) != (n' : Int)) = true := by simp; omega
    have HX := hide (show decide (r = r') = false from decide_eq_false fun e => h (by rw [← HL.out, ← HL'.out, e]))
    clear h
    go_enter Try.func52, Try.ntmps52
    go_wp2
    go_ret
    exact ⟨ret_bool HX.out.symm, Below.refl _ _⟩
set_option maxRecDepth 100000 in
set_option maxHeartbeats 2000000 in
theorem same1_any (x y : It) (w : World) (hx : RowK w w.heap.size x.A x.n x.r) (hy : RowK w w.heap.size y.A y.n y.r) :
    Calls Try.prog 51 #[.agg #[.slice x.A x.n x.c, .int .i64 x.m], .agg #[.slice y.A y.n y.c, .int .i64 y.m]] w (RetV w (.bool (decide ((x.r, x.m) = (y.r, y.m))))) := by
  have hB2 := bstep (below_val (w := w) #[.slice x.A x.n x.c, .int .i64 x.m] 47) (below_val (w := w.alloc (.cells #[.slice x.A x.n x.c, .int .i64 x.m] 47)) #[.slice y.A y.n y.c, .int .i64 y.m] 47)
  have hx2 := (hx.below hB2).rd
  have hy2 := (hy.below hB2).rd
  have hn := hx.le
  have HE := hide (RowEq_any x.A x.n x.c x.r y.A y.n y.c y.r _ hx2 hy2 hn)
  have HB := hide hB2
  clear hx2 hy2 hx hy hB2
  by_cases hm : x.m = y.m
  · have z : (x.m == y.m) = true := by simpa using hm
    have HX := hide (show decide ((x.r, x.m) = (y.r, y.m)) = decide (x.r = y.r) by simp [hm])
    clear hm
    go_enter Try.func51, Try.ntmps51
    go_wp2_with fail
    refine HE.out.mono ?_
    rintro e W ⟨rfl, hB⟩
    have HF := hide (bstep HB.out hB)
    clear hB
    go_wp2
    go_ret
    exact ⟨ret_bool HX.out.symm, HF.out⟩
  · have z : (x.m == y.m) = false := by simpa using hm
    have HX := hide (show decide ((x.r, x.m) = (y.r, y.m)) = false by simp [hm])
    clear hm
    go_enter Try.func51, Try.ntmps51
    go_wp2
    go_ret
    exact ⟨ret_bool HX.out.symm, HB.out⟩
set_option maxRecDepth 100000 in
set_option maxHeartbeats 4000000 in
theorem equalf_any (A : Option Addr) (n c : Nat) (l : List It) (A' : Option Addr) (n' c' : Nat) (l' : List It) (B B' : Nat) (w : World) (hx : BagR w B A n l) (hy : BagR w B' A' n' l') (hB : B ≤ w.heap.size) (hB' : B' ≤ w.heap.size) :
    Calls Try.prog 50 #[.slice A n c, .slice A' n' c', .func (Fn.func 51) #[] #[]] w (RetV w (.bool (decide (dat l = dat l')))) := by
  have hn := hx.le
  have HL := hide (show (dat l).length = n by rw [dat_len, hx.len])
  have HL' := hide (show (dat l').length = n' by rw [dat_len, hy.len])
  by_cases h : n = n'
  · subst h
    have n1 : ((n : Int) != (n : Int)) = false := by simp
    go_enter Try.func50, Try.ntmps50
    go_wp2_with fail
    go_loopw [17] (fun i wr => ∃ k : Nat, k ≤ n ∧ i = .int .i64 k ∧ (dat l).take k = (dat l').take k ∧ Below w.heap.size w wr) (fun i _ => n - (intOf i).toNat)
    case atStart => exact ⟨0, Nat.zero_le _, rfl, rfl, Below.refl _ _⟩
    case round =>
      obtain ⟨k, hk, rfl, ht, hBw⟩ := hrel
      have HT := hide ht
      clear ht
      by_cases hlt : k < n
      · obtain ⟨b, off, x, rfl, hb, hxk, c0, c1, hrow⟩ := (hx.below hBw).at_ hlt
        obtain ⟨b', off', x', rfl, hb', hxk', c0', c1', hrow'⟩ := (hy.below hBw).at_ hlt
        have HE1 := hide (dat_at hxk)
        have HE2 := hide (dat_at hxk')
        have hA1 := below_val (w := wr) #[.slice x.A x.n x.c, .int .i64 x.m] 47
        have d0 := (hA1.cell (p := ⟨b', off' + k * 2, none⟩) hb').trans c0'
        have d1 := (hA1.cell (p := ⟨b', off' + k * 2 + 1, none⟩) hb').trans c1'
        have hA2 := bstep hA1 (below_val (w := wr.alloc (.cells #[.slice x.A x.n x.c, .int .i64 x.m] 47)) #[.slice x'.A x'.n x'.c, .int .i64 x'.m] 47)
        have h1 := (hrow.below hA2).mono (Nat.le_trans hB (Nat.le_trans hBw.size hA2.size))
        have h2 := (hrow'.below hA2).mono (Nat.le_trans hB' (Nat.le_trans hBw.size hA2.size))
        have HS := hide (same1_any x x' _ h1 h2)
        have HB0 := hide (hBw.trans (hA2.mono hBw.size))
        have q1 : (0 : Int) ≤ (k : Int) := by omega
        have q2 : (k : Int) < (n : Int) := by omega
        clear h1 h2 hA1 hA2 hrow hrow' hxk hxk' hBw
        cases hd : decide ((x.r, x.m) = (x'.r, x'.m))
        · have HX := hide (decide_eq_false (ne_at HE1.out HE2.out (of_decide_eq_false hd)))
          rw [hd] at HS
          clear hd
          go_wp2_with fail
          refine HS.out.mono ?_
          rintro e W ⟨rfl, hB2⟩
          have HF := hide (bstep HB0.out hB2)
          clear hB2
          go_wp2
          go_ret
          exact ⟨ret_bool HX.out.symm, HF.out⟩
        · have HX := hide (eq_take HT.out HE1.out HE2.out (of_decide_eq_true hd))
          rw [hd] at HS
          clear hd
          go_wp2_with fail
          refine HS.out.mono ?_
          rintro e W ⟨rfl, hB2⟩
          have HF := hide (bstep HB0.out hB2)
          clear hB2
          go_wp2
          go_roundw
          case rel => exact ⟨k + 1, by omega, by go_num, HX.out, HF.out⟩
          case measure => simp [intOf]; omega
      · obtain rfl : k = n := by omega
        have HX := hide (show decide (dat l = dat l') = true from by
          have h := HT.out
          rw [take_all HL.out, take_all HL'.out] at h
          simp [h])
        go_wp2
        go_ret
        exact ⟨ret_bool HX.out.symm, hBw⟩
  · have n1 : ((n : Int) != (n' : Int)) = true := by simp; omega
    have HX := hide (show decide (dat l = dat l') = false from decide_eq_false fun e => h (by rw [← HL.out, ← HL'.out, e]))
    clear h
    go_enter Try.func50, Try.ntmps50
    go_wp2
    go_ret
    exact ⟨ret_bool HX.out.symm, Below.refl _ _⟩
theorem BagSame_any (A : Option Addr) (n c : Nat) (l : List It) (A' : Option Addr) (n' c' : Nat) (l' : List It) (B B' : Nat) (w : World) (hx : BagR w B A n l) (hy : BagR w B' A' n' l') (hB : B ≤ w.heap.size) (hB' : B' ≤ w.heap.size) :
    Calls Try.prog 26 #[.slice A n c, .slice A' n' c'] w (RetV w (.bool (decide (dat l = dat l')))) := by
  go_enter Try.func26, Try.ntmps26
  go_wp2_with fail
  refine (equalf_any A n c l A' n' c' l' B B' w hx hy hB hB').mono ?_
  rintro e W ⟨rfl, hBw⟩
  go_wp2
  go_ret
  exact ⟨rfl, hBw⟩
end Go.Proofs.Ytiioiajcoiaalaa
