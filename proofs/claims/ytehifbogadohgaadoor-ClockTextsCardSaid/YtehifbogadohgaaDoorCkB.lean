/-
  The walks of clock.windows with its closure, for every valid spec and time.
-/
import Derived.Test.YtehifbogadohgaaDoorCkA
import Derived.Sort.QuietIn
namespace Go.Proofs.YtehifbogadohgaaDoor
open Go.RowKit Go.Shelf
attribute [local go_sem] Oper.semAt_some wide_fn wide_depth

def encW (x : Int × Int) : List Value := [.int .i64 x.1, .int .i64 x.2]
theorem encW_len (x : Int × Int) : (encW x).length = 2 := rfl
def encWv (x : Int × Int) : Array Value := #[.agg #[.int .i64 x.1, .int .i64 x.2]]

theorem windows_any (k z p g h t : Int) (w : World) : Calls Tryd.prog 22 #[.agg #[.int .i64 k, .int .i64 z, .int .i64 p, .int .i64 g, .int .i64 h], .int .i64 t] w fun e w' =>
    e = .returned (.func (.func 33) #[] #[.pointer (some ⟨w.heap.size, 0, none⟩), .pointer (some ⟨w.heap.size + 1, 0, none⟩)]) ∧ w' = (w.alloc (.cells #[.int .i64 k, .int .i64 z, .int .i64 p, .int .i64 g, .int .i64 h] 23)).alloc (.cells #[.int .i64 t] 3) := by
  go_enter Tryd.func22, Tryd.ntmps22
  go_wp2
  go_ret
  exact ⟨rfl, rfl⟩

theorem winsFrom_take (a b z : Int) (n m : Nat) (h : m ≤ n) : winsFrom a b z m <+: winsFrom a b z n := by
  refine ⟨(winsFrom a b z n).drop m, ?_⟩
  have e : winsFrom a b z m = (winsFrom a b z n).take m := by
    unfold winsFrom
    rw [← List.map_take, List.take_range, Nat.min_eq_left h]
  rw [e, List.take_append_drop]

theorem global_any (w : World) : Calls Tryd.prog 34 #[] w fun e w' => e = .returned (.agg #[.int .i64 (-1000000000000), .int .i64 1000000000001]) ∧ w' = w.alloc (.cells #[.int .i64 (-1000000000000), .int .i64 1000000000001] 36) := by
  go_enter Tryd.func34, Tryd.ntmps34
  go_wp2
  go_returns
  exact ⟨rfl, rfl⟩

set_option maxRecDepth 100000 in
set_option maxHeartbeats 2000000 in
theorem windows1_in (n : Nat) (hn : 1 ≤ n) (l N : Nat) (X : List Nat) (Bs Bt : Nat) (k z p g h t : Int) (hv : vspec k z p g h = true) (ht : vtime t = true) (hBs : Bs < N) (hBt : Bt < N) (hXs : Bs ∉ X) (hXt : Bt ∉ X)
    (J Jx : List (Int × Int) → World → Prop) (W : World) (hJ : AbidesFrom W.heap.size J) (hWs : Bs < W.heap.size) (hWt : Bt < W.heap.size)
    (hY : ∀ pre x W1, J pre W1 → pre.length < (wins k z p g h t).length → YieldAt Fence.wide (n - 1) Tryd.prog l (encWv x) W1 fun e W' =>
      (e = .returned (.bool true) ∧ J (pre ++ [x]) W' ∧ Bar N X W1 W') ∨ (e = .returned (.bool false) ∧ Jx (pre ++ [x]) W'))
    (c0 : W.cell? ⟨Bs, 0, none⟩ = some (.int .i64 k)) (c1 : W.cell? ⟨Bs, 1, none⟩ = some (.int .i64 z)) (c2 : W.cell? ⟨Bs, 2, none⟩ = some (.int .i64 p)) (c3 : W.cell? ⟨Bs, 3, none⟩ = some (.int .i64 g)) (c4 : W.cell? ⟨Bs, 4, none⟩ = some (.int .i64 h))
    (ct : W.cell? ⟨Bt, 0, none⟩ = some (.int .i64 t)) (h0 : J [] W) :
    CallsIn Fence.wide n Tryd.prog 33 #[.func (.yield l) #[] #[], .pointer (some ⟨Bs, 0, none⟩), .pointer (some ⟨Bt, 0, none⟩)] W fun e W' => (∃ v, e = .returned v) ∧
      ((∃ ys, ys = wins k z p g h t ∧ J ys W') ∨ (∃ pre, pre <+: wins k z p g h t ∧ Jx pre W')) := by
  have hv' := hv
  unfold vspec at hv'
  rw [decide_eq_true_eq] at hv'
  have htb : -1000000000000 ≤ t ∧ t ≤ 1000000000000 := by simpa [vtime] using ht
  obtain ⟨ht1, ht2⟩ := htb
  by_cases hk3 : k = 3
  · subst hk3
    have hg : 1 ≤ g ∧ g ≤ 1000000000 := by omega
    obtain ⟨hg1, hg2⟩ := hg
    clear hv'
    have ew : wins 3 z p g h t = [(t, t + g)] := by simp [wins]
    rw [ew] at hY ⊢
    obtain ⟨fn, tmps, assign, body, hy, hR⟩ := hY [] (t, t + g) W h0 (by simp)
    dsimp only [encWv] at hy
    refine callsIn_of_wp Tryd.func33 rfl trivial ?_ rfl
    simp only [Tryd.ntmps33, List.size_toArray, List.length_cons, List.length_nil, Nat.reduceAdd, Nat.reduceSub, Array.replicate_succ, Array.replicate_zero, List.push_toArray, List.append_toArray, List.nil_append, List.cons_append]
    gi_wp2
    refine hR.mono ?_
    rintro e W3 (⟨rfl, hJ3, hk3⟩ | ⟨rfl, hJx3⟩)
    · gi_wp2
      refine bodyPost_ret (results_none rfl _ _ _) rfl ?_
      exact ⟨⟨_, rfl⟩, .inl ⟨_, rfl, hJ3⟩⟩
    · gi_wp2
      refine bodyPost_ret (results_none rfl _ _ _) rfl ?_
      exact ⟨⟨_, rfl⟩, .inr ⟨_, List.prefix_refl _, hJx3⟩⟩
  · by_cases hk4 : k = 4
    · subst hk4
      clear hv'
      have ew : wins 4 z p g h t = [(-1000000000000, 1000000000001)] := by simp [wins]
      rw [ew] at hY ⊢
      refine callsIn_of_wp Tryd.func33 rfl trivial ?_ rfl
      simp only [Tryd.ntmps33, List.size_toArray, List.length_cons, List.length_nil, Nat.reduceAdd, Nat.reduceSub, Array.replicate_succ, Array.replicate_zero, List.push_toArray, List.append_toArray, List.nil_append, List.cons_append]
      gi_wp2_with fail
      refine (callsIn_wide.2 (global_any _)).mono ?_
      rintro e w1 ⟨rfl, rfl⟩
      have hJ1 : J [] (W.alloc (.cells #[.int .i64 (-1000000000000), .int .i64 1000000000001] 36)) := hJ [] W _ none h0 (World.grownBy_alloc W _ none) (by simp)
      obtain ⟨fn, tmps, assign, body, hy, hR⟩ := hY [] (-1000000000000, 1000000000001) _ hJ1 (by simp)
      dsimp only [encWv] at hy
      gi_wp2
      refine hR.mono ?_
      rintro e W3 (⟨rfl, hJ3, hk3⟩ | ⟨rfl, hJx3⟩)
      · gi_wp2
        refine bodyPost_ret (results_none rfl _ _ _) rfl ?_
        exact ⟨⟨_, rfl⟩, .inl ⟨_, rfl, hJ3⟩⟩
      · gi_wp2
        refine bodyPost_ret (results_none rfl _ _ _) rfl ?_
        exact ⟨⟨_, rfl⟩, .inr ⟨_, List.prefix_refl _, hJx3⟩⟩
    · have hk12 : k = 1 ∨ k = 2 := by omega
      have hs := stp_of k z p g h hv hk12
      clear hv' hv
      have ew : wins k z p g h t = winsFrom (from0 z (stepOf k z p) h t) (stepOf k z p) z (count (from0 z (stepOf k z p) h t) (stepOf k z p) t) := by simp [wins, hk3, hk4]
      rw [ew] at hY ⊢
      have hst := fun W => step_any k z p g h W
      obtain ⟨b, hb⟩ : ∃ b, stepOf k z p = b := ⟨_, rfl⟩
      rw [hb] at hs hY ew ⊢
      simp only [hb] at hst
      have HST := hide hst
      clear hst hb ew
      obtain ⟨f1, f2⟩ := from0_bd (t := t) hs
      have hcb := fun i => count_bd (b := b) (a := from0 z b h t) (t := t) hs.b1 (by have := hs.bz; omega) i
      have ef : from0 z b h t = ((t - z - h) / b + 1) * b + h := rfl
      obtain ⟨s1, s2, s3, s4, s5, s6⟩ := hs
      obtain ⟨a, ha⟩ : ∃ a, from0 z b h t = a := ⟨_, rfl⟩
      rw [ha] at f1 f2 hY ⊢
      simp only [ha] at hcb
      rw [ha] at ef
      obtain ⟨c, hc⟩ : ∃ c, count a b t = c := ⟨_, rfl⟩
      rw [hc] at hY ⊢
      simp only [hc] at hcb
      have HCB := hide hcb
      clear hcb hc ha
      have EF := hide ef
      clear ef
      have hk3' : (k == 3) = false := by simpa using hk3
      have hk4' : (k == 4) = false := by simpa using hk4
      clear hk12 hk3 hk4
      refine callsIn_of_wp Tryd.func33 rfl trivial ?_ rfl
      simp only [Tryd.ntmps33, List.size_toArray, List.length_cons, List.length_nil, Nat.reduceAdd, Nat.reduceSub, Array.replicate_succ, Array.replicate_zero, List.push_toArray, List.append_toArray, List.nil_append, List.cons_append]
      gi_wp2_with fail
      refine (callsIn_wide.2 (HST.out _)).mono ?_
      rintro e w1 ⟨rfl, rfl⟩
      have hJ1 := hJ [] W _ none h0 (World.grownBy_alloc W (.cells #[.int .i64 k, .int .i64 z, .int .i64 p, .int .i64 g, .int .i64 h] 23) none) (by simp)
      have d1 : (W.alloc (.cells #[.int .i64 k, .int .i64 z, .int .i64 p, .int .i64 g, .int .i64 h] 23)).cell? ⟨Bs, 1, none⟩ = some (.int .i64 z) := (World.cell?_alloc_lt W _ ⟨Bs, 1, none⟩ hWs).trans c1
      have d4 : (W.alloc (.cells #[.int .i64 k, .int .i64 z, .int .i64 p, .int .i64 g, .int .i64 h] 23)).cell? ⟨Bs, 4, none⟩ = some (.int .i64 h) := (World.cell?_alloc_lt W _ ⟨Bs, 4, none⟩ hWs).trans c4
      have dt : (W.alloc (.cells #[.int .i64 k, .int .i64 z, .int .i64 p, .int .i64 g, .int .i64 h] 23)).cell? ⟨Bt, 0, none⟩ = some (.int .i64 t) := (World.cell?_alloc_lt W _ ⟨Bt, 0, none⟩ hWt).trans ct
      have hg1 := World.grownBy_alloc W (.cells #[.int .i64 k, .int .i64 z, .int .i64 p, .int .i64 g, .int .i64 h] 23) none
      generalize W.alloc (.cells #[.int .i64 k, .int .i64 z, .int .i64 p, .int .i64 g, .int .i64 h] 23) = W1 at hJ1 d1 d4 dt hg1 ⊢
      have hq1 : (t - z - h) / b * b = a - b - h := by rw [EF.out, Int.add_mul]; omega
      have hq2 : -3000000000000 ≤ (t - z - h) / b ∧ (t - z - h) / b ≤ 3000000000000 := by
        refine ⟨(Int.le_ediv_iff_mul_le (by omega)).2 (by omega), (Int.ediv_le_iff_le_mul (by omega)).2 (by omega)⟩
      obtain ⟨q, hq⟩ : ∃ q, (t - z - h) / b = q := ⟨_, rfl⟩
      rw [hq] at hq1 hq2
      have hfl : ∀ W : World, CallsIn Fence.wide (n - 1) Tryd.prog 36 #[.int .i64 (t - z - h), .int .i64 b] W fun e w' => e = .returned (.int .i64 q) ∧ w' = W := fun W => by
        rw [← hq]; exact callsIn_wide.2 ((floor_any _ _ (by omega) (by omega) (by omega) W).mono fun _ _ ⟨he, hw⟩ => ⟨he, hw.symm⟩)
      clear hq
      have HFL := hide hfl
      clear hfl
      obtain ⟨hq3, hq4⟩ := hq2
      have i1 : IntKind.i64.wrap (t - z) = t - z := IntWalk.i64_in _ (by omega)
      have i2 : IntKind.i64.wrap (t - z - h) = t - z - h := IntWalk.i64_in _ (by omega)
      have i3 : IntKind.i64.wrap (q + 1) = q + 1 := IntWalk.i64_in _ (by omega)
      have i4 : IntKind.i64.wrap ((q + 1) * b) = a - h := by rw [Int.add_mul, hq1, IntWalk.i64_in _ (by omega)]; omega
      have i5 : IntKind.i64.wrap (a - h + h) = a := by rw [IntWalk.i64_in _ (by omega)]; omega
      clear hq1
      gi_wp2_with fail
      gi_quiet ((gi_at_call 36; refine CallsIn.quiet_of_same (HFL.out _)))
      clear i1 i2 i3 i4 i5 hq3 hq4 HFL
      have hJ2 : J [] (W1.drewN nq) := hJ [] W1 _ none hJ1 ⟨rfl, rfl, rfl, Nat.le_refl _, fun _ _ _ => rfl⟩ (by simp)
      replace d1 : (W1.drewN nq).cell? ⟨Bs, 1, none⟩ = some (.int .i64 z) := d1
      replace dt : (W1.drewN nq).cell? ⟨Bt, 0, none⟩ = some (.int .i64 t) := dt
      generalize W1.drewN nq = W2 at hJ2 d1 dt ⊢
      clear hJ1 d4 hg1
      gi_wp2_with fail
      gi_loopw [5] (fun i wr => ∃ m : Nat, m ≤ c ∧ i = .int .i64 (a + (m : Int) * b) ∧ J (winsFrom a b z m) wr ∧ wr.cell? ⟨Bs, 1, none⟩ = some (.int .i64 z) ∧ wr.cell? ⟨Bt, 0, none⟩ = some (.int .i64 t))
        (fun i _ => (t + 1 - intOf i).toNat)
      case atStart => exact ⟨0, Nat.zero_le _, by simp, hJ2, d1, dt⟩
      case round =>
        obtain ⟨m, hm, rfl, hJs, e1, et⟩ := hrel
        have hmb : 0 ≤ (m : Int) * b := Int.mul_nonneg (by omega) (by omega)
        by_cases hlt : m < c
        · have hle := (HCB.out m).1 hlt
          have HSN := hide (winsFrom_snoc a b z m)
          obtain ⟨fn, tmps, assign, body, hy, hR⟩ := hY _ (a + (m : Int) * b, a + (m : Int) * b + z) wr hJs (by rw [winsFrom_length, winsFrom_length]; exact hlt)
          have hx1 : (a + (m : Int) * b) + b = a + ((m + 1 : Nat) : Int) * b := by rw [Int.natCast_add, Int.add_mul]; omega
          have HX1 := hide hx1
          clear hx1
          have HP : Hid (winsFrom a b z (m + 1) <+: winsFrom a b z c) := hide (winsFrom_take a b z c (m + 1) (by omega))
          simp only [encWv] at hy
          rw [← HSN.out] at hR
          obtain ⟨x, hx⟩ : ∃ x, a + (m : Int) * b = x := ⟨_, rfl⟩
          rw [hx] at hle hy HX1 ⊢
          have hxa : a ≤ x := by omega
          clear hx HSN hmb
          gi_wp2
          refine hR.mono ?_
          rintro e W3 (⟨rfl, hJ3, hk3⟩ | ⟨rfl, hJx3⟩)
          · have e1' : W3.cell? ⟨Bs, 1, none⟩ = some (.int .i64 z) := (hk3.cell (p := ⟨Bs, 1, none⟩) hBs hXs).trans e1
            have et' : W3.cell? ⟨Bt, 0, none⟩ = some (.int .i64 t) := (hk3.cell (p := ⟨Bt, 0, none⟩) hBt hXt).trans et
            gi_wp2
            go_roundw
            case rel => exact ⟨m + 1, by omega, by rw [HX1.out], hJ3, e1', et'⟩
            case measure => simp [intOf]; omega
          · gi_wp2
            refine bodyPost_ret (results_none rfl _ _ _) rfl ?_
            exact ⟨⟨_, rfl⟩, .inr ⟨_, HP.out, hJx3⟩⟩
        · obtain rfl : m = c := by omega
          have hgt : t < a + (m : Int) * b := by
            have := mt (HCB.out m).2 hlt; omega
          obtain ⟨x, hx⟩ : ∃ x, a + (m : Int) * b = x := ⟨_, rfl⟩
          rw [hx] at hgt ⊢
          clear hx hmb
          gi_wp2
          go_end0
          exact ⟨⟨_, rfl⟩, .inl ⟨_, rfl, hJs⟩⟩
end Go.Proofs.YtehifbogadohgaaDoor
