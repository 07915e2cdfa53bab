/-
  The walk of the reference's Put over windows.
-/
import Derived.Test.YtehifbogadohgaaMgN
namespace Go.Proofs.Ytehifbogadohgaa
open Go.RowKit
attribute [local go_sem] Oper.semAt_some

/-- What Put has made after k windows; d: whether x is in. -/
def PutAt (l : List Wd) (x : Wd) (k : Nat) (acc : List Wd) (d : Bool) : Prop := match d with
  | false => acc = l.take k ∧ ∀ y ∈ l.take k, y.2 ≤ x.1
  | true => ∃ p q, l = p ++ q ∧ p.length ≤ k ∧ acc = p ++ [x] ++ q.take (k - p.length) ∧ (∀ y ∈ p, y.2 ≤ x.1) ∧ ∀ y ∈ q, x.2 ≤ y.1
theorem PutAt.len {l acc : List Wd} {x : Wd} {k : Nat} {d : Bool} (h : PutAt l x k acc d) (hk : k ≤ l.length) : acc.length ≤ k + 1 := by
  cases d
  · rw [h.1, List.length_take]; omega
  · obtain ⟨p, q, h1, h2, h3, _⟩ := h
    rw [h3, List.length_append, List.length_append, List.length_take, List.length_singleton]; omega
theorem PutAt.go {l acc : List Wd} {x y : Wd} {k : Nat} (h : PutAt l x k acc false) (hy : l[k]? = some y) (hd : y.2 ≤ x.1) : PutAt l x (k + 1) (acc ++ [y]) false := by
  refine ⟨by rw [take_snoc' hy, h.1], ?_⟩
  rw [take_snoc' hy]
  intro z hz
  rcases List.mem_append.1 hz with hz | hz
  · exact h.2 z hz
  · rw [List.mem_singleton] at hz; rw [hz]; exact hd
theorem PutAt.here {l acc : List Wd} {x y : Wd} {k : Nat} (h : PutAt l x k acc false) (hl : Dis l) (hy : l[k]? = some y) (hd : x.2 ≤ y.1) : PutAt l x (k + 1) (acc ++ [x] ++ [y]) true := by
  obtain ⟨hk, rfl⟩ := List.getElem?_eq_some_iff.1 hy
  have hq : l.drop k = l[k] :: l.drop (k + 1) := List.drop_eq_getElem_cons hk
  refine ⟨l.take k, l.drop k, (List.take_append_drop k l).symm, by rw [List.length_take]; omega, ?_, h.2, fun z hz => ?_⟩
  · rw [h.1, List.length_take, show k + 1 - min k l.length = 1 by omega, hq]; rfl
  · rw [hq] at hz
    rcases List.mem_cons.1 hz with rfl | hz
    · exact hd
    · obtain ⟨i, hi⟩ := List.mem_iff_getElem?.1 hz
      rw [List.getElem?_drop] at hi
      obtain ⟨hi', rfl⟩ := List.getElem?_eq_some_iff.1 hi
      have h1 := List.pairwise_iff_getElem.1 hl.2 k (k + 1 + i) hk hi' (by omega)
      have h2 := hl.1 l[k] (List.getElem_mem _)
      omega
theorem PutAt.on {l acc : List Wd} {x y : Wd} {k : Nat} (h : PutAt l x k acc true) (hy : l[k]? = some y) : PutAt l x (k + 1) (acc ++ [y]) true := by
  obtain ⟨p, q, h1, h2, h3, h4⟩ := h
  refine ⟨p, q, h1, by omega, ?_, h4⟩
  have hq : q[k - p.length]? = some y := by
    rw [h1, List.getElem?_append_right h2] at hy
    exact hy
  rw [show k + 1 - p.length = k - p.length + 1 by omega, take_snoc' hq, h3]
  simp
/-- What Put hands back. -/
def RetPutW (w : World) (l : List Wd) (x : Wd) (e : Ending) (w' : World) : Prop := ∃ p q A' n' c', l = p ++ q ∧ (∀ y ∈ p, y.2 ≤ x.1) ∧ (∀ y ∈ q, x.2 ≤ y.1) ∧ e = .returned (.slice A' n' c') ∧ n' = l.length + 1 ∧ Reads w' w'.heap.size 2 A' n' (flatW (p ++ [x] ++ q)) ∧ Below w.heap.size w w'
theorem put_end {w w' : World} {l acc : List Wd} {x : Wd} {A' : Option Addr} {n' c' : Nat} (h : PutAt l x l.length acc true) (hR : Reads w' w'.heap.size 2 A' n' (flatW acc)) (hB : Below w.heap.size w w') : RetPutW w l x (.returned (.slice A' n' c')) w' := by
  obtain ⟨p, q, h1, h2, h3, h4, h5⟩ := h
  have hq : q.take (l.length - p.length) = q := List.take_of_length_le (by rw [h1, List.length_append]; omega)
  rw [hq] at h3
  refine ⟨p, q, A', n', c', h1, h4, h5, rfl, ?_, by rw [← h3]; exact hR, hB⟩
  have := hR.len (enc := encW) encW_len (by omega)
  rw [← this, h3, h1]; simp; omega
theorem PutAt.last {l acc : List Wd} {x : Wd} (h : PutAt l x l.length acc false) : PutAt l x l.length (acc ++ [x]) true := by
  have h1 := h.1
  have h2 := h.2
  rw [List.take_length] at h1 h2
  exact ⟨l, [], (List.append_nil l).symm, Nat.le_refl _, by rw [h1]; simp, h2, by simp⟩
set_option maxRecDepth 100000 in
set_option maxHeartbeats 8000000 in
theorem Put_any (A : Option Addr) (n c : Nat) (l : List Wd) (a b : Int) (w : World) (hl : Reads w w.heap.size 2 A n (flatW l)) (hn : n ≤ 100000) (hd : Dis l) (hab : a < b) (hm : ∀ x ∈ l, meetB x.1 x.2 a b = false) :
    Calls Try.prog 66 #[.slice A n c, .agg #[.int .i64 a, .int .i64 b]] w (RetPutW w l (a, b)) := by
  obtain ⟨i0, hi, hz0, hz1, hz2⟩ := info_parts Try.infoWin
  have hlen : l.length = n := hl.len (enc := encW) encW_len (by omega)
  have HL := hide hlen
  have HD := hide hd
  have HM := hide hm
  clear hlen hd hm
  have hB0 := below_val (w := w) #[.int .i64 a, .int .i64 b] 35
  have x0 := Blk.new w 35 #[.int .i64 a, .int .i64 b]
  have hl1 := hl.up hB0
  have hl0 := hl.alloc (Nat.le_refl _) (.cells #[.int .i64 a, .int .i64 b] 35)
  obtain ⟨W1, hW1⟩ : ∃ W1, w.alloc (.cells #[.int .i64 a, .int .i64 b] 35) = W1 := ⟨_, rfl⟩
  go_enter Try.func66, Try.ntmps66
  go_wp2_with fail
  rw [hW1] at hB0 x0 hl1 hl0
  clear hW1 hl
  go_loopw [5, 6, 7] (fun v d i wr => ∃ (k m : Nat) (d' : Bool) (acc : List Wd), k ≤ n ∧ d = .bool d' ∧ i = .int .i64 k ∧ m ≤ k + d'.toNat ∧ PutAt l (a, b) k acc d' ∧ wr.ownsRow W1.heap.size 35 2 v m (flatW acc) ∧ Below W1.heap.size W1 wr) (fun _ _ i _ => n - (intOf i).toNat)
  case atStart => exact ⟨0, 0, false, [], Nat.zero_le _, rfl, rfl, Nat.le_refl _, ⟨rfl, by simp⟩, World.ownsRow_nil _ _ _ _, Below.refl _ _⟩
  case round =>
    obtain ⟨k, m, d', acc, hk, rfl, rfl, hmk, hp, hown, hB⟩ := hrel
    have HP := hide hp
    clear hp
    have hWs := hB.size
    by_cases hlt : k < n
    · obtain ⟨bb, off, y, rfl, hb, hyk, hc⟩ := hl1.elem (enc := encW) encW_len HL.out hlt
      have HY := hide hyk
      have hyd : meetB y.1 y.2 a b = false := HM.out y (List.mem_of_getElem? hyk)
      have hy0 := HD.out.1 y (List.mem_of_getElem? hyk)
      have HS := hide (put_side (w := (a, b)) (x := y) hab hy0 hyd)
      have HNE := hide (show eqW y.1 y.2 a b = false from by
        unfold eqW; rw [decide_eq_false_iff_not]; rintro ⟨h1, h2⟩
        unfold meetB at hyd; rw [decide_eq_false_iff_not] at hyd; omega)
      clear hyk hyd hy0
      have d0 : W1.cell? ⟨bb, off + k * 2, none⟩ = some (.int .i64 y.1) := by simpa using hc 0 _ rfl
      have d1 : W1.cell? ⟨bb, off + k * 2 + 1, none⟩ = some (.int .i64 y.2) := by simpa [← Nat.add_assoc] using hc 1 _ rfl
      clear hc
      have D0 := hide d0
      have D1 := hide d1
      clear d0 d1
      have q1 : (0 : Int) ≤ (k : Int) := by omega
      have q2 : (k : Int) < (n : Int) := by omega
      have x1 := x0.below hB x0.lt
      have hbr := Nat.lt_of_lt_of_le hb hWs
      have c0 := (hB.cell (p := ⟨bb, off + k * 2, none⟩) hb).trans D0.out
      have c1 := (hB.cell (p := ⟨bb, off + k * 2 + 1, none⟩) hb).trans D1.out
      cases d'
      · have hmk : m ≤ k := hmk
        obtain ⟨cc, hcc⟩ : ∃ cc, cmpW a b y.1 y.2 = cc := ⟨_, rfl⟩
        have C1 := hide (fun (p : BW wr) => calls_bw (p := p) (v := .int .i64 cc) (by rw [← hcc]; exact RCompare_any a b y.1 y.2 p.x))
        obtain ⟨p0, p1⟩ := bw2 x1
        have r0 := fun (p : BW wr) => BW.cell (a := ⟨bb, off + k * 2, none⟩) hbr c0 p
        have r1 := fun (p : BW wr) => BW.cell (a := ⟨bb, off + k * 2 + 1, none⟩) hbr c1 p
        by_cases h : cc ≤ 0
        · have z : decide (cc ≤ 0) = true := by simpa using h
          have HA := hide (HP.out.here HD.out HY.out (HS.out.2 (by show cmpW a b y.1 y.2 ≤ 0; rw [hcc]; exact h)))
          clear h hcc c0 c1 x1
          go_wp2_with fail
          (refine wp_region_quiet_bw (by kernel_rfl) (by kernel_rfl) ?_
           repeat (first | go_big_quiet_step (((go_at_call 29; with_reducible exact C1.out _))) | quiet_step (((go_at_call 29; with_reducible exact C1.out _))))
           refine wpQuiet_nil ?_
           intro wq hw'
           obtain ⟨⟨_, hbq⟩, hw''⟩ := hw'
           subst hw'')
          have hBq := hB.trans (hbq.mono hWs)
          have hownq := own_below hown hbq
          clear p0 p1 r0 r1 C1 hown hbq hB
          have x1 := x0.below hBq x0.lt
          have c0 := (hBq.cell (p := ⟨bb, off + k * 2, none⟩) hb).trans D0.out
          have c1 := (hBq.cell (p := ⟨bb, off + k * 2 + 1, none⟩) hb).trans D1.out
          have e0 := x1.cell 0
          have e1 := x1.cell 1
          simp at e0 e1
          have hne := neqWin
          have hm : Try.prog.eqGuardType Try.prog.depth 35 = false := by kernel_rfl
          have z2 := HNE.out
          go_wp2_with fail
          go_quiet (fail)
          clear c0 c1 e0 e1 x1
          have hBX := below_drewN hBq nq
          have hownX : (wq.drewN nq).ownsRow _ _ _ _ _ _ := hownq
          obtain ⟨X, hX⟩ : ∃ X, wq.drewN nq = X := ⟨_, rfl⟩
          rw [hX] at hBX hownX ⊢
          clear hX hBq hownq
          have x1 := x0.below hBX x0.lt
          have e0 := x1.cell 0
          have e1 := x1.cell 1
          simp at e0 e1
          have hsX := hBX.size
          go_wp2_with (first | (at_builtin; refine wpList_append_own _ rfl _ _ 22 rfl W1.heap.size 35 i0 _ 2 16 Try.underlying22 hi hz0 hz1 hz2 rfl (by decide) _ _ _ rfl (hownX.alloc _) ⟨X.heap.size, 0, none⟩ 1 1 [.int .i64 a, .int .i64 b] rfl rfl (cells_new _ _ _) (by simp [Value.oneCell']) (by unfold maxLen; omega) (by omega) (by simp; omega) ?_; intro v2 w2 hown2 hgrow _; have hB2 : Below W1.heap.size W1 w2 := below_append (hBX.alloc hBX.size _) (hownX.alloc _) (by simp; omega) hgrow; have hs2 := hB2.size; have c0 := (hB2.cell (p := ⟨bb, off + k * 2, none⟩) hb).trans D0.out; have c1 := (hB2.cell (p := ⟨bb, off + k * 2 + 1, none⟩) hb).trans D1.out; clear hgrow) | (at_builtin; refine wpList_append_own _ rfl _ _ 22 rfl W1.heap.size 35 i0 _ 2 16 Try.underlying22 hi hz0 hz1 hz2 rfl (by decide) _ _ _ rfl (hown2.alloc _) ⟨w2.heap.size, 0, none⟩ 1 1 [.int .i64 y.1, .int .i64 y.2] rfl rfl (cells_new _ _ _) (by simp [Value.oneCell']) (by unfold maxLen; omega) (by omega) (by simp; omega) ?_; intro v3 w3 hown3 hgrow _; have hB3 : Below W1.heap.size W1 w3 := below_append (hB2.alloc hB2.size _) (hown2.alloc _) (by simp; omega) hgrow; clear hgrow))
          go_wp2
          go_roundw
          case rel => exact ⟨k + 1, m + 1 + 1, true, _, by omega, rfl, by go_num, by show m + 1 + 1 ≤ k + 1 + 1; omega, HA.out, by rw [flatW_snoc, flatW_snoc]; exact hown3, hB3⟩
          case measure => simp [intOf]; omega
        · have z : decide (cc ≤ 0) = false := by simpa using h
          have HA := hide (HP.out.go HY.out (HS.out.1 (by show 0 < cmpW a b y.1 y.2; rw [hcc]; omega)))
          clear h hcc c0 c1 x1
          go_wp2_with fail
          (refine wp_region_quiet_bw (by kernel_rfl) (by kernel_rfl) ?_
           repeat (first | go_big_quiet_step (((go_at_call 29; with_reducible exact C1.out _))) | quiet_step (((go_at_call 29; with_reducible exact C1.out _))))
           refine wpQuiet_nil ?_
           intro wq hw'
           obtain ⟨⟨_, hbq⟩, hw''⟩ := hw'
           subst hw'')
          have hBq := hB.trans (hbq.mono hWs)
          have hownq := own_below hown hbq
          clear p0 p1 r0 r1 C1 hown hbq hB
          have c0 := (hBq.cell (p := ⟨bb, off + k * 2, none⟩) hb).trans D0.out
          have c1 := (hBq.cell (p := ⟨bb, off + k * 2 + 1, none⟩) hb).trans D1.out
          have hsX := hBq.size
          go_wp2_with (at_builtin; refine wpList_append_own _ rfl _ _ 22 rfl W1.heap.size 35 i0 _ 2 16 Try.underlying22 hi hz0 hz1 hz2 rfl (by decide) _ _ _ rfl (hownq.alloc _) ⟨wq.heap.size, 0, none⟩ 1 1 [.int .i64 y.1, .int .i64 y.2] rfl rfl (cells_new _ _ _) (by simp [Value.oneCell']) (by unfold maxLen; omega) (by omega) (by simp; omega) ?_; intro v3 w3 hown3 hgrow _; have hB3 : Below W1.heap.size W1 w3 := below_append (hBq.alloc hBq.size _) (hownq.alloc _) (by simp; omega) hgrow; clear hgrow)
          go_wp2
          go_roundw
          case rel => exact ⟨k + 1, m + 1, false, _, by omega, rfl, by go_num, by show m + 1 ≤ k + 1; omega, HA.out, by rw [flatW_snoc]; exact hown3, hB3⟩
          case measure => simp [intOf]; omega
      · have hmk : m ≤ k + 1 := hmk
        have HA := hide (HP.out.on HY.out)
        clear c0 c1 x1
        have c0 := (hB.cell (p := ⟨bb, off + k * 2, none⟩) hb).trans D0.out
        have c1 := (hB.cell (p := ⟨bb, off + k * 2 + 1, none⟩) hb).trans D1.out
        go_wp2_with fail
        go_quiet (fail)
        have hBX := below_drewN hB nq
        have hownX : (wr.drewN nq).ownsRow _ _ _ _ _ _ := hown
        obtain ⟨X, hX⟩ : ∃ X, wr.drewN nq = X := ⟨_, rfl⟩
        rw [hX] at hBX hownX ⊢
        clear hX hB hown c0 c1
        have c0 := (hBX.cell (p := ⟨bb, off + k * 2, none⟩) hb).trans D0.out
        have c1 := (hBX.cell (p := ⟨bb, off + k * 2 + 1, none⟩) hb).trans D1.out
        have hsX := hBX.size
        go_wp2_with (at_builtin; refine wpList_append_own _ rfl _ _ 22 rfl W1.heap.size 35 i0 _ 2 16 Try.underlying22 hi hz0 hz1 hz2 rfl (by decide) _ _ _ rfl (hownX.alloc _) ⟨X.heap.size, 0, none⟩ 1 1 [.int .i64 y.1, .int .i64 y.2] rfl rfl (cells_new _ _ _) (by simp [Value.oneCell']) (by unfold maxLen; omega) (by omega) (by simp; omega) ?_; intro v3 w3 hown3 hgrow _; have hB3 : Below W1.heap.size W1 w3 := below_append (hBX.alloc hBX.size _) (hownX.alloc _) (by simp; omega) hgrow; clear hgrow)
        go_wp2
        go_roundw
        case rel => exact ⟨k + 1, m + 1, true, _, by omega, rfl, by go_num, by show m + 1 ≤ k + 1 + 1; omega, HA.out, by rw [flatW_snoc]; exact hown3, hB3⟩
        case measure => simp [intOf]; omega
    · obtain rfl : k = n := by omega
      have x1 := x0.below hB x0.lt
      have e0 := x1.cell 0
      have e1 := x1.cell 1
      simp at e0 e1
      cases d'
      · have hmk : m ≤ k := hmk
        have hp := HP.out
        rw [← HL.out] at hp
        have HA := hide hp.last
        clear hp
        go_wp2_with (at_builtin; refine wpList_append_own _ rfl _ _ 22 rfl W1.heap.size 35 i0 _ 2 16 Try.underlying22 hi hz0 hz1 hz2 rfl (by decide) _ _ _ rfl (hown.alloc _) ⟨wr.heap.size, 0, none⟩ 1 1 [.int .i64 a, .int .i64 b] rfl rfl (cells_new _ _ _) (by simp [Value.oneCell']) (by unfold maxLen; omega) (by omega) (by simp; omega) ?_; intro v3 w3 hown3 hgrow _; have hB3 : Below W1.heap.size W1 w3 := below_append (hB.alloc hB.size _) (hown.alloc _) (by simp; omega) hgrow; clear hgrow)
        have hown3 : w3.ownsRow W1.heap.size 35 2 v3 (m + 1) (flatW (acc ++ [(a, b)])) := by rw [flatW_snoc]; exact hown3
        obtain ⟨A5, c5, rfl, hR5⟩ := own_form hown3
        have HE := hide (put_end (w := w) (n' := m + 1) (c' := c5) HA.out hR5 (bstep hB0 hB3))
        clear hown3 hR5 hB3 e0 e1 x1
        go_wp2
        go_ret
        exact HE.out
      · have hmk : m ≤ k + 1 := hmk
        have hp := HP.out
        rw [← HL.out] at hp
        obtain ⟨A5, c5, rfl, hR5⟩ := own_form hown
        have HE := hide (put_end (w := w) (c' := c5) hp hR5 (bstep hB0 hB))
        clear hown hR5 hB e0 e1 x1 hp
        go_wp2
        go_ret
        exact HE.out
end Go.Proofs.Ytehifbogadohgaa
