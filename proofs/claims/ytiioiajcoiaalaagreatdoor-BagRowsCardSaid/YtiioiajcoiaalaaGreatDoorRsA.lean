/-
  Of on both sides; Long and SameRows over lists of rows.
-/
import Derived.Test.YtiioiajcoiaalaaGreatDoorRsM
import Derived.Test.YtiioiajcoiaalaaGreatDoorRwL
import Derived.Test.YtiioiajcoiaalaaGreatDoorApl
import Derived.Test.YtiioiajcoiaalaaGreatDoorBgS5
namespace Go.Proofs.YtiioiajcoiaalaaGreatDoor
open Go.RowKit
attribute [local go_sem] Oper.semAt_some
set_option linter.unusedVariables false
set_option linter.unusedSimpArgs false

theorem of1_any (x : Rk) (w : World) (hr : RowK w w.heap.size x.A x.n x.r) : Calls Tryz.prog 82 #[.slice x.A x.n x.c] w (RetV w (.bool (!okR x.r))) := by
  have HV := hide (RowValid_any x.A x.n x.c _ x.r w hr.rd (Nat.le_refl _) hr.le)
  obtain ⟨b, hb⟩ : ∃ b, okR x.r = b := ⟨_, rfl⟩
  rw [hb] at HV ⊢
  clear hb
  go_enter Tryz.func82, Tryz.ntmps82
  go_wp2_with fail
  refine HV.out.mono ?_
  rintro e W1 ⟨rfl, hB1⟩
  go_wp2
  go_ret
  exact ⟨rfl, hB1⟩
set_option maxRecDepth 100000 in
set_option maxHeartbeats 2000000 in
theorem idx_rows (A : Option Addr) (n c B : Nat) (l : List Rk) (w : World) (hx : RowL w B A n l) (hB : B ≤ w.heap.size) :
    Calls Tryz.prog 121 #[.slice A n c, .func (Fn.func 82) #[] #[]] w fun e w' => (∃ i : Int, e = .returned (.int .i64 i) ∧ decide (0 ≤ i) = !(rwD l).all okR) ∧ Below w.heap.size w w' := by
  have hn := hx.le
  have HL := hide hx.len
  go_enter Tryz.func121, Tryz.ntmps121
  go_wp2_with fail
  go_loopw [8] (fun i wr => ∃ k : Nat, k ≤ n ∧ i = .int .i64 k ∧ ((rwD l).take k).all okR = true ∧ Below w.heap.size w wr) (fun i _ => n - (intOf i).toNat)
  case atStart => exact ⟨0, Nat.zero_le _, rfl, rfl, Below.refl _ _⟩
  case round =>
    obtain ⟨k, hk, rfl, hany, hBw⟩ := hrel
    have HA := hide hany
    clear hany
    by_cases hlt : k < n
    · obtain ⟨b, off, x, rfl, hb, hxk, c0, hrow⟩ := (hx.below hBw).at_ hlt
      have HE := hide (rwD_at hxk)
      have hrow' := hrow.mono (Nat.le_trans hB hBw.size)
      clear hxk hrow
      have q1 : (0 : Int) ≤ (k : Int) := by omega
      have q2 : (k : Int) < (n : Int) := by omega
      go_wp2_with fail
      refine (of1_any x wr hrow').mono ?_
      rintro ee w1 ⟨rfl, hB1⟩
      have hB2 := bstep hBw hB1
      cases hq : okR x.r
      · have HX := hide (show (rwD l).all okR = false by rw [List.all_eq_false]; exact ⟨x.r, List.mem_of_getElem? HE.out, by rw [hq]; decide⟩)
        clear hq hB1 hBw c0
        go_wp2
        go_ret
        exact ⟨⟨_, rfl, by rw [HX.out]; simp⟩, hB2⟩
      · have HX := hide (show ((rwD l).take (k + 1)).all okR = true by rw [take_snoc' HE.out, List.all_append, HA.out]; simp [hq])
        clear hq hB1 hBw c0
        go_wp2
        go_roundw
        case rel => exact ⟨k + 1, by omega, by go_num, HX.out, hB2⟩
        case measure => simp [intOf]; omega
    · obtain rfl : k = n := by omega
      go_wp2
      go_ret
      exact ⟨⟨_, rfl, by
        have := HA.out
        rw [take_all (by rw [rwD_len]; exact HL.out)] at this
        rw [this]; rfl⟩, hBw⟩
theorem con_rows (A : Option Addr) (n c B : Nat) (l : List Rk) (w : World) (hx : RowL w B A n l) (hB : B ≤ w.heap.size) :
    Calls Tryz.prog 81 #[.slice A n c, .func (Fn.func 82) #[] #[]] w (RetV w (.bool (!(rwD l).all okR))) := by
  go_enter Tryz.func81, Tryz.ntmps81
  go_wp2_with (go_at_call 121; refine (idx_rows A n c B l w hx hB).mono ?_; rintro e w' ⟨⟨i, rfl, hi⟩, hB1⟩)
  go_ret
  exact ⟨rfl, hB1⟩
section
attribute [local go_sem] wide_fn wide_depth
set_option maxRecDepth 100000 in
set_option maxHeartbeats 4000000 in
/-- The iterator of Of: each row, once. -/
theorem of2_iter (m : Nat) (hm : 1 ≤ m) (Bx : Nat) (A : Option Addr) (n c : Nat) (l : List Rk) (W0 : World) (B S : Nat) (Kp : World → World → Prop) (Z : World → Prop) (hZ : ∀ W, Z W → Boxed W Bx 47 (.slice A n c) ∧ RowL W B A n l)
    (hZk : ∀ X Y, Z X → Kp X Y → Z Y) (hZw : ∀ X o, Z X → Z (X.alloc o)) (h00 : Z W0) :
    IterG Fence.wide m Tryz.prog 84 #[.pointer (some ⟨Bx, 0, none⟩)] (ArgR B) (onesX (rwD l)) (WrB B S []) Kp W0 := by
  intro l0 J Jx hJw hJxw hY h0
  have HZ := hide hZ
  have HZk := hide hZk
  obtain ⟨hbx, hb⟩ := hZ W0 h00
  clear hZ hZk hZw
  have HL := hide hb.len
  have HY := hide hY
  have hle := hb.le
  have hbl := hbx.lt
  clear hY hJw hJxw
  have kb := hbx.cell
  clear hbx hb
  refine callsIn_of_wp Tryz.func84 rfl trivial ?_ rfl
  simp only [Tryz.ntmps84, List.size_toArray, List.length_cons, List.length_nil, Nat.reduceAdd, Nat.reduceSub, Array.replicate_succ, Array.replicate_zero, List.push_toArray, List.append_toArray, List.nil_append, List.cons_append]
  gi_wp2_with fail
  gi_loopw [4, 7] (fun _ i wr => ∃ k : Nat, k ≤ n ∧ i = .int .i64 k ∧ J (onesX (rwD (l.take k))) wr ∧ Z wr) (fun _ i _ => n - (intOf i).toNat)
  case atStart => exact ⟨0, Nat.zero_le _, rfl, h0, h00⟩
  case round =>
    clear h0 h00 kb
    obtain ⟨k, hk, rfl, hJ, hBw⟩ := hrel
    by_cases hlt : k < n
    · obtain ⟨b, off, x, hA, hbb, hxk, e0, hrow⟩ := (HZ.out wr hBw).2.at_ hlt
      have HDT := hide (show onesX (rwD (l.take (k + 1))) = onesX (rwD (l.take k)) ++ [(x.r, 1)] by rw [take_snoc' hxk, rwD_snoc]; simp [onesX])
      have HPR := hide (show onesX (rwD (l.take k)) ++ [(x.r, 1)] <+: onesX (rwD l) by
        have := take_pre (ones_at (rwD_at hxk))
        rw [ones_take] at this
        unfold rwD at this ⊢
        rwa [← List.map_take] at this)
      clear hxk
      rw [hA]
      have HA := hide hA
      clear hA
      have q1 : (0 : Int) ≤ (k : Int) := by omega
      have q2 : (k : Int) < (n : Int) := by omega
      obtain ⟨fn', tmps', assign', body', hy, hR⟩ := HY.out _ (x.r, 1) #[.slice x.A x.n x.c, .int .i64 1] _ HPR.out hJ ⟨x.A, x.n, x.c, rfl, hrow⟩
      gi_wp2_with fail
      refine hR.mono ?_
      clear hy hR e0 hJ
      rintro e W3 (⟨rfl, hJ4, hk4⟩ | ⟨rfl, hJx4, _⟩)
      · have hB4 := HZk.out _ _ hBw hk4
        rw [← HDT.out] at hJ4
        clear hk4 hBw
        gi_wp2_with fail
        go_roundw
        case rel => exact ⟨k + 1, by omega, by go_num, hJ4, hB4⟩
        case measure => simp [intOf]; omega
      · have HJX := hide hJx4
        clear hJx4 hBw
        gi_wp2_with fail
        refine bodyPost_ret (results_none rfl _ _ _) rfl ?_
        exact ⟨⟨_, rfl⟩, .inr ⟨_, HPR.out, HJX.out⟩⟩
    · obtain rfl : k = n := by omega
      rw [take_all HL.out] at hJ
      have HJE := hide hJ
      clear hJ
      gi_wp2_with fail
      go_end0
      exact ⟨⟨_, rfl⟩, .inl HJE.out⟩
end
set_option maxRecDepth 100000 in
set_option maxHeartbeats 4000000 in
theorem Of_any (A : Option Addr) (n c : Nat) (l : List Rk) (w : World) (hx : RowL w w.heap.size A n l) (ht : Tab w) :
    Calls Tryz.prog 31 #[.slice A n c] w (RetC w (ofB (rwD l))) := by
  obtain ⟨p, hp⟩ : ∃ p, ofB (rwD l) = p := ⟨_, rfl⟩
  rw [hp]
  have HP := hide hp
  clear hp
  have hB0 := below_val (w := w) #[.slice A n c] 47
  have b0 := Boxed.new w 47 (.slice A n c)
  have hn := hx.le
  have HLN := hide hx.len
  go_enter Tryz.func31, Tryz.ntmps31
  go_upto_region 1 with fail
  obtain ⟨W0, hW0⟩ : ∃ W0, w.alloc (.cells #[.slice A n c] 47) = W0 := ⟨_, rfl⟩
  rw [hW0] at hB0 b0 ⊢
  clear hW0
  have hx0 := hx.step hB0
  have ht0 := ht.below hB0
  have k0 := b0.cell
  clear hx ht
  by_cases h4 : n ≤ 400
  · have q4 : ¬ (400 : Int) < (n : Int) := by omega
    go_wp2_with fail
    refine (con_rows A n c _ l W0 hx0 (Nat.le_refl _)).mono ?_
    rintro e W1 ⟨rfl, hB1⟩
    have hB01 := bstep hB0 hB1
    cases ho : (rwD l).all okR
    · have HQ := hide (show p = ([], 1) by rw [← HP.out]; unfold ofB; rw [ho]; simp)
      clear ho hB0 hB1 k0 b0 hx0 ht0
      go_wp2
      go_ret2
      rw [HQ.out]
      exact ⟨none, 0, 0, [], rfl, rfl, BagR.nil _ _, Nat.le_refl _, hB01⟩
    have HO := hide ho
    have HQ := hide (show p = (aftB [] (onesX (rwD l)), 0) by rw [← HP.out]; unfold ofB; rw [ho, rwD_len, HLN.out, decide_eq_true h4]; rfl)
    have hx1 := hx0.step hB1
    have ht1 := ht0.below hB1
    have b1 : Boxed W1 w.heap.size 47 (.slice A n c) := (hB1.block _ b0.lt).trans b0
    have hl9 : (rwD l).length ≤ 400 := by rw [rwD_len, HLN.out]; exact h4
    clear ho hB0 hB1 k0 b0 hx0 ht0
    go_wp2_with fail
    refine (callsIn_wide.1 (gathered_in 84 #[.pointer (some ⟨w.heap.size, 0, none⟩)] (onesX (rwD l)) W1.heap.size [] W1 (fun W hW => ht1.below (bar_nil hW)) (enters_of Tryz.func84 (by kernel_rfl) rfl)
      (fun W hW hs => of2_iter 7 (by omega) w.heap.size A n c l W W1.heap.size (W1.heap.size + 5) (KeepT W1.heap.size (W1.heap.size + 5)) (fun V => Below W1.heap.size W1 V)
        (fun V hV => ⟨(hV.block _ b1.lt).trans b1, hx1.below hV⟩) (fun X Y hX hk => hX.trans (bar_nil hk.bar)) (fun X o hX => hX.alloc hX.size o) hW)
      (fun x hx => by
        refine ⟨ones_okR HO.out x hx, ?_⟩
        obtain ⟨r, _, rfl⟩ := List.mem_map.1 hx
        exact ⟨by show (-1000000 : Int) ≤ 1; decide, by show (1 : Int) ≤ 1000000; decide⟩)
      (by rw [ones_len]; omega) (Nat.le_refl _) (by simp))).mono ?_
    rintro e W4 ⟨A4, n4, c4, l4, rfl, hnet, hbag, hcap, _, hbar⟩
    have hB04 := bstep hB01 (bar_nil hbar)
    have HD4 := hide (show dat l4 = aftB [] (onesX (rwD l)) from hnet.same (aft0_all (ones_okR HO.out)) fun _ => rfl)
    have hok := hide (ones_ok HO.out hl9)
    have hsz := hbar.size
    clear hbar hnet b1 hx1 ht1 hB01
    go_wp2_with fail
    refine (put_any A4 n4 c4 W1.heap.size l4 W4 hbag hsz hcap).mono ?_
    intro e W5 h
    rw [HD4.out] at h
    obtain ⟨A5, n5, c5, l5, rfl, r2, r3, r4, r5⟩ := told_ret' hB04 h
    have hq : toldB (aftB [] (onesX (rwD l))) = (aftB [] (onesX (rwD l)), 0) := by unfold toldB; rw [hok.out]; rfl
    rw [hq] at r2 ⊢
    have HE := hide r5
    clear r5 h hB04 hq
    go_wp2
    go_ret2
    rw [HQ.out]
    exact ⟨A5, n5, c5, l5, rfl, r2, r3, r4, HE.out⟩
  · have q4 : (400 : Int) < (n : Int) := by omega
    have HQ := hide (show p = ([], 1) by rw [← HP.out]; unfold ofB; rw [rwD_len, HLN.out, decide_eq_false h4]; rfl)
    have HE := hide hB0
    clear hB0 b0 hx0 ht0
    go_wp2
    go_ret2
    rw [HQ.out]
    exact ⟨none, 0, 0, [], rfl, rfl, BagR.nil _ _, Nat.le_refl _, HE.out⟩
set_option maxRecDepth 100000 in
set_option maxHeartbeats 4000000 in
theorem ROf_any (A : Option Addr) (n c : Nat) (l : List Rk) (w : World) (hx : RowL w w.heap.size A n l) :
    Calls Tryz.prog 32 #[.slice A n c] w (RetC w (ofB (rwD l))) := by
  obtain ⟨p, hp⟩ : ∃ p, ofB (rwD l) = p := ⟨_, rfl⟩
  rw [hp]
  have HP := hide hp
  clear hp
  have hn := hx.le
  have HLN := hide hx.len
  by_cases h4 : n ≤ 400
  · have q4 : ¬ (400 : Int) < (n : Int) := by omega
    go_enter Tryz.func32, Tryz.ntmps32
    go_wp2_with fail
    go_loopw [4, 5] (fun v i wr => ∃ (k : Nat) (A' : Option Addr) (n' c' : Nat) (l' : List It), k ≤ n ∧ i = .int .i64 k ∧ .slice A' n' c' = v ∧ ((rwD l).take k).all okR = true ∧ BagR wr wr.heap.size A' n' l' ∧ n' ≤ c' ∧ dat l' = aftB [] (onesX ((rwD l).take k)) ∧ Below w.heap.size w wr) (fun _ i _ => n - (intOf i).toNat)
    case atStart => exact ⟨0, none, 0, 0, [], Nat.zero_le _, rfl, rfl, rfl, BagR.nil _ _, Nat.le_refl _, rfl, Below.refl _ _⟩
    case round =>
      obtain ⟨k, A', n', c', l', hk, rfl, rfl, hall, hbg, hcp, hdl, hBw⟩ := hrel
      by_cases hlt : k < n
      · obtain ⟨b, off, x, rfl, hb, hxk, e0, hrow⟩ := (hx.below hBw).at_ hlt
        have HXK := hide (rwD_at hxk)
        have HALL := hide hall
        have HDL := hide hdl
        have q1 : (0 : Int) ≤ (k : Int) := by omega
        have q2 : (k : Int) < (n : Int) := by omega
        have hrw := hrow.mono hBw.size
        clear hxk hall hdl hrow
        go_wp2_with fail
        refine (R2Valid_any x.A x.n x.c _ x.r wr hrw.rd (Nat.le_refl _) hrw.le).mono ?_
        rintro e W1 ⟨rfl, hB1⟩
        have hB01 := bstep hBw hB1
        cases ho : okR x.r
        · have HQ := hide (show p = ([], 1) by
            rw [← HP.out]
            unfold ofB
            rw [show (rwD l).all okR = false by rw [List.all_eq_false]; exact ⟨x.r, List.mem_of_getElem? HXK.out, by rw [ho]; decide⟩]
            simp)
          clear ho hB1 hBw hbg e0 hrw
          go_wp2
          go_ret2
          rw [HQ.out]
          exact ⟨none, 0, 0, [], rfl, rfl, BagR.nil _ _, Nat.le_refl _, hB01⟩
        have e0' : W1.cell? ⟨b, off + k, none⟩ = some (.slice x.A x.n x.c) := (hB1.cell (p := ⟨b, off + k, none⟩) hb).trans e0
        have hn8 : x.n ≤ 1000 := by have h1 := okR_len ho; have h2 := hrw.len; omega
        have HA2 := hide (show ((rwD l).take (k + 1)).all okR = true by rw [take_snoc' HXK.out, List.all_append, HALL.out]; simp [ho])
        have hne := aft0_all (ones_okR HALL.out)
        have hln := aft0_len (ones_okR HALL.out) (onesX ((rwD l).take k)).length (Nat.le_refl _)
        rw [List.take_length, ones_len, List.length_take, ← HDL.out, dat_len, hbg.len] at hln
        have HR := hide (show ∀ z ∈ dat l', z.1.length ≤ 1000 from fun z hz => by
          rw [HDL.out] at hz
          have h1 := okR_len (hne.asc.ok z hz)
          omega)
        have HM := hide (show ∀ z ∈ dat l', -4000000000000 ≤ z.2 ∧ z.2 ≤ 4000000000000 from fun z hz => by
          rw [HDL.out] at hz
          have h1 := aft0_num (ones_okR HALL.out) (fun x hx => by
            obtain ⟨r, _, rfl⟩ := List.mem_map.1 hx
            exact ⟨by show (-1000000 : Int) ≤ 1; decide, by show (1 : Int) ≤ 1000000; decide⟩) (by rw [ones_len, List.length_take]; omega) (onesX ((rwD l).take k)).length z (by rw [List.take_length]; exact hz)
          exact h1)
        have HN := hide (show aftB [] (onesX ((rwD l).take (k + 1))) = putB (dat l') x.r 1 by
          rw [take_snoc' HXK.out, HDL.out]
          show aftB [] (((rwD l).take k ++ [x.r]).map fun r => (r, 1)) = _
          rw [List.map_append]
          exact aft_snoc [] _ (x.r, 1))
        have HPU := hide (RPut_any A' n' c' l' x.A x.n x.c x.r 1 W1 (hbg.below hB1 |>.mono hB1.size) (by omega) ((hrw.below hB1).mono hB1.size) hn8 HR.out HM.out ⟨by decide, by decide⟩)
        clear ho hB1 hBw hbg e0 hrw hne hln
        go_wp2_with fail
        refine HPU.out.mono ?_
        rintro e W2 ⟨A2', n2', c2', l2', rfl, hd2, hb2, hc2, hB2⟩
        have hBf := bstep hB01 hB2
        clear hB01 hB2 e0' HPU
        go_wp2
        go_roundw
        case rel => exact ⟨k + 1, _, _, _, l2', by omega, by go_num, rfl, HA2.out, hb2, hc2, by rw [HN.out]; exact hd2, hBf⟩
        case measure => simp [intOf] <;> omega
      · obtain rfl : k = n := by omega
        rw [take_all (by rw [rwD_len]; exact HLN.out)] at hall hdl
        have HQ := hide (show p = (aftB [] (onesX (rwD l)), 0) by rw [← HP.out]; unfold ofB; rw [hall, rwD_len, HLN.out, decide_eq_true h4]; rfl)
        have HDL := hide hdl
        clear hall hdl
        go_wp2
        go_ret2
        rw [HQ.out]
        exact ⟨A', n', c', l', rfl, HDL.out, hbg, hcp, hBw⟩
  · have q4 : (400 : Int) < (n : Int) := by omega
    have HQ := hide (show p = ([], 1) by rw [← HP.out]; unfold ofB; rw [rwD_len, HLN.out, decide_eq_false h4]; rfl)
    go_enter Tryz.func32, Tryz.ntmps32
    go_wp2
    go_ret2
    rw [HQ.out]
    exact ⟨none, 0, 0, [], rfl, rfl, BagR.nil _ _, Nat.le_refl _, Below.refl _ _⟩
set_option maxRecDepth 100000 in
set_option maxHeartbeats 2000000 in
theorem Long_rows (A : Option Addr) (n c : Nat) (l : List Rk) (w : World) (hx : RowL w w.heap.size A n l) : Calls Tryz.prog 30 #[.slice A n c] w (RetSome w) := by
  have hn := hx.le
  go_enter Tryz.func30, Tryz.ntmps30
  go_wp2_with fail
  go_loopw [3, 4] (fun s i wr => ∃ (k : Nat) (x : Int), k ≤ n ∧ s = .int .i64 x ∧ i = .int .i64 k ∧ wr = w) (fun _ i _ => n - (intOf i).toNat)
  case atStart => exact ⟨0, 0, Nat.zero_le _, rfl, rfl, rfl⟩
  case round =>
    obtain ⟨k, x, hk, rfl, rfl, rfl⟩ := hrel
    by_cases hlt : k < n
    · obtain ⟨b, off, y, rfl, hb, hyk, e0, hrow⟩ := hx.at_ hlt
      have hny := hrow.le
      have hrd := hrow.rd
      have HL := hide hrow.len
      have q1 : (0 : Int) ≤ (k : Int) := by omega
      have q2 : (k : Int) < (n : Int) := by omega
      clear hyk hrow
      go_wp2_with fail
      go_loopw [3, 5] (fun s i wr' => ∃ (j : Nat) (x : Int), j ≤ y.n ∧ s = .int .i64 x ∧ i = .int .i64 j ∧ wr' = wr) (fun _ i _ => y.n - (intOf i).toNat)
      case atStart => exact ⟨0, _, Nat.zero_le _, rfl, rfl, rfl⟩
      case round =>
        obtain ⟨j, z, hj, rfl, rfl, hw⟩ := hrel
        subst hw
        by_cases hlt2 : j < y.n
        · obtain ⟨b2, off2, e, hA2, hb2, hek, hce⟩ := hrd.elem encV_len HL.out hlt2
          have e2 := hce 2 _ rfl
          have e2' := e2
          rw [show off2 + (j * 3 + 2) = off2 + j * 3 + 2 by omega] at e2'
          rw [hA2] at e0
          clear hce hek
          have q3 : (0 : Int) ≤ (j : Int) := by omega
          have q4 : (j : Int) < (y.n : Int) := by omega
          go_wp2
          go_roundw
          case rel => exact ⟨j + 1, _, by omega, rfl, by go_num, trivial⟩
          case measure => simp [intOf]; omega
        · obtain rfl : j = y.n := by omega
          go_wp2
          go_roundw
          case rel => exact ⟨k + 1, _, by omega, rfl, by go_num, trivial⟩
          case measure => simp [intOf]; omega
    · obtain rfl : k = n := by omega
      go_wp2
      go_ret
      exact ⟨_, rfl, Below.refl _ _⟩
set_option maxRecDepth 100000 in
set_option maxHeartbeats 4000000 in
theorem SameRows_one (A : Option Addr) (n c : Nat) (A' : Option Addr) (c' B B' : Nat) (l l' : List Rk) (w : World) (hx : RowL w B A n l) (hy : RowL w B' A' n l') (hd : rwD l = rwD l') :
    Calls Tryz.prog 37 #[.slice A n c, .slice A' n c'] w (RetV w (.bool true)) := by
  have hn := hx.le
  have n1 : ((n : Int) != (n : Int)) = false := by simp
  go_enter Tryz.func37, Tryz.ntmps37
  go_wp2_with fail
  go_loopw [5] (fun i wr => ∃ k : Nat, k ≤ n ∧ i = .int .i64 k ∧ Below w.heap.size w wr) (fun i _ => n - (intOf i).toNat)
  case atStart => exact ⟨0, Nat.zero_le _, rfl, Below.refl _ _⟩
  case round =>
    obtain ⟨k, hk, rfl, hB⟩ := hrel
    by_cases hlt : k < n
    · obtain ⟨b, off, x, rfl, hb, hxk, c0, hrow⟩ := (hx.below hB).at_ hlt
      obtain ⟨b', off', x', rfl, hb', hxk', c0', hrow'⟩ := (hy.below hB).at_ hlt
      have he : x.r = x'.r := by
        have h1 := rwD_at hxk
        rw [hd, rwD_at hxk'] at h1
        injection h1 with h1
        exact h1.symm
      have hl : x.n = x'.n := by rw [← hrow.len, ← hrow'.len, he]
      rw [← hl] at c0'
      have C1 := hide (fun (p : BW wr) => calls_bw (p := p) (RowSame_one x.A x.n x.c x'.A x'.c x.r p.x (hrow.below p.h).rd (by have h := (hrow'.below p.h).rd; rw [← he, ← hl] at h; exact h) hrow.le))
      have p0 := fun (p : BW wr) => BW.cell (a := ⟨b, off + k, none⟩) hb c0 p
      have r0 := fun (p : BW wr) => BW.cell (a := ⟨b', off' + k, none⟩) hb' c0' p
      clear c0 c0' hxk hxk' he hl hrow hrow'
      have q1 : (0 : Int) ≤ (k : Int) := by omega
      have q2 : (k : Int) < (n : Int) := by omega
      go_wp2_with fail
      (refine wp_region_quiet_bw (by kernel_rfl) (by kernel_rfl) ?_
       repeat (first | go_big_quiet_step (((go_at_call 53; exact C1.out _))) | quiet_step (((go_at_call 53; exact C1.out _))))
       refine wpQuiet_nil ?_
       intro wq hw'
       obtain ⟨⟨_, hbq⟩, hw''⟩ := hw'
       subst hw'')
      have hB2 := bstep hB hbq
      clear hbq hB p0 r0 C1
      go_wp2
      go_roundw
      case rel => exact ⟨k + 1, by omega, by go_num, hB2⟩
      case measure => simp [intOf]; omega
    · obtain rfl : k = n := by omega
      go_wp2
      go_ret
      exact ⟨rfl, hB⟩
end Go.Proofs.YtiioiajcoiaalaaGreatDoor
