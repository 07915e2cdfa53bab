/-
  The walks of the program's bag.pairs and of the iterator that it hands back.
-/
import Derived.Test.YtoapjidpfghnlaaGreatDoorBgP1
import Derived.StillTailTactics
import Derived.LoopIn
import Derived.OwnWalkIn
import Derived.TacticsInMore
import Derived.RangeFuncCalls
namespace Go.Proofs.YtoapjidpfghnlaaGreatDoor
open Go.RowKit
attribute [local go_sem] Oper.semAt_some wide_fn wide_depth

/-- How many elements the slice in a box has. -/
def boxN (W : World) (b : Nat) : Nat := match W.cell? ⟨b, 0, none⟩ with
  | some (.slice _ n _) => n
  | _ => 0
theorem boxN_of {W : World} {b : Nat} {t : TypeId} {A : Option Addr} {n c : Nat} (h : Boxed W b t (.slice A n c)) : boxN W b = n := by unfold boxN; rw [h.cell]
theorem tail_run (A : Option Addr) (n c : Nat) (hc : n + 1 ≤ c) (w : World) :
    (Instr.slice 40 (.slice A (n + 1) c) (some (.int .i64 1)) none none).run Tryz.prog w = .ok (.slice (tailA A c) n (c - 1)) w := by
  have u := Tryz.underlying40
  have z := Tryz.sizeOf119
  have q : (1 : Int) ≤ (n : Int) + 1 := by omega
  unfold Instr.slice tailA
  by_cases h : c = 1
  · obtain rfl : n = 0 := by omega
    subst h
    go_simp
  · go_simp

set_option maxRecDepth 100000 in
set_option maxHeartbeats 16000000 in
theorem pairs1_in (m : Nat) (hm : 1 ≤ m) (l N : Nat) (X : List Nat) (w0 : World) (Ba Bb : Nat) (la lb : List It) (J Jx : List Pe → World → Prop) (W : World)
    (hJw : ∀ s X Y, J s X → WrQ Ba Bb X Y → J s Y)
    (hY : ∀ pre x W1, pre ++ [x] <+: prI la lb → J pre W1 → YieldAt Fence.wide (m - 1) Tryz.prog l (encPe x) W1 fun e W' =>
      (e = .returned (.bool true) ∧ J (pre ++ [x]) W' ∧ Bar N X W1 W') ∨ (e = .returned (.bool false) ∧ Jx (pre ++ [x]) W'))
    (hN : w0.heap.size ≤ N) (hBa : w0.heap.size ≤ Ba) (hBb : w0.heap.size ≤ Bb) (hne : Ba ≠ Bb) (hBaN : Ba < N) (hBbN : Bb < N) (hX : ∀ x ∈ X, w0.heap.size ≤ x) (hXa : Ba ∉ X) (hXb : Bb ∉ X)
    (Aa : Option Addr) (na ca : Nat) (Ab : Option Addr) (nb cb : Nat) (ha : Boxed W Ba 40 (.slice Aa na ca)) (hb : Boxed W Bb 40 (.slice Ab nb cb))
    (hra : BagR w0 w0.heap.size Aa na la) (hrb : BagR w0 w0.heap.size Ab nb lb) (hca : na ≤ ca) (hcb : nb ≤ cb) (hB : Below w0.heap.size w0 W) (h0 : J [] W) :
    CallsIn Fence.wide m Tryz.prog 241 #[.func (.yield l) #[] #[], .pointer (some ⟨Ba, 0, none⟩), .pointer (some ⟨Bb, 0, none⟩)] W fun e W' => (∃ v, e = .returned v) ∧ (J (prI la lb) W' ∨ ∃ pre, pre <+: prI la lb ∧ Jx pre W') := by
  refine callsIn_of_wp Tryz.func241 rfl trivial ?_ rfl
  simp only [Tryz.ntmps241, List.size_toArray, List.length_cons, List.length_nil, Nat.reduceAdd, Nat.reduceSub, Array.replicate_succ, Array.replicate_zero, List.push_toArray, List.append_toArray, List.nil_append, List.cons_append]
  gi_wp2_with fail
  gi_loopw [4] (fun _ wr => ∃ (pre : List Pe) (la' lb' : List It) (Aa : Option Addr) (na ca : Nat) (Ab : Option Addr) (nb cb : Nat), prI la lb = pre ++ prI la' lb' ∧ J pre wr ∧ Below w0.heap.size w0 wr ∧
      Boxed wr Ba 40 (.slice Aa na ca) ∧ Boxed wr Bb 40 (.slice Ab nb cb) ∧ BagR w0 w0.heap.size Aa na la' ∧ BagR w0 w0.heap.size Ab nb lb' ∧ na ≤ ca ∧ nb ≤ cb) (fun _ wr => boxN wr Ba + boxN wr Bb)
  case atStart => exact ⟨[], la, lb, Aa, na, ca, Ab, nb, cb, rfl, h0, hB, ha, hb, hra, hrb, hca, hcb⟩
  case round =>
    clear h0 hB ha hb hra hrb hca hcb
    obtain ⟨pre, la', lb', Aa, na, ca, Ab, nb, cb, hpr, hJ, hB, ha, hb, hra, hrb, hca, hcb⟩ := hrel
    have ka := ha.cell
    have kb := hb.cell
    have hla := hra.len
    have hlb := hrb.len
    have HMU := hide (show boxN wr Ba + boxN wr Bb = na + nb from by rw [boxN_of ha, boxN_of hb])
    cases la' with
    | nil =>
      cases lb' with
      | nil =>
        obtain rfl : na = 0 := by simpa using hla.symm
        obtain rfl : nb = 0 := by simpa using hlb.symm
        have HP := hide (show prI la lb = pre from by rw [hpr, prI, List.append_nil])
        gi_wp2
        go_end0
        exact ⟨⟨_, rfl⟩, .inl (by rw [HP.out]; exact hJ)⟩
      | cons y lb' =>
        obtain rfl : na = 0 := by simpa using hla.symm
        obtain ⟨n2, rfl⟩ : ∃ n', nb = n' + 1 := ⟨nb - 1, by simp at hlb; omega⟩
        obtain ⟨b2, o2, x', rfl, hb2, hx', f0, f1, hrowb⟩ := hrb.at_ (show 0 < n2 + 1 by omega)
        obtain rfl : y = x' := by simpa using hx'
        have qb : (0 : Int) < ((n2 + 1 : Nat) : Int) := by omega
        have ib0 : w0.cell? ⟨b2, o2, none⟩ = some (.slice y.A y.n y.c) := by simpa using f0
        have ib1 : w0.cell? ⟨b2, o2 + 1, none⟩ = some (.int .i64 y.m) := by simpa using f1
        clear f0 f1 hx'
        have HP := hide (show prI la lb = (pre ++ [rightE y]) ++ prI [] lb' from by rw [hpr, prI, List.append_assoc]; rfl)
        have hyy := fun W1 hJ1 => hY pre (rightE y) W1 ⟨_, HP.out.symm⟩ hJ1
        have pw := PW.start ha hb hne #[.int .i64 0, .int .i64 0]
        clear hpr
        have ka1 := pw.a.cell
        have kb1 := pw.b.cell
        have hBc : Below w0.heap.size w0 (wr.alloc (.cells #[.int .i64 0, .int .i64 0] 233)) := hB.alloc hB.size _
        gi_wp2_with fail
        obtain ⟨Wc, hWc⟩ : ∃ Wc, wr.alloc (.cells #[.int .i64 0, .int .i64 0] 233) = Wc := ⟨_, rfl⟩
        rw [hWc] at pw hBc ⊢
        clear hWc ka1 kb1 ka kb
        have ka := pw.a.cell
        have kb := pw.b.cell
        have db0 := (hBc.cell (p := ⟨b2, o2, none⟩) hb2).trans ib0
        have db1 := (hBc.cell (p := ⟨b2, o2 + 1, none⟩) hb2).trans ib1
        refine wpIn_wide.2 ?_
        go_still_tail 10, (by kernel_rfl)
        change wpList _ _ _ _ _ Wc.drew
        have t1 := pw.drew
        obtain ⟨V1, hV1⟩ : ∃ V, Wc.drew = V := ⟨_, rfl⟩
        have g1 : Below w0.heap.size w0 V1 := by rw [← hV1]; exact hBc.drew
        rw [hV1] at t1 ⊢
        clear hV1 ka kb db0 db1
        have fn := t1.n.frozen 1
        have kn := t1.n.cell 1
        have s1 := t1.setN 1 (.int .i64 y.m)
        have ka := s1.b.cell
        have fa := s1.b.frozen
        have u1 := s1.setB (.slice (tailA (some ⟨b2, o2, none⟩) cb) n2 (cb - 1))
        have hsl := fun w => tail_run (some ⟨b2, o2, none⟩) n2 cb hcb w
        have m1 : Below w0.heap.size w0 ((V1.setCell ⟨wr.heap.size, 1, none⟩ (.int .i64 y.m)).setCell ⟨Bb, 0, none⟩ (.slice (tailA (some ⟨b2, o2, none⟩) cb) n2 (cb - 1))) := (g1.setCell (p := ⟨wr.heap.size, 1, none⟩) hB.size _).setCell (p := ⟨Bb, 0, none⟩) hBb _
        simp at kn
        have hJ3 := hJw _ _ _ hJ u1.q
        obtain ⟨fn', tmps', assign', body', hy, hR⟩ := hyy _ hJ3
        have z0 := u1.n.cell 0
        have z1 := u1.n.cell 1
        simp at z0 z1
        simp only [encPe, rightE] at hy
        have HU := hide u1
        have HM := hide m1
        clear u1 m1 s1 t1 g1 hyy
        go_wp2_with fail
        gi_wp2_with fail
        refine hR.mono ?_
        rintro e W3 (⟨rfl, hJ4, hk4⟩ | ⟨rfl, hJx4⟩)
        · have h5a := hk4.boxed HU.out.a hBaN hXa
          have h5b := hk4.boxed HU.out.b hBbN hXb
          have h5 := HM.out.trans (hk4.below hN hX)
          have HN := hide (show boxN W3 Ba + boxN W3 Bb < 0 + (n2 + 1) from by rw [boxN_of h5a, boxN_of h5b]; omega)
          clear hy hR
          gi_wp2
          go_roundw
          case rel => exact ⟨pre ++ [rightE y], [], lb', _, _, _, _, _, _, HP.out, hJ4, h5, h5a, h5b, hra, hrb.tail hcb, by omega, by omega⟩
          case measure => rw [HMU.out]; exact HN.out
        · clear hy hR
          gi_wp2
          refine bodyPost_ret (results_none rfl _ _ _) rfl ?_
          exact ⟨⟨_, rfl⟩, .inr ⟨_, ⟨_, HP.out.symm⟩, hJx4⟩⟩
    | cons x la' =>
      cases lb' with
      | nil =>
        obtain ⟨n1, rfl⟩ : ∃ n', na = n' + 1 := ⟨na - 1, by simp at hla; omega⟩
        obtain ⟨b1, o1, x', rfl, hb1, hx', c0, c1, hrowa⟩ := hra.at_ (show 0 < n1 + 1 by omega)
        obtain rfl : x = x' := by simpa using hx'
        have qa : (0 : Int) < ((n1 + 1 : Nat) : Int) := by omega
        have ia0 : w0.cell? ⟨b1, o1, none⟩ = some (.slice x.A x.n x.c) := by simpa using c0
        have ia1 : w0.cell? ⟨b1, o1 + 1, none⟩ = some (.int .i64 x.m) := by simpa using c1
        clear c0 c1 hx'
        obtain rfl : nb = 0 := by simpa using hlb.symm
        have HP := hide (show prI la lb = (pre ++ [leftE x]) ++ prI la' [] from by rw [hpr, prI, List.append_assoc]; rfl)
        have hyy := fun W1 hJ1 => hY pre (leftE x) W1 ⟨_, HP.out.symm⟩ hJ1
        have pw := PW.start ha hb hne #[.int .i64 0, .int .i64 0]
        clear hpr
        have ka1 := pw.a.cell
        have kb1 := pw.b.cell
        have hBc : Below w0.heap.size w0 (wr.alloc (.cells #[.int .i64 0, .int .i64 0] 233)) := hB.alloc hB.size _
        gi_wp2_with fail
        obtain ⟨Wc, hWc⟩ : ∃ Wc, wr.alloc (.cells #[.int .i64 0, .int .i64 0] 233) = Wc := ⟨_, rfl⟩
        rw [hWc] at pw hBc ⊢
        clear hWc ka1 kb1 ka kb
        have ka := pw.a.cell
        have kb := pw.b.cell
        have da0 := (hBc.cell (p := ⟨b1, o1, none⟩) hb1).trans ia0
        have da1 := (hBc.cell (p := ⟨b1, o1 + 1, none⟩) hb1).trans ia1
        refine wpIn_wide.2 ?_
        go_still_tail 10, (by kernel_rfl)
        change wpList _ _ _ _ _ Wc.drew
        have t1 := pw.drew
        obtain ⟨V1, hV1⟩ : ∃ V, Wc.drew = V := ⟨_, rfl⟩
        have g1 : Below w0.heap.size w0 V1 := by rw [← hV1]; exact hBc.drew
        rw [hV1] at t1 ⊢
        clear hV1 ka kb da0 da1
        have fn := t1.n.frozen 0
        have kn := t1.n.cell 0
        have s1 := t1.setN 0 (.int .i64 x.m)
        have ka := s1.a.cell
        have fa := s1.a.frozen
        have u1 := s1.setA (.slice (tailA (some ⟨b1, o1, none⟩) ca) n1 (ca - 1))
        have hsl := fun w => tail_run (some ⟨b1, o1, none⟩) n1 ca hca w
        have m1 : Below w0.heap.size w0 ((V1.setCell ⟨wr.heap.size, 0, none⟩ (.int .i64 x.m)).setCell ⟨Ba, 0, none⟩ (.slice (tailA (some ⟨b1, o1, none⟩) ca) n1 (ca - 1))) := (g1.setCell (p := ⟨wr.heap.size, 0, none⟩) hB.size _).setCell (p := ⟨Ba, 0, none⟩) hBa _
        simp at kn
        have hJ3 := hJw _ _ _ hJ u1.q
        obtain ⟨fn', tmps', assign', body', hy, hR⟩ := hyy _ hJ3
        have z0 := u1.n.cell 0
        have z1 := u1.n.cell 1
        simp at z0 z1
        simp only [encPe, leftE] at hy
        have HU := hide u1
        have HM := hide m1
        clear u1 m1 s1 t1 g1 hyy
        go_wp2_with fail
        gi_wp2_with fail
        refine hR.mono ?_
        rintro e W3 (⟨rfl, hJ4, hk4⟩ | ⟨rfl, hJx4⟩)
        · have h5a := hk4.boxed HU.out.a hBaN hXa
          have h5b := hk4.boxed HU.out.b hBbN hXb
          have h5 := HM.out.trans (hk4.below hN hX)
          have HN := hide (show boxN W3 Ba + boxN W3 Bb < (n1 + 1) + 0 from by rw [boxN_of h5a, boxN_of h5b]; omega)
          clear hy hR
          gi_wp2
          go_roundw
          case rel => exact ⟨pre ++ [leftE x], la', [], _, _, _, _, _, _, HP.out, hJ4, h5, h5a, h5b, hra.tail hca, hrb, by omega, by omega⟩
          case measure => rw [HMU.out]; exact HN.out
        · clear hy hR
          gi_wp2
          refine bodyPost_ret (results_none rfl _ _ _) rfl ?_
          exact ⟨⟨_, rfl⟩, .inr ⟨_, ⟨_, HP.out.symm⟩, hJx4⟩⟩
      | cons y lb' =>
        obtain ⟨n1, rfl⟩ : ∃ n', na = n' + 1 := ⟨na - 1, by simp at hla; omega⟩
        obtain ⟨b1, o1, x', rfl, hb1, hx', c0, c1, hrowa⟩ := hra.at_ (show 0 < n1 + 1 by omega)
        obtain rfl : x = x' := by simpa using hx'
        have qa : (0 : Int) < ((n1 + 1 : Nat) : Int) := by omega
        have ia0 : w0.cell? ⟨b1, o1, none⟩ = some (.slice x.A x.n x.c) := by simpa using c0
        have ia1 : w0.cell? ⟨b1, o1 + 1, none⟩ = some (.int .i64 x.m) := by simpa using c1
        clear c0 c1 hx'
        obtain ⟨n2, rfl⟩ : ∃ n', nb = n' + 1 := ⟨nb - 1, by simp at hlb; omega⟩
        obtain ⟨b2, o2, x', rfl, hb2, hx', f0, f1, hrowb⟩ := hrb.at_ (show 0 < n2 + 1 by omega)
        obtain rfl : y = x' := by simpa using hx'
        have qb : (0 : Int) < ((n2 + 1 : Nat) : Int) := by omega
        have ib0 : w0.cell? ⟨b2, o2, none⟩ = some (.slice y.A y.n y.c) := by simpa using f0
        have ib1 : w0.cell? ⟨b2, o2 + 1, none⟩ = some (.int .i64 y.m) := by simpa using f1
        clear f0 f1 hx'
        have pw := PW.start ha hb hne #[.int .i64 0, .int .i64 0]
        have ka1 := pw.a.cell
        have kb1 := pw.b.cell
        have hBc : Below w0.heap.size w0 (wr.alloc (.cells #[.int .i64 0, .int .i64 0] 233)) := hB.alloc hB.size _
        gi_wp2_with fail
        obtain ⟨Wc, hWc⟩ : ∃ Wc, wr.alloc (.cells #[.int .i64 0, .int .i64 0] 233) = Wc := ⟨_, rfl⟩
        rw [hWc] at pw hBc ⊢
        clear hWc ka1 kb1 ka kb
        have sc := hBc.size
        have p0 := fun (p : BW Wc) => BW.cell (a := ⟨Ba, 0, none⟩) (by show Ba < _; exact pw.a.lt) pw.a.cell p
        have p1 := fun (p : BW Wc) => BW.cell (a := ⟨Bb, 0, none⟩) (by show Bb < _; exact pw.b.lt) pw.b.cell p
        have p2 := fun (p : BW Wc) => BW.cell (a := ⟨b1, o1, none⟩) (by show b1 < _; omega) ((hBc.cell (p := ⟨b1, o1, none⟩) hb1).trans ia0) p
        have p3 := fun (p : BW Wc) => BW.cell (a := ⟨b2, o2, none⟩) (by show b2 < _; omega) ((hBc.cell (p := ⟨b2, o2, none⟩) hb2).trans ib0) p
        have C1 := hide (fun (p : BW Wc) => calls_bw (p := p) (Compare_any x.A x.n x.c x.r y.A y.n y.c y.r p.x ((hrowa.below hBc).below p.h).rd ((hrowb.below hBc).below p.h).rd hrowa.le))
        obtain ⟨cc, hcc⟩ : ∃ cc, cmpR x.r y.r = cc := ⟨_, rfl⟩
        rw [hcc] at C1
        refine wpIn_wide.2 ?_
        (refine wp_region_quiet_bw (by kernel_rfl) (by kernel_rfl) ?_
         repeat (first | go_big_quiet_step (((go_at_call 130; exact C1.out _))) | quiet_step (((go_at_call 130; exact C1.out _))))
         refine wpQuiet_nil ?_
         intro wq hw'
         obtain ⟨⟨_, hbq⟩, hw''⟩ := hw'
         subst hw'')
        have pq := pw.below hbq
        have hBq := hBc.trans (hbq.mono sc)
        clear hbq pw hBc p0 p1 p2 p3 C1 sc
        obtain ⟨Wq, hWq⟩ : ∃ W, wq = W := ⟨_, rfl⟩
        rw [hWq] at pq hBq ⊢
        clear hWq
        by_cases hc : cc < 0
        · have n1' : cc ≤ 0 := by omega
          have n2' : ¬ 0 ≤ cc := by omega
          have HP := hide (show prI la lb = (pre ++ [leftE x]) ++ prI la' (y :: lb') from by rw [hpr, prI, if_pos (by rw [hcc]; exact hc), List.append_assoc]; rfl)
          have hyy := fun W1 hJ1 => hY pre (leftE x) W1 ⟨_, HP.out.symm⟩ hJ1
          clear hpr
          have ka := pq.a.cell
          have kb := pq.b.cell
          have da0 := (hBq.cell (p := ⟨b1, o1, none⟩) hb1).trans ia0
          have da1 := (hBq.cell (p := ⟨b1, o1 + 1, none⟩) hb1).trans ia1
          have db0 := (hBq.cell (p := ⟨b2, o2, none⟩) hb2).trans ib0
          have db1 := (hBq.cell (p := ⟨b2, o2 + 1, none⟩) hb2).trans ib1
          gi_wp2_with fail
          refine wpIn_wide.2 ?_
          go_still_tail 10, (by kernel_rfl)
          change wpList _ _ _ _ _ Wq.drew
          have t1 := pq.drew
          obtain ⟨V1, hV1⟩ : ∃ V, Wq.drew = V := ⟨_, rfl⟩
          have g1 : Below w0.heap.size w0 V1 := by rw [← hV1]; exact hBq.drew
          rw [hV1] at t1 ⊢
          clear hV1 ka kb da0 da1 db0 db1
          have fn := t1.n.frozen 0
          have kn := t1.n.cell 0
          have s1 := t1.setN 0 (.int .i64 x.m)
          have ka := s1.a.cell
          have fa := s1.a.frozen
          have u1 := s1.setA (.slice (tailA (some ⟨b1, o1, none⟩) ca) n1 (ca - 1))
          have hsl := fun w => tail_run (some ⟨b1, o1, none⟩) n1 ca hca w
          have m1 : Below w0.heap.size w0 ((V1.setCell ⟨wr.heap.size, 0, none⟩ (.int .i64 x.m)).setCell ⟨Ba, 0, none⟩ (.slice (tailA (some ⟨b1, o1, none⟩) ca) n1 (ca - 1))) := (g1.setCell (p := ⟨wr.heap.size, 0, none⟩) hB.size _).setCell (p := ⟨Ba, 0, none⟩) hBa _
          simp at kn
          have hJ3 := hJw _ _ _ hJ u1.q
          obtain ⟨fn', tmps', assign', body', hy, hR⟩ := hyy _ hJ3
          have z0 := u1.n.cell 0
          have z1 := u1.n.cell 1
          simp at z0 z1
          simp only [encPe, leftE] at hy
          have HU := hide u1
          have HM := hide m1
          clear u1 m1 s1 t1 g1 hyy
          go_wp2_with fail
          gi_wp2_with fail
          refine hR.mono ?_
          rintro e W3 (⟨rfl, hJ4, hk4⟩ | ⟨rfl, hJx4⟩)
          · have h5a := hk4.boxed HU.out.a hBaN hXa
            have h5b := hk4.boxed HU.out.b hBbN hXb
            have h5 := HM.out.trans (hk4.below hN hX)
            have HN := hide (show boxN W3 Ba + boxN W3 Bb < (n1 + 1) + (n2 + 1) from by rw [boxN_of h5a, boxN_of h5b]; omega)
            clear hy hR
            gi_wp2
            go_roundw
            case rel => exact ⟨pre ++ [leftE x], la', (y :: lb'), _, _, _, _, _, _, HP.out, hJ4, h5, h5a, h5b, hra.tail hca, hrb, by omega, by omega⟩
            case measure => rw [HMU.out]; exact HN.out
          · clear hy hR
            gi_wp2
            refine bodyPost_ret (results_none rfl _ _ _) rfl ?_
            exact ⟨⟨_, rfl⟩, .inr ⟨_, ⟨_, HP.out.symm⟩, hJx4⟩⟩
        · by_cases hc : 0 < cc
          · have n1' : ¬ cc ≤ 0 := by omega
            have n2' : 0 ≤ cc := by omega
            have HP := hide (show prI la lb = (pre ++ [rightE y]) ++ prI (x :: la') lb' from by rw [hpr, prI, if_neg (by omega), if_pos (by rw [hcc]; exact hc), List.append_assoc]; rfl)
            have hyy := fun W1 hJ1 => hY pre (rightE y) W1 ⟨_, HP.out.symm⟩ hJ1
            clear hpr
            have ka := pq.a.cell
            have kb := pq.b.cell
            have da0 := (hBq.cell (p := ⟨b1, o1, none⟩) hb1).trans ia0
            have da1 := (hBq.cell (p := ⟨b1, o1 + 1, none⟩) hb1).trans ia1
            have db0 := (hBq.cell (p := ⟨b2, o2, none⟩) hb2).trans ib0
            have db1 := (hBq.cell (p := ⟨b2, o2 + 1, none⟩) hb2).trans ib1
            gi_wp2_with fail
            refine wpIn_wide.2 ?_
            go_still_tail 10, (by kernel_rfl)
            change wpList _ _ _ _ _ Wq.drew
            have t1 := pq.drew
            obtain ⟨V1, hV1⟩ : ∃ V, Wq.drew = V := ⟨_, rfl⟩
            have g1 : Below w0.heap.size w0 V1 := by rw [← hV1]; exact hBq.drew
            rw [hV1] at t1 ⊢
            clear hV1 ka kb da0 da1 db0 db1
            have fn := t1.n.frozen 1
            have kn := t1.n.cell 1
            have s1 := t1.setN 1 (.int .i64 y.m)
            have ka := s1.b.cell
            have fa := s1.b.frozen
            have u1 := s1.setB (.slice (tailA (some ⟨b2, o2, none⟩) cb) n2 (cb - 1))
            have hsl := fun w => tail_run (some ⟨b2, o2, none⟩) n2 cb hcb w
            have m1 : Below w0.heap.size w0 ((V1.setCell ⟨wr.heap.size, 1, none⟩ (.int .i64 y.m)).setCell ⟨Bb, 0, none⟩ (.slice (tailA (some ⟨b2, o2, none⟩) cb) n2 (cb - 1))) := (g1.setCell (p := ⟨wr.heap.size, 1, none⟩) hB.size _).setCell (p := ⟨Bb, 0, none⟩) hBb _
            simp at kn
            have hJ3 := hJw _ _ _ hJ u1.q
            obtain ⟨fn', tmps', assign', body', hy, hR⟩ := hyy _ hJ3
            have z0 := u1.n.cell 0
            have z1 := u1.n.cell 1
            simp at z0 z1
            simp only [encPe, rightE] at hy
            have HU := hide u1
            have HM := hide m1
            clear u1 m1 s1 t1 g1 hyy
            go_wp2_with fail
            gi_wp2_with fail
            refine hR.mono ?_
            rintro e W3 (⟨rfl, hJ4, hk4⟩ | ⟨rfl, hJx4⟩)
            · have h5a := hk4.boxed HU.out.a hBaN hXa
              have h5b := hk4.boxed HU.out.b hBbN hXb
              have h5 := HM.out.trans (hk4.below hN hX)
              have HN := hide (show boxN W3 Ba + boxN W3 Bb < (n1 + 1) + (n2 + 1) from by rw [boxN_of h5a, boxN_of h5b]; omega)
              clear hy hR
              gi_wp2
              go_roundw
              case rel => exact ⟨pre ++ [rightE y], (x :: la'), lb', _, _, _, _, _, _, HP.out, hJ4, h5, h5a, h5b, hra, hrb.tail hcb, by omega, by omega⟩
              case measure => rw [HMU.out]; exact HN.out
            · clear hy hR
              gi_wp2
              refine bodyPost_ret (results_none rfl _ _ _) rfl ?_
              exact ⟨⟨_, rfl⟩, .inr ⟨_, ⟨_, HP.out.symm⟩, hJx4⟩⟩
          · have n1' : cc ≤ 0 := by omega
            have n2' : 0 ≤ cc := by omega
            have HP := hide (show prI la lb = (pre ++ [midE x y]) ++ prI la' lb' from by rw [hpr, prI, if_neg (by omega), if_neg (by omega), List.append_assoc]; rfl)
            have hyy := fun W1 hJ1 => hY pre (midE x y) W1 ⟨_, HP.out.symm⟩ hJ1
            clear hpr
            have ka := pq.a.cell
            have kb := pq.b.cell
            have da0 := (hBq.cell (p := ⟨b1, o1, none⟩) hb1).trans ia0
            have da1 := (hBq.cell (p := ⟨b1, o1 + 1, none⟩) hb1).trans ia1
            have db0 := (hBq.cell (p := ⟨b2, o2, none⟩) hb2).trans ib0
            have db1 := (hBq.cell (p := ⟨b2, o2 + 1, none⟩) hb2).trans ib1
            gi_wp2_with fail
            refine wpIn_wide.2 ?_
            go_still_tail 10, (by kernel_rfl)
            change wpList _ _ _ _ _ Wq.drew
            have t1 := pq.drew
            obtain ⟨V1, hV1⟩ : ∃ V, Wq.drew = V := ⟨_, rfl⟩
            have g1 : Below w0.heap.size w0 V1 := by rw [← hV1]; exact hBq.drew
            rw [hV1] at t1 ⊢
            clear hV1 ka kb da0 da1 db0 db1
            have fn := t1.n.frozen 0
            have kn := t1.n.cell 0
            have s1 := t1.setN 0 (.int .i64 x.m)
            have ka := s1.a.cell
            have fa := s1.a.frozen
            have u1 := s1.setA (.slice (tailA (some ⟨b1, o1, none⟩) ca) n1 (ca - 1))
            have hsl := fun w => tail_run (some ⟨b1, o1, none⟩) n1 ca hca w
            have m1 : Below w0.heap.size w0 ((V1.setCell ⟨wr.heap.size, 0, none⟩ (.int .i64 x.m)).setCell ⟨Ba, 0, none⟩ (.slice (tailA (some ⟨b1, o1, none⟩) ca) n1 (ca - 1))) := (g1.setCell (p := ⟨wr.heap.size, 0, none⟩) hB.size _).setCell (p := ⟨Ba, 0, none⟩) hBa _
            simp at kn
            go_wp2_with fail
            gi_wp2_with fail
            obtain ⟨Wd, hWd⟩ : ∃ Wd, (V1.setCell ⟨wr.heap.size, 0, none⟩ (.int .i64 x.m)).setCell ⟨Ba, 0, none⟩ (.slice (tailA (some ⟨b1, o1, none⟩) ca) n1 (ca - 1)) = Wd := ⟨_, rfl⟩
            rw [hWd] at u1 m1 ⊢
            clear hWd s1 ka fa hsl fn kn t1 g1
            have ka := u1.a.cell
            have kb := u1.b.cell
            have db0 := (m1.cell (p := ⟨b2, o2, none⟩) hb2).trans ib0
            have db1 := (m1.cell (p := ⟨b2, o2 + 1, none⟩) hb2).trans ib1
            refine wpIn_wide.2 ?_
            go_still_tail 10, (by kernel_rfl)
            change wpList _ _ _ _ _ Wd.drew
            have t2 := u1.drew
            obtain ⟨V2, hV2⟩ : ∃ V, Wd.drew = V := ⟨_, rfl⟩
            have g2 : Below w0.heap.size w0 V2 := by rw [← hV2]; exact m1.drew
            rw [hV2] at t2 ⊢
            clear hV2 ka kb db0 db1
            have fn := t2.n.frozen 1
            have kn := t2.n.cell 1
            have s2 := t2.setN 1 (.int .i64 y.m)
            have ka := s2.b.cell
            have fa := s2.b.frozen
            have u2 := s2.setB (.slice (tailA (some ⟨b2, o2, none⟩) cb) n2 (cb - 1))
            have hsl := fun w => tail_run (some ⟨b2, o2, none⟩) n2 cb hcb w
            have m2 : Below w0.heap.size w0 ((V2.setCell ⟨wr.heap.size, 1, none⟩ (.int .i64 y.m)).setCell ⟨Bb, 0, none⟩ (.slice (tailA (some ⟨b2, o2, none⟩) cb) n2 (cb - 1))) := (g2.setCell (p := ⟨wr.heap.size, 1, none⟩) hB.size _).setCell (p := ⟨Bb, 0, none⟩) hBb _
            simp at kn
            have hJ3 := hJw _ _ _ hJ u2.q
            obtain ⟨fn', tmps', assign', body', hy, hR⟩ := hyy _ hJ3
            have z0 := u2.n.cell 0
            have z1 := u2.n.cell 1
            simp at z0 z1
            simp only [encPe, midE] at hy
            have HU := hide u2
            have HM := hide m2
            clear u2 m2 s2 t2 g2 hyy
            go_wp2_with fail
            gi_wp2_with fail
            refine hR.mono ?_
            rintro e W3 (⟨rfl, hJ4, hk4⟩ | ⟨rfl, hJx4⟩)
            · have h5a := hk4.boxed HU.out.a hBaN hXa
              have h5b := hk4.boxed HU.out.b hBbN hXb
              have h5 := HM.out.trans (hk4.below hN hX)
              have HN := hide (show boxN W3 Ba + boxN W3 Bb < (n1 + 1) + (n2 + 1) from by rw [boxN_of h5a, boxN_of h5b]; omega)
              clear hy hR
              gi_wp2
              go_roundw
              case rel => exact ⟨pre ++ [midE x y], la', lb', _, _, _, _, _, _, HP.out, hJ4, h5, h5a, h5b, hra.tail hca, hrb.tail hcb, by omega, by omega⟩
              case measure => rw [HMU.out]; exact HN.out
            · clear hy hR
              gi_wp2
              refine bodyPost_ret (results_none rfl _ _ _) rfl ?_
              exact ⟨⟨_, rfl⟩, .inr ⟨_, ⟨_, HP.out.symm⟩, hJx4⟩⟩
end Go.Proofs.YtoapjidpfghnlaaGreatDoor
