/-
  The walks of Same over rows and bags, on both sides, for every two of them.
  The walk of the reference's Same over bags, for every two of them.
  The walk of BagChanges, for every two bags, changes and time.
-/
import Derived.Test.YtiioiajcoiaalaaGreatDoorBgL
import Derived.Test.YtiioiajcoiaalaaGreatDoorMade
import Derived.Test.YtiioiajcoiaalaaGreatDoorLaidT
namespace Go.Proofs.YtiioiajcoiaalaaGreatDoor

section
open Go.RowKit
attribute [local go_sem] Oper.semAt_some

theorem neVal2 (a b : Int) (s : ByteArray) (a' b' : Int) (s' : ByteArray) (w : World) : (binOp .neq 64 (.agg #[.int .i64 a, .int .i64 b, .string s]) (.agg #[.int .i64 a', .int .i64 b', .string s'])).run Tryz.prog w = .ok (.bool (!decide (a = a' ∧ b = b' ∧ s = s'))) w := by
  have u3 := Tryz.underlying3
  have a3 := Tryz.isAgg3
  have z3 := Tryz.sizeOf3
  have u9 := Tryz.underlying9
  have a9 := Tryz.isAgg9
  have z9 := Tryz.sizeOf9
  have hS : Tryz.prog.underlying 64 = some (.struct (Tryz.prog.fieldsOf 64)) := by kernel_rfl
  have hp : Tryz.prog.stoodInHeld 64 = false := by kernel_rfl
  rw [run_neq_struct, show (10000 : Nat) = 9999 + 1 from rfl, run_equalIn_agg w 9999 64 _ _ hS hp]
  simp only [Program.fieldsOf, Tryz.underlying64]
  by_cases h1 : a = a'
  · subst h1
    by_cases h2 : b = b'
    · subst h2
      by_cases h3 : s = s'
      · subst h3
        go_simp
      · have hs := str_eq0 s s'
        rw [decide_eq_false h3] at hs
        go_simp
    · have h2' : (b == b') = false := by simpa using h2
      go_simp
  · have h1' : (a == a') = false := by simpa using h1
    go_simp
theorem val_eq (a b : Val) : decide (a = b) = decide (a.k = b.k ∧ a.n = b.n ∧ a.s = b.s) := by
  cases a; cases b; simp
theorem eq_take {α : Type} {x y : List α} {k : Nat} {a b : α} (h : x.take k = y.take k) (ha : x[k]? = some a) (hb : y[k]? = some b) (he : a = b) : x.take (k + 1) = y.take (k + 1) := by
  rw [take_snoc' ha, take_snoc' hb, h, he]
theorem ne_at {α : Type} {x y : List α} {k : Nat} {a b : α} (ha : x[k]? = some a) (hb : y[k]? = some b) (he : a ≠ b) : x ≠ y := fun e => by
  subst e
  rw [ha] at hb
  injection hb with hb
  exact he hb
set_option maxRecDepth 100000 in
set_option maxHeartbeats 2000000 in
theorem RowSame_any (A : Option Addr) (n c : Nat) (r : Rw) (A' : Option Addr) (n' c' : Nat) (r' : Rw) (w : World) (hx : Reads w w.heap.size 3 A n (r.flatMap encV)) (hy : Reads w w.heap.size 3 A' n' (r'.flatMap encV)) (hn : n ≤ 9223372036854775807) :
    Calls Tryz.prog 53 #[.slice A n c, .slice A' n' c'] w (RetV w (.bool (decide (r = r')))) := by
  have HL := hide (hx.len encV_len (by omega))
  have HL' := hide (hy.len encV_len (by omega))
  have hm : Tryz.prog.eqGuardType Tryz.prog.depth 64 = false := by kernel_rfl
  have hne := neVal2
  by_cases h : n = n'
  · subst h
    have n1 : ((n : Int) != (n : Int)) = false := by simp
    go_enter Tryz.func53, Tryz.ntmps53
    go_wp2_with fail
    go_loopw [5] (fun i wr => ∃ k : Nat, k ≤ n ∧ i = .int .i64 k ∧ r.take k = r'.take k ∧ Below w.heap.size w wr) (fun i _ => n - (intOf i).toNat)
    case atStart => exact ⟨0, Nat.zero_le _, rfl, rfl, Below.refl _ _⟩
    case round =>
      obtain ⟨k, hk, rfl, ht, hB⟩ := hrel
      have HT := hide ht
      clear ht
      by_cases hlt : k < n
      · obtain ⟨b, off, e, rfl, hb, hek, hce⟩ := (hx.below hB).elem encV_len HL.out hlt
        obtain ⟨b', off', e', rfl, hb', hek', hce'⟩ := (hy.below hB).elem encV_len HL'.out hlt
        have e0 : wr.cell? ⟨b, off + k * 3, none⟩ = some (.int .i64 e.k) := by simpa using hce 0 _ rfl
        have e1 : wr.cell? ⟨b, off + k * 3 + 1, none⟩ = some (.int .i64 e.n) := by simpa [← Nat.add_assoc] using hce 1 _ rfl
        have e2 : wr.cell? ⟨b, off + k * 3 + 2, none⟩ = some (.string e.s) := by simpa [← Nat.add_assoc] using hce 2 _ rfl
        have f0 : wr.cell? ⟨b', off' + k * 3, none⟩ = some (.int .i64 e'.k) := by simpa using hce' 0 _ rfl
        have f1 : wr.cell? ⟨b', off' + k * 3 + 1, none⟩ = some (.int .i64 e'.n) := by simpa [← Nat.add_assoc] using hce' 1 _ rfl
        have f2 : wr.cell? ⟨b', off' + k * 3 + 2, none⟩ = some (.string e'.s) := by simpa [← Nat.add_assoc] using hce' 2 _ rfl
        have HE1 := hide hek
        have HE2 := hide hek'
        clear hce hce' hek hek'
        have q1 : (0 : Int) ≤ (k : Int) := by omega
        have q2 : (k : Int) < (n : Int) := by omega
        have hv := val_eq e e'
        cases hd : decide (e = e')
        · rw [hd] at hv
          have HX := hide (decide_eq_false (ne_at HE1.out HE2.out (of_decide_eq_false hd)))
          have hv' := hv.symm
          clear hd hv
          go_wp2_with fail
          go_quiet (fail)
          go_wp2
          go_ret
          exact ⟨ret_bool HX.out.symm, below_drewN hB _⟩
        · rw [hd] at hv
          have HX := hide (eq_take HT.out HE1.out HE2.out (of_decide_eq_true hd))
          have hv' := hv.symm
          clear hd hv
          go_wp2_with fail
          go_quiet (fail)
          go_wp2
          go_roundw
          case rel => exact ⟨k + 1, by omega, by go_num, HX.out, below_drewN hB _⟩
          case measure => simp [intOf]; omega
      · obtain rfl : k = n := by omega
        have HX := hide (show decide (r = r') = true from by
          have h := HT.out
          rw [take_all HL.out, take_all HL'.out] at h
          simp [h])
        go_wp2
        go_ret
        exact ⟨ret_bool HX.out.symm, hB⟩
  · have n1 : ((n : Int) != (n' : Int)) = true := by simp; omega
    have HX := hide (show decide (r = r') = false from decide_eq_false fun e => h (by rw [← HL.out, ← HL'.out, e]))
    clear h
    go_enter Tryz.func53, Tryz.ntmps53
    go_wp2
    go_ret
    exact ⟨ret_bool HX.out.symm, Below.refl _ _⟩
end

section
open Go.RowKit
attribute [local go_sem] Oper.semAt_some

set_option maxRecDepth 100000 in
set_option maxHeartbeats 4000000 in
theorem RBagSame_any (A : Option Addr) (n c : Nat) (l : List It) (A' : Option Addr) (n' c' : Nat) (l' : List It) (B B' : Nat) (w : World) (hx : BagR w B A n l) (hy : BagR w B' A' n' l') :
    Calls Tryz.prog 14 #[.slice A n c, .slice A' n' c'] w (RetV w (.bool (decide (dat l = dat l')))) := by
  have hn := hx.le
  have HL := hide (show (dat l).length = n by rw [dat_len, hx.len])
  have HL' := hide (show (dat l').length = n' by rw [dat_len, hy.len])
  by_cases h : n = n'
  · subst h
    have n1 : ((n : Int) != (n : Int)) = false := by simp
    go_enter Tryz.func14, Tryz.ntmps14
    go_wp2_with fail
    go_loopw [5] (fun i wr => ∃ k : Nat, k ≤ n ∧ i = .int .i64 k ∧ (dat l).take k = (dat l').take k ∧ Below w.heap.size w wr) (fun i _ => n - (intOf i).toNat)
    case atStart => exact ⟨0, Nat.zero_le _, rfl, rfl, Below.refl _ _⟩
    case round =>
      obtain ⟨k, hk, rfl, ht, hB⟩ := hrel
      have HT := hide ht
      clear ht
      by_cases hlt : k < n
      · obtain ⟨b, off, x, rfl, hb, hxk, c0, c1, hrow⟩ := (hx.below hB).at_ hlt
        obtain ⟨b', off', x', rfl, hb', hxk', c0', c1', hrow'⟩ := (hy.below hB).at_ hlt
        have HE1 := hide (dat_at hxk)
        have HE2 := hide (dat_at hxk')
        have C1 := hide (fun (p : BW wr) => calls_bw (p := p) (RowSame_any x.A x.n x.c x.r x'.A x'.n x'.c x'.r p.x (hrow.below p.h).rd (hrow'.below p.h).rd hrow.le))
        have p0 := fun (p : BW wr) => BW.cell (a := ⟨b, off + k * 2, none⟩) hb c0 p
        have p1 := fun (p : BW wr) => BW.cell (a := ⟨b, off + k * 2 + 1, none⟩) hb c1 p
        have r0 := fun (p : BW wr) => BW.cell (a := ⟨b', off' + k * 2, none⟩) hb' c0' p
        have r1 := fun (p : BW wr) => BW.cell (a := ⟨b', off' + k * 2 + 1, none⟩) hb' c1' p
        clear c0 c1 c0' c1' hxk hxk' hrow hrow'
        have q1 : (0 : Int) ≤ (k : Int) := by omega
        have q2 : (k : Int) < (n : Int) := by omega
        obtain ⟨s, hs⟩ : ∃ s, decide (x.r = x'.r) = s := ⟨_, rfl⟩
        rw [hs] at C1
        by_cases hm : x.m = x'.m
        · have n2 : (x.m != x'.m) = false := by simpa using hm
          cases s
          · have HX := hide (show decide (dat l = dat l') = false from decide_eq_false (ne_at HE1.out HE2.out fun e => of_decide_eq_false hs (by injection e)))
            clear hm hs
            go_wp2_with fail
            (refine wp_region_quiet_bw (by kernel_rfl) (by kernel_rfl) ?_
             repeat (first | go_big_quiet_step (((go_at_call 53; exact C1.out _))) | quiet_step (((go_at_call 53; exact C1.out _))))
             refine wpQuiet_nil ?_
             intro wq hw'
             obtain ⟨⟨_, hbq⟩, hw''⟩ := hw'
             subst hw'')
            have HB2 := hide (bstep hB hbq)
            clear hbq hB p0 p1 r0 r1 C1
            go_wp2
            go_ret
            exact ⟨ret_bool HX.out.symm, HB2.out⟩
          · have HX := hide (eq_take HT.out HE1.out HE2.out (by rw [hm, of_decide_eq_true hs]))
            clear hm hs
            go_wp2_with fail
            (refine wp_region_quiet_bw (by kernel_rfl) (by kernel_rfl) ?_
             repeat (first | go_big_quiet_step (((go_at_call 53; exact C1.out _))) | quiet_step (((go_at_call 53; exact C1.out _))))
             refine wpQuiet_nil ?_
             intro wq hw'
             obtain ⟨⟨_, hbq⟩, hw''⟩ := hw'
             subst hw'')
            have hB2 := bstep hB hbq
            clear hbq hB p0 p1 r0 r1 C1
            go_wp2
            go_roundw
            case rel => exact ⟨k + 1, by omega, by go_num, HX.out, hB2⟩
            case measure => simp [intOf]; omega
        · have n2 : (x.m != x'.m) = true := by simpa using hm
          have HX := hide (show decide (dat l = dat l') = false from decide_eq_false (ne_at HE1.out HE2.out fun e => hm (by injection e)))
          clear hm hs
          go_wp2_with fail
          (refine wp_region_quiet_bw (by kernel_rfl) (by kernel_rfl) ?_
           repeat (first | go_big_quiet_step (((go_at_call 53; exact C1.out _))) | quiet_step (((go_at_call 53; exact C1.out _))))
           refine wpQuiet_nil ?_
           intro wq hw'
           obtain ⟨⟨_, hbq⟩, hw''⟩ := hw'
           subst hw'')
          have HB2 := hide (bstep hB hbq)
          clear hbq hB p0 p1 r0 r1 C1
          go_wp2
          go_ret
          exact ⟨ret_bool HX.out.symm, HB2.out⟩
      · obtain rfl : k = n := by omega
        have HX := hide (show decide (dat l = dat l') = true from by
          have h := HT.out
          rw [take_all HL.out, take_all HL'.out] at h
          simp [h])
        go_wp2
        go_ret
        exact ⟨ret_bool HX.out.symm, hB⟩
  · have n1 : ((n : Int) != (n' : Int)) = true := by simp; omega
    have HX := hide (show decide (dat l = dat l') = false from decide_eq_false fun e => h (by rw [← HL.out, ← HL'.out, e]))
    clear h
    go_enter Tryz.func14, Tryz.ntmps14
    go_wp2
    go_ret
    exact ⟨ret_bool HX.out.symm, Below.refl _ _⟩
end

section
open Go.RowKit
attribute [local go_sem] Oper.semAt_some
set_option linter.unusedVariables false
set_option linter.unusedSimpArgs false

theorem BagR.step {w w' : World} {A : Option Addr} {n : Nat} {l : List It} (h : BagR w w.heap.size A n l) (hb : Below w.heap.size w w') : BagR w' w'.heap.size A n l := (h.below hb).mono hb.size
theorem ChgR.step {w w' : World} {A : Option Addr} {n : Nat} {l : List Ch} (h : ChgR w w.heap.size A n l) (hb : Below w.heap.size w w') : ChgR w' w'.heap.size A n l :=
  ⟨(h.below hb).rd, fun i hi => ((h.below hb).rows i hi).mono hb.size, h.le⟩
set_option maxRecDepth 100000 in
set_option maxHeartbeats 4000000 in
theorem FewChanges_any (A : Option Addr) (n c : Nat) (l : List Ch) (w : World) (hx : ChgR w w.heap.size A n l) : Calls Tryz.prog 10 #[.slice A n c] w (RetSome w) := by
  have hn := hx.le
  go_enter Tryz.func10, Tryz.ntmps10
  go_wp2_with fail
  go_loopw [3] (fun i wr => ∃ k : Nat, k ≤ n ∧ i = .int .i64 k ∧ Below w.heap.size w wr) (fun i _ => n - (intOf i).toNat)
  case atStart => exact ⟨0, Nat.zero_le _, rfl, Below.refl _ _⟩
  case round =>
    obtain ⟨k, hk, rfl, hBw⟩ := hrel
    by_cases hlt : k < n
    · obtain ⟨b, off, x, rfl, hb, hxk, c0, c1, c2, hrow⟩ := (hx.below hBw).at_ hlt
      have hBv := below_val (w := wr) #[.slice x.A x.n x.c] 43
      have HL := hide (Long_one x.A x.n x.c x.r wr.heap.size _ (hrow.below hBv).rd hrow.le ((Blk.new wr 43 #[.slice x.A x.n x.c]).cell 0))
      have HB := hide (bstep hBw hBv)
      have q1 : (0 : Int) ≤ (k : Int) := by omega
      have q2 : (k : Int) < (n : Int) := by omega
      clear hBv hxk hrow c0 c2 hBw
      go_wp2_with fail
      refine HL.out.mono ?_
      rintro e W ⟨b', rfl, hB2⟩
      have HF := hide (bstep HB.out hB2)
      clear hB2 HL HB c1
      cases b'
      · go_wp2
        go_roundw
        case rel => exact ⟨k + 1, by omega, by go_num, HF.out⟩
        case measure => simp [intOf]; omega
      · go_wp2
        go_ret
        exact ⟨_, rfl, HF.out⟩
    · obtain rfl : k = n := by omega
      go_wp2
      go_ret
      exact ⟨_, rfl, hBw⟩
theorem same_dat {A : Option Addr} {n c : Nat} {A' : Option Addr} {n' c' B B' : Nat} {l l' : List It} {w : World} (hx : BagR w B A n l) (hy : BagR w B' A' n' l') (hd : dat l = dat l') :
    Calls Tryz.prog 14 #[.slice A n c, .slice A' n' c'] w (RetV w (.bool true)) := by
  have hn : n' = n := by rw [← hx.len, ← hy.len, ← dat_len, ← dat_len, hd]
  subst hn
  exact BagSame_one A n' c A' c' B B' l l' w hx hy hd
theorem same_chg {A : Option Addr} {n c : Nat} {A' : Option Addr} {n' c' B B' : Nat} {l l' : List Ch} {T : Int} {d : Bg} {w : World} (hx : ChgR w B A n l) (hy : ChgR w B' A' n' l') (h1 : l.map (fun i => (i.r, i.m)) = d ∧ ∀ i ∈ l, i.t = T) (h2 : l'.map (fun i => (i.r, i.m)) = d ∧ ∀ i ∈ l', i.t = T) :
    Calls Tryz.prog 17 #[.slice A n c, .slice A' n' c'] w (RetV w (.bool true)) := by
  have key : ∀ {l : List Ch}, (∀ i ∈ l, i.t = T) → datC l = (l.map fun i => (i.r, i.m)).map fun x => (x.1, T, x.2) := fun {l} h => by
    unfold datC
    rw [List.map_map]
    exact List.map_congr_left fun i hi => by simp [h i hi]
  have hd : datC l = datC l' := by rw [key h1.2, key h2.2, h1.1, h2.1]
  have hn : n' = n := by
    rw [← hx.len, ← hy.len]
    have := congrArg List.length hd
    unfold datC at this
    simpa using this.symm
  subst hn
  exact ChgSame_one A n' c A' c' B B' l l' w hx hy hd
set_option maxRecDepth 100000 in
set_option maxHeartbeats 4000000 in
theorem bagChanges_all (A1 : Option Addr) (n1 c1 : Nat) (l1 : List It) (A2 : Option Addr) (n2 c2 : Nat) (l2 : List It) (A3 : Option Addr) (n3 c3 : Nat) (l3 : List Ch) (T : Int) (w : World)
    (h1 : BagR w w.heap.size A1 n1 l1) (h2 : BagR w w.heap.size A2 n2 l2) (h3 : ChgR w w.heap.size A3 n3 l3) (k1 : n1 ≤ c1) (k2 : n2 ≤ c2) (ht : Tab w) :
    Calls Tryz.prog 3 #[.slice A1 n1 c1, .slice A2 n2 c2, .slice A3 n3 c3, .int .i64 T] w (RetV w (.bool true)) := by
  have hB0 := below_val (w := w) #[.slice A1 n1 c1, .slice A2 n2 c2] 23
  have b0 := Blk.new w 23 #[.slice A1 n1 c1, .slice A2 n2 c2]
  have g1 := h1.step hB0
  have g2 := h2.step hB0
  have HF := hide (Few_any [⟨A1, n1, c1, l1⟩, ⟨A2, n2, c2, l2⟩] 2 w.heap.size _ rfl (by omega) (fun i x hx => by
    have hi := (List.getElem?_eq_some_iff.1 hx).1
    simp only [List.length_cons, List.length_nil] at hi
    match i, hi, hx with
    | 0, _, hx => injection hx with hx; subst hx; exact ⟨by rw [b0.cell]; rfl, g1⟩
    | 1, _, hx => injection hx with hx; subst hx; exact ⟨by rw [b0.cell]; rfl, g2⟩))
  clear b0 g1 g2
  have H0 := hide hB0
  clear hB0
  have HA := hide (awake_any)
  go_enter Tryz.func3, Tryz.ntmps3
  go_wp2_with fail
  refine HF.out.mono ?_
  rintro e W1 ⟨b, rfl, _, hB1⟩
  have hB01 := bstep H0.out hB1
  clear hB1 HF H0
  cases b
  · go_wp2_with fail
    refine (HA.out W1).mono ?_
    rintro e W2 ⟨rfl, hB2⟩
    have HE := hide (bstep hB01 hB2)
    clear hB01 hB2
    go_wp2
    go_ret
    exact ⟨rfl, HE.out⟩
  go_wp2_with fail
  refine (FewChanges_any A3 n3 c3 l3 W1 (h3.step hB01)).mono ?_
  rintro e W2 ⟨b, rfl, hB2⟩
  have hB02 := bstep hB01 hB2
  clear hB01 hB2
  cases b
  · go_wp2_with fail
    refine (HA.out W2).mono ?_
    rintro e W3 ⟨rfl, hB3⟩
    have HE := hide (bstep hB02 hB3)
    clear hB02 hB3
    go_wp2
    go_ret
    exact ⟨rfl, HE.out⟩
  obtain ⟨d1, E, hp1⟩ : ∃ d E, applyB (dat l1) l3 = (d, E) := ⟨_, _, rfl⟩
  obtain ⟨d2, F, hp2⟩ : ∃ d E, diffB (dat l1) (dat l2) T = (d, E) := ⟨_, _, rfl⟩
  have zE : (E != E) = false := by simp
  have zF : (F != F) = false := by simp
  have HP1 := hide hp1
  have HP2 := hide hp2
  clear hp1 hp2
  go_wp2_with fail
  refine (Apply_any A1 n1 c1 l1 A3 n3 c3 l3 W2 (h1.step hB02) (h3.step hB02) (ht.below hB02)).mono ?_
  rw [HP1.out]
  rintro e W3 ⟨A4, n4, c4, l4, rfl, hd4, hb4, hc4, hB3⟩
  have hB03 := bstep hB02 hB3
  clear hB02 hB3
  go_wp2_with fail
  refine (RApply_any A1 n1 c1 l1 A3 n3 c3 l3 W3 (h1.step hB03) k1 (h3.step hB03)).mono ?_
  rw [HP1.out]
  rintro e W4 ⟨A5, n5, c5, l5, rfl, hd5, hb5, hc5, hB4⟩
  have hB04 := bstep hB03 hB4
  have HS := hide (same_dat (c := c4) (c' := c5) (hb4.step hB4) hb5 (by rw [hd4, hd5]))
  clear hB03 hB4 hb4 hb5 hd4 hd5
  go_wp2_with fail
  refine HS.out.mono ?_
  rintro e W5 ⟨rfl, hB5⟩
  have hB05 := bstep hB04 hB5
  clear hB04 hB5 HS
  go_wp2_with fail
  refine (callsIn_wide.1 (Changes_gen A1 n1 c1 l1 A2 n2 c2 l2 W5 (h1.step hB05) (h2.step hB05) k1 k2 T)).mono ?_
  rw [HP2.out]
  rintro e W6 ⟨A6, n6, c6, l6, rfl, hd6, hb6, hB6⟩
  have hB06 := bstep hB05 hB6
  clear hB05 hB6
  go_wp2_with fail
  refine (RChanges_any A1 n1 c1 l1 A2 n2 c2 l2 T W6 (h1.step hB06) (h2.step hB06)).mono ?_
  rw [HP2.out]
  rintro e W7 ⟨A7, n7, c7, l7, rfl, hd7, hb7, hB7⟩
  have hB07 := bstep hB06 hB7
  have hb6 := hb6.step hB7
  have HS := hide (same_chg (c := c6) (c' := c7) hb6 hb7 hd6 hd7)
  clear hB06 hB7 hb7 hd7
  go_wp2_with fail
  refine HS.out.mono ?_
  rintro e W8 ⟨rfl, hB8⟩
  have hB08 := bstep hB07 hB8
  have hb6 := hb6.step hB8
  clear hB07 hB8 HS
  by_cases h0 : F = 0
  · subst h0
    have HAP := hide (apply_diff (a := dat l1) (b := dat l2) (T := T) (lc := l6) (by rw [HP2.out]) (by rw [HP2.out]; exact hd6.1) hd6.2)
    clear hd6
    go_wp2_with fail
    refine (Apply_any A1 n1 c1 l1 A6 n6 c6 l6 W8 (h1.step hB08) hb6 (ht.below hB08)).mono ?_
    rw [HAP.out]
    rintro e W9 ⟨A9, n9, c9, l9, rfl, hd9, hb9, hc9, hB9⟩
    have hB09 := bstep hB08 hB9
    have HS := hide (same_dat (c := c9) (c' := c2) hb9 (h2.step hB09) hd9)
    clear hB08 hB9 hb6 hb9 hd9
    go_wp2_with fail
    refine HS.out.mono ?_
    rintro e W10 ⟨rfl, hB10⟩
    have hB010 := bstep hB09 hB10
    clear hB09 hB10 HS
    go_wp2_with fail
    refine (HA.out W10).mono ?_
    rintro e W11 ⟨rfl, hB11⟩
    have HE := hide (bstep hB010 hB11)
    clear hB010 hB11
    go_wp2
    go_ret
    exact ⟨rfl, HE.out⟩
  · have n0 : (F != 0) = true := by simpa using h0
    clear h0 hd6 hb6
    go_wp2_with fail
    refine (HA.out W8).mono ?_
    rintro e W9 ⟨rfl, hB9⟩
    have HE := hide (bstep hB08 hB9)
    clear hB08 hB9
    go_wp2
    go_ret
    exact ⟨rfl, HE.out⟩
end

end Go.Proofs.YtiioiajcoiaalaaGreatDoor
