/-
  The walks of Same over rows and bags, on both sides, for every two of them.
  The walk of the reference's Same over bags, for every two of them.
  The walk of BagChanges, for every two bags, changes and time.
-/
import Derived.Test.YtljglceaibgknaaGreatDoorBgL
import Derived.Test.YtljglceaibgknaaGreatDoorMade
import Derived.Test.YtljglceaibgknaaGreatDoorLaidT
namespace Go.Proofs.YtljglceaibgknaaGreatDoor

section
open Go.RowKit
attribute [local go_sem] Oper.semAt_some

theorem neVal2 (a b : Int) (s : ByteArray) (a' b' : Int) (s' : ByteArray) (w : World) : (binOp .neq 68 (.agg #[.int .i64 a, .int .i64 b, .string s]) (.agg #[.int .i64 a', .int .i64 b', .string s'])).run Tryz.prog w = .ok (.bool (!decide (a = a' ∧ b = b' ∧ s = s'))) w := by
  have u3 := Tryz.underlying3
  have a3 := Tryz.isAgg3
  have z3 := Tryz.sizeOf3
  have u9 := Tryz.underlying9
  have a9 := Tryz.isAgg9
  have z9 := Tryz.sizeOf9
  have hS : Tryz.prog.underlying 68 = some (.struct (Tryz.prog.fieldsOf 68)) := by kernel_rfl
  have hp : Tryz.prog.stoodInHeld 68 = false := by kernel_rfl
  rw [run_neq_struct, show (10000 : Nat) = 9999 + 1 from rfl, run_equalIn_agg w 9999 68 _ _ hS hp]
  simp only [Program.fieldsOf, Tryz.underlying68]
  by_cases h1 : a = a'
  · subst h1
    by_cases h2 : b = b'
    · subst h2
      by_cases h3 : s = s'
      · subst h3
        go_simp
      · have hs := str_eq0 s s'
        rw [decide_eq_false h3] at hs
        go_simp
    · have h2' : (b == b') = false := by simpa using h2
      go_simp
  · have h1' : (a == a') = false := by simpa using h1
    go_simp
theorem val_eq (a b : Val) : decide (a = b) = decide (a.k = b.k ∧ a.n = b.n ∧ a.s = b.s) := by
  cases a; cases b; simp
theorem eq_take {α : Type} {x y : List α} {k : Nat} {a b : α} (h : x.take k = y.take k) (ha : x[k]? = some a) (hb : y[k]? = some b) (he : a = b) : x.take (k + 1) = y.take (k + 1) := by
  rw [take_snoc' ha, take_snoc' hb, h, he]
theorem ne_at {α : Type} {x y : List α} {k : Nat} {a b : α} (ha : x[k]? = some a) (hb : y[k]? = some b) (he : a ≠ b) : x ≠ y := fun e => by
  subst e
  rw [ha] at hb
  injection hb with hb
  exact he hb
set_option maxRecDepth 100000 in
set_option maxHeartbeats 2000000 in
theorem RowSame_any (A : Option Addr) (n c : Nat) (r : Rw) (A' : Option Addr) (n' c' : Nat) (r' : Rw) (w : World) (hx : Reads w w.heap.size 3 A n (r.flatMap encV)) (hy : Reads w w.heap.size 3 A' n' (r'.flatMap encV)) (hn : n ≤ 9223372036854775807) :
    Calls Tryz.prog 58 #[.slice A n c, .slice A' n' c'] w (RetV w (.bool (decide (r = r')))) := by
  have HL := hide (hx.len encV_len (by omega))
  have HL' := hide (hy.len encV_len (by omega))
  have hm : Tryz.prog.eqGuardType Tryz.prog.depth 68 = false := by kernel_rfl
  have hne := neVal2
  by_cases h : n = n'
  · subst h
    have n1 : ((n : Int) != (n : Int)) = false := by simp
    go_enter Tryz.func58, Tryz.ntmps58
    go_wp2_with fail
    go_loopw [5] (fun i wr => ∃ k : Nat, k ≤ n ∧ i = .int .i64 k ∧ r.take k = r'.take k ∧ Below w.heap.size w wr) (fun i _ => n - (intOf i).toNat)
    case atStart => exact ⟨0, Nat.zero_le _, rfl, rfl, Below.refl _ _⟩
    case round =>
      obtain ⟨k, hk, rfl, ht, hB⟩ := hrel
      have HT := hide ht
      clear ht
      by_cases hlt : k < n
      · obtain ⟨b, off, e, rfl, hb, hek, hce⟩ := (hx.below hB).elem encV_len HL.out hlt
        obtain ⟨b', off', e', rfl, hb', hek', hce'⟩ := (hy.below hB).elem encV_len HL'.out hlt
        have e0 : wr.cell? ⟨b, off + k * 3, none⟩ = some (.int .i64 e.k) := by simpa using hce 0 _ rfl
        have e1 : wr.cell? ⟨b, off + k * 3 + 1, none⟩ = some (.int .i64 e.n) := by simpa [← Nat.add_assoc] using hce 1 _ rfl
        have e2 : wr.cell? ⟨b, off + k * 3 + 2, none⟩ = some (.string e.s) := by simpa [← Nat.add_assoc] using hce 2 _ rfl
        have f0 : wr.cell? ⟨b', off' + k * 3, none⟩ = some (.int .i64 e'.k) := by simpa using hce' 0 _ rfl
        have f1 : wr.cell? ⟨b', off' + k * 3 + 1, none⟩ = some (.int .i64 e'.n) := by simpa [← Nat.add_assoc] using hce' 1 _ rfl
        have f2 : wr.cell? ⟨b', off' + k * 3 + 2, none⟩ = some (.string e'.s) := by simpa [← Nat.add_assoc] using hce' 2 _ rfl
        have HE1 := hide hek
        have HE2 := hide hek'
        clear hce hce' hek hek'
        have q1 : (0 : Int) ≤ (k : Int) := by omega
        have q2 : (k : Int) < (n : Int) := by omega
        have hv := val_eq e e'
        cases hd : decide (e = e')
        · rw [hd] at hv
          have HX := hide (decide_eq_false (ne_at HE1.out HE2.out (of_decide_eq_false hd)))
          have hv' := hv.symm
          clear hd hv
          go_wp2_with fail
          go_quiet (fail)
          go_wp2
          go_ret
          exact ⟨ret_bool HX.out.symm, below_drewN hB _⟩
        · rw [hd] at hv
          have HX := hide (eq_take HT.out HE1.out HE2.out (of_decide_eq_true hd))
          have hv' := hv.symm
          clear hd hv
          go_wp2_with fail
          go_quiet (fail)
          go_wp2
          go_roundw
          case rel => exact ⟨k + 1, by omega, by go_num, HX.out, below_drewN hB _⟩
          case measure => simp [intOf]; omega
      · obtain rfl : k = n := by omega
        have HX := hide (show decide (r = r') = true from by
          have h := HT.out
          rw [take_all HL.out, take_all HL'.out] at h
          simp [h])
        go_wp2
        go_ret
        exact ⟨ret_bool HX.out.symm, hB⟩
  · have n1 : ((n : Int) != (n' : Int)) = true := by simp; omega
    have HX := hide (show decide (r = r') = false from decide_eq_false fun e => h (by rw [← HL.out, ← HL'.out, e]))
    clear h
    go_enter Tryz.func58, Tryz.ntmps58
    go_wp2
    go_ret
    exact ⟨ret_bool HX.out.symm, Below.refl _ _⟩
end

section
open Go.RowKit
attribute [local go_sem] Oper.semAt_some

set_option maxRecDepth 100000 in
set_option maxHeartbeats 4000000 in
theorem RBagSame_any (A : Option Addr) (n c : Nat) (l : List It) (A' : Option Addr) (n' c' : Nat) (l' : List It) (B B' : Nat) (w : World) (hx : BagR w B A n l) (hy : BagR w B' A' n' l') :
    Calls Tryz.prog 17 #[.slice A n c, .slice A' n' c'] w (RetV w (.bool (decide (dat l = dat l')))) := by
  have hn := hx.le
  have HL := hide (show (dat l).length = n by rw [dat_len, hx.len])
  have HL' := hide (show (dat l').length = n' by rw [dat_len, hy.len])
  by_cases h : n = n'
  · subst h
    have n1 : ((n : Int) != (n : Int)) = false := by simp
    go_enter Tryz.func17, Tryz.ntmps17
    go_wp2_with fail
    go_loopw [5] (fun i wr => ∃ k : Nat, k ≤ n ∧ i = .int .i64 k ∧ (dat l).take k = (dat l').take k ∧ Below w.heap.size w wr) (fun i _ => n - (intOf i).toNat)
    case atStart => exact ⟨0, Nat.zero_le _, rfl, rfl, Below.refl _ _⟩
    case round =>
      obtain ⟨k, hk, rfl, ht, hB⟩ := hrel
      have HT := hide ht
      clear ht
      by_cases hlt : k < n
      · obtain ⟨b, off, x, rfl, hb, hxk, c0, c1, hrow⟩ := (hx.below hB).at_ hlt
        obtain ⟨b', off', x', rfl, hb', hxk', c0', c1', hrow'⟩ := (hy.below hB).at_ hlt
        have HE1 := hide (dat_at hxk)
        have HE2 := hide (dat_at hxk')
        have C1 := hide (fun (p : BW wr) => calls_bw (p := p) (RowSame_any x.A x.n x.c x.r x'.A x'.n x'.c x'.r p.x (hrow.below p.h).rd (hrow'.below p.h).rd hrow.le))
        have p0 := fun (p : BW wr) => BW.cell (a := ⟨b, off + k * 2, none⟩) hb c0 p
        have p1 := fun (p : BW wr) => BW.cell (a := ⟨b, off + k * 2 + 1, none⟩) hb c1 p
        have r0 := fun (p : BW wr) => BW.cell (a := ⟨b', off' + k * 2, none⟩) hb' c0' p
        have r1 := fun (p : BW wr) => BW.cell (a := ⟨b', off' + k * 2 + 1, none⟩) hb' c1' p
        clear c0 c1 c0' c1' hxk hxk' hrow hrow'
        have q1 : (0 : Int) ≤ (k : Int) := by omega
        have q2 : (k : Int) < (n : Int) := by omega
        obtain ⟨s, hs⟩ : ∃ s, decide (x.r = x'.r) = s := ⟨_, rfl⟩
        rw [hs] at C1
        by_cases hm : x.m = x'.m
        · have n2 : (x.m != x'.m) = false := by simpa using hm
          cases s
          · have HX := hide (show decide (dat l = dat l') = false from decide_eq_false (ne_at HE1.out HE2.out fun e => of_decide_eq_false hs (by injection e)))
            clear hm hs
            go_wp2_with fail
            (refine wp_region_quiet_bw (by kernel_rfl) (by kernel_rfl) ?_
             repeat (first | go_big_quiet_step (((go_at_call 58; exact C1.out _))) | quiet_step (((go_at_call 58; exact C1.out _))))
             refine wpQuiet_nil ?_
             intro wq hw'
             obtain ⟨⟨_, hbq⟩, hw''⟩ := hw'
             subst hw'')
            have HB2 := hide (bstep hB hbq)
            clear hbq hB p0 p1 r0 r1 C1
            go_wp2
            go_ret
            exact ⟨ret_bool HX.out.symm, HB2.out⟩
          · have HX := hide (eq_take HT.out HE1.out HE2.out (by rw [hm, of_decide_eq_true hs]))
            clear hm hs
            go_wp2_with fail
            (refine wp_region_quiet_bw (by kernel_rfl) (by kernel_rfl) ?_
             repeat (first | go_big_quiet_step (((go_at_call 58; exact C1.out _))) | quiet_step (((go_at_call 58; exact C1.out _))))
             refine wpQuiet_nil ?_
             intro wq hw'
             obtain ⟨⟨_, hbq⟩, hw''⟩ := hw'
             subst hw'')
            have hB2 := bstep hB hbq
            clear hbq hB p0 p1 r0 r1 C1
            go_wp2
            go_roundw
            case rel => exact ⟨k + 1, by omega, by go_num, HX.out, hB2⟩
            case measure => simp [intOf]; omega
        · have n2 : (x.m != x'.m) = true := by simpa using hm
          have HX := hide (show decide (dat l = dat l') = false from decide_eq_false (ne_at HE1.out HE2.out fun e => hm (by injection e)))
          clear hm hs
          go_wp2_with fail
          (refine wp_region_quiet_bw (by kernel_rfl) (by kernel_rfl) ?_
           repeat (first | go_big_quiet_step (((go_at_call 58; exact C1.out _))) | quiet_step (((go_at_call 58; exact C1.out _))))
           refine wpQuiet_nil ?_
           intro wq hw'
           obtain ⟨⟨_, hbq⟩, hw''⟩ := hw'
           subst hw'')
          have HB2 := hide (bstep hB hbq)
          clear hbq hB p0 p1 r0 r1 C1
          go_wp2
          go_ret
          exact ⟨ret_bool HX.out.symm, HB2.out⟩
      · obtain rfl : k = n := by omega
        have HX := hide (show decide (dat l = dat l') = true from by
          have h := HT.out
          rw [take_all HL.out, take_all HL'.out] at h
          simp [h])
        go_wp2
        go_ret
        exact ⟨ret_bool HX.out.symm, hB⟩
  · have n1 : ((n : Int) != (n' : Int)) = true := by simp; omega
    have HX := hide (show decide (dat l = dat l') = false from decide_eq_false fun e => h (by rw [← HL.out, ← HL'.out, e]))
    clear h
    go_enter Tryz.func17, Tryz.ntmps17
    go_wp2
    go_ret
    exact ⟨ret_bool HX.out.symm, Below.refl _ _⟩
end

section
open Go.RowKit
attribute [local go_sem] Oper.semAt_some
set_option linter.unusedVariables false
set_option linter.unusedSimpArgs false

theorem BagR.step {w w' : World} {A : Option Addr} {n : Nat} {l : List It} (h : BagR w w.heap.size A n l) (hb : Below w.heap.size w w') : BagR w' w'.heap.size A n l := (h.below hb).mono hb.size
theorem ChgR.step {w w' : World} {A : Option Addr} {n : Nat} {l : List Ch} (h : ChgR w w.heap.size A n l) (hb : Below w.heap.size w w') : ChgR w' w'.heap.size A n l :=
  ⟨(h.below hb).rd, fun i hi => ((h.below hb).rows i hi).mono hb.size, h.le⟩
set_option maxRecDepth 100000 in
set_option maxHeartbeats 4000000 in
theorem FewChanges_any (A : Option Addr) (n c : Nat) (l : List Ch) (w : World) (hx : ChgR w w.heap.size A n l) : Calls Tryz.prog 39 #[.slice A n c] w (RetSome w) := by
  have hn := hx.le
  go_enter Tryz.func39, Tryz.ntmps39
  go_wp2_with fail
  go_loopw [3] (fun i wr => ∃ k : Nat, k ≤ n ∧ i = .int .i64 k ∧ Below w.heap.size w wr) (fun i _ => n - (intOf i).toNat)
  case atStart => exact ⟨0, Nat.zero_le _, rfl, Below.refl _ _⟩
  case round =>
    obtain ⟨k, hk, rfl, hBw⟩ := hrel
    by_cases hlt : k < n
    · obtain ⟨b, off, x, rfl, hb, hxk, c0, c1, c2, hrow⟩ := (hx.below hBw).at_ hlt
      have hBv := below_val (w := wr) #[.slice x.A x.n x.c] 42
      have HL := hide (Long_one x.A x.n x.c x.r wr.heap.size _ (hrow.below hBv).rd hrow.le ((Blk.new wr 42 #[.slice x.A x.n x.c]).cell 0))
      have HB := hide (bstep hBw hBv)
      have q1 : (0 : Int) ≤ (k : Int) := by omega
      have q2 : (k : Int) < (n : Int) := by omega
      clear hBv hxk hrow c0 c2 hBw
      go_wp2_with fail
      refine HL.out.mono ?_
      rintro e W ⟨b', rfl, hB2⟩
      have HF := hide (bstep HB.out hB2)
      clear hB2 HL HB c1
      cases b'
      · go_wp2
        go_roundw
        case rel => exact ⟨k + 1, by omega, by go_num, HF.out⟩
        case measure => simp [intOf]; omega
      · go_wp2
        go_ret
        exact ⟨_, rfl, HF.out⟩
    · obtain rfl : k = n := by omega
      go_wp2
      go_ret
      exact ⟨_, rfl, hBw⟩
theorem same_dat {A : Option Addr} {n c : Nat} {A' : Option Addr} {n' c' B B' : Nat} {l l' : List It} {w : World} (hx : BagR w B A n l) (hy : BagR w B' A' n' l') (hd : dat l = dat l') :
    Calls Tryz.prog 17 #[.slice A n c, .slice A' n' c'] w (RetV w (.bool true)) := by
  have hn : n' = n := by rw [← hx.len, ← hy.len, ← dat_len, ← dat_len, hd]
  subst hn
  exact BagSame_one A n' c A' c' B B' l l' w hx hy hd
theorem same_chg {A : Option Addr} {n c : Nat} {A' : Option Addr} {n' c' B B' : Nat} {l l' : List Ch} {T : Int} {d : Bg} {w : World} (hx : ChgR w B A n l) (hy : ChgR w B' A' n' l') (h1 : l.map (fun i => (i.r, i.m)) = d ∧ ∀ i ∈ l, i.t = T) (h2 : l'.map (fun i => (i.r, i.m)) = d ∧ ∀ i ∈ l', i.t = T) :
    Calls Tryz.prog 44 #[.slice A n c, .slice A' n' c'] w (RetV w (.bool true)) := by
  have key : ∀ {l : List Ch}, (∀ i ∈ l, i.t = T) → datC l = (l.map fun i => (i.r, i.m)).map fun x => (x.1, T, x.2) := fun {l} h => by
    unfold datC
    rw [List.map_map]
    exact List.map_congr_left fun i hi => by simp [h i hi]
  have hd : datC l = datC l' := by rw [key h1.2, key h2.2, h1.1, h2.1]
  have hn : n' = n := by
    rw [← hx.len, ← hy.len]
    have := congrArg List.length hd
    unfold datC at this
    simpa using this.symm
  subst hn
  exact ChgSame_one A n' c A' c' B B' l l' w hx hy hd
end

end Go.Proofs.YtljglceaibgknaaGreatDoor
