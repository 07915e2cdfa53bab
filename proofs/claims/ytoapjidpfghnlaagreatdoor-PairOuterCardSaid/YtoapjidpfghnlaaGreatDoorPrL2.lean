/-
  SameEvents at events that are equal; Intervals of the program, whatever it answers; the law's small functions. No condition.
-/
import Derived.Test.YtoapjidpfghnlaaGreatDoorPrL1
import Derived.Test.YtoapjidpfghnlaaGreatDoorPrJ
namespace Go.Proofs.YtoapjidpfghnlaaGreatDoor
open Go.RowKit
attribute [local go_sem] Oper.semAt_some wide_fn wide_depth
set_option linter.unusedVariables false
set_option linter.unusedSimpArgs false

set_option maxRecDepth 100000 in
set_option maxHeartbeats 8000000 in
theorem EvSame_one (A : Option Addr) (n c : Nat) (A' : Option Addr) (c' B B' : Nat) (l l' : List Ev) (w : World) (hx : EvR w B A n l) (hy : EvR w B' A' n l') (hd : dE l = dE l') :
    Calls Tryz.prog 16 #[.slice A n c, .slice A' n c'] w (RetV w (.bool true)) := by
  have hn := hx.le
  have n1 : ((n : Int) != (n : Int)) = false := by simp
  go_enter Tryz.func16, Tryz.ntmps16
  go_wp2_with fail
  go_loopw [5] (fun i wr => ∃ k : Nat, k ≤ n ∧ i = .int .i64 k ∧ Below w.heap.size w wr) (fun i _ => n - (intOf i).toNat)
  case atStart => exact ⟨0, Nat.zero_le _, rfl, Below.refl _ _⟩
  case round =>
    obtain ⟨k, hk, rfl, hB⟩ := hrel
    by_cases hlt : k < n
    · obtain ⟨b, off, x, rfl, hb, hxk, c0, c1, hrow⟩ := (hx.below hB).at_ hlt
      obtain ⟨b', off', x', rfl, hb', hxk', c0', c1', hrow'⟩ := (hy.below hB).at_ hlt
      have he : (x.t, x.r) = (x'.t, x'.r) := by
        have h1 := dE_at hxk
        have h2 := dE_at hxk'
        rw [hd, h2] at h1
        injection h1 with h1
        exact h1.symm
      injection he with he2 he1
      have hl : x.n = x'.n := by rw [← hrow.len, ← hrow'.len, he1]
      rw [← he2] at c0'
      rw [← hl] at c1'
      have n3 : (x.t != x.t) = false := by simp
      have C1 := hide (fun (p : BW wr) => calls_bw (p := p) (RowSame_one x.A x.n x.c x'.A x'.c x.r p.x (hrow.below p.h).rd (by have h := (hrow'.below p.h).rd; rw [← he1, ← hl] at h; exact h) hrow.le))
      have p0 := fun (p : BW wr) => BW.cell (a := ⟨b, off + k * 2, none⟩) hb c0 p
      have p1 := fun (p : BW wr) => BW.cell (a := ⟨b, off + k * 2 + 1, none⟩) hb c1 p
      have r0 := fun (p : BW wr) => BW.cell (a := ⟨b', off' + k * 2, none⟩) hb' c0' p
      have r1 := fun (p : BW wr) => BW.cell (a := ⟨b', off' + k * 2 + 1, none⟩) hb' c1' p
      clear c0 c1 c0' c1' hxk hxk' he1 he2 hl hrow hrow'
      have q1 : (0 : Int) ≤ (k : Int) := by omega
      have q2 : (k : Int) < (n : Int) := by omega
      go_wp2_with fail
      (refine wp_region_quiet_bw (by kernel_rfl) (by kernel_rfl) ?_
       repeat (first | go_big_quiet_step (((go_at_call 80; exact C1.out _))) | quiet_step (((go_at_call 80; exact C1.out _))))
       refine wpQuiet_nil ?_
       intro wq hw'
       obtain ⟨⟨_, hbq⟩, hw''⟩ := hw'
       subst hw'')
      have hB2 := bstep hB hbq
      clear hbq hB p0 p1 r0 r1 C1
      go_wp2
      go_roundw
      case rel => exact ⟨k + 1, by omega, by go_num, hB2⟩
      case measure => simp [intOf]; omega
    · obtain rfl : k = n := by omega
      go_wp2
      go_ret
      exact ⟨rfl, hB⟩
theorem Intervals_any (A1 : Option Addr) (n1 c1 : Nat) (on : List Int) (A2 : Option Addr) (n2 c2 : Nat) (others : List Int) (lo hi : Int) (A3 : Option Addr) (n3 c3 : Nat) (ll : List Ev) (A4 : Option Addr) (n4 c4 : Nat) (lr : List Ev) (w : World)
    (h1 : Reads w w.heap.size 1 A1 n1 (on.map (Value.int .i64))) (h2 : Reads w w.heap.size 1 A2 n2 (others.map (Value.int .i64))) (hn1 : n1 ≤ 1000) (hn2 : n2 ≤ 1000) (h3 : EvR w w.heap.size A3 n3 ll) (h4 : EvR w w.heap.size A4 n4 lr) (hm3 : n3 ≤ 100000) (hm4 : n4 ≤ 100000)
    (hc3 : ∀ x ∈ ll, x.n ≤ x.c) (hc4 : ∀ x ∈ lr, x.n ≤ x.c) (ht : Tab w) :
    Calls Tryz.prog 14 #[.slice A1 n1 c1, .slice A2 n2 c2, .int .i64 lo, .int .i64 hi, .slice A3 n3 c3, .slice A4 n4 c4] w (RetEvE w (intB on others lo hi (dE ll) (dE lr))) := by
  cases hg : (evsB (dE ll) && evsB (dE lr) && (fitK on others && (insK on 8 && (insK others 8 && (spanB lo hi && (hasE (dE ll) on && hasE (dE lr) others))))))
  · exact (callsIn_wide (n := 2)).1 (Intervals_bad A1 n1 c1 on A2 n2 c2 others lo hi A3 n3 c3 ll A4 n4 c4 lr w h1 h2 hn1 hn2 h3 h4 hm3 hm4 hg)
  · simp only [Bool.and_eq_true] at hg
    obtain ⟨⟨r1, r2⟩, r3, r4, r5, r6, r7, r8⟩ := hg
    exact (callsIn_wide (n := 4)).1 (Intervals_ok A1 n1 c1 on A2 n2 c2 others lo hi A3 n3 c3 ll A4 n4 c4 lr w h1 h2 hn1 hn2 h3 h4 hm3 hm4 hc3 hc4 ht r1 r2 r3 r4 r5 r6 r7 r8)
/-- What Long of events answers: if it says no, they are few. -/
def RetLg (w : World) (n : Nat) (e : Ending) (w' : World) : Prop := ∃ b : Bool, e = .returned (.bool b) ∧ (b = false → n ≤ 300) ∧ Below w.heap.size w w'
set_option maxRecDepth 100000 in
set_option maxHeartbeats 4000000 in
theorem LongE_any (A : Option Addr) (n c : Nat) (l : List Ev) (w : World) (hl : EvR w w.heap.size A n l) :
    Calls Tryz.prog 12 #[.slice A n c] w (RetLg w n) := by
  have hle := hl.le
  go_enter Tryz.func12, Tryz.ntmps12
  go_wp2_with fail
  go_loopw [3] (fun i wr => ∃ k : Nat, k ≤ n ∧ i = .int .i64 k ∧ Below w.heap.size w wr) (fun i _ => n - (intOf i).toNat)
  case atStart => exact ⟨0, Nat.zero_le _, rfl, Below.refl _ _⟩
  case round =>
    obtain ⟨k, hk, rfl, hBw⟩ := hrel
    by_cases hlt : k < n
    · obtain ⟨b, off, x, rfl, hb, hxk, c0, c1, hrow⟩ := (hl.step hBw).at_ hlt
      clear hxk
      have q1 : (0 : Int) ≤ (k : Int) := by omega
      have q2 : (k : Int) < (n : Int) := by omega
      have hba := below_val (w := wr) #[.slice x.A x.n x.c] 34
      have ka := Blk.new wr 34 #[.slice x.A x.n x.c]
      have hcell : (wr.alloc (.cells #[.slice x.A x.n x.c] 34)).cell? ⟨wr.heap.size, 0, none⟩ = some (.slice x.A x.n x.c) := ka.cell 0
      have hrd := (hrow.below hba).rd.up (Below.refl _ _)
      have hrl := hrow.le
      have HBA := hide hba
      have HCE := hide hcell
      clear hba ka hcell hrow
      go_wp2_with fail
      refine (Long_one x.A x.n x.c x.r wr.heap.size _ hrd hrl HCE.out).mono ?_
      rintro ee w1 hres
      obtain ⟨bb, rfl, hB1⟩ := hres
      have hB2 := bstep hBw (bstep HBA.out hB1)
      clear hB1 hBw c0 c1 hrd HBA HCE
      cases bb
      · go_wp2
        go_roundw
        case rel => exact ⟨k + 1, by omega, by go_num, hB2⟩
        case measure => simp [intOf]; omega
      · go_wp2
        go_ret
        exact ⟨true, rfl, by simp, hB2⟩
    · obtain rfl : k = n := by omega
      by_cases z1 : k ≤ 30
      · have q1 : ¬ ((30 : Int) < (k : Int)) := by omega
        have q2 : ¬ ((300 : Int) < (k : Int)) := by omega
        have HZ := hide (show k ≤ 300 by omega)
        clear z1
        go_wp2
        go_ret
        exact ⟨_, rfl, fun _ => HZ.out, hBw⟩
      · have q1 : (30 : Int) < (k : Int) := by omega
        by_cases z2 : k ≤ 100
        · have q2 : (k : Int) ≤ 100 := by omega
          have HZ := hide (show k ≤ 300 by omega)
          clear z1 z2
          go_wp2
          go_ret
          exact ⟨_, rfl, fun _ => HZ.out, hBw⟩
        · have q2 : ¬ ((k : Int) ≤ 100) := by omega
          by_cases z3 : k ≤ 300
          · have q3 : ¬ ((300 : Int) < (k : Int)) := by omega
            have HZ := hide z3
            clear z1 z2 z3
            go_wp2
            go_ret
            exact ⟨_, rfl, fun _ => HZ.out, hBw⟩
          · have q3 : (300 : Int) < (k : Int) := by omega
            clear z1 z2 z3
            go_wp2
            go_ret
            exact ⟨_, rfl, fun h => (by simp at h), hBw⟩
/-- What long of keys answers: if it says no, both lists are short. -/
def RetKl (w : World) (n m : Nat) (e : Ending) (w' : World) : Prop := ∃ b : Bool, e = .returned (.bool b) ∧ (b = false → n ≤ 100 ∧ m ≤ 100) ∧ Below w.heap.size w w'
theorem klong_any (A1 : Option Addr) (n1 c1 : Nat) (A2 : Option Addr) (n2 c2 : Nat) (v2 v3 v4 v5 v6 : Int) (w : World) :
    Calls Tryz.prog 11 #[.agg #[.slice A1 n1 c1, .slice A2 n2 c2, .int .i64 v2, .int .i64 v3, .int .i64 v4, .int .i64 v5, .int .i64 v6]] w (RetKl w n1 n2) := by
  have hB := below_val (w := w) #[.slice A1 n1 c1, .slice A2 n2 c2, .int .i64 v2, .int .i64 v3, .int .i64 v4, .int .i64 v5, .int .i64 v6] 24
  have k1 := Blk.new w 24 #[.slice A1 n1 c1, .slice A2 n2 c2, .int .i64 v2, .int .i64 v3, .int .i64 v4, .int .i64 v5, .int .i64 v6]
  by_cases z1 : n1 ≤ 100
  · have q1 : ¬ ((100 : Int) < (n1 : Int)) := by omega
    by_cases z2 : n2 ≤ 100
    · have q2 : ¬ ((100 : Int) < (n2 : Int)) := by omega
      have HZ := hide (And.intro z1 z2)
      clear z1 z2
      go_enter Tryz.func11, Tryz.ntmps11
      go_wp2
      go_ret
      exact ⟨_, rfl, fun _ => HZ.out, hB⟩
    · have q2 : (100 : Int) < (n2 : Int) := by omega
      clear z1 z2
      go_enter Tryz.func11, Tryz.ntmps11
      go_wp2
      go_ret
      exact ⟨_, rfl, fun h => (by simp at h), hB⟩
  · have q1 : (100 : Int) < (n1 : Int) := by omega
    clear z1
    go_enter Tryz.func11, Tryz.ntmps11
    go_wp2
    go_ret
    exact ⟨_, rfl, fun h => (by simp at h), hB⟩
end Go.Proofs.YtoapjidpfghnlaaGreatDoor
