/-
  The walks of the references' Same at rows and bags that are one, and of Long and Few.
-/
import Derived.Test.YtiioiajcoiaalaaGreatDoorBgV
namespace Go.Proofs.YtiioiajcoiaalaaGreatDoor
open Go.RowKit
attribute [local go_sem] Oper.semAt_some

theorem neVal (a : Int) (b : Int) (s : ByteArray) (w : World) : (binOp .neq 64 (.agg #[.int .i64 a, .int .i64 b, .string s]) (.agg #[.int .i64 a, .int .i64 b, .string s])).run Tryz.prog w = .ok (.bool false) w := by
  have u3 := Tryz.underlying3
  have a3 := Tryz.isAgg3
  have z3 := Tryz.sizeOf3
  have u9 := Tryz.underlying9
  have a9 := Tryz.isAgg9
  have z9 := Tryz.sizeOf9
  have hS : Tryz.prog.underlying 64 = some (.struct (Tryz.prog.fieldsOf 64)) := by kernel_rfl
  have hp : Tryz.prog.stoodInHeld 64 = false := by kernel_rfl
  rw [run_neq_struct, show (10000 : Nat) = 9999 + 1 from rfl, run_equalIn_agg w 9999 64 _ _ hS hp]
  simp only [Program.fieldsOf, Tryz.underlying64]
  go_simp
set_option maxRecDepth 100000 in
set_option maxHeartbeats 2000000 in
theorem RowSame_one (A : Option Addr) (n c : Nat) (A' : Option Addr) (c' : Nat) (r : Rw) (w : World) (hx : Reads w w.heap.size 3 A n (r.flatMap encV)) (hy : Reads w w.heap.size 3 A' n (r.flatMap encV)) (hn : n ≤ 9223372036854775807) :
    Calls Tryz.prog 53 #[.slice A n c, .slice A' n c'] w (RetV w (.bool true)) := by
  have HL := hide (hx.len encV_len (by omega))
  have hm : Tryz.prog.eqGuardType Tryz.prog.depth 64 = false := by kernel_rfl
  have hne := neVal
  have n1 : ((n : Int) != (n : Int)) = false := by simp
  go_enter Tryz.func53, Tryz.ntmps53
  go_wp2_with fail
  go_loopw [5] (fun i wr => ∃ k : Nat, k ≤ n ∧ i = .int .i64 k ∧ Below w.heap.size w wr) (fun i _ => n - (intOf i).toNat)
  case atStart => exact ⟨0, Nat.zero_le _, rfl, Below.refl _ _⟩
  case round =>
    obtain ⟨k, hk, rfl, hB⟩ := hrel
    by_cases hlt : k < n
    · obtain ⟨b, off, e, rfl, hb, hek, hce⟩ := (hx.below hB).elem encV_len HL.out hlt
      obtain ⟨b', off', e', rfl, hb', hek', hce'⟩ := (hy.below hB).elem encV_len HL.out hlt
      obtain rfl : e = e' := by rw [hek] at hek'; injection hek'
      have e0 : wr.cell? ⟨b, off + k * 3, none⟩ = some (.int .i64 e.k) := by simpa using hce 0 _ rfl
      have e1 : wr.cell? ⟨b, off + k * 3 + 1, none⟩ = some (.int .i64 e.n) := by simpa [← Nat.add_assoc] using hce 1 _ rfl
      have e2 : wr.cell? ⟨b, off + k * 3 + 2, none⟩ = some (.string e.s) := by simpa [← Nat.add_assoc] using hce 2 _ rfl
      have f0 : wr.cell? ⟨b', off' + k * 3, none⟩ = some (.int .i64 e.k) := by simpa using hce' 0 _ rfl
      have f1 : wr.cell? ⟨b', off' + k * 3 + 1, none⟩ = some (.int .i64 e.n) := by simpa [← Nat.add_assoc] using hce' 1 _ rfl
      have f2 : wr.cell? ⟨b', off' + k * 3 + 2, none⟩ = some (.string e.s) := by simpa [← Nat.add_assoc] using hce' 2 _ rfl
      clear hce hce' hek hek'
      have q1 : (0 : Int) ≤ (k : Int) := by omega
      have q2 : (k : Int) < (n : Int) := by omega
      go_wp2_with fail
      go_quiet (fail)
      go_wp2
      go_roundw
      case rel => exact ⟨k + 1, by omega, by go_num, below_drewN hB _⟩
      case measure => simp [intOf]; omega
    · obtain rfl : k = n := by omega
      go_wp2
      go_ret
      exact ⟨rfl, hB⟩
set_option maxRecDepth 100000 in
set_option maxHeartbeats 4000000 in
theorem BagSame_one (A : Option Addr) (n c : Nat) (A' : Option Addr) (c' B B' : Nat) (l l' : List It) (w : World) (hx : BagR w B A n l) (hy : BagR w B' A' n l') (hd : dat l = dat l') :
    Calls Tryz.prog 14 #[.slice A n c, .slice A' n c'] w (RetV w (.bool true)) := by
  have hn := hx.le
  have n1 : ((n : Int) != (n : Int)) = false := by simp
  go_enter Tryz.func14, Tryz.ntmps14
  go_wp2_with fail
  go_loopw [5] (fun i wr => ∃ k : Nat, k ≤ n ∧ i = .int .i64 k ∧ Below w.heap.size w wr) (fun i _ => n - (intOf i).toNat)
  case atStart => exact ⟨0, Nat.zero_le _, rfl, Below.refl _ _⟩
  case round =>
    obtain ⟨k, hk, rfl, hB⟩ := hrel
    by_cases hlt : k < n
    · obtain ⟨b, off, x, rfl, hb, hxk, c0, c1, hrow⟩ := (hx.below hB).at_ hlt
      obtain ⟨b', off', x', rfl, hb', hxk', c0', c1', hrow'⟩ := (hy.below hB).at_ hlt
      have he : (x.r, x.m) = (x'.r, x'.m) := by
        have h1 := dat_at hxk
        have h2 := dat_at hxk'
        rw [hd, h2] at h1
        injection h1 with h1
        exact h1.symm
      injection he with he1 he2
      have hl : x.n = x'.n := by rw [← hrow.len, ← hrow'.len, he1]
      rw [← he2] at c1'
      rw [← hl] at c0'
      have n2 : (x.m != x.m) = false := by simp
      have C1 := hide (fun (p : BW wr) => calls_bw (p := p) (RowSame_one x.A x.n x.c x'.A x'.c x.r p.x (hrow.below p.h).rd (by have h := (hrow'.below p.h).rd; rw [← he1, ← hl] at h; exact h) hrow.le))
      have p0 := fun (p : BW wr) => BW.cell (a := ⟨b, off + k * 2, none⟩) hb c0 p
      have p1 := fun (p : BW wr) => BW.cell (a := ⟨b, off + k * 2 + 1, none⟩) hb c1 p
      have r0 := fun (p : BW wr) => BW.cell (a := ⟨b', off' + k * 2, none⟩) hb' c0' p
      have r1 := fun (p : BW wr) => BW.cell (a := ⟨b', off' + k * 2 + 1, none⟩) hb' c1' p
      clear c0 c1 c0' c1' hxk hxk' he1 he2 hl hrow hrow'
      have q1 : (0 : Int) ≤ (k : Int) := by omega
      have q2 : (k : Int) < (n : Int) := by omega
      go_wp2_with fail
      (refine wp_region_quiet_bw (by kernel_rfl) (by kernel_rfl) ?_
       repeat (first | go_big_quiet_step (((go_at_call 53; exact C1.out _))) | quiet_step (((go_at_call 53; exact C1.out _))))
       refine wpQuiet_nil ?_
       intro wq hw'
       obtain ⟨⟨_, hbq⟩, hw''⟩ := hw'
       subst hw'')
      have hB2 := bstep hB hbq
      clear hbq hB p0 p1 r0 r1 C1
      go_wp2
      go_roundw
      case rel => exact ⟨k + 1, by omega, by go_num, hB2⟩
      case measure => simp [intOf]; omega
    · obtain rfl : k = n := by omega
      go_wp2
      go_ret
      exact ⟨rfl, hB⟩

/-- Long answers. -/
def RetSome (w : World) (e : Ending) (w' : World) : Prop := ∃ b : Bool, e = .returned (.bool b) ∧ Below w.heap.size w w'
set_option maxRecDepth 100000 in
set_option maxHeartbeats 2000000 in
theorem Long_one (A : Option Addr) (n c : Nat) (r : Rw) (a : Nat) (w : World) (hx : Reads w w.heap.size 3 A n (r.flatMap encV)) (hn : n ≤ 9223372036854775807) (ha : w.cell? ⟨a, 0, none⟩ = some (.slice A n c)) :
    Calls Tryz.prog 30 #[.slice (some ⟨a, 0, none⟩) 1 1] w (RetSome w) := by
  have HL := hide (hx.len encV_len (by omega))
  go_enter Tryz.func30, Tryz.ntmps30
  go_wp2_with fail
  go_loopw [3, 4] (fun s i wr => ∃ (k : Nat) (x : Int), k ≤ 1 ∧ s = .int .i64 x ∧ i = .int .i64 k ∧ wr = w) (fun _ i _ => 1 - (intOf i).toNat)
  case atStart => exact ⟨0, 0, Nat.zero_le _, rfl, rfl, rfl⟩
  case round =>
    obtain ⟨k, x, hk, rfl, rfl, rfl⟩ := hrel
    by_cases hlt : k < 1
    · obtain rfl : k = 0 := by omega
      go_wp2_with fail
      go_loopw [3, 5] (fun s i wr' => ∃ (k : Nat) (x : Int), k ≤ n ∧ s = .int .i64 x ∧ i = .int .i64 k ∧ wr' = wr) (fun _ i _ => n - (intOf i).toNat)
      case atStart => exact ⟨0, _, Nat.zero_le _, rfl, rfl, rfl⟩
      case round =>
        obtain ⟨j, y, hj, rfl, rfl, hw⟩ := hrel
        subst hw
        by_cases hlt2 : j < n
        · obtain ⟨b, off, e, rfl, hb, hek, hce⟩ := hx.elem encV_len HL.out hlt2
          have e2 := hce 2 _ rfl
          have e2' := e2
          rw [show off + (j * 3 + 2) = off + j * 3 + 2 by omega] at e2'
          clear hce hek
          have q1 : (0 : Int) ≤ (j : Int) := by omega
          have q2 : (j : Int) < (n : Int) := by omega
          go_wp2
          go_roundw
          case rel => exact ⟨j + 1, _, by omega, rfl, by go_num, trivial⟩
          case measure => simp [intOf]; omega
        · obtain rfl : j = n := by omega
          go_wp2
          go_roundw
          case rel => exact ⟨1, _, by omega, rfl, by go_num, trivial⟩
          case measure => simp [intOf]
    · obtain rfl : k = 1 := by omega
      go_wp2
      go_ret
      exact ⟨_, rfl, Below.refl _ _⟩
end Go.Proofs.YtiioiajcoiaalaaGreatDoor
