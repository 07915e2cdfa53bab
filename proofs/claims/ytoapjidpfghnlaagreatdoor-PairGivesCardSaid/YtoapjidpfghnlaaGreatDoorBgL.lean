/-
  The walks of bag.Sum and bag.Minus, for every two bags.
  The walk of bag.Changes, for every two valid bags and a valid time whose changes are no error.
  The walks of the references' Same at rows and bags that are one, and of Long and Few.
  The walk of Few: whatever it answers, bags that are few have at most 60 items.
  The walks of the reference's SameChanges at changes that are one, and of the law's awake.
-/
import Derived.Test.YtoapjidpfghnlaaGreatDoorBgS1
import Derived.Test.YtoapjidpfghnlaaGreatDoorBgP2
namespace Go.Proofs.YtoapjidpfghnlaaGreatDoor

section
open Go.RowKit Go.Shelf
attribute [local go_sem] Oper.semAt_some wide_fn wide_depth

/-- What two bags put together are, with the error. -/
def comb (f : Int → Int → Int) (a b : Bg) : Bg × Int := if okBag a && okBag b then (if okBag (both f (prs a b)) then (both f (prs a b), 0) else ([], 4)) else ([], 1)
def RetC (w : World) (p : Bg × Int) : Ending → World → Prop := RetBag w p.1 p.2
end

section
open Go.RowKit Go.Shelf
attribute [local go_sem] Oper.semAt_some wide_fn wide_depth

structure Ch where
  t : Int
  A : Option Addr
  n : Nat
  c : Nat
  r : Rw
  m : Int
def encCh (i : Ch) : List Value := [.int .i64 i.t, .slice i.A i.n i.c, .int .i64 i.m]
theorem encCh_len (i : Ch) : (encCh i).length = 3 := rfl
theorem infoCh : (Tryz.prog.info? 57).map (fun i => (i.zero, i.size, i.bytes)) = some (some (.agg #[.int .i64 0, .slice none 0 0, .int .i64 0]), 3, 40) := by kernel_rfl
def RowsC (w : World) (B : Nat) (l : List Ch) : Prop := ∀ i ∈ l, RowK w B i.A i.n i.r
/-- A list of changes in memory. -/
structure ChgR (w : World) (B : Nat) (A : Option Addr) (n : Nat) (l : List Ch) : Prop where
  rd : Reads w w.heap.size 3 A n (l.flatMap encCh)
  rows : RowsC w B l
  le : n ≤ 9223372036854775807
/-- What lies in memory between two rounds: box ob holds what was put together so far. -/
structure OutC (f : Int → Int → Int) (T : Int) (B ob : Nat) (pre : List Pe) (W : World) : Prop where
  ow : ∃ (v : Value) (l : List Ch), Boxed W ob 67 v ∧ W.ownsRow (ob + 3) 57 3 v l.length (l.flatMap encCh) ∧ (l.map (fun i => (i.r, i.m)) = both f (pre.map datP) ∧ ∀ i ∈ l, i.t = T) ∧ RowsC W B l
  a : ∃ v, Boxed W (ob + 1) 40 v
  b : ∃ v, Boxed W (ob + 1 + 1) 40 v
theorem OutC.lt {f : Int → Int → Int} {T : Int} {B ob : Nat} {pre : List Pe} {W : World} (h : OutC f T B ob pre W) : ob + 1 + 1 < W.heap.size := by obtain ⟨v, hv⟩ := h.b; exact hv.lt
theorem OutC.wr {f : Int → Int → Int} {T : Int} {B ob : Nat} {pre : List Pe} {X Y : World} (h : OutC f T B ob pre X) (k : WrQ (ob + 1) (ob + 1 + 1) X Y) (hB : B ≤ ob) : OutC f T B ob pre Y := by
  obtain ⟨⟨v, l, h1, h2, h3, h4⟩, ⟨va, h5⟩, ⟨vb, h6⟩⟩ := h
  have hbl : ∀ b, b < X.heap.size → b ≠ ob + 1 → b ≠ ob + 1 + 1 → Y.heap[b]? = X.heap[b]? := fun b hb n1 n2 => k.wr.bar.block b hb (by simp; omega)
  refine ⟨⟨v, l, (hbl ob h1.lt (by omega) (by omega)).trans h1, ⟨h2.1, ?_⟩, h3, fun i hi => ?_⟩, k.a, k.b⟩
  · rcases h2.2 with e | ⟨g, cap, cur, e1, e2, e3, e4⟩
    · exact .inl e
    · exact .inr ⟨g, cap, cur, e1, e2, (hbl g (Array.getElem?_eq_some_iff.1 e3).1 (by omega) (by omega)).trans e3, e4⟩
  · refine (h4 i hi).keep (p := fun b => b = ob + 1 ∨ b = ob + 1 + 1) (fun b hb hn => hbl b hb (fun e => hn (.inl e)) (fun e => hn (.inr e))) k.wr.bar.size fun b hb => ⟨by omega, fun c fz hc => ?_⟩
    rcases hb with rfl | rfl
    · rw [show X.heap[ob + 1]? = _ from h5] at hc
      cases hc
    · rw [show X.heap[ob + 1 + 1]? = _ from h6] at hc
      cases hc
/-- Changes, all at one time, handed back. -/
def RetChg (w : World) (T : Int) (d : Bg) (e : Ending) (w' : World) : Prop :=
  ∃ A n c l, e = .returned (.tuple #[.slice A n c, .int .i64 0]) ∧ (l.map (fun i => (i.r, i.m)) = d ∧ ∀ i ∈ l, i.t = T) ∧ ChgR w' w'.heap.size A n l ∧ Below w.heap.size w w'
end

section
open Go.RowKit
attribute [local go_sem] Oper.semAt_some

theorem neVal (a : Int) (b : Int) (s : ByteArray) (w : World) : (binOp .neq 102 (.agg #[.int .i64 a, .int .i64 b, .string s]) (.agg #[.int .i64 a, .int .i64 b, .string s])).run Tryz.prog w = .ok (.bool false) w := by
  have u3 := Tryz.underlying3
  have a3 := Tryz.isAgg3
  have z3 := Tryz.sizeOf3
  have u9 := Tryz.underlying9
  have a9 := Tryz.isAgg9
  have z9 := Tryz.sizeOf9
  have hS : Tryz.prog.underlying 102 = some (.struct (Tryz.prog.fieldsOf 102)) := by kernel_rfl
  have hp : Tryz.prog.stoodInHeld 102 = false := by kernel_rfl
  rw [run_neq_struct, show (10000 : Nat) = 9999 + 1 from rfl, run_equalIn_agg w 9999 102 _ _ hS hp]
  simp only [Program.fieldsOf, Tryz.underlying102]
  go_simp
set_option maxRecDepth 100000 in
set_option maxHeartbeats 2000000 in
theorem RowSame_one (A : Option Addr) (n c : Nat) (A' : Option Addr) (c' : Nat) (r : Rw) (w : World) (hx : Reads w w.heap.size 3 A n (r.flatMap encV)) (hy : Reads w w.heap.size 3 A' n (r.flatMap encV)) (hn : n ≤ 9223372036854775807) :
    Calls Tryz.prog 80 #[.slice A n c, .slice A' n c'] w (RetV w (.bool true)) := by
  have HL := hide (hx.len encV_len (by omega))
  have hm : Tryz.prog.eqGuardType Tryz.prog.depth 102 = false := by kernel_rfl
  have hne := neVal
  have n1 : ((n : Int) != (n : Int)) = false := by simp
  go_enter Tryz.func80, Tryz.ntmps80
  go_wp2_with fail
  go_loopw [5] (fun i wr => ∃ k : Nat, k ≤ n ∧ i = .int .i64 k ∧ Below w.heap.size w wr) (fun i _ => n - (intOf i).toNat)
  case atStart => exact ⟨0, Nat.zero_le _, rfl, Below.refl _ _⟩
  case round =>
    obtain ⟨k, hk, rfl, hB⟩ := hrel
    by_cases hlt : k < n
    · obtain ⟨b, off, e, rfl, hb, hek, hce⟩ := (hx.below hB).elem encV_len HL.out hlt
      obtain ⟨b', off', e', rfl, hb', hek', hce'⟩ := (hy.below hB).elem encV_len HL.out hlt
      obtain rfl : e = e' := by rw [hek] at hek'; injection hek'
      have e0 : wr.cell? ⟨b, off + k * 3, none⟩ = some (.int .i64 e.k) := by simpa using hce 0 _ rfl
      have e1 : wr.cell? ⟨b, off + k * 3 + 1, none⟩ = some (.int .i64 e.n) := by simpa [← Nat.add_assoc] using hce 1 _ rfl
      have e2 : wr.cell? ⟨b, off + k * 3 + 2, none⟩ = some (.string e.s) := by simpa [← Nat.add_assoc] using hce 2 _ rfl
      have f0 : wr.cell? ⟨b', off' + k * 3, none⟩ = some (.int .i64 e.k) := by simpa using hce' 0 _ rfl
      have f1 : wr.cell? ⟨b', off' + k * 3 + 1, none⟩ = some (.int .i64 e.n) := by simpa [← Nat.add_assoc] using hce' 1 _ rfl
      have f2 : wr.cell? ⟨b', off' + k * 3 + 2, none⟩ = some (.string e.s) := by simpa [← Nat.add_assoc] using hce' 2 _ rfl
      clear hce hce' hek hek'
      have q1 : (0 : Int) ≤ (k : Int) := by omega
      have q2 : (k : Int) < (n : Int) := by omega
      go_wp2_with fail
      go_quiet (fail)
      go_wp2
      go_roundw
      case rel => exact ⟨k + 1, by omega, by go_num, below_drewN hB _⟩
      case measure => simp [intOf]; omega
    · obtain rfl : k = n := by omega
      go_wp2
      go_ret
      exact ⟨rfl, hB⟩
/-- Long answers. -/
def RetSome (w : World) (e : Ending) (w' : World) : Prop := ∃ b : Bool, e = .returned (.bool b) ∧ Below w.heap.size w w'
set_option maxRecDepth 100000 in
set_option maxHeartbeats 2000000 in
theorem Long_one (A : Option Addr) (n c : Nat) (r : Rw) (a : Nat) (w : World) (hx : Reads w w.heap.size 3 A n (r.flatMap encV)) (hn : n ≤ 9223372036854775807) (ha : w.cell? ⟨a, 0, none⟩ = some (.slice A n c)) :
    Calls Tryz.prog 59 #[.slice (some ⟨a, 0, none⟩) 1 1] w (RetSome w) := by
  have HL := hide (hx.len encV_len (by omega))
  go_enter Tryz.func59, Tryz.ntmps59
  go_wp2_with fail
  go_loopw [3, 4] (fun s i wr => ∃ (k : Nat) (x : Int), k ≤ 1 ∧ s = .int .i64 x ∧ i = .int .i64 k ∧ wr = w) (fun _ i _ => 1 - (intOf i).toNat)
  case atStart => exact ⟨0, 0, Nat.zero_le _, rfl, rfl, rfl⟩
  case round =>
    obtain ⟨k, x, hk, rfl, rfl, rfl⟩ := hrel
    by_cases hlt : k < 1
    · obtain rfl : k = 0 := by omega
      go_wp2_with fail
      go_loopw [3, 5] (fun s i wr' => ∃ (k : Nat) (x : Int), k ≤ n ∧ s = .int .i64 x ∧ i = .int .i64 k ∧ wr' = wr) (fun _ i _ => n - (intOf i).toNat)
      case atStart => exact ⟨0, _, Nat.zero_le _, rfl, rfl, rfl⟩
      case round =>
        obtain ⟨j, y, hj, rfl, rfl, hw⟩ := hrel
        subst hw
        by_cases hlt2 : j < n
        · obtain ⟨b, off, e, rfl, hb, hek, hce⟩ := hx.elem encV_len HL.out hlt2
          have e2 := hce 2 _ rfl
          have e2' := e2
          rw [show off + (j * 3 + 2) = off + j * 3 + 2 by omega] at e2'
          clear hce hek
          have q1 : (0 : Int) ≤ (j : Int) := by omega
          have q2 : (j : Int) < (n : Int) := by omega
          go_wp2
          go_roundw
          case rel => exact ⟨j + 1, _, by omega, rfl, by go_num, trivial⟩
          case measure => simp [intOf]; omega
        · obtain rfl : j = n := by omega
          go_wp2
          go_roundw
          case rel => exact ⟨1, _, by omega, rfl, by go_num, trivial⟩
          case measure => simp [intOf]
    · obtain rfl : k = 1 := by omega
      go_wp2
      go_ret
      exact ⟨_, rfl, Below.refl _ _⟩
end

section
open Go.RowKit
attribute [local go_sem] Oper.semAt_some

structure Bn where
  A : Option Addr
  n : Nat
  c : Nat
  l : List It
def RetFew (w : World) (bs : List Bn) (e : Ending) (w' : World) : Prop := ∃ b : Bool, e = .returned (.bool b) ∧ (b = true → ∀ x ∈ bs, x.n ≤ 60) ∧ Below w.heap.size w w'
end

section
open Go.RowKit
attribute [local go_sem] Oper.semAt_some

theorem ChgR.at_ {w : World} {B n : Nat} {A : Option Addr} {l : List Ch} (h : ChgR w B A n l) {k : Nat} (hk : k < n) : ∃ b off i, A = some ⟨b, off, none⟩ ∧ b < w.heap.size ∧ l[k]? = some i ∧ w.cell? ⟨b, off + k * 3, none⟩ = some (.int .i64 i.t) ∧
    w.cell? ⟨b, off + k * 3 + 1, none⟩ = some (.slice i.A i.n i.c) ∧ w.cell? ⟨b, off + k * 3 + 2, none⟩ = some (.int .i64 i.m) ∧ RowK w B i.A i.n i.r := by
  obtain ⟨b, off, i, e, hb, hi, hc⟩ := h.rd.elem encCh_len (h.rd.len encCh_len (by omega)) hk
  exact ⟨b, off, i, e, hb, hi, by simpa using hc 0 _ rfl, by simpa [← Nat.add_assoc] using hc 1 _ rfl, by simpa [← Nat.add_assoc] using hc 2 _ rfl, h.rows i (List.mem_of_getElem? hi)⟩
theorem ChgR.below {w w' : World} {B n : Nat} {A : Option Addr} {l : List Ch} (h : ChgR w B A n l) (hb : Below w.heap.size w w') : ChgR w' B A n l := ⟨h.rd.up hb, fun i hi => (h.rows i hi).below hb, h.le⟩
def datC (l : List Ch) : List (Rw × Int × Int) := l.map fun i => (i.r, i.t, i.m)
set_option maxRecDepth 100000 in
set_option maxHeartbeats 8000000 in
theorem ChgSame_one (A : Option Addr) (n c : Nat) (A' : Option Addr) (c' B B' : Nat) (l l' : List Ch) (w : World) (hx : ChgR w B A n l) (hy : ChgR w B' A' n l') (hd : datC l = datC l') :
    Calls Tryz.prog 41 #[.slice A n c, .slice A' n c'] w (RetV w (.bool true)) := by
  have hn := hx.le
  have n1 : ((n : Int) != (n : Int)) = false := by simp
  go_enter Tryz.func41, Tryz.ntmps41
  go_wp2_with fail
  go_loopw [5] (fun i wr => ∃ k : Nat, k ≤ n ∧ i = .int .i64 k ∧ Below w.heap.size w wr) (fun i _ => n - (intOf i).toNat)
  case atStart => exact ⟨0, Nat.zero_le _, rfl, Below.refl _ _⟩
  case round =>
    obtain ⟨k, hk, rfl, hB⟩ := hrel
    by_cases hlt : k < n
    · obtain ⟨b, off, x, rfl, hb, hxk, c0, c1, c2, hrow⟩ := (hx.below hB).at_ hlt
      obtain ⟨b', off', x', rfl, hb', hxk', c0', c1', c2', hrow'⟩ := (hy.below hB).at_ hlt
      have he : (x.r, x.t, x.m) = (x'.r, x'.t, x'.m) := by
        have h1 : (datC l)[k]? = some (x.r, x.t, x.m) := by unfold datC; rw [List.getElem?_map, hxk]; rfl
        have h2 : (datC l')[k]? = some (x'.r, x'.t, x'.m) := by unfold datC; rw [List.getElem?_map, hxk']; rfl
        rw [hd, h2] at h1
        injection h1 with h1
        exact h1.symm
      injection he with he1 he2
      injection he2 with he2 he3
      have hl : x.n = x'.n := by rw [← hrow.len, ← hrow'.len, he1]
      rw [← he2] at c0'
      rw [← hl] at c1'
      rw [← he3] at c2'
      have n2 : (x.m != x.m) = false := by simp
      have n3 : (x.t != x.t) = false := by simp
      have C1 := hide (fun (p : BW wr) => calls_bw (p := p) (RowSame_one x.A x.n x.c x'.A x'.c x.r p.x (hrow.below p.h).rd (by have h := (hrow'.below p.h).rd; rw [← he1, ← hl] at h; exact h) hrow.le))
      have p0 := fun (p : BW wr) => BW.cell (a := ⟨b, off + k * 3, none⟩) hb c0 p
      have p1 := fun (p : BW wr) => BW.cell (a := ⟨b, off + k * 3 + 1, none⟩) hb c1 p
      have p2 := fun (p : BW wr) => BW.cell (a := ⟨b, off + k * 3 + 2, none⟩) hb c2 p
      have r0 := fun (p : BW wr) => BW.cell (a := ⟨b', off' + k * 3, none⟩) hb' c0' p
      have r1 := fun (p : BW wr) => BW.cell (a := ⟨b', off' + k * 3 + 1, none⟩) hb' c1' p
      have r2 := fun (p : BW wr) => BW.cell (a := ⟨b', off' + k * 3 + 2, none⟩) hb' c2' p
      clear c0 c1 c2 c0' c1' c2' hxk hxk' he1 he2 he3 hl hrow hrow'
      have q1 : (0 : Int) ≤ (k : Int) := by omega
      have q2 : (k : Int) < (n : Int) := by omega
      go_wp2_with fail
      (refine wp_region_quiet_bw (by kernel_rfl) (by kernel_rfl) ?_
       repeat (first | go_big_quiet_step (((go_at_call 80; exact C1.out _))) | quiet_step (((go_at_call 80; exact C1.out _))))
       refine wpQuiet_nil ?_
       intro wq hw'
       obtain ⟨⟨_, hbq⟩, hw''⟩ := hw'
       subst hw'')
      have hB2 := bstep hB hbq
      clear hbq hB p0 p1 p2 r0 r1 r2 C1
      go_wp2
      go_roundw
      case rel => exact ⟨k + 1, by omega, by go_num, hB2⟩
      case measure => simp [intOf]; omega
    · obtain rfl : k = n := by omega
      go_wp2
      go_ret
      exact ⟨rfl, hB⟩

/-! The example. -/
def oneR : Rw := [⟨1, 1, ByteArray.empty⟩]
end

end Go.Proofs.YtoapjidpfghnlaaGreatDoor
