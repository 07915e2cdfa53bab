/-
  The iterators that are handed to bag.gathered: items$1, rows$1.
  items, rows, and the iterator of bag.Apply: the rows of a bag, then those of changes.
  The walks of the reference's Valid over bags, and of told.
  The walks of ValidChange on both sides, and of FewChanges at one change.
  The walks of bag.changes and of the reference's ValidChanges, for every list of changes.
  Sums group: (a + b) + c and a + (b + c) are the same list where all four sums are told without error. (Plain law.)
  The plain laws of sums of bags: they commute, Minus undoes them, and they are what the reference tells.
  The walk of bag.Apply.
-/
import Derived.Test.YtoapjidpfghnlaaGreatDoorGat
import Derived.Test.YtoapjidpfghnlaaGreatDoorBgL
import Derived.Test.YtoapjidpfghnlaaGreatDoorRngH
import Derived.Test.YtoapjidpfghnlaaGreatDoorBgS3
namespace Go.Proofs.YtoapjidpfghnlaaGreatDoor

section
open Go.RowKit
attribute [local go_sem] Oper.semAt_some wide_fn wide_depth
set_option linter.unusedVariables false
set_option linter.unusedSimpArgs false

theorem take_pre {α : Type} {l : List α} {k : Nat} {x : α} (h : l[k]? = some x) : l.take k ++ [x] <+: l := by
  rw [← take_snoc' h]; exact List.take_prefix _ _
/-- The rows of changes, with how often. -/
def chD (l : List Ch) : Bg := l.map fun i => (i.r, i.m)
end

section
open Go.RowKit
attribute [local go_sem] Oper.semAt_some wide_fn wide_depth
set_option linter.unusedVariables false
set_option linter.unusedSimpArgs false

theorem roundIn_wide {n n' l : Nat} {P : Program} {f : FuncId} {tmps : Array Value} {assign body : Code} {w : World} {R : Ending → World → Prop} (h : RoundIn Fence.wide n P l f tmps assign body w R) : RoundIn Fence.wide n' P l f tmps assign body w R :=
  ⟨h.1, fun c cs _ => h.2 c cs (room_wide _)⟩
theorem IterG.any {n n' : Nat} {P : Program} {α : Type} {g : Nat} {lb : Array Value} {Arg : α → Array Value → World → Prop} {xs : List α} {Wr Kp : World → World → Prop} {W : World} (h : IterG Fence.wide n P g lb Arg xs Wr Kp W) : IterG Fence.wide n' P g lb Arg xs Wr Kp W :=
  fun l J Jx h1 h2 h3 h4 => callsIn_wide.2 (callsIn_wide.1 (h l J Jx h1 h2 (fun pre x ag W1 a b c => let ⟨fn, tmps, assign, body, e, r⟩ := h3 pre x ag W1 a b c; ⟨fn, tmps, assign, body, e, roundIn_wide r⟩) h4))
/-- The inner loop's word: what lies below wA, and its own box. -/
def KpI (a Bi : Nat) (X Y : World) : Prop := Below a X Y ∧ ∀ v, Boxed X Bi 40 v → Boxed Y Bi 40 v
end

section
open Go.RowKit
attribute [local go_sem] Oper.semAt_some

end

section
open Go.RowKit
attribute [local go_sem] Oper.semAt_some

theorem R1Within_any (n lo hi : Int) (w : World) : Calls Tryz.prog 196 #[.int .i64 n, .int .i64 lo, .int .i64 hi] w fun e w' => e = .returned (.bool (btw n lo hi)) ∧ w = w' := by
  by_cases h1 : n < lo
  · rw [btw_lo h1]
    go_enter Tryz.func196, Tryz.ntmps196
    go_wp2
    go_ret
    exact ⟨rfl, rfl⟩
  · rw [show btw n lo hi = decide (n ≤ hi) from by simp [btw, show lo ≤ n by omega]]
    go_enter Tryz.func196, Tryz.ntmps196
    go_wp2
    go_ret
    exact ⟨rfl, rfl⟩
theorem R1Valid_any (n : Int) (w : World) : Calls Tryz.prog 150 #[.int .i64 n] w fun e w' => e = .returned (.bool (btw n (-1000000000000) 1000000000000)) ∧ w = w' := by
  go_enter Tryz.func150, Tryz.ntmps150
  go_wp2_with fail
  refine (R1Within_any n _ _ w).mono ?_
  rintro e w' ⟨rfl, rfl⟩
  go_wp2
  go_ret
  exact ⟨rfl, rfl⟩
/-- What ValidChange tells. -/
def okCh (t : Int) (r : Rw) (m : Int) : Bool := btw t (-1000000000000) 1000000000000 && okR r && numB m
set_option maxRecDepth 100000 in
set_option maxHeartbeats 4000000 in
theorem ValidChange_any (t : Int) (A : Option Addr) (n c : Nat) (r : Rw) (m : Int) (w : World) (hr : RowK w w.heap.size A n r) :
    Calls Tryz.prog 151 #[.agg #[.int .i64 t, .slice A n c, .int .i64 m]] w (RetV w (.bool (okCh t r m))) := by
  obtain ⟨p, hp⟩ : ∃ p, okCh t r m = p := ⟨_, rfl⟩
  have HP := hide hp
  rw [hp]
  clear hp
  have hB0 := below_val (w := w) #[.int .i64 t, .slice A n c, .int .i64 m] 57
  have b0 := Blk.new w 57 #[.int .i64 t, .slice A n c, .int .i64 m]
  have hr1 := (hr.below hB0).mono hB0.size
  go_enter Tryz.func151, Tryz.ntmps151
  go_wp2_with fail
  refine (bwithin_any t _ _ _).mono ?_
  rintro e W1 ⟨rfl, rfl⟩
  cases ht : btw t (-1000000000000) 1000000000000
  · have HX := hide (show false = p by rw [← HP.out]; unfold okCh; rw [ht]; rfl)
    clear ht
    go_wp2
    go_ret
    exact ⟨ret_bool HX.out, hB0⟩
  · have HT := hide ht
    clear ht
    go_wp2_with fail
    refine (RowValid_any A n c _ r _ hr1.rd (Nat.le_refl _) hr.le).mono ?_
    rintro e W2 ⟨rfl, hB2⟩
    have c2 : W2.cell? ⟨w.heap.size, 2, none⟩ = some (.int .i64 m) := (hB2.cell (p := ⟨w.heap.size, 2, none⟩) b0.lt).trans (b0.cell 2)
    have hB02 := bstep hB0 hB2
    clear hB2
    cases hq : okR r
    · have HX := hide (show false = p by rw [← HP.out]; unfold okCh; rw [hq]; simp)
      clear hq
      go_wp2
      go_ret
      exact ⟨ret_bool HX.out, hB02⟩
    · have HX := hide (show numB m = p by rw [← HP.out]; unfold okCh; rw [HT.out, hq]; rfl)
      clear hq
      go_wp2_with fail
      refine (number_any m W2).mono ?_
      rintro e W3 ⟨rfl, rfl⟩
      go_wp2
      go_ret
      exact ⟨ret_bool HX.out, hB02⟩
set_option maxRecDepth 100000 in
set_option maxHeartbeats 4000000 in
theorem RValidChange_any (t : Int) (A : Option Addr) (n c : Nat) (r : Rw) (m : Int) (w : World) (hr : RowK w w.heap.size A n r) :
    Calls Tryz.prog 158 #[.agg #[.int .i64 t, .slice A n c, .int .i64 m]] w (RetV w (.bool (okCh t r m))) := by
  obtain ⟨p, hp⟩ : ∃ p, okCh t r m = p := ⟨_, rfl⟩
  have HP := hide hp
  rw [hp]
  clear hp
  have hB0 := below_val (w := w) #[.int .i64 t, .slice A n c, .int .i64 m] 57
  have b0 := Blk.new w 57 #[.int .i64 t, .slice A n c, .int .i64 m]
  have hr1 := (hr.below hB0).mono hB0.size
  go_enter Tryz.func158, Tryz.ntmps158
  go_wp2_with fail
  refine (R1Valid_any t _).mono ?_
  rintro e W1 ⟨rfl, rfl⟩
  cases ht : btw t (-1000000000000) 1000000000000
  · have HX := hide (show false = p by rw [← HP.out]; unfold okCh; rw [ht]; rfl)
    clear ht
    go_wp2
    go_ret
    exact ⟨ret_bool HX.out, hB0⟩
  · have HT := hide ht
    clear ht
    go_wp2_with fail
    refine (R2Valid_any A n c _ r _ hr1.rd (Nat.le_refl _) hr.le).mono ?_
    rintro e W2 ⟨rfl, hB2⟩
    have c2 : W2.cell? ⟨w.heap.size, 2, none⟩ = some (.int .i64 m) := (hB2.cell (p := ⟨w.heap.size, 2, none⟩) b0.lt).trans (b0.cell 2)
    have hB02 := bstep hB0 hB2
    clear hB2
    cases hq : okR r
    · have HX := hide (show false = p by rw [← HP.out]; unfold okCh; rw [hq]; simp)
      clear hq
      go_wp2
      go_ret
      exact ⟨ret_bool HX.out, hB02⟩
    · have HX := hide (show numB m = p by rw [← HP.out]; unfold okCh; rw [HT.out, hq]; rfl)
      clear hq
      by_cases hm : m = 0
      · have z : (m != 0) = false := by simpa using hm
        have HY := hide (show false = p by rw [← HX.out, hm]; rfl)
        clear hm
        go_wp2
        go_ret
        exact ⟨ret_bool HY.out, hB02⟩
      · have z : (m != 0) = true := by simpa using hm
        have HY := hide (show btw m (-1000000) 1000000 = p by
          rw [← HX.out, show numB m = (decide (m ≠ 0) && btw m (-1000000) 1000000) from rfl]
          simp [hm])
        clear hm
        go_wp2_with fail
        refine (R3within_any m _ _ W2).mono ?_
        rintro e W3 ⟨rfl, rfl⟩
        go_wp2
        go_ret
        exact ⟨ret_bool HY.out, hB02⟩
end

section
open Go.RowKit
attribute [local go_sem] Oper.semAt_some

/-- What ValidChange tells of an element. -/
def chV (i : Ch) : Bool := okCh i.t i.r i.m
/-- What ValidChanges tells. -/
def okChs (l : List Ch) : Bool := decide (l.length ≤ 400) && l.all chV
theorem ChgR.len {w : World} {B n : Nat} {A : Option Addr} {l : List Ch} (h : ChgR w B A n l) : l.length = n := h.rd.len encCh_len (by omega)
end

section
open Go.RowKit

abbrev addB : Bg → Bg → Bg × Int := comb (fun m k => m + k)
end

section
open Go.RowKit

abbrev subB : Bg → Bg → Bg × Int := comb (fun m k => m - k)
/-- What the reference tells of a list. -/
def toldB (d : Bg) : Bg × Int := if okBag d then (d, 0) else ([], 4)
end

section
open Go.RowKit
attribute [local go_sem] Oper.semAt_some
set_option linter.unusedVariables false
set_option linter.unusedSimpArgs false

/-- What Apply tells. -/
def applyB (a : Bg) (lc : List Ch) : Bg × Int := if okBag a && okChs lc then toldB (aftB a (chD lc)) else ([], 1)
end

end Go.Proofs.YtoapjidpfghnlaaGreatDoor
