/-
  The walk of tidewrightref12.SameInts, for every two lists.
  'Bar N X w w'': below block N, but for the blocks of the list X, the world is as it was. For a loop over an iterator whose body writes variables that lie in boxes. Plain theorems over any program; no condition.
  Graphs as plain data; the walks of Has, ascends, tasks, Valid's and tasks' closures, heavy, In.
  The walks of heavy and of tidewrightref26.Valid.
-/
import Derived.Test.YtmpoaegdejhbeaaDoorMem
import Derived.Test.YtmpoaegdejhbeaaDoorProg
import Derived.WalkKit
import Derived.Deep.QuietTactic
import Derived.BigQuiet
import Derived.Outline
import Derived.RangeFuncNested
import Derived.RangeFuncBound
import Derived.RangeFuncCalls
import Derived.RangeFuncLeaves
import Derived.Shelf.Abstract
import Derived.Shelf.RegionOpen
import Derived.OwnWalkIn
import Derived.TacticsInMore
import Derived.LoopNIn
import Derived.LoopIn
import Derived.Laws.StructEq
import Derived.Handy
namespace Go.Proofs.YtmpoaegdejhbeaaDoor

section
open Go.RowKit

set_option maxHeartbeats 1000000 in
theorem SameInts_any (A A' : Option Addr) (n m c c' B B' : Nat) (xs ys : List Int) (w : World) (hx : Reads w B 1 A n (xs.map (Value.int .i64))) (hy : Reads w B' 1 A' m (ys.map (Value.int .i64))) (hn : n ≤ 4611686018427387904) (hm : m ≤ 4611686018427387904) :
    Calls Tryd.prog 15 #[.slice A n c, .slice A' m c'] w (RetQ w (.bool (decide (xs = ys)))) := by
  have hxl := hx.len1
  have hyl := hy.len1
  by_cases hnm : n = m
  · subst hnm
    clear hm
    have HX := hide hxl
    have HY := hide hyl
    clear hxl hyl
    go_enter Tryd.func15, Tryd.ntmps15
    go_wp2
    go_loopw [5] (fun i wr => ∃ k q : Nat, k ≤ n ∧ i = .int .i64 k ∧ xs.take k = ys.take k ∧ wr = w.drewN q) (fun i _ => n - (intOf i).toNat)
    case atStart => exact ⟨0, 0, Nat.zero_le _, rfl, rfl, rfl⟩
    case round =>
      obtain ⟨k, q, hk, rfl, heq, rfl⟩ := hrel
      have HE := hide heq
      clear heq
      by_cases hlt : k < n
      · obtain ⟨b, off, x, rfl, hb, hxk, hc⟩ := hx.at1 hlt
        obtain ⟨b', off', y, rfl, hb', hyk, hc'⟩ := hy.at1 hlt
        have HXK := hide hxk
        have HYK := hide hyk
        clear hxk hyk
        by_cases hxy : x = y
        · subst hxy
          go_wp2
          go_quiet (fail)
          go_wp2
          go_roundw
          case rel => exact ⟨k + 1, _, by omega, by go_num, by rw [take_snoc' HXK.out, take_snoc' HYK.out, HE.out], rfl⟩
          case measure => simp [intOf]; omega
        · have hxy' : (x != y) = true := by simpa using hxy
          go_wp2
          go_quiet (fail)
          go_wp2
          go_ret
          exact ⟨ret_bool (by
            symm; rw [decide_eq_false_iff_not]; rintro rfl
            exact hxy (Option.some.inj (HXK.out.symm.trans HYK.out))), _, World.drewN_drewN _ _ _⟩
      · obtain rfl : k = n := by omega
        go_wp2
        go_ret
        exact ⟨ret_bool (by
          symm; rw [decide_eq_true_eq]
          have := HE.out; rwa [take_all HX.out, take_all HY.out] at this), _, rfl⟩
  · have hne : ((n : Int) != (m : Int)) = true := by simp; omega
    have HX := hide hxl
    have HY := hide hyl
    clear hxl hyl
    go_enter Tryd.func15, Tryd.ntmps15
    go_wp2
    go_ret
    exact ⟨ret_bool (by
      symm; rw [decide_eq_false_iff_not]; rintro rfl
      exact hnm (HX.out.symm.trans HY.out)), 0, rfl⟩
end

section
open Go.RowKit

theorem wide_fn (f : FuncId) : Fence.wide.fn f := trivial
theorem wide_depth : Fence.wide.depth = none := rfl

structure Bar (N : Nat) (X : List Nat) (w w' : World) : Prop where
  os : w'.os = w.os
  tape : w'.tape = w.tape
  output : w'.output = w.output
  size : w.heap.size ≤ w'.heap.size
  block : ∀ k, k < N → k ∉ X → w'.heap[k]? = w.heap[k]?

section
variable {N : Nat} {X : List Nat} {a b w w' : World}
theorem Bar.refl (N : Nat) (X : List Nat) (w : World) : Bar N X w w := ⟨rfl, rfl, rfl, Nat.le_refl _, fun _ _ _ => rfl⟩
theorem Bar.trans (h : Bar N X a b) (k : Bar N X b w) : Bar N X a w :=
  ⟨k.os.trans h.os, k.tape.trans h.tape, k.output.trans h.output, Nat.le_trans h.size k.size, fun i hi hx => (k.block i hi hx).trans (h.block i hi hx)⟩
theorem Bar.of_below (h : Below N a w) (X : List Nat) : Bar N X a w := ⟨h.os, h.tape, h.output, h.size, fun k hk _ => h.block k hk⟩
theorem Bar.below (h : Bar N X a w) {B : Nat} (hB : B ≤ N) (hX : ∀ x ∈ X, B ≤ x) : Below B a w :=
  ⟨h.os, h.tape, h.output, h.size, fun k hk => h.block k (by omega) (fun hx => by have := hX k hx; omega)⟩
theorem Bar.drewN (h : Bar N X a w) (n : Nat) : Bar N X a (w.drewN n) := ⟨h.os, h.tape, h.output, h.size, h.block⟩
theorem Bar.drew (h : Bar N X a w) : Bar N X a w.drew := ⟨h.os, h.tape, h.output, h.size, h.block⟩
theorem Bar.alloc (h : Bar N X a w) (hN : N ≤ w.heap.size) (o : Obj) : Bar N X a (w.alloc o) :=
  h.trans ⟨rfl, rfl, rfl, by simp, fun k hk _ => Below.heap_alloc _ _ _ (by omega)⟩
theorem Bar.setCell (h : Bar N X a w) {p : Addr} (hp : N ≤ p.block ∨ p.block ∈ X) (u : Value) : Bar N X a (w.setCell p u) :=
  h.trans ⟨rfl, rfl, rfl, by simp [World.setCell], fun k hk hx => Below.heap_setCell _ _ _ _ (by
    rintro rfl
    rcases hp with hp | hp
    · omega
    · exact hx hp)⟩
theorem Bar.grown (h : Bar N X a w) {row : Option Nat} (hg : w.grownBy w' row) (hN : N ≤ w.heap.size) (hr : ∀ k, row = some k → N ≤ k ∨ k ∈ X) : Bar N X a w' :=
  h.trans ⟨hg.os, hg.tape, hg.output, hg.size, fun k hk hx => hg.block k (by omega) (fun e => by
    rcases hr k e.symm with h | h
    · omega
    · exact hx h)⟩
theorem Bar.boxed (h : Bar N X a w) {B : Nat} {t : TypeId} {v : Value} (hb : Boxed a B t v) (hB : B < N) (hX : B ∉ X) : Boxed w B t v := (h.block B hB hX).trans hb
theorem Bar.cell (h : Bar N X a w) {p : Addr} (hB : p.block < N) (hX : p.block ∉ X) : w.cell? p = a.cell? p := World.cell?_of_block (h.block _ hB hX)
theorem bar_t {A B C : World} (h : Bar N X A B) (k : Bar N X B C) : Bar N X A C := h.trans k
theorem bar_b {w : World} (hn : N ≤ w.heap.size) (W : World) (l : Nat) (o o' : Obj) (hl : w.heap.size ≤ l) (h : W.heap[l]? = some o) (_ : o.isCells = false) (_ : o.isWalk = false) : Bar N X W (W.putObj l o') :=
  (Bar.refl N X W).grown (grownBy_putObj' W l o') (by have := (Array.getElem?_eq_some_iff.1 h).1; omega) (fun k e => by cases e; exact .inl (by omega))
theorem ownFrom_bar {β : Type} {B : Nat} {w₀ : World} (hn : N ≤ w₀.heap.size) (hB : N ≤ B) : OwnFrom B (fun (_ : β) W => Bar N X w₀ W) :=
  fun _ _ _ _ hs hg hr => hs.grown hg (Nat.le_trans hn hs.size) (fun k e => .inl (Nat.le_trans hB (hr k e).1))
end

theorem Boxed.drewN {W : World} {B : Nat} {t : TypeId} {v : Value} (h : Boxed W B t v) (n : Nat) : Boxed (W.drewN n) B t v := h
theorem Boxed.setOther {W : World} {B : Nat} {t : TypeId} {v : Value} (h : Boxed W B t v) {p : Addr} (hne : B ≠ p.block) (u : Value) : Boxed (W.setCell p u) B t v := (Below.heap_setCell W p u B hne).trans h

/-- 'out = append(out, ..)', out in box B, its row at or beyond N, the box below N: all that the walk owes behind it. -/
theorem Boxed.collected {W w1 : World} {N B : Nat} {t e : TypeId} {size : Nat} {v v' : Value} {k m : Nat} {xs ys : List Value} {tmp : Obj}
    (hv : Boxed W B t v) (hrow : W.ownsRow N e size v k xs) (hN : N ≤ W.heap.size) (hB : B < N)
    (hown' : w1.ownsRow N e size v' m ys) (hgrow : (W.alloc tmp).grownBy w1 v.ownBlock) :
    Boxed w1 B t v ∧ Boxed (w1.setCell ⟨B, 0, none⟩ v') B t v' ∧ (w1.setCell ⟨B, 0, none⟩ v').ownsRow N e size v' m ys ∧ KeepsOthers W (w1.setCell ⟨B, 0, none⟩ v') ∧ Bar N [B] W (w1.setCell ⟨B, 0, none⟩ v') := by
  have hne : some B ≠ v.ownBlock := fun e => by have := (hrow.lt B e.symm).1; omega
  have hne' : some B ≠ v'.ownBlock := fun e => by have := (hown'.lt B e.symm).1; omega
  have hv1 : Boxed w1 B t v := (hv.alloc tmp).kept hgrow hne
  refine ⟨hv1, hv1.set v', hown'.kept (grownBy_setCell' w1 B v') (.inr hne'.symm), ?_, ?_⟩
  · refine ((KeepsOthers.alloc W tmp).trans (KeepsOthers.of_grownBy hgrow fun j o ej hj => ?_)).trans (KeepsOthers.setCell _ _ _)
    rcases (hrow.alloc tmp).2 with ⟨rfl, _⟩ | ⟨g, cap, cur, rfl, _, hgb, _⟩
    · simp [Value.ownBlock] at ej
    · obtain rfl : g = j := by simpa [Value.ownBlock] using ej
      rw [hgb] at hj; cases hj; rfl
  · exact (((Bar.refl N [B] W).alloc hN tmp).grown hgrow (by simp; omega) fun j ej => .inl (hrow.lt j ej).1).setCell (.inr (by simp)) v'

/-- 'Box B holds a slice that owns f s' abides whatever is no cells. -/
theorem holdsRow_from {β : Type} (C N B : Nat) (t e : TypeId) (size : Nat) (k : β → Nat) (f : β → List Value) : OwnFrom C (fun s W => ∃ v, Boxed W B t v ∧ W.ownsRow N e size v (k s) (f s)) := by
  have h := (holdsRow_own N B t e size k f (fun _ _ => True)).from C
  intro s X Y row ⟨v, hv, hr⟩ hg hrow
  obtain ⟨v', a, b, _⟩ := h s X Y row ⟨v, hv, hr, trivial⟩ hg hrow
  exact ⟨v', a, b⟩
end

section
open Go.RowKit Go.Shelf
attribute [local go_sem] Oper.semAt_some

/-- An edge as three cells. -/
structure Ed where
  f : Int
  t : Int
  s : Bool
  deriving DecidableEq
def encEd (e : Ed) : List Value := [.int .i64 e.f, .int .i64 e.t, .bool e.s]
theorem encEd_len (e : Ed) : (encEd e).length = 3 := rfl
/-- A graph: its two slices, and what they hold. -/
structure Gr where
  a1 : Option Addr
  n1 : Nat
  c1 : Nat
  ops : List Int
  a2 : Option Addr
  n2 : Nat
  c2 : Nat
  es : List Ed
def Gr.v1 (g : Gr) : Value := .slice g.a1 g.n1 g.c1
def Gr.v2 (g : Gr) : Value := .slice g.a2 g.n2 g.c2
structure Gr.Ok (g : Gr) (w : World) (B : Nat) : Prop where
  r1 : Reads w B 1 g.a1 g.n1 (g.ops.map (Value.int .i64))
  r2 : Reads w B 3 g.a2 g.n2 (g.es.flatMap encEd)
theorem Gr.Ok.up {g : Gr} {w w' : World} (h : g.Ok w w.heap.size) (hb : Below w.heap.size w w') : g.Ok w' w'.heap.size := ⟨h.r1.up hb, h.r2.up hb⟩
theorem Gr.Ok.below {g : Gr} {w w' : World} {B : Nat} (h : g.Ok w B) (hb : Below B w w') : g.Ok w' B := ⟨h.r1.below hb, h.r2.below hb⟩
theorem Gr.Ok.drewN {g : Gr} {w : World} {B : Nat} (h : g.Ok w B) (n : Nat) : g.Ok (w.drewN n) B := ⟨h.r1, h.r2⟩

theorem any_take' {α : Type} (f : α → Bool) (xs : List α) (k : Nat) (x : α) (h : xs[k]? = some x) (hf : f x = false) (h0 : (xs.take k).any f = false) : (xs.take (k + 1)).any f = false := by
  rw [take_snoc' h, List.any_append, h0]; simp [hf]
theorem any_hit {α : Type} (f : α → Bool) (xs : List α) (k : Nat) (x : α) (h : xs[k]? = some x) (hf : f x = true) : xs.any f = true := List.any_eq_true.2 ⟨x, List.mem_of_getElem? h, hf⟩

def hasB (xs : List Int) (y : Int) : Bool := xs.any fun x => x == y
/-- Do numbers ascend strictly? -/
def ascB : List Int → Bool
  | [] => true
  | [_] => true
  | x :: y :: r => decide (x < y) && ascB (y :: r)
theorem asc_iff (xs : List Int) : ascB xs = true ↔ ∀ k x y, xs[k]? = some x → xs[k + 1]? = some y → x < y := by
  induction xs with
  | nil => simp [ascB]
  | cons x r ih =>
    cases r with
    | nil => simp [ascB]
    | cons y r =>
      simp only [ascB, Bool.and_eq_true, decide_eq_true_eq, ih]
      constructor
      · rintro ⟨h1, h2⟩ k a b ha hb
        cases k with
        | zero => simp at ha hb; subst ha hb; exact h1
        | succ k => exact h2 k a b (by simpa using ha) (by simpa using hb)
      · intro h
        exact ⟨h 0 x y rfl rfl, fun k a b ha hb => h (k + 1) a b (by simpa using ha) (by simpa using hb)⟩

set_option maxHeartbeats 1000000 in
theorem ascends_any (A : Option Addr) (n c B : Nat) (xs : List Int) (w : World) (hx : Reads w B 1 A n (xs.map (Value.int .i64))) (hn : n ≤ 9223372036854775807) :
    Calls Tryd.prog 27 #[.slice A n c] w (RetQ w (.bool (ascB xs))) := by
  have HL := hide hx.len1
  go_enter Tryd.func27, Tryd.ntmps27
  go_wp2
  go_loopw [3] (fun i wr => ∃ k q : Nat, 1 ≤ k ∧ (k ≤ n ∨ k = 1) ∧ i = .int .i64 k ∧ wr = w.drewN q ∧ ∀ j, j + 1 < k → ∀ x y, xs[j]? = some x → xs[j + 1]? = some y → x < y) (fun i _ => n - (intOf i).toNat)
  case atStart => exact ⟨1, 0, Nat.le_refl _, .inr rfl, rfl, rfl, fun j hj => by omega⟩
  case round =>
    obtain ⟨k, q, hk1, hk, rfl, hw, hall⟩ := hrel
    have hx' : Reads wr B 1 A n (xs.map (Value.int .i64)) := by rw [hw]; exact hx.drewN q
    have HW := hide hw
    have HA := hide hall
    clear hall hw
    by_cases hlt : k < n
    · obtain ⟨j, rfl⟩ : ∃ j, k = j + 1 := ⟨k - 1, by omega⟩
      obtain ⟨b, off, x, rfl, hb, hxk, hc⟩ := hx'.at1 (show j < n by omega)
      obtain ⟨b', off', y, hbb, hb', hyk, hc'⟩ := hx'.at1 hlt
      injection hbb with hbb
      injection hbb with e1 e2
      subst e1 e2
      have HXK := hide hxk
      have HYK := hide hyk
      clear hxk hyk
      have hw1 : IntKind.i64.wrap (((j + 1 : Nat) : Int) - 1) = (j : Int) := by rw [IntKind.wrap_i64]; omega
      have hw2 : IntKind.i64.wrap ((j : Int) + 1 - 1) = (j : Int) := by rw [IntKind.wrap_i64]; omega
      have hw3 : (j : Int) + 1 - 1 = (j : Int) := by omega
      have hc2 : wr.cell? ⟨b, off + (j + 1), none⟩ = some (.int .i64 y) := hc'
      have q1 : (0 : Int) ≤ (j : Int) := by omega
      have q2 : (j : Int) < (n : Int) := by omega
      have q3 : (j : Int) + 1 < (n : Int) := by omega
      by_cases hxy : x < y
      · have hd : decide (y ≤ x) = false := by simp; omega
        go_wp2
        go_quiet (fail)
        go_wp2
        go_roundw
        case rel => exact ⟨j + 2, _, by omega, by omega, by go_num, by rw [HW.out]; first | rfl | exact World.drewN_drewN _ _ _, fun i hi a b' ha hb' => by
          by_cases e : i = j
          · subst e
            rw [HXK.out] at ha; rw [HYK.out] at hb'
            injection ha with ha; injection hb' with hb'; subst ha hb'; exact hxy
          · exact HA.out i (by omega) a b' ha hb'⟩
        case measure => simp [intOf]; omega
      · have hd : decide (y ≤ x) = true := by simp; omega
        go_wp2
        go_quiet (fail)
        go_wp2
        go_ret
        exact ⟨ret_bool (by
          symm
          rw [← Bool.not_eq_true, asc_iff]
          intro h
          have := h j x y HXK.out HYK.out; omega), _, by rw [HW.out]; first | rfl | exact World.drewN_drewN _ _ _⟩
    · go_wp2
      go_ret
      exact ⟨ret_bool (by
        symm
        rw [asc_iff]
        intro j x y hx1 hy1
        have := (List.getElem?_eq_some_iff.1 hy1).1
        rw [HL.out] at this
        exact HA.out j (by omega) x y hx1 hy1), _, HW.out⟩

/-- Is a task out of its range? -/
def outT (n : Nat) (t : Int) : Bool := decide (t < 0) || decide ((n : Int) ≤ t)
theorem tasks1_any (t : Int) (bx : Nat) (a1 : Option Addr) (n1 c1 : Nat) (w : World) (hc : w.cell? ⟨bx, 0, none⟩ = some (.slice a1 n1 c1)) :
    Calls Tryd.prog 43 #[.int .i64 t, .pointer (some ⟨bx, 0, none⟩)] w fun e w' => e = .returned (.bool (outT n1 t)) ∧ w = w' := by
  by_cases h : t < 0
  · have hd : outT n1 t = true := by simp [outT, h]
    rw [hd]
    go_enter Tryd.func43, Tryd.ntmps43
    go_wp2
    go_ret
    exact ⟨rfl, rfl⟩
  · have hd : outT n1 t = decide ((n1 : Int) ≤ t) := by simp [outT, h]
    rw [hd]
    go_enter Tryd.func43, Tryd.ntmps43
    go_wp2
    go_ret
    exact ⟨rfl, rfl⟩
theorem valid1_any (t : Int) (w : World) :
    Calls Tryd.prog 35 #[.int .i64 t] w fun e w' => e = .returned (.bool (outT 200 t)) ∧ w = w' := by
  by_cases h : t < 0
  · have hd : outT 200 t = true := by simp [outT, h]
    rw [hd]
    go_enter Tryd.func35, Tryd.ntmps35
    go_wp2
    go_ret
    exact ⟨rfl, rfl⟩
  · have hd : outT 200 t = decide ((200 : Int) ≤ t) := by simp [outT, h]
    rw [hd]
    go_enter Tryd.func35, Tryd.ntmps35
    go_wp2
    go_ret
    exact ⟨rfl, rfl⟩

set_option maxHeartbeats 1000000 in
theorem idx_tasks (A : Option Addr) (n c B : Nat) (xs : List Int) (bx : Nat) (a1 : Option Addr) (n1 c1 : Nat) (w : World) (hx : Reads w B 1 A n (xs.map (Value.int .i64))) (hn : n ≤ 9223372036854775807) (hbc : w.cell? ⟨bx, 0, none⟩ = some (.slice a1 n1 c1)) :
    Calls Tryd.prog 47 #[.slice A n c, .func (Fn.func 43) #[] #[.pointer (some ⟨bx, 0, none⟩)]] w fun e w' => (∃ i : Int, e = .returned (.int .i64 i) ∧ decide (0 ≤ i) = xs.any (outT n1)) ∧ w = w' := by
  have HL := hide hx.len1
  go_enter Tryd.func47, Tryd.ntmps47
  go_wp2
  go_loop [8] (fun i => ∃ k : Nat, k ≤ n ∧ i = .int .i64 k ∧ (xs.take k).any (outT n1) = false) (fun i => n - (intOf i).toNat)
  case atStart => exact ⟨0, Nat.zero_le _, rfl, rfl⟩
  case round =>
    obtain ⟨k, hk, rfl, hany⟩ := hrel
    have HA := hide hany
    clear hany
    by_cases hlt : k < n
    · obtain ⟨b, off, x, rfl, hb, hxk, hc⟩ := hx.at1 hlt
      have HXK := hide hxk
      clear hxk
      cases hq : outT n1 x
      · have HQ := hide hq
        go_wp2_with (go_at_call 43; refine (tasks1_any _ bx a1 n1 c1 _ hbc).mono ?_; rintro e w' ⟨rfl, rfl⟩)
        go_round
        case rel => exact ⟨k + 1, by omega, by go_num, any_take' _ _ _ _ HXK.out HQ.out HA.out⟩
        case measure => simp [intOf]; omega
      · have HQ := hide hq
        go_wp2_with (go_at_call 43; refine (tasks1_any _ bx a1 n1 c1 _ hbc).mono ?_; rintro e w' ⟨rfl, rfl⟩)
        go_ret
        exact ⟨⟨_, rfl, by rw [any_hit _ _ _ _ HXK.out HQ.out]; simp⟩, rfl⟩
    · obtain rfl : k = n := by omega
      go_wp2
      go_ret
      exact ⟨⟨_, rfl, by
        have := HA.out
        rw [take_all HL.out] at this
        rw [this]; rfl⟩, rfl⟩
theorem con_tasks (A : Option Addr) (n c B : Nat) (xs : List Int) (bx : Nat) (a1 : Option Addr) (n1 c1 : Nat) (w : World) (hx : Reads w B 1 A n (xs.map (Value.int .i64))) (hn : n ≤ 9223372036854775807) (hbc : w.cell? ⟨bx, 0, none⟩ = some (.slice a1 n1 c1)) :
    Calls Tryd.prog 34 #[.slice A n c, .func (Fn.func 43) #[] #[.pointer (some ⟨bx, 0, none⟩)]] w fun e w' => e = .returned (.bool (xs.any (outT n1))) ∧ w = w' := by
  go_enter Tryd.func34, Tryd.ntmps34
  go_wp2_with (go_at_call 47; refine (idx_tasks A n c B xs bx a1 n1 c1 _ hx hn hbc).mono ?_; rintro e w' ⟨⟨i, rfl, hi⟩, rfl⟩)
  go_ret
  exact ⟨rfl, rfl⟩

set_option maxHeartbeats 1000000 in
theorem idx_valid (A : Option Addr) (n c B : Nat) (xs : List Int) (w : World) (hx : Reads w B 1 A n (xs.map (Value.int .i64))) (hn : n ≤ 9223372036854775807) :
    Calls Tryd.prog 47 #[.slice A n c, .func (Fn.func 35) #[] #[]] w fun e w' => (∃ i : Int, e = .returned (.int .i64 i) ∧ decide (0 ≤ i) = xs.any (outT 200)) ∧ w = w' := by
  have HL := hide hx.len1
  go_enter Tryd.func47, Tryd.ntmps47
  go_wp2
  go_loop [8] (fun i => ∃ k : Nat, k ≤ n ∧ i = .int .i64 k ∧ (xs.take k).any (outT 200) = false) (fun i => n - (intOf i).toNat)
  case atStart => exact ⟨0, Nat.zero_le _, rfl, rfl⟩
  case round =>
    obtain ⟨k, hk, rfl, hany⟩ := hrel
    have HA := hide hany
    clear hany
    by_cases hlt : k < n
    · obtain ⟨b, off, x, rfl, hb, hxk, hc⟩ := hx.at1 hlt
      have HXK := hide hxk
      clear hxk
      cases hq : outT 200 x
      · have HQ := hide hq
        go_wp2_with (go_at_call 35; refine (valid1_any _ _).mono ?_; rintro e w' ⟨rfl, rfl⟩)
        go_round
        case rel => exact ⟨k + 1, by omega, by go_num, any_take' _ _ _ _ HXK.out HQ.out HA.out⟩
        case measure => simp [intOf]; omega
      · have HQ := hide hq
        go_wp2_with (go_at_call 35; refine (valid1_any _ _).mono ?_; rintro e w' ⟨rfl, rfl⟩)
        go_ret
        exact ⟨⟨_, rfl, by rw [any_hit _ _ _ _ HXK.out HQ.out]; simp⟩, rfl⟩
    · obtain rfl : k = n := by omega
      go_wp2
      go_ret
      exact ⟨⟨_, rfl, by
        have := HA.out
        rw [take_all HL.out] at this
        rw [this]; rfl⟩, rfl⟩
theorem con_valid (A : Option Addr) (n c B : Nat) (xs : List Int) (w : World) (hx : Reads w B 1 A n (xs.map (Value.int .i64))) (hn : n ≤ 9223372036854775807) :
    Calls Tryd.prog 34 #[.slice A n c, .func (Fn.func 35) #[] #[]] w fun e w' => e = .returned (.bool (xs.any (outT 200))) ∧ w = w' := by
  go_enter Tryd.func34, Tryd.ntmps34
  go_wp2_with (go_at_call 47; refine (idx_valid A n c B xs _ hx hn).mono ?_; rintro e w' ⟨⟨i, rfl, hi⟩, rfl⟩)
  go_ret
  exact ⟨rfl, rfl⟩

/-- A struct of two slices, boxed. -/
theorem tasks_any (g : Gr) (A : Option Addr) (n c B : Nat) (xs : List Int) (w : World) (hx : Reads w B 1 A n (xs.map (Value.int .i64))) (hB : B ≤ w.heap.size) (hn : n ≤ 9223372036854775807) :
    Calls Tryd.prog 28 #[.agg #[g.v1, g.v2], .slice A n c] w fun e w' => e = .returned (.bool (!xs.any (outT g.n1))) ∧ w' = w.alloc (.cells #[g.v1, g.v2] 31) := by
  have hc : (w.alloc (.cells #[g.v1, g.v2] 31)).cell? ⟨w.heap.size, 0, none⟩ = some (.slice g.a1 g.n1 g.c1) := by simp [Gr.v1]
  have hx1 := hx.alloc hB (.cells #[g.v1, g.v2] 31)
  go_enter Tryd.func28, Tryd.ntmps28
  go_wp2_with (go_at_call 34; refine (con_tasks A n c B xs w.heap.size g.a1 g.n1 g.c1 _ hx1 hn hc).mono ?_; rintro e w' ⟨rfl, rfl⟩)
  go_ret
  exact ⟨rfl, rfl⟩
end

section
open Go.RowKit Go.Shelf
attribute [local go_sem] Oper.semAt_some

def heavyB (g : Gr) : Bool := (decide (30 < g.n1) && decide (g.n1 ≤ 200)) || decide (300 < g.n1) || decide (60 < g.n2)
set_option maxHeartbeats 1000000 in
theorem heavy_any (g : Gr) (w : World) : Calls Tryd.prog 5 #[.agg #[g.v1, g.v2]] w fun e w' => e = .returned (.bool (heavyB g)) ∧ Below w.heap.size w w' := by
  have hc1 : (w.alloc (.cells #[g.v1, g.v2] 25)).cell? ⟨w.heap.size, 0, none⟩ = some (.slice g.a1 g.n1 g.c1) := by simp [Gr.v1]
  have hc2 : (w.alloc (.cells #[g.v1, g.v2] 25)).cell? ⟨w.heap.size, 1, none⟩ = some (.slice g.a2 g.n2 g.c2) := by simp [Gr.v2]
  have hB0 : Below w.heap.size w (w.alloc (.cells #[g.v1, g.v2] 25)) := (Below.refl _ _).alloc (Nat.le_refl _) _
  obtain ⟨W, hW⟩ : ∃ W, w.alloc (.cells #[g.v1, g.v2] 25) = W := ⟨_, rfl⟩
  rw [hW] at hc1 hc2 hB0
  unfold heavyB
  by_cases h1 : 30 < g.n1
  · by_cases h2 : g.n1 ≤ 200
    · go_enter Tryd.func5, Tryd.ntmps5
      go_wp2
      go_ret
      exact ⟨ret_bool (by first | rfl | (rw [Bool.eq_iff_iff]; simp <;> omega)), hB0⟩
    · by_cases h3 : 300 < g.n1
      · go_enter Tryd.func5, Tryd.ntmps5
        go_wp2
        go_ret
        exact ⟨ret_bool (by first | rfl | (rw [Bool.eq_iff_iff]; simp <;> omega)), hB0⟩
      · go_enter Tryd.func5, Tryd.ntmps5
        go_wp2
        go_ret
        exact ⟨ret_bool (by first | rfl | (rw [Bool.eq_iff_iff]; simp <;> omega)), hB0⟩
  · go_enter Tryd.func5, Tryd.ntmps5
    go_wp2
    go_ret
    exact ⟨ret_bool (by first | rfl | (rw [Bool.eq_iff_iff]; simp <;> omega)), hB0⟩
end

end Go.Proofs.YtmpoaegdejhbeaaDoor
