/-
  Graphs as plain data; the walks of Has, ascends, tasks, Valid's and tasks' closures, heavy, In.
-/
import Derived.Test.YtblepaocekojbaaSameInts
import Derived.Test.YtblepaocekojbaaBar
import Derived.RangeFuncNested
import Derived.RangeFuncBound
import Derived.RangeFuncCalls
import Derived.RangeFuncLeaves
import Derived.Shelf.Abstract
import Derived.Shelf.RegionOpen
import Derived.WalkKit
import Derived.OwnWalkIn
import Derived.TacticsInMore
import Derived.LoopNIn
import Derived.LoopIn
import Derived.Outline
import Derived.Laws.StructEq
import Derived.Handy
namespace Go.Proofs.Ytblepaocekojbaa
open Go.RowKit Go.Shelf
attribute [local go_sem] Oper.semAt_some

/-- An edge as three cells. -/
structure Ed where
  f : Int
  t : Int
  s : Bool
  deriving DecidableEq
def encEd (e : Ed) : List Value := [.int .i64 e.f, .int .i64 e.t, .bool e.s]
theorem encEd_len (e : Ed) : (encEd e).length = 3 := rfl
/-- A graph: its two slices, and what they hold. -/
structure Gr where
  a1 : Option Addr
  n1 : Nat
  c1 : Nat
  ops : List Int
  a2 : Option Addr
  n2 : Nat
  c2 : Nat
  es : List Ed
def Gr.v1 (g : Gr) : Value := .slice g.a1 g.n1 g.c1
def Gr.v2 (g : Gr) : Value := .slice g.a2 g.n2 g.c2
structure Gr.Ok (g : Gr) (w : World) (B : Nat) : Prop where
  r1 : Reads w B 1 g.a1 g.n1 (g.ops.map (Value.int .i64))
  r2 : Reads w B 3 g.a2 g.n2 (g.es.flatMap encEd)
theorem Gr.Ok.up {g : Gr} {w w' : World} (h : g.Ok w w.heap.size) (hb : Below w.heap.size w w') : g.Ok w' w'.heap.size := ⟨h.r1.up hb, h.r2.up hb⟩
theorem Gr.Ok.below {g : Gr} {w w' : World} {B : Nat} (h : g.Ok w B) (hb : Below B w w') : g.Ok w' B := ⟨h.r1.below hb, h.r2.below hb⟩
theorem Gr.Ok.drewN {g : Gr} {w : World} {B : Nat} (h : g.Ok w B) (n : Nat) : g.Ok (w.drewN n) B := ⟨h.r1, h.r2⟩

theorem any_take' {α : Type} (f : α → Bool) (xs : List α) (k : Nat) (x : α) (h : xs[k]? = some x) (hf : f x = false) (h0 : (xs.take k).any f = false) : (xs.take (k + 1)).any f = false := by
  rw [take_snoc' h, List.any_append, h0]; simp [hf]
theorem any_hit {α : Type} (f : α → Bool) (xs : List α) (k : Nat) (x : α) (h : xs[k]? = some x) (hf : f x = true) : xs.any f = true := List.any_eq_true.2 ⟨x, List.mem_of_getElem? h, hf⟩

def hasB (xs : List Int) (y : Int) : Bool := xs.any fun x => x == y
set_option maxHeartbeats 1000000 in
theorem Has_any (A : Option Addr) (n c B : Nat) (xs : List Int) (y : Int) (w : World) (hx : Reads w B 1 A n (xs.map (Value.int .i64))) (hn : n ≤ 9223372036854775807) :
    Calls Try.prog 17 #[.slice A n c, .int .i64 y] w fun e w' => e = .returned (.bool (hasB xs y)) ∧ w = w' := by
  have HL := hide hx.len1
  go_enter Try.func17, Try.ntmps17
  go_wp2
  go_loop [5] (fun i => ∃ k : Nat, k ≤ n ∧ i = .int .i64 k ∧ (xs.take k).any (fun x => x == y) = false) (fun i => n - (intOf i).toNat)
  case atStart => exact ⟨0, Nat.zero_le _, rfl, rfl⟩
  case round =>
    obtain ⟨k, hk, rfl, hany⟩ := hrel
    have HA := hide hany
    clear hany
    by_cases hlt : k < n
    · obtain ⟨b, off, x, rfl, hb, hxk, hc⟩ := hx.at1 hlt
      have HXK := hide hxk
      clear hxk
      cases hq : (x == y)
      · have HQ := hide hq
        go_wp2
        go_round
        case rel => exact ⟨k + 1, by omega, by go_num, any_take' _ _ _ _ HXK.out HQ.out HA.out⟩
        case measure => simp [intOf]; omega
      · have HQ := hide hq
        go_wp2
        go_ret
        exact ⟨ret_bool (any_hit _ _ _ _ HXK.out HQ.out).symm, rfl⟩
    · obtain rfl : k = n := by omega
      go_wp2
      go_ret
      exact ⟨ret_bool (by
        have := HA.out
        rw [take_all HL.out] at this
        exact this.symm), rfl⟩

/-- Do numbers ascend strictly? -/
def ascB : List Int → Bool
  | [] => true
  | [_] => true
  | x :: y :: r => decide (x < y) && ascB (y :: r)
theorem asc_iff (xs : List Int) : ascB xs = true ↔ ∀ k x y, xs[k]? = some x → xs[k + 1]? = some y → x < y := by
  induction xs with
  | nil => simp [ascB]
  | cons x r ih =>
    cases r with
    | nil => simp [ascB]
    | cons y r =>
      simp only [ascB, Bool.and_eq_true, decide_eq_true_eq, ih]
      constructor
      · rintro ⟨h1, h2⟩ k a b ha hb
        cases k with
        | zero => simp at ha hb; subst ha hb; exact h1
        | succ k => exact h2 k a b (by simpa using ha) (by simpa using hb)
      · intro h
        exact ⟨h 0 x y rfl rfl, fun k a b ha hb => h (k + 1) a b (by simpa using ha) (by simpa using hb)⟩

set_option maxHeartbeats 1000000 in
theorem ascends_any (A : Option Addr) (n c B : Nat) (xs : List Int) (w : World) (hx : Reads w B 1 A n (xs.map (Value.int .i64))) (hn : n ≤ 9223372036854775807) :
    Calls Try.prog 44 #[.slice A n c] w (RetQ w (.bool (ascB xs))) := by
  have HL := hide hx.len1
  go_enter Try.func44, Try.ntmps44
  go_wp2
  go_loopw [3] (fun i wr => ∃ k q : Nat, 1 ≤ k ∧ (k ≤ n ∨ k = 1) ∧ i = .int .i64 k ∧ wr = w.drewN q ∧ ∀ j, j + 1 < k → ∀ x y, xs[j]? = some x → xs[j + 1]? = some y → x < y) (fun i _ => n - (intOf i).toNat)
  case atStart => exact ⟨1, 0, Nat.le_refl _, .inr rfl, rfl, rfl, fun j hj => by omega⟩
  case round =>
    obtain ⟨k, q, hk1, hk, rfl, hw, hall⟩ := hrel
    have hx' : Reads wr B 1 A n (xs.map (Value.int .i64)) := by rw [hw]; exact hx.drewN q
    have HW := hide hw
    have HA := hide hall
    clear hall hw
    by_cases hlt : k < n
    · obtain ⟨j, rfl⟩ : ∃ j, k = j + 1 := ⟨k - 1, by omega⟩
      obtain ⟨b, off, x, rfl, hb, hxk, hc⟩ := hx'.at1 (show j < n by omega)
      obtain ⟨b', off', y, hbb, hb', hyk, hc'⟩ := hx'.at1 hlt
      injection hbb with hbb
      injection hbb with e1 e2
      subst e1 e2
      have HXK := hide hxk
      have HYK := hide hyk
      clear hxk hyk
      have hw1 : IntKind.i64.wrap (((j + 1 : Nat) : Int) - 1) = (j : Int) := by rw [IntKind.wrap_i64]; omega
      have hw2 : IntKind.i64.wrap ((j : Int) + 1 - 1) = (j : Int) := by rw [IntKind.wrap_i64]; omega
      have hw3 : (j : Int) + 1 - 1 = (j : Int) := by omega
      have hc2 : wr.cell? ⟨b, off + (j + 1), none⟩ = some (.int .i64 y) := hc'
      have q1 : (0 : Int) ≤ (j : Int) := by omega
      have q2 : (j : Int) < (n : Int) := by omega
      have q3 : (j : Int) + 1 < (n : Int) := by omega
      by_cases hxy : x < y
      · have hd : decide (y ≤ x) = false := by simp; omega
        go_wp2
        go_quiet (fail)
        go_wp2
        go_roundw
        case rel => exact ⟨j + 2, _, by omega, by omega, by go_num, by rw [HW.out]; first | rfl | exact World.drewN_drewN _ _ _, fun i hi a b' ha hb' => by
          by_cases e : i = j
          · subst e
            rw [HXK.out] at ha; rw [HYK.out] at hb'
            injection ha with ha; injection hb' with hb'; subst ha hb'; exact hxy
          · exact HA.out i (by omega) a b' ha hb'⟩
        case measure => simp [intOf]; omega
      · have hd : decide (y ≤ x) = true := by simp; omega
        go_wp2
        go_quiet (fail)
        go_wp2
        go_ret
        exact ⟨ret_bool (by
          symm
          rw [← Bool.not_eq_true, asc_iff]
          intro h
          have := h j x y HXK.out HYK.out; omega), _, by rw [HW.out]; first | rfl | exact World.drewN_drewN _ _ _⟩
    · go_wp2
      go_ret
      exact ⟨ret_bool (by
        symm
        rw [asc_iff]
        intro j x y hx1 hy1
        have := (List.getElem?_eq_some_iff.1 hy1).1
        rw [HL.out] at this
        exact HA.out j (by omega) x y hx1 hy1), _, HW.out⟩

/-- Is a task out of its range? -/
def outT (n : Nat) (t : Int) : Bool := decide (t < 0) || decide ((n : Int) ≤ t)
theorem tasks1_any (t : Int) (bx : Nat) (a1 : Option Addr) (n1 c1 : Nat) (w : World) (hc : w.cell? ⟨bx, 0, none⟩ = some (.slice a1 n1 c1)) :
    Calls Try.prog 80 #[.int .i64 t, .pointer (some ⟨bx, 0, none⟩)] w fun e w' => e = .returned (.bool (outT n1 t)) ∧ w = w' := by
  by_cases h : t < 0
  · have hd : outT n1 t = true := by simp [outT, h]
    rw [hd]
    go_enter Try.func80, Try.ntmps80
    go_wp2
    go_ret
    exact ⟨rfl, rfl⟩
  · have hd : outT n1 t = decide ((n1 : Int) ≤ t) := by simp [outT, h]
    rw [hd]
    go_enter Try.func80, Try.ntmps80
    go_wp2
    go_ret
    exact ⟨rfl, rfl⟩
theorem valid1_any (t : Int) (w : World) :
    Calls Try.prog 62 #[.int .i64 t] w fun e w' => e = .returned (.bool (outT 200 t)) ∧ w = w' := by
  by_cases h : t < 0
  · have hd : outT 200 t = true := by simp [outT, h]
    rw [hd]
    go_enter Try.func62, Try.ntmps62
    go_wp2
    go_ret
    exact ⟨rfl, rfl⟩
  · have hd : outT 200 t = decide ((200 : Int) ≤ t) := by simp [outT, h]
    rw [hd]
    go_enter Try.func62, Try.ntmps62
    go_wp2
    go_ret
    exact ⟨rfl, rfl⟩

set_option maxHeartbeats 1000000 in
theorem idx_tasks (A : Option Addr) (n c B : Nat) (xs : List Int) (bx : Nat) (a1 : Option Addr) (n1 c1 : Nat) (w : World) (hx : Reads w B 1 A n (xs.map (Value.int .i64))) (hn : n ≤ 9223372036854775807) (hbc : w.cell? ⟨bx, 0, none⟩ = some (.slice a1 n1 c1)) :
    Calls Try.prog 87 #[.slice A n c, .func (Fn.func 80) #[] #[.pointer (some ⟨bx, 0, none⟩)]] w fun e w' => (∃ i : Int, e = .returned (.int .i64 i) ∧ decide (0 ≤ i) = xs.any (outT n1)) ∧ w = w' := by
  have HL := hide hx.len1
  go_enter Try.func87, Try.ntmps87
  go_wp2
  go_loop [8] (fun i => ∃ k : Nat, k ≤ n ∧ i = .int .i64 k ∧ (xs.take k).any (outT n1) = false) (fun i => n - (intOf i).toNat)
  case atStart => exact ⟨0, Nat.zero_le _, rfl, rfl⟩
  case round =>
    obtain ⟨k, hk, rfl, hany⟩ := hrel
    have HA := hide hany
    clear hany
    by_cases hlt : k < n
    · obtain ⟨b, off, x, rfl, hb, hxk, hc⟩ := hx.at1 hlt
      have HXK := hide hxk
      clear hxk
      cases hq : outT n1 x
      · have HQ := hide hq
        go_wp2_with (go_at_call 80; refine (tasks1_any _ bx a1 n1 c1 _ hbc).mono ?_; rintro e w' ⟨rfl, rfl⟩)
        go_round
        case rel => exact ⟨k + 1, by omega, by go_num, any_take' _ _ _ _ HXK.out HQ.out HA.out⟩
        case measure => simp [intOf]; omega
      · have HQ := hide hq
        go_wp2_with (go_at_call 80; refine (tasks1_any _ bx a1 n1 c1 _ hbc).mono ?_; rintro e w' ⟨rfl, rfl⟩)
        go_ret
        exact ⟨⟨_, rfl, by rw [any_hit _ _ _ _ HXK.out HQ.out]; simp⟩, rfl⟩
    · obtain rfl : k = n := by omega
      go_wp2
      go_ret
      exact ⟨⟨_, rfl, by
        have := HA.out
        rw [take_all HL.out] at this
        rw [this]; rfl⟩, rfl⟩
theorem con_tasks (A : Option Addr) (n c B : Nat) (xs : List Int) (bx : Nat) (a1 : Option Addr) (n1 c1 : Nat) (w : World) (hx : Reads w B 1 A n (xs.map (Value.int .i64))) (hn : n ≤ 9223372036854775807) (hbc : w.cell? ⟨bx, 0, none⟩ = some (.slice a1 n1 c1)) :
    Calls Try.prog 61 #[.slice A n c, .func (Fn.func 80) #[] #[.pointer (some ⟨bx, 0, none⟩)]] w fun e w' => e = .returned (.bool (xs.any (outT n1))) ∧ w = w' := by
  go_enter Try.func61, Try.ntmps61
  go_wp2_with (go_at_call 87; refine (idx_tasks A n c B xs bx a1 n1 c1 _ hx hn hbc).mono ?_; rintro e w' ⟨⟨i, rfl, hi⟩, rfl⟩)
  go_ret
  exact ⟨rfl, rfl⟩

set_option maxHeartbeats 1000000 in
theorem idx_valid (A : Option Addr) (n c B : Nat) (xs : List Int) (w : World) (hx : Reads w B 1 A n (xs.map (Value.int .i64))) (hn : n ≤ 9223372036854775807) :
    Calls Try.prog 87 #[.slice A n c, .func (Fn.func 62) #[] #[]] w fun e w' => (∃ i : Int, e = .returned (.int .i64 i) ∧ decide (0 ≤ i) = xs.any (outT 200)) ∧ w = w' := by
  have HL := hide hx.len1
  go_enter Try.func87, Try.ntmps87
  go_wp2
  go_loop [8] (fun i => ∃ k : Nat, k ≤ n ∧ i = .int .i64 k ∧ (xs.take k).any (outT 200) = false) (fun i => n - (intOf i).toNat)
  case atStart => exact ⟨0, Nat.zero_le _, rfl, rfl⟩
  case round =>
    obtain ⟨k, hk, rfl, hany⟩ := hrel
    have HA := hide hany
    clear hany
    by_cases hlt : k < n
    · obtain ⟨b, off, x, rfl, hb, hxk, hc⟩ := hx.at1 hlt
      have HXK := hide hxk
      clear hxk
      cases hq : outT 200 x
      · have HQ := hide hq
        go_wp2_with (go_at_call 62; refine (valid1_any _ _).mono ?_; rintro e w' ⟨rfl, rfl⟩)
        go_round
        case rel => exact ⟨k + 1, by omega, by go_num, any_take' _ _ _ _ HXK.out HQ.out HA.out⟩
        case measure => simp [intOf]; omega
      · have HQ := hide hq
        go_wp2_with (go_at_call 62; refine (valid1_any _ _).mono ?_; rintro e w' ⟨rfl, rfl⟩)
        go_ret
        exact ⟨⟨_, rfl, by rw [any_hit _ _ _ _ HXK.out HQ.out]; simp⟩, rfl⟩
    · obtain rfl : k = n := by omega
      go_wp2
      go_ret
      exact ⟨⟨_, rfl, by
        have := HA.out
        rw [take_all HL.out] at this
        rw [this]; rfl⟩, rfl⟩
theorem con_valid (A : Option Addr) (n c B : Nat) (xs : List Int) (w : World) (hx : Reads w B 1 A n (xs.map (Value.int .i64))) (hn : n ≤ 9223372036854775807) :
    Calls Try.prog 61 #[.slice A n c, .func (Fn.func 62) #[] #[]] w fun e w' => e = .returned (.bool (xs.any (outT 200))) ∧ w = w' := by
  go_enter Try.func61, Try.ntmps61
  go_wp2_with (go_at_call 87; refine (idx_valid A n c B xs _ hx hn).mono ?_; rintro e w' ⟨⟨i, rfl, hi⟩, rfl⟩)
  go_ret
  exact ⟨rfl, rfl⟩

/-- A struct of two slices, boxed. -/
theorem tasks_any (g : Gr) (A : Option Addr) (n c B : Nat) (xs : List Int) (w : World) (hx : Reads w B 1 A n (xs.map (Value.int .i64))) (hB : B ≤ w.heap.size) (hn : n ≤ 9223372036854775807) :
    Calls Try.prog 45 #[.agg #[g.v1, g.v2], .slice A n c] w fun e w' => e = .returned (.bool (!xs.any (outT g.n1))) ∧ w' = w.alloc (.cells #[g.v1, g.v2] 30) := by
  have hc : (w.alloc (.cells #[g.v1, g.v2] 30)).cell? ⟨w.heap.size, 0, none⟩ = some (.slice g.a1 g.n1 g.c1) := by simp [Gr.v1]
  have hx1 := hx.alloc hB (.cells #[g.v1, g.v2] 30)
  go_enter Try.func45, Try.ntmps45
  go_wp2_with (go_at_call 61; refine (con_tasks A n c B xs w.heap.size g.a1 g.n1 g.c1 _ hx1 hn hc).mono ?_; rintro e w' ⟨rfl, rfl⟩)
  go_ret
  exact ⟨rfl, rfl⟩
end Go.Proofs.Ytblepaocekojbaa

