/-
  The walk of deck.regions' root.
  The map of regions' numbers (map[int]int) that a call makes.
-/
import Derived.Test.YtmpoaegdejhbeaaDoorDkCt
import Derived.Test.YtmpoaegdejhbeaaDoorDkV
import Derived.Deep.OwnRows
import Derived.Maps.OwnSet
namespace Go.Proofs.YtmpoaegdejhbeaaDoor

section
open Go.RowKit Go.Shelf Go.Deep
attribute [local go_sem] Oper.semAt_some

set_option maxHeartbeats 1000000 in
theorem root_any (bx i : Nat) (tb : TypeId) (R L : Nat → Nat) (hR : Roots 200 R L) (hi : i < 200) (w : World) (hrow : w.rowIs bx tb 200 (fun j => .int .i64 (R j : Nat))) :
    Calls Tryd.prog 42 #[.int .i64 (i : Int), .pointer (some ⟨bx, 0, none⟩)] w fun e w' => e = .returned (.int .i64 (L i : Nat)) ∧ w = w' := by
  have HI := hide hi
  have HR := hide hR
  clear hi hR
  go_enter Tryd.func42, Tryd.ntmps42
  go_wp2_with fail
  go_loop [0] (fun v => ∃ x : Nat, x < 200 ∧ v = .int .i64 x ∧ L x = L i) (fun v => (intOf v).toNat)
  case atStart => exact ⟨i, HI.out, rfl, rfl⟩
  case round =>
    obtain ⟨x, hx, rfl, hL⟩ := hrel
    have HL := hide hL
    clear hL
    have hc := hrow.cell hx
    have hle := HR.out.le x hx
    have hsame := hide (HR.out.same x hx)
    have htop := hide (HR.out.top x hx)
    obtain ⟨y, hy⟩ : ∃ y, R x = y := ⟨_, rfl⟩
    rw [hy] at hc hle hsame htop
    clear hy
    by_cases hyx : y = x
    · subst hyx
      have HT := hide (htop.out.1 rfl)
      clear htop
      go_wp2
      go_ret
      exact ⟨ret_int (by rw [← HL.out, HT.out]), rfl⟩
    · have hne : ((y : Int) != (x : Int)) = true := by simp; omega
      go_wp2
      go_round
      case rel => exact ⟨y, by omega, rfl, by rw [hsame.out, HL.out]⟩
      case measure => simp [intOf]; omega
end

section
open Go.RowKit Go.Shelf Go.Maps

theorem lawI : Keyed Tryd.prog 3 := int_keyed Tryd.underlying3
theorem zeroI (w : World) : (zeroValue 3).run Tryd.prog w = .ok (.int .i64 0) w := by kernel_rfl
theorem keyI (r : Nat) (h : r < 1000) : keyOf Tryd.prog 3 (.int .i64 (r : Int)) = some (.int .i64 (r : Int)) := keyOf_int_mk Tryd.underlying3 (WalkArith.wf_i64 (by omega))

/-- Block b is a map that holds the numbers of the roots below k. -/
def NMap (w : World) (b : Nat) (L : Nat → Nat) (k : Nat) : Prop :=
  ∃ D : DataW Unit, w.ownsMap Tryd.prog 3 (plainElem Tryd.prog 3) b k D ∧ Tidy D ∧ Maps.size D = numb L k ∧
    ∀ r : Nat, r < 1000 → Maps.has D (.int .i64 (r : Int)) = hasN L k r ∧ (hasN L k r = true → D.atKey (.int .i64 (r : Int)) (.lit (.int .i64 0)) = .lit (.int .i64 ((numb L r : Nat) : Int)))
theorem NMap.made (w : World) (L : Nat → Nat) : NMap (w.alloc (.map #[] 0)) w.heap.size L 0 :=
  ⟨.map [], World.ownsMap_made _ _ _ _, tidy_empty, rfl, fun r _ => ⟨by simp [hasN, Maps.has], by simp [hasN]⟩⟩
theorem NMap.alloc {w : World} {b k : Nat} {L : Nat → Nat} (h : NMap w b L k) (o : Obj) : NMap (w.alloc o) b L k := by
  obtain ⟨D, h1, h2, h3, h4⟩ := h
  exact ⟨D, h1.alloc o, h2, h3, h4⟩
theorem NMap.kept {w w' : World} {b k : Nat} {L : Nat → Nat} (h : NMap w b L k) {row : Option Nat} (hg : w.grownBy w' row) (hne : some b ≠ row) : NMap w' b L k := by
  obtain ⟨D, h1, h2, h3, h4⟩ := h
  exact ⟨D, h1.kept hg hne, h2, h3, h4⟩
theorem NMap.lt {w : World} {b k : Nat} {L : Nat → Nat} (h : NMap w b L k) : b < w.heap.size := by
  obtain ⟨D, h1, _⟩ := h
  exact h1.lt
/-- A task that is no root: the map stays. -/
theorem NMap.skip {w : World} {b k : Nat} {L : Nat → Nat} (h : NMap w b L k) (hk : L k ≠ k) : NMap w b L (k + 1) := by
  obtain ⟨D, h1, h2, h3, h4⟩ := h
  refine ⟨D, h1.mono (by omega), h2, by rw [h3, numb_succ, if_neg hk], fun r hr => ?_⟩
  rw [hasN_succ, show decide (L k = k) = false by simpa using hk, Bool.and_false, Bool.or_false]
  exact h4 r hr

set_option maxRecDepth 100000 in
theorem wpList_nput (w : World) {ops : Array Oper} {rest : List Oper} {o : Oper} {a : Act} {Q : Exit → Act → World → Prop} {b k : Nat} {L : Nat → Nat} (h : NMap w b L k) (hk : k < 1000) (hL : L k = k)
    (hg : o.guard = none) (m x v : Operand) (hop : o.op = Op.mapUpdate 82 m x v) (hm : a.eval m = .map (some b)) (hx : a.eval x = .int .i64 (k : Int)) (hv : a.eval v = .int .i64 ((numb L k : Nat) : Int))
    (hK : ∀ w', NMap w' b L (k + 1) → w.grownBy w' (some b) → wpList Tryd.prog ops Q rest (a.put o.dst undef) w') : wpList Tryd.prog ops Q (o :: rest) a w := by
  obtain ⟨D, h1, h2, h3, h4⟩ := h
  have hn := numb_le L k
  refine wpList_mapUpdate_own w hg m x v 82 hop 3 3 lawI Tryd.underlying82 _ b k D hm h1 (by unfold maxLen; omega) _ _ (.int .i64 (k : Int)) hx hv (keyI k hk) (.lit (.int .i64 ((numb L k : Nat) : Int))) [] (plainElem_int Tryd.underlying3 (WalkArith.wf_i64 (by omega))) ?_
  intro w' ho hgr
  have hno : Maps.has D (.int .i64 (k : Int)) = false := by rw [(h4 k hk).1]; simp [hasN]
  refine hK w' ⟨_, ho, Tidy.put h2 (lawI.key (keyI k hk)) _, by rw [size_put h2, hno, h3, numb_succ, if_pos hL]; rfl, fun r hr => ?_⟩ hgr
  by_cases e : r = k
  · subst e
    refine ⟨?_, fun _ => atKey_put_same h2.isMap (lawI.key (keyI r hk)) _ _⟩
    rw [has_put_same h2.isMap (lawI.key (keyI r hk)), hasN_succ]
    simp [hL]
  · have hne : (Lit.int .i64 (r : Int)) ≠ .int .i64 (k : Int) := by
      intro he; injection he with _ he; omega
    rw [has_put_other hne, atKey_put_other hne, hasN_succ, show decide (r = k) = false by simpa using e, Bool.false_and, Bool.or_false]
    exact h4 r hr

set_option maxRecDepth 100000 in
theorem NMap.look {w : World} {b k : Nat} {L : Nat → Nat} (h : NMap w b L k) (r : Nat) (hr : r < 1000) (hh : hasN L k r = true) :
    (Instr.lookup 82 (.map (some b)) (.int .i64 (r : Int)) false).run Tryd.prog w = .ok (.int .i64 ((numb L r : Nat) : Int)) w := by
  obtain ⟨D, h1, h2, h3, h4⟩ := h
  obtain ⟨c, hrun, hat, _⟩ := h1.lookup_int lawI Tryd.underlying82 Tryd.underlying3 (zeroI w) (keyI r hr)
  rw [(h4 r hr).2 hh] at hat
  rw [hrun]
  simp at hat
  rw [hat]

set_option maxRecDepth 100000 in
theorem NMap.look_ok {w : World} {b k : Nat} {L : Nat → Nat} (h : NMap w b L k) (r : Nat) (hr : r < 1000) :
    ∃ c : Int, (Instr.lookup 82 (.map (some b)) (.int .i64 (r : Int)) true).run Tryd.prog w = .ok (.tuple #[.int .i64 c, .bool (hasN L k r)]) w := by
  obtain ⟨D, h1, h2, h3, h4⟩ := h
  obtain ⟨v, ps, hrun, hv⟩ := h1.look_ok lawI Tryd.underlying82 (zeroI w) (plainElem_int Tryd.underlying3 (by decide)) (keyI r hr)
  obtain ⟨c, rfl, _, _⟩ := plainElem_int_inv Tryd.underlying3 hv
  rw [(h4 r hr).1] at hrun
  exact ⟨c, hrun⟩
theorem NMap.len {w : World} {b k : Nat} {L : Nat → Nat} (h : NMap w b L k) (ty : TypeId) : (Builtin.len_ #[82] ty #[.map (some b)]).run Tryd.prog w = .ok (.int .i64 ((numb L k : Nat) : Int)) w := by
  obtain ⟨D, h1, h2, h3, h4⟩ := h
  rw [h1.len Tryd.underlying82 ty, h3]
end

end Go.Proofs.YtmpoaegdejhbeaaDoor
