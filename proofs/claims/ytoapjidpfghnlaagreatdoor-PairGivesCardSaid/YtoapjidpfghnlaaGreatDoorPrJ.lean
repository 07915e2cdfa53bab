/-
  What the rounds of pair.Intervals collect: plain data, and how it lies. No condition.
  The walk of pair.Intervals where it does not fail at once: the loops. No condition.
-/
import Derived.Test.YtoapjidpfghnlaaGreatDoorPrI
import Derived.Test.YtoapjidpfghnlaaGreatDoorRngH
namespace Go.Proofs.YtoapjidpfghnlaaGreatDoor

section
open Go.RowKit
set_option linter.unusedVariables false

/-- What an event is joined to among those that have its key. -/
def pairsF (lo hi : Int) (x : Te) (pre : List Te) : List Te := (pre.filter fun y => btw (y.1 - x.1) lo hi).map fun y => (max x.1 y.1, x.2 ++ y.2)
theorem pairsF_snoc (lo hi : Int) (x : Te) (pre : List Te) (y : Te) : pairsF lo hi x (pre ++ [y]) = pairsF lo hi x pre ++ if btw (y.1 - x.1) lo hi then [(max x.1 y.1, x.2 ++ y.2)] else [] := by
  unfold pairsF
  rw [List.filter_append, List.map_append]
  congr 1
  by_cases h : btw (y.1 - x.1) lo hi = true
  · simp [h]
  · have h' : btw (y.1 - x.1) lo hi = false := by simpa using h
    simp [h']
theorem pairsF_pre (lo hi : Int) (x : Te) {a b : List Te} (h : a <+: b) : pairsF lo hi x a <+: pairsF lo hi x b := by
  obtain ⟨c, rfl⟩ := h
  unfold pairsF
  rw [List.filter_append, List.map_append]
  exact List.prefix_append _ _
theorem ofS_eq {on others : List Int} {l r : Rw} (hl : l.all okV = true) (hr : r.all okV = true) (hn : nonul (pick l on) = true) : (nonul (pick r others) && decide (ofS others r = ofS on l)) = eqK on others l r := by
  rw [← eqK_text hl hr, hn, Bool.true_and]
  cases h2 : nonul (pick r others)
  · rfl
  · rw [Bool.true_and, Bool.true_and]
    unfold ofS
    rw [hn, h2, if_pos rfl, if_pos rfl, Bool.eq_iff_iff, decide_eq_true_iff, decide_eq_true_iff]
    constructor
    · intro e
      have e1 := congrArg (fun b => b.data.toList) e
      simpa using e1.symm
    · intro e
      rw [e]
theorem okR_vals {r : Rw} (h : okR r = true) : r.all okV = true := by unfold okR at h; rw [Bool.and_eq_true] at h; simpa using h.1
theorem okR_eight {r : Rw} (h : okR r = true) : r.length ≤ 8 := by unfold okR at h; rw [Bool.and_eq_true, decide_eq_true_eq] at h; exact h.2
/-- The pairs of an event whose key has no null: those of its partners. -/
theorem pairs_part {on others : List Int} {lo hi : Int} {x : Te} {lr : List Ev} (hx : okR x.2 = true) (hr : ∀ y ∈ lr, okR y.r = true) (hn : nonul (pick x.2 on) = true) :
    pairsOf on others lo hi x (dE lr) = pairsF lo hi x (dE (lr.filter (mtE others (ofS on x.2)))) := by
  unfold pairsOf pairsF
  congr 1
  induction lr with
  | nil => rfl
  | cons y lr ih =>
    have ih := ih fun z hz => hr z (List.mem_cons_of_mem _ hz)
    have hm : mtE others (ofS on x.2) y = eqK on others x.2 y.r := ofS_eq (okR_vals hx) (okR_vals (hr y List.mem_cons_self)) hn
    have h1 : dE (y :: lr) = (y.t, y.r) :: dE lr := rfl
    rw [h1, List.filter_cons, List.filter_cons, hm, ih]
    cases h2 : eqK on others x.2 y.r
    · simp
    · have h3 : dE (y :: lr.filter (mtE others (ofS on x.2))) = (y.t, y.r) :: dE (lr.filter (mtE others (ofS on x.2))) := rfl
      simp [h3, List.filter_cons]
/-- .. of one that has a null: none. -/
theorem pairs_null {on others : List Int} {lo hi : Int} {x : Te} {l : List Te} (hn : nonul (pick x.2 on) = false) : pairsOf on others lo hi x l = [] := by
  unfold pairsOf eqK
  rw [hn]
  simp
theorem pairsI_pre (on others : List Int) (lo hi : Int) {a b : List Te} (r : List Te) (h : a <+: b) : pairsI on others lo hi a r <+: pairsI on others lo hi b r := by
  obtain ⟨c, rfl⟩ := h
  unfold pairsI
  rw [List.flatMap_append]
  exact List.prefix_append _ _
theorem limP_pre {a b : List Te} (h : limP a = true) (hp : a <+: b) : limP b = true := by
  obtain ⟨c, rfl⟩ := hp
  exact limP_app h
theorem limP_snoc (a : List Te) (c : Te) (h : limP a = false) : limP (a ++ [c]) = (decide (8 < c.2.length) || decide (a.length = 400)) := by
  unfold limP at *
  rw [Bool.or_eq_false_iff] at h
  have h2 := h.2
  rw [decide_eq_false_iff_not] at h2
  rw [List.any_append, h.1, Bool.false_or]
  have h3 : ([c].any badP) = decide (8 < c.2.length) := by simp [badP]
  rw [h3]
  congr 1
  rw [decide_eq_decide, List.length_append]
  simp
  omega
theorem dE_pre {a b : List Ev} (h : a <+: b) : dE a <+: dE b := by
  obtain ⟨c, rfl⟩ := h
  rw [dE_app]
  exact List.prefix_append _ _
/-- The pairs so far, and those of all: a beginning. -/
theorem sofar_pre {on others : List Int} {lo hi : Int} {ll lr : List Ev} {k : Nat} {x : Ev} (hx : ll[k]? = some x) {pre : List Ev} {y : Ev} (ho : okR x.r = true) (hr : ∀ y ∈ lr, okR y.r = true) (hn : nonul (pick x.r on) = true) (hp : pre ++ [y] <+: lr.filter (mtE others (ofS on x.r))) :
    pairsI on others lo hi (dE (ll.take k)) (dE lr) ++ pairsF lo hi (x.t, x.r) (dE (pre ++ [y])) <+: pairsI on others lo hi (dE ll) (dE lr) := by
  have h1 : pairsI on others lo hi (dE (ll.take k)) (dE lr) ++ pairsF lo hi (x.t, x.r) (dE (pre ++ [y])) <+: pairsI on others lo hi (dE (ll.take (k + 1))) (dE lr) := by
    rw [take_snoc' hx, dE_snoc (ll.take k) x, pairsI_snoc, pairs_part (x := (x.t, x.r)) ho hr hn, List.prefix_append_right_inj]
    exact pairsF_pre _ _ _ (dE_pre hp)
  exact h1.trans (pairsI_pre _ _ _ _ _ (dE_pre (List.take_prefix _ _)))
/-- What lies in memory between two rounds: box ob holds what was joined so far. -/
structure OutE (B ob : Nat) (cs : List Te) (W : World) : Prop where
  ow : ∃ (v : Value) (l : List Ev), Boxed W ob 25 v ∧ W.ownsRow (ob + 1) 36 2 v l.length (l.flatMap encEv) ∧ dE l = cs ∧ RowsE W B l
theorem OutE.lt {B ob : Nat} {cs : List Te} {W : World} (h : OutE B ob cs W) : ob < W.heap.size := by obtain ⟨v, l, h1, _⟩ := h.ow; exact h1.lt
theorem OutE.below {B ob : Nat} {cs : List Te} {W W' : World} (h : OutE B ob cs W) (hb : Below W.heap.size W W') : OutE B ob cs W' := by
  obtain ⟨v, l, h1, h2, h3, h4⟩ := h.ow
  exact ⟨v, l, (hb.block _ h1.lt).trans h1, own_below h2 hb, h3, h4.below hb⟩
theorem OutE.others {B ob C : Nat} (hC : B ≤ C) {cs : List Te} {X Y : World} {row : Option Nat} (h : OutE B ob cs X) (hg : X.grownBy Y row) (hr : ∀ r, row = some r → C ≤ r ∧ ∃ o : Obj, X.heap[r]? = some o ∧ o.isCells = false) : OutE B ob cs Y := by
  obtain ⟨v, l, h1, h2, h3, h4⟩ := h.ow
  have hr2 : ∀ k, row = some k → ∃ o : Obj, X.heap[k]? = some o ∧ o.isCells = false := fun k e => (hr k e).2
  refine ⟨v, l, blk_own h1 hg hr2, h2.kept hg ?_, h3, fun i hi => (h4 i hi).others hg fun k e => ⟨Nat.le_trans hC (hr k e).1, (hr k e).2⟩⟩
  cases hv : v.ownBlock with
  | none => exact .inl rfl
  | some b =>
    refine .inr fun e => ?_
    obtain ⟨c, fz, hc⟩ := own_cells h2 hv
    obtain ⟨o, ho, hcc⟩ := hr2 b e.symm
    rw [hc] at ho
    cases ho; cases hcc
theorem Marks.bar {M N N' ob : Nat} {ds : List Deferred} {X Y : World} (h : Marks M N ds X) (hb : Bar N' [ob] X Y) (hN : N ≤ N') (hM : ob < M) : Marks M N ds Y := by
  induction ds generalizing N with
  | nil => trivial
  | cons d ds ih =>
    obtain ⟨D, h1, h2, h3, h4, h5⟩ := h
    exact ⟨D, h1, h2, h3, (hb.block D (by omega) (by simp; omega)).trans h4, ih h5 (by omega)⟩
theorem Marks.up {M N : Nat} {ds : List Deferred} {X Y : World} (h : Marks M N ds X) (hb : Below X.heap.size X Y) : Marks M N ds Y :=
  h.kept fun k o hk ho _ => by rw [← ho]; exact hb.block k (Array.getElem?_eq_some_iff.1 ho).1
theorem Reads.left {M : Nat} {w w' : World} {s n : Nat} {A : Option Addr} {xs : List Value} (hl : Left M w w') (h : Reads w w.heap.size s A n xs) : Reads w' w'.heap.size s A n xs := h.keepCells hl.cells (by rw [hl.size]; exact Nat.le_refl _)
theorem RowsE.left {M B : Nat} {w w' : World} {l : List Ev} (hl : Left M w w') (h : RowsE w B l) (hB : B ≤ w.heap.size) : RowsE w' w'.heap.size l := fun i hi => (h i hi).keepCells hl.cells (by rw [hl.size]; exact Nat.le_refl _) (by rw [hl.size]; exact hB)
theorem off_own {w : World} {base B : Nat} {e : TypeId} {size k : Nat} {v : Value} {xs : List Value} (h : w.ownsRow base e size v k xs) (he : e ≠ 102) (hB : B ≤ base) : ∀ g, g ∈ obl v → B ≤ g ∧ ∀ c fz, w.heap[g]? ≠ some (.cells c 102 fz) := by
  intro g hg
  unfold obl at hg
  cases hv : v.ownBlock with
  | none => rw [hv] at hg; simp at hg
  | some b =>
    rw [hv] at hg
    obtain rfl : g = b := by simpa using hg
    refine ⟨Nat.le_trans hB (h.lt g hv).1, fun c fz hc => ?_⟩
    obtain ⟨c', fz', h'⟩ := own_cells h hv
    rw [h'] at hc
    injection hc with hc
    injection hc with _ h2
    exact he h2
theorem RowsE.bar {w w' : World} {base B : Nat} {e : TypeId} {size k : Nat} {v : Value} {xs : List Value} {l : List Ev} (h : RowsE w B l) (ho : w.ownsRow base e size v k xs) (he : e ≠ 102) (hB : B ≤ base) (hb : Bar w.heap.size (obl v) w w') : RowsE w' B l := fun i hi =>
  (h i hi).keep (p := fun k => k ∈ obl v) (fun k hk hp => hb.block k hk hp) hb.size fun k hk => off_own ho he hB k hk
end

section
open Go.RowKit
attribute [local go_sem] Oper.semAt_some wide_fn wide_depth
set_option linter.unusedVariables false
set_option linter.unusedSimpArgs false


def FrI (A1 : Option Addr) (n1 c1 : Nat) (A2 : Option Addr) (n2 c2 : Nat) (A3 : Option Addr) (n3 c3 : Nat) (A4 : Option Addr) (n4 c4 : Nat) (b ob k : Nat) (ds : List Deferred) (a : Act) : Prop := ∃ u : Nat → Value, a = { tmps := #[.slice A1 n1 c1, .slice A2 n2 c2, u 2, u 3, .slice A3 n3 c3, .slice A4 n4 c4, u 6, u 7, .pointer (some ⟨b, 0, none⟩), .pointer (some ⟨b + 1, 0, none⟩), u 10, u 11, .pointer (some ⟨b + 1 + 1, 0, none⟩), .pointer (some ⟨b + 1 + 1 + 1, 0, none⟩), u 14, .pointer (some ⟨ob, 0, none⟩), u 16, u 17, u 18, u 19, u 20, u 21, u 22, u 23, u 24, u 25, u 26, u 27, u 28, u 29, u 30, u 31, u 32, u 33, u 34, u 35, u 36, u 37, u 38, u 39, u 40, u 41, u 42, u 43, u 44, u 45, u 46, u 47, u 48, u 49, u 50, u 51, u 52, u 53, u 54, u 55, u 56, .slice A3 n3 c3, .int .i64 (n3 : Int), .int .i64 (k : Int), u 60, u 61, u 62, u 63, u 64, u 65, u 66, u 67, u 68, u 69, u 70, u 71, u 72, u 73, u 74, u 75, u 76, u 77, u 78, u 79, u 80, u 81, u 82, u 83, u 84, u 85, u 86, u 87, u 88, u 89, u 90, u 91, u 92, u 93, u 94, u 95, u 96, u 97, u 98, u 99, u 100, u 101, u 102, u 103, u 104, u 105, u 106, u 107, u 108, u 109, u 110, u 111, u 112, u 113, u 114, u 115, u 116, u 117], defers := ds }
theorem FrI.mk (A1 : Option Addr) (n1 c1 : Nat) (A2 : Option Addr) (n2 c2 : Nat) (A3 : Option Addr) (n3 c3 : Nat) (A4 : Option Addr) (n4 c4 : Nat) (b ob k : Nat) (ds : List Deferred) (a : Act) (h : a = { tmps := #[.slice A1 n1 c1, .slice A2 n2 c2, a.tmps.getD 2 undef, a.tmps.getD 3 undef, .slice A3 n3 c3, .slice A4 n4 c4, a.tmps.getD 6 undef, a.tmps.getD 7 undef, .pointer (some ⟨b, 0, none⟩), .pointer (some ⟨b + 1, 0, none⟩), a.tmps.getD 10 undef, a.tmps.getD 11 undef, .pointer (some ⟨b + 1 + 1, 0, none⟩), .pointer (some ⟨b + 1 + 1 + 1, 0, none⟩), a.tmps.getD 14 undef, .pointer (some ⟨ob, 0, none⟩), a.tmps.getD 16 undef, a.tmps.getD 17 undef, a.tmps.getD 18 undef, a.tmps.getD 19 undef, a.tmps.getD 20 undef, a.tmps.getD 21 undef, a.tmps.getD 22 undef, a.tmps.getD 23 undef, a.tmps.getD 24 undef, a.tmps.getD 25 undef, a.tmps.getD 26 undef, a.tmps.getD 27 undef, a.tmps.getD 28 undef, a.tmps.getD 29 undef, a.tmps.getD 30 undef, a.tmps.getD 31 undef, a.tmps.getD 32 undef, a.tmps.getD 33 undef, a.tmps.getD 34 undef, a.tmps.getD 35 undef, a.tmps.getD 36 undef, a.tmps.getD 37 undef, a.tmps.getD 38 undef, a.tmps.getD 39 undef, a.tmps.getD 40 undef, a.tmps.getD 41 undef, a.tmps.getD 42 undef, a.tmps.getD 43 undef, a.tmps.getD 44 undef, a.tmps.getD 45 undef, a.tmps.getD 46 undef, a.tmps.getD 47 undef, a.tmps.getD 48 undef, a.tmps.getD 49 undef, a.tmps.getD 50 undef, a.tmps.getD 51 undef, a.tmps.getD 52 undef, a.tmps.getD 53 undef, a.tmps.getD 54 undef, a.tmps.getD 55 undef, a.tmps.getD 56 undef, .slice A3 n3 c3, .int .i64 (n3 : Int), .int .i64 (k : Int), a.tmps.getD 60 undef, a.tmps.getD 61 undef, a.tmps.getD 62 undef, a.tmps.getD 63 undef, a.tmps.getD 64 undef, a.tmps.getD 65 undef, a.tmps.getD 66 undef, a.tmps.getD 67 undef, a.tmps.getD 68 undef, a.tmps.getD 69 undef, a.tmps.getD 70 undef, a.tmps.getD 71 undef, a.tmps.getD 72 undef, a.tmps.getD 73 undef, a.tmps.getD 74 undef, a.tmps.getD 75 undef, a.tmps.getD 76 undef, a.tmps.getD 77 undef, a.tmps.getD 78 undef, a.tmps.getD 79 undef, a.tmps.getD 80 undef, a.tmps.getD 81 undef, a.tmps.getD 82 undef, a.tmps.getD 83 undef, a.tmps.getD 84 undef, a.tmps.getD 85 undef, a.tmps.getD 86 undef, a.tmps.getD 87 undef, a.tmps.getD 88 undef, a.tmps.getD 89 undef, a.tmps.getD 90 undef, a.tmps.getD 91 undef, a.tmps.getD 92 undef, a.tmps.getD 93 undef, a.tmps.getD 94 undef, a.tmps.getD 95 undef, a.tmps.getD 96 undef, a.tmps.getD 97 undef, a.tmps.getD 98 undef, a.tmps.getD 99 undef, a.tmps.getD 100 undef, a.tmps.getD 101 undef, a.tmps.getD 102 undef, a.tmps.getD 103 undef, a.tmps.getD 104 undef, a.tmps.getD 105 undef, a.tmps.getD 106 undef, a.tmps.getD 107 undef, a.tmps.getD 108 undef, a.tmps.getD 109 undef, a.tmps.getD 110 undef, a.tmps.getD 111 undef, a.tmps.getD 112 undef, a.tmps.getD 113 undef, a.tmps.getD 114 undef, a.tmps.getD 115 undef, a.tmps.getD 116 undef, a.tmps.getD 117 undef], defers := ds }) : FrI A1 n1 c1 A2 n2 c2 A3 n3 c3 A4 n4 c4 b ob k ds a := ⟨fun i => a.tmps.getD i undef, h⟩
def FrX (b ob xb yb : Nat) (a : Act) : Prop := ∃ u : Nat → Value, a = { tmps := #[u 0, u 1, u 2, u 3, u 4, u 5, u 6, u 7, .pointer (some ⟨b, 0, none⟩), .pointer (some ⟨b + 1, 0, none⟩), u 10, u 11, .pointer (some ⟨b + 1 + 1, 0, none⟩), .pointer (some ⟨b + 1 + 1 + 1, 0, none⟩), u 14, .pointer (some ⟨ob, 0, none⟩), u 16, .pointer (some ⟨xb, 0, none⟩), u 18, u 19, .pointer (some ⟨yb, 0, none⟩), u 21, u 22, u 23, u 24, u 25, u 26, u 27, u 28, u 29, u 30, u 31, u 32, u 33, u 34, u 35, u 36, u 37, u 38, u 39, u 40, u 41, u 42, u 43, u 44, u 45, u 46, u 47, u 48, u 49, u 50, u 51, u 52, u 53, u 54, u 55, u 56, u 57, u 58, u 59, u 60, u 61, u 62, u 63, u 64, u 65, u 66, u 67, u 68, u 69, u 70, u 71, u 72, u 73, u 74, u 75, u 76, u 77, u 78, u 79, u 80, u 81, u 82, u 83, u 84, u 85, u 86, u 87, u 88, u 89, u 90, u 91, u 92, u 93, u 94, u 95, u 96, u 97, u 98, u 99, u 100, u 101, u 102, u 103, u 104, u 105, u 106, u 107, u 108, u 109, u 110, u 111, u 112, u 113, u 114, u 115, u 116, u 117], defers := [] }
theorem FrX.mk (b ob xb yb : Nat) (a : Act) (h : a = { tmps := #[a.tmps.getD 0 undef, a.tmps.getD 1 undef, a.tmps.getD 2 undef, a.tmps.getD 3 undef, a.tmps.getD 4 undef, a.tmps.getD 5 undef, a.tmps.getD 6 undef, a.tmps.getD 7 undef, .pointer (some ⟨b, 0, none⟩), .pointer (some ⟨b + 1, 0, none⟩), a.tmps.getD 10 undef, a.tmps.getD 11 undef, .pointer (some ⟨b + 1 + 1, 0, none⟩), .pointer (some ⟨b + 1 + 1 + 1, 0, none⟩), a.tmps.getD 14 undef, .pointer (some ⟨ob, 0, none⟩), a.tmps.getD 16 undef, .pointer (some ⟨xb, 0, none⟩), a.tmps.getD 18 undef, a.tmps.getD 19 undef, .pointer (some ⟨yb, 0, none⟩), a.tmps.getD 21 undef, a.tmps.getD 22 undef, a.tmps.getD 23 undef, a.tmps.getD 24 undef, a.tmps.getD 25 undef, a.tmps.getD 26 undef, a.tmps.getD 27 undef, a.tmps.getD 28 undef, a.tmps.getD 29 undef, a.tmps.getD 30 undef, a.tmps.getD 31 undef, a.tmps.getD 32 undef, a.tmps.getD 33 undef, a.tmps.getD 34 undef, a.tmps.getD 35 undef, a.tmps.getD 36 undef, a.tmps.getD 37 undef, a.tmps.getD 38 undef, a.tmps.getD 39 undef, a.tmps.getD 40 undef, a.tmps.getD 41 undef, a.tmps.getD 42 undef, a.tmps.getD 43 undef, a.tmps.getD 44 undef, a.tmps.getD 45 undef, a.tmps.getD 46 undef, a.tmps.getD 47 undef, a.tmps.getD 48 undef, a.tmps.getD 49 undef, a.tmps.getD 50 undef, a.tmps.getD 51 undef, a.tmps.getD 52 undef, a.tmps.getD 53 undef, a.tmps.getD 54 undef, a.tmps.getD 55 undef, a.tmps.getD 56 undef, a.tmps.getD 57 undef, a.tmps.getD 58 undef, a.tmps.getD 59 undef, a.tmps.getD 60 undef, a.tmps.getD 61 undef, a.tmps.getD 62 undef, a.tmps.getD 63 undef, a.tmps.getD 64 undef, a.tmps.getD 65 undef, a.tmps.getD 66 undef, a.tmps.getD 67 undef, a.tmps.getD 68 undef, a.tmps.getD 69 undef, a.tmps.getD 70 undef, a.tmps.getD 71 undef, a.tmps.getD 72 undef, a.tmps.getD 73 undef, a.tmps.getD 74 undef, a.tmps.getD 75 undef, a.tmps.getD 76 undef, a.tmps.getD 77 undef, a.tmps.getD 78 undef, a.tmps.getD 79 undef, a.tmps.getD 80 undef, a.tmps.getD 81 undef, a.tmps.getD 82 undef, a.tmps.getD 83 undef, a.tmps.getD 84 undef, a.tmps.getD 85 undef, a.tmps.getD 86 undef, a.tmps.getD 87 undef, a.tmps.getD 88 undef, a.tmps.getD 89 undef, a.tmps.getD 90 undef, a.tmps.getD 91 undef, a.tmps.getD 92 undef, a.tmps.getD 93 undef, a.tmps.getD 94 undef, a.tmps.getD 95 undef, a.tmps.getD 96 undef, a.tmps.getD 97 undef, a.tmps.getD 98 undef, a.tmps.getD 99 undef, a.tmps.getD 100 undef, a.tmps.getD 101 undef, a.tmps.getD 102 undef, a.tmps.getD 103 undef, a.tmps.getD 104 undef, a.tmps.getD 105 undef, a.tmps.getD 106 undef, a.tmps.getD 107 undef, a.tmps.getD 108 undef, a.tmps.getD 109 undef, a.tmps.getD 110 undef, a.tmps.getD 111 undef, a.tmps.getD 112 undef, a.tmps.getD 113 undef, a.tmps.getD 114 undef, a.tmps.getD 115 undef, a.tmps.getD 116 undef, a.tmps.getD 117 undef], defers := [] }) : FrX b ob xb yb a := ⟨fun i => a.tmps.getD i undef, h⟩
theorem Marks.bars {M N N' : Nat} {Xs : List Nat} {ds : List Deferred} {X Y : World} (h : Marks M N ds X) (hb : Bar N' Xs X Y) (hN : N ≤ N') (hM : ∀ x ∈ Xs, ∃ o : Obj, X.heap[x]? = some o ∧ o.isCells = true) : Marks M N ds Y := by
  induction ds generalizing N with
  | nil => trivial
  | cons d ds ih =>
    obtain ⟨D, h1, h2, h3, h4, h5⟩ := h
    exact ⟨D, h1, h2, h3, (hb.block D (by omega) (fun e => by obtain ⟨o, g1, g2⟩ := hM D e; rw [h4] at g1; cases g1; cases g2)).trans h4, ih h5 (by omega)⟩
/-- OutE, where it is known which block the list may have. -/
structure OutF (B ob : Nat) (Xs : List Nat) (N : Nat) (cs : List Te) (W : World) : Prop where
  ow : ∃ (v : Value) (l : List Ev), Boxed W ob 25 v ∧ W.ownsRow (ob + 1) 36 2 v l.length (l.flatMap encEv) ∧ dE l = cs ∧ RowsE W B l ∧ ∀ g, v.ownBlock = some g → g ∈ Xs ∨ N ≤ g
theorem OutF.toE {B ob N : Nat} {Xs : List Nat} {cs : List Te} {W : World} (h : OutF B ob Xs N cs W) : OutE B ob cs W := by
  obtain ⟨v, l, h1, h2, h3, h4, _⟩ := h.ow
  exact ⟨v, l, h1, h2, h3, h4⟩
theorem OutF.below {B ob N : Nat} {Xs : List Nat} {cs : List Te} {W W' : World} (h : OutF B ob Xs N cs W) (hb : Below W.heap.size W W') : OutF B ob Xs N cs W' := by
  obtain ⟨v, l, h1, h2, h3, h4, h5⟩ := h.ow
  exact ⟨v, l, (hb.block _ h1.lt).trans h1, own_below h2 hb, h3, h4.below hb, h5⟩
theorem OutF.others {B ob C N : Nat} {Xs : List Nat} (hC : B ≤ C) {cs : List Te} {X Y : World} {row : Option Nat} (h : OutF B ob Xs N cs X) (hg : X.grownBy Y row) (hr : ∀ r, row = some r → C ≤ r ∧ ∃ o : Obj, X.heap[r]? = some o ∧ o.isCells = false) : OutF B ob Xs N cs Y := by
  obtain ⟨v, l, h1, h2, h3, h4, h5⟩ := h.ow
  have hr2 : ∀ k, row = some k → ∃ o : Obj, X.heap[k]? = some o ∧ o.isCells = false := fun k e => (hr k e).2
  refine ⟨v, l, blk_own h1 hg hr2, h2.kept hg ?_, h3, fun i hi => (h4 i hi).others hg fun k e => ⟨Nat.le_trans hC (hr k e).1, (hr k e).2⟩, h5⟩
  cases hv : v.ownBlock with
  | none => exact .inl rfl
  | some b =>
    refine .inr fun e => ?_
    obtain ⟨c, fz, hc⟩ := own_cells h2 hv
    obtain ⟨o, ho, hcc⟩ := hr2 b e.symm
    rw [hc] at ho
    cases ho; cases hcc
theorem outF_from {β : Type} {B ob C N : Nat} {Xs : List Nat} (hC : B ≤ C) (f : β → List Te) : OwnFrom C (fun (s : β) W => OutF B ob Xs N (f s) W) := fun _ _ _ _ h hg hr => h.others hC hg hr
theorem Reads.bar2 {W W' : World} {sz n : Nat} {A : Option Addr} {xs : List Value} {X : List Nat} (h : Reads W W.heap.size sz A n xs) (hb : Bar W.heap.size X W W') (hx : 0 < n → ∀ b o, A = some ⟨b, o, none⟩ → b ∉ X) : Reads W' W'.heap.size sz A n xs := by
  refine ⟨h.1, fun h0 => ?_⟩
  obtain ⟨b, off, e, hlt, hc⟩ := h.2 h0
  refine ⟨b, off, e, by have := hb.size; omega, fun j u hu => ?_⟩
  rw [World.cell?_of_block (hb.block b hlt (hx h0 b off e))]
  exact hc j u hu
theorem pairs_ok {on others : List Int} {lo hi : Int} {l r : List Te} (hl : ∀ x ∈ l, okR x.2 = true) (hr : ∀ x ∈ r, okR x.2 = true) (h : limP (pairsI on others lo hi l r) = false) : ∀ c ∈ pairsI on others lo hi l r, okR c.2 = true := by
  intro c hc
  unfold limP at h
  rw [Bool.or_eq_false_iff] at h
  have h1 := List.any_eq_false.1 h.1 c hc
  unfold badP at h1
  have h2 : c.2.length ≤ 8 := by simpa using h1
  unfold pairsI at hc
  obtain ⟨x, hx, hc⟩ := List.mem_flatMap.1 hc
  unfold pairsOf at hc
  obtain ⟨y, hy, rfl⟩ := List.mem_map.1 hc
  have hy' := (List.mem_filter.1 hy).1
  unfold okR
  rw [Bool.and_eq_true, decide_eq_true_eq]
  exact ⟨by rw [List.all_append, okR_vals (hl x hx), okR_vals (hr y hy')]; rfl, h2⟩
theorem Bar.drop {M ob : Nat} {Xs : List Nat} {X Y : World} (h : Bar M (ob :: Xs) X Y) (hM : ob + 1 ≤ M) (hX : ∀ g ∈ Xs, ob + 1 ≤ g) : Bar (ob + 1) [ob] X Y :=
  ⟨h.os, h.tape, h.output, h.size, fun k hk hx => h.block k (by omega) fun e => by
    rcases List.mem_cons.1 e with e | e
    · exact hx (by simp [e])
    · have := hX k e; omega⟩

set_option maxRecDepth 100000 in
set_option maxHeartbeats 16000000 in
theorem Intervals_ok (A1 : Option Addr) (n1 c1 : Nat) (on : List Int) (A2 : Option Addr) (n2 c2 : Nat) (others : List Int) (lo hi : Int) (A3 : Option Addr) (n3 c3 : Nat) (ll : List Ev) (A4 : Option Addr) (n4 c4 : Nat) (lr : List Ev) (w : World)
    (h1 : Reads w w.heap.size 1 A1 n1 (on.map (Value.int .i64))) (h2 : Reads w w.heap.size 1 A2 n2 (others.map (Value.int .i64))) (hn1 : n1 ≤ 1000) (hn2 : n2 ≤ 1000) (h3 : EvR w w.heap.size A3 n3 ll) (h4 : EvR w w.heap.size A4 n4 lr) (hm3 : n3 ≤ 100000) (hm4 : n4 ≤ 100000)
    (hc3 : ∀ x ∈ ll, x.n ≤ x.c) (hc4 : ∀ x ∈ lr, x.n ≤ x.c) (ht : Tab w)
    (r1 : evsB (dE ll) = true) (r2 : evsB (dE lr) = true) (r3 : fitK on others = true) (r4 : insK on 8 = true) (r5 : insK others 8 = true) (r6 : spanB lo hi = true) (r7 : hasE (dE ll) on = true) (r8 : hasE (dE lr) others = true) :
    CallsIn Fence.wide 4 Tryz.prog 14 #[.slice A1 n1 c1, .slice A2 n2 c2, .int .i64 lo, .int .i64 hi, .slice A3 n3 c3, .slice A4 n4 c4] w (RetEvE w (intB on others lo hi (dE ll) (dE lr))) := by
  obtain ⟨i0, hi0, hz0, hz1, hz2⟩ := info_parts3 infoEv
  obtain ⟨p, hp⟩ : ∃ p, intB on others lo hi (dE ll) (dE lr) = p := ⟨_, rfl⟩
  rw [hp]
  have HP : Hid (p = if limP (pairsI on others lo hi (dE ll) (dE lr)) then ([], 4) else (srtG cmpE (pairsI on others lo hi (dE ll) (dE lr)), 0)) := by
    refine hide ?_
    rw [← hp]
    unfold intB intE
    rw [r1, r2, r3, r4, r5, r6, r7, r8]
    cases limP (pairsI on others lo hi (dE ll) (dE lr)) <;> simp
  clear hp
  have HL1 := hide h1.len1
  have HL2 := hide h2.len1
  have HL3 := hide h3.len
  have HOKL := hide (show ∀ x ∈ ll, okE (x.t, x.r) = true from fun x hx => by
    unfold evsB at r1
    rw [Bool.and_eq_true] at r1
    exact List.all_eq_true.1 r1.2 (x.t, x.r) (List.mem_map_of_mem hx))
  have HOKR := hide (show ∀ x ∈ lr, okE (x.t, x.r) = true from fun x hx => by
    unfold evsB at r2
    rw [Bool.and_eq_true] at r2
    exact List.all_eq_true.1 r2.2 (x.t, x.r) (List.mem_map_of_mem hx))
  have HHL := hide (show ∀ x ∈ ll, hasC x.r on = true from fun x hx => List.all_eq_true.1 r7 (x.t, x.r) (List.mem_map_of_mem hx))
  have HHR := hide (show ∀ x ∈ lr, hasC x.r others = true from fun x hx => List.all_eq_true.1 r8 (x.t, x.r) (List.mem_map_of_mem hx))
  have HC3 := hide hc3
  have HC4 := hide hc4
  have HT := hide ht
  clear hc3 hc4 ht
  have hB0 : Below w.heap.size w (((((w.alloc (.cells #[.int .i64 lo] 3)).alloc (.cells #[.int .i64 hi] 3)).alloc (.cells #[.slice none 0 0] 25)).alloc (.cells #[.int .i64 0] 28)).alloc (.cells #[.slice A1 n1 c1, .slice A2 n2 c2] 91)) :=
    (((((Below.refl _ _).alloc (Nat.le_refl _) _).alloc (by simp) _).alloc (by simp; omega) _).alloc (by simp; omega) _).alloc (by simp; omega) _
  have hs0 : (((((w.alloc (.cells #[.int .i64 lo] 3)).alloc (.cells #[.int .i64 hi] 3)).alloc (.cells #[.slice none 0 0] 25)).alloc (.cells #[.int .i64 0] 28)).alloc (.cells #[.slice A1 n1 c1, .slice A2 n2 c2] 91)).heap.size = w.heap.size + 5 := by simp
  have x0 := ((((Boxed.new w 3 (.int .i64 lo)).alloc (.cells #[.int .i64 hi] 3)).alloc (.cells #[.slice none 0 0] 25)).alloc (.cells #[.int .i64 0] 28)).alloc (.cells #[.slice A1 n1 c1, .slice A2 n2 c2] 91)
  have x1 := (((Boxed.new (w.alloc (.cells #[.int .i64 lo] 3)) 3 (.int .i64 hi)).alloc (.cells #[.slice none 0 0] 25)).alloc (.cells #[.int .i64 0] 28)).alloc (.cells #[.slice A1 n1 c1, .slice A2 n2 c2] 91)
  have x2 := ((Boxed.new ((w.alloc (.cells #[.int .i64 lo] 3)).alloc (.cells #[.int .i64 hi] 3)) 25 (.slice none 0 0)).alloc (.cells #[.int .i64 0] 28)).alloc (.cells #[.slice A1 n1 c1, .slice A2 n2 c2] 91)
  have x3 := (Boxed.new (((w.alloc (.cells #[.int .i64 lo] 3)).alloc (.cells #[.int .i64 hi] 3)).alloc (.cells #[.slice none 0 0] 25)) 28 (.int .i64 0)).alloc (.cells #[.slice A1 n1 c1, .slice A2 n2 c2] 91)
  have x4 := Blk.new ((((w.alloc (.cells #[.int .i64 lo] 3)).alloc (.cells #[.int .i64 hi] 3)).alloc (.cells #[.slice none 0 0] 25)).alloc (.cells #[.int .i64 0] 28)) 91 #[.slice A1 n1 c1, .slice A2 n2 c2]
  simp only [World.size_alloc] at x1 x2 x3 x4
  refine callsIn_of_wp_marks Tryz.func14 rfl trivial ?_ rfl
  simp only [Tryz.ntmps14, List.size_toArray, List.length_cons, List.length_nil, Nat.reduceAdd, Nat.reduceSub, Array.replicate_succ, Array.replicate_zero, List.push_toArray, List.append_toArray, List.nil_append, List.cons_append]
  gi_wp2_with fail
  obtain ⟨W0, hW0⟩ : ∃ W0, (((((w.alloc (.cells #[.int .i64 lo] 3)).alloc (.cells #[.int .i64 hi] 3)).alloc (.cells #[.slice none 0 0] 25)).alloc (.cells #[.int .i64 0] 28)).alloc (.cells #[.slice A1 n1 c1, .slice A2 n2 c2] 91)) = W0 := ⟨_, rfl⟩
  rw [hW0] at hB0 hs0 x0 x1 x2 x3 x4 ⊢
  clear hW0
  have PA := hide h1
  have PB := hide h2
  have PC := hide h3
  have PD := hide h4
  have X0 := hide x0
  have X1 := hide x1
  have X2 := hide x2
  have X3 := hide x3
  have X4 := hide x4
  clear h1 h2 h3 h4 x0 x1 x2 x3 x4
  have bk0 : Below (w.heap.size + 5) W0 W0 := Below.refl _ _
  refine (callsIn_wide.2 (events_any A3 n3 c3 ll W0 (PC.out.step' hB0))).mono ?_
  rintro e W1 ⟨rfl, hb⟩
  have hB1 := bstep hB0 hb
  have bk1 : Below (w.heap.size + 5) W0 W1 := bk0.trans (hb.mono (by have := bk0.size; omega))
  clear hb hB0 bk0
  rw [r1]
  gi_wp2_with fail
  refine (callsIn_wide.2 (events_any A4 n4 c4 lr W1 (PD.out.step' hB1))).mono ?_
  rintro e W2 ⟨rfl, hb⟩
  have hB2 := bstep hB1 hb
  have bk2 : Below (w.heap.size + 5) W0 W2 := bk1.trans (hb.mono (by have := bk1.size; omega))
  clear hb hB1 bk1
  rw [r2]
  have q4 : Blk W2 (w.heap.size + 1 + 1 + 1 + 1) 91 #[.slice A1 n1 c1, .slice A2 n2 c2] := (bk2.block (w.heap.size + 1 + 1 + 1 + 1) (by omega)).trans X4.out
  have d4 : W2.cell? ⟨w.heap.size + 1 + 1 + 1 + 1, 0, none⟩ = some (.slice A1 n1 c1) := by simpa using q4.cell 0
  have d5 : W2.cell? ⟨w.heap.size + 1 + 1 + 1 + 1, 1, none⟩ = some (.slice A2 n2 c2) := by simpa using q4.cell 1
  clear q4
  gi_wp2_with fail
  refine (callsIn_wide.2 (sized_any A1 n1 c1 A2 n2 c2 on others W2 HL1.out HL2.out (by omega) (by omega))).mono ?_
  rintro e W3 ⟨rfl, hb⟩
  have hB3 := bstep hB2 hb
  have bk3 : Below (w.heap.size + 5) W0 W3 := bk2.trans (hb.mono (by have := bk2.size; omega))
  clear hb hB2 bk2
  rw [r3]
  clear d4 d5
  have d0 : W3.cell? ⟨w.heap.size, 0, none⟩ = some (.int .i64 lo) := Boxed.cell (show Boxed W3 (w.heap.size) 3 (.int .i64 lo) from (bk3.block (w.heap.size) (by omega)).trans X0.out)
  have d1 : W3.cell? ⟨w.heap.size + 1, 0, none⟩ = some (.int .i64 hi) := Boxed.cell (show Boxed W3 (w.heap.size + 1) 3 (.int .i64 hi) from (bk3.block (w.heap.size + 1) (by omega)).trans X1.out)
  have q4 : Blk W3 (w.heap.size + 1 + 1 + 1 + 1) 91 #[.slice A1 n1 c1, .slice A2 n2 c2] := (bk3.block (w.heap.size + 1 + 1 + 1 + 1) (by omega)).trans X4.out
  have d4 : W3.cell? ⟨w.heap.size + 1 + 1 + 1 + 1, 0, none⟩ = some (.slice A1 n1 c1) := by simpa using q4.cell 0
  have d5 : W3.cell? ⟨w.heap.size + 1 + 1 + 1 + 1, 1, none⟩ = some (.slice A2 n2 c2) := by simpa using q4.cell 1
  clear q4
  gi_wp2_with fail
  refine (callsIn_wide.2 (below_any A1 n1 c1 on A2 n2 c2 others 8 8 W3 (PA.out.up hB3) (PB.out.up hB3) (by omega) (by omega) (by omega) (by omega))).mono ?_
  rintro e W4 ⟨rfl, hb⟩
  have hB4 := bstep hB3 hb
  have bk4 : Below (w.heap.size + 5) W0 W4 := bk3.trans (hb.mono (by have := bk3.size; omega))
  clear hb hB3 bk3
  rw [r4, r5, Bool.and_true]
  clear d0 d1 d4 d5
  have d0 : W4.cell? ⟨w.heap.size, 0, none⟩ = some (.int .i64 lo) := Boxed.cell (show Boxed W4 (w.heap.size) 3 (.int .i64 lo) from (bk4.block (w.heap.size) (by omega)).trans X0.out)
  have d1 : W4.cell? ⟨w.heap.size + 1, 0, none⟩ = some (.int .i64 hi) := Boxed.cell (show Boxed W4 (w.heap.size + 1) 3 (.int .i64 hi) from (bk4.block (w.heap.size + 1) (by omega)).trans X1.out)
  gi_wp2_with fail
  refine (callsIn_wide.2 (ranged_any lo hi W4)).mono ?_
  rintro e w' ⟨rfl, rfl⟩
  rw [r6]
  gi_wp2_with fail
  refine (callsIn_wide.2 (lacking_any A1 n1 c1 on A3 n3 c3 ll W4 (PA.out.up hB4) (by omega) (PC.out.step' hB4) hm3)).mono ?_
  rintro e W5 ⟨rfl, hb⟩
  have hB5 := bstep hB4 hb
  have bk5 : Below (w.heap.size + 5) W0 W5 := bk4.trans (hb.mono (by have := bk4.size; omega))
  clear hb hB4 bk4
  rw [r7]
  clear d0 d1
  gi_wp2_with fail
  refine (callsIn_wide.2 (lacking_any A2 n2 c2 others A4 n4 c4 lr W5 (PB.out.up hB5) (by omega) (PD.out.step' hB5) hm4)).mono ?_
  rintro e W6 ⟨rfl, hb⟩
  have hB6 := bstep hB5 hb
  have bk6 : Below (w.heap.size + 5) W0 W6 := bk5.trans (hb.mono (by have := bk5.size; omega))
  clear hb hB5 bk5
  rw [r8]
  have HR := hide (And.intro r4 r5)
  clear r1 r2 r3 r4 r5 r6 r7 r8
  obtain ⟨ob, hob⟩ : ∃ ob, W6.heap.size = ob := ⟨_, rfl⟩
  have hbo : Below W6.heap.size W6 (W6.alloc (.cells #[.slice none 0 0] 25)) := below_val _ _
  have ko := Boxed.new W6 25 (.slice none 0 0)
  have ho : w.heap.size + 5 ≤ ob := by have := bk6.size; omega
  have hs8 : (W6.alloc (.cells #[.slice none 0 0] 25)).heap.size = ob + 1 := by rw [World.size_alloc, hob]
  have hB8 := bstep hB6 hbo
  have bk8 : Below (w.heap.size + 5) W0 (W6.alloc (.cells #[.slice none 0 0] 25)) := bk6.trans (hbo.mono (by have := bk6.size; omega))
  rw [hob] at ko
  clear hbo hB6 bk6
  gi_wp2_with fail
  try rw [hob]
  obtain ⟨W8, hW8⟩ : ∃ W8, W6.alloc (.cells #[.slice none 0 0] 25) = W8 := ⟨_, rfl⟩
  rw [hW8] at ko hs8 hB8 bk8 ⊢
  clear hW8 hob
  have KO := hide ko
  clear ko
  obtain ⟨ALL, hall⟩ : ∃ ALL, pairsI on others lo hi (dE ll) (dE lr) = ALL := ⟨_, rfl⟩
  rw [hall] at HP
  have HALL := hide hall
  clear hall
  refine wpIn_loop (fun a wr => ∃ (k : Nat) (ds : List Deferred), FrI A1 n1 c1 A2 n2 c2 A3 n3 c3 A4 n4 c4 w.heap.size ob k ds a ∧ k ≤ n3 ∧ Marks (ob + 1) wr.heap.size ds wr ∧ OutE w.heap.size ob (pairsI on others lo hi (dE (ll.take k)) (dE lr)) wr ∧ limP (pairsI on others lo hi (dE (ll.take k)) (dE lr)) = false ∧ Bar (ob + 1) [ob] W8 wr)
    (fun a _ => n3 - (intOf (a.tmps.getD 59 undef)).toNat) ?_ ?_
  · exact ⟨0, [], FrI.mk _ _ _ _ _ _ _ _ _ _ _ _ _ _ _ _ _ rfl, Nat.zero_le _, trivial, ⟨_, [], KO.out, World.ownsRow_nil _ _ _ _, rfl, by intro i hi; cases hi⟩, rfl, Bar.refl _ _ _⟩
  · rintro a wr ⟨k, ds, ⟨u, rfl⟩, hk, hmk, hst, hlm, hbar⟩
    have hsz := hbar.size
    have hBr : Below w.heap.size w wr := hB8.trans (hbar.below (by omega) (by simp; omega))
    have bkr : Below (w.heap.size + 5) W0 wr := bk8.trans (hbar.below (by omega) (by simp; omega))
    have HMK := hide hmk
    have HST := hide hst
    have HBAR := hide hbar
    have HLM := hide hlm
    clear hmk hst hbar hlm
    by_cases hlt : k < n3
    · obtain ⟨b, off, x, hA, hbb, hxk, e0, e1, hrow⟩ := (PC.out.below hBr).at_ hlt
      have hxin := List.mem_of_getElem? hxk
      have HX := hide hxk
      have hox := HOKL.out x hxin
      have hoxr : okR x.r = true := okE_row hox
      obtain ⟨tx1, tx2⟩ : -1000000000000 ≤ x.t ∧ x.t ≤ 1000000000000 := okE_time hox
      have hx8 := okR_eight hoxr
      have hxl := hrow.len
      have hB1 := below_val (w := wr) #[.int .i64 x.t, .slice x.A x.n x.c] 36
      have kx := Blk.new wr 36 #[.int .i64 x.t, .slice x.A x.n x.c]
      have hs1 : (wr.alloc (.cells #[.int .i64 x.t, .slice x.A x.n x.c] 36)).heap.size = wr.heap.size + 1 := World.size_alloc _ _
      have q1 : (0 : Int) ≤ (k : Int) := by omega
      have q2 : (k : Int) < (n3 : Int) := by omega
      have HA := hide hA
      rw [hA]
      clear hxk hA
      have dx1 : (wr.alloc (.cells #[.int .i64 x.t, .slice x.A x.n x.c] 36)).cell? ⟨wr.heap.size, 1, none⟩ = some (.slice x.A x.n x.c) := kx.cell 1
      gi_wp2_with fail
      obtain ⟨W1, hW1⟩ : ∃ W1, wr.alloc (.cells #[.int .i64 x.t, .slice x.A x.n x.c] 36) = W1 := ⟨_, rfl⟩
      rw [hW1] at hB1 kx hs1 ⊢
      have hBw1 := bstep hBr hB1
      refine (callsIn_wide.2 (of_any A1 n1 c1 on x.A x.n x.c x.r W1 (PA.out.up hBw1) hn1 ((hrow.below hB1).mono (by have := hBw1.size; omega)) (HC3.out x hxin) hoxr (HHL.out x hxin) (HT.out.below hBw1))).mono ?_
      rintro e W2 ⟨rfl, hb2⟩
      have hB2 : Below wr.heap.size wr W2 := bstep hB1 hb2
      have kx2 := kx.below hb2 kx.lt
      have hs2 := hb2.size
      clear hW1 hB1 hb2 kx e0 e1 hBw1 dx1
      obtain ⟨key, hkey⟩ : ∃ key, ofS on x.r = key := ⟨_, rfl⟩
      rw [hkey]
      have HKEY := hide hkey
      clear hkey
      have hBw2 := bstep hBr hB2
      by_cases hnn : nonul (pick x.r on) = true
      · rw [hnn]
        have HNN := hide hnn
        clear hnn
        gi_wp2_with fail
        refine (callsIn_wide.2 (partners_any A4 n4 c4 A2 n2 c2 key W2)).mono ?_
        rintro e W3 ⟨rfl, hW3⟩
        have p1 := ((Boxed.new W2 25 (.slice A4 n4 c4)).alloc (.cells #[.slice A2 n2 c2] 22)).alloc (.cells #[.string key] 9)
        have p2 := (Boxed.new (W2.alloc (.cells #[.slice A4 n4 c4] 25)) 22 (.slice A2 n2 c2)).alloc (.cells #[.string key] 9)
        have p3 := Boxed.new ((W2.alloc (.cells #[.slice A4 n4 c4] 25)).alloc (.cells #[.slice A2 n2 c2] 22)) 9 (.string key)
        have hB23 : Below W2.heap.size W2 W3 := by rw [hW3]; exact (((Below.refl _ _).alloc (Nat.le_refl _) _).alloc (by simp) _).alloc (by simp; omega) _
        obtain ⟨pb, hpb⟩ : ∃ pb, W2.heap.size = pb := ⟨_, rfl⟩
        have hs3 : W3.heap.size = pb + 3 := by rw [hW3, ← hpb]; simp
        simp only [World.size_alloc] at p1 p2 p3
        rw [← hW3] at p1 p2 p3
        rw [hpb] at p1 p2 p3 hs2 ⊢
        have hBr3 : Below wr.heap.size wr W3 := bstep hB2 hB23
        have hBw3 := bstep hBw2 hB23
        have kx3 := kx2.below hB23 kx2.lt
        have bk3 : Below (w.heap.size + 5) W0 W3 := bkr.trans (hBr3.mono (by omega))
        have hMK3 := HMK.out.up hBr3
        obtain ⟨v0, l0, n1', n2', n3', n4'⟩ := HST.out.ow
        obtain ⟨Xs, hXs⟩ : ∃ Xs, obl v0 = Xs := ⟨_, rfl⟩
        have hXm : ∀ g, v0.ownBlock = some g → g ∈ Xs := fun g hg => by rw [← hXs]; unfold obl; rw [hg]; simp
        have hXi : ∀ g ∈ Xs, ob + 1 ≤ g ∧ g < wr.heap.size ∧ ∃ o : Obj, W3.heap[g]? = some o ∧ o.isCells = true := fun g hg => by
          have hv : v0.ownBlock = some g := by rw [← hXs] at hg; unfold obl at hg; simpa using hg
          have h1 := n2'.lt g hv
          obtain ⟨c, fz, h2⟩ := own_cells n2' hv
          exact ⟨h1.1, h1.2, _, (hBr3.block g h1.2).trans h2, rfl⟩
        have hO3 : OutF w.heap.size ob Xs (pb + 3) (pairsI on others lo hi (dE (ll.take k)) (dE lr)) W3 := OutF.below ⟨v0, l0, n1', n2', n3', n4', fun g hg => .inl (hXm g hg)⟩ hBr3
        have HOB := hide (show ∃ o : Obj, W3.heap[ob]? = some o ∧ o.isCells = true from ⟨_, (hBr3.block ob n1'.lt).trans n1', rfl⟩)
        have HXI := hide hXi
        clear n1' n2' n3' n4' hXm hXi hXs
        have hbar3 := HBAR.out.trans (Bar.of_below (hBr3.mono (by omega)) [ob])
        have P1 := hide p1
        have P2 := hide p2
        have P3 := hide p3
        have HBW3 := hide hBw3
        have HBK3 := hide bk3
        have HMK3 := hide hMK3
        have HO3 := hide hO3
        have HBAR3 := hide hbar3
        have HKX3 := hide kx3
        have HORR := hide (show ∀ y ∈ lr, okR y.r = true from fun y hy => okE_row (x := (y.t, y.r)) (HOKR.out y hy))
        have HPP := hide (pairs_part (lo := lo) (hi := hi) (others := others) (x := (x.t, x.r)) (lr := lr) hoxr HORR.out HNN.out)
        rw [HKEY.out] at HPP
        clear hW3 hpb p1 p2 p3 hBw3 bk3 hMK3 hO3 hbar3 kx3 hB23 hB2 hBw2 kx2 hBr3 hrow
        gi_wp2_with fail
        have HNX := hide (show ∀ b, ob ≠ b → wr.heap.size ≤ b → b ∉ ob :: Xs from fun b h0 h1 h2 => by
          rcases List.mem_cons.1 h2 with e | e
          · exact h0 e.symm
          · have := (HXI.out b e).2.1; omega)
        have HXB := hide (show ∀ x ∈ ob :: Xs, w.heap.size + 5 ≤ x from fun x h2 => by
          rcases List.mem_cons.1 h2 with e | e
          · omega
          · have := (HXI.out x e).1; omega)
        refine wpIn_iter (n := 4) rfl (by omega) (gf := 124) (lb := #[.pointer (some ⟨pb, 0, none⟩), .pointer (some ⟨pb + 1, 0, none⟩), .pointer (some ⟨pb + 1 + 1, 0, none⟩)]) rfl trivial (enters_of Tryz.func124 (by kernel_rfl) rfl) (encs := encEa) (xs := lr.filter (mtE others key)) (Wr := fun X Y => Below X.heap.size X Y) (Kp := Bar (pb + 3) (ob :: Xs))
          (fun W hW => partners1_iter 3 (by omega) pb (pb + 1) (pb + 1 + 1) A4 n4 c4 lr A2 n2 c2 others key W (Bar (pb + 3) (ob :: Xs)) (fun W => Bar (pb + 3) (ob :: Xs) W3 W)
            (fun W h => ⟨h.boxed P1.out (by omega) (HNX.out _ (by omega) (by omega)), h.boxed P2.out (by omega) (HNX.out _ (by omega) (by omega)), h.boxed P3.out (by omega) (HNX.out _ (by omega) (by omega)), PD.out.step' (HBW3.out.trans (h.below (by omega) (fun x hx => by have := HXB.out x hx; omega))), PB.out.up (HBW3.out.trans (h.below (by omega) (fun x hx => by have := HXB.out x hx; omega))), HT.out.below (HBW3.out.trans (h.below (by omega) (fun x hx => by have := HXB.out x hx; omega)))⟩)
            (fun X Y h k => h.trans k) (fun X Y h k => h.trans (Bar.of_below (k.mono (by have := h.size; omega)) _)) (Bar.of_below (hW.mono (by omega)) _)
            (fun y hy => ⟨HORR.out y hy, HHR.out y hy, HC4.out y hy⟩) hn2)
          (fun _ => rfl) (fun X Y h => others_below h) bar_t (bar_b (by omega))
          (fun pre W => OutF w.heap.size ob Xs (pb + 3) (pairsI on others lo hi (dE (ll.take k)) (dE lr) ++ pairsF lo hi (x.t, x.r) (dE pre)) W ∧ limP (pairsI on others lo hi (dE (ll.take k)) (dE lr) ++ pairsF lo hi (x.t, x.r) (dE pre)) = false ∧ Bar (pb + 3) (ob :: Xs) W3 W)
          (fun c pre W => c = .ret ∧ limP ALL = true ∧ Boxed W (w.heap.size + 1 + 1) 25 (.slice none 0 0) ∧ Boxed W (w.heap.size + 1 + 1 + 1) 28 (.int .i64 4) ∧ Bar (pb + 3) ((w.heap.size + 1 + 1) :: (w.heap.size + 1 + 1 + 1) :: ob :: Xs) W3 W)
          (OwnFrom.and (outF_from (by omega) _) (OwnFrom.and (ownFrom_pure _ _) (ownFrom_bar (by omega) (by omega))))
          (fun c pre X Y row ⟨a1, a2, a3, a4, a5⟩ hg hr => ⟨a1, a2, blk_own a3 hg (fun r e => (hr r e).2), blk_own a4 hg (fun r e => (hr r e).2), ownFrom_bar (β := Unit) (B := W3.heap.size) (by omega) (by omega) () X Y row a5 hg hr⟩)
          (fun s X Y h k => ⟨h.1.below k, h.2.1, h.2.2.trans (Bar.of_below (k.mono (by have := h.2.2.size; omega)) _)⟩)
          (fun c s X Y ⟨a1, a2, a3, a4, a5⟩ k => ⟨a1, a2, (k.block _ a3.lt).trans a3, (k.block _ a4.lt).trans a4, a5.trans (Bar.of_below (k.mono (by have := a5.size; omega)) _)⟩)
          ⟨by rw [show pairsF lo hi (x.t, x.r) (dE []) = [] from rfl, List.append_nil]; exact HO3.out, by rw [show pairsF lo hi (x.t, x.r) (dE []) = [] from rfl, List.append_nil]; exact HLM.out, Bar.refl _ _ _⟩
          (fun pre y a' W => ∃ yb, pb + 3 ≤ yb ∧ Blk W yb 36 #[.int .i64 y.t, .slice y.A y.n y.c] ∧ (∃ v, Boxed W ob 25 v ∧ v.ownBlock ≠ some yb) ∧ FrX w.heap.size ob wr.heap.size yb a')
          (fun pre y a' _ X Y row hs hg hr => by
            obtain ⟨yb, g1, g2, ⟨v, g4, g5⟩, g3⟩ := hs
            exact ⟨yb, g1, blk_own g2 hg (fun r e => (hr r e).2), ⟨v, blk_own g4 hg (fun r e => (hr r e).2), g5⟩, g3⟩)
          ?assign ?body ?done ?stop
        case assign =>
          rintro l pre y W K hpx ⟨hO, hlm, hB⟩ hK
          have hWs : pb + 3 ≤ W.heap.size := by have := hB.size; omega
          have HVN := hide (show ∃ v, Boxed (W.alloc (.cells #[.int .i64 y.t, .slice y.A y.n y.c] 36)) ob 25 v ∧ v.ownBlock ≠ some W.heap.size from by
            obtain ⟨v, l', i1, i2, _⟩ := hO.ow
            exact ⟨v, i1.alloc _, fun e => by have := (i2.lt _ e).2; omega⟩)
          dsimp only [encEa]
          gi_wp2
          refine hK _ _ ((KeepsOthers.alloc _ _).from _) ((Bar.refl _ _ _).alloc hWs _) ⟨hO.below (below_val _ _), hlm, hB.alloc hWs _⟩ ⟨W.heap.size, hWs, Blk.new W _ _, HVN.out, FrX.mk _ _ _ _ _ rfl⟩
        case body =>
          rintro l pre y a' W hpx ⟨hO, hlm, hB⟩ ⟨yb, hyb, hby, ⟨vv, hvv1, hvv2⟩, uu, rfl⟩
          have hyin : y ∈ lr := (List.mem_filter.1 (hpx.subset (by simp))).1
          have hoy := HOKR.out y hyin
          obtain ⟨ty1, ty2⟩ : -1000000000000 ≤ y.t ∧ y.t ≤ 1000000000000 := okE_time hoy
          have hBwW : Below w.heap.size w W := HBW3.out.trans (hB.below (by omega) (fun x hx => by have := HXB.out x hx; omega))
          have bkW : Below (w.heap.size + 5) W0 W := HBK3.out.trans (hB.below (by omega) (fun x hx => by have := HXB.out x hx; omega))
          have hxlt := HKX3.out.lt
          have hkx : Blk W wr.heap.size 36 #[.int .i64 x.t, .slice x.A x.n x.c] := (hB.block wr.heap.size (by omega) (HNX.out _ (by omega) (Nat.le_refl _))).trans HKX3.out
          have m0 : W.cell? ⟨wr.heap.size, 0, none⟩ = some (.int .i64 x.t) := by simpa using hkx.cell 0
          have m1 : W.cell? ⟨wr.heap.size, 1, none⟩ = some (.slice x.A x.n x.c) := by simpa using hkx.cell 1
          have m2 : W.cell? ⟨yb, 0, none⟩ = some (.int .i64 y.t) := by simpa using hby.cell 0
          have m3 : W.cell? ⟨yb, 1, none⟩ = some (.slice y.A y.n y.c) := by simpa using hby.cell 1
          have m4 : W.cell? ⟨w.heap.size, 0, none⟩ = some (.int .i64 lo) := Boxed.cell (show Boxed W w.heap.size 3 (.int .i64 lo) from (bkW.block w.heap.size (by omega)).trans X0.out)
          have m5 : W.cell? ⟨w.heap.size + 1, 0, none⟩ = some (.int .i64 hi) := Boxed.cell (show Boxed W (w.heap.size + 1) 3 (.int .i64 hi) from (bkW.block (w.heap.size + 1) (by omega)).trans X1.out)
          gi_wp2_with fail
          refine ((callsIn_wide.2 (pwithin_any (y.t - x.t) lo hi W)).inRound l).mono ?_
          rintro e w' ⟨rfl, rfl⟩
          have HSN := hide (pairsF_snoc lo hi (x.t, x.r) (dE pre) (y.t, y.r))
          have HDE := hide (dE_snoc pre y)
          have HC0 := hide hO
          have HBB := hide hB
          have HLW := hide hlm
          cases hq : btw (y.t - x.t) lo hi
          · have HE := hide (show pairsF lo hi (x.t, x.r) (dE (pre ++ [y])) = pairsF lo hi (x.t, x.r) (dE pre) from by
              rw [HDE.out, HSN.out]
              show _ ++ (if btw (y.t - x.t) lo hi then _ else []) = _
              rw [hq]; simp)
            clear hO hB hlm hq
            gi_wp2
            exact ⟨KeepsFrom.refl _ _, Bar.refl _ _ _, by rw [HE.out]; exact HC0.out, by rw [HE.out]; exact HLW.out, HBB.out⟩
          · have HE := hide (show pairsI on others lo hi (dE (ll.take k)) (dE lr) ++ pairsF lo hi (x.t, x.r) (dE (pre ++ [y])) = (pairsI on others lo hi (dE (ll.take k)) (dE lr) ++ pairsF lo hi (x.t, x.r) (dE pre)) ++ [(max x.t y.t, x.r ++ y.r)] from by
              rw [HDE.out, HSN.out, ← List.append_assoc]
              show _ ++ (if btw (y.t - x.t) lo hi then [(max x.t y.t, x.r ++ y.r)] else []) = _
              rw [hq]; simp)
            have HPRE := hide (sofar_pre (others := others) (lo := lo) (hi := hi) HX.out hoxr HORR.out HNN.out (pre := pre) (y := y) (by rw [HKEY.out]; exact hpx))
            obtain ⟨cs, hcs⟩ : ∃ cs, pairsI on others lo hi (dE (ll.take k)) (dE lr) ++ pairsF lo hi (x.t, x.r) (dE pre) = cs := ⟨_, rfl⟩
            rw [hcs] at HE hO hlm HC0 HLW
            rw [HE.out, HALL.out] at HPRE
            have hls := limP_snoc cs (max x.t y.t, x.r ++ y.r) hlm
            have hrowy := ((PD.out.rows y hyin).below hBwW)
            have hyl := hrowy.len
            have hy8 := okR_eight (HORR.out y hyin)
            obtain ⟨v, l', i1, i2, i3, i4, i5⟩ := hO.ow
            obtain rfl : vv = v := by
              have h1 := hvv1.cell
              rw [i1.cell] at h1
              injection h1 with h1
              exact h1.symm
            have hll : l'.length = cs.length := by rw [← i3, dE_len]
            have hls' : limP (cs ++ [(max x.t y.t, x.r ++ y.r)]) = (decide (8 < x.n + y.n) || decide (l'.length = 400)) := by
              rw [hls, hll, ← hxl, ← hyl, ← List.length_append]
            have hl4 : l'.length ≤ 400 := by
              unfold limP at hlm
              rw [Bool.or_eq_false_iff] at hlm
              have := hlm.2
              rw [decide_eq_false_iff_not] at this
              omega
            obtain ⟨Av, cv, rfl, _⟩ := own_form i2
            have HI5 := hide i5
            have HVY := hide hvv2
            clear i5 hvv1 hvv2
            have m6 := i1.cell
            have hz := two_ends hBwW ((bkW.block (w.heap.size + 1 + 1) (by omega)).trans X2.out : Boxed W (w.heap.size + 1 + 1) _ _) ((bkW.block (w.heap.size + 1 + 1 + 1) (by omega)).trans X3.out : Boxed W (w.heap.size + 1 + 1 + 1) _ _) (by omega) (by omega) (by omega) (.slice none 0 0) (.int .i64 4)
            have bz2 : Boxed W (w.heap.size + 1 + 1) 25 (.slice none 0 0) := (bkW.block (w.heap.size + 1 + 1) (by omega)).trans X2.out
            have bz3 : Boxed W (w.heap.size + 1 + 1 + 1) 28 (.int .i64 0) := (bkW.block (w.heap.size + 1 + 1 + 1) (by omega)).trans X3.out
            have g1 := Boxed.setOther (bz2.set (.slice none 0 0)) (p := ⟨w.heap.size + 1 + 1 + 1, 0, none⟩) (by show w.heap.size + 1 + 1 ≠ w.heap.size + 1 + 1 + 1; omega) (.int .i64 4)
            have g2 := Boxed.set (.int .i64 4) (Boxed.setOther bz3 (p := ⟨w.heap.size + 1 + 1, 0, none⟩) (by show w.heap.size + 1 + 1 + 1 ≠ w.heap.size + 1 + 1; omega) (.slice none 0 0))
            have g3 := ((hB.add (Y := (w.heap.size + 1 + 1) :: (w.heap.size + 1 + 1 + 1) :: ob :: Xs) (fun x hx => List.mem_cons_of_mem _ (List.mem_cons_of_mem _ hx))).setCell (p := ⟨w.heap.size + 1 + 1, 0, none⟩) (.inr (by simp)) (.slice none 0 0)).setCell (p := ⟨w.heap.size + 1 + 1 + 1, 0, none⟩) (.inr (by simp)) (.int .i64 4)
            have G1 := hide g1
            have G2 := hide g2
            have G3 := hide g3
            obtain ⟨_, _, _, z4, z5, z6, z7⟩ := hz
            clear g1 g2 g3 hls hcs hq bz2 bz3
            by_cases h8 : 8 < x.n + y.n
            · have q8 : (8 : Int) < (x.n : Int) + (y.n : Int) := by omega
              have HL := hide (show limP ALL = true from limP_pre (by rw [hls']; simp [h8]) HPRE.out)
              clear hO hB hlm hls' h8 i1 i2 i3 i4 hll hl4 hrowy hoy hyin bkW hBwW
              gi_wp2
              exact ⟨((KeepsOthers.setCell _ _ _).trans (KeepsOthers.setCell _ _ _)).from _, rfl, HL.out, G1.out, G2.out, G3.out⟩
            · have q8 : ¬ (8 : Int) < (x.n : Int) + (y.n : Int) := by omega
              by_cases h4 : l'.length = 400
              · have q4 : (l'.length : Int) = 400 := by omega
                have HL := hide (show limP ALL = true from limP_pre (by rw [hls']; simp [h4]) HPRE.out)
                clear q4 hO hB hlm hls' h8 i1 i2 i3 i4 hll hl4 hrowy hoy hyin bkW hBwW
                rw [h4] at m6
                gi_wp2
                exact ⟨((KeepsOthers.setCell _ _ _).trans (KeepsOthers.setCell _ _ _)).from _, rfl, HL.out, G1.out, G2.out, G3.out⟩
              · have q4 : ¬ (l'.length : Int) = 400 := by omega
                have q5 : ((l'.length : Int) == 400) = false := by simpa using q4
                have HL := hide (show limP (cs ++ [(max x.t y.t, x.r ++ y.r)]) = false from by rw [hls']; simp [h8, h4])
                have HLL := hide hll
                clear hls' z4 z5 z6 z7 G1 G2 G3 hlm hll
                gi_wp2_with fail
                obtain ⟨xb, hxb⟩ : ∃ xb, wr.heap.size = xb := ⟨_, rfl⟩
                rw [hxb] at hkx m0 m1 ⊢
                have hxbo : ob + 1 ≤ xb := by omega
                have hxbp : xb < pb := by omega
                have hpW := hB.size
                obtain ⟨mx, hmx⟩ : ∃ mx, max x.t y.t = mx := ⟨_, rfl⟩
                have hrowx : RowK W w.heap.size x.A x.n x.r := (PC.out.rows x hxin).below hBwW
                rw [hmx] at HE HL
                refine Held.beginR (fun z => z.cell? ⟨ob, 0, none⟩ = some (.slice Av l'.length cv) ∧ z.cell? ⟨xb, 0, none⟩ = some (.int .i64 x.t) ∧ z.cell? ⟨xb, 1, none⟩ = some (.slice x.A x.n x.c) ∧ z.cell? ⟨yb, 0, none⟩ = some (.int .i64 y.t) ∧ z.cell? ⟨yb, 1, none⟩ = some (.slice y.A y.n y.c)) 15 (by kernel_rfl) (by kernel_rfl) (by rintro ⟨_, _, h⟩; exact h) ?_
                have j1 : Boxed W.drew ob 25 (.slice Av l'.length cv) := i1
                have j2 : W.drew.ownsRow (ob + 1) 36 2 (.slice Av l'.length cv) l'.length (l'.flatMap encEv) := i2.drew
                have j4 : RowsE W.drew w.heap.size l' := i4.below ((Below.refl _ _).drew)
                have j5 : Blk W.drew xb 36 #[.int .i64 x.t, .slice x.A x.n x.c] := hkx
                have j6 : Blk W.drew yb 36 #[.int .i64 y.t, .slice y.A y.n y.c] := hby
                have j7 : RowK W.drew w.heap.size x.A x.n x.r := hrowx.below ((Below.refl _ _).drew)
                have j8 : RowK W.drew w.heap.size y.A y.n y.r := hrowy.below ((Below.refl _ _).drew)
                have jK : KeepsOthers W W.drew := KeepsOthers.drew W
                have jR : Bar (pb + 3) (ob :: Xs) W W.drew := (Bar.refl _ _ W).drew
                have hS : W.drew.cell? ⟨ob, 0, none⟩ = some (.slice Av l'.length cv) ∧ W.drew.cell? ⟨xb, 0, none⟩ = some (.int .i64 x.t) ∧ W.drew.cell? ⟨xb, 1, none⟩ = some (.slice x.A x.n x.c) ∧ W.drew.cell? ⟨yb, 0, none⟩ = some (.int .i64 y.t) ∧ W.drew.cell? ⟨yb, 1, none⟩ = some (.slice y.A y.n y.c) := ⟨m6, m0, m1, m2, m3⟩
                have hWs' : pb + 3 ≤ W.drew.heap.size := by show pb + 3 ≤ W.heap.size; omega
                obtain ⟨X1, hX1⟩ : ∃ X1, W.drew = X1 := ⟨_, rfl⟩
                rw [hX1] at j1 j2 j4 j5 j6 j7 j8 jK jR hS hWs' ⊢
                have hwX : w.heap.size ≤ X1.heap.size := by omega
                have HDE2 := hide i3
                have HL4 := hide h4
                clear hX1 i1 i2 i3 i4 m0 m1 m2 m3 m4 m5 m6 hkx hby hO hB bkW hBwW hrowy hrowx hoy hyin h8 q8 h4 q4 q5 hl4
                refine Held.take (i := 0) (.slice Av l'.length cv) rfl hS (by kernel_rfl) (by kernel_rfl) (by kernel_rfl) (by kernel_rfl) (fun _ _ _ h => h) rfl (fun y hy => by obtain ⟨x1, x2, x3, x4, x5⟩ := hy; go_simp) ?_
                try simp only [Act.put]
                refine Held.take (i := 1) (.pointer (some ⟨xb, 0, none⟩)) rfl hS (by kernel_rfl) (by kernel_rfl) (by kernel_rfl) (by kernel_rfl) (fun _ _ _ h => h) rfl (fun y hy => by obtain ⟨x1, x2, x3, x4, x5⟩ := hy; go_simp) ?_
                try simp only [Act.put]
                refine Held.take (i := 2) (.int .i64 x.t) rfl hS (by kernel_rfl) (by kernel_rfl) (by kernel_rfl) (by kernel_rfl) (fun _ _ _ h => h) rfl (fun y hy => by obtain ⟨x1, x2, x3, x4, x5⟩ := hy; go_simp) ?_
                try simp only [Act.put]
                refine Held.take (i := 3) (.pointer (some ⟨yb, 0, none⟩)) rfl hS (by kernel_rfl) (by kernel_rfl) (by kernel_rfl) (by kernel_rfl) (fun _ _ _ h => h) rfl (fun y hy => by obtain ⟨x1, x2, x3, x4, x5⟩ := hy; go_simp) ?_
                try simp only [Act.put]
                refine Held.take (i := 4) (.int .i64 y.t) rfl hS (by kernel_rfl) (by kernel_rfl) (by kernel_rfl) (by kernel_rfl) (fun _ _ _ h => h) rfl (fun y hy => by obtain ⟨x1, x2, x3, x4, x5⟩ := hy; go_simp) ?_
                try simp only [Act.put]
                refine Held.take (i := 5) (.int .i64 mx) rfl hS (by kernel_rfl) (by kernel_rfl) (by kernel_rfl) (by kernel_rfl) (fun _ _ _ h => h) rfl (fun y hy => by obtain ⟨x1, x2, x3, x4, x5⟩ := hy; go_simp) ?_
                try simp only [Act.put]
                refine Held.take (i := 6) (.pointer (some ⟨xb, 1, none⟩)) rfl hS (by kernel_rfl) (by kernel_rfl) (by kernel_rfl) (by kernel_rfl) (fun _ _ _ h => h) rfl (fun y hy => by obtain ⟨x1, x2, x3, x4, x5⟩ := hy; go_simp) ?_
                try simp only [Act.put]
                refine Held.take (i := 7) (.slice x.A x.n x.c) rfl hS (by kernel_rfl) (by kernel_rfl) (by kernel_rfl) (by kernel_rfl) (fun _ _ _ h => h) rfl (fun y hy => by obtain ⟨x1, x2, x3, x4, x5⟩ := hy; go_simp) ?_
                try simp only [Act.put]
                refine Held.take (i := 8) (.pointer (some ⟨yb, 1, none⟩)) rfl hS (by kernel_rfl) (by kernel_rfl) (by kernel_rfl) (by kernel_rfl) (fun _ _ _ h => h) rfl (fun y hy => by obtain ⟨x1, x2, x3, x4, x5⟩ := hy; go_simp) ?_
                try simp only [Act.put]
                refine Held.take (i := 9) (.slice y.A y.n y.c) rfl hS (by kernel_rfl) (by kernel_rfl) (by kernel_rfl) (by kernel_rfl) (fun _ _ _ h => h) rfl (fun y hy => by obtain ⟨x1, x2, x3, x4, x5⟩ := hy; go_simp) ?_
                try simp only [Act.put]
                refine Held.one (i := 10) rfl (by kernel_rfl) rfl (fun K hK => ?_)
                have hba := below_val (w := X1) #[.slice x.A x.n x.c, .slice y.A y.n y.c] 34
                have kr := Blk.new X1 34 #[.slice x.A x.n x.c, .slice y.A y.n y.c]
                unfold Oper.wp
                go_simp
                obtain ⟨X2, hX2⟩ : ∃ X2, X1.alloc (.cells #[.slice x.A x.n x.c, .slice y.A y.n y.c] 34) = X2 := ⟨_, rfl⟩
                rw [hX2] at hba kr ⊢
                have l1 : Boxed X2 ob 25 (.slice Av l'.length cv) := (hba.block ob j1.lt).trans j1
                have l2 := own_below j2 hba
                have l4 := j4.below hba
                have l5 : Blk X2 xb 36 #[.int .i64 x.t, .slice x.A x.n x.c] := (hba.block xb j5.lt).trans j5
                have l6 : Blk X2 yb 36 #[.int .i64 y.t, .slice y.A y.n y.c] := (hba.block yb j6.lt).trans j6
                have l7 := j7.below hba
                have l8 := j8.below hba
                have lK := jK.trans (others_below hba)
                have lR := jR.trans (Bar.of_below (hba.mono hWs') (ob :: Xs))
                have hS2 : X2.cell? ⟨ob, 0, none⟩ = some (.slice Av l'.length cv) ∧ X2.cell? ⟨xb, 0, none⟩ = some (.int .i64 x.t) ∧ X2.cell? ⟨xb, 1, none⟩ = some (.slice x.A x.n x.c) ∧ X2.cell? ⟨yb, 0, none⟩ = some (.int .i64 y.t) ∧ X2.cell? ⟨yb, 1, none⟩ = some (.slice y.A y.n y.c) := ⟨l1.cell, by simpa using l5.cell 0, by simpa using l5.cell 1, by simpa using l6.cell 0, by simpa using l6.cell 1⟩
                have hs2' := hba.size
                have hX2s : X2.heap.size = X1.heap.size + 1 := by rw [← hX2, World.size_alloc]
                refine hK _ _ (fun _ => hS2) ?_
                try simp only [Act.put]
                clear hK K hS hX2 hba j1 j2 j4 j5 j6 j7 j8 jK jR
                refine Held.one (i := 11) rfl (by kernel_rfl) rfl (fun K hK => ?_)
                unfold Oper.wp
                go_simp
                have hrd2 : Reads X2 X2.heap.size 1 (some ⟨X1.heap.size, 0, none⟩) 2 [.slice x.A x.n x.c, .slice y.A y.n y.c] := ⟨rfl, fun _ => ⟨X1.heap.size, 0, rfl, by omega, fun j u hu => by rw [Nat.zero_add, kr.cell j]; simpa using hu⟩⟩
                refine (ConcatV_any (some ⟨X1.heap.size, 0, none⟩) 2 2 [⟨x.A, x.n, x.c, x.r⟩, ⟨y.A, y.n, y.c, y.r⟩] X2 ⟨hrd2, fun r hr => by
                  rcases List.mem_cons.1 hr with rfl | hr
                  · exact (l7.mono (by omega)).rd
                  · obtain rfl : r = ⟨y.A, y.n, y.c, y.r⟩ := by simpa using hr
                    exact (l8.mono (by omega)).rd⟩ (by omega) (fun r hr => by
                  rcases List.mem_cons.1 hr with rfl | hr
                  · show x.n ≤ 60; omega
                  · obtain rfl : r = ⟨y.A, y.n, y.c, y.r⟩ := by simpa using hr
                    show y.n ≤ 60; omega)).mono ?_
                have hlv : lenV [⟨x.A, x.n, x.c, x.r⟩, ⟨y.A, y.n, y.c, y.r⟩] = x.n + y.n := by simp [lenV]
                have hav : allV [⟨x.A, x.n, x.c, x.r⟩, ⟨y.A, y.n, y.c, y.r⟩] = x.r ++ y.r := by simp [allV]
                rw [hlv, hav]
                clear hlv hav hrd2 kr
                rintro e X3 ⟨Ac, cc, rfl, hown3, hb3⟩
                have hrow3 : RowK X3 w.heap.size Ac (x.n + y.n) (x.r ++ y.r) := RowK.of_own hown3 (by omega)
                obtain ⟨mm, hmm⟩ : ∃ mm, x.n + y.n = mm := ⟨_, rfl⟩
                rw [hmm] at hrow3
                rw [hmm]
                have o1 : Boxed X3 ob 25 (.slice Av l'.length cv) := (hb3.block ob l1.lt).trans l1
                have o2 := own_below l2 hb3
                have o4 := l4.below hb3
                have o5 : Blk X3 xb 36 #[.int .i64 x.t, .slice x.A x.n x.c] := (hb3.block xb l5.lt).trans l5
                have o6 : Blk X3 yb 36 #[.int .i64 y.t, .slice y.A y.n y.c] := (hb3.block yb l6.lt).trans l6
                have oK := lK.trans (others_below hb3)
                have oR := lR.trans (Bar.of_below (hb3.mono (by omega)) (ob :: Xs))
                have hS : X3.cell? ⟨ob, 0, none⟩ = some (.slice Av l'.length cv) ∧ X3.cell? ⟨xb, 0, none⟩ = some (.int .i64 x.t) ∧ X3.cell? ⟨xb, 1, none⟩ = some (.slice x.A x.n x.c) ∧ X3.cell? ⟨yb, 0, none⟩ = some (.int .i64 y.t) ∧ X3.cell? ⟨yb, 1, none⟩ = some (.slice y.A y.n y.c) := ⟨o1.cell, by simpa using o5.cell 0, by simpa using o5.cell 1, by simpa using o6.cell 0, by simpa using o6.cell 1⟩
                have hs3' := hb3.size
                refine hK _ _ (fun _ => hS) ?_
                try simp only [Act.put]
                clear hK K hS2 hb3 l1 l2 l4 l5 l6 l7 l8 lK lR hown3 hmm
                have hX3s : pb + 3 ≤ X3.heap.size := by omega
                clear hX2s hs2' hs3' hwX
                refine Held.take (i := 12) (.agg #[.int .i64 mx, .slice Ac mm cc]) rfl hS (by kernel_rfl) (by kernel_rfl) (by kernel_rfl) (by kernel_rfl) (fun _ _ _ h => h) rfl (fun y hy => by obtain ⟨x1, x2, x3, x4, x5⟩ := hy; go_simp) ?_
                try simp only [Act.put]
                refine Held.one (i := 13) rfl (by kernel_rfl) rfl (fun K hK => ?_)
                have hbb4 := below_val (w := X3) #[.int .i64 mx, .slice Ac mm cc] 36
                have hS4 : (X3.alloc (.cells #[.int .i64 mx, .slice Ac mm cc] 36)).cell? ⟨ob, 0, none⟩ = some (.slice Av l'.length cv) ∧ (X3.alloc (.cells #[.int .i64 mx, .slice Ac mm cc] 36)).cell? ⟨xb, 0, none⟩ = some (.int .i64 x.t) ∧ (X3.alloc (.cells #[.int .i64 mx, .slice Ac mm cc] 36)).cell? ⟨xb, 1, none⟩ = some (.slice x.A x.n x.c) ∧ (X3.alloc (.cells #[.int .i64 mx, .slice Ac mm cc] 36)).cell? ⟨yb, 0, none⟩ = some (.int .i64 y.t) ∧ (X3.alloc (.cells #[.int .i64 mx, .slice Ac mm cc] 36)).cell? ⟨yb, 1, none⟩ = some (.slice y.A y.n y.c) :=
                  ⟨((hbb4.block ob o1.lt).trans o1 : Boxed _ ob _ _) |> Boxed.cell, by simpa using (((hbb4.block xb o5.lt).trans o5 : Blk _ xb _ _) |> Blk.cell) 0, by simpa using (((hbb4.block xb o5.lt).trans o5 : Blk _ xb _ _) |> Blk.cell) 1, by simpa using (((hbb4.block yb o6.lt).trans o6 : Blk _ yb _ _) |> Blk.cell) 0, by simpa using (((hbb4.block yb o6.lt).trans o6 : Blk _ yb _ _) |> Blk.cell) 1⟩
                have HS4 := hide hS4
                clear hS4 hbb4
                unfold Oper.wp
                go_simp
                refine hK _ _ (fun _ => HS4.out) ?_
                try simp only [Act.put]
                clear hK K hS HS4
                refine Held.one (i := 14) rfl (by kernel_rfl) rfl (fun K hK => ?_)
                have hrd : Reads (X3.alloc (.cells #[.int .i64 mx, .slice Ac mm cc] 36)) (X3.heap.size + 1) 2 (some ⟨X3.heap.size, 0, none⟩) 1 [.int .i64 mx, .slice Ac mm cc] :=
                  ⟨rfl, fun _ => ⟨X3.heap.size, 0, rfl, by omega, fun j u hu => by
                    have := (Blk.new X3 36 #[.int .i64 mx, .slice Ac mm cc]).cell j
                    rw [Nat.zero_add, this]; simpa using hu⟩⟩
                have hl5 : l'.length ≤ 400 := by
                  have h1 := HLW.out
                  rw [← HDE2.out] at h1
                  unfold limP at h1
                  rw [Bool.or_eq_false_iff] at h1
                  have h2 := h1.2
                  rw [decide_eq_false_iff_not, dE_len] at h2
                  omega
                refine wp_append_any _ _ _ 25 rfl (ob + 1) 36 i0 _ 2 32 Tryz.underlying25 hi0 hz0 hz1 hz2 rfl (by decide) (.slice Av l'.length cv) l'.length _ rfl (o2.alloc _) (X3.heap.size + 1) (some ⟨X3.heap.size, 0, none⟩) 1 1 [.int .i64 mx, .slice Ac mm cc] rfl hrd (by simp [Value.oneCell']) (by unfold maxLen; omega) (by omega) (by simp; omega) ?_
                intro v' X4 hown1 hgrow hvo
                obtain ⟨gr, capr, hvr⟩ := ownsRow_succ hown1
                subst hvr
                obtain ⟨s1, s2, s3, s4, s5⟩ := Boxed.collected o1 o2 (by omega) (by omega) hown1 hgrow
                have nrow : ∀ {A : Option Addr} {n : Nat} {r : Rw}, RowK X3 w.heap.size A n r → RowK (X4.setCell ⟨ob, 0, none⟩ (.slice (some ⟨gr, 0, none⟩) (l'.length + 1) capr)) w.heap.size A n r := fun h =>
                  ((h.alloc _).grown (o2.alloc _) (by decide) (by omega) hgrow).setCell (p := ⟨ob, 0, none⟩) s1 (by decide) (by show w.heap.size ≤ ob; omega) _
                have hS5 : X4.cell? ⟨ob, 0, none⟩ = some (.slice Av l'.length cv) := s1.cell
                have hnx : some xb ≠ (Value.slice Av l'.length cv).ownBlock := fun e => by
                  rcases HI5.out xb e.symm with h | h
                  · have := (HXI.out xb h).2.1; omega
                  · omega
                have hny : some yb ≠ (Value.slice Av l'.length cv).ownBlock := fun e => HVY.out e.symm
                have c5 : Blk X4 xb 36 #[.int .i64 x.t, .slice x.A x.n x.c] := (o5.alloc _).grown hgrow hnx
                have c6 : Blk X4 yb 36 #[.int .i64 y.t, .slice y.A y.n y.c] := (o6.alloc _).grown hgrow hny
                have oF : Bar (pb + 3) (ob :: Xs) W (X4.setCell ⟨ob, 0, none⟩ (.slice (some ⟨gr, 0, none⟩) (l'.length + 1) capr)) :=
                  ((oR.alloc (by omega) _).grown hgrow (by rw [World.size_alloc]; omega) (fun k e => by
                    rcases HI5.out k e with h | h
                    · exact .inr (List.mem_cons_of_mem _ h)
                    · exact .inl h)).setCell (p := ⟨ob, 0, none⟩) (.inr (by simp)) _
                have HNEW := hide (show ∀ g, (Value.slice (some ⟨gr, 0, none⟩) (l'.length + 1) capr).ownBlock = some g → g ∈ Xs ∨ pb + 3 ≤ g from fun g hg => by
                  rcases hvo with h | h
                  · exact HI5.out g (h.symm.trans hg)
                  · rw [h] at hg
                    injection hg with hg
                    rw [World.size_alloc] at hg
                    right; omega)
                refine hK _ _ (fun _ => ⟨hS5, by simpa using c5.cell 0, by simpa using c5.cell 1, by simpa using c6.cell 0, by simpa using c6.cell 1⟩) ?_
                try simp only [Act.put]
                have fo := s1.frozen
                have ko := s1.cell
                have HFIN := hide (show KeepsFrom W3.heap.size W (X4.setCell ⟨ob, 0, none⟩ (.slice (some ⟨gr, 0, none⟩) (l'.length + 1) capr)) ∧ Bar (pb + 3) (ob :: Xs) W (X4.setCell ⟨ob, 0, none⟩ (.slice (some ⟨gr, 0, none⟩) (l'.length + 1) capr)) ∧ OutF w.heap.size ob Xs (pb + 3) (cs ++ [(mx, x.r ++ y.r)]) (X4.setCell ⟨ob, 0, none⟩ (.slice (some ⟨gr, 0, none⟩) (l'.length + 1) capr)) ∧ limP (cs ++ [(mx, x.r ++ y.r)]) = false ∧ Bar (pb + 3) (ob :: Xs) W3 (X4.setCell ⟨ob, 0, none⟩ (.slice (some ⟨gr, 0, none⟩) (l'.length + 1) capr)) from by
                  refine ⟨(oK.trans s4).from _, oF, ⟨_, l' ++ [⟨mx, Ac, mm, cc, x.r ++ y.r⟩], s2, ?_, ?_, ?_, HNEW.out⟩, HL.out, HBB.out.trans oF⟩
                  · rw [List.flatMap_append, List.length_append]
                    exact s3
                  · rw [dE_snoc, HDE2.out]
                  · intro i hi
                    rcases List.mem_append.1 hi with hi | hi
                    · exact nrow (o4 i hi)
                    · obtain rfl : i = ⟨mx, Ac, mm, cc, x.r ++ y.r⟩ := by simpa using hi
                      exact nrow hrow3)
                clear hK K s1 s2 s3 s4 s5 nrow hown1 hgrow hvo c5 c6 oF o1 o2 o4 o5 o6 oK oR hnx hny hrow3 hrd hS5 hl5
                refine Held.one (i := 15) rfl (by kernel_rfl) rfl (fun K hK => ?_)
                unfold Oper.wp
                go_simp
                refine hK _ _ (fun h => absurd rfl h) ?_
                try simp only [Act.put]
                clear hK K
                refine Held.done (by kernel_rfl) ?_
                clear fo ko
                gi_wp2
                obtain ⟨f1, f2, f3, f4, f5⟩ := HFIN.out
                rw [← HE.out] at f3 f4
                exact ⟨f1, f2, f3, f4, f5⟩
        case done =>
          rintro D W hD ⟨hO, hlm, hB⟩ hK
          have hWD := (Array.getElem?_eq_some_iff.1 hK).1
          have HNEXT := hide (show pairsI on others lo hi (dE (ll.take (k + 1))) (dE lr) = pairsI on others lo hi (dE (ll.take k)) (dE lr) ++ pairsF lo hi (x.t, x.r) (dE (lr.filter (mtE others key))) from by
            rw [take_snoc' HX.out, dE_snoc (ll.take k) x, pairsI_snoc, HPP.out])
          have hmk : Marks (ob + 1) wr.heap.size ds W := HMK3.out.bars hB (by omega) (fun x hx => by
            rcases List.mem_cons.1 hx with e | e
            · subst e; exact HOB.out
            · exact (HXI.out x e).2.2)
          have HG := hide (show Marks (ob + 1) W.heap.size ({ target := .collected D, args := #[] } :: ds) W ∧ OutE w.heap.size ob (pairsI on others lo hi (dE (ll.take (k + 1))) (dE lr)) W ∧ limP (pairsI on others lo hi (dE (ll.take (k + 1))) (dE lr)) = false ∧ Bar (ob + 1) [ob] W8 W from
            ⟨⟨D, rfl, by omega, hWD, hK, hmk.mono (by omega)⟩, by rw [HNEXT.out]; exact hO.toE, by rw [HNEXT.out]; exact hlm, HBAR3.out.trans (hB.drop (by omega) (fun g hg => (HXI.out g hg).1))⟩)
          clear hO hlm hB hK hmk
          gi_wp2
          exact ⟨⟨k + 1, _, FrI.mk _ _ _ _ _ _ _ _ _ _ _ _ _ _ _ _ _ rfl, by omega, HG.out⟩, by simp [intOf]; omega⟩
        case stop =>
          rintro D c pre W hD hpre ⟨rfl, hla, bz2, bz3, hB⟩ hK
          have hWD := (Array.getElem?_eq_some_iff.1 hK).1
          have hmk : Marks (ob + 1) wr.heap.size ds W := HMK3.out.bars hB (by omega) (fun x hx => by
            rcases List.mem_cons.1 hx with e | hx
            · subst e; exact ⟨_, (HBK3.out.block (w.heap.size + 1 + 1) (by omega)).trans X2.out, rfl⟩
            rcases List.mem_cons.1 hx with e | hx
            · subst e; exact ⟨_, (HBK3.out.block (w.heap.size + 1 + 1 + 1) (by omega)).trans X3.out, rfl⟩
            rcases List.mem_cons.1 hx with e | e
            · subst e; exact HOB.out
            · exact (HXI.out x e).2.2)
          have HG := hide (show Marks (ob + 1) W.heap.size ({ target := .collected D, args := #[] } :: ds) W from ⟨D, rfl, by omega, hWD, hK, hmk.mono (by omega)⟩)
          have HBL := hide (show Below w.heap.size w W from HBW3.out.trans (hB.below (by omega) (fun x hx => by
            rcases List.mem_cons.1 hx with e | hx
            · omega
            rcases List.mem_cons.1 hx with e | hx
            · omega
            have := HXB.out x hx; omega)))
          have B2 := hide bz2
          have B3 := hide bz3
          have HLA := hide hla
          clear bz2 bz3 hB hK hmk hla
          gi_wp2
          refine leaves_marks HG.out fun W' hl => ?_
          refine ⟨_, res_cells rfl rfl rfl (Boxed.cell ((hl.low (w.heap.size + 1 + 1) (by omega)).trans B2.out : Boxed W' _ 25 (.slice none 0 0))) (Boxed.cell ((hl.low (w.heap.size + 1 + 1 + 1) (by omega)).trans B3.out : Boxed W' _ 28 (.int .i64 4))) (by intro w; go_simp) (by intro w; go_simp), ?_⟩
          rw [show p = ([], 4) from by rw [HP.out, HLA.out, if_pos rfl]]
          exact EvE_bad (below_left hl HBL.out (by omega)) 4
      · have hnn' : nonul (pick x.r on) = false := by simpa using hnn
        rw [hnn']
        have HNEXT := hide (show pairsI on others lo hi (dE (ll.take (k + 1))) (dE lr) = pairsI on others lo hi (dE (ll.take k)) (dE lr) from by
          rw [take_snoc' HX.out, dE_snoc (ll.take k) x, pairsI_snoc, pairs_null (x := (x.t, x.r)) hnn', List.append_nil])
        have HG := hide (show Marks (ob + 1) W2.heap.size ds W2 ∧ OutE w.heap.size ob (pairsI on others lo hi (dE (ll.take (k + 1))) (dE lr)) W2 ∧ limP (pairsI on others lo hi (dE (ll.take (k + 1))) (dE lr)) = false ∧ Bar (ob + 1) [ob] W8 W2 from
          ⟨(HMK.out.up hB2).mono hB2.size, by rw [HNEXT.out]; exact HST.out.below hB2, by rw [HNEXT.out]; exact HLM.out, HBAR.out.trans (Bar.of_below (hB2.mono (by omega)) _)⟩)
        clear hnn hB2 hBw2 kx2
        gi_wp2
        exact ⟨⟨k + 1, _, FrI.mk _ _ _ _ _ _ _ _ _ _ _ _ _ _ _ _ _ rfl, by omega, HG.out⟩, by simp [intOf]; omega⟩
    · obtain rfl : k = n3 := by omega
      rw [take_all HL3.out, HALL.out] at HST HLM
      obtain ⟨v, l, i1, i2, i3, i4⟩ := HST.out.ow
      obtain ⟨Av, cv, rfl, _⟩ := own_form i2
      have hcap := own_cap i2
      have hl5 : l.length ≤ 400 := by
        have h1 := HLM.out
        rw [← i3] at h1
        unfold limP at h1
        rw [Bool.or_eq_false_iff] at h1
        have h2 := h1.2
        rw [decide_eq_false_iff_not, dE_len] at h2
        omega
      have HS := hide ((callsIn_wide (n := 3)).2 (SortE_any (ob + 1) l.length (.slice Av l.length cv) l wr i2 (by omega) 71 #[] (enters_of Tryz.func71 (by kernel_rfl) rfl) (fun x y => cmpE (x.t, x.r) (y.t, y.r)) (swo_tot (Tot.te.comap fun x : Ev => (x.t, x.r)))
        (fun x y W hx hy hb => compare_g x y W ((i4.bar i2 (by decide) (by omega) hb x hx).mono (by have := hb.size; omega)) ((i4.bar i2 (by decide) (by omega) hb y hy).mono (by have := hb.size; omega)))))
      have hof := off_own i2 (B := ob + 1) (by decide) (Nat.le_refl _)
      have hoc : ∀ g ∈ obl (.slice Av l.length cv), ∃ o : Obj, wr.heap[g]? = some o ∧ o.isCells = true := fun g hg => by
        obtain ⟨c, fz, h2⟩ := own_cells i2 (g := g) (by unfold obl at hg; simpa using hg)
        exact ⟨_, h2, rfl⟩
      have m6 := i1.cell
      have I1 := hide i1
      have I4 := hide i4
      have HOF := hide hof
      have HOC := hide hoc
      have HI3 := hide i3
      clear i1 i2 i3 i4 hof hoc
      gi_wp2_with fail
      refine HS.out.mono ?_
      rintro e W1 ⟨rfl, l', A', n', c', hv, hperm, hpw, hrd, hb1⟩
      injection hv with hv1 hv2 hv3
      subst hv1 hv2 hv3
      clear m6
      have hn1 : ob ∉ obl (.slice Av l.length cv) := fun h => by have := (HOF.out ob h).1; omega
      have p1 : Boxed W1 ob 25 (.slice Av l.length cv) := (hb1.block ob I1.out.lt hn1).trans I1.out
      have m7 := p1.cell
      have hBw1 : Below w.heap.size w W1 := hBr.trans (hb1.below hBr.size (fun x hx => by have := (HOF.out x hx).1; omega))
      have bx2 : Boxed wr (w.heap.size + 1 + 1) 25 (.slice none 0 0) := (bkr.block (w.heap.size + 1 + 1) (by omega)).trans X2.out
      have bx3 : Boxed wr (w.heap.size + 1 + 1 + 1) 28 (.int .i64 0) := (bkr.block (w.heap.size + 1 + 1 + 1) (by omega)).trans X3.out
      have by2 : Boxed W1 (w.heap.size + 1 + 1) 25 (.slice none 0 0) := (hb1.block _ bx2.lt (fun h => by have := (HOF.out _ h).1; omega)).trans bx2
      have by3 : Boxed W1 (w.heap.size + 1 + 1 + 1) 28 (.int .i64 0) := (hb1.block _ bx3.lt (fun h => by have := (HOF.out _ h).1; omega)).trans bx3
      obtain ⟨z1, z2, z3, z4, z5, z6, z7⟩ := two_ends hBw1 by2 by3 (by omega) (by omega) (by omega) (.slice Av l.length cv) (.int .i64 0)
      have hbF : Bar wr.heap.size ((w.heap.size + 1 + 1) :: (w.heap.size + 1 + 1 + 1) :: obl (.slice Av l.length cv)) wr ((W1.setCell ⟨w.heap.size + 1 + 1, 0, none⟩ (.slice Av l.length cv)).setCell ⟨w.heap.size + 1 + 1 + 1, 0, none⟩ (.int .i64 0)) :=
        ((hb1.add (fun x hx => List.mem_cons_of_mem _ (List.mem_cons_of_mem _ hx))).setCell (p := ⟨w.heap.size + 1 + 1, 0, none⟩) (.inr (by simp)) _).setCell (p := ⟨w.heap.size + 1 + 1 + 1, 0, none⟩) (.inr (by simp)) _
      have hb2 : Bar W1.heap.size [w.heap.size + 1 + 1, w.heap.size + 1 + 1 + 1] W1 ((W1.setCell ⟨w.heap.size + 1 + 1, 0, none⟩ (.slice Av l.length cv)).setCell ⟨w.heap.size + 1 + 1 + 1, 0, none⟩ (.int .i64 0)) :=
        ((Bar.refl _ _ W1).setCell (p := ⟨w.heap.size + 1 + 1, 0, none⟩) (.inr (by simp)) _).setCell (p := ⟨w.heap.size + 1 + 1 + 1, 0, none⟩) (.inr (by simp)) _
      have Z1 := hide z1
      have Z2 := hide z2
      have Z3 := hide z3
      have HM := hide ((HMK.out.bars hbF (Nat.le_refl _) (fun x hx => by
        rcases List.mem_cons.1 hx with e | hx
        · subst e; exact ⟨_, bx2, rfl⟩
        rcases List.mem_cons.1 hx with e | hx
        · subst e; exact ⟨_, bx3, rfl⟩
        exact HOC.out x hx)).mono hbF.size)
      have HRD := hide (Reads.bar2 hrd hb2 (fun h0 b o e => by
        intro hx
        have h9 : b ∈ obl (.slice Av l.length cv) := by subst e; simp [obl, Value.ownBlock]
        have := (HOF.out b h9).1
        simp at hx
        omega))
      have HRW := hide (show RowsE ((W1.setCell ⟨w.heap.size + 1 + 1, 0, none⟩ (.slice Av l.length cv)).setCell ⟨w.heap.size + 1 + 1 + 1, 0, none⟩ (.int .i64 0)) w.heap.size l' from fun i hi =>
        (I4.out i (hperm.mem_iff.1 hi)).keep (p := fun k => k ∈ (w.heap.size + 1 + 1) :: (w.heap.size + 1 + 1 + 1) :: obl (.slice Av l.length cv)) (fun k hk hp => hbF.block k hk hp) hbF.size fun k hk => by
          rcases List.mem_cons.1 hk with e | hk
          · subst e
            exact ⟨by omega, fun c fz hc => by rw [show wr.heap[w.heap.size + 1 + 1]? = _ from bx2] at hc; cases hc⟩
          rcases List.mem_cons.1 hk with e | hk
          · subst e
            exact ⟨by omega, fun c fz hc => by rw [show wr.heap[w.heap.size + 1 + 1 + 1]? = _ from bx3] at hc; cases hc⟩
          exact ⟨by have := (HOF.out k hk).1; omega, (HOF.out k hk).2⟩)
      have HSZ := hide (show w.heap.size ≤ ((W1.setCell ⟨w.heap.size + 1 + 1, 0, none⟩ (.slice Av l.length cv)).setCell ⟨w.heap.size + 1 + 1 + 1, 0, none⟩ (.int .i64 0)).heap.size from Nat.le_trans hBr.size hbF.size)
      have HDL := hide (show dE l' = srtG cmpE ALL from by
        rw [← HI3.out]
        refine srtG_eq Tot.te (hperm.map _) ?_ (by unfold dE; rw [List.pairwise_map]; exact hpw)
        rw [HI3.out, ← HALL.out]
        have hokp := pairs_ok (fun x hx => by obtain ⟨z, hz, rfl⟩ := List.mem_map.1 hx; exact okE_row (HOKL.out z hz)) (fun x hx => by obtain ⟨z, hz, rfl⟩ := List.mem_map.1 hx; exact okE_row (HOKR.out z hz)) (on := on) (others := others) (lo := lo) (hi := hi) (l := dE ll) (r := dE lr) (by rw [HALL.out]; exact HLM.out)
        exact fun x hx y hy h => cmpE_eq (hokp x hx) (hokp y hy) h)
      clear z1 z2 z3 hb2 hbF bx2 bx3 by2 by3 hBw1 p1 hrd hpw hperm hb1
      gi_wp2
      refine leaves_marks HM.out fun W' hl => ?_
      refine ⟨_, res_cells rfl rfl rfl ((World.cell?_of_block (hl.low (w.heap.size + 1 + 1) (by omega))).trans Z1.out) ((World.cell?_of_block (hl.low (w.heap.size + 1 + 1 + 1) (by omega))).trans Z2.out) (by intro w; go_simp) (by intro w; go_simp), ?_⟩
      rw [show p = (srtG cmpE ALL, 0) from by rw [HP.out, HLM.out]; rfl]
      exact ⟨_, _, _, l', rfl, HDL.out, ⟨HRD.out.left hl, HRW.out.left hl HSZ.out, by omega⟩, hcap, below_left hl Z3.out (by omega)⟩
end

end Go.Proofs.YtoapjidpfghnlaaGreatDoor
