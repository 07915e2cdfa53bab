/-
  The walk of pair.newest: the newest version that an event can see. No condition.
-/
import Derived.Test.YtoapjidpfghnlaaGreatDoorOuM
import Derived.Test.YtoapjidpfghnlaaGreatDoorCcV
import Derived.Test.YtoapjidpfghnlaaGreatDoorApl
namespace Go.Proofs.YtoapjidpfghnlaaGreatDoor
open Go.RowKit
attribute [local go_sem] Oper.semAt_some wide_fn wide_depth
set_option linter.unusedVariables false
set_option linter.unusedSimpArgs false

/-- An event, handed back. -/
def RetNw (w : World) (T : Te) (e : Ending) (w' : World) : Prop := ∃ A n c, e = .returned (.agg #[.int .i64 T.1, .slice A n c]) ∧ RowK w' 0 A n T.2 ∧ n ≤ c ∧ Below w.heap.size w w'
theorem run_make_rw (n : Nat) (hn : n ≤ 1000000) (w : World) :
    (Instr.makeSlice 34 (.int .i64 (n : Int)) (.int .i64 (n : Int))).run Tryz.prog w = .ok (.slice (some ⟨w.heap.size, 0, none⟩) n n) (w.alloc (.cells (madeCells #[.int .i64 0, .int .i64 0, .string ByteArray.empty] (n * 3)) 102)) := by
  obtain ⟨i0, hi, hz0, hz1, hz2⟩ := info_parts3 infoVal
  have hr := run_make (P := Tryz.prog) w 34 102 i0 _ Tryz.underlying34 hi hz0 .i64 .i64 n n (by omega) (Int.le_refl _) (by rw [hz2]; omega) (by omega)
  simp only [Int.toNat_natCast, hz1] at hr
  exact hr
theorem made_row (w : World) (n : Nat) (hn : n ≤ 1000000) : RowK (w.alloc (.cells (madeCells #[.int .i64 0, .int .i64 0, .string ByteArray.empty] (n * 3)) 102)) w.heap.size (some ⟨w.heap.size, 0, none⟩) n (nullR n) := by
  have kb := Blk.new w 102 (madeCells #[.int .i64 0, .int .i64 0, .string ByteArray.empty] (n * 3))
  refine ⟨⟨by rw [flat_length (enc := encV) (k := 3) encV_len, nullR_len], fun _ => ⟨w.heap.size, 0, rfl, by simp, fun j u hu => ?_⟩⟩, fun _ b off m e => ?_, by omega⟩
  · rw [Nat.zero_add, kb.cell j]
    have hj : j < n * 3 := by
      have := (List.getElem?_eq_some_iff.1 hu).1
      rwa [flat_length (enc := encV) (k := 3) encV_len, nullR_len] at this
    have hk : (nullR n)[j / 3]? = some nullV := by
      unfold nullR
      rw [List.getElem?_replicate, if_pos (by omega)]
    have hg := flat_get (enc := encV) (k := 3) encV_len (nullR n) (j / 3) (j % 3) _ hk (by omega)
    rw [show j / 3 * 3 + j % 3 = j by omega, hu] at hg
    rw [hg]
    have h3 : j % 3 = 0 ∨ j % 3 = 1 ∨ j % 3 = 2 := by omega
    rcases h3 with h | h | h <;> rw [h] <;> simp [madeCells, hj, h, encV, nullV]
  · injection e with e
    injection e with e1
    subst e1
    exact .inr ⟨_, _, kb⟩
theorem blk_set2 {w : World} {g : Nat} {t : TypeId} {a b : Value} (h : Blk w g t #[a, b]) (u v : Value) : Blk ((w.setCell ⟨g, 0, none⟩ u).setCell ⟨g, 1, none⟩ v) g t #[u, v] := by
  have := (h.set_ 0 u).set_ 1 v
  simpa using this
/-- The newest so far, in memory. -/
structure BestS (lr : List Ev) (e0 : Ev) (bb fb : Nat) (z : Option Te) (W : World) : Prop where
  ow : ∃ (f : Bool) (i : Ev), Boxed W fb 4 (.bool f) ∧ Blk W bb 36 #[.int .i64 i.t, .slice i.A i.n i.c] ∧ (f = false ∧ i = e0 ∧ z = none ∨ f = true ∧ i ∈ lr ∧ z = some (i.t, i.r))
theorem BestS.below {lr : List Ev} {e0 : Ev} {bb fb : Nat} {z : Option Te} {W W' : World} (h : BestS lr e0 bb fb z W) (hb : Below W.heap.size W W') : BestS lr e0 bb fb z W' := by
  obtain ⟨f, i, h1, h2, h3⟩ := h.ow
  exact ⟨f, i, (hb.block _ h1.lt).trans h1, h2.below hb h2.lt, h3⟩
theorem BestS.others {lr : List Ev} {e0 : Ev} {bb fb C : Nat} {z : Option Te} {X Y : World} {row : Option Nat} (h : BestS lr e0 bb fb z X) (hg : X.grownBy Y row) (hr : ∀ r, row = some r → C ≤ r ∧ ∃ o : Obj, X.heap[r]? = some o ∧ o.isCells = false) : BestS lr e0 bb fb z Y := by
  obtain ⟨f, i, h1, h2, h3⟩ := h.ow
  exact ⟨f, i, blk_own h1 hg (fun r e => (hr r e).2), blk_own h2 hg (fun r e => (hr r e).2), h3⟩
theorem bestS_from {β : Type} {lr : List Ev} {e0 : Ev} {bb fb C : Nat} (f : β → Option Te) : OwnFrom C (fun (s : β) W => BestS lr e0 bb fb (f s) W) := fun _ _ _ _ h hg hr => h.others hg hr
/-- An event is stored as the newest. -/
theorem best_store {lr : List Ev} {e0 : Ev} {bb fb N : Nat} {W3 W : World} {f : Bool} {i y : Ev} (b1 : Boxed W fb 4 (.bool f)) (b2 : Blk W bb 36 #[.int .i64 i.t, .slice i.A i.n i.c]) (hne : bb ≠ fb) (hy : y ∈ lr) (hB : Bar N [bb, fb] W3 W) :
    W.cell? ⟨bb, 0, none⟩ = some (.int .i64 i.t) ∧ W.frozen? ⟨bb, 0, none⟩ = false ∧ (W.setCell ⟨bb, 0, none⟩ (.int .i64 y.t)).cell? ⟨bb, 1, none⟩ = some (.slice i.A i.n i.c) ∧ (W.setCell ⟨bb, 0, none⟩ (.int .i64 y.t)).frozen? ⟨bb, 1, none⟩ = false ∧
    ((W.setCell ⟨bb, 0, none⟩ (.int .i64 y.t)).setCell ⟨bb, 1, none⟩ (.slice y.A y.n y.c)).cell? ⟨fb, 0, none⟩ = some (.bool f) ∧ ((W.setCell ⟨bb, 0, none⟩ (.int .i64 y.t)).setCell ⟨bb, 1, none⟩ (.slice y.A y.n y.c)).frozen? ⟨fb, 0, none⟩ = false ∧
    Hid (KeepsFrom W3.heap.size W (((W.setCell ⟨bb, 0, none⟩ (.int .i64 y.t)).setCell ⟨bb, 1, none⟩ (.slice y.A y.n y.c)).setCell ⟨fb, 0, none⟩ (.bool true)) ∧
      Bar N [bb, fb] W (((W.setCell ⟨bb, 0, none⟩ (.int .i64 y.t)).setCell ⟨bb, 1, none⟩ (.slice y.A y.n y.c)).setCell ⟨fb, 0, none⟩ (.bool true)) ∧
      BestS lr e0 bb fb (some (y.t, y.r)) (((W.setCell ⟨bb, 0, none⟩ (.int .i64 y.t)).setCell ⟨bb, 1, none⟩ (.slice y.A y.n y.c)).setCell ⟨fb, 0, none⟩ (.bool true)) ∧
      Bar N [bb, fb] W3 (((W.setCell ⟨bb, 0, none⟩ (.int .i64 y.t)).setCell ⟨bb, 1, none⟩ (.slice y.A y.n y.c)).setCell ⟨fb, 0, none⟩ (.bool true))) := by
  have k0 := b2.cell 0
  have k1 := (b2.set_ 0 (.int .i64 y.t)).cell 1
  simp at k0 k1
  have e2 := blk_set2 b2 (.int .i64 y.t) (.slice y.A y.n y.c)
  have e1 : Boxed ((W.setCell ⟨bb, 0, none⟩ (.int .i64 y.t)).setCell ⟨bb, 1, none⟩ (.slice y.A y.n y.c)) fb 4 (.bool f) := Boxed.setOther (Boxed.setOther b1 (p := ⟨bb, 0, none⟩) (fun e => hne e.symm) _) (p := ⟨bb, 1, none⟩) (fun e => hne e.symm) _
  have hR : Bar N [bb, fb] W (((W.setCell ⟨bb, 0, none⟩ (.int .i64 y.t)).setCell ⟨bb, 1, none⟩ (.slice y.A y.n y.c)).setCell ⟨fb, 0, none⟩ (.bool true)) :=
    (((Bar.refl _ _ W).setCell (p := ⟨bb, 0, none⟩) (.inr (by simp)) _).setCell (p := ⟨bb, 1, none⟩) (.inr (by simp)) _).setCell (p := ⟨fb, 0, none⟩) (.inr (by simp)) _
  exact ⟨k0, b2.frozen 0, k1, (b2.set_ 0 (.int .i64 y.t)).frozen 1, e1.cell, e1.frozen, hide ⟨(((KeepsOthers.setCell _ _ _).trans (KeepsOthers.setCell _ _ _)).trans (KeepsOthers.setCell _ _ _)).from _, hR, ⟨true, y, e1.set (.bool true), e2.far (p := ⟨fb, 0, none⟩) hne _, .inr ⟨rfl, hy, rfl⟩⟩, hB.trans hR⟩⟩

def FrN (kb xb rb bb fb yb : Nat) (a : Act) : Prop := ∃ u : Nat → Value, a = { tmps := #[u 0, u 1, u 2, u 3, .pointer (some ⟨kb, 0, none⟩), u 5, .pointer (some ⟨xb, 0, none⟩), u 7, .pointer (some ⟨rb, 0, none⟩), .pointer (some ⟨bb, 0, none⟩), .pointer (some ⟨fb, 0, none⟩), u 11, u 12, .pointer (some ⟨yb, 0, none⟩), u 14, u 15, u 16, u 17, u 18, u 19, u 20, u 21, u 22, u 23, u 24, u 25, u 26, u 27, u 28, u 29, u 30, u 31, u 32, u 33, u 34, u 35, u 36, u 37, u 38, u 39, u 40, u 41, u 42, u 43, u 44, u 45, u 46, u 47, u 48, u 49, u 50, u 51, u 52, u 53, u 54, u 55, u 56], defers := [] }
theorem FrN.mk (kb xb rb bb fb yb : Nat) (a : Act) (h : a = { tmps := #[a.tmps.getD 0 undef, a.tmps.getD 1 undef, a.tmps.getD 2 undef, a.tmps.getD 3 undef, .pointer (some ⟨kb, 0, none⟩), a.tmps.getD 5 undef, .pointer (some ⟨xb, 0, none⟩), a.tmps.getD 7 undef, .pointer (some ⟨rb, 0, none⟩), .pointer (some ⟨bb, 0, none⟩), .pointer (some ⟨fb, 0, none⟩), a.tmps.getD 11 undef, a.tmps.getD 12 undef, .pointer (some ⟨yb, 0, none⟩), a.tmps.getD 14 undef, a.tmps.getD 15 undef, a.tmps.getD 16 undef, a.tmps.getD 17 undef, a.tmps.getD 18 undef, a.tmps.getD 19 undef, a.tmps.getD 20 undef, a.tmps.getD 21 undef, a.tmps.getD 22 undef, a.tmps.getD 23 undef, a.tmps.getD 24 undef, a.tmps.getD 25 undef, a.tmps.getD 26 undef, a.tmps.getD 27 undef, a.tmps.getD 28 undef, a.tmps.getD 29 undef, a.tmps.getD 30 undef, a.tmps.getD 31 undef, a.tmps.getD 32 undef, a.tmps.getD 33 undef, a.tmps.getD 34 undef, a.tmps.getD 35 undef, a.tmps.getD 36 undef, a.tmps.getD 37 undef, a.tmps.getD 38 undef, a.tmps.getD 39 undef, a.tmps.getD 40 undef, a.tmps.getD 41 undef, a.tmps.getD 42 undef, a.tmps.getD 43 undef, a.tmps.getD 44 undef, a.tmps.getD 45 undef, a.tmps.getD 46 undef, a.tmps.getD 47 undef, a.tmps.getD 48 undef, a.tmps.getD 49 undef, a.tmps.getD 50 undef, a.tmps.getD 51 undef, a.tmps.getD 52 undef, a.tmps.getD 53 undef, a.tmps.getD 54 undef, a.tmps.getD 55 undef, a.tmps.getD 56 undef], defers := [] }) : FrN kb xb rb bb fb yb a := ⟨fun i => a.tmps.getD i undef, h⟩
def FrE (xb rb bb : Nat) (ds : List Deferred) (a : Act) : Prop := ∃ u : Nat → Value, a = { tmps := #[u 0, u 1, u 2, u 3, u 4, u 5, .pointer (some ⟨xb, 0, none⟩), u 7, .pointer (some ⟨rb, 0, none⟩), .pointer (some ⟨bb, 0, none⟩), u 10, u 11, u 12, u 13, u 14, u 15, u 16, u 17, u 18, u 19, u 20, u 21, u 22, u 23, u 24, u 25, u 26, u 27, u 28, u 29, u 30, u 31, u 32, u 33, u 34, u 35, u 36, u 37, u 38, u 39, u 40, u 41, u 42, u 43, u 44, u 45, u 46, u 47, u 48, u 49, u 50, u 51, u 52, u 53, u 54, u 55, u 56], defers := ds }
theorem FrE.mk (xb rb bb : Nat) (ds : List Deferred) (a : Act) (h : a = { tmps := #[a.tmps.getD 0 undef, a.tmps.getD 1 undef, a.tmps.getD 2 undef, a.tmps.getD 3 undef, a.tmps.getD 4 undef, a.tmps.getD 5 undef, .pointer (some ⟨xb, 0, none⟩), a.tmps.getD 7 undef, .pointer (some ⟨rb, 0, none⟩), .pointer (some ⟨bb, 0, none⟩), a.tmps.getD 10 undef, a.tmps.getD 11 undef, a.tmps.getD 12 undef, a.tmps.getD 13 undef, a.tmps.getD 14 undef, a.tmps.getD 15 undef, a.tmps.getD 16 undef, a.tmps.getD 17 undef, a.tmps.getD 18 undef, a.tmps.getD 19 undef, a.tmps.getD 20 undef, a.tmps.getD 21 undef, a.tmps.getD 22 undef, a.tmps.getD 23 undef, a.tmps.getD 24 undef, a.tmps.getD 25 undef, a.tmps.getD 26 undef, a.tmps.getD 27 undef, a.tmps.getD 28 undef, a.tmps.getD 29 undef, a.tmps.getD 30 undef, a.tmps.getD 31 undef, a.tmps.getD 32 undef, a.tmps.getD 33 undef, a.tmps.getD 34 undef, a.tmps.getD 35 undef, a.tmps.getD 36 undef, a.tmps.getD 37 undef, a.tmps.getD 38 undef, a.tmps.getD 39 undef, a.tmps.getD 40 undef, a.tmps.getD 41 undef, a.tmps.getD 42 undef, a.tmps.getD 43 undef, a.tmps.getD 44 undef, a.tmps.getD 45 undef, a.tmps.getD 46 undef, a.tmps.getD 47 undef, a.tmps.getD 48 undef, a.tmps.getD 49 undef, a.tmps.getD 50 undef, a.tmps.getD 51 undef, a.tmps.getD 52 undef, a.tmps.getD 53 undef, a.tmps.getD 54 undef, a.tmps.getD 55 undef, a.tmps.getD 56 undef], defers := ds }) : FrE xb rb bb ds a := ⟨fun i => a.tmps.getD i undef, h⟩
theorem res_ev {F : Func} {b i : Nat} {x y : Value} {w : World} {tmps : Array Value} (hF : F.results = #[.cell i 36]) (h6 : tmps.getD i undef = .pointer (some ⟨b, 0, none⟩)) (h1 : Blk w b 36 #[x, y]) :
    (results F tmps).run Tryz.prog w = .ok (.agg #[x, y]) w :=
  results_cell_row hF tmps w b 36 #[x, y] (0, 0) _ h6 h1 Tryz.underlying36 rfl (by kernel_rfl)

set_option maxRecDepth 100000 in
set_option maxHeartbeats 16000000 in
theorem newest_any (A1 : Option Addr) (n1 c1 : Nat) (on : List Int) (A2 : Option Addr) (n2 c2 : Nat) (others : List Int) (wd : Nat) (x : Ev) (A4 : Option Addr) (n4 c4 : Nat) (lr : List Ev) (w : World)
    (h1 : Reads w w.heap.size 1 A1 n1 (on.map (Value.int .i64))) (h2 : Reads w w.heap.size 1 A2 n2 (others.map (Value.int .i64))) (hn1 : n1 ≤ 1000) (hn2 : n2 ≤ 1000) (hw : wd ≤ 8) (hx : RowK w w.heap.size x.A x.n x.r) (h4 : EvR w w.heap.size A4 n4 lr) (hm4 : n4 ≤ 100000)
    (hcx : x.n ≤ x.c) (hc4 : ∀ y ∈ lr, y.n ≤ y.c) (ht : Tab w) (hox : okE (x.t, x.r) = true) (hor : ∀ y ∈ lr, okE (y.t, y.r) = true) (hhx : hasC x.r on = true) (hhr : ∀ y ∈ lr, hasC y.r others = true) (hwd : ∀ y ∈ lr, y.n = wd) :
    CallsIn Fence.wide 4 Tryz.prog 87 #[.agg #[.slice A1 n1 c1, .slice A2 n2 c2], .int .i64 (wd : Int), .agg #[.int .i64 x.t, .slice x.A x.n x.c], .slice A4 n4 c4] w (RetNw w (verO on others wd (x.t, x.r) (dE lr))) := by
  obtain ⟨kb, hkb⟩ : ∃ kb, w.heap.size = kb := ⟨_, rfl⟩
  have hmk := fun W => run_make_rw wd (by omega) W
  obtain ⟨V, hV⟩ : ∃ V, verO on others wd (x.t, x.r) (dE lr) = V := ⟨_, rfl⟩
  have HV := hide hV
  rw [hV]
  clear hV
  have HOX := hide hox
  have HOR := hide hor
  have HHX := hide hhx
  have HHR := hide hhr
  have HC4 := hide hc4
  have HWD := hide hwd
  have HT := hide ht
  have hx8 := okR_eight (okE_row hox)
  have hxl := hx.len
  have PA := hide h1
  have PB := hide h2
  have PX := hide hx
  have PD := hide h4
  clear hox hor hhx hhr hc4 hwd ht h1 h2 hx h4
  have hBa : Below w.heap.size w (((w.alloc (.cells #[.slice A1 n1 c1, .slice A2 n2 c2] 91)).alloc (.cells #[.int .i64 x.t, .slice x.A x.n x.c] 36)).alloc (.cells #[.int .i64 0, .slice none 0 0] 36)) :=
    (((Below.refl _ _).alloc (Nat.le_refl _) _).alloc (by simp) _).alloc (by simp; omega) _
  have ka := ((Blk.new w 91 #[.slice A1 n1 c1, .slice A2 n2 c2]).alloc (.cells #[.int .i64 x.t, .slice x.A x.n x.c] 36)).alloc (.cells #[.int .i64 0, .slice none 0 0] 36)
  have kx := (Blk.new (w.alloc (.cells #[.slice A1 n1 c1, .slice A2 n2 c2] 91)) 36 #[.int .i64 x.t, .slice x.A x.n x.c]).alloc (.cells #[.int .i64 0, .slice none 0 0] 36)
  have kr := Blk.new ((w.alloc (.cells #[.slice A1 n1 c1, .slice A2 n2 c2] 91)).alloc (.cells #[.int .i64 x.t, .slice x.A x.n x.c] 36)) 36 #[.int .i64 0, .slice none 0 0]
  have hsa : (((w.alloc (.cells #[.slice A1 n1 c1, .slice A2 n2 c2] 91)).alloc (.cells #[.int .i64 x.t, .slice x.A x.n x.c] 36)).alloc (.cells #[.int .i64 0, .slice none 0 0] 36)).heap.size = kb + 3 := by simp [hkb]
  simp only [World.size_alloc, hkb] at kx kr
  rw [hkb] at ka
  refine callsIn_of_wp_marks Tryz.func87 rfl trivial ?_ rfl
  simp only [Tryz.ntmps87, List.size_toArray, List.length_cons, List.length_nil, Nat.reduceAdd, Nat.reduceSub, Array.replicate_succ, Array.replicate_zero, List.push_toArray, List.append_toArray, List.nil_append, List.cons_append]
  gi_wp2_with fail
  try rw [hkb]
  obtain ⟨Wa, hWa⟩ : ∃ Wa, (((w.alloc (.cells #[.slice A1 n1 c1, .slice A2 n2 c2] 91)).alloc (.cells #[.int .i64 x.t, .slice x.A x.n x.c] 36)).alloc (.cells #[.int .i64 0, .slice none 0 0] 36)) = Wa := ⟨_, rfl⟩
  rw [hWa] at hBa ka kx kr hsa ⊢
  clear hWa
  have hrz := made_row Wa wd (by omega)
  have hBb : Below Wa.heap.size Wa (((Wa.alloc (.cells (madeCells #[.int .i64 0, .int .i64 0, .string ByteArray.empty] (wd * 3)) 102)).alloc (.cells #[.int .i64 0, .slice (some ⟨kb + 3, 0, none⟩) wd wd] 36)).alloc (.cells #[.bool false] 4)) :=
    (((Below.refl _ _).alloc (Nat.le_refl _) _).alloc (by simp) _).alloc (by simp; omega) _
  have hb1 := below_val (w := Wa.alloc (.cells (madeCells #[.int .i64 0, .int .i64 0, .string ByteArray.empty] (wd * 3)) 102)) #[.int .i64 0, .slice (some ⟨kb + 3, 0, none⟩) wd wd] 36
  have hb2 := below_val (w := (Wa.alloc (.cells (madeCells #[.int .i64 0, .int .i64 0, .string ByteArray.empty] (wd * 3)) 102)).alloc (.cells #[.int .i64 0, .slice (some ⟨kb + 3, 0, none⟩) wd wd] 36)) #[.bool false] 4
  have hrz2 := (hrz.below hb1).below hb2
  have kf := Boxed.new ((Wa.alloc (.cells (madeCells #[.int .i64 0, .int .i64 0, .string ByteArray.empty] (wd * 3)) 102)).alloc (.cells #[.int .i64 0, .slice (some ⟨kb + 3, 0, none⟩) wd wd] 36)) 4 (.bool false)
  have kg := (Blk.new (Wa.alloc (.cells (madeCells #[.int .i64 0, .int .i64 0, .string ByteArray.empty] (wd * 3)) 102)) 36 #[.int .i64 0, .slice (some ⟨kb + 3, 0, none⟩) wd wd]).alloc (.cells #[.bool false] 4)
  simp only [World.size_alloc, hsa] at kf kg hrz2
  have hsb : (((Wa.alloc (.cells (madeCells #[.int .i64 0, .int .i64 0, .string ByteArray.empty] (wd * 3)) 102)).alloc (.cells #[.int .i64 0, .slice (some ⟨kb + 3, 0, none⟩) wd wd] 36)).alloc (.cells #[.bool false] 4)).heap.size = kb + 6 := by simp [hsa]
  obtain ⟨Wb, hWb⟩ : ∃ Wb, (((Wa.alloc (.cells (madeCells #[.int .i64 0, .int .i64 0, .string ByteArray.empty] (wd * 3)) 102)).alloc (.cells #[.int .i64 0, .slice (some ⟨kb + 3, 0, none⟩) wd wd] 36)).alloc (.cells #[.bool false] 4)) = Wb := ⟨_, rfl⟩
  rw [hWb] at kf kg hrz2 hsb hBb ⊢
  clear hWb hb1 hb2 hrz hmk
  have hBw := bstep hBa hBb
  have kx1 : Blk Wb (kb + 1) 36 #[.int .i64 x.t, .slice x.A x.n x.c] := kx.below hBb kx.lt
  have kr1 : Blk Wb (kb + 1 + 1) 36 #[.int .i64 0, .slice none 0 0] := kr.below hBb kr.lt
  have ka1 : Blk Wb kb 91 #[.slice A1 n1 c1, .slice A2 n2 c2] := ka.below hBb ka.lt
  have hrz3 : RowK Wb (kb + 3) (some ⟨kb + 3, 0, none⟩) wd (nullR wd) := hrz2
  clear hrz2
  obtain ⟨z, hz⟩ : ∃ z, newN on others (x.t, x.r) (dE lr) = z := ⟨_, rfl⟩
  have HZ := hide hz
  have HVV := hide (show V = (x.t, x.r ++ rowN wd z) from by rw [← HV.out, ← hz]; rfl)
  clear hz hBa hBb kx kr ka
  rename_i K2 hK2 K1 hK1 K0 hK0
  have HF : ∀ (a : Act) (ds : List Deferred) (W : World), FrE (kb + 1) (kb + 1 + 1) (kb + 3 + 1) ds a → Marks (kb + 6) W.heap.size ds W → Bar (kb + 6) [kb + 3 + 1, kb + 3 + 1 + 1] Wb W → BestS lr ⟨0, some ⟨kb + 3, 0, none⟩, wd, wd, nullR wd⟩ (kb + 3 + 1) (kb + 3 + 1 + 1) z W →
      K2 a W := by
    rintro a ds W ⟨u, rfl⟩ hM hR hS0
    refine hK2 _ _ ?_
    clear hK2 hK1 hK0
    have HM := hide hM
    have hsz := hR.size
    have hBW : Below w.heap.size w W := hBw.trans (hR.below (by omega) (by simp; omega))
    have kx2 : Blk W (kb + 1) 36 #[.int .i64 x.t, .slice x.A x.n x.c] := (hR.block (kb + 1) (by omega) (by simp <;> omega)).trans kx1
    have kr2 : Blk W (kb + 1 + 1) 36 #[.int .i64 0, .slice none 0 0] := (hR.block (kb + 1 + 1) (by omega) (by simp <;> omega)).trans kr1
    have hrz4 : RowK W 0 (some ⟨kb + 3, 0, none⟩) wd (nullR wd) := by
      have h3 : W.heap[kb + 3]? = Wb.heap[kb + 3]? := hR.block (kb + 3) (by omega) (by simp)
      refine ⟨⟨hrz3.rd.1, fun h0 => ?_⟩, fun h0 b off m e => ?_, hrz3.le⟩
      · obtain ⟨b, off, e, hb, hc⟩ := hrz3.rd.2 h0
        injection e with e
        injection e with e1 e2
        subst e1 e2
        refine ⟨kb + 3, 0, rfl, by omega, fun j v hv => ?_⟩
        rw [World.cell?_of_block h3]
        exact hc j v hv
      · injection e with e
        injection e with e1
        subst e1
        rcases hrz3.at_ h0 _ _ _ rfl with h | ⟨c, fz, h⟩
        · omega
        · exact .inr ⟨c, fz, h3.trans h⟩
    obtain ⟨f, i, b1, b2, hcase⟩ := hS0.ow
    have hi : RowK W kb i.A i.n i.r ∧ i.r = rowN wd z ∧ i.n = wd := by
      rcases hcase with ⟨_, rfl, rfl⟩ | ⟨_, hm, rfl⟩
      · exact ⟨hrz4.mono (by omega), rfl, rfl⟩
      · exact ⟨by have := (PD.out.rows i hm).below hBW; rwa [hkb] at this, rfl, HWD.out i hm⟩
    obtain ⟨hi1, hi2, hi3⟩ := hi
    have hxr : RowK W kb x.A x.n x.r := by have := PX.out.below hBW; rwa [hkb] at this
    have HI3 := hide hi3
    have hwn : i.n ≤ 8 := by omega
    clear hcase hrz4 hS0 hM b1 hi3
    have m0 : W.cell? ⟨kb + 1, 0, none⟩ = some (.int .i64 x.t) := by simpa using kx2.cell 0
    have m1 : W.cell? ⟨kb + 1, 1, none⟩ = some (.slice x.A x.n x.c) := by simpa using kx2.cell 1
    have m2 : W.cell? ⟨kb + 3 + 1, 1, none⟩ = some (.slice i.A i.n i.c) := by simpa using b2.cell 1
    gi_wp2_with fail
    refine wpIn_noPanic (wpIn_wide.2 ?_)
    refine Held.begin (fun z => z.cell? ⟨kb + 1, 0, none⟩ = some (.int .i64 x.t) ∧ z.cell? ⟨kb + 1, 1, none⟩ = some (.slice x.A x.n x.c) ∧ z.cell? ⟨kb + 3 + 1, 1, none⟩ = some (.slice i.A i.n i.c)) 9 (by kernel_rfl) ?_
    obtain ⟨X1, hX1⟩ : ∃ X1, W.drew = X1 := ⟨_, rfl⟩
    have hD : Below W.heap.size W X1 := by rw [← hX1]; exact (Below.refl _ _).drew
    rw [hX1]
    have hB1 := bstep hBW hD
    have hR1 := hR.trans (Bar.of_below (hD.mono (by omega)) [kb + 3 + 1, kb + 3 + 1 + 1])
    have kx3 := kx2.below hD kx2.lt
    have kr3 := kr2.below hD kr2.lt
    have b3 := b2.below hD b2.lt
    have hi4 := hi1.below hD
    have hxr4 := hxr.below hD
    have HM1 := hide (HM.out.up hD)
    have hS : X1.cell? ⟨kb + 1, 0, none⟩ = some (.int .i64 x.t) ∧ X1.cell? ⟨kb + 1, 1, none⟩ = some (.slice x.A x.n x.c) ∧ X1.cell? ⟨kb + 3 + 1, 1, none⟩ = some (.slice i.A i.n i.c) := ⟨by simpa using kx3.cell 0, by simpa using kx3.cell 1, by simpa using b3.cell 1⟩
    have hs1 : W.heap.size ≤ X1.heap.size := hD.size
    clear hX1 hD kx2 kr2 b2 hi1 hxr hBW m0 m1 m2 hR
    refine Held.take (i := 0) (.pointer (some ⟨kb + 1, 0, none⟩)) rfl hS (by kernel_rfl) (by kernel_rfl) (by kernel_rfl) (by kernel_rfl) (fun c _ _ h => absurd rfl (h.1 c)) rfl (fun y hy => by obtain ⟨x1, x2, x3⟩ := hy; go_simp) ?_
    try simp only [Act.put]
    refine Held.take (i := 1) (.int .i64 x.t) rfl hS (by kernel_rfl) (by kernel_rfl) (by kernel_rfl) (by kernel_rfl) (fun c _ _ h => absurd rfl (h.1 c)) rfl (fun y hy => by obtain ⟨x1, x2, x3⟩ := hy; go_simp) ?_
    try simp only [Act.put]
    refine Held.take (i := 2) (.pointer (some ⟨kb + 1, 1, none⟩)) rfl hS (by kernel_rfl) (by kernel_rfl) (by kernel_rfl) (by kernel_rfl) (fun c _ _ h => absurd rfl (h.1 c)) rfl (fun y hy => by obtain ⟨x1, x2, x3⟩ := hy; go_simp) ?_
    try simp only [Act.put]
    refine Held.take (i := 3) (.slice x.A x.n x.c) rfl hS (by kernel_rfl) (by kernel_rfl) (by kernel_rfl) (by kernel_rfl) (fun c _ _ h => absurd rfl (h.1 c)) rfl (fun y hy => by obtain ⟨x1, x2, x3⟩ := hy; go_simp) ?_
    try simp only [Act.put]
    refine Held.take (i := 4) (.pointer (some ⟨kb + 3 + 1, 1, none⟩)) rfl hS (by kernel_rfl) (by kernel_rfl) (by kernel_rfl) (by kernel_rfl) (fun c _ _ h => absurd rfl (h.1 c)) rfl (fun y hy => by obtain ⟨x1, x2, x3⟩ := hy; go_simp) ?_
    try simp only [Act.put]
    refine Held.take (i := 5) (.slice i.A i.n i.c) rfl hS (by kernel_rfl) (by kernel_rfl) (by kernel_rfl) (by kernel_rfl) (fun c _ _ h => absurd rfl (h.1 c)) rfl (fun y hy => by obtain ⟨x1, x2, x3⟩ := hy; go_simp) ?_
    try simp only [Act.put]
    refine Held.one (i := 6) rfl (by kernel_rfl) rfl (fun K hK => ?_)
    have hba := below_val (w := X1) #[.slice x.A x.n x.c, .slice i.A i.n i.c] 34
    have kq := Blk.new X1 34 #[.slice x.A x.n x.c, .slice i.A i.n i.c]
    unfold Oper.wp
    go_simp
    obtain ⟨X2, hX2⟩ : ∃ X2, X1.alloc (.cells #[.slice x.A x.n x.c, .slice i.A i.n i.c] 34) = X2 := ⟨_, rfl⟩
    rw [hX2] at hba kq ⊢
    have hB2 := bstep hB1 hba
    have hR2 := hR1.trans (Bar.of_below (hba.mono (by omega)) [kb + 3 + 1, kb + 3 + 1 + 1])
    have kx4 := kx3.below hba kx3.lt
    have kr4 := kr3.below hba kr3.lt
    have b4 := b3.below hba b3.lt
    have hi5 := hi4.below hba
    have hxr5 := hxr4.below hba
    have HM2 := hide (HM1.out.up hba)
    have hS2 : X2.cell? ⟨kb + 1, 0, none⟩ = some (.int .i64 x.t) ∧ X2.cell? ⟨kb + 1, 1, none⟩ = some (.slice x.A x.n x.c) ∧ X2.cell? ⟨kb + 3 + 1, 1, none⟩ = some (.slice i.A i.n i.c) := ⟨by simpa using kx4.cell 0, by simpa using kx4.cell 1, by simpa using b4.cell 1⟩
    have hX2s : X2.heap.size = X1.heap.size + 1 := by rw [← hX2, World.size_alloc]
    refine hK _ _ (fun _ => hS2) ?_
    try simp only [Act.put]
    clear hK K hS hX2 hba kx3 kr3 b3 hi4 hxr4 hB1 hR1
    refine Held.one (i := 7) rfl (by kernel_rfl) rfl (fun K hK => ?_)
    unfold Oper.wp
    go_simp
    have hrd2 : Reads X2 X2.heap.size 1 (some ⟨X1.heap.size, 0, none⟩) 2 [.slice x.A x.n x.c, .slice i.A i.n i.c] := ⟨rfl, fun _ => ⟨X1.heap.size, 0, rfl, by omega, fun j u hu => by rw [Nat.zero_add, kq.cell j]; simpa using hu⟩⟩
    refine (ConcatV_any (some ⟨X1.heap.size, 0, none⟩) 2 2 [⟨x.A, x.n, x.c, x.r⟩, ⟨i.A, i.n, i.c, i.r⟩] X2 ⟨hrd2, fun r hr => by
      rcases List.mem_cons.1 hr with rfl | hr
      · exact hxr5.rd
      · obtain rfl : r = ⟨i.A, i.n, i.c, i.r⟩ := by simpa using hr
        exact hi5.rd⟩ (by omega) (fun r hr => by
      rcases List.mem_cons.1 hr with rfl | hr
      · show x.n ≤ 60; omega
      · obtain rfl : r = ⟨i.A, i.n, i.c, i.r⟩ := by simpa using hr
        show i.n ≤ 60; omega)).mono ?_
    have hlv : lenV [⟨x.A, x.n, x.c, x.r⟩, ⟨i.A, i.n, i.c, i.r⟩] = x.n + i.n := by simp [lenV]
    have hav : allV [⟨x.A, x.n, x.c, x.r⟩, ⟨i.A, i.n, i.c, i.r⟩] = x.r ++ i.r := by simp [allV]
    rw [hlv, hav]
    clear hlv hav hrd2 kq
    rintro e X3 ⟨Ac, cc, rfl, hown3, hb3⟩
    have hrow3 : RowK X3 0 Ac (x.n + i.n) (x.r ++ i.r) := RowK.of_own hown3 (by omega)
    have hcap3 := own_cap hown3
    obtain ⟨mm, hmm⟩ : ∃ mm, x.n + i.n = mm := ⟨_, rfl⟩
    rw [hmm] at hrow3 hcap3
    rw [hmm]
    have hmm8 : mm ≤ 1000 := by omega
    have hB3 := bstep hB2 hb3
    have hR3 := hR2.trans (Bar.of_below (hb3.mono (by omega)) [kb + 3 + 1, kb + 3 + 1 + 1])
    have kx5 := kx4.below hb3 kx4.lt
    have kr5 := kr4.below hb3 kr4.lt
    have b5 := b4.below hb3 b4.lt
    have HM3 := hide (HM2.out.up hb3)
    have hS : X3.cell? ⟨kb + 1, 0, none⟩ = some (.int .i64 x.t) ∧ X3.cell? ⟨kb + 1, 1, none⟩ = some (.slice x.A x.n x.c) ∧ X3.cell? ⟨kb + 3 + 1, 1, none⟩ = some (.slice i.A i.n i.c) := ⟨by simpa using kx5.cell 0, by simpa using kx5.cell 1, by simpa using b5.cell 1⟩
    have hs3 := hb3.size
    refine hK _ _ (fun _ => hS) ?_
    try simp only [Act.put]
    clear hK K hS2 hb3 kx4 kr4 b4 hi5 hxr5 hB2 hR2 hown3 hmm
    refine Held.take (i := 8) (.agg #[.int .i64 x.t, .slice Ac mm cc]) rfl hS (by kernel_rfl) (by kernel_rfl) (by kernel_rfl) (by kernel_rfl) (fun c _ _ h => absurd rfl (h.1 c)) rfl (fun y hy => by obtain ⟨x1, x2, x3⟩ := hy; go_simp) ?_
    try simp only [Act.put]
    refine Held.one (i := 9) rfl (by kernel_rfl) rfl (fun K hK => ?_)
    have k0 := kr5.cell 0
    have k1 := (kr5.set_ 0 (.int .i64 x.t)).cell 1
    have f0 := kr5.frozen 0
    have f1 := (kr5.set_ 0 (.int .i64 x.t)).frozen 1
    simp at k0 k1
    have HE := hide (blk_set2 kr5 (.int .i64 x.t) (.slice Ac mm cc))
    have HB := hide ((hB3.setCell (p := ⟨kb + 1 + 1, 0, none⟩) (by show w.heap.size ≤ kb + 1 + 1; omega) (.int .i64 x.t)).setCell (p := ⟨kb + 1 + 1, 1, none⟩) (by show w.heap.size ≤ kb + 1 + 1; omega) (.slice Ac mm cc))
    have HRW := hide ((hrow3.setCell (p := ⟨kb + 1 + 1, 0, none⟩) kr5 (by decide) (Nat.zero_le _) (.int .i64 x.t)).setCell (p := ⟨kb + 1 + 1, 1, none⟩) (kr5.set_ 0 (.int .i64 x.t)) (by decide) (Nat.zero_le _) (.slice Ac mm cc))
    have HM4 := hide (show Marks (kb + 6) ((X3.setCell ⟨kb + 1 + 1, 0, none⟩ (.int .i64 x.t)).setCell ⟨kb + 1 + 1, 1, none⟩ (.slice Ac mm cc)).heap.size ds ((X3.setCell ⟨kb + 1 + 1, 0, none⟩ (.int .i64 x.t)).setCell ⟨kb + 1 + 1, 1, none⟩ (.slice Ac mm cc)) from by
      refine (HM3.out.kept fun k o hk ho hc => ?_).mono (by simp [World.setCell]; omega)
      have hne : k ≠ kb + 1 + 1 := fun e => by
        subst e
        rw [show X3.heap[kb + 1 + 1]? = _ from kr5] at ho
        cases ho; cases hc
      rw [Below.heap_setCell _ _ _ k hne, Below.heap_setCell _ _ _ k hne]
      exact ho)
    unfold Oper.wp
    go_simp
    refine hK _ _ (fun h => absurd rfl h) ?_
    try simp only [Act.put]
    clear hK K
    refine Held.done (by kernel_rfl) ⟨nofun, ?_⟩
    clear hS k0 k1 f0 f1 kx5 b5 hrow3
    gi_wp2
    refine leaves_marks HM4.out fun W' hl => ?_
    refine ⟨_, res_ev rfl rfl ((hl.low (kb + 1 + 1) (by omega)).trans HE.out), ?_⟩
    rw [HVV.out, ← hi2]
    exact ⟨_, _, _, rfl, HRW.out.keepCells hl.cells (by rw [hl.size]; exact Nat.le_refl _) (Nat.le_refl _), hcap3, below_left hl HB.out (by omega)⟩
  clear hK2
  have HFF := hide HF
  have kf1 : Boxed Wb (kb + 3 + 1 + 1) 4 (.bool false) := kf
  have kg1 : Blk Wb (kb + 3 + 1) 36 #[.int .i64 0, .slice (some ⟨kb + 3, 0, none⟩) wd wd] := kg
  clear HF kf kg
  refine (callsIn_wide.2 (of_any A1 n1 c1 on x.A x.n x.c x.r Wb (PA.out.up hBw) hn1 ((PX.out.below hBw).mono hBw.size) hcx (okE_row HOX.out) HHX.out (HT.out.below hBw))).mono ?_
  rintro e W2 ⟨rfl, hb2⟩
  obtain ⟨key, hkey⟩ : ∃ key, ofS on x.r = key := ⟨_, rfl⟩
  rw [hkey]
  have HKEY := hide hkey
  clear hkey
  have hBw2 := bstep hBw hb2
  have hR2 : Bar (kb + 6) [kb + 3 + 1, kb + 3 + 1 + 1] Wb W2 := Bar.of_below (hb2.mono (by omega)) _
  have hS2 : BestS lr ⟨0, some ⟨kb + 3, 0, none⟩, wd, wd, nullR wd⟩ (kb + 3 + 1) (kb + 3 + 1 + 1) none W2 := ⟨false, ⟨0, some ⟨kb + 3, 0, none⟩, wd, wd, nullR wd⟩, (hb2.block _ (by omega)).trans kf1, (hb2.block _ (by omega)).trans kg1, .inl ⟨rfl, rfl, rfl⟩⟩
  have hs2 := hb2.size
  have ka2 := ka1.below hb2 ka1.lt
  by_cases hnn : nonul (pick x.r on) = true
  · rw [hnn]
    have HZP := hide (show z = newF (x.t, x.r) (dE (lr.filter (mtE others key))) from by
      rw [← HZ.out, newN_part (x := (x.t, x.r)) (okE_row HOX.out) (fun y hy => okE_row (HOR.out y hy)) hnn, HKEY.out])
    have c1' : W2.cell? ⟨kb, 1, none⟩ = some (.slice A2 n2 c2) := by simpa using ka2.cell 1
    clear hnn
    gi_wp2_with fail
    refine (callsIn_wide.2 (partners_any A4 n4 c4 A2 n2 c2 key W2)).mono ?_
    rintro e W3 ⟨rfl, hW3⟩
    have p1 := ((Boxed.new W2 25 (.slice A4 n4 c4)).alloc (.cells #[.slice A2 n2 c2] 22)).alloc (.cells #[.string key] 9)
    have p2 := (Boxed.new (W2.alloc (.cells #[.slice A4 n4 c4] 25)) 22 (.slice A2 n2 c2)).alloc (.cells #[.string key] 9)
    have p3 := Boxed.new ((W2.alloc (.cells #[.slice A4 n4 c4] 25)).alloc (.cells #[.slice A2 n2 c2] 22)) 9 (.string key)
    have hB23 : Below W2.heap.size W2 W3 := by rw [hW3]; exact (((Below.refl _ _).alloc (Nat.le_refl _) _).alloc (by simp) _).alloc (by simp; omega) _
    obtain ⟨pb, hpb⟩ : ∃ pb, W2.heap.size = pb := ⟨_, rfl⟩
    have hs3 : W3.heap.size = pb + 3 := by rw [hW3, ← hpb]; simp
    simp only [World.size_alloc] at p1 p2 p3
    rw [← hW3] at p1 p2 p3
    rw [hpb] at p1 p2 p3 hs2 ⊢
    have hBw3 := bstep hBw2 hB23
    have HS3 := hide (hS2.below hB23)
    have HR3 := hide (hR2.trans (Bar.of_below (hB23.mono (by omega)) _))
    have HKX := hide (show Blk W3 (kb + 1) 36 #[.int .i64 x.t, .slice x.A x.n x.c] from (kx1.below hb2 kx1.lt).below hB23 (kx1.below hb2 kx1.lt).lt)
    have P1 := hide p1
    have P2 := hide p2
    have P3 := hide p3
    have HBW3 := hide hBw3
    have HORR := hide (show ∀ y ∈ lr, okR y.r = true from fun y hy => okE_row (x := (y.t, y.r)) (HOR.out y hy))
    clear hW3 hpb p1 p2 p3 hBw3 hB23 hS2 hR2 hBw2 hBw hb2 c1' ka2 ka1 kf1 kg1 kr1 kx1 hrz3
    gi_wp2_with fail
    have HNX := hide (show ∀ b, pb ≤ b → b ∉ [kb + 3 + 1, kb + 3 + 1 + 1] from fun b h1 h2 => by simp at h2; omega)
    have HXB := hide (show ∀ g ∈ [kb + 3 + 1, kb + 3 + 1 + 1], w.heap.size ≤ g from fun g h2 => by simp at h2; omega)
    refine wpIn_iter (n := 4) rfl (by omega) (gf := 124) (lb := #[.pointer (some ⟨pb, 0, none⟩), .pointer (some ⟨pb + 1, 0, none⟩), .pointer (some ⟨pb + 1 + 1, 0, none⟩)]) rfl trivial (enters_of Tryz.func124 (by kernel_rfl) rfl) (encs := encEa) (xs := lr.filter (mtE others key)) (Wr := fun X Y => Below X.heap.size X Y) (Kp := Bar (pb + 3) [kb + 3 + 1, kb + 3 + 1 + 1])
      (fun W hW => partners1_iter 3 (by omega) pb (pb + 1) (pb + 1 + 1) A4 n4 c4 lr A2 n2 c2 others key W (Bar (pb + 3) [kb + 3 + 1, kb + 3 + 1 + 1]) (fun W => Bar (pb + 3) [kb + 3 + 1, kb + 3 + 1 + 1] W3 W)
        (fun W h => ⟨h.boxed P1.out (by omega) (HNX.out _ (by omega)), h.boxed P2.out (by omega) (HNX.out _ (by omega)), h.boxed P3.out (by omega) (HNX.out _ (by omega)), PD.out.step' (HBW3.out.trans (h.below (by omega) HXB.out)), PB.out.up (HBW3.out.trans (h.below (by omega) HXB.out)), HT.out.below (HBW3.out.trans (h.below (by omega) HXB.out))⟩)
        (fun X Y h k => h.trans k) (fun X Y h k => h.trans (Bar.of_below (k.mono (by have := h.size; omega)) _)) (Bar.of_below (hW.mono (by omega)) _)
        (fun y hy => ⟨HORR.out y hy, HHR.out y hy, HC4.out y hy⟩) hn2)
      (fun _ => rfl) (fun X Y h => others_below h) bar_t (bar_b (by omega))
      (fun pre W => BestS lr ⟨0, some ⟨kb + 3, 0, none⟩, wd, wd, nullR wd⟩ (kb + 3 + 1) (kb + 3 + 1 + 1) (newF (x.t, x.r) (dE pre)) W ∧ Bar (pb + 3) [kb + 3 + 1, kb + 3 + 1 + 1] W3 W)
      (fun c pre W => False)
      (OwnFrom.and (bestS_from _) (ownFrom_bar (by omega) (by omega)))
      (fun c pre X Y row h hg hr => h.elim)
      (fun s X Y h k => ⟨h.1.below k, h.2.trans (Bar.of_below (k.mono (by have := h.2.size; omega)) _)⟩)
      (fun c s X Y h k => h.elim)
      ⟨HS3.out, Bar.refl _ _ _⟩
      (fun pre y a' W => ∃ yb, pb + 3 ≤ yb ∧ Blk W yb 36 #[.int .i64 y.t, .slice y.A y.n y.c] ∧ FrN kb (kb + 1) (kb + 1 + 1) (kb + 3 + 1) (kb + 3 + 1 + 1) yb a')
      (fun pre y a' _ X Y row hs hg hr => by
        obtain ⟨yb, g1, g2, g3⟩ := hs
        exact ⟨yb, g1, blk_own g2 hg (fun r e => (hr r e).2), g3⟩)
      ?assign ?body ?done ?stop
    case assign =>
      rintro l pre y W K hpx ⟨hO, hB⟩ hK
      have hWs : pb + 3 ≤ W.heap.size := by have := hB.size; omega
      dsimp only [encEa]
      gi_wp2
      refine hK _ _ ((KeepsOthers.alloc _ _).from _) ((Bar.refl _ _ _).alloc hWs _) ⟨hO.below (below_val _ _), hB.alloc hWs _⟩ ⟨W.heap.size, hWs, Blk.new W _ _, FrN.mk _ _ _ _ _ _ _ rfl⟩
    case body =>
      rintro l pre y a' W hpx ⟨hO, hB⟩ ⟨yb, hyb, hby, uu, rfl⟩
      have hyin : y ∈ lr := (List.mem_filter.1 (hpx.subset (by simp))).1
      have hBwW : Below w.heap.size w W := HBW3.out.trans (hB.below (by omega) HXB.out)
      have hkx : Blk W (kb + 1) 36 #[.int .i64 x.t, .slice x.A x.n x.c] := (hB.block (kb + 1) (by omega) (by simp <;> omega)).trans HKX.out
      have m0 : W.cell? ⟨kb + 1, 0, none⟩ = some (.int .i64 x.t) := by simpa using hkx.cell 0
      have m2 : W.cell? ⟨yb, 0, none⟩ = some (.int .i64 y.t) := by simpa using hby.cell 0
      have m3 : W.cell? ⟨yb, 1, none⟩ = some (.slice y.A y.n y.c) := by simpa using hby.cell 1
      have hxlt := hkx.lt
      obtain ⟨f, i, b1, b2, hcase⟩ := hO.ow
      have HSN : Hid (newF (x.t, x.r) (dE (pre ++ [y])) = newS (x.t, x.r) (newF (x.t, x.r) (dE pre)) (y.t, y.r)) := hide (by rw [dE_snoc, newF_snoc])
      have HO := hide hO
      have HB := hide hB
      have m4 := b1.cell
      by_cases h1 : y.t ≤ x.t
      · cases f
        · have HN := hide (show newF (x.t, x.r) (dE (pre ++ [y])) = some (y.t, y.r) from by
            rw [HSN.out]
            rcases hcase with ⟨_, _, hz⟩ | ⟨h, _⟩
            · rw [hz]; unfold newS; rw [if_pos h1]
            · cases h)
          obtain ⟨s1, s2, s3, s4, s5, s6, HFI⟩ := best_store (e0 := ⟨0, some ⟨kb + 3, 0, none⟩, wd, wd, nullR wd⟩) b1 b2 (by omega) hyin hB
          clear hcase hO hB b1 b2 hby hkx HO HB
          gi_wp2
          obtain ⟨g1, g2, g3, g4⟩ := HFI.out
          exact ⟨g1, g2, by rw [HN.out]; exact g3, g4⟩
        · have hii : i ∈ lr ∧ newF (x.t, x.r) (dE pre) = some (i.t, i.r) := by
            rcases hcase with ⟨h, _⟩ | ⟨_, h2, h3⟩
            · cases h
            · exact ⟨h2, h3⟩
          obtain ⟨hi1, hi2⟩ := hii
          have HN := hide (show newF (x.t, x.r) (dE (pre ++ [y])) = if 0 < cmpE (y.t, y.r) (i.t, i.r) then some (y.t, y.r) else some (i.t, i.r) from by
            rw [HSN.out, hi2]; unfold newS; rw [if_pos h1])
          have b2' := b2
          have m5 : W.cell? ⟨kb + 3 + 1, 0, none⟩ = some (.int .i64 i.t) := by simpa using b2.cell 0
          have m6 : W.cell? ⟨kb + 3 + 1, 1, none⟩ = some (.slice i.A i.n i.c) := by simpa using b2.cell 1
          have HC := hide (compare_g y i W ((PD.out.step' hBwW).rows y hyin) ((PD.out.step' hBwW).rows i hi1))
          have HIX := hide (And.intro hi1 hi2)
          clear hcase hO hkx hi1 hi2 b2'
          gi_wp2_with fail
          refine ((callsIn_wide.2 HC.out).inRound l).mono ?_
          rintro e W5 ⟨rfl, hG⟩
          have hb5 := hG.b
          have b15 := (hb5.block _ b1.lt).trans b1
          have b25 := b2.below hb5 b2.lt
          have m25 := (hb5.cell (p := ⟨yb, 0, none⟩) hby.lt).trans m2
          have m35 := (hb5.cell (p := ⟨yb, 1, none⟩) hby.lt).trans m3
          have hKF := (others_below hb5).from W3.heap.size
          have hbar := Bar.of_below (hb5.mono (by have := hB.size; omega) : Below (pb + 3) W W5) [kb + 3 + 1, kb + 3 + 1 + 1]
          have hB5 := hB.trans hbar
          have HO5 := hide (HO.out.below hb5)
          obtain ⟨cv, hcv⟩ : ∃ cv, cmpE (y.t, y.r) (i.t, i.r) = cv := ⟨_, rfl⟩
          rw [hcv] at HN ⊢
          clear hcv hG hb5 HC b1 b2 m0 m2 m3 m4 m5 m6 hby HO
          have HB5 := hide hB5
          have HKF := hide hKF
          have HBR := hide hbar
          by_cases hp : 0 < cv
          · obtain ⟨s1, s2, s3, s4, s5, s6, HFI⟩ := best_store (e0 := ⟨0, some ⟨kb + 3, 0, none⟩, wd, wd, nullR wd⟩) b15 b25 (by omega) hyin hB5
            have HN2 := hide (show newF (x.t, x.r) (dE (pre ++ [y])) = some (y.t, y.r) from by rw [HN.out, if_pos hp])
            clear b15 b25 hB5 hKF hbar HN HB hB
            gi_wp2
            obtain ⟨g1, g2, g3, g4⟩ := HFI.out
            exact ⟨HKF.out.trans g1, HBR.out.trans g2, by rw [HN2.out]; exact g3, g4⟩
          · have HN2 := hide (show newF (x.t, x.r) (dE (pre ++ [y])) = newF (x.t, x.r) (dE pre) from by rw [HN.out, if_neg hp, HIX.out.2])
            clear b15 b25 hB5 hKF hbar HN HB hB
            gi_wp2
            exact ⟨HKF.out, HBR.out, by rw [HN2.out]; exact HO5.out, HB5.out⟩
      · have HN := hide (show newF (x.t, x.r) (dE (pre ++ [y])) = newF (x.t, x.r) (dE pre) from by
          rw [HSN.out]; unfold newS; rw [if_neg h1])
        have q1 : decide (y.t ≤ x.t) = false := decide_eq_false h1
        clear hcase hO hB b1 b2 hby hkx h1
        gi_wp2
        all_goals first
          | exact ⟨KeepsFrom.refl _ _, Bar.refl _ _ _, by rw [HN.out]; exact HO.out, HB.out⟩
          | (rename_i hq1 hq2; simp [undef] at hq1)
    case done =>
      rintro D W hD ⟨hO, hB⟩ hK
      have hWD := (Array.getElem?_eq_some_iff.1 hK).1
      rw [← HZP.out] at hO
      have HG := hide (show Marks (kb + 6) W.heap.size [{ target := .collected D, args := #[] }] W from ⟨D, rfl, by omega, hWD, hK, trivial⟩)
      have HR4 := hide (HR3.out.trans (hB.lower (by omega)))
      have HO := hide hO
      clear hO hB hK
      gi_wp2_with fail
      exact HFF.out _ _ W (FrE.mk _ _ _ _ _ rfl) HG.out HR4.out HO.out
    case stop =>
      rintro D c pre W hD hpre h hK
      exact h.elim
  · have hnn' : nonul (pick x.r on) = false := by simpa using hnn
    rw [hnn']
    have HZN := hide (show z = none from by rw [← HZ.out, newN_null (x := (x.t, x.r)) hnn'])
    have HR2 := hide hR2
    have HS2 := hide hS2
    clear hnn hnn' hb2 hBw2 ka2 hR2 hS2
    gi_wp2_with fail
    exact HFF.out _ [] W2 (FrE.mk _ _ _ _ _ rfl) trivial HR2.out (by rw [HZN.out]; exact HS2.out)
end Go.Proofs.YtoapjidpfghnlaaGreatDoor
