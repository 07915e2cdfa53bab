/-
  The marks that ranges over a function leave in a frame, where they stand inside a loop. Plain theorems over any program; no condition. (Lines of XDkOr2.)
  The walk of pair.Intervals where it fails. No condition.
-/
import Derived.Test.YtoapjidpfghnlaaGreatDoorBgP2
import Derived.RangeFuncCalls
import Derived.Test.YtoapjidpfghnlaaGreatDoorPrP
import Derived.Test.YtoapjidpfghnlaaGreatDoorPrC
import Derived.Test.YtoapjidpfghnlaaGreatDoorPrB
import Derived.Test.YtoapjidpfghnlaaGreatDoorCcV
import Derived.Test.YtoapjidpfghnlaaGreatDoorRngH
import Derived.Test.YtoapjidpfghnlaaGreatDoorBgS1
namespace Go.Proofs.YtoapjidpfghnlaaGreatDoor

section
open Go.RowKit

/-- The marks that ranges over a function have left among a frame's deferred calls: blocks between M and N, each below the one behind it. -/
def Marks (M : Nat) : Nat → List Deferred → World → Prop
  | _, [], _ => True
  | N, d :: ds, W => ∃ D, d = { target := .collected D, args := #[] } ∧ M ≤ D ∧ D < N ∧ W.heap[D]? = some (.deferred (some [])) ∧ Marks M D ds W
theorem Marks.kept {M : Nat} {W W' : World} : ∀ {N : Nat} {ds : List Deferred}, Marks M N ds W → (∀ k o, k < N → W.heap[k]? = some o → o.isCells = false → W'.heap[k]? = some o) → Marks M N ds W'
  | _, [], _, _ => trivial
  | _, _ :: _, ⟨D, h1, h2, h3, h4, h5⟩, hk => ⟨D, h1, h2, h3, hk _ _ h3 h4 rfl, h5.kept fun k o hk1 => hk k o (Nat.lt_trans hk1 h3)⟩
theorem Marks.mono {M N N' : Nat} {ds : List Deferred} {W : World} (h : Marks M N ds W) (hN : N ≤ N') : Marks M N' ds W := by
  cases ds with
  | nil => trivial
  | cons d ds =>
    obtain ⟨D, h1, h2, h3, h4, h5⟩ := h
    exact ⟨D, h1, h2, by omega, h4, h5⟩
/-- What is left when a frame has taken over its marks: cells, and what lies below M. -/
structure Left (M : Nat) (W W' : World) : Prop where
  os : W'.os = W.os
  tape : W'.tape = W.tape
  output : W'.output = W.output
  size : W'.heap.size = W.heap.size
  cells : ∀ (k : Nat) (o : Obj), W.heap[k]? = some o → o.isCells = true → W'.heap[k]? = some o
  low : ∀ k, k < M → W'.heap[k]? = W.heap[k]?
theorem Left.refl (M : Nat) (W : World) : Left M W W := ⟨rfl, rfl, rfl, rfl, fun _ _ h _ => h, fun _ _ => rfl⟩
theorem leaves_marks {F : Fence} {n : Nat} {P : Program} {fn : Func} {tmps : Array Value} {R : Ending → World → Prop} {M : Nat} : ∀ {N : Nat} {ds : List Deferred} {W : World}, Marks M N ds W →
    (∀ W', Left M W W' → LeavesIn F n P fn tmps R [] .returning W') → LeavesInM F n P fn tmps R ds .returning W
  | _, [], W, _, h => h W (Left.refl _ _)
  | _, _ :: _, W, ⟨D, h1, h2, h3, h4, h5⟩, h => by
    subst h1
    refine ⟨by simp, .inl ⟨_, _, rfl, run_takeDeferred h4, leaves_marks (h5.kept fun k o hk ho _ => ?_) fun W' hl => h W' ?_⟩⟩
    · rw [← ho]
      simp [World.putObj, Array.getElem?_setIfInBounds]
      omega
    · have hq : ∀ k, k ≠ D → (W.putObj D (.deferred none)).heap[k]? = W.heap[k]? := fun k hk => by
        simp [World.putObj, Array.getElem?_setIfInBounds]
        omega
      refine ⟨hl.os, hl.tape, hl.output, by rw [hl.size]; simp [World.putObj], fun k o ho hc => hl.cells k o ?_ hc, fun k hk => (hl.low k hk).trans (hq k (by omega))⟩
      rw [hq k (fun e => by subst e; rw [h4] at ho; cases ho; cases hc)]
      exact ho

theorem below_left {M B : Nat} {a w w' : World} (hl : Left M w w') (h : Below B a w) (hB : B ≤ M) : Below B a w' :=
  ⟨hl.os.trans h.os, hl.tape.trans h.tape, hl.output.trans h.output, by rw [hl.size]; exact h.size, fun k hk => (hl.low k (by omega)).trans (h.block k hk)⟩
theorem others_below {a b : World} (h : Below a.heap.size a b) : KeepsOthers a b := ⟨h.size, fun k o hk _ => by rw [← hk]; exact h.block k (Array.getElem?_eq_some_iff.1 hk).1⟩
theorem Bar.add {N : Nat} {X Y : List Nat} {a b : World} (h : Bar N X a b) (hXY : ∀ x ∈ X, x ∈ Y) : Bar N Y a b := ⟨h.os, h.tape, h.output, h.size, fun k hk hx => h.block k hk fun e => hx (hXY k e)⟩
end

section
open Go.RowKit
attribute [local go_sem] Oper.semAt_some wide_fn wide_depth
set_option linter.unusedVariables false
set_option linter.unusedSimpArgs false

/-- Events and an error, handed back. -/
def RetEvE (w : World) (p : List Te × Int) (e : Ending) (w' : World) : Prop := ∃ A n c k, e = .returned (.tuple #[.slice A n c, .int .i64 p.2]) ∧ dE k = p.1 ∧ EvR w' w'.heap.size A n k ∧ n ≤ c ∧ Below w.heap.size w w'
theorem res_cells {F : Func} {b1 b2 i j : Nat} {t1 t2 : TypeId} {v1 v2 : Value} {w : World} {tmps : Array Value} (hF : F.results = #[.cell i t1, .cell j t2]) (h6 : tmps.getD i undef = .pointer (some ⟨b1, 0, none⟩)) (h7 : tmps.getD j undef = .pointer (some ⟨b2, 0, none⟩)) (h1 : w.cell? ⟨b1, 0, none⟩ = some v1) (h2 : w.cell? ⟨b2, 0, none⟩ = some v2)
    (g1 : ∀ w, (isAgg t1).run Tryz.prog w = .ok false w) (g2 : ∀ w, (isAgg t2).run Tryz.prog w = .ok false w) :
    (results F tmps).run Tryz.prog w = .ok (.tuple #[v1, v2]) w := by
  simp only [Array.getD_eq_getD_getElem?] at h6 h7
  simp only [results, hF]
  simp [Sem.run_bind, h6, h7]
  go_simp
theorem two_ends {N : Nat} {w W : World} {a b : Nat} {t1 t2 : TypeId} {v0 e0 : Value} (hB : Below N w W) (hr : Boxed W a t1 v0) (he : Boxed W b t2 e0) (hab : a ≠ b) (ha : N ≤ a) (hb : N ≤ b) (u x : Value) :
    ((W.setCell ⟨a, 0, none⟩ u).setCell ⟨b, 0, none⟩ x).cell? ⟨a, 0, none⟩ = some u ∧ ((W.setCell ⟨a, 0, none⟩ u).setCell ⟨b, 0, none⟩ x).cell? ⟨b, 0, none⟩ = some x ∧ Below N w ((W.setCell ⟨a, 0, none⟩ u).setCell ⟨b, 0, none⟩ x) ∧
    W.cell? ⟨a, 0, none⟩ = some v0 ∧ W.frozen? ⟨a, 0, none⟩ = false ∧ (W.setCell ⟨a, 0, none⟩ u).cell? ⟨b, 0, none⟩ = some e0 ∧ (W.setCell ⟨a, 0, none⟩ u).frozen? ⟨b, 0, none⟩ = false := by
  have h1 := Boxed.setOther (hr.set u) (p := ⟨b, 0, none⟩) (by show a ≠ b; exact hab) x
  have h2 := Boxed.setOther he (p := ⟨a, 0, none⟩) (by show b ≠ a; exact fun e => hab e.symm) u
  have h3 := h2.set x
  exact ⟨h1.cell, h3.cell, (hB.setCell (p := ⟨a, 0, none⟩) ha _).setCell (p := ⟨b, 0, none⟩) hb _, hr.cell, hr.frozen, h2.cell, h2.frozen⟩
theorem EvR.step' {w w' : World} {A : Option Addr} {n : Nat} {l : List Ev} (h : EvR w w.heap.size A n l) (hb : Below w.heap.size w w') : EvR w' w'.heap.size A n l := h.step hb
theorem EvE_bad {w W : World} (hB : Below w.heap.size w W) (E : Int) : RetEvE w ([], E) (.returned (.tuple #[.slice none 0 0, .int .i64 E])) W := ⟨none, 0, 0, [], rfl, rfl, EvR.nil _ _, Nat.le_refl _, hB⟩


set_option maxRecDepth 100000 in
set_option maxHeartbeats 8000000 in
theorem Intervals_bad (A1 : Option Addr) (n1 c1 : Nat) (on : List Int) (A2 : Option Addr) (n2 c2 : Nat) (others : List Int) (lo hi : Int) (A3 : Option Addr) (n3 c3 : Nat) (ll : List Ev) (A4 : Option Addr) (n4 c4 : Nat) (lr : List Ev) (w : World)
    (h1 : Reads w w.heap.size 1 A1 n1 (on.map (Value.int .i64))) (h2 : Reads w w.heap.size 1 A2 n2 (others.map (Value.int .i64))) (hn1 : n1 ≤ 1000) (hn2 : n2 ≤ 1000) (h3 : EvR w w.heap.size A3 n3 ll) (h4 : EvR w w.heap.size A4 n4 lr) (hm3 : n3 ≤ 100000) (hm4 : n4 ≤ 100000)
    (hbad : (evsB (dE ll) && evsB (dE lr) && (fitK on others && (insK on 8 && (insK others 8 && (spanB lo hi && (hasE (dE ll) on && hasE (dE lr) others)))))) = false) :
    CallsIn Fence.wide 2 Tryz.prog 14 #[.slice A1 n1 c1, .slice A2 n2 c2, .int .i64 lo, .int .i64 hi, .slice A3 n3 c3, .slice A4 n4 c4] w (RetEvE w (intB on others lo hi (dE ll) (dE lr))) := by
  obtain ⟨p, hp⟩ : ∃ p, intB on others lo hi (dE ll) (dE lr) = p := ⟨_, rfl⟩
  rw [hp]
  unfold intB intE at hp
  have HL1 := hide h1.len1
  have HL2 := hide h2.len1
  obtain ⟨o1, r1⟩ : ∃ b, evsB (dE ll) = b := ⟨_, rfl⟩
  obtain ⟨o2, r2⟩ : ∃ b, evsB (dE lr) = b := ⟨_, rfl⟩
  obtain ⟨o3, r3⟩ : ∃ b, fitK on others = b := ⟨_, rfl⟩
  obtain ⟨o4, r4⟩ : ∃ b, insK on 8 = b := ⟨_, rfl⟩
  obtain ⟨o5, r5⟩ : ∃ b, insK others 8 = b := ⟨_, rfl⟩
  obtain ⟨o6, r6⟩ : ∃ b, spanB lo hi = b := ⟨_, rfl⟩
  obtain ⟨o7, r7⟩ : ∃ b, hasE (dE ll) on = b := ⟨_, rfl⟩
  obtain ⟨o8, r8⟩ : ∃ b, hasE (dE lr) others = b := ⟨_, rfl⟩
  rw [r1, r2, r3, r4, r5, r6, r7, r8] at hp hbad
  have HP := hide hp
  clear hp
  have hB0 : Below w.heap.size w (((((w.alloc (.cells #[.int .i64 lo] 3)).alloc (.cells #[.int .i64 hi] 3)).alloc (.cells #[.slice none 0 0] 25)).alloc (.cells #[.int .i64 0] 28)).alloc (.cells #[.slice A1 n1 c1, .slice A2 n2 c2] 91)) :=
    (((((Below.refl _ _).alloc (Nat.le_refl _) _).alloc (by simp) _).alloc (by simp; omega) _).alloc (by simp; omega) _).alloc (by simp; omega) _
  have hs0 : (((((w.alloc (.cells #[.int .i64 lo] 3)).alloc (.cells #[.int .i64 hi] 3)).alloc (.cells #[.slice none 0 0] 25)).alloc (.cells #[.int .i64 0] 28)).alloc (.cells #[.slice A1 n1 c1, .slice A2 n2 c2] 91)).heap.size = w.heap.size + 5 := by simp
  have x0 := ((((Boxed.new w 3 (.int .i64 lo)).alloc (.cells #[.int .i64 hi] 3)).alloc (.cells #[.slice none 0 0] 25)).alloc (.cells #[.int .i64 0] 28)).alloc (.cells #[.slice A1 n1 c1, .slice A2 n2 c2] 91)
  have x1 := (((Boxed.new (w.alloc (.cells #[.int .i64 lo] 3)) 3 (.int .i64 hi)).alloc (.cells #[.slice none 0 0] 25)).alloc (.cells #[.int .i64 0] 28)).alloc (.cells #[.slice A1 n1 c1, .slice A2 n2 c2] 91)
  have x2 := ((Boxed.new ((w.alloc (.cells #[.int .i64 lo] 3)).alloc (.cells #[.int .i64 hi] 3)) 25 (.slice none 0 0)).alloc (.cells #[.int .i64 0] 28)).alloc (.cells #[.slice A1 n1 c1, .slice A2 n2 c2] 91)
  have x3 := (Boxed.new (((w.alloc (.cells #[.int .i64 lo] 3)).alloc (.cells #[.int .i64 hi] 3)).alloc (.cells #[.slice none 0 0] 25)) 28 (.int .i64 0)).alloc (.cells #[.slice A1 n1 c1, .slice A2 n2 c2] 91)
  have x4 := Blk.new ((((w.alloc (.cells #[.int .i64 lo] 3)).alloc (.cells #[.int .i64 hi] 3)).alloc (.cells #[.slice none 0 0] 25)).alloc (.cells #[.int .i64 0] 28)) 91 #[.slice A1 n1 c1, .slice A2 n2 c2]
  simp only [World.size_alloc] at x1 x2 x3 x4
  refine callsIn_of_wp_marks Tryz.func14 rfl trivial ?_ rfl
  simp only [Tryz.ntmps14, List.size_toArray, List.length_cons, List.length_nil, Nat.reduceAdd, Nat.reduceSub, Array.replicate_succ, Array.replicate_zero, List.push_toArray, List.append_toArray, List.nil_append, List.cons_append]
  gi_wp2_with fail
  obtain ⟨W0, hW0⟩ : ∃ W0, (((((w.alloc (.cells #[.int .i64 lo] 3)).alloc (.cells #[.int .i64 hi] 3)).alloc (.cells #[.slice none 0 0] 25)).alloc (.cells #[.int .i64 0] 28)).alloc (.cells #[.slice A1 n1 c1, .slice A2 n2 c2] 91)) = W0 := ⟨_, rfl⟩
  rw [hW0] at hB0 hs0 x0 x1 x2 x3 x4 ⊢
  clear hW0
  have PA := hide h1
  have PB := hide h2
  have PC := hide h3
  have PD := hide h4
  have X0 := hide x0
  have X1 := hide x1
  have X2 := hide x2
  have X3 := hide x3
  have X4 := hide x4
  clear h1 h2 h3 h4 x0 x1 x2 x3 x4
  have bk0 : Below (w.heap.size + 5) W0 W0 := Below.refl _ _
  refine (callsIn_wide.2 (events_any A3 n3 c3 ll W0 (PC.out.step' hB0))).mono ?_
  rintro e W1 ⟨rfl, hb⟩
  have hB1 := bstep hB0 hb
  have bk1 : Below (w.heap.size + 5) W0 W1 := bk0.trans (hb.mono (by have := bk0.size; omega))
  clear hb hB0 bk0
  rw [r1]
  cases o1
  · skip
    obtain ⟨z1, z2, z3, z4, z5, z6, z7⟩ := two_ends hB1 ((bk1.block (w.heap.size + 1 + 1) (by omega)).trans X2.out : Boxed W1 (w.heap.size + 1 + 1) _ _) ((bk1.block (w.heap.size + 1 + 1 + 1) (by omega)).trans X3.out : Boxed W1 (w.heap.size + 1 + 1 + 1) _ _) (by omega) (by omega) (by omega) (.slice none 0 0) (.int .i64 1)
    gi_wp2
    refine ⟨_, res_cells rfl rfl rfl z1 z2 (by intro w; go_simp) (by intro w; go_simp), ?_⟩
    rw [show p = ([], 1) from HP.out.symm.trans (by first | rfl | simp)]
    exact EvE_bad z3 1
  · skip
    gi_wp2_with fail
    refine (callsIn_wide.2 (events_any A4 n4 c4 lr W1 (PD.out.step' hB1))).mono ?_
    rintro e W2 ⟨rfl, hb⟩
    have hB2 := bstep hB1 hb
    have bk2 : Below (w.heap.size + 5) W0 W2 := bk1.trans (hb.mono (by have := bk1.size; omega))
    clear hb hB1 bk1
    rw [r2]
    cases o2
    · skip
      obtain ⟨z1, z2, z3, z4, z5, z6, z7⟩ := two_ends hB2 ((bk2.block (w.heap.size + 1 + 1) (by omega)).trans X2.out : Boxed W2 (w.heap.size + 1 + 1) _ _) ((bk2.block (w.heap.size + 1 + 1 + 1) (by omega)).trans X3.out : Boxed W2 (w.heap.size + 1 + 1 + 1) _ _) (by omega) (by omega) (by omega) (.slice none 0 0) (.int .i64 1)
      gi_wp2
      refine ⟨_, res_cells rfl rfl rfl z1 z2 (by intro w; go_simp) (by intro w; go_simp), ?_⟩
      rw [show p = ([], 1) from HP.out.symm.trans (by first | rfl | simp)]
      exact EvE_bad z3 1
    · skip
      have d0 : W2.cell? ⟨w.heap.size, 0, none⟩ = some (.int .i64 lo) := Boxed.cell (show Boxed W2 (w.heap.size) 3 (.int .i64 lo) from (bk2.block (w.heap.size) (by omega)).trans X0.out)
      have d1 : W2.cell? ⟨w.heap.size + 1, 0, none⟩ = some (.int .i64 hi) := Boxed.cell (show Boxed W2 (w.heap.size + 1) 3 (.int .i64 hi) from (bk2.block (w.heap.size + 1) (by omega)).trans X1.out)
      have q4 : Blk W2 (w.heap.size + 1 + 1 + 1 + 1) 91 #[.slice A1 n1 c1, .slice A2 n2 c2] := (bk2.block (w.heap.size + 1 + 1 + 1 + 1) (by omega)).trans X4.out
      have d4 : W2.cell? ⟨w.heap.size + 1 + 1 + 1 + 1, 0, none⟩ = some (.slice A1 n1 c1) := by simpa using q4.cell 0
      have d5 : W2.cell? ⟨w.heap.size + 1 + 1 + 1 + 1, 1, none⟩ = some (.slice A2 n2 c2) := by simpa using q4.cell 1
      clear q4
      gi_wp2_with fail
      refine (callsIn_wide.2 (sized_any A1 n1 c1 A2 n2 c2 on others W2 HL1.out HL2.out (by omega) (by omega))).mono ?_
      rintro e W3 ⟨rfl, hb⟩
      have hB3 := bstep hB2 hb
      have bk3 : Below (w.heap.size + 5) W0 W3 := bk2.trans (hb.mono (by have := bk2.size; omega))
      clear hb hB2 bk2
      rw [r3]
      cases o3
      · skip
        obtain ⟨z1, z2, z3, z4, z5, z6, z7⟩ := two_ends hB3 ((bk3.block (w.heap.size + 1 + 1) (by omega)).trans X2.out : Boxed W3 (w.heap.size + 1 + 1) _ _) ((bk3.block (w.heap.size + 1 + 1 + 1) (by omega)).trans X3.out : Boxed W3 (w.heap.size + 1 + 1 + 1) _ _) (by omega) (by omega) (by omega) (.slice none 0 0) (.int .i64 9)
        gi_wp2
        refine ⟨_, res_cells rfl rfl rfl z1 z2 (by intro w; go_simp) (by intro w; go_simp), ?_⟩
        rw [show p = ([], 9) from HP.out.symm.trans (by first | rfl | simp)]
        exact EvE_bad z3 9
      · skip
        clear d0 d1 d4 d5
        have d0 : W3.cell? ⟨w.heap.size, 0, none⟩ = some (.int .i64 lo) := Boxed.cell (show Boxed W3 (w.heap.size) 3 (.int .i64 lo) from (bk3.block (w.heap.size) (by omega)).trans X0.out)
        have d1 : W3.cell? ⟨w.heap.size + 1, 0, none⟩ = some (.int .i64 hi) := Boxed.cell (show Boxed W3 (w.heap.size + 1) 3 (.int .i64 hi) from (bk3.block (w.heap.size + 1) (by omega)).trans X1.out)
        have q4 : Blk W3 (w.heap.size + 1 + 1 + 1 + 1) 91 #[.slice A1 n1 c1, .slice A2 n2 c2] := (bk3.block (w.heap.size + 1 + 1 + 1 + 1) (by omega)).trans X4.out
        have d4 : W3.cell? ⟨w.heap.size + 1 + 1 + 1 + 1, 0, none⟩ = some (.slice A1 n1 c1) := by simpa using q4.cell 0
        have d5 : W3.cell? ⟨w.heap.size + 1 + 1 + 1 + 1, 1, none⟩ = some (.slice A2 n2 c2) := by simpa using q4.cell 1
        clear q4
        gi_wp2_with fail
        refine (callsIn_wide.2 (below_any A1 n1 c1 on A2 n2 c2 others 8 8 W3 (PA.out.up hB3) (PB.out.up hB3) (by omega) (by omega) (by omega) (by omega))).mono ?_
        rintro e W4 ⟨rfl, hb⟩
        have hB4 := bstep hB3 hb
        have bk4 : Below (w.heap.size + 5) W0 W4 := bk3.trans (hb.mono (by have := bk3.size; omega))
        clear hb hB3 bk3
        rw [r4, r5]
        cases o4
        · skip
          rw [Bool.false_and]
          obtain ⟨z1, z2, z3, z4, z5, z6, z7⟩ := two_ends hB4 ((bk4.block (w.heap.size + 1 + 1) (by omega)).trans X2.out : Boxed W4 (w.heap.size + 1 + 1) _ _) ((bk4.block (w.heap.size + 1 + 1 + 1) (by omega)).trans X3.out : Boxed W4 (w.heap.size + 1 + 1 + 1) _ _) (by omega) (by omega) (by omega) (.slice none 0 0) (.int .i64 7)
          gi_wp2
          refine ⟨_, res_cells rfl rfl rfl z1 z2 (by intro w; go_simp) (by intro w; go_simp), ?_⟩
          rw [show p = ([], 7) from HP.out.symm.trans (by first | rfl | simp)]
          exact EvE_bad z3 7
        · skip
          cases o5
          · skip
            rw [Bool.and_false]
            obtain ⟨z1, z2, z3, z4, z5, z6, z7⟩ := two_ends hB4 ((bk4.block (w.heap.size + 1 + 1) (by omega)).trans X2.out : Boxed W4 (w.heap.size + 1 + 1) _ _) ((bk4.block (w.heap.size + 1 + 1 + 1) (by omega)).trans X3.out : Boxed W4 (w.heap.size + 1 + 1 + 1) _ _) (by omega) (by omega) (by omega) (.slice none 0 0) (.int .i64 7)
            gi_wp2
            refine ⟨_, res_cells rfl rfl rfl z1 z2 (by intro w; go_simp) (by intro w; go_simp), ?_⟩
            rw [show p = ([], 7) from HP.out.symm.trans (by first | rfl | simp)]
            exact EvE_bad z3 7
          · skip
            rw [Bool.and_true]
            clear d0 d1 d4 d5
            have d0 : W4.cell? ⟨w.heap.size, 0, none⟩ = some (.int .i64 lo) := Boxed.cell (show Boxed W4 (w.heap.size) 3 (.int .i64 lo) from (bk4.block (w.heap.size) (by omega)).trans X0.out)
            have d1 : W4.cell? ⟨w.heap.size + 1, 0, none⟩ = some (.int .i64 hi) := Boxed.cell (show Boxed W4 (w.heap.size + 1) 3 (.int .i64 hi) from (bk4.block (w.heap.size + 1) (by omega)).trans X1.out)
            gi_wp2_with fail
            refine (callsIn_wide.2 (ranged_any lo hi W4)).mono ?_
            rintro e w' ⟨rfl, rfl⟩
            rw [r6]
            cases o6
            · skip
              obtain ⟨z1, z2, z3, z4, z5, z6, z7⟩ := two_ends hB4 ((bk4.block (w.heap.size + 1 + 1) (by omega)).trans X2.out : Boxed W4 (w.heap.size + 1 + 1) _ _) ((bk4.block (w.heap.size + 1 + 1 + 1) (by omega)).trans X3.out : Boxed W4 (w.heap.size + 1 + 1 + 1) _ _) (by omega) (by omega) (by omega) (.slice none 0 0) (.int .i64 7)
              gi_wp2
              refine ⟨_, res_cells rfl rfl rfl z1 z2 (by intro w; go_simp) (by intro w; go_simp), ?_⟩
              rw [show p = ([], 7) from HP.out.symm.trans (by first | rfl | simp)]
              exact EvE_bad z3 7
            · skip
              gi_wp2_with fail
              refine (callsIn_wide.2 (lacking_any A1 n1 c1 on A3 n3 c3 ll W4 (PA.out.up hB4) (by omega) (PC.out.step' hB4) hm3)).mono ?_
              rintro e W5 ⟨rfl, hb⟩
              have hB5 := bstep hB4 hb
              have bk5 : Below (w.heap.size + 5) W0 W5 := bk4.trans (hb.mono (by have := bk4.size; omega))
              clear hb hB4 bk4
              rw [r7]
              cases o7
              · skip
                obtain ⟨z1, z2, z3, z4, z5, z6, z7⟩ := two_ends hB5 ((bk5.block (w.heap.size + 1 + 1) (by omega)).trans X2.out : Boxed W5 (w.heap.size + 1 + 1) _ _) ((bk5.block (w.heap.size + 1 + 1 + 1) (by omega)).trans X3.out : Boxed W5 (w.heap.size + 1 + 1 + 1) _ _) (by omega) (by omega) (by omega) (.slice none 0 0) (.int .i64 7)
                gi_wp2
                refine ⟨_, res_cells rfl rfl rfl z1 z2 (by intro w; go_simp) (by intro w; go_simp), ?_⟩
                rw [show p = ([], 7) from HP.out.symm.trans (by first | rfl | simp)]
                exact EvE_bad z3 7
              · skip
                gi_wp2_with fail
                refine (callsIn_wide.2 (lacking_any A2 n2 c2 others A4 n4 c4 lr W5 (PB.out.up hB5) (by omega) (PD.out.step' hB5) hm4)).mono ?_
                rintro e W6 ⟨rfl, hb⟩
                have hB6 := bstep hB5 hb
                have bk6 : Below (w.heap.size + 5) W0 W6 := bk5.trans (hb.mono (by have := bk5.size; omega))
                clear hb hB5 bk5
                rw [r8]
                cases o8
                · skip
                  obtain ⟨z1, z2, z3, z4, z5, z6, z7⟩ := two_ends hB6 ((bk6.block (w.heap.size + 1 + 1) (by omega)).trans X2.out : Boxed W6 (w.heap.size + 1 + 1) _ _) ((bk6.block (w.heap.size + 1 + 1 + 1) (by omega)).trans X3.out : Boxed W6 (w.heap.size + 1 + 1 + 1) _ _) (by omega) (by omega) (by omega) (.slice none 0 0) (.int .i64 7)
                  gi_wp2
                  refine ⟨_, res_cells rfl rfl rfl z1 z2 (by intro w; go_simp) (by intro w; go_simp), ?_⟩
                  rw [show p = ([], 7) from HP.out.symm.trans (by first | rfl | simp)]
                  exact EvE_bad z3 7
                · skip
                  cases hbad
end

end Go.Proofs.YtoapjidpfghnlaaGreatDoor
