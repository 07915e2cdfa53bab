/-
  The walk of deck.Order, for every graph.
-/
import Derived.Test.YtblepaocekojbaaDkOr1
import Derived.Test.YtblepaocekojbaaDkTk
import Derived.Test.YtblepaocekojbaaDkReg
namespace Go.Proofs.Ytblepaocekojbaa
open Go.RowKit Go.Shelf Go.Deep
attribute [local go_sem] Oper.semAt_some wide_fn wide_depth

/-- The marks that ranges over a function have left among a frame's deferred calls: blocks between M and N, each below the one behind it. -/
def Marks (M : Nat) : Nat → List Deferred → World → Prop
  | _, [], _ => True
  | N, d :: ds, W => ∃ D, d = { target := .collected D, args := #[] } ∧ M ≤ D ∧ D < N ∧ W.heap[D]? = some (.deferred (some [])) ∧ Marks M D ds W
theorem Marks.kept {M : Nat} {W W' : World} : ∀ {N : Nat} {ds : List Deferred}, Marks M N ds W → (∀ k o, k < N → W.heap[k]? = some o → o.isCells = false → W'.heap[k]? = some o) → Marks M N ds W'
  | _, [], _, _ => trivial
  | _, _ :: _, ⟨D, h1, h2, h3, h4, h5⟩, hk => ⟨D, h1, h2, h3, hk _ _ h3 h4 rfl, h5.kept fun k o hk1 => hk k o (Nat.lt_trans hk1 h3)⟩
theorem Marks.mono {M N N' : Nat} {ds : List Deferred} {W : World} (h : Marks M N ds W) (hN : N ≤ N') : Marks M N' ds W := by
  cases ds with
  | nil => trivial
  | cons d ds =>
    obtain ⟨D, h1, h2, h3, h4, h5⟩ := h
    exact ⟨D, h1, h2, by omega, h4, h5⟩
/-- What is left when a frame has taken over its marks: cells, and what lies below M. -/
structure Left (M : Nat) (W W' : World) : Prop where
  os : W'.os = W.os
  tape : W'.tape = W.tape
  output : W'.output = W.output
  size : W'.heap.size = W.heap.size
  cells : ∀ (k : Nat) (o : Obj), W.heap[k]? = some o → o.isCells = true → W'.heap[k]? = some o
  low : ∀ k, k < M → W'.heap[k]? = W.heap[k]?
theorem Left.refl (M : Nat) (W : World) : Left M W W := ⟨rfl, rfl, rfl, rfl, fun _ _ h _ => h, fun _ _ => rfl⟩
theorem leaves_marks {F : Fence} {n : Nat} {P : Program} {fn : Func} {tmps : Array Value} {R : Ending → World → Prop} {M : Nat} : ∀ {N : Nat} {ds : List Deferred} {W : World}, Marks M N ds W →
    (∀ W', Left M W W' → LeavesIn F n P fn tmps R [] .returning W') → LeavesInM F n P fn tmps R ds .returning W
  | _, [], W, _, h => h W (Left.refl _ _)
  | _, _ :: _, W, ⟨D, h1, h2, h3, h4, h5⟩, h => by
    subst h1
    refine ⟨by simp, .inl ⟨_, _, rfl, run_takeDeferred h4, leaves_marks (h5.kept fun k o hk ho _ => ?_) fun W' hl => h W' ?_⟩⟩
    · rw [← ho]
      simp [World.putObj, Array.getElem?_setIfInBounds]
      omega
    · have hq : ∀ k, k ≠ D → (W.putObj D (.deferred none)).heap[k]? = W.heap[k]? := fun k hk => by
        simp [World.putObj, Array.getElem?_setIfInBounds]
        omega
      refine ⟨hl.os, hl.tape, hl.output, by rw [hl.size]; simp [World.putObj], fun k o ho hc => hl.cells k o ?_ hc, fun k hk => (hl.low k hk).trans (hq k (by omega))⟩
      rw [hq k (fun e => by subst e; rw [h4] at ho; cases ho; cases hc)]
      exact ho

theorem own_left {M : Nat} {w w' : World} {base : Nat} {e : TypeId} {size n : Nat} {v : Value} {xs : List Value} (hl : Left M w w') (h : w.ownsRow base e size v n xs) : w'.ownsRow base e size v n xs := by
  refine ⟨h.1, ?_⟩
  rcases h.2 with h1 | ⟨g, cap, cur, h1, h2, h3, h4⟩
  · exact .inl h1
  · exact .inr ⟨g, cap, cur, h1, h2, hl.cells g _ h3 rfl, h4⟩
theorem below_left {M B : Nat} {a w w' : World} (hl : Left M w w') (h : Below B a w) (hB : B ≤ M) : Below B a w' :=
  ⟨hl.os.trans h.os, hl.tape.trans h.tape, hl.output.trans h.output, by rw [hl.size]; exact h.size, fun k hk => (hl.low k (by omega)).trans (h.block k hk)⟩
theorem others_below {a b : World} (h : Below a.heap.size a b) : KeepsOthers a b := ⟨h.size, fun k o hk _ => by rw [← hk]; exact h.block k (Array.getElem?_eq_some_iff.1 hk).1⟩
theorem Bar.add {N : Nat} {X Y : List Nat} {a b : World} (h : Bar N X a b) (hXY : ∀ x ∈ X, x ∈ Y) : Bar N Y a b := ⟨h.os, h.tape, h.output, h.size, fun k hk hx => h.block k hk fun e => hx (hXY k e)⟩
def nf (i : Nat) : Value := .int .i64 (i : Int)
/-- What lies in memory at the head of a round: the first k tasks are done, and in the list. -/
structure OSt (n gb k : Nat) (W2 wr : World) : Prop where
  dn : wr.rowIs gb 4 n (fun j => .bool (decide (j < k)))
  ow : ∃ v, Boxed wr (gb + 1 + 1) 22 v ∧ wr.ownsRow (gb + 3) 3 1 v k (rowL k nf)
  bar : Bar (gb + 3) [gb, gb + 1 + 1] W2 wr
/-- .. behind a task that was taken in that round. -/
structure OTk (n gb k x M N : Nat) (ds : List Deferred) (W2 wr : World) : Prop where
  dn : wr.rowIs gb 4 n (fun j => .bool (if j = x then true else decide (j < k)))
  ow : ∃ v, Boxed wr (gb + 1 + 1) 22 v ∧ wr.ownsRow (gb + 3) 3 1 v (k + 1) (rowL k nf ++ [.int .i64 (x : Int)])
  bar : Bar (gb + 3) [gb, gb + 1 + 1] W2 wr
  mks : Marks M N ds wr
theorem otk_from {C n gb k M N : Nat} {ds : List Deferred} {W2 : World} (hC : gb + 3 ≤ C) (hN : N ≤ C) (h2 : gb + 3 ≤ W2.heap.size) : OwnFrom C (fun (x : Nat) W => OTk n gb k x M N ds W2 W) := by
  intro x X Y row h hg hr
  have hb : ∀ b, b < C → b < X.heap.size → Y.heap[b]? = X.heap[b]? := fun b h1 h3 => hg.block b h3 (fun e => by have := (hr b e.symm).1; omega)
  refine ⟨h.dn.of_block (hb _ (by omega) h.dn.lt), ?_, ?_, h.mks.kept fun k' o hk ho _ => ?_⟩
  · have := holdsRow_from C (gb + 3) (gb + 1 + 1) 22 3 1 (fun _ : Nat => k + 1) (fun x : Nat => rowL k nf ++ [.int .i64 (x : Int)])
    exact this x X Y row h.ow hg hr
  · exact ownFrom_bar (β := Unit) (B := C) h2 hC () X Y row h.bar hg hr
  · rw [← ho]; exact hb _ (by omega) (Array.getElem?_eq_some_iff.1 ho).1
theorem lft_first {k n : Nat} (h : k < n) : [k] <+: lft (fun j => decide (j < k)) n := by
  have h1 := lft_pre (fun j => decide (j < k)) (show k + 1 ≤ n by omega)
  rw [lft_succ, if_pos (by simp)] at h1
  have h2 : lft (fun j => decide (j < k)) k = [] := by
    unfold lft
    rw [List.filter_eq_nil_iff]
    intro a ha
    have := List.mem_range.1 ha
    simpa using this
  rwa [h2] at h1
theorem ord_free {g : Gr} (hv : validB g = true) {k : Nat} : g.es.any (keepB (fun j => decide (j < k)) k) = false := by
  rw [List.any_eq_false]
  intro e he
  obtain ⟨i, hi⟩ := List.getElem?_of_mem he
  obtain ⟨v1, v2, v3, _, _⟩ := ok_edge hv hi
  unfold keepB
  simp only [Bool.and_eq_true, decide_eq_true_eq, Bool.not_eq_true', decide_eq_false_iff_not, not_and]
  intro h
  omega
/-- A round of Order stops at the first task that is not done. -/
theorem ord_one {g : Gr} (hv : validB g = true) {k n : Nat} (hk : k < n) {pre : List (Tsk n)} {x : Tsk n} (hp : (pre ++ [x]).map (·.1) <+: lft (fun j => decide (j < k)) n)
    (hb : ∀ y ∈ pre, g.es.any (keepB (fun j => decide (j < k)) y.1) = true) : x.1 = k := by
  obtain ⟨r1, h1⟩ := hp
  obtain ⟨r2, h2⟩ := lft_first hk
  cases pre with
  | nil =>
    rw [← h2] at h1
    simpa using (List.cons.inj h1).1
  | cons y p =>
    rw [← h2] at h1
    have hy : y.1 = k := (List.cons.inj h1).1
    have := hb y (by simp)
    rw [hy, ord_free hv] at this
    cases this
theorem ord_not {g : Gr} (hv : validB g = true) {k n : Nat} (hk : k < n) {xs : List (Tsk n)} (hp : xs.map (·.1) = lft (fun j => decide (j < k)) n)
    (hb : ∀ y ∈ xs, g.es.any (keepB (fun j => decide (j < k)) y.1) = true) : False := by
  obtain ⟨r2, h2⟩ := lft_first hk
  rw [← h2] at hp
  cases xs with
  | nil => cases hp
  | cons y p =>
    have hy : y.1 = k := (List.cons.inj hp).1
    have := hb y (by simp)
    rw [hy, ord_free hv] at this
    cases this

/-- What is known behind 'out = append(out, t)' in a round of Order. -/
theorem ord_app {W w1 : World} {gb Bx n k xv : Nat} {D : Nat → Bool} {v v' : Value} {xs ys : List Value} {tmp : Obj} (hs : gb + 3 ≤ W.heap.size) (hv : Boxed W (gb + 1 + 1) 22 v) (hrow : W.ownsRow (gb + 3) 3 1 v k xs)
    (hne3 : some Bx ≠ v.ownBlock) (hdn : W.rowIs gb 4 n (fun j => .bool (D j))) (c4 : W.cell? ⟨gb + 1, 0, none⟩ = some (.slice (some ⟨gb, 0, none⟩) n n)) (hbx : Boxed W Bx 3 (.int .i64 (xv : Int))) (hx : xv < n)
    (hown' : w1.ownsRow (gb + 3) 3 1 v' (k + 1) ys) (hgrow : (W.alloc tmp).grownBy w1 v.ownBlock) (hBx : gb + 3 ≤ Bx) :
    w1.cell? ⟨gb + 1 + 1, 0, none⟩ = some v ∧ w1.frozen? ⟨gb + 1 + 1, 0, none⟩ = false ∧ (w1.setCell ⟨gb + 1 + 1, 0, none⟩ v').cell? ⟨gb + 1, 0, none⟩ = some (.slice (some ⟨gb, 0, none⟩) n n) ∧
    (w1.setCell ⟨gb + 1 + 1, 0, none⟩ v').cell? ⟨Bx, 0, none⟩ = some (.int .i64 (xv : Int)) ∧ (w1.setCell ⟨gb + 1 + 1, 0, none⟩ v').cell? ⟨gb, xv, none⟩ = some (.bool (D xv)) ∧ (w1.setCell ⟨gb + 1 + 1, 0, none⟩ v').frozen? ⟨gb, xv, none⟩ = false := by
  have hvl := hrow.lt
  have hne1 : some gb ≠ v.ownBlock := fun e => by have := (hvl _ e.symm).1; omega
  have hne2 : some (gb + 1) ≠ v.ownBlock := fun e => by have := (hvl _ e.symm).1; omega
  obtain ⟨hw1, hw2, hr2, hk2, hbr⟩ := Boxed.collected hv hrow hs (by omega) hown' hgrow
  have hbl := hbx.lt
  have ed := (rowIs_kept (hdn.alloc _) hgrow hne1).setOther (a := ⟨gb + 1 + 1, 0, none⟩) (by show gb ≠ gb + 1 + 1; omega) v'
  refine ⟨hw1.cell, hw1.frozen, ?_, ?_, ed.cell hx, ed.frozen xv⟩
  · rw [World.cell?_of_block (Below.heap_setCell _ _ _ (gb + 1) (by show gb + 1 ≠ gb + 1 + 1; omega))]
    exact (hgrow.cell_far ⟨gb + 1, 0, none⟩ (by simp; omega) hne2).trans ((World.cell?_alloc_lt W _ ⟨gb + 1, 0, none⟩ (by show gb + 1 < _; omega)).trans c4)
  · have h1 : Boxed w1 Bx 3 (.int .i64 (xv : Int)) := (hbx.alloc tmp).kept hgrow hne3
    exact (Boxed.setOther h1 (p := ⟨gb + 1 + 1, 0, none⟩) (by show Bx ≠ gb + 1 + 1; omega) v').cell
/-- .. and behind 'done[t] = true'. -/
theorem ord_tak {W w1 W2 : World} {gb n k xv M N : Nat} {ds : List Deferred} {v v' : Value} {tmp : Obj} (hs : gb + 3 ≤ W.heap.size) (hv : Boxed W (gb + 1 + 1) 22 v) (hrow : W.ownsRow (gb + 3) 3 1 v k (rowL k nf))
    (hdn : W.rowIs gb 4 n (fun j => .bool (decide (j < k)))) (hbar : Bar (gb + 3) [gb, gb + 1 + 1] W2 W) (hmk : Marks M N ds W)
    (hown' : w1.ownsRow (gb + 3) 3 1 v' (k + 1) (rowL k nf ++ [.int .i64 (xv : Int)])) (hgrow : (W.alloc tmp).grownBy w1 v.ownBlock) :
    KeepsOthers W ((w1.setCell ⟨gb + 1 + 1, 0, none⟩ v').setCell ⟨gb, xv, none⟩ (.bool true)) ∧ OTk n gb k xv M N ds W2 ((w1.setCell ⟨gb + 1 + 1, 0, none⟩ v').setCell ⟨gb, xv, none⟩ (.bool true)) := by
  have hvl := hrow.lt
  have hne1 : some gb ≠ v.ownBlock := fun e => by have := (hvl _ e.symm).1; omega
  obtain ⟨hw1, hw2, hr2, hk2, hbr⟩ := Boxed.collected hv hrow hs (by omega) hown' hgrow
  have ed := ((rowIs_kept (hdn.alloc _) hgrow hne1).setOther (a := ⟨gb + 1 + 1, 0, none⟩) (by show gb ≠ gb + 1 + 1; omega) v').set xv (.bool true)
  have hk3 := hk2.trans (KeepsOthers.setCell _ ⟨gb, xv, none⟩ (.bool true))
  refine ⟨hk3, ed.congr fun i _ => ?_, ⟨v', Boxed.setOther hw2 (by show gb + 1 + 1 ≠ gb; omega) _, ownsRow_setCell_below hr2 (by show gb < gb + 3; omega) _⟩, hbar.trans ((hbr.add (by simp)).setCell (.inr (by simp)) _), hmk.kept fun k' o _ ho hc => hk3.same k' o ho hc⟩
  split <;> rfl

set_option maxRecDepth 100000 in
set_option maxHeartbeats 1000000 in
theorem those_ord (g : Gr) (b4 : Nat) (w : World) : Calls Try.prog 50 #[.agg #[g.v1, g.v2], .func (Fn.func 58) #[] #[.pointer (some ⟨b4, 0, none⟩)]] w fun e w' =>
    e = .returned (.func (Fn.func 84) #[] #[.pointer (some ⟨w.heap.size, 0, none⟩), .pointer (some ⟨w.heap.size + 1, 0, none⟩)]) ∧ w' = (w.alloc (.cells #[g.v1, g.v2] 30)).alloc (.cells #[.func (Fn.func 58) #[] #[.pointer (some ⟨b4, 0, none⟩)]] 81) := by
  go_enter Try.func50, Try.ntmps50
  go_wp2
  go_ret
  exact ⟨rfl, rfl⟩

set_option maxRecDepth 100000 in
set_option maxHeartbeats 8000000 in
theorem Order_in (g : Gr) (w : World) (hg : g.Ok w w.heap.size) (hv : validB g = true) :
    CallsIn Fence.wide 3 Try.prog 29 #[.agg #[g.v1, g.v2]] w (RetSlE w 1 g.n1 (rowL g.n1 nf) 0) := by
  obtain ⟨i0, hi, hz0, hz1, hz2⟩ := info_parts infoInt_dk
  have hb := ok_ops hv
  have HV := hide hv
  have HL2 := hide (hg.r2.len encEd_len (by omega))
  have hB0 : Below w.heap.size w (w.alloc (.cells #[g.v1, g.v2] 30)) := (Below.refl _ _).alloc (Nat.le_refl _) _
  have b0 : Blk (w.alloc (.cells #[g.v1, g.v2] 30)) w.heap.size 30 #[g.v1, g.v2] := Blk.new w _ _
  have hs0 : (w.alloc (.cells #[g.v1, g.v2] 30)).heap.size = w.heap.size + 1 := World.size_alloc _ _
  have hbn : g.n2 ≤ 400 := by
    unfold validB at hv
    simp only [Bool.and_eq_true, decide_eq_true_eq] at hv
    exact hv.1.1.2
  clear hv
  refine callsIn_of_wp_marks Try.func29 rfl trivial ?_ rfl
  simp only [Try.ntmps29, List.size_toArray, List.length_cons, List.length_nil, Nat.reduceAdd, Nat.reduceSub, Array.replicate_succ, Array.replicate_zero, List.push_toArray, List.append_toArray, List.nil_append, List.cons_append]
  gi_wp2_with fail
  obtain ⟨W0, hW0⟩ : ∃ W0, w.alloc (.cells #[g.v1, g.v2] 30) = W0 := ⟨_, rfl⟩
  rw [hW0] at hB0 b0 hs0 ⊢
  clear hW0
  refine (callsIn_wide.2 (Valid_any g W0 (hg.up hB0) (by omega) (by omega))).mono ?_
  rintro e W1 ⟨rfl, hB1⟩
  rw [HV.out]
  have b1 := b0.below hB1 (by omega)
  have hB01 := bstep hB0 hB1
  have hs1 : w.heap.size < W1.heap.size := by have := hB1.size; omega
  clear b0 hB0 hB1 hs0
  have d0 := b1.cell 0
  simp at d0
  replace d0 : W1.cell? ⟨w.heap.size, 0, none⟩ = some (.slice g.a1 g.n1 g.c1) := d0
  have hmk := fun W => run_make_row' (P := Try.prog) 75 4 (.bool false) 1 Try.underlying75 infoBool_dk rfl .i64 .i64 g.n1 (by omega) (by omega) W
  have hB2 : Below W1.heap.size W1 (((W1.alloc (.cells (madeCells #[.bool false] g.n1) 4)).alloc (.cells #[.slice (some ⟨W1.heap.size, 0, none⟩) g.n1 g.n1] 75)).alloc (.cells #[.slice none 0 0] 22)) :=
    (((Below.refl _ _).alloc (Nat.le_refl _) _).alloc (by simp) _).alloc (by simp; omega) _
  have m2 := ((World.rowIs_made W1 (.bool false) g.n1 4).alloc (.cells #[.slice (some ⟨W1.heap.size, 0, none⟩) g.n1 g.n1] 75)).alloc (.cells #[.slice none 0 0] 22)
  have n4 := (Blk.new (W1.alloc (.cells (madeCells #[.bool false] g.n1) 4)) 75 #[.slice (some ⟨W1.heap.size, 0, none⟩) g.n1 g.n1]).alloc (.cells #[.slice none 0 0] 22)
  have n5 := Boxed.new ((W1.alloc (.cells (madeCells #[.bool false] g.n1) 4)).alloc (.cells #[.slice (some ⟨W1.heap.size, 0, none⟩) g.n1 g.n1] 75)) 22 (.slice none 0 0)
  have s2 : (((W1.alloc (.cells (madeCells #[.bool false] g.n1) 4)).alloc (.cells #[.slice (some ⟨W1.heap.size, 0, none⟩) g.n1 g.n1] 75)).alloc (.cells #[.slice none 0 0] 22)).heap.size = W1.heap.size + 3 := by simp
  rw [World.size_alloc] at n4 n5
  rw [World.size_alloc] at n5
  have d2 := (hB2.cell (p := ⟨w.heap.size, 0, none⟩) hs1).trans d0
  gi_wp2_with fail
  obtain ⟨W2, hW2⟩ : ∃ W2, ((W1.alloc (.cells (madeCells #[.bool false] g.n1) 4)).alloc (.cells #[.slice (some ⟨W1.heap.size, 0, none⟩) g.n1 g.n1] 75)).alloc (.cells #[.slice none 0 0] 22) = W2 := ⟨_, rfl⟩
  rw [hW2] at hB2 m2 n4 n5 s2 d2 ⊢
  obtain ⟨gb, zg⟩ : ∃ gb, W1.heap.size = gb := ⟨_, rfl⟩
  have hB02 := bstep hB01 hB2
  have hb2 := b1.below hB2 hs1
  rw [zg] at m2 n4 n5 s2 hs1 ⊢
  have hlo : Below gb W1 W2 := by rw [← zg]; exact hB2
  clear hW2 hmk d0 d2 hB01 hB2 b1 zg
  refine wpIn_loop (fun a wr => ∃ (k : Nat) (ds : List Deferred) (u6 u18 u19 u20 u21 u22 u23 u24 u25 u26 u27 u28 u29 u30 u31 u32 u33 u34 u35 u36 : Value), a = { tmps := #[.agg #[g.v1, g.v2], .pointer (some ⟨w.heap.size, 0, none⟩), .slice none 0 0, .int .i64 0, .pointer (some ⟨gb + 1, 0, none⟩), .pointer (some ⟨gb + 1 + 1, 0, none⟩), u6, .agg #[g.v1, g.v2], .bool true, .bool false, .pointer (some ⟨w.heap.size, 0, none⟩), .slice g.a1 g.n1 g.c1, .int .i64 g.n1, .slice (some ⟨gb, 0, none⟩) g.n1 g.n1, .pointer (some ⟨w.heap.size, 0, none⟩), .slice g.a1 g.n1 g.c1, .int .i64 g.n1, .int .i64 (k : Int), u18, u19, u20, u21, u22, u23, u24, u25, u26, u27, u28, u29, u30, u31, u32, u33, u34, u35, u36], defers := ds } ∧ k ≤ g.n1 ∧ Marks (gb + 3) wr.heap.size ds wr ∧ OSt g.n1 gb k W2 wr)
    (fun a _ => g.n1 - (intOf (a.tmps.getD 17 undef)).toNat) ?_ ?_
  · exact ⟨0, [], undef, undef, undef, undef, undef, undef, undef, undef, undef, undef, undef, undef, undef, undef, undef, undef, undef, undef, undef, undef, rfl, Nat.zero_le _, trivial, ⟨m2.congr fun i _ => by simp, ⟨_, n5, World.ownsRow_nil _ _ _ _⟩, Bar.refl _ _ _⟩⟩
  · rintro a wr ⟨k, ds, u6, u18, u19, u20, u21, u22, u23, u24, u25, u26, u27, u28, u29, u30, u31, u32, u33, u34, u35, u36, rfl, hk, hmk, hst⟩
    clear m2 n5
    have hB2r : Below gb W2 wr := hst.bar.below (by omega) (by simp; omega)
    have hBr : Below w.heap.size w wr := hB02.trans (hB2r.mono (by omega))
    have hsz := hst.bar.size
    have c4 : wr.cell? ⟨gb + 1, 0, none⟩ = some (.slice (some ⟨gb, 0, none⟩) g.n1 g.n1) := by
      rw [hst.bar.cell (p := ⟨gb + 1, 0, none⟩) (by show gb + 1 < _; omega) (by simp)]
      exact n4.cell 0
    have hbg := hb2.below hB2r hs1
    by_cases hlt : k < g.n1
    · have d0 := hbg.cell 0
      have d1 := hbg.cell 1
      simp at d0 d1
      replace d0 : wr.cell? ⟨w.heap.size, 0, none⟩ = some (.slice g.a1 g.n1 g.c1) := d0
      replace d1 : wr.cell? ⟨w.heap.size, 1, none⟩ = some (.slice g.a2 g.n2 g.c2) := d1
      gi_wp2_with fail
      refine (callsIn_wide.2 (those_ord g _ wr)).mono ?_
      rintro e W3 ⟨rfl, hW3⟩
      have hBx : Below wr.heap.size wr W3 := by rw [hW3]; exact ((Below.refl _ _).alloc (Nat.le_refl _) _).alloc (by simp) _
      have hs3 : W3.heap.size = wr.heap.size + 2 := by rw [hW3]; simp
      have c0 : W3.cell? ⟨wr.heap.size, 0, none⟩ = some (.slice g.a1 g.n1 g.c1) := by rw [hW3]; exact ((Blk.new wr 30 #[g.v1, g.v2]).alloc _).cell 0
      have c1 : W3.cell? ⟨wr.heap.size + 1, 0, none⟩ = some (.func (Fn.func 58) #[] #[.pointer (some ⟨gb + 1, 0, none⟩)]) := by
        rw [hW3]
        have := (Blk.new (wr.alloc (.cells #[g.v1, g.v2] 30)) 81 #[.func (Fn.func 58) #[] #[.pointer (some ⟨gb + 1, 0, none⟩)]]).cell 0
        rwa [World.size_alloc] at this
      clear hW3
      have hT : OTakes g.n1 g.a1 g.c1 (fun j => decide (j < k)) W3.heap.size wr.heap.size (wr.heap.size + 1) (gb + 1) gb g.n1 W3 :=
        ⟨by omega, by omega, by omega, by omega, c0, c1, (⟨c4, fun i hi => hst.dn.cell hi⟩ : Dones g.n1 (fun j => decide (j < k)) (gb + 1) gb g.n1 wr).below hBx (by omega) (by omega)⟩
      have hst3 : OSt g.n1 gb k W2 W3 := by
        obtain ⟨v, hv1, hv2⟩ := hst.ow
        exact ⟨hst.dn.of_block (hBx.block _ (by omega)), ⟨v, (hBx.block _ (by omega)).trans hv1, own_below hv2 hBx⟩, hst.bar.trans (Bar.of_below (hBx.mono (by omega)) _)⟩
      have hmk3 : Marks (gb + 3) wr.heap.size ds W3 := hmk.kept fun k' o hk' ho _ => by rw [← ho]; exact hBx.block _ hk'
      have hB3 : Below w.heap.size w W3 := bstep hBr hBx
      have hb3 := hbg.below hBx (by omega)
      clear c0 c1 hst hmk c4 d0 d1 hBx hbg
      gi_wp2_with fail
      refine wpIn_rangeFunc_ownH (n := 3) rfl (by omega) (gf := 84) (lb := #[.pointer (some ⟨wr.heap.size, 0, none⟩), .pointer (some ⟨wr.heap.size + 1, 0, none⟩)]) rfl trivial (enters_of Try.func84 (by kernel_rfl) rfl)
        (othose_stops 2 (by omega) hb.2 W3 (Nat.le_refl _) hT) belowK_t (belowK_b (Nat.le_refl _)) (Below.refl _ _) (fun _ => rfl)
        (fun pre W => (∀ y ∈ pre, g.es.any (keepB (fun j => decide (j < k)) y.1) = true) ∧ Below W3.heap.size W3 W)
        (fun c pre W => c = .exit 2 ∧ ∃ (pre' : List (Tsk g.n1)) (x : Tsk g.n1), pre = pre' ++ [x] ∧ (∀ y ∈ pre', g.es.any (keepB (fun j => decide (j < k)) y.1) = true) ∧ OTk g.n1 gb k x.1 (gb + 3) wr.heap.size ds W2 W)
        (OwnFrom.and (ownFrom_pure _ _) (ownFrom_below (Nat.le_refl _) (Nat.le_refl _)))
        (fun c pre X Y row ⟨h1, pre', x, h2, h3, h4⟩ hg' hr' => ⟨h1, pre', x, h2, h3, otk_from (gb := gb) (N := wr.heap.size) (W2 := W2) (C := W3.heap.size) (by omega) (by omega) (by omega) x.1 X Y row h4 hg' hr'⟩)
        ⟨by simp, Below.refl _ _⟩
        (fun x a' W => ∃ Bx, W3.heap.size ≤ Bx ∧ Boxed W Bx 3 (.int .i64 ((x.1 : Nat) : Int)) ∧ a' = { tmps := #[.agg #[g.v1, g.v2], .pointer (some ⟨w.heap.size, 0, none⟩), .slice none 0 0, .int .i64 0, .pointer (some ⟨gb + 1, 0, none⟩), .pointer (some ⟨gb + 1 + 1, 0, none⟩), .pointer (some ⟨Bx, 0, none⟩), .agg #[g.v1, g.v2], .bool true, .bool false, .pointer (some ⟨w.heap.size, 0, none⟩), .slice g.a1 g.n1 g.c1, .int .i64 g.n1, .slice (some ⟨gb, 0, none⟩) g.n1 g.n1, .pointer (some ⟨w.heap.size, 0, none⟩), .slice g.a1 g.n1 g.c1, .int .i64 g.n1, .int .i64 (k : Int), .bool true, .agg #[.slice g.a1 g.n1 g.c1, .slice g.a2 g.n2 g.c2], .func (Fn.func 58) #[] #[.pointer (some ⟨gb + 1, 0, none⟩)], .func (Fn.func 84) #[] #[.pointer (some ⟨wr.heap.size, 0, none⟩), .pointer (some ⟨wr.heap.size + 1, 0, none⟩)], .int .i64 ((x.1 : Nat) : Int), u23, u24, u25, u26, u27, u28, u29, u30, u31, u32, u33, u34, u35, u36], defers := [] })
        (fun x a' _ X Y row hs hg' hr' => by
          obtain ⟨Bx, h1, h2, h3⟩ := hs
          exact ⟨Bx, h1, boxed_own Bx 3 (fun (_ : Unit) => Value.int .i64 ((x.1 : Nat) : Int)) () X Y row h2 hg' (fun r e => (hr' r e).2), h3⟩)
        ?assign ?body ?done ?stop
      case assign =>
        rintro l pre x W K ⟨hpre, hB⟩ hK
        have hWs := hB.size
        dsimp only [encT]
        gi_wp2
        refine hK _ _ ((KeepsOthers.alloc _ _).from _) ((Below.refl _ _).alloc hWs _) ⟨hpre, hB.alloc hWs _⟩ ⟨W.heap.size, hWs, Boxed.new W 3 _, rfl⟩
      case body =>
        rintro l pre x a' W hl ⟨r, hr⟩ ⟨hpre, hB⟩ ⟨Bx, hBx1, hBx2, rfl⟩ hlt2
        have hWs := hB.size
        have d1 := (hb3.below hB (by omega)).cell 1
        simp at d1
        replace d1 : W.cell? ⟨w.heap.size, 1, none⟩ = some (.slice g.a2 g.n2 g.c2) := d1
        have hD := hT.dn.below hB (by omega) (by omega)
        have hBxl := hBx2.lt
        have hgW := (hg.up (bstep hB3 hB)).r2
        have hok : ∀ e ∈ g.es, 0 ≤ e.f ∧ e.f < (g.n1 : Int) := fun e he => by
          obtain ⟨i, hi'⟩ := List.getElem?_of_mem he
          obtain ⟨v1, v2, v3, _, _⟩ := ok_edge HV.out hi'
          omega
        gi_wp2_with fail
        refine ((callsIn_wide.2 (con_edge g.a2 g.n2 g.c2 W.heap.size g.es x.1 Bx W hgW hD hBx2.cell (Nat.le_refl _) hbn hok)).inRound l).mono ?_
        rintro e W4 ⟨rfl, hB4⟩
        clear d1 hD hgW hok
        have hB34 : Below W3.heap.size W3 W4 := bstep hB hB4
        cases hq : g.es.any (keepB (fun j => decide (j < k)) x.1)
        · obtain ⟨v, hv1, hv2⟩ := hst3.ow
          have hvl := hv2.lt
          have hv1' : Boxed W4 (gb + 1 + 1) 22 v := (hB34.block _ (by omega)).trans hv1
          have hv2' := own_below hv2 hB34
          have hdn := hst3.dn.of_block (hB34.block _ (by omega))
          have hbar := hst3.bar.trans (Bar.of_below (hB34.mono (by omega)) [gb, gb + 1 + 1])
          have hbx4 : Boxed W4 Bx 3 (.int .i64 ((x.1 : Nat) : Int)) := (hB4.block _ hBxl).trans hBx2
          have c4 : W4.cell? ⟨gb + 1, 0, none⟩ = some (.slice (some ⟨gb, 0, none⟩) g.n1 g.n1) := (hB34.cell (p := ⟨gb + 1, 0, none⟩) (by show gb + 1 < _; omega)).trans hT.dn.k4
          have hmk4 : Marks (gb + 3) wr.heap.size ds W4 := hmk3.kept fun k' o hk' ho _ => by rw [← ho]; exact hB34.block _ (by omega)
          have hW4s := hB34.size
          have hcb := hv1'.cell
          have hcx := hbx4.cell
          have hxn := x.2
          obtain ⟨xv, hxv⟩ : ∃ xv, x.1 = xv := ⟨_, rfl⟩
          have hne3 : some Bx ≠ v.ownBlock := fun e => by have := (hvl _ e.symm).2; omega
          rw [hxv] at hcx hbx4 hxn
          clear hst3
          have q1 : (0 : Int) ≤ (xv : Int) := by omega
          have q2 : (xv : Int) < (g.n1 : Int) := by omega
          gi_wp2_with (gi_at_builtin; refine wpListIn_append_own _ rfl _ _ 22 rfl (gb + 3) 3 i0 _ 1 8 Try.underlying22 hi hz0 hz1 hz2 rfl (by decide) _ _ _ rfl (hv2'.alloc _) ⟨W4.heap.size, 0, none⟩ 1 1 [.int .i64 (xv : Int)] rfl rfl (cells_new _ _ _) (by simp [Value.oneCell']) (by unfold maxLen; omega) (by omega) (by simp; omega) ?_; intro v' w1 hown' hgrow _; obtain ⟨g', cap', rfl⟩ := ownsRow_succ hown'; have zz := ord_app (n := g.n1) (D := fun j => decide (j < k)) (by omega) hv1' hv2' hne3 hdn c4 hbx4 hxn hown' hgrow (by omega); obtain ⟨e1, e2, e3, e4, e5, e6⟩ := zz)
          obtain ⟨hko, hok2⟩ := ord_tak (by omega) hv1' hv2' hdn hbar hmk4 hown' hgrow
          refine ⟨((others_below hB4).trans hko).from _, rfl, pre, x, rfl, hpre, ?_⟩
          rw [hxv]
          exact hok2
        · gi_wp2
          refine ⟨(others_below hB4).from _, hB4.mono hWs, ?_, hB34⟩
          intro y hy
          rcases List.mem_append.1 hy with hy | hy
          · exact hpre y hy
          · obtain rfl : y = x := by simpa using hy
            exact hq
      case done =>
        rintro D ys W hD hys ⟨hpre, hB⟩ hK
        exact (ord_not HV.out hlt hys hpre).elim
      case stop =>
        rintro D c pre W hD hpre ⟨rfl, pre', x, rfl, hb', htk⟩ hK
        have hx := ord_one HV.out hlt hpre hb'
        rw [hx] at htk
        have hRK := hide (rowL_snoc k nf)
        gi_wp2
        refine ⟨⟨k + 1, _, _, _, _, _, _, _, _, _, _, _, _, _, _, _, _, _, _, _, _, _, rfl, by omega, ?_, ?_⟩, ?_⟩
        · exact ⟨D, rfl, by omega, (Array.getElem?_eq_some_iff.1 hK).1, hK, htk.mks.mono (by omega)⟩
        · refine ⟨htk.dn.congr fun i _ => ?_, ?_, htk.bar⟩
          · by_cases h : i = k
            · simp [h]
            · simp [h]; omega
          · rw [hRK.out]; exact htk.ow
        · simp [intOf]; omega
    · obtain rfl : k = g.n1 := by omega
      obtain ⟨v, hv1, hv2⟩ := hst.ow
      have hc := hv1.cell
      obtain ⟨A, c, rfl, hR⟩ := own_form hv2
      gi_wp2
      refine leaves_marks hmk fun W' hl => ?_
      refine ⟨_, results_tmp2 rfl _ _ _, A, c, rfl, ?_, ?_⟩
      · exact Reads.of_own (own_left hl hv2)
      · exact below_left hl hBr (by omega)
/-- What Order answers, of any graph. -/
def ordL (g : Gr) : List Int := if validB g then (List.range g.n1).map Int.ofNat else []
theorem ordL_row {g : Gr} (hv : validB g = true) : intsL (ordL g) = rowL g.n1 nf := by
  unfold ordL intsL rowL nf
  rw [hv, if_pos rfl, List.map_map]; rfl
set_option maxHeartbeats 1000000 in
theorem Order_any (g : Gr) (w : World) (hg : g.Ok w w.heap.size) (hn1 : g.n1 ≤ 4611686018427387904) (hn2 : g.n2 ≤ 4611686018427387904) :
    Calls Try.prog 29 #[.agg #[g.v1, g.v2]] w (RetSlE w 1 (regN g) (intsL (ordL g)) (regE g)) := by
  cases hv : validB g
  · rw [show regN g = 0 from by simp [regN, hv], show regE g = 1 from by simp [regE, hv], show intsL (ordL g) = [] from by simp [ordL, hv, intsL]]
    refine (callsIn_wide (n := 3)).1 ?_
    have hB0 : Below w.heap.size w (w.alloc (.cells #[g.v1, g.v2] 30)) := (Below.refl _ _).alloc (Nat.le_refl _) _
    refine callsIn_of_wp_marks Try.func29 rfl trivial ?_ rfl
    simp only [Try.ntmps29, List.size_toArray, List.length_cons, List.length_nil, Nat.reduceAdd, Nat.reduceSub, Array.replicate_succ, Array.replicate_zero, List.push_toArray, List.append_toArray, List.nil_append, List.cons_append]
    gi_wp2_with fail
    obtain ⟨W0, hW0⟩ : ∃ W0, w.alloc (.cells #[g.v1, g.v2] 30) = W0 := ⟨_, rfl⟩
    rw [hW0] at hB0 ⊢
    clear hW0
    refine (callsIn_wide.2 (Valid_any g W0 (hg.up hB0) hn1 hn2)).mono ?_
    rintro e W1 ⟨rfl, hB1⟩
    rw [hv]
    have HB := hide (bstep hB0 hB1)
    clear hB0 hB1
    gi_wp2
    exact ⟨_, results_tmp2 rfl _ _ _, none, 0, rfl, Reads.none_, HB.out⟩
  · rw [show regN g = g.n1 from by simp [regN, hv], show regE g = 0 from by simp [regE, hv], ordL_row hv]
    exact (callsIn_wide (n := 3)).1 (Order_in g w hg hv)
end Go.Proofs.Ytblepaocekojbaa
