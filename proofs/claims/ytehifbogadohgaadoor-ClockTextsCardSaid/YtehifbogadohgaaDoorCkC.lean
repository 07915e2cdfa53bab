/-
  The walks of slices.AppendSeq and slices.Collect at windows, over whatever iterator has its contract; the walk of clock.Windows, for every spec and time.
-/
import Derived.Test.YtehifbogadohgaaDoorCkB
import Derived.Test.YtehifbogadohgaaDoorCkV
namespace Go.Proofs.YtehifbogadohgaaDoor
open Go.RowKit Go.Shelf
attribute [local go_sem] Oper.semAt_some wide_fn wide_depth

theorem Tryd.infoWin : (Tryd.prog.info? 36).map (fun i => (i.zero, i.size, i.bytes)) = some (some (.agg #[.int .i64 0, .int .i64 0]), 2, 16) := by kernel_rfl

def flatW (l : List (Int × Int)) : List Value := l.flatMap encW
theorem flatW_snoc (l : List (Int × Int)) (x : Int × Int) : flatW (l ++ [x]) = flatW l ++ [.int .i64 x.1, .int .i64 x.2] := by simp [flatW, encW]

/-- A block of cells abides whatever is no cells. -/
theorem ownFrom_blk {β : Type} (B : Nat) (p : Nat → Prop) (t : TypeId) (cs : Array Value) (q : Nat → Prop) : OwnFrom B (fun (_ : β) W => ∃ g, p g ∧ Blk W g t cs ∧ q g) := by
  rintro s X Y row ⟨g, hp, hb, hq⟩ hg hrow
  refine ⟨g, hp, hb.grown hg (fun e => ?_), hq⟩
  obtain ⟨_, o, ho, hc⟩ := hrow g e.symm
  rw [show X.heap[g]? = _ from hb] at ho; cases ho; cases hc

set_option maxRecDepth 100000 in
set_option maxHeartbeats 2000000 in
theorem AppendSeq_in (n : Nat) (hn : 1 ≤ n) (gf : Nat) (lb : Array Value) (eg : ∀ args w, (callFunc gf args).run Tryd.prog w = .ok (.enter gf args) w) (xs : List (Int × Int)) (Sp : List (Int × Int) → Prop) (N : Nat) (hN : N ≤ 1000000) (w : World)
    (hseq : SeqStopsK Fence.wide (n - 1) Tryd.prog gf lb encWv (Bar (w.heap.size + 1) [w.heap.size]) (fun ys => ys = xs) Sp N w) :
    CallsIn Fence.wide n Tryd.prog 32 #[.slice none 0 0, .func (.func gf) #[] lb] w (RetSl w 2 xs.length (flatW xs)) := by
  obtain ⟨i0, hi, hz0, hz1, hz2⟩ := info_parts Tryd.infoWin
  refine callsIn_of_wp_marks Tryd.func32 rfl trivial ?_ rfl
  simp only [Tryd.ntmps32, List.size_toArray, List.length_cons, List.length_nil, Nat.reduceAdd, Nat.reduceSub, Array.replicate_succ, Array.replicate_zero, List.push_toArray, List.append_toArray, List.nil_append, List.cons_append]
  gi_wp2
  obtain ⟨W0, hW0⟩ : ∃ W0, w.alloc (Obj.cells #[Value.slice none 0 0] 31) = W0 := ⟨_, rfl⟩
  have bO : Boxed W0 w.heap.size 31 (.slice none 0 0) := by rw [← hW0]; exact Boxed.new w _ _
  have hB0 : Below w.heap.size w W0 := by rw [← hW0]; exact (Below.refl _ w).alloc (Nat.le_refl _) _
  have hsz : W0.heap.size = w.heap.size + 1 := by rw [← hW0]; simp
  rw [hW0]
  clear hW0
  have HS := hide hsz
  clear hsz
  refine wpIn_rangeFunc_ownH (n := n) rfl (by omega) (gf := gf) (lb := lb) rfl trivial eg hseq bar_t (bar_b (by rw [HS.out]; omega)) hB0 (fun _ => rfl)
    (fun pre W => (∃ v, Boxed W w.heap.size 31 v ∧ W.ownsRow (w.heap.size + 1) 36 2 v pre.length (flatW pre)) ∧ Bar (w.heap.size + 1) [w.heap.size] W0 W)
    (fun _ _ _ => False)
    (OwnFrom.and (holdsRow_from _ (w.heap.size + 1) w.heap.size 31 36 2 (fun pre : List (Int × Int) => pre.length) (fun pre => flatW pre)) (ownFrom_bar (by rw [HS.out]; omega) (by rw [HS.out]; omega)))
    (fun _ _ _ _ _ hs _ _ => hs)
    ⟨⟨_, bO, World.ownsRow_nil _ _ _ _⟩, Bar.refl _ _ _⟩
    (fun x a' W => ∃ g, w.heap.size < g ∧ Blk W g 36 #[.int .i64 x.1, .int .i64 x.2] ∧ a' = { tmps := #[.slice none 0 0, .func (.func gf) #[] lb, .pointer (some ⟨w.heap.size, 0, none⟩), undef, .slice none 0 0, .pointer (some ⟨g, 0, none⟩), .func (.func gf) #[] lb, .agg #[.int .i64 x.1, .int .i64 x.2], undef, undef, undef, undef, undef], defers := [] })
    (fun x a' => ownFrom_blk _ (fun g => w.heap.size < g) _ _ (fun g => a' = _)) ?assign ?body ?done ?stop
  case assign =>
    rintro l pre x W K ⟨⟨v, hv, hrow⟩, hB⟩ hK
    have hWs : w.heap.size + 1 ≤ W.heap.size := by have := hB.size; rw [HS.out] at this; exact this
    dsimp only [encWv]
    gi_wp2
    exact hK _ _ ((KeepsOthers.alloc _ _).from _) ((Bar.refl _ _ W).alloc hWs _) ⟨⟨v, hv.alloc _, hrow.alloc _⟩, hB.alloc hWs _⟩ ⟨W.heap.size, by omega, Blk.new W _ _, rfl⟩
  case body =>
    rintro l pre x a' W hl ⟨r, hr⟩ ⟨⟨v, hv, hrow⟩, hB⟩ ⟨g, hg, hblk, rfl⟩ hlt
    have hc := hv.cell
    have d0 : W.cell? ⟨g, 0, none⟩ = some (.int .i64 x.1) := hblk.cell 0
    have d1 : W.cell? ⟨g, 1, none⟩ = some (.int .i64 x.2) := hblk.cell 1
    have hWs : w.heap.size + 1 ≤ W.heap.size := by have := hB.size; rw [HS.out] at this; exact this
    gi_wp2_with (gi_at_builtin; refine wpListIn_append_own _ rfl _ _ 31 rfl (w.heap.size + 1) 36 i0 _ 2 16 Tryd.underlying31 hi hz0 hz1 hz2 rfl (by decide) _ _ _ rfl (hrow.alloc _) ⟨W.heap.size, 0, none⟩ 1 1 [.int .i64 x.1, .int .i64 x.2] rfl rfl (cells_new _ _ _) (by simp [Value.oneCell']) (by unfold maxLen; omega) (by omega) (by simp; omega) ?_; intro v' w1 hown' hgrow _; obtain ⟨g', cap', rfl⟩ := ownsRow_succ hown'; obtain ⟨hv1, hv2, hr2, hk2, hb2⟩ := Boxed.collected hv hrow hWs (by omega) hown' hgrow; have hc1 := hv1.cell; have hf1 := hv1.frozen)
    refine ⟨hk2.from _, hb2, ⟨_, hv2, ?_⟩, hB.trans hb2⟩
    rw [flatW_snoc]
    simpa using hr2
  case done =>
    rintro D ys W hD rfl ⟨⟨v, hv, hrow⟩, hB⟩ hK
    have hc := hv.cell
    obtain ⟨A, c, rfl, _⟩ := own_form hrow
    gi_wp2
    refine ⟨by simp, .inl ⟨_, _, rfl, run_takeDeferred hK, ?_⟩⟩
    have hD' : w.heap.size + 1 ≤ D := by rw [HS.out] at hD; exact hD
    refine ⟨_, results_tmp rfl _ _ _, A, c, rfl, ?_, ?_⟩
    · have h := (own_form (ownsRow_putObj hrow (.deferred none) hK rfl))
      obtain ⟨A', c', e, hr⟩ := h
      cases e; exact hr
    · exact (hB0.trans (hB.below (by omega) (by simp))).trans (belowK_b (w := W0) hB0.size W D _ _ (by rw [HS.out]; exact hD') hK rfl rfl)
  case stop =>
    rintro D c pre W _ _ h _
    exact h.elim

theorem Collect_in (n : Nat) (hn : 2 ≤ n) (gf : Nat) (lb : Array Value) (eg : ∀ args w, (callFunc gf args).run Tryd.prog w = .ok (.enter gf args) w) (xs : List (Int × Int)) (Sp : List (Int × Int) → Prop) (N : Nat) (hN : N ≤ 1000000) (w : World)
    (hseq : SeqStopsK Fence.wide (n - 2) Tryd.prog gf lb encWv (Bar (w.heap.size + 1) [w.heap.size]) (fun ys => ys = xs) Sp N w) :
    CallsIn Fence.wide n Tryd.prog 21 #[.func (.func gf) #[] lb] w (RetSl w 2 xs.length (flatW xs)) := by
  have hA := hide (AppendSeq_in (n - 1) (by omega) gf lb eg xs Sp N hN w (by rw [show n - 1 - 1 = n - 2 by omega]; exact hseq))
  refine callsIn_of_wp Tryd.func21 rfl trivial ?_ rfl
  simp only [Tryd.ntmps21, List.size_toArray, List.length_cons, List.length_nil, Nat.reduceAdd, Nat.reduceSub, Array.replicate_succ, Array.replicate_zero, List.push_toArray, List.append_toArray, List.nil_append, List.cons_append]
  gi_wp2_with (gi_at_call 32; refine hA.out.mono ?_; rintro e w1 ⟨A, c, rfl, hR, hB⟩)
  go_ret
  exact ⟨A, c, rfl, hR, hB⟩
end Go.Proofs.YtehifbogadohgaaDoor
