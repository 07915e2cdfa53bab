/-
  The walk of share.Moves, for every input.
-/
import Derived.Test.YthngjbhamgmcgaaDoorShA
namespace Go.Proofs.YthngjbhamgmcgaaDoor
open Go.RowKit Go.Shelf
attribute [local go_sem] Oper.semAt_some

/-- A move as three numbers. -/
def encM (x : Nat × Nat × Nat) : List Value := [.int .i64 (x.1 : Int), .int .i64 (x.2.1 : Int), .int .i64 (x.2.2 : Int)]
theorem encM_len (x : Nat × Nat × Nat) : (encM x).length = 3 := rfl
/-- The moves of a list of groups. -/
def mvF (g p q : Nat) (l : List Nat) : List (Nat × Nat × Nat) := (l.filter fun i => decide (i * q / g ≠ i * p / g)).map fun i => (i, i * p / g, i * q / g)
def mvs (g p q : Nat) : List (Nat × Nat × Nat) := mvF g p q (List.range g)
theorem mvF_hit (g p q : Nat) (l : List Nat) (i : Nat) (h : i * q / g ≠ i * p / g) : mvF g p q (l ++ [i]) = mvF g p q l ++ [(i, i * p / g, i * q / g)] := by simp [mvF, h]
theorem mvF_miss (g p q : Nat) (l : List Nat) (i : Nat) (h : i * q / g = i * p / g) : mvF g p q (l ++ [i]) = mvF g p q l := by simp [mvF, h]
theorem mvF_len (g p q : Nat) (l : List Nat) : (mvF g p q l).length ≤ l.length := by simp [mvF]; exact List.length_filter_le _ _

theorem Tryd.infoMove : (Tryd.prog.info? 44).map (fun i => (i.zero, i.size, i.bytes)) = some (some (.agg #[.int .i64 0, .int .i64 0, .int .i64 0]), 3, 24) := by kernel_rfl

set_option maxRecDepth 100000 in
set_option maxHeartbeats 2000000 in
theorem Moves_in (F : Fence) (n : Nat) (h9 : F.fn 14) (h41 : F.fn 20) (h42 : F.fn 28) (h72 : F.fn 46) (hro : F.round = none) (hn : 3 ≤ n)
    (g p q : Nat) (hg1 : 1 ≤ g) (hg : g ≤ 128) (hp1 : 1 ≤ p) (hp : p ≤ 16) (hq1 : 1 ≤ q) (hq : q ≤ 16) (w : World) :
    CallsIn F n Tryd.prog 14 #[.int .i64 (g : Int), .int .i64 (p : Int), .int .i64 (q : Int)] w
      (RetSlE w 3 (mvs g p q).length ((mvs g p q).flatMap encM) 0) := by
  have h1 : 1 ≤ n := by omega
  obtain ⟨i0, hi, hz0, hz1, hz2⟩ := info_parts Tryd.infoMove
  refine callsIn_of_wp_marks Tryd.func14 rfl h9 ?_ hro
  simp only [Tryd.ntmps14, List.size_toArray, List.length_cons, List.length_nil, Nat.reduceAdd, Nat.reduceSub, Array.replicate_succ, Array.replicate_zero, List.push_toArray, List.append_toArray, List.nil_append, List.cons_append]
  gi_wp2_with (first | (gi_at_call 20; refine ((right_yes_in F _ h41 hro _ _ (by omega) (by omega) (by omega) (by omega) _)).mono ?_; rintro e w' ⟨rfl, rfl⟩) | (gi_at_call 28; refine (belonging_in F (n - 1) h42 hro _ _ _).mono ?_; rintro e w' ⟨rfl, rfl⟩))
  obtain ⟨W0, hW0⟩ : ∃ W0, (((((w.alloc (Obj.cells #[Value.int IntKind.i64 ↑g] 3)).alloc (Obj.cells #[Value.int IntKind.i64 ↑q] 3)).alloc (Obj.cells #[Value.slice none 0 0] 40)).alloc (Obj.cells #[Value.int IntKind.i64 ↑p] 3)).alloc (Obj.cells #[Value.int IntKind.i64 ↑g] 3)) = W0 := ⟨_, rfl⟩
  have bG : Boxed W0 w.heap.size 3 (.int .i64 (g : Int)) := by rw [← hW0]; exact ((((Boxed.new w _ _).alloc _).alloc _).alloc _).alloc _
  have bQ : Boxed W0 (w.heap.size + 1) 3 (.int .i64 (q : Int)) := by
    rw [← hW0]; have := Boxed.new (w.alloc (Obj.cells #[Value.int IntKind.i64 ↑g] 3)) 3 (.int .i64 (q : Int)); rw [World.size_alloc] at this
    exact ((this.alloc _).alloc _).alloc _
  have bO : Boxed W0 (w.heap.size + 2) 40 (.slice none 0 0) := by
    rw [← hW0]; have := Boxed.new ((w.alloc (Obj.cells #[Value.int IntKind.i64 ↑g] 3)).alloc (Obj.cells #[Value.int IntKind.i64 ↑q] 3)) 40 (.slice none 0 0); simp only [World.size_alloc] at this
    exact (this.alloc _).alloc _
  have bP : Boxed W0 (w.heap.size + 3) 3 (.int .i64 (p : Int)) := by
    rw [← hW0]; have := Boxed.new (((w.alloc (Obj.cells #[Value.int IntKind.i64 ↑g] 3)).alloc (Obj.cells #[Value.int IntKind.i64 ↑q] 3)).alloc (Obj.cells #[Value.slice none 0 0] 40)) 3 (.int .i64 (p : Int)); simp only [World.size_alloc] at this
    exact this.alloc _
  have bG2 : Boxed W0 (w.heap.size + 4) 3 (.int .i64 (g : Int)) := by
    rw [← hW0]; have := Boxed.new ((((w.alloc (Obj.cells #[Value.int IntKind.i64 ↑g] 3)).alloc (Obj.cells #[Value.int IntKind.i64 ↑q] 3)).alloc (Obj.cells #[Value.slice none 0 0] 40)).alloc (Obj.cells #[Value.int IntKind.i64 ↑p] 3)) 3 (.int .i64 (g : Int)); simp only [World.size_alloc] at this
    exact this
  have hB0 : Below w.heap.size w W0 := by rw [← hW0]; exact (((((Below.refl _ w).alloc (Nat.le_refl _) _).alloc (by simp) _).alloc (by simp; omega) _).alloc (by simp; omega) _).alloc (by simp; omega) _
  have hsz : W0.heap.size = w.heap.size + 5 := by rw [← hW0]; simp
  rw [hW0]
  clear hW0
  have HS := hide hsz
  clear hsz
  refine wpIn_rangeFunc_ownG hro h1 (gf := 46) (lb := #[.pointer (some ⟨w.heap.size + 4, 0, none⟩), .pointer (some ⟨w.heap.size + 3, 0, none⟩)]) rfl h72 (enters_of Tryd.func46 (by kernel_rfl) rfl)
    (belonging_stops F (n - 1) h72 hro (by omega) (w.heap.size + 5) [w.heap.size + 2] (w.heap.size + 4) (w.heap.size + 3) p g hg hp W0 (by omega) (by omega) (by simp) (by simp) (by rw [HS.out]; omega) bG2.cell bP.cell) bar_t (bar_b (by rw [HS.out]; omega)) (Below.refl _ _) (fun _ => rfl)
    (fun pre W => (∃ v, Boxed W (w.heap.size + 2) 40 v ∧ W.ownsRow (w.heap.size + 5) 44 3 v (mvF g p q (pre.map (·.1))).length ((mvF g p q (pre.map (·.1))).flatMap encM)) ∧ Bar (w.heap.size + 5) [w.heap.size + 2] W0 W)
    (fun _ _ _ => False)
    (OwnFrom.and (holdsRow_from _ (w.heap.size + 5) (w.heap.size + 2) 40 44 3 (fun pre : List (Fin g) => (mvF g p q (pre.map (·.1))).length) (fun pre => (mvF g p q (pre.map (·.1))).flatMap encM)) (ownFrom_bar (by rw [HS.out]; omega) (by rw [HS.out]; omega)))
    (fun _ _ _ _ _ hs _ _ => hs)
    ⟨⟨_, bO, World.ownsRow_nil _ _ _ _⟩, Bar.refl _ _ _⟩
    (fun x => { tmps := #[Value.int IntKind.i64 ↑g, Value.int IntKind.i64 ↑p, Value.int IntKind.i64 ↑q,
          Value.pointer (some { block := w.heap.size, off := 0 }), undef,
          Value.pointer (some { block := w.heap.size + 1, off := 0 }), Value.slice none 0 0, Value.int IntKind.i64 0,
          Value.pointer (some { block := w.heap.size + 1 + 1, off := 0 }), .int .i64 (x.1 : Int), .int .i64 ((x.1 : Int) * p / g), undef,
          Value.int IntKind.i64 ↑p, Value.int IntKind.i64 ↑g, Value.bool true, Value.bool false, Value.bool false,
          Value.int IntKind.i64 ↑q, Value.int IntKind.i64 ↑g, Value.bool true, Value.bool false, Value.bool false,
          Value.int IntKind.i64 ↑p, Value.int IntKind.i64 ↑g,
          Value.func (Fn.func 46) #[]
            #[Value.pointer (some { block := w.heap.size + 1 + 1 + 1 + 1, off := 0 }),
              Value.pointer (some { block := w.heap.size + 1 + 1 + 1, off := 0 })],
          .int .i64 (x.1 : Int), .int .i64 ((x.1 : Int) * p / g), undef, undef, undef, undef, undef, undef, undef, undef, undef, undef, undef, undef, undef, undef,
          undef, undef], defers := [] }) ?assign ?body ?done ?stop
  case assign =>
    intro l x W K hK
    dsimp only [encB]
    gi_wp2
    exact hK
  case body =>
    rintro l pre x W ⟨⟨v, hv, hrow⟩, hB⟩ hlt
    have hc := hv.cell
    have hcg := (hB.boxed bG (by omega) (by simp)).cell
    have hcq := (hB.boxed bQ (by omega) (by simp)).cell
    have hx := x.2
    obtain ⟨hd1, hd2⟩ := div_part x.1 q g hx hg hq
    have hd3 : (x.1 : Int) * q ≤ 2048 := by rw [← Int.natCast_mul]; omega
    have hd4 : 0 ≤ (x.1 : Int) * q := by rw [← Int.natCast_mul]; omega
    have hml := mvF_len g p q (pre.map (·.1))
    rw [List.length_map] at hml
    have hWs : w.heap.size + 5 ≤ W.heap.size := by have := hB.size; rw [HS.out] at this; exact this
    gi_wp2_with (gi_at_builtin; go_loud ((refine wpListIn_append_own _ rfl _ _ 40 rfl (w.heap.size + 5) 44 i0 _ 3 24 Tryd.underlying40 hi hz0 hz1 hz2 rfl (by decide) _ _ _ rfl (hrow.alloc _) ⟨W.heap.size, 0, none⟩ 1 1 [.int .i64 (x.1 : Int), .int .i64 ((x.1 : Int) * p / g), .int .i64 ((x.1 : Int) * q / g)] rfl rfl (cells_new _ _ _) (by simp [Value.oneCell']) (by unfold maxLen; omega) (by omega) (by simp; omega) ?_; intro v' w1 hown' hgrow _; obtain ⟨g', cap', rfl⟩ := ownsRow_succ hown'; obtain ⟨hv1, hv2, hr2, hk2, hb2⟩ := Boxed.collected hv hrow hWs (by omega) hown' hgrow; have hc1 := hv1.cell; have hf1 := hv1.frozen)))
    · have ht : ((x.1 : Int) * q / g != (x.1 : Int) * p / g) = true := by assumption
      have hne : x.1 * q / g ≠ x.1 * p / g := by
        intro e; apply bne_iff_ne.1 ht; exact_mod_cast e
      have e1 : mvF g p q ((pre ++ [x]).map (·.1)) = mvF g p q (pre.map (·.1)) ++ [(x.1, x.1 * p / g, x.1 * q / g)] := by rw [List.map_append]; exact mvF_hit g p q _ x.1 hne
      refine ⟨hk2.from _, hb2, ⟨_, hv2, ?_⟩, hB.trans hb2⟩
      rw [e1]
      simpa [encM] using hr2
    · have ht : ((x.1 : Int) * q / g != (x.1 : Int) * p / g) = false := by assumption
      have he : x.1 * q / g = x.1 * p / g := by
        have := bne_eq_false_iff_eq.1 ht; exact_mod_cast this
      have e1 : mvF g p q ((pre ++ [x]).map (·.1)) = mvF g p q (pre.map (·.1)) := by rw [List.map_append]; exact mvF_miss g p q _ x.1 he
      exact ⟨KeepsFrom.refl _ _, Bar.refl _ _ _, ⟨v, hv, by rw [e1]; exact hrow⟩, hB⟩
  case done =>
    rintro D ys W hD rfl ⟨⟨v, hv, hrow⟩, hB⟩ hK
    have hc := hv.cell
    obtain ⟨A, c, rfl, _⟩ := own_form hrow
    gi_wp2
    refine ⟨by simp, .inl ⟨_, _, rfl, run_takeDeferred hK, ?_⟩⟩
    have hD' : w.heap.size + 5 ≤ D := by rw [HS.out] at hD; exact hD
    have em : mvF g p q ((belong g).map (·.1)) = mvs g p q := by rw [belong_val]; rfl
    rw [em] at hrow
    refine ⟨_, results_tmp2 rfl _ _ _, A, c, by rw [← em]; rfl, ?_, ?_⟩
    · have h := (own_form (ownsRow_putObj hrow (.deferred none) hK rfl))
      obtain ⟨A', c', e, hr⟩ := h
      cases e; exact hr
    · exact (hB0.trans (hB.below (by omega) (by simp))).trans (belowK_b (w := W0) hB0.size W D _ _ (by rw [HS.out]; exact hD') hK rfl rfl)
  case stop =>
    rintro D c pre W _ _ h _
    exact h.elim
end Go.Proofs.YthngjbhamgmcgaaDoor
