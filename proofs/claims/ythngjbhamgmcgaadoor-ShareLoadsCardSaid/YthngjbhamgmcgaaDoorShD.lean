/-
  The walk of share.Owners, of share.Moves at every input, and of the chapter's example (awake).
-/
import Derived.Test.YthngjbhamgmcgaaDoorShC
import Derived.Laws.StructEq
import Derived.Handy
namespace Go.Proofs.YthngjbhamgmcgaaDoor
open Go.RowKit Go.Shelf
attribute [local go_sem] Oper.semAt_some

def own1 (g p i : Nat) : Int := ((i * p / g : Nat) : Int)
def ownF (g p : Nat) (l : List Nat) : List Int := l.map (own1 g p)
theorem ownF_len (g p : Nat) (l : List Nat) : (ownF g p l).length = l.length := by simp [ownF]
theorem ownF_snoc (g p : Nat) (l : List Nat) (i : Nat) : ownF g p (l ++ [i]) = ownF g p l ++ [own1 g p i] := by simp [ownF]
def owns (g p : Nat) : List Int := ownF g p (List.range g)

theorem Tryd.infoInt : (Tryd.prog.info? 3).map (fun i => (i.zero, i.size, i.bytes)) = some (some (.int .i64 0), 1, 8) := by kernel_rfl

set_option maxRecDepth 100000 in
set_option maxHeartbeats 2000000 in
theorem Owners_in (F : Fence) (n : Nat) (h9 : F.fn 13) (h41 : F.fn 20) (h42 : F.fn 28) (h72 : F.fn 46) (hro : F.round = none) (hn : 3 ≤ n)
    (g p : Nat) (hg1 : 1 ≤ g) (hg : g ≤ 128) (hp1 : 1 ≤ p) (hp : p ≤ 16) (w : World) :
    CallsIn F n Tryd.prog 13 #[.int .i64 (g : Int), .int .i64 (p : Int)] w
      (RetSlE w 1 (owns g p).length ((owns g p).map (Value.int .i64)) 0) := by
  have h1 : 1 ≤ n := by omega
  obtain ⟨i0, hi, hz0, hz1, hz2⟩ := info_parts Tryd.infoInt
  refine callsIn_of_wp_marks Tryd.func13 rfl h9 ?_ hro
  simp only [Tryd.ntmps13, List.size_toArray, List.length_cons, List.length_nil, Nat.reduceAdd, Nat.reduceSub, Array.replicate_succ, Array.replicate_zero, List.push_toArray, List.append_toArray, List.nil_append, List.cons_append]
  gi_wp2_with (first | (gi_at_call 20; refine ((right_yes_in F _ h41 hro _ _ (by omega) (by omega) (by omega) (by omega) _)).mono ?_; rintro e w' ⟨rfl, rfl⟩) | (gi_at_call 28; refine (belonging_in F (n - 1) h42 hro _ _ _).mono ?_; rintro e w' ⟨rfl, rfl⟩))
  obtain ⟨W0, hW0⟩ : ∃ W0, (((w.alloc (Obj.cells #[Value.slice none 0 0] 24)).alloc (Obj.cells #[Value.int IntKind.i64 ↑p] 3)).alloc (Obj.cells #[Value.int IntKind.i64 ↑g] 3)) = W0 := ⟨_, rfl⟩
  have bO : Boxed W0 w.heap.size 24 (.slice none 0 0) := by
    rw [← hW0]; exact ((Boxed.new w _ _).alloc _).alloc _
  have bP : Boxed W0 (w.heap.size + 1) 3 (.int .i64 (p : Int)) := by
    rw [← hW0]; have := Boxed.new (w.alloc (Obj.cells #[Value.slice none 0 0] 24)) 3 (.int .i64 (p : Int)); simp only [World.size_alloc] at this
    exact this.alloc _
  have bG2 : Boxed W0 (w.heap.size + 2) 3 (.int .i64 (g : Int)) := by
    rw [← hW0]; have := Boxed.new ((w.alloc (Obj.cells #[Value.slice none 0 0] 24)).alloc (Obj.cells #[Value.int IntKind.i64 ↑p] 3)) 3 (.int .i64 (g : Int)); simp only [World.size_alloc] at this
    exact this
  have hB0 : Below w.heap.size w W0 := by rw [← hW0]; exact (((Below.refl _ w).alloc (Nat.le_refl _) _).alloc (by simp) _).alloc (by simp; omega) _
  have hsz : W0.heap.size = w.heap.size + 3 := by rw [← hW0]; simp
  rw [hW0]
  clear hW0
  have HS := hide hsz
  clear hsz
  refine wpIn_rangeFunc_ownG hro h1 (gf := 46) (lb := #[.pointer (some ⟨w.heap.size + 2, 0, none⟩), .pointer (some ⟨w.heap.size + 1, 0, none⟩)]) rfl h72 (enters_of Tryd.func46 (by kernel_rfl) rfl)
    (belonging_stops F (n - 1) h72 hro (by omega) (w.heap.size + 3) [w.heap.size] (w.heap.size + 2) (w.heap.size + 1) p g hg hp W0 (by omega) (by omega) (by simp) (by simp) (by rw [HS.out]; omega) bG2.cell bP.cell) bar_t (bar_b (by rw [HS.out]; omega)) (Below.refl _ _) (fun _ => rfl)
    (fun pre W => (∃ v, Boxed W w.heap.size 24 v ∧ W.ownsRow (w.heap.size + 3) 3 1 v (ownF g p (pre.map (·.1))).length ((ownF g p (pre.map (·.1))).map (Value.int .i64))) ∧ Bar (w.heap.size + 3) [w.heap.size] W0 W)
    (fun _ _ _ => False)
    (OwnFrom.and (holdsRow_from _ (w.heap.size + 3) w.heap.size 24 3 1 (fun pre : List (Fin g) => (ownF g p (pre.map (·.1))).length) (fun pre => (ownF g p (pre.map (·.1))).map (Value.int .i64))) (ownFrom_bar (by rw [HS.out]; omega) (by rw [HS.out]; omega)))
    (fun _ _ _ _ _ hs _ _ => hs)
    ⟨⟨_, bO, World.ownsRow_nil _ _ _ _⟩, Bar.refl _ _ _⟩
    (fun x => { tmps := #[Value.int IntKind.i64 ↑g, Value.int IntKind.i64 ↑p, undef, undef, Value.slice none 0 0, Value.int IntKind.i64 0,
          Value.pointer (some { block := w.heap.size, off := 0 }), undef, .int .i64 ((x.1 : Int) * p / g),
          Value.int IntKind.i64 ↑p, Value.int IntKind.i64 ↑g, Value.bool true, Value.bool false, 
          Value.int IntKind.i64 ↑p, Value.int IntKind.i64 ↑g,
          Value.func (Fn.func 46) #[]
            #[Value.pointer (some { block := w.heap.size + 1 + 1, off := 0 }),
              Value.pointer (some { block := w.heap.size + 1, off := 0 })],
          .int .i64 (x.1 : Int), .int .i64 ((x.1 : Int) * p / g), undef, undef, undef, undef, undef], defers := [] }) ?assign ?body ?done ?stop
  case assign =>
    intro l x W K hK
    dsimp only [encB]
    gi_wp2
    exact hK
  case body =>
    rintro l pre x W ⟨⟨v, hv, hrow⟩, hB⟩ hlt
    have hc := hv.cell
    have hml' : (ownF g p (pre.map (·.1))).length ≤ pre.length := by rw [ownF_len, List.length_map]; omega
    have hWs : w.heap.size + 3 ≤ W.heap.size := by have := hB.size; rw [HS.out] at this; exact this
    gi_wp2_with (gi_at_builtin; refine wpListIn_append_own _ rfl _ _ 24 rfl (w.heap.size + 3) 3 i0 _ 1 8 Tryd.underlying24 hi hz0 hz1 hz2 rfl (by decide) _ _ _ rfl (hrow.alloc _) ⟨W.heap.size, 0, none⟩ 1 1 [.int .i64 ((x.1 : Int) * p / g)] rfl rfl (cells_new _ _ _) (by simp [Value.oneCell']) (by unfold maxLen; omega) (by omega) (by simp; omega) ?_; intro v' w1 hown' hgrow _; obtain ⟨g', cap', rfl⟩ := ownsRow_succ hown'; obtain ⟨hv1, hv2, hr2, hk2, hb2⟩ := Boxed.collected hv hrow hWs (by omega) hown' hgrow; have hc1 := hv1.cell; have hf1 := hv1.frozen)
    refine ⟨hk2.from _, hb2, ⟨_, hv2, ?_⟩, hB.trans hb2⟩
    have e1 : ownF g p ((pre ++ [x]).map (·.1)) = ownF g p (pre.map (·.1)) ++ [own1 g p x.1] := by rw [List.map_append]; exact ownF_snoc _ _ _ _
    rw [e1]
    simpa [own1] using hr2
  case done =>
    rintro D ys W hD rfl ⟨⟨v, hv, hrow⟩, hB⟩ hK
    have hc := hv.cell
    obtain ⟨A, c, rfl, _⟩ := own_form hrow
    gi_wp2
    refine ⟨by simp, .inl ⟨_, _, rfl, run_takeDeferred hK, ?_⟩⟩
    have hD' : w.heap.size + 3 ≤ D := by rw [HS.out] at hD; exact hD
    have em : ownF g p ((belong g).map (·.1)) = owns g p := by rw [belong_val]; rfl
    rw [em] at hrow
    refine ⟨_, results_tmp2 rfl _ _ _, A, c, by rw [← em]; rfl, ?_, ?_⟩
    · have h := (own_form (ownsRow_putObj hrow (.deferred none) hK rfl))
      obtain ⟨A', c', e, hr⟩ := h
      cases e; exact hr
    · exact (hB0.trans (hB.below (by omega) (by simp))).trans (belowK_b (w := W0) hB0.size W D _ _ (by rw [HS.out]; exact hD') hK rfl rfl)
  case stop =>
    rintro D c pre W _ _ h _
    exact h.elim

theorem Owners_yes (g p : Nat) (hg1 : 1 ≤ g) (hg : g ≤ 128) (hp1 : 1 ≤ p) (hp : p ≤ 16) (w : World) :
    Calls Tryd.prog 13 #[.int .i64 (g : Int), .int .i64 (p : Int)] w (RetSlE w 1 (owns g p).length ((owns g p).map (Value.int .i64)) 0) :=
  (callsIn_wide (n := 3)).1 (Owners_in Fence.wide 3 trivial trivial trivial trivial rfl (by omega) g p hg1 hg hp1 hp w)
theorem Moves_yes (g p q : Nat) (hg1 : 1 ≤ g) (hg : g ≤ 128) (hp1 : 1 ≤ p) (hp : p ≤ 16) (hq1 : 1 ≤ q) (hq : q ≤ 16) (w : World) :
    Calls Tryd.prog 14 #[.int .i64 (g : Int), .int .i64 (p : Int), .int .i64 (q : Int)] w (RetSlE w 3 (mvs g p q).length ((mvs g p q).flatMap encM) 0) :=
  (callsIn_wide (n := 3)).1 (Moves_in Fence.wide 3 trivial trivial trivial trivial rfl (by omega) g p q hg1 hg hp1 hp hq1 hq w)

theorem eqMove (a b c a' b' c' : Int) (w : World) : (binOp .eql 44 (.agg #[.int .i64 a, .int .i64 b, .int .i64 c]) (.agg #[.int .i64 a', .int .i64 b', .int .i64 c'])).run Tryd.prog w = .ok (.bool (a == a' && (b == b' && c == c'))) w := by
  have u3 := Tryd.underlying3
  have a3 := Tryd.isAgg3
  have z3 := Tryd.sizeOf3
  have hS : Tryd.prog.underlying 44 = some (.struct (Tryd.prog.fieldsOf 44)) := by kernel_rfl
  have hp : Tryd.prog.stoodInHeld 44 = false := by kernel_rfl
  rw [run_eql_struct, show (10000 : Nat) = 9999 + 1 from rfl, run_equalIn_agg w 9999 44 _ _ hS hp]
  simp only [Program.fieldsOf, Tryd.underlying44]
  go_simp
  by_cases h1 : a = a' <;> by_cases h2 : b = b' <;> by_cases h3 : c = c' <;> simp [h1, h2, h3]
theorem neqMove (a b c a' b' c' : Int) (w : World) : (binOp .neq 44 (.agg #[.int .i64 a, .int .i64 b, .int .i64 c]) (.agg #[.int .i64 a', .int .i64 b', .int .i64 c'])).run Tryd.prog w = .ok (.bool (!(a == a' && (b == b' && c == c')))) w := by
  have u3 := Tryd.underlying3
  have a3 := Tryd.isAgg3
  have z3 := Tryd.sizeOf3
  have hS : Tryd.prog.underlying 44 = some (.struct (Tryd.prog.fieldsOf 44)) := by kernel_rfl
  have hp : Tryd.prog.stoodInHeld 44 = false := by kernel_rfl
  rw [run_neq_struct, show (10000 : Nat) = 9999 + 1 from rfl, run_equalIn_agg w 9999 44 _ _ hS hp]
  simp only [Program.fieldsOf, Tryd.underlying44]
  go_simp
  by_cases h1 : a = a' <;> by_cases h2 : b = b' <;> by_cases h3 : c = c' <;> simp [h1, h2, h3]
end Go.Proofs.YthngjbhamgmcgaaDoor
