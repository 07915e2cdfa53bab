/-
  The walk of tidewrightref26.Valid.
-/
import Derived.Test.YtmpoaegdejhbeaaDoorDkB
namespace Go.Proofs.YtmpoaegdejhbeaaDoor
open Go.RowKit Go.Shelf
attribute [local go_sem] Oper.semAt_some

theorem In_any (a m : Int) (w : World) : Calls Tryd.prog 41 #[.int .i64 a, .int .i64 m] w fun e w' => e = .returned (.bool (decide (1 ≤ a ∧ a ≤ m))) ∧ w = w' := by
  by_cases h1 : 1 ≤ a
  · go_enter Tryd.func41, Tryd.ntmps41
    go_wp2
    go_ret
    exact ⟨ret_bool (by simp [*]), rfl⟩
  · go_enter Tryd.func41, Tryd.ntmps41
    go_wp2
    go_ret
    exact ⟨ret_bool (by simp [*] <;> omega), rfl⟩

/-- Is an edge none of a graph of n tasks? -/
def badE (n : Nat) (e : Ed) : Bool := decide (e.f < 0) || decide (e.t ≤ e.f) || decide ((n : Int) ≤ e.t)
/-- Does an edge like this one stand in a list? -/
def dupE (e : Ed) (x : Ed) : Bool := (x.f == e.f) && (x.t == e.t)
def okAt (n : Nat) (es : List Ed) (i : Nat) : Bool := match es[i]? with
  | some e => !badE n e && !(es.take i).any (dupE e)
  | none => true
def esB (n : Nat) (es : List Ed) : Bool := (List.range es.length).all (okAt n es)
def validB (g : Gr) : Bool := decide (1 ≤ g.n1 ∧ g.n1 ≤ 200) && decide (g.n2 ≤ 400) && !g.ops.any (outT 200) && esB g.n1 g.es
theorem all_snoc (n : Nat) (es : List Ed) (k : Nat) : (List.range (k + 1)).all (okAt n es) = ((List.range k).all (okAt n es) && okAt n es k) := by
  rw [List.range_succ, List.all_append]; simp
theorem esB_no (n : Nat) (es : List Ed) (k : Nat) (hk : k < es.length) (h : okAt n es k = false) : esB n es = false := by
  unfold esB
  rw [List.all_eq_false]
  exact ⟨k, List.mem_range.2 hk, by simp [h]⟩

set_option maxRecDepth 100000 in
set_option maxHeartbeats 4000000 in
theorem RValid_any (g : Gr) (w : World) (hg : g.Ok w w.heap.size) (hn : g.n1 ≤ 4611686018427387904) (hm : g.n2 ≤ 4611686018427387904) :
    Calls Tryd.prog 24 #[.agg #[g.v1, g.v2]] w (RetV w (.bool (validB g))) := by
  have hB0 : Below w.heap.size w (w.alloc (.cells #[g.v1, g.v2] 25)) := (Below.refl _ _).alloc (Nat.le_refl _) _
  have b1 := Blk.new w 25 #[g.v1, g.v2]
  have hc1 : (w.alloc (.cells #[g.v1, g.v2] 25)).cell? ⟨w.heap.size, 0, none⟩ = some (.slice g.a1 g.n1 g.c1) := by simp [Gr.v1]
  have hc2 : (w.alloc (.cells #[g.v1, g.v2] 25)).cell? ⟨w.heap.size, 1, none⟩ = some (.slice g.a2 g.n2 g.c2) := by simp [Gr.v2]
  have hg0 := hg.up hB0
  have hsz0 : (w.alloc (.cells #[g.v1, g.v2] 25)).heap.size = w.heap.size + 1 := World.size_alloc _ _
  have HL1 := hide hg.r1.len1
  have HL2 := hide (hg.r2.len encEd_len (by omega))
  by_cases h0 : 1 ≤ g.n1 ∧ g.n1 ≤ 200
  · have d0 : decide (1 ≤ (g.n1 : Int) ∧ (g.n1 : Int) ≤ 200) = true := by simp; omega
    have D0 := hide (show decide (1 ≤ g.n1 ∧ g.n1 ≤ 200) = true by simp [h0])
    by_cases h1 : g.n2 ≤ 400
    · go_enter Tryd.func24, Tryd.ntmps24
      obtain ⟨W, hW⟩ : ∃ W, w.alloc (.cells #[g.v1, g.v2] 25) = W := ⟨_, rfl⟩
      rw [hW] at hB0 hc1 hc2 hg0 hsz0
      go_wp2_with (go_at_call 41; refine (In_any _ _ _).mono ?_; rintro e w' ⟨rfl, rfl⟩)
      clear hW b1
      go_loop [4] (fun i => ∃ k : Nat, k ≤ g.n1 ∧ i = .int .i64 k ∧ (g.ops.take k).any (outT 200) = false) (fun i => g.n1 - (intOf i).toNat)
      case atStart => exact ⟨0, Nat.zero_le _, rfl, rfl⟩
      case round =>
        obtain ⟨k, hk, rfl, hany⟩ := hrel
        have HA := hide hany
        clear hany
        by_cases hlt : k < g.n1
        · obtain ⟨b, off, x, ha, hb, hxk, hc⟩ := hg0.r1.at1 hlt
          rw [ha] at hc1
          have HXK := hide hxk
          clear hxk
          by_cases hx0 : x < 0
          · go_wp2
            go_ret
            exact ⟨ret_bool (by
              have := any_hit (outT 200) _ _ _ HXK.out (by simp [outT, hx0])
              simp [validB, this]), hB0⟩
          · by_cases hx1 : 200 ≤ x
            · go_wp2
              go_ret
              exact ⟨ret_bool (by
                have := any_hit (outT 200) _ _ _ HXK.out (by simp [outT, hx1])
                simp [validB, this]), hB0⟩
            · go_wp2
              go_round
              case rel => exact ⟨k + 1, by omega, by go_num, any_take' _ _ _ _ HXK.out (by simp [outT]; omega) HA.out⟩
              case measure => simp [intOf]; omega
        · obtain rfl : k = g.n1 := by omega
          have HA2 := hide (show g.ops.any (outT 200) = false by have := HA.out; rwa [take_all HL1.out] at this)
          clear HA
          go_wp2_with fail
          go_loopw [5, 6, 7] (fun i _ _ wr => ∃ k : Nat, k ≤ g.n2 ∧ i = .int .i64 k ∧ (List.range k).all (okAt g.n1 g.es) = true ∧ Below W.heap.size W wr) (fun i _ _ _ => g.n2 - (intOf i).toNat)
          case atStart => exact ⟨0, Nat.zero_le _, rfl, rfl, Below.refl _ _⟩
          case round =>
            obtain ⟨k, hk, rfl, hall, hBr⟩ := hrel
            have hAll := hide hall
            clear hall
            have hd1 : wr.cell? ⟨w.heap.size, 0, none⟩ = some (.slice g.a1 g.n1 g.c1) := (hBr.cell (p := ⟨w.heap.size, 0, none⟩) (by show w.heap.size < _; omega)).trans hc1
            have hd2 : wr.cell? ⟨w.heap.size, 1, none⟩ = some (.slice g.a2 g.n2 g.c2) := (hBr.cell (p := ⟨w.heap.size, 1, none⟩) (by show w.heap.size < _; omega)).trans hc2
            have hgr := hg0.below hBr
            have hwl : w.heap.size < wr.heap.size := by have := hBr.size; omega
            by_cases hlt2 : k < g.n2
            · obtain ⟨b, off, e, ha, hb, hek, hce⟩ := hgr.r2.elem encEd_len HL2.out hlt2
              rw [ha] at hd2
              have HA0 := hide ha
              clear ha
              have hbw : b < wr.heap.size := by have := hBr.size; omega
              have HEK := hide hek
              clear hek
              have e0 : wr.cell? ⟨b, off + k * 3, none⟩ = some (.int .i64 e.f) := by simpa using hce 0 _ rfl
              have e1 : wr.cell? ⟨b, off + k * 3 + 1, none⟩ = some (.int .i64 e.t) := by simpa [← Nat.add_assoc] using hce 1 _ rfl
              have e2 : wr.cell? ⟨b, off + k * 3 + 2, none⟩ = some (.bool e.s) := by simpa [← Nat.add_assoc] using hce 2 _ rfl
              clear hce
              have hBf : Below w.heap.size w (wr.alloc (.cells #[.int .i64 e.f, .int .i64 e.t, .bool e.s] 50)) := bstep hB0 (hBr.alloc hBr.size _)
              have hBr2 : Below W.heap.size W (wr.alloc (.cells #[.int .i64 e.f, .int .i64 e.t, .bool e.s] 50)) := hBr.alloc hBr.size _
              have f0 : (wr.alloc (.cells #[.int .i64 e.f, .int .i64 e.t, .bool e.s] 50)).cell? ⟨wr.heap.size, 0, none⟩ = some (.int .i64 e.f) := by simp
              have f1 : (wr.alloc (.cells #[.int .i64 e.f, .int .i64 e.t, .bool e.s] 50)).cell? ⟨wr.heap.size, 1, none⟩ = some (.int .i64 e.t) := by simp
              by_cases x1 : e.f < 0
              · go_wp2
                go_ret
                exact ⟨ret_bool (by
                  have h2 := esB_no g.n1 g.es k (by rw [HL2.out]; exact hlt2) (by unfold okAt; rw [HEK.out]; simp [badE, x1])
                  simp [validB, h2]), hBf⟩
              · by_cases x2 : e.t ≤ e.f
                · go_wp2
                  go_ret
                  exact ⟨ret_bool (by
                    have h2 := esB_no g.n1 g.es k (by rw [HL2.out]; exact hlt2) (by unfold okAt; rw [HEK.out]; simp [badE, x2])
                    simp [validB, h2]), hBf⟩
                · by_cases x3 : (g.n1 : Int) ≤ e.t
                  · go_wp2
                    go_ret
                    exact ⟨ret_bool (by
                      have h2 := esB_no g.n1 g.es k (by rw [HL2.out]; exact hlt2) (by unfold okAt; rw [HEK.out]; simp [badE, x3])
                      simp [validB, h2]), hBf⟩
                  · have HBad := hide (show badE g.n1 e = false by simp [badE]; omega)
                    go_wp2_with fail
                    obtain ⟨W1, hW1⟩ : ∃ W1, wr.alloc (.cells #[.int .i64 e.f, .int .i64 e.t, .bool e.s] 50) = W1 := ⟨_, rfl⟩
                    have s1 : wr.heap.size < W1.heap.size := by rw [← hW1, World.size_alloc]; omega
                    rw [hW1] at hBf hBr2 f0 f1 ⊢
                    have hgW := hg0.below hBr2
                    have g2 : W1.cell? ⟨w.heap.size, 1, none⟩ = some (.slice (some ⟨b, off, none⟩) g.n2 g.c2) := by
                      rw [← HA0.out]; exact (hBr2.cell (p := ⟨w.heap.size, 1, none⟩) (by show w.heap.size < _; omega)).trans hc2
                    obtain ⟨be, hbe⟩ : ∃ be, wr.heap.size = be := ⟨_, rfl⟩
                    rw [hbe] at f0 f1 s1 hwl hbw ⊢
                    clear hW1 hd1 hd2 e0 e1 e2 hgr hbe
                    go_loopw [7] (fun i wr' => ∃ j q : Nat, j ≤ k ∧ i = .int .i64 j ∧ (g.es.take j).any (dupE e) = false ∧ wr' = W1.drewN q) (fun i _ => k - (intOf i).toNat)
                    case atStart => exact ⟨0, 0, Nat.zero_le _, rfl, rfl, rfl⟩
                    case round =>
                      obtain ⟨j, q, hj, rfl, hdup, hw⟩ := hrel
                      have HDup := hide hdup
                      have hg2 : wr.cell? ⟨w.heap.size, 1, none⟩ = some (.slice (some ⟨b, off, none⟩) g.n2 g.c2) := by rw [hw]; exact g2
                      have k0 : wr.cell? ⟨be, 0, none⟩ = some (.int .i64 e.f) := by rw [hw]; exact f0
                      have k1 : wr.cell? ⟨be, 1, none⟩ = some (.int .i64 e.t) := by rw [hw]; exact f1
                      have hgw : g.Ok wr W.heap.size := by rw [hw]; exact hgW.drewN q
                      have HW := hide hw
                      clear hw hdup
                      by_cases hlt3 : j < k
                      · obtain ⟨b', off', e', ha', hb', hek', hce⟩ := hgw.r2.elem encEd_len HL2.out (show j < g.n2 by omega)
                        rw [HA0.out] at ha'
                        injection ha' with ha'
                        injection ha' with z1 z2
                        subst z1 z2
                        have HEK' := hide hek'
                        clear hek'
                        have e0 : wr.cell? ⟨b, off + j * 3, none⟩ = some (.int .i64 e'.f) := by simpa using hce 0 _ rfl
                        have e1 : wr.cell? ⟨b, off + j * 3 + 1, none⟩ = some (.int .i64 e'.t) := by simpa [← Nat.add_assoc] using hce 1 _ rfl
                        clear hce
                        have q1 : (0 : Int) ≤ (j : Int) := by omega
                        have q2 : (j : Int) < (g.n2 : Int) := by omega
                        cases hq : (e'.f == e.f)
                        · have HQ := hide hq
                          go_wp2_with fail
                          go_quiet (fail)
                          go_wp2
                          go_roundw
                          case rel => exact ⟨j + 1, _, by omega, by go_num, any_take' _ _ _ _ HEK'.out (by simp [dupE, HQ.out]) HDup.out, by rw [HW.out]; first | rfl | exact World.drewN_drewN _ _ _⟩
                          case measure => simp [intOf]; omega
                        · cases hq2 : (e'.t == e.t)
                          · have HQ := hide hq2
                            go_wp2_with fail
                            go_quiet (fail)
                            go_wp2
                            go_roundw
                            case rel => exact ⟨j + 1, _, by omega, by go_num, any_take' _ _ _ _ HEK'.out (by simp [dupE, HQ.out]) HDup.out, by rw [HW.out]; first | rfl | exact World.drewN_drewN _ _ _⟩
                            case measure => simp [intOf]; omega
                          · have HQ := hide (show dupE e e' = true by simp [dupE, hq, hq2])
                            go_wp2_with fail
                            go_quiet (fail)
                            go_wp2
                            go_ret
                            exact ⟨ret_bool (by
                              have h3 : (g.es.take k).any (dupE e) = true := any_hit (dupE e) _ j e' (by rw [List.getElem?_take, if_pos hlt3]; exact HEK'.out) HQ.out
                              have h2 := esB_no g.n1 g.es k (by rw [HL2.out]; exact hlt2) (by unfold okAt; rw [HEK.out]; simp [h3])
                              simp [validB, h2]), by rw [HW.out]; first | exact below_drewN hBf _ | exact below_drewN (below_drewN hBf _) _⟩
                      · obtain rfl : j = k := by omega
                        go_wp2
                        go_roundw
                        case rel => exact ⟨j + 1, by omega, by go_num, by rw [all_snoc, hAll.out]; unfold okAt; rw [HEK.out]; simp [HBad.out, HDup.out], by rw [HW.out]; exact below_drewN hBr2 _⟩
                        case measure => simp [intOf]; omega
            · obtain rfl : k = g.n2 := by omega
              go_wp2
              go_ret
              exact ⟨ret_bool (by
                have h2 : esB g.n1 g.es = true := by unfold esB; rw [HL2.out]; exact hAll.out
                simp [validB, D0.out, h1, HA2.out, h2]), bstep hB0 hBr⟩
    · go_enter Tryd.func24, Tryd.ntmps24
      go_wp2_with (go_at_call 41; refine (In_any _ _ _).mono ?_; rintro e w' ⟨rfl, rfl⟩)
      go_ret
      exact ⟨ret_bool (by simp [validB, h1]), hB0⟩
  · have d0 : decide (1 ≤ (g.n1 : Int) ∧ (g.n1 : Int) ≤ 200) = false := by simp; omega
    have D0 : decide (1 ≤ g.n1 ∧ g.n1 ≤ 200) = false := by simpa using h0
    go_enter Tryd.func24, Tryd.ntmps24
    go_wp2_with (go_at_call 41; refine (In_any _ _ _).mono ?_; rintro e w' ⟨rfl, rfl⟩)
    go_ret
    exact ⟨ret_bool (by simp only [validB, D0, Bool.false_and]), hB0⟩
end Go.Proofs.YtmpoaegdejhbeaaDoor
