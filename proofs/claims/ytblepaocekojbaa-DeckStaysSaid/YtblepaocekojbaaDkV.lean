/-
  The walk of deck.Valid.
-/
import Derived.Test.YtblepaocekojbaaDkMap
namespace Go.Proofs.Ytblepaocekojbaa
open Go.RowKit Go.Shelf Go.Maps
attribute [local go_sem] Oper.semAt_some

def memS (es : List Ed) (k : Nat) : Int → Int → Bool := fun a b => (es.take k).any (dupE ⟨a, b, false⟩)
theorem memS_snoc (es : List Ed) (k : Nat) (e : Ed) (h : es[k]? = some e) : memS es (k + 1) = addP (memS es k) e.f e.t := by
  funext a b
  unfold memS addP
  rw [take_snoc' h, List.any_append]
  simp only [List.any_cons, List.any_nil, Bool.or_false, dupE]
  rw [Bool.or_comm, BEq.comm (a := e.f), BEq.comm (a := e.t)]
theorem wf_small (a : Int) (h : 0 ≤ a ∧ a < 1000) : (Lit.int .i64 a).wf = true := WalkArith.wf_i64 (by omega)

set_option maxRecDepth 100000 in
set_option maxHeartbeats 4000000 in
theorem Valid_any (g : Gr) (w : World) (hg : g.Ok w w.heap.size) (hn : g.n1 ≤ 4611686018427387904) (hm : g.n2 ≤ 4611686018427387904) :
    Calls Try.prog 30 #[.agg #[g.v1, g.v2]] w (RetV w (.bool (validB g))) := by
  have hB0 : Below w.heap.size w (w.alloc (.cells #[g.v1, g.v2] 30)) := (Below.refl _ _).alloc (Nat.le_refl _) _
  have hc1 : (w.alloc (.cells #[g.v1, g.v2] 30)).cell? ⟨w.heap.size, 0, none⟩ = some (.slice g.a1 g.n1 g.c1) := by simp [Gr.v1]
  have hc2 : (w.alloc (.cells #[g.v1, g.v2] 30)).cell? ⟨w.heap.size, 1, none⟩ = some (.slice g.a2 g.n2 g.c2) := by simp [Gr.v2]
  have hg0 := hg.up hB0
  have hsz0 : (w.alloc (.cells #[g.v1, g.v2] 30)).heap.size = w.heap.size + 1 := World.size_alloc _ _
  have HL2 := hide (hg.r2.len encEd_len (by omega))
  obtain ⟨W, hW⟩ : ∃ W, w.alloc (.cells #[g.v1, g.v2] 30) = W := ⟨_, rfl⟩
  rw [hW] at hB0 hc1 hc2 hg0 hsz0

  have hmm := @run_makeMap Try.prog
  by_cases h00 : 1 ≤ g.n1
  · by_cases h01 : g.n1 ≤ 200
    · by_cases h1 : g.n2 ≤ 400
      · cases ho : g.ops.any (outT 200)
        · have HO := hide ho
          go_enter Try.func30, Try.ntmps30
          go_wp2_with (go_at_call 61; refine (con_valid g.a1 g.n1 g.c1 W.heap.size g.ops _ hg0.r1 (by omega)).mono ?_; rintro e w' ⟨rfl, rfl⟩)
          have hP0 : PSet (W.alloc (.map #[] 0)) (w.heap.size + 1) 0 (memS g.es 0) := by have := PSet.made W; rw [hsz0] at this; exact this
          go_loopw [6, 7, 32] (fun _ _ i wr => ∃ k : Nat, k ≤ g.n2 ∧ i = .int .i64 k ∧ (List.range k).all (okAt g.n1 g.es) = true ∧ PSet wr (w.heap.size + 1) k (memS g.es k) ∧ Below W.heap.size W wr) (fun _ _ i _ => g.n2 - (intOf i).toNat)
          case atStart => exact ⟨0, Nat.zero_le _, rfl, rfl, hP0, (Below.refl _ _).alloc (Nat.le_refl _) _⟩
          case round =>
            clear hP0
            obtain ⟨k, hk, rfl, hall, hP, hBr⟩ := hrel
            have hAll := hide hall
            clear hall
            have hgr := hg0.below hBr
            have hPl := hP.lt
            by_cases hlt2 : k < g.n2
            · obtain ⟨b, off, e, ha, hb, hek, hce⟩ := hgr.r2.elem encEd_len HL2.out hlt2
              have hbw : b < wr.heap.size := by have := hBr.size; omega
              have HEK := hide hek
              clear hek
              have e0 : wr.cell? ⟨b, off + k * 3, none⟩ = some (.int .i64 e.f) := by simpa using hce 0 _ rfl
              have e1 : wr.cell? ⟨b, off + k * 3 + 1, none⟩ = some (.int .i64 e.t) := by simpa [← Nat.add_assoc] using hce 1 _ rfl
              have e2 : wr.cell? ⟨b, off + k * 3 + 2, none⟩ = some (.bool e.s) := by simpa [← Nat.add_assoc] using hce 2 _ rfl
              clear hce
              have hBr2 := (hBr.alloc hBr.size (.cells #[.int .i64 e.f, .int .i64 e.t, .bool e.s] 71))
              have hBr3 := hBr2.alloc hBr2.size (.cells #[.int .i64 e.f, .int .i64 e.t] 94)
              have hBf := bstep hB0 hBr3
              rw [ha]
              have HA0 := hide ha
              clear ha
              by_cases x1 : e.f < 0
              · go_wp2
                go_ret
                exact ⟨ret_bool (by
                  have h2 := esB_no g.n1 g.es k (by rw [HL2.out]; exact hlt2) (by unfold okAt; rw [HEK.out]; simp [badE, x1])
                  simp [validB, h2]), hBf⟩
              · by_cases x2 : e.t ≤ e.f
                · go_wp2
                  go_ret
                  exact ⟨ret_bool (by
                    have h2 := esB_no g.n1 g.es k (by rw [HL2.out]; exact hlt2) (by unfold okAt; rw [HEK.out]; simp [badE, x2])
                    simp [validB, h2]), hBf⟩
                · by_cases x3 : (g.n1 : Int) ≤ e.t
                  · go_wp2
                    go_ret
                    exact ⟨ret_bool (by
                      have h2 := esB_no g.n1 g.es k (by rw [HL2.out]; exact hlt2) (by unfold okAt; rw [HEK.out]; simp [badE, x3])
                      simp [validB, h2]), hBf⟩
                  · have HBad := hide (show badE g.n1 e = false by simp [badE]; omega)
                    have w1 := wf_small e.f (by omega)
                    have w2 := wf_small e.t (by omega)
                    have hP2 := (hP.alloc (.cells #[.int .i64 e.f, .int .i64 e.t, .bool e.s] 71)).alloc (.cells #[.int .i64 e.f, .int .i64 e.t] 94)
                    have hlk := hP2.look e.f e.t w1 w2
                    cases hq : memS g.es k e.f e.t
                    · rw [hq] at hlk
                      have HQ := hide hq
                      go_wp2_with (at_mapUpdate; refine wpList_put _ hP2 (by unfold maxLen; omega) e.f e.t w1 w2 rfl _ _ _ rfl rfl rfl rfl ?_; intro w' hP' hgrow)
                      go_roundw
                      case rel => exact ⟨k + 1, by omega, by go_num, by
                        rw [all_snoc, hAll.out]; unfold okAt; rw [HEK.out]
                        have := HQ.out
                        unfold memS at this
                        simp only [HBad.out]
                        simpa [dupE] using this, by rw [memS_snoc _ _ _ HEK.out]; exact hP', hBr3.grown hgrow hBr3.size (fun j hj => by injection hj with hj; omega)⟩
                      case measure => simp [intOf]; omega
                    · rw [hq] at hlk
                      have HQ := hide hq
                      go_wp2_with fail
                      go_ret
                      exact ⟨ret_bool (by
                        have h2 := esB_no g.n1 g.es k (by rw [HL2.out]; exact hlt2) (by
                          unfold okAt; rw [HEK.out]
                          have := HQ.out
                          unfold memS at this
                          simp only [HBad.out]
                          simpa [dupE] using this)
                        simp [validB, h2]), hBf⟩
            · obtain rfl : k = g.n2 := by omega
              go_wp2
              go_ret
              exact ⟨ret_bool (by
                have h2 : esB g.n1 g.es = true := by unfold esB; rw [HL2.out]; exact hAll.out
                simp [validB, h00, h01, h1, HO.out, h2]), bstep hB0 hBr⟩
        · have HO := hide ho
          go_enter Try.func30, Try.ntmps30
          go_wp2_with (go_at_call 61; refine (con_valid g.a1 g.n1 g.c1 W.heap.size g.ops _ hg0.r1 (by omega)).mono ?_; rintro e w' ⟨rfl, rfl⟩)
          go_ret
          exact ⟨ret_bool (by simp [validB, HO.out]), hB0⟩
      · go_enter Try.func30, Try.ntmps30
        go_wp2_with fail
        go_ret
        exact ⟨ret_bool (by simp [validB, h1]), hB0⟩
    · go_enter Try.func30, Try.ntmps30
      go_wp2_with fail
      go_ret
      exact ⟨ret_bool (by simp [validB, h01]), hB0⟩
  · go_enter Try.func30, Try.ntmps30
    go_wp2_with fail
    go_ret
    exact ⟨ret_bool (by simp [validB, h00]), hB0⟩
end Go.Proofs.Ytblepaocekojbaa
