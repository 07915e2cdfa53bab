/-
  A map keyed by [2]int that a call makes, as a set of pairs.
  The walk of deck.Valid.
-/
import Derived.Test.YtmpoaegdejhbeaaDoorDkC
import Derived.Maps.Own
import Derived.Maps.OwnSet
import Derived.DeepKeys4
import Derived.MapViews
namespace Go.Proofs.YtmpoaegdejhbeaaDoor

section
open Go.RowKit Go.Shelf Go.Maps

theorem laidOut2 : laidOutB Tryd.prog = true := by kernel_rfl
theorem row2 : (74 : TypeId) < Tryd.prog.types.size := of_decide_eq_true (by kernel_rfl)
theorem cells2 : Tryd.prog.cellsOf 74 = 2 := by kernel_rfl
theorem cells1 : Tryd.prog.cellsOf 3 = 1 := by kernel_rfl
theorem deep2 : Tryd.prog.keyTypeAt (Tryd.prog.types.size + 1) 74 = true := by kernel_rfl
theorem wide2 : (match Tryd.prog.underlying 74 with | some (.array _ _) | some (.struct _) => true | _ => false) = true := by rw [Tryd.underlying74]
theorem formed2 {c0 c1 : Value} : (Value.agg #[c0, c1]).formed Tryd.prog 74 = true := by simp [Value.formed, Tryd.underlying74, cells2]
set_option maxRecDepth 100000 in
theorem law2 : Keyed Tryd.prog 74 := Keyed.of_law (deep_law_laid laidOut2 (m := 2) (by omega) row2 (by kernel_rfl) wide2)

set_option maxRecDepth 100000 in
theorem key2 (a b : Int) (ha : (Lit.int .i64 a).wf = true) (hb : (Lit.int .i64 b).wf = true) : ∃ l, keyOf Tryd.prog 74 (.agg #[.int .i64 a, .int .i64 b]) = some l := by
  refine ⟨_, (keyOf_asKey (H := Unit) (enc := fun _ => ()) (w := default) (base := 0) (sp := fun _ => false) (held := true) (d := .agg [.lit (.int .i64 a), .lit (.int .i64 b)]) (ps := []) deep2 wide2 formed2 ⟨3, ?_⟩).1⟩
  simp [DataW.trod, Value.cells, Tryd.underlying74, Tryd.underlying3, cells1, cells2, ha, hb, show List.range 2 = [0, 1] from rfl]

/-- What a pair reads as. -/
noncomputable def kl (a b : Int) : Lit := (keyOf Tryd.prog 74 (.agg #[.int .i64 a, .int .i64 b])).getD (.bool false)
theorem kl_eq (a b : Int) (ha : (Lit.int .i64 a).wf = true) (hb : (Lit.int .i64 b).wf = true) : keyOf Tryd.prog 74 (.agg #[.int .i64 a, .int .i64 b]) = some (kl a b) := by
  obtain ⟨l, hl⟩ := key2 a b ha hb
  unfold kl; rw [hl]; rfl
theorem kl_inj {a b a' b' : Int} (ha : (Lit.int .i64 a).wf = true) (hb : (Lit.int .i64 b).wf = true) (ha' : (Lit.int .i64 a').wf = true) (hb' : (Lit.int .i64 b').wf = true) (h : kl a b = kl a' b') : a = a' ∧ b = b' := by
  have h1 := kl_eq a b ha hb
  have h2 := kl_eq a' b' ha' hb'
  rw [h] at h1
  have := law2.inj h1 h2
  simpa using this
theorem zeroB (w : World) : (zeroValue 4).run Tryd.prog w = .ok (.bool false) w := by kernel_rfl

/-- Block b is a map of at most n pairs that is true at just those of S. -/
def PSet (w : World) (b n : Nat) (S : Int → Int → Bool) : Prop :=
  ∃ D : DataW Unit, w.ownsMap Tryd.prog 74 (plainElem Tryd.prog 4) b n D ∧ IsMap D ∧ ∀ x y, (Lit.int .i64 x).wf = true → (Lit.int .i64 y).wf = true → D.atKey (kl x y) (.lit (.bool false)) = .lit (.bool (S x y))
theorem PSet.made (w : World) : PSet (w.alloc (.map #[] 0)) w.heap.size 0 (fun _ _ => false) :=
  ⟨.map [], World.ownsMap_made _ _ _ _, isMap_empty, fun _ _ _ _ => rfl⟩
theorem PSet.alloc {w : World} {b n : Nat} {S : Int → Int → Bool} (h : PSet w b n S) (o : Obj) : PSet (w.alloc o) b n S := by
  obtain ⟨D, h1, h2, h3⟩ := h
  exact ⟨D, h1.alloc o, h2, h3⟩
theorem PSet.lt {w : World} {b n : Nat} {S : Int → Int → Bool} (h : PSet w b n S) : b < w.heap.size := by
  obtain ⟨D, h1, _⟩ := h
  exact h1.lt
set_option maxRecDepth 100000 in
theorem PSet.look {w : World} {b n : Nat} {S : Int → Int → Bool} (h : PSet w b n S) (x y : Int) (hx : (Lit.int .i64 x).wf = true) (hy : (Lit.int .i64 y).wf = true) :
    (Instr.lookup 73 (.map (some b)) (.agg #[.int .i64 x, .int .i64 y]) false).run Tryd.prog w = .ok (.bool (S x y)) w := by
  obtain ⟨D, h1, h2, h3⟩ := h
  obtain ⟨v, ps, hrun, hv⟩ := h1.lookup law2 Tryd.underlying73 (zeroB w) (plainElem_bool Tryd.underlying4 false) (kl_eq x y hx hy)
  rw [h3 x y hx hy] at hv
  rw [hrun]
  unfold plainElem at hv
  rw [Tryd.underlying4] at hv
  cases v <;> simp at hv
  rw [hv.1]

/-- One pair more. -/
def addP (S : Int → Int → Bool) (x y : Int) : Int → Int → Bool := fun a b => (a == x && b == y) || S a b
set_option maxRecDepth 100000 in
theorem wpList_put (w : World) {ops : Array Oper} {rest : List Oper} {o : Oper} {a : Act} {Q : Exit → Act → World → Prop} {b n : Nat} {S : Int → Int → Bool} (h : PSet w b n S) (hn : n < maxLen) (x y : Int) (hx : (Lit.int .i64 x).wf = true) (hy : (Lit.int .i64 y).wf = true)
    (hg : o.guard = none) (m k v : Operand) (hop : o.op = Op.mapUpdate 73 m k v) (hm : a.eval m = .map (some b)) (hk : a.eval k = .agg #[.int .i64 x, .int .i64 y]) (hv : a.eval v = .bool true)
    (hK : ∀ w', PSet w' b (n + 1) (addP S x y) → w.grownBy w' (some b) → wpList Tryd.prog ops Q rest (a.put o.dst undef) w') : wpList Tryd.prog ops Q (o :: rest) a w := by
  obtain ⟨D, h1, h2, h3⟩ := h
  refine wpList_mapUpdate_own w hg m k v 73 hop 74 4 law2 Tryd.underlying73 _ b n D hm h1 hn _ _ (kl x y) hk hv (kl_eq x y hx hy) (.lit (.bool true)) [] (plainElem_bool Tryd.underlying4 true) ?_
  intro w' ho hgr
  refine hK w' ⟨_, ho, ?_, ?_⟩ hgr
  · obtain ⟨es, rfl⟩ := h2; exact ⟨_, rfl⟩
  · intro x' y' hx' hy'
    unfold addP
    by_cases e : x' = x ∧ y' = y
    · obtain ⟨rfl, rfl⟩ := e
      rw [atKey_put_same h2 (law2.key (kl_eq x' y' hx hy))]
      simp
    · rw [atKey_put_other (fun he => e (kl_inj hx' hy' hx hy he)), h3 x' y' hx' hy']
      have : (x' == x && y' == y) = false := by
        rw [Bool.and_eq_false_iff]
        by_cases e1 : x' = x
        · right; have : ¬ y' = y := fun e2 => e ⟨e1, e2⟩; simpa using this
        · left; simpa using e1
      rw [this]; rfl
end

section
open Go.RowKit Go.Shelf Go.Maps
attribute [local go_sem] Oper.semAt_some

def memS (es : List Ed) (k : Nat) : Int → Int → Bool := fun a b => (es.take k).any (dupE ⟨a, b, false⟩)
theorem memS_snoc (es : List Ed) (k : Nat) (e : Ed) (h : es[k]? = some e) : memS es (k + 1) = addP (memS es k) e.f e.t := by
  funext a b
  unfold memS addP
  rw [take_snoc' h, List.any_append]
  simp only [List.any_cons, List.any_nil, Bool.or_false, dupE]
  rw [Bool.or_comm, BEq.comm (a := e.f), BEq.comm (a := e.t)]
theorem wf_small (a : Int) (h : 0 ≤ a ∧ a < 1000) : (Lit.int .i64 a).wf = true := WalkArith.wf_i64 (by omega)

set_option maxRecDepth 100000 in
set_option maxHeartbeats 4000000 in
theorem Valid_any (g : Gr) (w : World) (hg : g.Ok w w.heap.size) (hn : g.n1 ≤ 4611686018427387904) (hm : g.n2 ≤ 4611686018427387904) :
    Calls Tryd.prog 16 #[.agg #[g.v1, g.v2]] w (RetV w (.bool (validB g))) := by
  have hB0 : Below w.heap.size w (w.alloc (.cells #[g.v1, g.v2] 31)) := (Below.refl _ _).alloc (Nat.le_refl _) _
  have hc1 : (w.alloc (.cells #[g.v1, g.v2] 31)).cell? ⟨w.heap.size, 0, none⟩ = some (.slice g.a1 g.n1 g.c1) := by simp [Gr.v1]
  have hc2 : (w.alloc (.cells #[g.v1, g.v2] 31)).cell? ⟨w.heap.size, 1, none⟩ = some (.slice g.a2 g.n2 g.c2) := by simp [Gr.v2]
  have hg0 := hg.up hB0
  have hsz0 : (w.alloc (.cells #[g.v1, g.v2] 31)).heap.size = w.heap.size + 1 := World.size_alloc _ _
  have HL2 := hide (hg.r2.len encEd_len (by omega))
  obtain ⟨W, hW⟩ : ∃ W, w.alloc (.cells #[g.v1, g.v2] 31) = W := ⟨_, rfl⟩
  rw [hW] at hB0 hc1 hc2 hg0 hsz0

  have hmm := @run_makeMap Tryd.prog
  by_cases h00 : 1 ≤ g.n1
  · by_cases h01 : g.n1 ≤ 200
    · by_cases h1 : g.n2 ≤ 400
      · cases ho : g.ops.any (outT 200)
        · have HO := hide ho
          go_enter Tryd.func16, Tryd.ntmps16
          go_wp2_with (go_at_call 34; refine (con_valid g.a1 g.n1 g.c1 W.heap.size g.ops _ hg0.r1 (by omega)).mono ?_; rintro e w' ⟨rfl, rfl⟩)
          have hP0 : PSet (W.alloc (.map #[] 0)) (w.heap.size + 1) 0 (memS g.es 0) := by have := PSet.made W; rw [hsz0] at this; exact this
          go_loopw [6, 7, 32] (fun _ _ i wr => ∃ k : Nat, k ≤ g.n2 ∧ i = .int .i64 k ∧ (List.range k).all (okAt g.n1 g.es) = true ∧ PSet wr (w.heap.size + 1) k (memS g.es k) ∧ Below W.heap.size W wr) (fun _ _ i _ => g.n2 - (intOf i).toNat)
          case atStart => exact ⟨0, Nat.zero_le _, rfl, rfl, hP0, (Below.refl _ _).alloc (Nat.le_refl _) _⟩
          case round =>
            clear hP0
            obtain ⟨k, hk, rfl, hall, hP, hBr⟩ := hrel
            have hAll := hide hall
            clear hall
            have hgr := hg0.below hBr
            have hPl := hP.lt
            by_cases hlt2 : k < g.n2
            · obtain ⟨b, off, e, ha, hb, hek, hce⟩ := hgr.r2.elem encEd_len HL2.out hlt2
              have hbw : b < wr.heap.size := by have := hBr.size; omega
              have HEK := hide hek
              clear hek
              have e0 : wr.cell? ⟨b, off + k * 3, none⟩ = some (.int .i64 e.f) := by simpa using hce 0 _ rfl
              have e1 : wr.cell? ⟨b, off + k * 3 + 1, none⟩ = some (.int .i64 e.t) := by simpa [← Nat.add_assoc] using hce 1 _ rfl
              have e2 : wr.cell? ⟨b, off + k * 3 + 2, none⟩ = some (.bool e.s) := by simpa [← Nat.add_assoc] using hce 2 _ rfl
              clear hce
              have hBr2 := (hBr.alloc hBr.size (.cells #[.int .i64 e.f, .int .i64 e.t, .bool e.s] 43))
              have hBr3 := hBr2.alloc hBr2.size (.cells #[.int .i64 e.f, .int .i64 e.t] 74)
              have hBf := bstep hB0 hBr3
              rw [ha]
              have HA0 := hide ha
              clear ha
              by_cases x1 : e.f < 0
              · go_wp2
                go_ret
                exact ⟨ret_bool (by
                  have h2 := esB_no g.n1 g.es k (by rw [HL2.out]; exact hlt2) (by unfold okAt; rw [HEK.out]; simp [badE, x1])
                  simp [validB, h2]), hBf⟩
              · by_cases x2 : e.t ≤ e.f
                · go_wp2
                  go_ret
                  exact ⟨ret_bool (by
                    have h2 := esB_no g.n1 g.es k (by rw [HL2.out]; exact hlt2) (by unfold okAt; rw [HEK.out]; simp [badE, x2])
                    simp [validB, h2]), hBf⟩
                · by_cases x3 : (g.n1 : Int) ≤ e.t
                  · go_wp2
                    go_ret
                    exact ⟨ret_bool (by
                      have h2 := esB_no g.n1 g.es k (by rw [HL2.out]; exact hlt2) (by unfold okAt; rw [HEK.out]; simp [badE, x3])
                      simp [validB, h2]), hBf⟩
                  · have HBad := hide (show badE g.n1 e = false by simp [badE]; omega)
                    have w1 := wf_small e.f (by omega)
                    have w2 := wf_small e.t (by omega)
                    have hP2 := (hP.alloc (.cells #[.int .i64 e.f, .int .i64 e.t, .bool e.s] 43)).alloc (.cells #[.int .i64 e.f, .int .i64 e.t] 74)
                    have hlk := hP2.look e.f e.t w1 w2
                    cases hq : memS g.es k e.f e.t
                    · rw [hq] at hlk
                      have HQ := hide hq
                      go_wp2_with (at_mapUpdate; refine wpList_put _ hP2 (by unfold maxLen; omega) e.f e.t w1 w2 rfl _ _ _ rfl rfl rfl rfl ?_; intro w' hP' hgrow)
                      go_roundw
                      case rel => exact ⟨k + 1, by omega, by go_num, by
                        rw [all_snoc, hAll.out]; unfold okAt; rw [HEK.out]
                        have := HQ.out
                        unfold memS at this
                        simp only [HBad.out]
                        simpa [dupE] using this, by rw [memS_snoc _ _ _ HEK.out]; exact hP', hBr3.grown hgrow hBr3.size (fun j hj => by injection hj with hj; omega)⟩
                      case measure => simp [intOf]; omega
                    · rw [hq] at hlk
                      have HQ := hide hq
                      go_wp2_with fail
                      go_ret
                      exact ⟨ret_bool (by
                        have h2 := esB_no g.n1 g.es k (by rw [HL2.out]; exact hlt2) (by
                          unfold okAt; rw [HEK.out]
                          have := HQ.out
                          unfold memS at this
                          simp only [HBad.out]
                          simpa [dupE] using this)
                        simp [validB, h2]), hBf⟩
            · obtain rfl : k = g.n2 := by omega
              go_wp2
              go_ret
              exact ⟨ret_bool (by
                have h2 : esB g.n1 g.es = true := by unfold esB; rw [HL2.out]; exact hAll.out
                simp [validB, h00, h01, h1, HO.out, h2]), bstep hB0 hBr⟩
        · have HO := hide ho
          go_enter Tryd.func16, Tryd.ntmps16
          go_wp2_with (go_at_call 34; refine (con_valid g.a1 g.n1 g.c1 W.heap.size g.ops _ hg0.r1 (by omega)).mono ?_; rintro e w' ⟨rfl, rfl⟩)
          go_ret
          exact ⟨ret_bool (by simp [validB, HO.out]), hB0⟩
      · go_enter Tryd.func16, Tryd.ntmps16
        go_wp2_with fail
        go_ret
        exact ⟨ret_bool (by simp [validB, h1]), hB0⟩
    · go_enter Tryd.func16, Tryd.ntmps16
      go_wp2_with fail
      go_ret
      exact ⟨ret_bool (by simp [validB, h01]), hB0⟩
  · go_enter Tryd.func16, Tryd.ntmps16
    go_wp2_with fail
    go_ret
    exact ⟨ret_bool (by simp [validB, h00]), hB0⟩
end

end Go.Proofs.YtmpoaegdejhbeaaDoor
