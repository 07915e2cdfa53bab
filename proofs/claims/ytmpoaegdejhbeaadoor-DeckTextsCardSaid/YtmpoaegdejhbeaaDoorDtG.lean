/-
  The walk of the reference's SameGraph. No condition.
-/
import Derived.Test.YtmpoaegdejhbeaaDoorDkC
import Derived.Test.YtmpoaegdejhbeaaDoorDkB
import Derived.Deep.QuietTactic
import Derived.Deep.Cut
import Derived.Deep.CutRange
import Derived.BigQuiet
namespace Go.Proofs.YtmpoaegdejhbeaaDoor
open Go.RowKit
attribute [local go_sem] Oper.semAt_some
set_option linter.unusedVariables false
set_option linter.unusedSimpArgs false

def eqEd (a b : Ed) : Bool := decide (a = b)
theorem neqEd (a b : Ed) (w : World) : (binOp .neq 50 (.agg #[.int .i64 a.f, .int .i64 a.t, .bool a.s]) (.agg #[.int .i64 b.f, .int .i64 b.t, .bool b.s])).run Tryd.prog w = (.ok (.bool (!(eqEd a b))) w) := by
  have u3 := Tryd.underlying3
  have a3 := Tryd.isAgg3
  have z3 := Tryd.sizeOf3
  have u4 := Tryd.underlying4
  have a4 := Tryd.isAgg4
  have z4 := Tryd.sizeOf4
  have hS : Tryd.prog.underlying 50 = some (.struct (Tryd.prog.fieldsOf 50)) := by kernel_rfl
  have hp : Tryd.prog.stoodInHeld 50 = false := by kernel_rfl
  rw [run_neq_struct, show (10000 : Nat) = 9999 + 1 from rfl, run_equalIn_agg w 9999 50 _ _ hS hp]
  simp only [Program.fieldsOf, Tryd.underlying50]
  obtain ⟨f, t, s⟩ := a
  obtain ⟨f', t', s'⟩ := b
  unfold eqEd
  go_simp
  by_cases h1 : f = f' <;> by_cases h2 : t = t' <;> by_cases h3 : s = s' <;> simp [h1, h2, h3]
def sameG (g h : Gr) : Bool := decide (g.ops = h.ops ∧ g.es = h.es)
set_option maxRecDepth 100000 in
set_option maxHeartbeats 8000000 in
theorem SameGraph_any (g h : Gr) (w : World) (hg : g.Ok w w.heap.size) (hh : h.Ok w w.heap.size) (b1 : g.n1 ≤ 1000000) (b2 : g.n2 ≤ 1000000) (b3 : h.n1 ≤ 1000000) (b4 : h.n2 ≤ 1000000) :
    Calls Tryd.prog 11 #[.agg #[g.v1, g.v2], .agg #[h.v1, h.v2]] w (RetV w (.bool (sameG g h))) := by
  obtain ⟨a1, n1, c1, ops, a2, n2, c2, es⟩ := g
  obtain ⟨a3, n3, c3, ops', a4, n4, c4, es'⟩ := h
  have HL := hide (show ops.length = n1 ∧ es.length = n2 from ⟨hg.r1.len1, hg.r2.len encEd_len (by omega)⟩)
  have HL' := hide (show ops'.length = n3 ∧ es'.length = n4 from ⟨hh.r1.len1, hh.r2.len encEd_len (by omega)⟩)
  have hB0 : Below w.heap.size w ((w.alloc (.cells #[.slice a1 n1 c1, .slice a2 n2 c2] 25)).alloc (.cells #[.slice a3 n3 c3, .slice a4 n4 c4] 25)) := ((Below.refl _ _).alloc (Nat.le_refl _) _).alloc (by rw [World.size_alloc]; omega) _
  have k1 := (Blk.new w 25 #[.slice a1 n1 c1, .slice a2 n2 c2]).alloc (.cells #[.slice a3 n3 c3, .slice a4 n4 c4] 25)
  have k2 := Blk.new (w.alloc (.cells #[.slice a1 n1 c1, .slice a2 n2 c2] 25)) 25 #[.slice a3 n3 c3, .slice a4 n4 c4]
  rw [World.size_alloc] at k2
  have hg0 := hg.up hB0
  have hh0 := hh.up hB0
  simp only at b1 b2 b3 b4
  go_enter Tryd.func11, Tryd.ntmps11
  go_upto_region 1 with fail
  obtain ⟨W0, hW0⟩ : ∃ W0, (w.alloc (.cells #[.slice a1 n1 c1, .slice a2 n2 c2] 25)).alloc (.cells #[.slice a3 n3 c3, .slice a4 n4 c4] 25) = W0 := ⟨_, rfl⟩
  obtain ⟨p, hp⟩ : ∃ p, w.heap.size = p := ⟨_, rfl⟩
  try unfold Gr.v1 Gr.v2
  rw [hW0] at hB0 k1 k2 hg0 hh0 ⊢
  rw [hp] at k1 k2 ⊢
  have hpl := k2.lt
  clear hW0 hp
  have c0 : W0.cell? ⟨p, 0, none⟩ = some (.slice a1 n1 c1) := by simpa using k1.cell 0
  have c1' : W0.cell? ⟨p, 1, none⟩ = some (.slice a2 n2 c2) := by simpa using k1.cell 1
  have d0 : W0.cell? ⟨p + 1, 0, none⟩ = some (.slice a3 n3 c3) := by simpa using k2.cell 0
  have d1 : W0.cell? ⟨p + 1, 1, none⟩ = some (.slice a4 n4 c4) := by simpa using k2.cell 1
  have HSI := hide (SameInts_any a1 a3 n1 n3 c1 c3 _ _ ops ops' W0 hg0.r1 hh0.r1 (by show n1 ≤ _; omega) (by show n3 ≤ _; omega))
  have HB0 := hide hB0
  have hsz0 := hB0.size
  have HG := hide hg0
  have HH := hide hh0
  have HK1 := hide k1
  have HK2 := hide k2
  clear hB0 k1 k2 hg0 hh0
  by_cases hl : n2 = n4
  case neg =>
    have z : ((n2 : Int) != (n4 : Int)) = true := by rw [bne_iff_ne]; omega
    have z2 : ((n2 : Int) == (n4 : Int)) = false := by rw [beq_eq_false_iff_ne]; omega
    have HR := hide (show sameG ⟨a1, n1, c1, ops, a2, n2, c2, es⟩ ⟨a3, n3, c3, ops', a4, n4, c4, es'⟩ = false from by
      unfold sameG
      rw [decide_eq_false_iff_not]
      intro h
      have h2 : es.length = es'.length := congrArg List.length h.2
      have := HL.out.2
      have := HL'.out.2
      omega)
    clear hl
    go_wp2_with fail
    go_ret
    exact ⟨ret_bool HR.out.symm, HB0.out⟩
  have z : ((n2 : Int) != (n4 : Int)) = false := by rw [bne_eq_false_iff_eq]; omega
  have z2 : ((n2 : Int) == (n4 : Int)) = true := by rw [beq_iff_eq]; omega
  have HLL := hide hl
  clear hl
  go_wp2_with fail
  refine HSI.out.mono ?_
  rintro e W1 ⟨rfl, nq, hW1⟩
  have hb : Below W0.heap.size W0 W1 := by rw [hW1]; exact below_drewN (Below.refl _ _) nq
  clear hW1 HSI c0 c1' d0 d1
  have hB1 := HB0.out.trans (hb.mono hsz0)
  have k1 := HK1.out.below hb HK1.out.lt
  have k2 := HK2.out.below hb HK2.out.lt
  have hg1 := HG.out.up hb
  have hh1 := HH.out.up hb
  clear hb
  obtain ⟨q, hq⟩ : ∃ q, decide (ops = ops') = q := ⟨_, rfl⟩
  rw [hq]
  have HQ := hide hq
  clear hq
  cases q
  case false =>
    have HR := hide (show sameG ⟨a1, n1, c1, ops, a2, n2, c2, es⟩ ⟨a3, n3, c3, ops', a4, n4, c4, es'⟩ = false from by
      unfold sameG
      rw [decide_eq_false_iff_not]
      intro h
      exact of_decide_eq_false HQ.out h.1)
    have HB := hide hB1
    clear hB1 k1 k2 hg1 hh1
    go_wp2_with fail
    go_ret
    exact ⟨ret_bool HR.out.symm, HB.out⟩
  have HB1 := hide hB1
  have HK11 := hide k1
  have HK21 := hide k2
  have HG1 := hide hg1
  have HH1 := hide hh1
  clear hB1 k1 k2 hg1 hh1 HB0 HK1 HK2 HG HH
  go_wp2_with fail
  have hB1 := HB1.out
  have k1 := HK11.out
  have k2 := HK21.out
  have hg1 := HG1.out
  have hh1 := HH1.out
  go_loopw [5] (fun i wr => ∃ k : Nat, k ≤ n2 ∧ i = .int .i64 (k : Int) ∧ es.take k = es'.take k ∧ Blk wr p 25 #[.slice a1 n1 c1, .slice a2 n2 c2] ∧ Blk wr (p + 1) 25 #[.slice a3 n3 c3, .slice a4 n4 c4] ∧ (⟨a1, n1, c1, ops, a2, n2, c2, es⟩ : Gr).Ok wr wr.heap.size ∧ (⟨a3, n3, c3, ops', a4, n4, c4, es'⟩ : Gr).Ok wr wr.heap.size ∧ Below w.heap.size w wr) (fun i _ => n2 - (intOf i).toNat)
  case atStart => exact ⟨0, Nat.zero_le _, rfl, rfl, k1, k2, hg1, hh1, hB1⟩
  case round =>
    clear hB1 k1 k2 hg1 hh1 HB1 HK11 HK21 HG1 HH1
    obtain ⟨k, hk, rfl, htk, k1, k2, hg, hh, hB⟩ := hrel
    have c1' : wr.cell? ⟨p, 1, none⟩ = some (.slice a2 n2 c2) := by simpa using k1.cell 1
    have d1 : wr.cell? ⟨p + 1, 1, none⟩ = some (.slice a4 n4 c4) := by simpa using k2.cell 1
    have HTK := hide htk
    by_cases hlt : k < n2
    case pos =>
      have hlt4 : k < n4 := by have := HLL.out; omega
      obtain ⟨b, off, x, hA, hb, hx, hc⟩ := hg.r2.elem (enc := encEd) encEd_len HL.out.2 hlt
      obtain ⟨b', off', y, hA', hb', hy, hc'⟩ := hh.r2.elem (enc := encEd) encEd_len HL'.out.2 hlt4
      have hAe : a2 = some ⟨b, off, none⟩ := hA
      have hAe' : a4 = some ⟨b', off', none⟩ := hA'
      have e0 : wr.cell? ⟨b, off + k * 3, none⟩ = some (.int .i64 x.f) := by simpa using hc 0 _ rfl
      have e1 : wr.cell? ⟨b, off + k * 3 + 1, none⟩ = some (.int .i64 x.t) := by simpa [← Nat.add_assoc] using hc 1 _ rfl
      have e2 : wr.cell? ⟨b, off + k * 3 + 2, none⟩ = some (.bool x.s) := by simpa [← Nat.add_assoc] using hc 2 _ rfl
      have f0 : wr.cell? ⟨b', off' + k * 3, none⟩ = some (.int .i64 y.f) := by simpa using hc' 0 _ rfl
      have f1 : wr.cell? ⟨b', off' + k * 3 + 1, none⟩ = some (.int .i64 y.t) := by simpa [← Nat.add_assoc] using hc' 1 _ rfl
      have f2 : wr.cell? ⟨b', off' + k * 3 + 2, none⟩ = some (.bool y.s) := by simpa [← Nat.add_assoc] using hc' 2 _ rfl
      have q1 : (0 : Int) ≤ (k : Int) := by omega
      have q2 : (k : Int) < (n2 : Int) := by omega
      have q3 : (k : Int) < (n4 : Int) := by omega
      have hnq := neqEd x y
      have hgt : Tryd.prog.eqGuardType Tryd.prog.depth 50 = false := by kernel_rfl
      have HK1 := hide k1
      have HK2 := hide k2
      have HG := hide hg
      have HH := hide hh
      have HB := hide hB
      have HX := hide hx
      have HY := hide hy
      rw [hAe] at c1'
      rw [hAe'] at d1
      obtain ⟨eb, heb⟩ : ∃ eb, eqEd x y = eb := ⟨_, rfl⟩
      rw [heb] at hnq
      have HEB := hide heb
      clear hA hA' hAe hAe' hc hc' hb hb' hx hy k1 k2 hg hh hB htk heb
      cases eb
      · have HR := hide (show sameG ⟨a1, n1, c1, ops, a2, n2, c2, es⟩ ⟨a3, n3, c3, ops', a4, n4, c4, es'⟩ = false from by
          unfold sameG
          rw [decide_eq_false_iff_not]
          intro h
          have h2 : es = es' := h.2
          have h3 := HX.out
          rw [h2, HY.out] at h3
          injection h3 with h3
          have := HEB.out
          unfold eqEd at this
          exact of_decide_eq_false this h3.symm)
        go_upto_region 6 with fail
        go_quiet (fail)
        go_wp2_with fail
        go_ret
        exact ⟨ret_bool HR.out.symm, below_drewN HB.out _⟩
      · have HTK2 := hide (show es.take (k + 1) = es'.take (k + 1) from by
          have hxy : x = y := by have := HEB.out; unfold eqEd at this; exact of_decide_eq_true this
          rw [take_snoc' HX.out, take_snoc' HY.out, HTK.out, hxy])
        go_upto_region 6 with fail
        go_quiet (fail)
        go_wp2_with fail
        go_roundw
        case rel => exact ⟨k + 1, by omega, by go_num, HTK2.out, HK1.out.drewN _, HK2.out.drewN _, HG.out.drewN _, HH.out.drewN _, below_drewN HB.out _⟩
        case measure => simp [intOf]; omega
    case neg =>
      have hkn : k = n2 := by omega
      have HR := hide (show sameG ⟨a1, n1, c1, ops, a2, n2, c2, es⟩ ⟨a3, n3, c3, ops', a4, n4, c4, es'⟩ = true from by
        unfold sameG
        rw [decide_eq_true_iff]
        have h1 : es.take n2 = es := List.take_of_length_le (by have := HL.out.2; omega)
        have h2 : es'.take n2 = es' := List.take_of_length_le (by have := HL'.out.2; have := HLL.out; omega)
        have h3 := HTK.out
        rw [hkn, h1, h2] at h3
        exact ⟨of_decide_eq_true HQ.out, h3⟩)
      have HB := hide hB
      clear hkn htk hB k1 k2 hg hh d1
      go_wp2_with fail
      go_ret
      exact ⟨ret_bool HR.out.symm, HB.out⟩
end Go.Proofs.YtmpoaegdejhbeaaDoor
