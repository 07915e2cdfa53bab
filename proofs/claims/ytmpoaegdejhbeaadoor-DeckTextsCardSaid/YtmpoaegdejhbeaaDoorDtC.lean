/-
  The walks of both Formats. No condition but the table of powers of ten.
-/
import Derived.Test.YtmpoaegdejhbeaaDoorDtB
import Derived.Test.YtmpoaegdejhbeaaDoorDkV
namespace Go.Proofs.YtmpoaegdejhbeaaDoor
open Go.RowKit
attribute [local go_sem] Oper.semAt_some
set_option linter.unusedVariables false
set_option linter.unusedSimpArgs false

theorem Gr.Ok.lens {g : Gr} {w : World} {B : Nat} (h : g.Ok w B) : g.ops.length = g.n1 ∧ g.es.length = g.n2 := ⟨h.r1.len1, h.r2.len encEd_len (by omega)⟩
theorem Gr.Ok.validC {g : Gr} {w : World} {B : Nat} (h : g.Ok w B) : validB g = Go.Proofs.YtmpoaegdejhbeaaDoor.validC ⟨g.ops, g.es⟩ := by
  obtain ⟨h1, h2⟩ := h.lens
  unfold validB Go.Proofs.YtmpoaegdejhbeaaDoor.validC
  rw [h1, h2]
theorem valid_es {g : GC} (h : validC g = true) : ∀ e ∈ g.es, 0 ≤ e.f ∧ e.f < e.t ∧ e.t < 200 := by
  intro e he
  obtain ⟨i, hi⟩ := List.getElem?_of_mem he
  have hlt := (List.getElem?_eq_some_iff.1 hi).1
  have e1 : g.es = g.es.take i ++ [e] ++ g.es.drop (i + 1) := by rw [← take_snoc' hi, List.take_append_drop]
  have h2 : validC ⟨g.ops, g.es.take i ++ [e]⟩ = true := valid_take (g.es.drop (i + 1)) _ (by rw [← e1]; exact h)
  exact valid_last h2
def fmtK (g : GC) (k : Nat) : List UInt8 := firstT g.ops ++ 10 :: (g.es.take k).flatMap lineE
theorem fmtK_snoc {g : GC} {k : Nat} {e : Ed} (h : g.es[k]? = some e) : fmtK g (k + 1) = fmtK g k ++ lineE e := by
  unfold fmtK
  rw [take_snoc' h]
  simp
theorem line_sz (e : Ed) (hf : i64B e.f) (ht : i64B e.t) : (lineE e).length ≤ 60 := by
  have h1 := Lib.itoa_length_le e.f hf.1 hf.2
  have h2 := Lib.itoa_length_le e.t ht.1 ht.2
  have h3 : (if e.s then stoW else pipW).length ≤ 5 := by cases e.s <;> decide
  unfold lineE edgeT
  simp only [joinL, List.length_append, List.length_cons, List.length_nil]
  omega
theorem first_sz (l : List Int) (hl : ∀ x ∈ l, i64B x) : (firstT l).length ≤ 9 + 22 * l.length := by
  have key : ∀ k, k ≤ l.length → (fstK l k).length ≤ 9 + 22 * k := by
    intro k
    induction k with
    | zero => intro _; unfold fstK; simp [joinL, opW]
    | succ k ih =>
      intro hk
      have hx : l[k]? = some l[k] := List.getElem?_eq_getElem (by omega)
      have hb := hl l[k] (List.getElem_mem _)
      have := Lib.itoa_length_le l[k] hb.1 hb.2
      rw [fstK_snoc hx, List.length_append, List.length_cons]
      have := ih (by omega)
      omega
  have h := key l.length (Nat.le_refl _)
  unfold fstK at h
  rwa [List.take_length] at h
theorem bsz (l : List UInt8) : (⟨l.toArray⟩ : ByteArray).size = l.length := by show l.toArray.size = _; rw [List.size_toArray]
set_option maxRecDepth 100000 in
set_option maxHeartbeats 8000000 in
theorem RFormat_any (g : Gr) (w : World) (hg : g.Ok w w.heap.size) (hn : g.n1 ≤ 4611686018427387904) (hm : g.n2 ≤ 4611686018427387904) (ht : Tab w) :
    Calls Tryd.prog 10 #[.agg #[g.v1, g.v2]] w (RetV w (.string ⟨(fmtG ⟨g.ops, g.es⟩).toArray⟩)) := by
  have hB0 : Below w.heap.size w (w.alloc (.cells #[g.v1, g.v2] 25)) := (Below.refl _ _).alloc (Nat.le_refl _) _
  have kb := Blk.new w 25 #[g.v1, g.v2]
  have hg0 := hg.up hB0
  have HVC := hide hg.validC
  have hlens := hg.lens
  go_enter Tryd.func10, Tryd.ntmps10
  go_upto_region 1 with fail
  obtain ⟨W0, hW0⟩ : ∃ W0, w.alloc (.cells #[g.v1, g.v2] 25) = W0 := ⟨_, rfl⟩
  obtain ⟨cb, hcb⟩ : ∃ cb, w.heap.size = cb := ⟨_, rfl⟩
  rw [hW0] at hB0 kb hg0 ⊢
  rw [hcb] at kb ⊢
  have hbl := kb.lt
  have c0 : W0.cell? ⟨cb, 0, none⟩ = some g.v1 := by simpa using kb.cell 0
  have c1 : W0.cell? ⟨cb, 1, none⟩ = some g.v2 := by simpa using kb.cell 1
  have HV := hide (RValid_any g W0 hg0 hn hm)
  rw [HVC.out] at HV
  clear hW0 hcb
  obtain ⟨bv, hbv⟩ : ∃ bv, validC ⟨g.ops, g.es⟩ = bv := ⟨_, rfl⟩
  rw [hbv] at HV
  have HBV := hide hbv
  clear hbv HVC
  go_wp2_with fail
  refine HV.out.mono ?_
  rintro e W1 ⟨rfl, hb1⟩
  have hB1 := bstep hB0 hb1
  have kb1 := kb.below hb1 hbl
  have hg1 := hg0.up hb1
  clear hb1 hB0 kb hg0 c0 c1 HV hbl
  cases bv
  case false =>
    have HR := hide (show fmtG ⟨g.ops, g.es⟩ = [] from by unfold fmtG; rw [HBV.out]; rfl)
    have HB := hide hB1
    clear hB1 kb1 hg1
    go_wp2
    go_ret
    exact ⟨by rw [HR.out]; rfl, HB.out⟩
  have HR := hide (show fmtG ⟨g.ops, g.es⟩ = fmtL ⟨g.ops, g.es⟩ from by unfold fmtG; rw [HBV.out]; rfl)
  have HOB := hide (fun x hx => (show i64B x from by have := valid_ops HBV.out x hx; exact ⟨by omega, by omega⟩))
  have HEB := hide (valid_es HBV.out)
  have hn200 : g.n1 ≤ 200 ∧ g.n2 ≤ 400 := by
    have := HBV.out
    unfold validC at this
    simp only [Bool.and_eq_true, decide_eq_true_eq] at this
    omega
  have c0 : W1.cell? ⟨cb, 0, none⟩ = some (.slice g.a1 g.n1 g.c1) := by simpa [Gr.v1] using kb1.cell 0
  have HF := hide (first_any g.a1 g.n1 g.c1 g.ops W1 hg1.r1 (by omega) HOB.out (ht.below hB1))
  have hfz := first_sz g.ops HOB.out
  have HL := hide hlens
  clear hlens
  go_wp2_with fail
  refine HF.out.mono ?_
  rintro e W2 ⟨rfl, hb2⟩
  have hB2 := bstep hB1 hb2
  have kb2 := kb1.below hb2 kb1.lt
  have hg2 := hg1.up hb2
  clear hb2 hB1 kb1 hg1 c0 HF
  obtain ⟨S0, hS0⟩ : ∃ S : ByteArray, (⟨(firstT g.ops ++ [10]).toArray⟩ : ByteArray) = S := ⟨_, rfl⟩
  have hz0 : S0.size ≤ 9 + 22 * 200 + 1 := by rw [← hS0, bsz, List.length_append]; have := HL.out.1; simp; omega
  have hS00 : S0 = ⟨(fmtK ⟨g.ops, g.es⟩ 0).toArray⟩ := by rw [← hS0]; unfold fmtK; simp
  rw [hS0]
  have HS0 := hide hS00
  have HZ0 := hide hz0
  clear hS0 hS00 hz0 hfz
  have HB2 := hide hB2
  have HK2 := hide kb2
  have HG2 := hide hg2
  clear hB2 kb2 hg2
  go_wp2_with fail
  have hB2 := HB2.out
  have kb2 := HK2.out
  have hg2 := HG2.out
  go_loopw [3, 4] (fun so i wr => ∃ (k : Nat) (S : ByteArray), k ≤ g.n2 ∧ i = .int .i64 (k : Int) ∧ so = .string S ∧ S = ⟨(fmtK ⟨g.ops, g.es⟩ k).toArray⟩ ∧ S.size ≤ 5000 + 60 * k ∧ Blk wr cb 25 #[g.v1, g.v2] ∧ g.Ok wr wr.heap.size ∧ Below w.heap.size w wr) (fun _ i _ => g.n2 - (intOf i).toNat)
  case atStart => exact ⟨0, S0, Nat.zero_le _, rfl, rfl, HS0.out, by have := HZ0.out; omega, kb2, hg2, hB2⟩
  case round =>
    clear hB2 kb2 hg2 HB2 HK2 HG2 HS0 HZ0
    obtain ⟨k, S, hk, rfl, rfl, hS, hSz, hkb, hgr, hB⟩ := hrel
    have c1 : wr.cell? ⟨cb, 1, none⟩ = some (.slice g.a2 g.n2 g.c2) := by simpa [Gr.v2] using hkb.cell 1
    by_cases hlt : k < g.n2
    · obtain ⟨b, off, x, hA, hb, hx, hc⟩ := hgr.r2.elem (enc := encEd) encEd_len HL.out.2 hlt
      have hxb := HEB.out x (List.mem_of_getElem? hx)
      have d0 : wr.cell? ⟨b, off + k * 3, none⟩ = some (.int .i64 x.f) := by simpa using hc 0 _ rfl
      have d1 : wr.cell? ⟨b, off + k * 3 + 1, none⟩ = some (.int .i64 x.t) := by simpa [← Nat.add_assoc] using hc 1 _ rfl
      have d2 : wr.cell? ⟨b, off + k * 3 + 2, none⟩ = some (.bool x.s) := by simpa [← Nat.add_assoc] using hc 2 _ rfl
      have HSN := hide (fmtK_snoc (g := ⟨g.ops, g.es⟩) hx)
      have HS := hide hS
      have q1 : (0 : Int) ≤ (k : Int) := by omega
      have q2 : (k : Int) < (g.n2 : Int) := by omega
      have hi0 : i64B x.f := ⟨by omega, by omega⟩
      have hi1 : i64B x.t := ⟨by omega, by omega⟩
      have hLz := line_sz x hi0 hi1
      have HI := hide (edge_any x wr hi0 hi1 (ht.below hB))
      obtain ⟨T, hT⟩ : ∃ T : ByteArray, (⟨(lineE x).toArray⟩ : ByteArray) = T := ⟨_, rfl⟩
      have hTz : T.size ≤ 60 := by rw [← hT, bsz]; exact hLz
      rw [hT] at HI
      have HT := hide hT
      have HB := hide hB
      have HKB := hide hkb
      have HGR := hide hgr
      rw [hA] at c1
      clear hS hx hT hB hkb hgr hc hxb hi0 hi1 hLz hA
      go_wp2_with fail
      refine HI.out.mono ?_
      rintro e W5 ⟨rfl, hb5⟩
      have HB5 := hide (HB.out.trans (hb5.mono HB.out.size))
      have HK5 := hide (HKB.out.below hb5 HKB.out.lt)
      have HG5 := hide (HGR.out.up hb5)
      clear hb5 HB HI d0 d1 d2 HKB HGR c1
      have hsz : ∀ a b : ByteArray, (a ++ b).size = a.size + b.size := fun a b => ByteArray.size_append
      go_wp2_with fail
      go_roundw
      case rel => exact ⟨k + 1, S ++ T, by omega, by go_num, rfl, by rw [HSN.out, ← HT.out, HS.out, cat_b], by rw [hsz]; omega, HK5.out, HG5.out, HB5.out⟩
      case measure => simp [intOf]; omega
    · have he : k = g.n2 := by omega
      have HR2 := hide (show fmtL ⟨g.ops, g.es⟩ = fmtK ⟨g.ops, g.es⟩ k from by unfold fmtK fmtL; simp only; rw [he, take_all HL.out.2])
      have HS := hide hS
      have HB := hide hB
      clear hS hB he hkb hgr
      go_wp2_with fail
      go_ret
      exact ⟨by rw [HR.out, HR2.out, ← HS.out]; rfl, HB.out⟩
/-- The edge loop's text, one edge on. -/
theorem edge_cat (S T0 T1 : ByteArray) (e : Ed) (h0 : (⟨(Lib.itoa e.f).toArray⟩ : ByteArray) = T0) (h1 : (⟨(Lib.itoa e.t).toArray⟩ : ByteArray) = T1) (a : List UInt8) (hS : S = ⟨a.toArray⟩) :
    S ++ (⟨((if e.s then stoW else pipW) ++ [32]).toArray⟩ ++ T0 ++ ⟨#[32]⟩ ++ T1 ++ ⟨#[10]⟩) = ⟨(a ++ lineE e).toArray⟩ := by
  rw [← h0, ← h1, line_cat, hS, cat_b]
set_option maxRecDepth 100000 in
set_option maxHeartbeats 8000000 in
theorem Format_any (g : Gr) (w : World) (hg : g.Ok w w.heap.size) (hn : g.n1 ≤ 4611686018427387904) (hm : g.n2 ≤ 4611686018427387904) (ht : Tab w) :
    Calls Tryd.prog 6 #[.agg #[g.v1, g.v2]] w (RetV w (.string ⟨(fmtG ⟨g.ops, g.es⟩).toArray⟩)) := by
  have hB0 : Below w.heap.size w (w.alloc (.cells #[g.v1, g.v2] 31)) := (Below.refl _ _).alloc (Nat.le_refl _) _
  have kb := Blk.new w 31 #[g.v1, g.v2]
  have hg0 := hg.up hB0
  have HVC := hide hg.validC
  have hlens := hg.lens
  go_enter Tryd.func6, Tryd.ntmps6
  go_upto_region 1 with fail
  obtain ⟨W0, hW0⟩ : ∃ W0, w.alloc (.cells #[g.v1, g.v2] 31) = W0 := ⟨_, rfl⟩
  obtain ⟨cb, hcb⟩ : ∃ cb, w.heap.size = cb := ⟨_, rfl⟩
  rw [hW0] at hB0 kb hg0 ⊢
  rw [hcb] at kb ⊢
  have hbl := kb.lt
  have c0 : W0.cell? ⟨cb, 0, none⟩ = some g.v1 := by simpa using kb.cell 0
  have c1 : W0.cell? ⟨cb, 1, none⟩ = some g.v2 := by simpa using kb.cell 1
  have HV := hide (Valid_any g W0 hg0 hn hm)
  rw [HVC.out] at HV
  clear hW0 hcb
  obtain ⟨bv, hbv⟩ : ∃ bv, validC ⟨g.ops, g.es⟩ = bv := ⟨_, rfl⟩
  rw [hbv] at HV
  have HBV := hide hbv
  clear hbv HVC
  go_wp2_with fail
  refine HV.out.mono ?_
  rintro e W1 ⟨rfl, hb1⟩
  have hB1 := bstep hB0 hb1
  have kb1 := kb.below hb1 hbl
  have hg1 := hg0.up hb1
  clear hb1 hB0 kb hg0 c0 c1 HV hbl
  cases bv
  case false =>
    have HR := hide (show fmtG ⟨g.ops, g.es⟩ = [] from by unfold fmtG; rw [HBV.out]; rfl)
    have HB := hide hB1
    clear hB1 kb1 hg1
    go_wp2
    go_ret
    exact ⟨by rw [HR.out]; rfl, HB.out⟩
  have HR := hide (show fmtG ⟨g.ops, g.es⟩ = fmtL ⟨g.ops, g.es⟩ from by unfold fmtG; rw [HBV.out]; rfl)
  have HOB := hide (fun x hx => (show i64B x from by have := valid_ops HBV.out x hx; exact ⟨by omega, by omega⟩))
  have HEB := hide (valid_es HBV.out)
  have hn200 : g.n1 ≤ 200 ∧ g.n2 ≤ 400 := by
    have := HBV.out
    unfold validC at this
    simp only [Bool.and_eq_true, decide_eq_true_eq] at this
    omega
  have c0 : W1.cell? ⟨cb, 0, none⟩ = some (.slice g.a1 g.n1 g.c1) := by simpa [Gr.v1] using kb1.cell 0
  have HL := hide hlens
  have HS0 := hide (show (⟨#[111, 112, 101, 114, 97, 116, 111, 114, 115]⟩ : ByteArray) = ⟨(fstK g.ops 0).toArray⟩ from by unfold fstK; simp [joinL, opW])
  have HB1 := hide hB1
  have HK1 := hide kb1
  have HG1 := hide hg1
  have HV12 := hide (show g.v1 = .slice g.a1 g.n1 g.c1 ∧ g.v2 = .slice g.a2 g.n2 g.c2 from ⟨rfl, rfl⟩)
  obtain ⟨v1, hv1⟩ : ∃ v1, g.v1 = v1 := ⟨_, rfl⟩
  obtain ⟨v2, hv2⟩ : ∃ v2, g.v2 = v2 := ⟨_, rfl⟩
  rw [hv1, hv2] at HV12 HK1
  clear hlens hB1 kb1 hg1 hv1 hv2 hg hn hm
  obtain ⟨a1, n1, c1, ops, a2, n2, c2, es⟩ := g
  simp only at HR HOB HEB hn200 c0 HL HS0 HG1 HV12 HBV ⊢
  obtain ⟨hv1, hv2⟩ := HV12.out
  go_wp2_with fail
  have hB1 := HB1.out
  have kb1 := HK1.out
  have hg1 := HG1.out
  go_loopw [3, 15] (fun so i wr => ∃ (k : Nat) (S : ByteArray), k ≤ n1 ∧ i = .int .i64 (k : Int) ∧ so = .string S ∧ S = ⟨(fstK ops k).toArray⟩ ∧ S.size ≤ 9 + 22 * k ∧ Blk wr cb 31 #[v1, v2] ∧ (⟨a1, n1, c1, ops, a2, n2, c2, es⟩ : Gr).Ok wr wr.heap.size ∧ Below w.heap.size w wr) (fun _ i _ => n1 - (intOf i).toNat)
  case atStart => exact ⟨0, _, Nat.zero_le _, rfl, rfl, HS0.out, by decide, kb1, hg1, hB1⟩
  case round =>
    clear hB1 kb1 hg1 HB1 HK1 HG1 HS0
    obtain ⟨k, S, hk, rfl, rfl, hS, hSz, hkb, hgr, hB⟩ := hrel
    by_cases hlt : k < n1
    case pos =>
      obtain ⟨b, off, x, hA, hb, hx, hc⟩ := hgr.r1.at1 hlt
      have hA' : a1 = some ⟨b, off, none⟩ := hA
      have HKB := hide hkb
      have HGR := hide hgr
      have HV := hide hv1
      have HV2 := hide HV12.out
      clear hkb hgr hA hv1 HV12
      subst hA'
      have hxb := HOB.out x (List.mem_of_getElem? hx)
      have HSN := hide (fstK_snoc hx)
      have HS := hide hS
      have q1 : (0 : Int) ≤ (k : Int) := by omega
      have q2 : (k : Int) < (n1 : Int) := by omega
      obtain ⟨T, hT⟩ : ∃ T : ByteArray, (⟨(Lib.itoa x).toArray⟩ : ByteArray) = T := ⟨_, rfl⟩
      have hTz := itoa_sz x hxb.1 hxb.2
      have HI := hide (itoa_any x hxb.1 hxb.2 wr (ht.below hB))
      rw [hT] at HI hTz
      have HT := hide hT
      have HB := hide hB
      clear hS hx hT hB hxb
      go_wp2_with fail
      refine HI.out.mono ?_
      rintro e W5 ⟨rfl, hb5⟩
      have HB5 := hide (HB.out.trans (hb5.mono HB.out.size))
      have HK5 := hide (HKB.out.below hb5 HKB.out.lt)
      have HG5 := hide (HGR.out.up hb5)
      clear hb5 HB HI hc HKB HGR
      have hsz : ∀ a b : ByteArray, (a ++ b).size = a.size + b.size := fun a b => ByteArray.size_append
      go_wp2_with fail
      go_roundw
      case rel => exact ⟨k + 1, S ++ (⟨#[32]⟩ ++ T), by omega, by go_num, rfl, by rw [HSN.out, ← fst_cat, HT.out, ← HS.out], by rw [hsz, hsz]; have : (⟨#[32]⟩ : ByteArray).size = 1 := rfl; omega, HK5.out, HG5.out, HB5.out⟩
      case measure => simp [intOf]; omega
    case neg =>
    have he : k = n1 := by omega
    have HF0 := hide (show (⟨(fstK ops k ++ [10]).toArray⟩ : ByteArray) = ⟨(fmtK ⟨ops, es⟩ 0).toArray⟩ from by unfold fstK fmtK firstT; rw [he, take_all HL.out.1]; simp)
    have HS := hide hS
    have HB := hide hB
    have HKB := hide hkb
    have HGR := hide hgr
    have d1 : wr.cell? ⟨cb, 1, none⟩ = some (.slice a2 n2 c2) := by rw [hkb.cell 1]; simp [hv2, Gr.v2]
    have hz0 : (S ++ ⟨#[10]⟩).size ≤ 5000 := by rw [ByteArray.size_append]; have : (⟨#[10]⟩ : ByteArray).size = 1 := rfl; omega
    have hf0 : S ++ ⟨#[10]⟩ = ⟨(fmtK ⟨ops, es⟩ 0).toArray⟩ := by rw [HS.out, nl_cat]; exact HF0.out
    have HF1 := hide hf0
    have HZ1 := hide hz0
    clear hS hB hkb hgr he hf0 hz0 HF0
    go_wp2_with fail
    have hB := HB.out
    have hkb := HKB.out
    have hgr := HGR.out
    obtain ⟨wa, hwa⟩ : ∃ wa : World, wa = wr := ⟨_, rfl⟩
    subst hwa
    clear d1 HB HKB HGR
    go_loopw [3, 30] (fun so i wr => ∃ (k : Nat) (S : ByteArray), k ≤ n2 ∧ i = .int .i64 (k : Int) ∧ so = .string S ∧ S = ⟨(fmtK ⟨ops, es⟩ k).toArray⟩ ∧ S.size ≤ 5000 + 60 * k ∧ (⟨a1, n1, c1, ops, a2, n2, c2, es⟩ : Gr).Ok wr wr.heap.size ∧ Below w.heap.size w wr) (fun _ i _ => n2 - (intOf i).toNat)
    case atStart => exact ⟨0, _, Nat.zero_le _, rfl, rfl, HF1.out, by have := HZ1.out; omega, hgr, hB⟩
    case round =>
      clear hB hkb hgr HF1 HZ1 HS hSz
      obtain ⟨k2, S2, hk2, rfl, rfl, hS, hSz, hgr, hB⟩ := hrel
      by_cases hlt2 : k2 < n2
      · obtain ⟨b, off, x, hA, hb, hx, hc⟩ := hgr.r2.elem (enc := encEd) encEd_len HL.out.2 hlt2
        have hA' : a2 = some ⟨b, off, none⟩ := hA
        have hxb := HEB.out x (List.mem_of_getElem? hx)
        have d0 : wr.cell? ⟨b, off + k2 * 3, none⟩ = some (.int .i64 x.f) := by simpa using hc 0 _ rfl
        have d1 : wr.cell? ⟨b, off + k2 * 3 + 1, none⟩ = some (.int .i64 x.t) := by simpa [← Nat.add_assoc] using hc 1 _ rfl
        have d2 : wr.cell? ⟨b, off + k2 * 3 + 2, none⟩ = some (.bool x.s) := by simpa [← Nat.add_assoc] using hc 2 _ rfl
        have HGR := hide hgr
        clear hgr hA hv2 hv1 HV12
        subst hA'
        have HSN := hide (fmtK_snoc (g := ⟨ops, es⟩) hx)
        have q1 : (0 : Int) ≤ (k2 : Int) := by omega
        have q2 : (k2 : Int) < (n2 : Int) := by omega
        have hi0 : i64B x.f := ⟨by omega, by omega⟩
        have hi1 : i64B x.t := ⟨by omega, by omega⟩
        have hLz := line_sz x hi0 hi1
        have hbx : Below wr.heap.size wr (wr.alloc (.cells #[.int .i64 x.f, .int .i64 x.t, .bool x.s] 43)) := (Below.refl _ _).alloc (Nat.le_refl _) _
        have kx := Blk.new wr 43 #[.int .i64 x.f, .int .i64 x.t, .bool x.s]
        have hB6 := hB.trans (hbx.mono hB.size)
        have hg6 := HGR.out.up hbx
        have htx := (ht.below hB).below hbx
        go_upto_region 14 with fail
        obtain ⟨W6, hW6⟩ : ∃ W6, wr.alloc (.cells #[.int .i64 x.f, .int .i64 x.t, .bool x.s] 43) = W6 := ⟨_, rfl⟩
        obtain ⟨xb, hxbk⟩ : ∃ xb, wr.heap.size = xb := ⟨_, rfl⟩
        rw [hW6] at kx hB6 hg6 htx ⊢
        rw [hxbk] at kx ⊢
        have hxl := kx.lt
        have e0 : W6.cell? ⟨xb, 0, none⟩ = some (.int .i64 x.f) := by simpa using kx.cell 0
        have e1 : W6.cell? ⟨xb, 1, none⟩ = some (.int .i64 x.t) := by simpa using kx.cell 1
        have e2 : W6.cell? ⟨xb, 2, none⟩ = some (.bool x.s) := by simpa using kx.cell 2
        obtain ⟨T0, hT0⟩ : ∃ T : ByteArray, (⟨(Lib.itoa x.f).toArray⟩ : ByteArray) = T := ⟨_, rfl⟩
        obtain ⟨T1, hT1⟩ : ∃ T : ByteArray, (⟨(Lib.itoa x.t).toArray⟩ : ByteArray) = T := ⟨_, rfl⟩
        have hz0 := itoa_sz x.f hi0.1 hi0.2
        have hz1 := itoa_sz x.t hi1.1 hi1.2
        have HCAT := hide (edge_cat S2 T0 T1 x hT0 hT1 _ hS)
        have hsize : (S2 ++ (⟨((if x.s then stoW else pipW) ++ [32]).toArray⟩ ++ T0 ++ ⟨#[32]⟩ ++ T1 ++ ⟨#[10]⟩)).size ≤ 5000 + 60 * (k2 + 1) := by
          have hl : (lineE x).length ≤ 60 := hLz
          have h2 : S2.size = (fmtK ⟨ops, es⟩ k2).length := by rw [hS, bsz]
          rw [HCAT.out, bsz, List.length_append]
          omega
        have HSZ := hide hsize
        have HTX := hide htx
        have C0 := fun (q : BW W6) => calls_bw (p := q) (itoa_any x.f hi0.1 hi0.2 q.x (HTX.out.below q.h))
        have C1 := fun (q : BW W6) => calls_bw (p := q) (itoa_any x.t hi1.1 hi1.2 q.x (HTX.out.below q.h))
        simp only [hT0] at C0
        simp only [hT1] at C1
        rw [hT0] at hz0
        rw [hT1] at hz1
        have HC0 := hide C0
        have HC1 := hide C1
        have p0 := fun (q : BW W6) => BW.cell (a := ⟨xb, 0, none⟩) hxl e0 q
        have p1 := fun (q : BW W6) => BW.cell (a := ⟨xb, 1, none⟩) hxl e1 q
        have HG6 := hide hg6
        have HB6 := hide hB6
        obtain ⟨xf, xt, xs⟩ := x
        clear hW6 hxbk kx hb hx hc d0 d1 d2 HGR hS hB hbx hxb hi0 hi1 hLz hT0 hT1 htx hsize C0 C1 e0 e1 hg6 hB6 HL
        cases xs
        all_goals
          go_upto_region 16 with fail
          (refine wp_region_quiet_bw (by kernel_rfl) (by kernel_rfl) ?_
           repeat (first | go_big_quiet_step ((first | (go_at_call 17; with_reducible exact HC0.out _) | (go_at_call 17; with_reducible exact HC1.out _))) | quiet_step ((first | (go_at_call 17; with_reducible exact HC0.out _) | (go_at_call 17; with_reducible exact HC1.out _))))
           refine wpQuiet_nil ?_
           intro wq hw'
           obtain ⟨⟨_, hbq⟩, hw''⟩ := hw'
           subst hw'')
          have HB7 := hide (HB6.out.trans (hbq.mono HB6.out.size))
          have HG7 := hide (HG6.out.up hbq)
          clear hbq p0 p1 HC0 HC1 e2
          go_wp2_with fail
          go_roundw
          case rel => exact ⟨k2 + 1, _, by omega, by go_num, rfl, by rw [HSN.out]; exact HCAT.out, HSZ.out, HG7.out, HB7.out⟩
          case measure => simp [intOf]; omega
      · have he : k2 = n2 := by omega
        have HR2 := hide (show fmtL ⟨ops, es⟩ = fmtK ⟨ops, es⟩ k2 from by unfold fmtK fmtL; simp only; rw [he, take_all HL.out.2])
        have HS := hide hS
        have HB := hide hB
        clear hS hB he hgr
        go_wp2_with fail
        go_ret
        exact ⟨by rw [HR.out, HR2.out, ← HS.out]; rfl, HB.out⟩
end Go.Proofs.YtmpoaegdejhbeaaDoor
