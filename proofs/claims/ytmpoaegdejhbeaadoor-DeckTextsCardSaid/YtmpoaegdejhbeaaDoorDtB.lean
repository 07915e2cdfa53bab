/-
  The walks of the reference's edge, first and Format. No condition but the table of powers of ten.
-/
import Derived.Test.YtmpoaegdejhbeaaDoorDtA
import Derived.Test.YtmpoaegdejhbeaaDoorTcI
namespace Go.Proofs.YtmpoaegdejhbeaaDoor
open Go.RowKit
attribute [local go_sem] Oper.semAt_some
set_option linter.unusedVariables false
set_option linter.unusedSimpArgs false

def i64B (n : Int) : Prop := -9223372036854775808 ≤ n ∧ n ≤ 9223372036854775807
theorem line_cat (e : Ed) : (⟨((if e.s then stoW else pipW) ++ [32]).toArray⟩ : ByteArray) ++ ⟨(Lib.itoa e.f).toArray⟩ ++ ⟨#[32]⟩ ++ ⟨(Lib.itoa e.t).toArray⟩ ++ ⟨#[10]⟩ = ⟨(lineE e).toArray⟩ := by
  rw [bytes_lit [32] #[32] rfl, bytes_lit [10] #[10] rfl, cat_b, cat_b, cat_b, cat_b]
  simp [lineE, edgeT, joinL]
theorem joinL_snoc : ∀ (ws : List (List UInt8)) (w : List UInt8), ws ≠ [] → joinL (ws ++ [w]) = joinL ws ++ 32 :: w
  | [], w, h => absurd rfl h
  | [v], w, _ => rfl
  | v :: u :: ws, w, _ => by
    have := joinL_snoc (u :: ws) w (by simp)
    show v ++ 32 :: joinL (u :: ws ++ [w]) = v ++ 32 :: joinL (u :: ws) ++ 32 :: w
    rw [this]
    simp
set_option maxRecDepth 100000 in
set_option maxHeartbeats 8000000 in
theorem edge_any (e : Ed) (w : World) (hf : i64B e.f) (hh : i64B e.t) (ht : Tab w) : Calls Tryd.prog 25 #[.agg #[.int .i64 e.f, .int .i64 e.t, .bool e.s]] w (RetV w (.string ⟨(lineE e).toArray⟩)) := by
  have hB0 : Below w.heap.size w (w.alloc (.cells #[.int .i64 e.f, .int .i64 e.t, .bool e.s] 50)) := (Below.refl _ _).alloc (Nat.le_refl _) _
  have kb := Blk.new w 50 #[.int .i64 e.f, .int .i64 e.t, .bool e.s]
  have ht0 := ht.below hB0
  have HCAT := hide (line_cat e)
  obtain ⟨T0, hT0⟩ : ∃ T : ByteArray, (⟨(Lib.itoa e.f).toArray⟩ : ByteArray) = T := ⟨_, rfl⟩
  obtain ⟨T1, hT1⟩ : ∃ T : ByteArray, (⟨(Lib.itoa e.t).toArray⟩ : ByteArray) = T := ⟨_, rfl⟩
  have hz0 := itoa_sz e.f hf.1 hf.2
  have hz1 := itoa_sz e.t hh.1 hh.2
  rw [hT0] at hz0 HCAT
  rw [hT1] at hz1 HCAT
  have HT0 := hide hT0
  have HT1 := hide hT1
  have HF := hide hf
  have HH := hide hh
  obtain ⟨f, t, s⟩ := e
  clear hT0 hT1 hf hh
  go_enter Tryd.func25, Tryd.ntmps25
  go_upto_region 1 with fail
  obtain ⟨W0, hW0⟩ : ∃ W0, w.alloc (.cells #[.int .i64 f, .int .i64 t, .bool s] 50) = W0 := ⟨_, rfl⟩
  obtain ⟨cb, hcb⟩ : ∃ cb, w.heap.size = cb := ⟨_, rfl⟩
  rw [hW0] at hB0 kb ht0 ⊢
  rw [hcb] at kb ⊢
  have hbl := kb.lt
  have c0 : W0.cell? ⟨cb, 0, none⟩ = some (.int .i64 f) := by simpa using kb.cell 0
  have c1 : W0.cell? ⟨cb, 1, none⟩ = some (.int .i64 t) := by simpa using kb.cell 1
  have c2 : W0.cell? ⟨cb, 2, none⟩ = some (.bool s) := by simpa using kb.cell 2
  clear hW0 hcb kb
  have HT := hide ht0
  have C0 := fun (q : BW W0) => calls_bw (p := q) (itoa_any f HF.out.1 HF.out.2 q.x (HT.out.below q.h))
  have C1 := fun (q : BW W0) => calls_bw (p := q) (itoa_any t HH.out.1 HH.out.2 q.x (HT.out.below q.h))
  simp only [HT0.out] at C0
  simp only [HT1.out] at C1
  have HC0 := hide C0
  have HC1 := hide C1
  have p0 := fun (q : BW W0) => BW.cell (a := ⟨cb, 0, none⟩) hbl c0 q
  have p1 := fun (q : BW W0) => BW.cell (a := ⟨cb, 1, none⟩) hbl c1 q
  clear C0 C1 ht0 c0 c1
  cases s
  all_goals
    go_upto_region 4 with fail
    (refine wp_region_quiet_bw (by kernel_rfl) (by kernel_rfl) ?_
     repeat (first | go_big_quiet_step ((first | (go_at_call 17; with_reducible exact HC0.out _) | (go_at_call 17; with_reducible exact HC1.out _))) | quiet_step ((first | (go_at_call 17; with_reducible exact HC0.out _) | (go_at_call 17; with_reducible exact HC1.out _))))
     refine wpQuiet_nil ?_
     intro wq hw'
     obtain ⟨⟨_, hbq⟩, hw''⟩ := hw'
     subst hw'')
    have HB := hide (hB0.trans (hbq.mono hB0.size))
    clear hbq hB0 p0 p1
    go_wp2
    go_ret
    exact ⟨by rw [← HCAT.out]; rfl, HB.out⟩
/-- The first line, as far as k numbers. -/
def fstK (l : List Int) (k : Nat) : List UInt8 := joinL (opW :: (l.take k).map Lib.itoa)
theorem fstK_snoc {l : List Int} {k : Nat} {x : Int} (h : l[k]? = some x) : fstK l (k + 1) = fstK l k ++ 32 :: Lib.itoa x := by
  unfold fstK
  rw [take_snoc' h, List.map_append]
  exact joinL_snoc (opW :: (l.take k).map Lib.itoa) _ (by simp)
theorem fst_cat (a b : List UInt8) : (⟨a.toArray⟩ : ByteArray) ++ (⟨#[32]⟩ ++ ⟨b.toArray⟩) = ⟨(a ++ 32 :: b).toArray⟩ := by
  rw [bytes_lit [32] #[32] rfl, cat_b, cat_b]
  simp
theorem nl_cat (a : List UInt8) : (⟨a.toArray⟩ : ByteArray) ++ ⟨#[10]⟩ = ⟨(a ++ [10]).toArray⟩ := by rw [bytes_lit [10] #[10] rfl, cat_b]
set_option maxRecDepth 100000 in
set_option maxHeartbeats 8000000 in
theorem first_any (A : Option Addr) (n c : Nat) (l : List Int) (w : World) (hr : Reads w w.heap.size 1 A n (l.map (Value.int .i64))) (hn : n ≤ 1000000) (hl : ∀ x ∈ l, i64B x) (ht : Tab w) :
    Calls Tryd.prog 23 #[.slice A n c] w (RetV w (.string ⟨(firstT l ++ [10]).toArray⟩)) := by
  have HLN := hide hr.len1
  have hB0 := Below.refl w.heap.size w
  have HS0 := hide (show (⟨#[111, 112, 101, 114, 97, 116, 111, 114, 115]⟩ : ByteArray) = ⟨(fstK l 0).toArray⟩ from by unfold fstK; simp [joinL, opW])
  go_enter Tryd.func23, Tryd.ntmps23
  go_wp2_with fail
  go_loopw [3, 4] (fun so i wr => ∃ (k : Nat) (S : ByteArray), k ≤ n ∧ i = .int .i64 (k : Int) ∧ so = .string S ∧ S = ⟨(fstK l k).toArray⟩ ∧ S.size ≤ 9 + 22 * k ∧ Below w.heap.size w wr) (fun _ i _ => n - (intOf i).toNat)
  case atStart => exact ⟨0, _, Nat.zero_le _, rfl, rfl, HS0.out, by decide, hB0⟩
  case round =>
    clear hB0
    obtain ⟨k, S, hk, rfl, rfl, hS, hSz, hB⟩ := hrel
    by_cases hlt : k < n
    · obtain ⟨b, off, x, rfl, hb, hx, hc⟩ := (hr.below hB).at1 hlt
      have hxb := hl x (List.mem_of_getElem? hx)
      have HSN := hide (fstK_snoc hx)
      have HS := hide hS
      have q1 : (0 : Int) ≤ (k : Int) := by omega
      have q2 : (k : Int) < (n : Int) := by omega
      obtain ⟨T, hT⟩ : ∃ T : ByteArray, (⟨(Lib.itoa x).toArray⟩ : ByteArray) = T := ⟨_, rfl⟩
      have hTz := itoa_sz x hxb.1 hxb.2
      have HI := hide (itoa_any x hxb.1 hxb.2 wr (ht.below hB))
      rw [hT] at HI hTz
      have HT := hide hT
      have HB := hide hB
      clear hS hx hT hB
      go_wp2_with fail
      refine HI.out.mono ?_
      rintro e W5 ⟨rfl, hb5⟩
      have HB5 := hide (HB.out.trans (hb5.mono HB.out.size))
      clear hb5 HB HI hc
      have hsz : ∀ a b : ByteArray, (a ++ b).size = a.size + b.size := fun a b => ByteArray.size_append
      go_wp2_with fail
      go_roundw
      case rel => exact ⟨k + 1, S ++ (⟨#[32]⟩ ++ T), by omega, by go_num, rfl, by rw [HSN.out, ← fst_cat, HT.out, ← HS.out], by rw [hsz, hsz]; have : (⟨#[32]⟩ : ByteArray).size = 1 := rfl; omega, HB5.out⟩
      case measure => simp [intOf]; omega
    · have he : k = n := by omega
      have HR := hide (show firstT l = fstK l k from by unfold fstK firstT; rw [he, take_all HLN.out])
      have HS := hide hS
      have HB := hide hB
      clear hS hB he
      go_wp2_with fail
      go_ret
      exact ⟨by rw [HR.out, ← nl_cat, ← HS.out]; rfl, HB.out⟩
end Go.Proofs.YtmpoaegdejhbeaaDoor
