/-
  The walk of the reference's Format. No condition but the table of powers of ten.
-/
import Derived.Test.YtehifbogadohgaaDoorTcG
import Derived.Test.YtehifbogadohgaaDoorCkRV
import Derived.Test.YtehifbogadohgaaDoorLib0
import Derived.Test.YtehifbogadohgaaDoorQbw
import Derived.BigQuiet
import Derived.Lib.ItoaLen
namespace Go.Proofs.YtehifbogadohgaaDoor
open Go.RowKit
set_option linter.unusedVariables false
set_option linter.unusedSimpArgs false

theorem cat_b (a b : List UInt8) : (⟨a.toArray⟩ : ByteArray) ++ ⟨b.toArray⟩ = ⟨(a ++ b).toArray⟩ := by
  refine ByteArray.ext ?_
  rw [ByteArray.data_append]
  apply Array.toList_inj.1
  simp
theorem bytes_lit (l : List UInt8) (a : Array UInt8) (h : a.toList = l) : (⟨a⟩ : ByteArray) = ⟨l.toArray⟩ := by subst h; simp
theorem tum_cat (a b : List UInt8) : (⟨#[116, 117, 109, 98, 108, 105, 110, 103, 32]⟩ : ByteArray) ++ ⟨a.toArray⟩ ++ ⟨#[32]⟩ ++ ⟨b.toArray⟩ = ⟨(joinL [tumW, a, b]).toArray⟩ := by
  rw [bytes_lit (tumW ++ [32]) #[116, 117, 109, 98, 108, 105, 110, 103, 32] rfl, bytes_lit [32] #[32] rfl, cat_b, cat_b, cat_b]
  simp [joinL]
theorem sli_cat (a b c : List UInt8) : (⟨#[115, 108, 105, 100, 105, 110, 103, 32]⟩ : ByteArray) ++ ⟨a.toArray⟩ ++ ⟨#[32]⟩ ++ ⟨b.toArray⟩ ++ ⟨#[32]⟩ ++ ⟨c.toArray⟩ = ⟨(joinL [sliW, a, b, c]).toArray⟩ := by
  rw [bytes_lit (sliW ++ [32]) #[115, 108, 105, 100, 105, 110, 103, 32] rfl, bytes_lit [32] #[32] rfl, cat_b, cat_b, cat_b, cat_b, cat_b]
  simp [joinL]
theorem ses_cat (a : List UInt8) : (⟨#[115, 101, 115, 115, 105, 111, 110, 32]⟩ : ByteArray) ++ ⟨a.toArray⟩ = ⟨(joinL [sesW, a]).toArray⟩ := by
  rw [bytes_lit (sesW ++ [32]) #[115, 101, 115, 115, 105, 111, 110, 32] rfl, cat_b]
  simp [joinL]
theorem itoa_sz (n : Int) (h0 : -9223372036854775808 ≤ n) (h1 : n ≤ 9223372036854775807) : (⟨(Lib.itoa n).toArray⟩ : ByteArray).size ≤ 21 := by
  show (Lib.itoa n).toArray.size ≤ 21
  rw [List.size_toArray]
  exact Lib.itoa_length_le n h0 h1
set_option maxRecDepth 100000 in
set_option maxHeartbeats 8000000 in
theorem RFormat_any (k z p g h : Int) (w : World) (ht : Tab w) : Calls Tryd.prog 6 #[.agg #[.int .i64 k, .int .i64 z, .int .i64 p, .int .i64 g, .int .i64 h]] w (RetV w (.string ⟨(fmtC ⟨k, z, p, g, h⟩).toArray⟩)) := by
  have hB0 : Below w.heap.size w (w.alloc (.cells #[.int .i64 k, .int .i64 z, .int .i64 p, .int .i64 g, .int .i64 h] 23)) := (Below.refl _ _).alloc (Nat.le_refl _) _
  have kb := Blk.new w 23 #[.int .i64 k, .int .i64 z, .int .i64 p, .int .i64 g, .int .i64 h]
  obtain ⟨b, hb⟩ : ∃ b, vspec k z p g h = b := ⟨_, rfl⟩
  have HVS := hide hb
  have ht0 := ht.below hB0
  go_enter Tryd.func6, Tryd.ntmps6
  go_upto_region 1 with fail
  obtain ⟨W0, hW0⟩ : ∃ W0, w.alloc (.cells #[.int .i64 k, .int .i64 z, .int .i64 p, .int .i64 g, .int .i64 h] 23) = W0 := ⟨_, rfl⟩
  obtain ⟨cb, hcb⟩ : ∃ cb, w.heap.size = cb := ⟨_, rfl⟩
  rw [hW0] at hB0 kb ht0 ⊢
  try rw [hcb]
  rw [hcb] at kb
  clear hW0 hcb
  have c0 : W0.cell? ⟨cb, 0, none⟩ = some (.int .i64 k) := by simpa using kb.cell 0
  have c1 : W0.cell? ⟨cb, 1, none⟩ = some (.int .i64 z) := by simpa using kb.cell 1
  have c2 : W0.cell? ⟨cb, 2, none⟩ = some (.int .i64 p) := by simpa using kb.cell 2
  have c3 : W0.cell? ⟨cb, 3, none⟩ = some (.int .i64 g) := by simpa using kb.cell 3
  have c4 : W0.cell? ⟨cb, 4, none⟩ = some (.int .i64 h) := by simpa using kb.cell 4
  have HVC := hide (RValidSpec_any k z p g h W0)
  rw [hb] at HVC
  clear hb
  go_wp2_with fail
  refine HVC.out.mono ?_
  rintro e W1 ⟨rfl, hb1⟩
  have hB1 : Below w.heap.size w W1 := hB0.trans (hb1.mono hB0.size)
  have kb1 := kb.below hb1 kb.lt
  have ht1 := ht0.below hb1
  clear c0 c1 c2 c3 c4 hb1 HVC
  cases b
  case false =>
    have HR := hide (show fmtC ⟨k, z, p, g, h⟩ = [] from by unfold fmtC; rw [if_neg]; show ¬ vspec k z p g h = true; rw [HVS.out]; decide)
    have HB := hide hB1
    clear hB0 hB1 kb kb1 ht0 ht1
    go_wp2
    go_ret
    exact ⟨by rw [HR.out]; rfl, HB.out⟩
  case true =>
  have HR := hide (show fmtC ⟨k, z, p, g, h⟩ = joinL (wdsC ⟨k, z, p, g, h⟩) from by unfold fmtC; rw [if_pos]; exact HVS.out)
  have hv := of_decide_eq_true HVS.out
  have c0 : W1.cell? ⟨cb, 0, none⟩ = some (.int .i64 k) := by simpa using kb1.cell 0
  have c1 : W1.cell? ⟨cb, 1, none⟩ = some (.int .i64 z) := by simpa using kb1.cell 1
  have c2 : W1.cell? ⟨cb, 2, none⟩ = some (.int .i64 p) := by simpa using kb1.cell 2
  have c3 : W1.cell? ⟨cb, 3, none⟩ = some (.int .i64 g) := by simpa using kb1.cell 3
  have c4 : W1.cell? ⟨cb, 4, none⟩ = some (.int .i64 h) := by simpa using kb1.cell 4
  have hbl := kb1.lt
  have HT1 := hide ht1
  clear hB0 kb kb1 ht0 ht1
  rcases hv with ⟨rfl, hz1, hz2, hh1, hh2, rfl, rfl⟩ | ⟨rfl, hz1, hz2, hp1, hp2, _, hh1, hh2, rfl⟩ | ⟨rfl, hg1, hg2, rfl, rfl, rfl⟩ | ⟨rfl, rfl, rfl, rfl, rfl⟩
  · obtain ⟨T0, hT0⟩ : ∃ T : ByteArray, (⟨(Lib.itoa z).toArray⟩ : ByteArray) = T := ⟨_, rfl⟩
    have hz10 := itoa_sz z (by omega) (by omega)
    have C0 := fun (q : BW W1) => calls_bw (p := q) (itoa_any z (by omega) (by omega) q.x (HT1.out.below q.h))
    simp only [hT0] at C0
    rw [hT0] at hz10
    have HT00 := hide hT0
    have HC0 := hide C0
    clear hT0 C0
    obtain ⟨T1, hT1⟩ : ∃ T : ByteArray, (⟨(Lib.itoa h).toArray⟩ : ByteArray) = T := ⟨_, rfl⟩
    have hz11 := itoa_sz h (by omega) (by omega)
    have C1 := fun (q : BW W1) => calls_bw (p := q) (itoa_any h (by omega) (by omega) q.x (HT1.out.below q.h))
    simp only [hT1] at C1
    rw [hT1] at hz11
    have HT10 := hide hT1
    have HC1 := hide C1
    clear hT1 C1
    have p1 := fun (q : BW W1) => BW.cell (a := ⟨cb, 1, none⟩) hbl c1 q
    have p4 := fun (q : BW W1) => BW.cell (a := ⟨cb, 4, none⟩) hbl c4 q
    clear HT1
    go_wp2_with fail
    (refine wp_region_quiet_bw (by kernel_rfl) (by kernel_rfl) ?_
     repeat (first | go_big_quiet_step ((first | (go_at_call 12; with_reducible exact HC0.out _) | (go_at_call 12; with_reducible exact HC1.out _))) | quiet_step ((first | (go_at_call 12; with_reducible exact HC0.out _) | (go_at_call 12; with_reducible exact HC1.out _))))
     refine wpQuiet_nil ?_
     intro wq hw'
     obtain ⟨⟨_, hbq⟩, hw''⟩ := hw'
     subst hw'')
    have HB := hide (hB1.trans (hbq.mono hB1.size))
    clear hbq hB1 p1 p4
    go_wp2
    go_ret
    exact ⟨by rw [HR.out]; rw [← HT00.out]; rw [← HT10.out]; exact congrArg (fun x => Ending.returned (Value.string x)) (tum_cat _ _), HB.out⟩
  · obtain ⟨T0, hT0⟩ : ∃ T : ByteArray, (⟨(Lib.itoa z).toArray⟩ : ByteArray) = T := ⟨_, rfl⟩
    have hz10 := itoa_sz z (by omega) (by omega)
    have C0 := fun (q : BW W1) => calls_bw (p := q) (itoa_any z (by omega) (by omega) q.x (HT1.out.below q.h))
    simp only [hT0] at C0
    rw [hT0] at hz10
    have HT00 := hide hT0
    have HC0 := hide C0
    clear hT0 C0
    obtain ⟨T1, hT1⟩ : ∃ T : ByteArray, (⟨(Lib.itoa p).toArray⟩ : ByteArray) = T := ⟨_, rfl⟩
    have hz11 := itoa_sz p (by omega) (by omega)
    have C1 := fun (q : BW W1) => calls_bw (p := q) (itoa_any p (by omega) (by omega) q.x (HT1.out.below q.h))
    simp only [hT1] at C1
    rw [hT1] at hz11
    have HT10 := hide hT1
    have HC1 := hide C1
    clear hT1 C1
    obtain ⟨T2, hT2⟩ : ∃ T : ByteArray, (⟨(Lib.itoa h).toArray⟩ : ByteArray) = T := ⟨_, rfl⟩
    have hz12 := itoa_sz h (by omega) (by omega)
    have C2 := fun (q : BW W1) => calls_bw (p := q) (itoa_any h (by omega) (by omega) q.x (HT1.out.below q.h))
    simp only [hT2] at C2
    rw [hT2] at hz12
    have HT20 := hide hT2
    have HC2 := hide C2
    clear hT2 C2
    have p1 := fun (q : BW W1) => BW.cell (a := ⟨cb, 1, none⟩) hbl c1 q
    have p2 := fun (q : BW W1) => BW.cell (a := ⟨cb, 2, none⟩) hbl c2 q
    have p4 := fun (q : BW W1) => BW.cell (a := ⟨cb, 4, none⟩) hbl c4 q
    clear HT1
    go_wp2_with fail
    (refine wp_region_quiet_bw (by kernel_rfl) (by kernel_rfl) ?_
     repeat (first | go_big_quiet_step ((first | (go_at_call 12; with_reducible exact HC0.out _) | (go_at_call 12; with_reducible exact HC1.out _) | (go_at_call 12; with_reducible exact HC2.out _))) | quiet_step ((first | (go_at_call 12; with_reducible exact HC0.out _) | (go_at_call 12; with_reducible exact HC1.out _) | (go_at_call 12; with_reducible exact HC2.out _))))
     refine wpQuiet_nil ?_
     intro wq hw'
     obtain ⟨⟨_, hbq⟩, hw''⟩ := hw'
     subst hw'')
    have HB := hide (hB1.trans (hbq.mono hB1.size))
    clear hbq hB1 p1 p2 p4
    go_wp2
    go_ret
    exact ⟨by rw [HR.out]; rw [← HT00.out]; rw [← HT10.out]; rw [← HT20.out]; exact congrArg (fun x => Ending.returned (Value.string x)) (sli_cat _ _ _), HB.out⟩
  · obtain ⟨T0, hT0⟩ : ∃ T : ByteArray, (⟨(Lib.itoa g).toArray⟩ : ByteArray) = T := ⟨_, rfl⟩
    have hz10 := itoa_sz g (by omega) (by omega)
    have C0 := itoa_any g (by omega) (by omega) W1 HT1.out
    rw [hT0] at C0 hz10
    have HT00 := hide hT0
    have HC0 := hide C0
    clear hT0 C0 HT1
    go_wp2_with fail
    refine HC0.out.mono ?_
    rintro e W2 ⟨rfl, hb2⟩
    have HB := hide (hB1.trans (hb2.mono hB1.size))
    clear hb2 hB1
    go_wp2
    go_ret
    exact ⟨by rw [HR.out]; rw [← HT00.out]; exact congrArg (fun x => Ending.returned (Value.string x)) (ses_cat _), HB.out⟩
  · have HB := hide hB1
    clear hB1
    go_wp2
    go_ret
    exact ⟨by rw [HR.out]; rfl, HB.out⟩
end Go.Proofs.YtehifbogadohgaaDoor
