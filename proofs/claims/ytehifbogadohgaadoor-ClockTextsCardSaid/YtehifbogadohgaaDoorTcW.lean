/-
  The law ClockTexts: the walk, for every input. No condition but the library's tables and errors. (Printed by gen_tcw.)
-/
import Derived.Test.YtehifbogadohgaaDoorTcL
import Derived.Test.YtehifbogadohgaaDoorTcN
import Derived.Test.YtehifbogadohgaaDoorCkD
namespace Go.Proofs.YtehifbogadohgaaDoor
open Go.RowKit
set_option linter.unusedVariables false
set_option linter.unusedSimpArgs false

theorem eqSpc (a b c d e : Int) (w : World) : (binOp .eql 23 (.agg #[.int .i64 a, .int .i64 b, .int .i64 c, .int .i64 d, .int .i64 e]) (.agg #[.int .i64 a, .int .i64 b, .int .i64 c, .int .i64 d, .int .i64 e])).run Tryd.prog w = .ok (.bool true) w := by
  rw [eqSpec]; simp
theorem neqSpc (a b c d e : Int) (w : World) : (binOp .neq 23 (.agg #[.int .i64 a, .int .i64 b, .int .i64 c, .int .i64 d, .int .i64 e]) (.agg #[.int .i64 a, .int .i64 b, .int .i64 c, .int .i64 d, .int .i64 e])).run Tryd.prog w = .ok (.bool false) w := by
  have u3 := Tryd.underlying3
  have a3 := Tryd.isAgg3
  have z3 := Tryd.sizeOf3
  have hS : Tryd.prog.underlying 23 = some (.struct (Tryd.prog.fieldsOf 23)) := by kernel_rfl
  have hp : Tryd.prog.stoodInHeld 23 = false := by kernel_rfl
  rw [run_neq_struct, show (10000 : Nat) = 9999 + 1 from rfl, run_equalIn_agg w 9999 23 _ _ hS hp]
  simp only [Program.fieldsOf, Tryd.underlying23]
  go_simp
theorem parP_fmt {s : SpC} (h : s.ok = true) : parP (fmtC s) = (s, 0) := by
  unfold parP
  rw [if_neg (by have := fmt_len s; omega)]
  exact parse_back h
theorem parP_no {s : SpC} (h : s.ok = false) : parP (fmtC s) = (z5, 2) := by
  unfold parP fmtC
  rw [h]
  rfl
theorem fmt_sz (s : SpC) : (⟨(fmtC s).toArray⟩ : ByteArray).size ≤ 100 := by
  show (fmtC s).toArray.size ≤ 100
  rw [List.size_toArray]
  exact fmt_len s
set_option maxRecDepth 100000 in
set_option maxHeartbeats 8000000 in
theorem clockTexts_all (k z p g h : Int) (s : ByteArray) (hsm : s.size ≤ maxLen) (w : World) (ht : Tab w) (he : Errs w) (hm : MaxL w) :
    Calls Tryd.prog 3 #[.agg #[.int .i64 k, .int .i64 z, .int .i64 p, .int .i64 g, .int .i64 h], .string s] w (RetV w (.bool true)) := by
  have hB0 : Below w.heap.size w (w.alloc (.cells #[.int .i64 k, .int .i64 z, .int .i64 p, .int .i64 g, .int .i64 h] 23)) := (Below.refl _ _).alloc (Nat.le_refl _) _
  have ks := Blk.new w 23 #[.int .i64 k, .int .i64 z, .int .i64 p, .int .i64 g, .int .i64 h]
  go_enter Tryd.func3, Tryd.ntmps3
  go_upto_region 1 with fail
  obtain ⟨W0, hW0⟩ : ∃ W0, w.alloc (.cells #[.int .i64 k, .int .i64 z, .int .i64 p, .int .i64 g, .int .i64 h] 23) = W0 := ⟨_, rfl⟩
  obtain ⟨sb, hsb⟩ : ∃ sb, w.heap.size = sb := ⟨_, rfl⟩
  rw [hW0] at hB0 ks ⊢
  rw [hsb] at ks ⊢
  clear hW0 hsb
  by_cases h1 : 131072 < s.size
  case pos =>
    have z : (131072 : Int) < (s.size : Int) := by omega
    clear h1
    go_wp2_with fail
    refine (awake_any W0).mono ?_
    rintro e W1 ⟨rfl, hb⟩
    have HB := hide (bstep hB0 hb)
    clear hb hB0 ks
    go_wp2
    go_ret
    exact ⟨rfl, HB.out⟩
  have hs2 : s.size ≤ 131072 := by omega
  clear h1
  have hsl := ks.lt
  have d0 : W0.cell? ⟨sb, 0, none⟩ = some (.int .i64 k) := by simpa using ks.cell 0
  have d1 : W0.cell? ⟨sb, 1, none⟩ = some (.int .i64 z) := by simpa using ks.cell 1
  have d2 : W0.cell? ⟨sb, 2, none⟩ = some (.int .i64 p) := by simpa using ks.cell 2
  have d3 : W0.cell? ⟨sb, 3, none⟩ = some (.int .i64 g) := by simpa using ks.cell 3
  have d4 : W0.cell? ⟨sb, 4, none⟩ = some (.int .i64 h) := by simpa using ks.cell 4
  have HC1 := hide (Format_any k z p g h W0 (ht.below hB0))
  have HC2 := hide (fun W (hb : Below w.heap.size w W) => RFormat_any k z p g h W (ht.below hb))
  have hfz := fmt_sz ⟨k, z, p, g, h⟩
  have HPA := hide (fun W (hb : Below w.heap.size w W) => Parse_any ⟨(fmtC ⟨k, z, p, g, h⟩).toArray⟩ W (by omega) (ht.below hb) (he.below hb) (hm.below hb))
  obtain ⟨F, hF⟩ : ∃ F : ByteArray, (⟨(fmtC ⟨k, z, p, g, h⟩).toArray⟩ : ByteArray) = F := ⟨_, rfl⟩
  rw [hF] at HC1 HPA hfz
  simp only [hF] at HC2
  have hFl : F.data.toList = fmtC ⟨k, z, p, g, h⟩ := by rw [← hF]
  rw [hFl] at HPA
  clear hF
  go_wp2_with fail
  refine HC1.out.mono ?_
  rintro e W1 ⟨rfl, hb⟩
  have hB1 := bstep hB0 hb
  have ks1 := ks.below hb hsl
  have d0 : W1.cell? ⟨sb, 0, none⟩ = some (.int .i64 k) := by simpa using ks1.cell 0
  have d1 : W1.cell? ⟨sb, 1, none⟩ = some (.int .i64 z) := by simpa using ks1.cell 1
  have d2 : W1.cell? ⟨sb, 2, none⟩ = some (.int .i64 p) := by simpa using ks1.cell 2
  have d3 : W1.cell? ⟨sb, 3, none⟩ = some (.int .i64 g) := by simpa using ks1.cell 3
  have d4 : W1.cell? ⟨sb, 4, none⟩ = some (.int .i64 h) := by simpa using ks1.cell 4
  have hsl1 := ks1.lt
  clear hb hB0 ks HC1 hsl
  go_wp2_with fail
  refine (HC2.out W1 hB1).mono ?_
  rintro e W2 ⟨rfl, hb⟩
  have hB2 := bstep hB1 hb
  have ks2 := ks1.below hb hsl1
  have y1 : (F.toList == F.toList) = true := by simp
  have y2 : (F.toList != F.toList) = false := by simp
  clear hb hB1 ks1 HC2 d0 d1 d2 d3 d4 hsl1
  have HFL := hide hFl
  clear hFl
  go_wp2_with fail
  refine (HPA.out W2 hB2).mono ?_
  rintro e W3 ⟨rfl, hb⟩
  have hB3 := bstep hB2 hb
  have ks3 := ks2.below hb ks2.lt
  clear hb hB2 ks2 HPA y1 y2
  obtain ⟨b, hok⟩ : ∃ b, (⟨k, z, p, g, h⟩ : SpC).ok = b := ⟨_, rfl⟩
  cases b
  case true =>
    have hpp : parP (fmtC ⟨k, z, p, g, h⟩) = (⟨k, z, p, g, h⟩, 0) := parP_fmt hok
    rw [hpp]
    unfold encS
    clear hpp
    have hb3 : Below W3.heap.size W3 (W3.alloc (.cells #[.int .i64 k, .int .i64 z, .int .i64 p, .int .i64 g, .int .i64 h] 23)) := (Below.refl _ _).alloc (Nat.le_refl _) _
    have kb4 := Blk.new W3 23 #[.int .i64 k, .int .i64 z, .int .i64 p, .int .i64 g, .int .i64 h]
    have hB4 := bstep hB3 hb3
    have ks4 := ks3.below hb3 ks3.lt
    have hsne : sb ≠ W3.heap.size := by have := ks3.lt; omega
    have hbw : w.heap.size ≤ W3.heap.size := hB3.size
    go_upto_region 7 with fail
    obtain ⟨W4, hW4⟩ : ∃ W4, W3.alloc (.cells #[.int .i64 k, .int .i64 z, .int .i64 p, .int .i64 g, .int .i64 h] 23) = W4 := ⟨_, rfl⟩
    obtain ⟨bb, hbb⟩ : ∃ bb, W3.heap.size = bb := ⟨_, rfl⟩
    rw [hW4] at kb4 hB4 ks4 ⊢
    rw [hbb] at kb4 hsne hbw ⊢
    clear hW4 hbb hb3 hB3 ks3
    have d0 : W4.cell? ⟨sb, 0, none⟩ = some (.int .i64 k) := by simpa using ks4.cell 0
    have d1 : W4.cell? ⟨sb, 1, none⟩ = some (.int .i64 z) := by simpa using ks4.cell 1
    have d2 : W4.cell? ⟨sb, 2, none⟩ = some (.int .i64 p) := by simpa using ks4.cell 2
    have d3 : W4.cell? ⟨sb, 3, none⟩ = some (.int .i64 g) := by simpa using ks4.cell 3
    have d4 : W4.cell? ⟨sb, 4, none⟩ = some (.int .i64 h) := by simpa using ks4.cell 4
    have HV := hide (ValidSpec_any k z p g h W4)
    have hok2 : vspec k z p g h = true := hok
    rw [hok2] at HV
    clear hok hok2
    go_wp2_with fail
    refine HV.out.mono ?_
    rintro e W5 ⟨rfl, hb⟩
    have hB5 := bstep hB4 hb
    have kb5 := kb4.below hb kb4.lt
    have ks5 := ks4.below hb ks4.lt
    clear hb hB4 kb4 ks4 HV d0 d1 d2 d3 d4
    have nq := neqSpc k z p g h
    have d0 : W5.cell? ⟨sb, 0, none⟩ = some (.int .i64 k) := by simpa using ks5.cell 0
    have d1 : W5.cell? ⟨sb, 1, none⟩ = some (.int .i64 z) := by simpa using ks5.cell 1
    have d2 : W5.cell? ⟨sb, 2, none⟩ = some (.int .i64 p) := by simpa using ks5.cell 2
    have d3 : W5.cell? ⟨sb, 3, none⟩ = some (.int .i64 g) := by simpa using ks5.cell 3
    have d4 : W5.cell? ⟨sb, 4, none⟩ = some (.int .i64 h) := by simpa using ks5.cell 4
    have g0 : W5.cell? ⟨bb, 0, none⟩ = some (.int .i64 k) := by simpa using kb5.cell 0
    have g1 : W5.cell? ⟨bb, 1, none⟩ = some (.int .i64 z) := by simpa using kb5.cell 1
    have g2 : W5.cell? ⟨bb, 2, none⟩ = some (.int .i64 p) := by simpa using kb5.cell 2
    have g3 : W5.cell? ⟨bb, 3, none⟩ = some (.int .i64 g) := by simpa using kb5.cell 3
    have g4 : W5.cell? ⟨bb, 4, none⟩ = some (.int .i64 h) := by simpa using kb5.cell 4
    have HP1 := hide (Parse_any s W5 (by omega) (ht.below hB5) (he.below hB5) (hm.below hB5))
    have HP2 := hide (fun W (hb : Below w.heap.size w W) => RParse_any s W (by omega) (ht.below hb))
    rw [par_same] at HP1
    obtain ⟨⟨⟨k2, z2, p2, g2', h2⟩, E2⟩, hR2⟩ : ∃ r, parR s.data.toList = r := ⟨_, rfl⟩
    rw [hR2] at HP1
    simp only [hR2] at HP2
    clear hR2
    go_wp2_with fail
    refine HP1.out.mono ?_
    rintro e W6 ⟨rfl, hb⟩
    unfold encS
    have hB6 := bstep hB5 hb
    have kb6 := kb5.below hb kb5.lt
    clear nq d0 d1 d2 d3 d4 g0 g1 g2 g3 g4
    clear hb HP1 ks5 kb5 hB5
    have HB7 := hide (st5_below hB6 hbw (.int .i64 k2) (.int .i64 z2) (.int .i64 p2) (.int .i64 g2') (.int .i64 h2))
    have HK7 := hide (set5 kb6 (.int .i64 k2) (.int .i64 z2) (.int .i64 p2) (.int .i64 g2') (.int .i64 h2))
    obtain ⟨⟨e0, f0⟩, ⟨e1, f1⟩, ⟨e2, f2⟩, ⟨e3, f3⟩, ⟨e4, f4⟩⟩ := spc_facts kb6 (.int .i64 k2) (.int .i64 z2) (.int .i64 p2) (.int .i64 g2')
    clear kb6 hB6
    unfold st5 at HB7 HK7
    go_upto_region 10 with fail
    obtain ⟨W7, hW7⟩ : ∃ W7, (((((W6.setCell ⟨bb, 0, none⟩ (.int .i64 k2)).setCell ⟨bb, 1, none⟩ (.int .i64 z2)).setCell ⟨bb, 2, none⟩ (.int .i64 p2)).setCell ⟨bb, 3, none⟩ (.int .i64 g2')).setCell ⟨bb, 4, none⟩ (.int .i64 h2)) = W7 := ⟨_, rfl⟩
    rw [hW7] at HB7 HK7 ⊢
    clear e0 f0 e1 f1 e2 f2 e3 f3 e4 f4 hW7
    go_wp2_with fail
    refine (HP2.out W7 HB7.out).mono ?_
    rintro e W8 ⟨rfl, hb⟩
    unfold encS
    have hB8 := bstep HB7.out hb
    have kb8 := HK7.out.below hb HK7.out.lt
    clear hb HB7 HK7 HP2
    have hb3 : Below W8.heap.size W8 (W8.alloc (.cells #[.int .i64 k2, .int .i64 z2, .int .i64 p2, .int .i64 g2', .int .i64 h2] 23)) := (Below.refl _ _).alloc (Nat.le_refl _) _
    have kc9 := Blk.new W8 23 #[.int .i64 k2, .int .i64 z2, .int .i64 p2, .int .i64 g2', .int .i64 h2]
    have hB9 := bstep hB8 hb3
    have kb9 := kb8.below hb3 kb8.lt
    go_upto_region 11 with fail
    obtain ⟨W9, hW9⟩ : ∃ W9, W8.alloc (.cells #[.int .i64 k2, .int .i64 z2, .int .i64 p2, .int .i64 g2', .int .i64 h2] 23) = W9 := ⟨_, rfl⟩
    obtain ⟨cb, hcb⟩ : ∃ cb, W8.heap.size = cb := ⟨_, rfl⟩
    rw [hW9] at kc9 hB9 kb9 ⊢
    rw [hcb] at kc9 ⊢
    clear hW9 hcb hb3 hB8 kb8
    have d0 : W9.cell? ⟨bb, 0, none⟩ = some (.int .i64 k2) := by simpa using kb9.cell 0
    have d1 : W9.cell? ⟨bb, 1, none⟩ = some (.int .i64 z2) := by simpa using kb9.cell 1
    have d2 : W9.cell? ⟨bb, 2, none⟩ = some (.int .i64 p2) := by simpa using kb9.cell 2
    have d3 : W9.cell? ⟨bb, 3, none⟩ = some (.int .i64 g2') := by simpa using kb9.cell 3
    have d4 : W9.cell? ⟨bb, 4, none⟩ = some (.int .i64 h2) := by simpa using kb9.cell 4
    have g0 : W9.cell? ⟨cb, 0, none⟩ = some (.int .i64 k2) := by simpa using kc9.cell 0
    have g1 : W9.cell? ⟨cb, 1, none⟩ = some (.int .i64 z2) := by simpa using kc9.cell 1
    have g2 : W9.cell? ⟨cb, 2, none⟩ = some (.int .i64 p2) := by simpa using kc9.cell 2
    have g3 : W9.cell? ⟨cb, 3, none⟩ = some (.int .i64 g2') := by simpa using kc9.cell 3
    have g4 : W9.cell? ⟨cb, 4, none⟩ = some (.int .i64 h2) := by simpa using kc9.cell 4
    have eq := eqSpc k2 z2 p2 g2' h2
    have HB9 := hide hB9
    clear kb9 kc9 hB9
    go_wp2_with fail
    refine (awake_any W9).mono ?_
    rintro e W10 ⟨rfl, hb⟩
    have HB := hide (bstep HB9.out hb)
    clear hb
    go_wp2
    go_ret
    exact ⟨rfl, HB.out⟩
  case false =>
    have hpp : parP (fmtC ⟨k, z, p, g, h⟩) = (z5, 2) := parP_no hok
    rw [hpp]
    unfold encS z5
    clear hpp
    have hb3 : Below W3.heap.size W3 (W3.alloc (.cells #[.int .i64 0, .int .i64 0, .int .i64 0, .int .i64 0, .int .i64 0] 23)) := (Below.refl _ _).alloc (Nat.le_refl _) _
    have kb4 := Blk.new W3 23 #[.int .i64 0, .int .i64 0, .int .i64 0, .int .i64 0, .int .i64 0]
    have hB4 := bstep hB3 hb3
    have ks4 := ks3.below hb3 ks3.lt
    have hsne : sb ≠ W3.heap.size := by have := ks3.lt; omega
    have hbw : w.heap.size ≤ W3.heap.size := hB3.size
    go_upto_region 7 with fail
    obtain ⟨W4, hW4⟩ : ∃ W4, W3.alloc (.cells #[.int .i64 0, .int .i64 0, .int .i64 0, .int .i64 0, .int .i64 0] 23) = W4 := ⟨_, rfl⟩
    obtain ⟨bb, hbb⟩ : ∃ bb, W3.heap.size = bb := ⟨_, rfl⟩
    rw [hW4] at kb4 hB4 ks4 ⊢
    rw [hbb] at kb4 hsne hbw ⊢
    clear hW4 hbb hb3 hB3 ks3
    have d0 : W4.cell? ⟨sb, 0, none⟩ = some (.int .i64 k) := by simpa using ks4.cell 0
    have d1 : W4.cell? ⟨sb, 1, none⟩ = some (.int .i64 z) := by simpa using ks4.cell 1
    have d2 : W4.cell? ⟨sb, 2, none⟩ = some (.int .i64 p) := by simpa using ks4.cell 2
    have d3 : W4.cell? ⟨sb, 3, none⟩ = some (.int .i64 g) := by simpa using ks4.cell 3
    have d4 : W4.cell? ⟨sb, 4, none⟩ = some (.int .i64 h) := by simpa using ks4.cell 4
    have HV := hide (ValidSpec_any k z p g h W4)
    have hok2 : vspec k z p g h = false := hok
    rw [hok2] at HV
    clear hok hok2
    go_wp2_with fail
    refine HV.out.mono ?_
    rintro e W5 ⟨rfl, hb⟩
    have hB5 := bstep hB4 hb
    have kb5 := kb4.below hb kb4.lt
    have ks5 := ks4.below hb ks4.lt
    clear hb hB4 kb4 ks4 HV d0 d1 d2 d3 d4
    have HP1 := hide (Parse_any s W5 (by omega) (ht.below hB5) (he.below hB5) (hm.below hB5))
    have HP2 := hide (fun W (hb : Below w.heap.size w W) => RParse_any s W (by omega) (ht.below hb))
    rw [par_same] at HP1
    obtain ⟨⟨⟨k2, z2, p2, g2', h2⟩, E2⟩, hR2⟩ : ∃ r, parR s.data.toList = r := ⟨_, rfl⟩
    rw [hR2] at HP1
    simp only [hR2] at HP2
    clear hR2
    go_wp2_with fail
    refine HP1.out.mono ?_
    rintro e W6 ⟨rfl, hb⟩
    unfold encS
    have hB6 := bstep hB5 hb
    have kb6 := kb5.below hb kb5.lt

    clear hb HP1 ks5 kb5 hB5
    have HB7 := hide (st5_below hB6 hbw (.int .i64 k2) (.int .i64 z2) (.int .i64 p2) (.int .i64 g2') (.int .i64 h2))
    have HK7 := hide (set5 kb6 (.int .i64 k2) (.int .i64 z2) (.int .i64 p2) (.int .i64 g2') (.int .i64 h2))
    obtain ⟨⟨e0, f0⟩, ⟨e1, f1⟩, ⟨e2, f2⟩, ⟨e3, f3⟩, ⟨e4, f4⟩⟩ := spc_facts kb6 (.int .i64 k2) (.int .i64 z2) (.int .i64 p2) (.int .i64 g2')
    clear kb6 hB6
    unfold st5 at HB7 HK7
    go_upto_region 10 with fail
    obtain ⟨W7, hW7⟩ : ∃ W7, (((((W6.setCell ⟨bb, 0, none⟩ (.int .i64 k2)).setCell ⟨bb, 1, none⟩ (.int .i64 z2)).setCell ⟨bb, 2, none⟩ (.int .i64 p2)).setCell ⟨bb, 3, none⟩ (.int .i64 g2')).setCell ⟨bb, 4, none⟩ (.int .i64 h2)) = W7 := ⟨_, rfl⟩
    rw [hW7] at HB7 HK7 ⊢
    clear e0 f0 e1 f1 e2 f2 e3 f3 e4 f4 hW7
    go_wp2_with fail
    refine (HP2.out W7 HB7.out).mono ?_
    rintro e W8 ⟨rfl, hb⟩
    unfold encS
    have hB8 := bstep HB7.out hb
    have kb8 := HK7.out.below hb HK7.out.lt
    clear hb HB7 HK7 HP2
    have hb3 : Below W8.heap.size W8 (W8.alloc (.cells #[.int .i64 k2, .int .i64 z2, .int .i64 p2, .int .i64 g2', .int .i64 h2] 23)) := (Below.refl _ _).alloc (Nat.le_refl _) _
    have kc9 := Blk.new W8 23 #[.int .i64 k2, .int .i64 z2, .int .i64 p2, .int .i64 g2', .int .i64 h2]
    have hB9 := bstep hB8 hb3
    have kb9 := kb8.below hb3 kb8.lt
    go_upto_region 11 with fail
    obtain ⟨W9, hW9⟩ : ∃ W9, W8.alloc (.cells #[.int .i64 k2, .int .i64 z2, .int .i64 p2, .int .i64 g2', .int .i64 h2] 23) = W9 := ⟨_, rfl⟩
    obtain ⟨cb, hcb⟩ : ∃ cb, W8.heap.size = cb := ⟨_, rfl⟩
    rw [hW9] at kc9 hB9 kb9 ⊢
    rw [hcb] at kc9 ⊢
    clear hW9 hcb hb3 hB8 kb8
    have d0 : W9.cell? ⟨bb, 0, none⟩ = some (.int .i64 k2) := by simpa using kb9.cell 0
    have d1 : W9.cell? ⟨bb, 1, none⟩ = some (.int .i64 z2) := by simpa using kb9.cell 1
    have d2 : W9.cell? ⟨bb, 2, none⟩ = some (.int .i64 p2) := by simpa using kb9.cell 2
    have d3 : W9.cell? ⟨bb, 3, none⟩ = some (.int .i64 g2') := by simpa using kb9.cell 3
    have d4 : W9.cell? ⟨bb, 4, none⟩ = some (.int .i64 h2) := by simpa using kb9.cell 4
    have g0 : W9.cell? ⟨cb, 0, none⟩ = some (.int .i64 k2) := by simpa using kc9.cell 0
    have g1 : W9.cell? ⟨cb, 1, none⟩ = some (.int .i64 z2) := by simpa using kc9.cell 1
    have g2 : W9.cell? ⟨cb, 2, none⟩ = some (.int .i64 p2) := by simpa using kc9.cell 2
    have g3 : W9.cell? ⟨cb, 3, none⟩ = some (.int .i64 g2') := by simpa using kc9.cell 3
    have g4 : W9.cell? ⟨cb, 4, none⟩ = some (.int .i64 h2) := by simpa using kc9.cell 4
    have eq := eqSpc k2 z2 p2 g2' h2
    have HB9 := hide hB9
    clear kb9 kc9 hB9
    go_wp2_with fail
    refine (awake_any W9).mono ?_
    rintro e W10 ⟨rfl, hb⟩
    have HB := hide (bstep HB9.out hb)
    clear hb
    go_wp2
    go_ret
    exact ⟨rfl, HB.out⟩
end Go.Proofs.YtehifbogadohgaaDoor
