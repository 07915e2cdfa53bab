/-
  The walk of the reference's PutEvent. No condition.
-/
import Derived.Test.YtoapjidpfghnlaaGreatDoorPrR3
namespace Go.Proofs.YtoapjidpfghnlaaGreatDoor
open Go.RowKit
attribute [local go_sem] Oper.semAt_some wide_fn wide_depth
set_option linter.unusedVariables false
set_option linter.unusedSimpArgs false

set_option maxRecDepth 100000 in
set_option maxHeartbeats 4000000 in
theorem PutEvent_any (A : Option Addr) (n c : Nat) (l : List Ev) (x : Ev) (w : World) (hl : EvR w w.heap.size A n l) (hnc : n ≤ c) (hn : n ≤ 100000) (hx : RowK w w.heap.size x.A x.n x.r) :
    Calls Tryz.prog 36 #[.slice A n c, .agg #[.int .i64 x.t, .slice x.A x.n x.c]] w (RetEvs w (stepG cmpE (dE l) (x.t, x.r))) := by
  obtain ⟨i0, hi, hz0, hz1, hz2⟩ := info_parts3 infoEv
  obtain ⟨D, hD⟩ : ∃ D, dE l = D := ⟨_, rfl⟩
  have HLN := hide hl.len
  have HDL := hide (show D.length = n by rw [← hD, dE_len]; exact hl.len)
  have HD := hide hD
  rw [hD]
  clear hD
  have hB0 := below_val (w := w) #[.int .i64 x.t, .slice x.A x.n x.c] 36
  have kz := Blk.new w 36 #[.int .i64 x.t, .slice x.A x.n x.c]
  have hlW := hl.step hB0
  have hxW := (hx.below hB0).mono hB0.size
  have hs0 : (w.alloc (.cells #[.int .i64 x.t, .slice x.A x.n x.c] 36)).heap.size = w.heap.size + 1 := World.size_alloc _ _
  clear hl hx
  go_enter Tryz.func36, Tryz.ntmps36
  go_upto_region 1 with fail
  obtain ⟨W, hW⟩ : ∃ W, w.alloc (.cells #[.int .i64 x.t, .slice x.A x.n x.c] 36) = W := ⟨_, rfl⟩
  obtain ⟨zb, hzb⟩ : ∃ zb, w.heap.size = zb := ⟨_, rfl⟩
  rw [hW] at hB0 kz hlW hxW hs0 ⊢
  rw [hzb] at kz hs0 ⊢
  clear hW
  iterate 14 (first | go_values | go_skip | go_guarded | go_step | go_upon | go_back)
  go_cut [5] from 9 to 46 (fun s5 wx => ∃ j : Nat, s5 = .int .i64 (j : Int) ∧ j ≤ n ∧ atG cmpE (x.t, x.r) D D.length = j ∧ Below W.heap.size W wx)
  case first =>
    go_wp2_with fail
    go_loopw [5] (fun i wz => ∃ j : Nat, j ≤ n ∧ i = .int .i64 (j : Int) ∧ atG cmpE (x.t, x.r) D D.length = atG cmpE (x.t, x.r) D j ∧ Below W.heap.size W wz) (fun i _ => (intOf i).toNat)
    case atStart => exact ⟨n, Nat.le_refl _, rfl, by rw [HDL.out], Below.refl _ _⟩
    case round =>
      obtain ⟨j, hj, rfl, hat, hBr⟩ := hrel
      have HAT := hide hat
      clear hat
      by_cases hj0 : j = 0
      · have z : ¬ ((0 : Int) < (j : Int)) := by omega
        have z' : decide ((0 : Int) < (j : Int)) = false := decide_eq_false z
        have z'' : decide (0 < j) = false := decide_eq_false (by omega)
        have HX := hide (show atG cmpE (x.t, x.r) D D.length = j by rw [HAT.out, hj0]; rfl)
        clear hj0
        go_wp2_with fail
        (refine wp_region_quiet_bw (by kernel_rfl) (by kernel_rfl) ?_
         repeat (first | go_big_quiet_step ((fail)) | quiet_step ((fail)))
         refine wpQuiet_nil ?_
         intro wq hw'
         obtain ⟨⟨_, hbq⟩, hw''⟩ := hw'
         subst hw'')
        have hB3 := bstep hBr hbq
        clear hbq hBr
        go_wp2_with fail
        go_meet
        case rel => exact ⟨j, rfl, hj, HX.out, hB3⟩
      · obtain ⟨t, rfl⟩ : ∃ t, j = t + 1 := ⟨j - 1, by omega⟩
        clear hj0
        obtain ⟨bq, oq, y, rfl, hbl, hyl, r0, r1, hyr⟩ := (hlW.step hBr).at_ (show t < n by omega)
        have hyd : D[t]? = some (y.t, y.r) := by rw [← HD.out]; exact dE_at hyl
        have HYD := hide hyd
        have kxr := kz.below hBr kz.lt
        have b0 : wr.cell? ⟨zb, 0, none⟩ = some (.int .i64 x.t) := by simpa using kxr.cell 0
        have b1 : wr.cell? ⟨zb, 1, none⟩ = some (.slice x.A x.n x.c) := by simpa using kxr.cell 1
        have hxr := hxW.below hBr
        have p0 := fun (p : BW wr) => BW.cell (a := ⟨bq, oq + t * 2, none⟩) hbl r0 p
        have p1 := fun (p : BW wr) => BW.cell (a := ⟨bq, oq + t * 2 + 1, none⟩) hbl r1 p
        have p2 := fun (p : BW wr) => BW.cell (a := ⟨zb, 0, none⟩) kxr.lt b0 p
        have p3 := fun (p : BW wr) => BW.cell (a := ⟨zb, 1, none⟩) kxr.lt b1 p
        have w1 : IntKind.i64.wrap ((t : Int) + 1 - 1) = (t : Int) := by rw [IntKind.wrap_i64]; omega
        have w2 : IntKind.i64.wrap (((t + 1 : Nat) : Int) - 1) = (t : Int) := by rw [IntKind.wrap_i64]; omega
        have q3 : (0 : Int) ≤ (t : Int) := by omega
        have q4 : (t : Int) < (n : Int) := by omega
        have q5 : (0 : Int) < (t : Int) + 1 := by omega
        have q7 : decide (0 < t + 1) = true := decide_eq_true (by omega)
        have q6 : decide ((0 : Int) < (t : Int) + 1) = true := decide_eq_true q5
        have HC1 := hide (fun (p : BW wr) => calls_bw (p := p) (R2Compare_any y.A y.n y.c y.r x.A x.n x.c x.r p.x (hyr.rd.up p.h) ((hxr.below p.h).rd.up (Below.refl _ _)) hyr.le))
        obtain ⟨cc, hcc⟩ : ∃ cc, cmpR y.r x.r = cc := ⟨_, rfl⟩
        have HNG := hide (show cmpE (x.t, x.r) (y.t, y.r) < 0 ↔ (x.t < y.t ∨ (y.t = x.t ∧ 0 < cc)) by rw [← hcc]; exact cmpE_pos)
        rw [hcc] at HC1
        clear hyl hyd hcc r0 r1 kxr b0 b1 hxr hyr
        by_cases c1 : x.t < y.t
        · have d1 : decide (x.t < y.t) = true := decide_eq_true c1
          go_wp2_with fail
          (refine wp_region_quiet_bw (by kernel_rfl) (by kernel_rfl) ?_
           repeat (first | go_big_quiet_step ((fail)) | quiet_step ((fail)))
           refine wpQuiet_nil ?_
           intro wq hw'
           obtain ⟨⟨_, hbq⟩, hw''⟩ := hw'
           subst hw'')
          have hB3 := bstep hBr hbq
          clear hBr hbq p0 p1 p2 p3 HC1
          have HX := hide (show atG cmpE (x.t, x.r) D D.length = atG cmpE (x.t, x.r) D t from HAT.out.trans (atG_go HYD.out (HNG.out.2 (.inl c1))))
          clear HNG HAT
          go_wp2_with fail
          go_roundw
          case rel => exact ⟨t, by omega, by go_num, HX.out, hB3⟩
          case measure => first | (simp [intOf]; done) | (simp [intOf]; omega)
        · have d1 : decide (x.t < y.t) = false := decide_eq_false c1
          by_cases c2 : y.t = x.t
          · have d2 : (y.t == x.t) = true := by simpa using c2
            by_cases c3 : 0 < cc
            · have d3 : decide (0 < cc) = true := decide_eq_true c3
              have HX := hide (show atG cmpE (x.t, x.r) D D.length = atG cmpE (x.t, x.r) D t from HAT.out.trans (atG_go HYD.out (HNG.out.2 (.inr ⟨c2, c3⟩))))
              clear HNG HAT c2 c3
              go_wp2_with fail
              (refine wp_region_quiet_bw (by kernel_rfl) (by kernel_rfl) ?_
               repeat (first | go_big_quiet_step (((go_at_call 106; exact HC1.out _))) | quiet_step (((go_at_call 106; exact HC1.out _))))
               refine wpQuiet_nil ?_
               intro wq hw'
               obtain ⟨⟨_, hbq⟩, hw''⟩ := hw'
               subst hw'')
              have hB3 := bstep hBr hbq
              clear hBr hbq p0 p1 p2 p3 HC1
              go_wp2_with fail
              go_roundw
              case rel => exact ⟨t, by omega, by go_num, HX.out, hB3⟩
              case measure => first | (simp [intOf]; done) | (simp [intOf]; omega)
            · have d3 : decide (0 < cc) = false := decide_eq_false c3
              have HX := hide (show atG cmpE (x.t, x.r) D D.length = t + 1 from HAT.out.trans (atG_stop HYD.out (fun h => by rcases HNG.out.1 h with h | h; exact c1 h; exact c3 h.2)))
              clear HNG HAT c2 c3
              go_wp2_with fail
              (refine wp_region_quiet_bw (by kernel_rfl) (by kernel_rfl) ?_
               repeat (first | go_big_quiet_step (((go_at_call 106; exact HC1.out _))) | quiet_step (((go_at_call 106; exact HC1.out _))))
               refine wpQuiet_nil ?_
               intro wq hw'
               obtain ⟨⟨_, hbq⟩, hw''⟩ := hw'
               subst hw'')
              have hB3 := bstep hBr hbq
              clear hBr hbq p0 p1 p2 p3 HC1
              go_wp2_with fail
              go_meet
              case rel => exact ⟨t + 1, by first | rfl | go_num, hj, HX.out, hB3⟩
          · have d2 : (y.t == x.t) = false := by simpa using c2
            have HX := hide (show atG cmpE (x.t, x.r) D D.length = t + 1 from HAT.out.trans (atG_stop HYD.out (fun h => by rcases HNG.out.1 h with h | h; exact c1 h; exact c2 h.1)))
            clear HNG HAT c2
            go_wp2_with fail
            (refine wp_region_quiet_bw (by kernel_rfl) (by kernel_rfl) ?_
             repeat (first | go_big_quiet_step ((fail)) | quiet_step ((fail)))
             refine wpQuiet_nil ?_
             intro wq hw'
             obtain ⟨⟨_, hbq⟩, hw''⟩ := hw'
             subst hw'')
            have hB3 := bstep hBr hbq
            clear hBr hbq p0 p1 p2 p3 HC1
            go_wp2_with fail
            go_meet
            case rel => exact ⟨t + 1, by first | rfl | go_num, hj, HX.out, hB3⟩
  case rest =>
    obtain ⟨j, rfl, hjn, hat, hBz⟩ := hcut
    have HAT := hide hat
    have hR3 := hlW.step hBz
    have kx3 := kz.below hBz kz.lt
    have b0 : wc.cell? ⟨zb, 0, none⟩ = some (.int .i64 x.t) := by simpa using kx3.cell 0
    have b1 : wc.cell? ⟨zb, 1, none⟩ = some (.slice x.A x.n x.c) := by simpa using kx3.cell 1
    have hsl1 := take_runE A n c j hjn hnc
    have hsl2 := drop_runE A n c j hjn hnc
    have hlit := own_lit wc 36 2 0 #[] rfl (by unfold maxLen; omega) (Nat.le_refl wc.heap.size)
    have hBa := below_val (w := wc) #[] 36
    have hrdA := (hR3.rd.takeE hjn).below hBa
    have hrdB := hR3.rd.dropE hjn hnc
    have hxl := kx3.lt
    have hbelc := bstep hB0 hBz
    have hxc := (hxW.below hBz).mono hBz.size
    have HLEN := hide (show (j + 1) + (n - j) = (l.take j ++ [x] ++ l.drop j).length by simp [HLN.out]; omega)
    obtain ⟨LT, hLT⟩ : ∃ LT, (l.take j).flatMap encEv = LT := ⟨_, rfl⟩
    obtain ⟨LD, hLD⟩ : ∃ LD, (l.drop j).flatMap encEv = LD := ⟨_, rfl⟩
    have one1 : ∀ u ∈ LT, u.oneCell' = true := by rw [← hLT]; exact one_encEvs _
    have one2 : ∀ u ∈ LD, u.oneCell' = true := by rw [← hLD]; exact one_encEvs _
    rw [hLT] at hrdA
    rw [hLD] at hrdB
    have HINS := hide (show ∀ (v3 : Value) (X3 : World), Below wc.heap.size wc X3 → X3.ownsRow wc.heap.size 36 2 v3 ((j + 1) + (n - j)) (LT ++ [.int .i64 x.t, .slice x.A x.n x.c] ++ LD) → RetEvs w (stepG cmpE D (x.t, x.r)) (.returned v3) X3 from fun v3 X3 hB3 ho => by
      obtain ⟨A3, c3, rfl, _⟩ := own_form ho
      have hcap := own_cap ho
      refine ⟨A3, _, c3, l.take j ++ [x] ++ l.drop j, rfl, ?_, ⟨?_, fun y hy => ?_, by have := HLN.out; omega⟩, hcap, bstep hbelc hB3⟩
      · rw [stepG_at HAT.out, ← HD.out]
        simp [dE, List.map_take, List.map_drop]
      · have e : (l.take j ++ [x] ++ l.drop j).flatMap encEv = LT ++ [.int .i64 x.t, .slice x.A x.n x.c] ++ LD := by
          rw [← hLT, ← hLD, List.flatMap_append, List.flatMap_append]; simp [encEv]
        rw [e]
        exact Reads.of_own ho
      · have key : RowK wc wc.heap.size y.A y.n y.r := by
          rcases List.mem_append.1 hy with hy | hy
          · rcases List.mem_append.1 hy with hy | hy
            · exact hR3.rows y (List.mem_of_mem_take hy)
            · obtain rfl := List.mem_singleton.1 hy
              exact hxc
          · exact hR3.rows y (List.mem_of_mem_drop hy)
        exact (key.below hB3).mono hB3.size)
    have q3 : (0 : Int) ≤ (j : Int) := by omega
    have q4 : (j : Int) ≤ (n : Int) := by omega
    clear hR3 kx3 hbelc hxc hLT hLD hat hB0 hlW hxW hBz kz
    have HRD2 := hide (show ∀ X1 : World, Reads (X1.alloc (.cells #[.int .i64 x.t, .slice x.A x.n x.c] 36)) (X1.heap.size + 1) 2 (some ⟨X1.heap.size, 0, none⟩) 1 [.int .i64 x.t, .slice x.A x.n x.c] from fun X1 =>
      ⟨rfl, fun _ => ⟨X1.heap.size, 0, rfl, by omega, fun i u hu => by
        have := (Blk.new X1 36 #[.int .i64 x.t, .slice x.A x.n x.c]).cell i
        rw [Nat.zero_add, this]; simpa using hu⟩⟩)
    go_wp2_with (first | (at_builtin; refine wpList_append_any _ rfl _ _ 25 rfl wc.heap.size 36 i0 _ 2 32 Tryz.underlying25 hi hz0 hz1 hz2 rfl (by decide) (.slice (some ⟨wc.heap.size, 0, none⟩) 0 0) 0 [] rfl hlit wc.heap.size A j c LT rfl hrdA one1 (by unfold maxLen; omega) (by omega) (by simp) ?_; intro v1 X1 own1 grow1 _; rw [Nat.zero_add, List.nil_append] at own1; have hB1 := below_append hBa hlit (by simp) grow1; have e0 := (hB1.cell (p := ⟨zb, 0, none⟩) hxl).trans b0; have e1 := (hB1.cell (p := ⟨zb, 1, none⟩) hxl).trans b1; have own1a := own1.alloc (.cells #[.int .i64 x.t, .slice x.A x.n x.c] 36); have hB1a := hB1.alloc hB1.size (.cells #[.int .i64 x.t, .slice x.A x.n x.c] 36); have hrd2 := HRD2.out X1; have hsz1 := hB1a.size) | (at_builtin; refine wpList_append_any _ rfl _ _ 25 rfl wc.heap.size 36 i0 _ 2 32 Tryz.underlying25 hi hz0 hz1 hz2 rfl (by decide) v1 j LT rfl own1a (X1.heap.size + 1) (some ⟨X1.heap.size, 0, none⟩) 1 1 [.int .i64 x.t, .slice x.A x.n x.c] rfl hrd2 (by simp [Value.oneCell']) (by unfold maxLen; omega) (by omega) hsz1 ?_; intro v2 X2 own2 grow2 _; have hB2 := below_append hB1a own1a hsz1 grow2; have hrd3 := hrdB.below hB2; have hsz2 := hB2.size) | (at_builtin; refine wpList_append_any _ rfl _ _ 25 rfl wc.heap.size 36 i0 _ 2 32 Tryz.underlying25 hi hz0 hz1 hz2 rfl (by decide) v2 (j + 1) _ rfl own2 wc.heap.size (dropAE A j c) (n - j) (c - j) LD rfl hrd3 one2 (by unfold maxLen; omega) (by omega) hsz2 ?_; intro v3 X3 own3 grow3 _; have hB3 := below_append hB2 own2 hsz2 grow3))
    have HEND := hide (HINS.out v3 X3 hB3 own3)
    clear HINS own3 hB3 grow3
    go_ret
    exact HEND.out
end Go.Proofs.YtoapjidpfghnlaaGreatDoor
