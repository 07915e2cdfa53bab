/-
  The walk of the reference's kept. No condition.
-/
import Derived.Test.YtoapjidpfghnlaaGreatDoorJnA
import Derived.Test.YtoapjidpfghnlaaGreatDoorPrR5
import Derived.Test.YtoapjidpfghnlaaGreatDoorRngH
namespace Go.Proofs.YtoapjidpfghnlaaGreatDoor
open Go.RowKit
attribute [local go_sem] Oper.semAt_some wide_fn wide_depth
set_option linter.unusedVariables false
set_option linter.unusedSimpArgs false

set_option maxRecDepth 100000 in
set_option maxHeartbeats 8000000 in
theorem kept_any (A : Option Addr) (n c : Nat) (l : List Ch) (x : Ch) (B : Nat) (w : World) (hl : Reads w w.heap.size 3 A n (l.flatMap encCh)) (hlr : RowsC w B l) (hB : B ≤ w.heap.size) (hx : RowK w w.heap.size x.A x.n x.r) (hxn : x.n ≤ 1000) (hn : n ≤ 1000)
    (hox : okR x.r = true) (hok : ∀ y ∈ l, okR y.r = true ∧ -1000000000 ≤ y.m ∧ y.m ≤ 1000000000) (hxm : -1000000000 ≤ x.m ∧ x.m ≤ 1000000000) :
    Calls Tryz.prog 159 #[.slice A n c, .agg #[.int .i64 x.t, .slice x.A x.n x.c, .int .i64 x.m]] w (RetKc w B (keptT (l.map thC) (thC x))) := by
  have hLn : l.length = n := hl.len encCh_len (by omega)
  have HLN := hide hLn
  have HOK := hide hok
  have HSM := hide (show ∀ j, -1000000000000 ≤ smT (thC x) ((l.take j).map thC) ∧ smT (thC x) ((l.take j).map thC) ≤ 1000000000000 from fun j => by
    have h1 := sm_bound (M := 1000000000) (by omega) (thC x) (l := (l.take j).map thC) fun y hy => by
      obtain ⟨z, hz, rfl⟩ := List.mem_map.1 hy
      exact (hok z (List.mem_of_mem_take hz)).2
    have h2 : ((l.take j).map thC).length ≤ 1000 := by rw [List.length_map, List.length_take]; omega
    omega)
  have HFL := hide (show ∀ j, (((l.take j).map thC).filter (fun h => !sameT h (thC x))).length ≤ 1000 from fun j => by
    refine Nat.le_trans (List.length_filter_le _ _) ?_
    rw [List.length_map, List.length_take]; omega)
  obtain ⟨D, hD⟩ : ∃ D, keptT (l.map thC) (thC x) = D := ⟨_, rfl⟩
  rw [hD]
  have HD := hide hD
  clear hD hok hLn
  have hB0 := below_val (w := w) #[.int .i64 x.t, .slice x.A x.n x.c, .int .i64 x.m] 57
  have kz := Blk.new w 57 #[.int .i64 x.t, .slice x.A x.n x.c, .int .i64 x.m]
  have hs0 : (w.alloc (.cells #[.int .i64 x.t, .slice x.A x.n x.c, .int .i64 x.m] 57)).heap.size = w.heap.size + 1 := World.size_alloc _ _
  go_enter Tryz.func159, Tryz.ntmps159
  go_upto_region 1 with fail
  obtain ⟨W, hW⟩ : ∃ W, w.alloc (.cells #[.int .i64 x.t, .slice x.A x.n x.c, .int .i64 x.m] 57) = W := ⟨_, rfl⟩
  obtain ⟨zb, hzb⟩ : ∃ zb, w.heap.size = zb := ⟨_, rfl⟩
  rw [hW] at hB0 kz hs0 ⊢
  rw [hzb] at kz hs0 ⊢
  clear hW
  go_wp2_with fail
  go_loopw [5, 6] (fun vo i wr => ∃ (j : Nat) (N : Int) (Ao : Option Addr) (co : Nat) (lo : List Ch), j ≤ n ∧ i = .int .i64 j ∧ vo = .slice Ao lo.length co ∧ N = x.m + smT (thC x) ((l.take j).map thC) ∧ lo.map thC = ((l.take j).map thC).filter (fun h => !sameT h (thC x)) ∧
    wr.ownsRow W.heap.size 57 3 (.slice Ao lo.length co) lo.length (lo.flatMap encCh) ∧ RowsC wr B lo ∧ Blk wr zb 57 #[.int .i64 x.t, .slice x.A x.n x.c, .int .i64 N] ∧ Below w.heap.size w wr ∧ W.heap.size ≤ wr.heap.size) (fun _ i _ => n - (intOf i).toNat)
  case atStart => exact ⟨0, x.m, none, 0, [], Nat.zero_le _, rfl, rfl, by simp [smT], rfl, World.ownsRow_nil _ _ _ _, (by intro i hi; cases hi), kz, hB0, Nat.le_refl _⟩
  case round =>
    clear kz hB0
    obtain ⟨j, N, Ao, co, lo, hj, rfl, rfl, hN, hlo, hown, hrows, kz, hBr, hWr⟩ := hrel
    have hsm := HSM.out j
    have hol : lo.length ≤ 1000 := by have h1 := congrArg List.length hlo; rw [List.length_map] at h1; have h2 := HFL.out j; omega
    have HLO := hide hlo
    have HN := hide hN
    have hNb : -1001000000000 ≤ N ∧ N ≤ 1001000000000 := by omega
    clear hsm hlo hN
    have b0 : wr.cell? ⟨zb, 0, none⟩ = some (.int .i64 x.t) := by simpa using kz.cell 0
    have b1 : wr.cell? ⟨zb, 1, none⟩ = some (.slice x.A x.n x.c) := by simpa using kz.cell 1
    have b2 : wr.cell? ⟨zb, 2, none⟩ = some (.int .i64 N) := by simpa using kz.cell 2
    by_cases hlt : j < n
    · have hlR := hl.up hBr
      obtain ⟨bq, oq, y, hA, hbl, hyl, hyc⟩ := hlR.elem encCh_len HLN.out hlt
      have hyin := List.mem_of_getElem? hyl
      have hyr := (hlr y hyin).below hBr
      have HYR := hide hyr
      have hyo := HOK.out y hyin
      have hyx := HSM.out (j + 1)
      have hw9 : IntKind.i64.wrap (N + y.m) = N + y.m := by rw [IntKind.wrap_i64]; omega
      have HTM := hide (take_map hyl)
      have e0 : wr.cell? ⟨bq, oq + j * 3, none⟩ = some (.int .i64 y.t) := by simpa using hyc 0 _ rfl
      have e1 : wr.cell? ⟨bq, oq + j * 3 + 1, none⟩ = some (.slice y.A y.n y.c) := by simpa [Nat.add_assoc] using hyc 1 _ rfl
      have e2 : wr.cell? ⟨bq, oq + j * 3 + 2, none⟩ = some (.int .i64 y.m) := by simpa [Nat.add_assoc] using hyc 2 _ rfl
      have hsc := same_cmp (x := thC y) (c := thC x) hyo.1 hox
      have hqz : bq ≠ zb := by
        rintro rfl
        obtain ⟨b', off', h1, h2, _⟩ := hl.2 (by omega)
        rw [h1] at hA
        injection hA with hA
        injection hA with hA1
        omega
      have q1 : (0 : Int) ≤ (j : Int) := by omega
      have q2 : (j : Int) < (n : Int) := by omega
      have p0 := fun (p : BW wr) => BW.cell (a := ⟨bq, oq + j * 3, none⟩) hbl e0 p
      have p1 := fun (p : BW wr) => BW.cell (a := ⟨bq, oq + j * 3 + 1, none⟩) hbl e1 p
      have p2 := fun (p : BW wr) => BW.cell (a := ⟨zb, 0, none⟩) kz.lt b0 p
      have p3 := fun (p : BW wr) => BW.cell (a := ⟨zb, 1, none⟩) kz.lt b1 p
      have hxr := hx.below hBr
      have hwr := hBr.size
      have HC1 := hide (fun (p : BW wr) => calls_bw (p := p) (R2Compare_any y.A y.n y.c y.r x.A x.n x.c x.r p.x (((hyr.mono (Nat.le_trans hB hwr)).below p.h).rd.up (Below.refl _ _)) (((hxr.mono hwr).below p.h).rd.up (Below.refl _ _)) hyr.le))
      obtain ⟨cc, hcc⟩ : ∃ cc, cmpR y.r x.r = cc := ⟨_, rfl⟩
      rw [hcc] at HC1
      have HSC := hide (show sameT (thC y) (thC x) = (decide (y.t = x.t) && decide (cc = 0)) by
        rw [hsc, ← hcc]
        have h1 := Tot.row.anti x.r y.r
        show (decide (cmpR x.r y.r = 0) && decide (x.t = y.t)) = _
        rw [Bool.and_comm]
        congr 1
        · exact decide_eq_decide.2 ⟨Eq.symm, Eq.symm⟩
        · exact decide_eq_decide.2 ⟨fun h => by omega, fun h => by omega⟩)
      subst hA
      clear hsc hcc hxr hyr hlR hyc hyl hyin
      by_cases c1 : y.t = x.t
      · have d1 : (y.t == x.t) = true := by simpa using c1
        by_cases c2 : cc = 0
        · have d2 : (cc == 0) = true := by simpa using c2
          replace HSC := hide (show sameT (thC y) (thC x) = true from by rw [HSC.out]; simp [c1, c2])
          clear c1 c2
          have HTN := hide (show lo.map thC = ((l.take (j + 1)).map thC).filter (fun h => !sameT h (thC x)) from by
            rw [HTM.out, List.filter_append, ← HLO.out, List.filter_cons_of_neg (by simp [HSC.out])]; simp)
          have HSN := hide (show N + y.m = x.m + smT (thC x) ((l.take (j + 1)).map thC) from by rw [HTM.out, smT_app, HN.out, smT, smT, HSC.out, if_pos rfl]; show _ = x.m + (_ + (y.m + 0)); omega)
          go_wp2_with fail
          (refine wp_region_quiet_bw (by kernel_rfl) (by kernel_rfl) ?_
           repeat (first | go_big_quiet_step (((go_at_call 106; exact HC1.out _))) | quiet_step (((go_at_call 106; exact HC1.out _))))
           refine wpQuiet_nil ?_
           intro wq hw'
           obtain ⟨⟨_, hbq⟩, hw''⟩ := hw'
           subst hw'')
          have hB3 := bstep hBr hbq
          have kz3 := kz.below hbq kz.lt
          have hown3 := own_below hown hbq
          have hrows3 : RowsC wq B lo := fun i hi => (hrows i hi).below hbq
          have f2 := (hbq.cell (p := ⟨bq, oq + j * 3 + 2, none⟩) hbl).trans e2
          have hWq := Nat.le_trans hWr hbq.size
          have hblq : bq < wq.heap.size := Nat.lt_of_lt_of_le hbl hbq.size
          clear hbq hBr p0 p1 p2 p3 HC1 hown hrows kz e0 e1 e2 b0 b1 b2
          go_upto_region 6 with fail
          refine Held.begin (fun z => z.cell? ⟨zb, 2, none⟩ = some (.int .i64 N) ∧ z.cell? ⟨bq, oq + j * 3 + 2, none⟩ = some (.int .i64 y.m)) 9 (by kernel_rfl) ?_
          have hbd := (Below.refl wq.heap.size wq).drew
          obtain ⟨X1, hXe⟩ : ∃ X1, wq.drew = X1 := ⟨_, rfl⟩
          rw [hXe] at hbd ⊢
          have kz4 := kz3.below hbd kz3.lt
          have hown4 := own_below hown3 hbd
          have hrows4 : RowsC X1 B lo := fun i hi => (hrows3 i hi).below hbd
          have hB4 := bstep hB3 hbd
          have hS : X1.cell? ⟨zb, 2, none⟩ = some (.int .i64 N) ∧ X1.cell? ⟨bq, oq + j * 3 + 2, none⟩ = some (.int .i64 y.m) := ⟨by simpa using kz4.cell 2, (hbd.cell hblq).trans f2⟩
          have hWx := Nat.le_trans hWq hbd.size
          clear hXe hbd hB3 kz3 hown3 hrows3 f2
          refine Held.take (i := 0) (.pointer (some ⟨zb, 2, none⟩)) rfl hS (by kernel_rfl) (by kernel_rfl) (by kernel_rfl) (by kernel_rfl) (fun _ _ _ h => h) rfl (fun y hy => by obtain ⟨x1, x2⟩ := hy; go_simp) ?_
          try simp only [Act.put]
          refine Held.take (i := 1) (.int .i64 N) rfl hS (by kernel_rfl) (by kernel_rfl) (by kernel_rfl) (by kernel_rfl) (fun _ _ _ h => h) rfl (fun y hy => by obtain ⟨x1, x2⟩ := hy; go_simp) ?_
          try simp only [Act.put]
          refine Held.take (i := 2) (.slice (some ⟨bq, oq, none⟩) n c) rfl hS (by kernel_rfl) (by kernel_rfl) (by kernel_rfl) (by kernel_rfl) (fun _ _ _ h => h) rfl (fun y hy => by obtain ⟨x1, x2⟩ := hy; go_simp) ?_
          try simp only [Act.put]
          refine Held.take (i := 3) (.int .i64 (j : Int)) rfl hS (by kernel_rfl) (by kernel_rfl) (by kernel_rfl) (by kernel_rfl) (fun _ _ _ h => h) rfl (fun y hy => by obtain ⟨x1, x2⟩ := hy; go_simp) ?_
          try simp only [Act.put]
          refine Held.take (i := 4) (.pointer (some ⟨bq, oq + j * 3, none⟩)) rfl hS (by kernel_rfl) (by kernel_rfl) (by kernel_rfl) (by kernel_rfl) (fun _ _ _ h => h) rfl (fun y hy => by obtain ⟨x1, x2⟩ := hy; go_simp) ?_
          try simp only [Act.put]
          refine Held.take (i := 5) (.pointer (some ⟨bq, oq + j * 3 + 2, none⟩)) rfl hS (by kernel_rfl) (by kernel_rfl) (by kernel_rfl) (by kernel_rfl) (fun _ _ _ h => h) rfl (fun y hy => by obtain ⟨x1, x2⟩ := hy; go_simp) ?_
          try simp only [Act.put]
          refine Held.take (i := 6) (.int .i64 y.m) rfl hS (by kernel_rfl) (by kernel_rfl) (by kernel_rfl) (by kernel_rfl) (fun _ _ _ h => h) rfl (fun y hy => by obtain ⟨x1, x2⟩ := hy; go_simp) ?_
          try simp only [Act.put]
          refine Held.take (i := 7) (.int .i64 (N + y.m)) rfl hS (by kernel_rfl) (by kernel_rfl) (by kernel_rfl) (by kernel_rfl) (fun _ _ _ h => h) rfl (fun y hy => by obtain ⟨x1, x2⟩ := hy; go_simp) ?_
          try simp only [Act.put]
          refine Held.take (i := 8) (.pointer (some ⟨zb, 2, none⟩)) rfl hS (by kernel_rfl) (by kernel_rfl) (by kernel_rfl) (by kernel_rfl) (fun _ _ _ h => h) rfl (fun y hy => by obtain ⟨x1, x2⟩ := hy; go_simp) ?_
          try simp only [Act.put]
          have hc2 := hS.1
          have fz := kz4.frozen 2
          have HO4 := hide (show (X1.setCell ⟨zb, 2, none⟩ (.int .i64 (N + y.m))).ownsRow W.heap.size 57 3 (.slice Ao lo.length co) lo.length (lo.flatMap encCh) from own_blockU hown4 fun g hg => Below.heap_setCell _ _ _ g (by have := (hown4.lt g hg).1; show g ≠ zb; omega))
          have HR4 := hide (show RowsC (X1.setCell ⟨zb, 2, none⟩ (.int .i64 (N + y.m))) B lo from fun i hi => (hrows4 i hi).keep (p := fun k => k = zb) (fun k _ hne => Below.heap_setCell _ _ _ k hne) (by simp [World.setCell]) fun k hk => ⟨by omega, by subst hk; exact blk_not kz4 (by decide)⟩)
          have HK4 := hide (show Blk (X1.setCell ⟨zb, 2, none⟩ (.int .i64 (N + y.m))) zb 57 #[.int .i64 x.t, .slice x.A x.n x.c, .int .i64 (N + y.m)] from by simpa using kz4.set_ 2 (.int .i64 (N + y.m)))
          have HB4 := hide (show Below w.heap.size w (X1.setCell ⟨zb, 2, none⟩ (.int .i64 (N + y.m))) from hB4.setCell (by show w.heap.size ≤ zb; omega) _)
          have HW4 := hide (show W.heap.size ≤ (X1.setCell ⟨zb, 2, none⟩ (.int .i64 (N + y.m))).heap.size from by simpa [World.setCell] using hWx)
          clear hown4 hrows4 hB4
          refine Held.one (i := 9) rfl (by kernel_rfl) rfl (fun K hK => ?_)
          unfold Oper.wp
          go_simp
          refine hK _ _ (fun h => absurd rfl h) ?_
          try simp only [Act.put]
          clear hK K hS hc2 fz kz4
          refine Held.done (by kernel_rfl) ?_
          go_wp2_with fail
          go_roundw
          case rel => exact ⟨j + 1, N + y.m, Ao, co, lo, by omega, by go_num, rfl, HSN.out, HTN.out, HO4.out, HR4.out, HK4.out, HB4.out, HW4.out⟩
          case measure => first | (simp [intOf]; done) | (simp [intOf]; omega)
        · have d2 : (cc == 0) = false := by simpa using c2
          replace HSC := hide (show sameT (thC y) (thC x) = false from by rw [HSC.out]; simp [c2])
          clear c1 c2
          have HTN := hide (show (lo ++ [y]).map thC = ((l.take (j + 1)).map thC).filter (fun h => !sameT h (thC x)) from by
            rw [HTM.out, filt_snoc HSC.out, ← HLO.out, List.map_append]; rfl)
          have HSN := hide (show N = x.m + smT (thC x) ((l.take (j + 1)).map thC) from by rw [HTM.out, sm_snoc HSC.out]; exact HN.out)
          go_wp2_with fail
          (refine wp_region_quiet_bw (by kernel_rfl) (by kernel_rfl) ?_
           repeat (first | go_big_quiet_step (((go_at_call 106; exact HC1.out _))) | quiet_step (((go_at_call 106; exact HC1.out _))))
           refine wpQuiet_nil ?_
           intro wq hw'
           obtain ⟨⟨_, hbq⟩, hw''⟩ := hw'
           subst hw'')
          have hB3 := bstep hBr hbq
          have kz3 := kz.below hbq kz.lt
          have hown3 := own_below hown hbq
          have hrows3 : RowsC wq B lo := fun i hi => (hrows i hi).below hbq
          have hyr3 := HYR.out.below hbq
          have f0 := p0 ⟨wq, hbq⟩
          have f1 := p1 ⟨wq, hbq⟩
          have f2 := (hbq.cell (p := ⟨bq, oq + j * 3 + 2, none⟩) hbl).trans e2
          simp only at f0 f1
          have hWq := Nat.le_trans hWr hbq.size
          obtain ⟨A', c', X', hrun, hown4, hrows4, hblk4, hb4⟩ := oc_app y hown3 hrows3 hyr3 hWq (by omega) (by omega)
          have hlen : (lo ++ [y]).length = lo.length + 1 := by simp
          have HO4 := hide hown4
          have HR4 := hide hrows4
          have HK4 := hide (show Blk X' zb 57 #[.int .i64 x.t, .slice x.A x.n x.c, .int .i64 N] from (hblk4 zb kz3.lt fun e => by have := (hown3.lt zb e).1; omega).trans kz3)
          have HB4 := hide (show Below w.heap.size w X' from hB3.trans (hb4.mono (by omega)))
          have HW4 := hide (show W.heap.size ≤ X'.heap.size from Nat.le_trans hWq hb4.size)
          clear hbq hBr p0 p1 p2 p3 HC1 hown hrows kz hB3 kz3 hown3 hrows3 hyr3 hown4 hrows4 hblk4 hb4 e0 e1 e2 b0 b1 b2
          go_wp2_with (at_builtin; refine wpList_append_is rfl _ _ 67 rfl rfl rfl rfl hrun ?_)
          go_roundw
          case rel => exact ⟨j + 1, N, A', c', lo ++ [y], by omega, by go_num, by rw [hlen], HSN.out, HTN.out, by rw [hlen] at *; exact HO4.out, HR4.out, HK4.out, HB4.out, HW4.out⟩
          case measure => first | (simp [intOf]; done) | (simp [intOf]; omega)
      · have d1 : (y.t == x.t) = false := by simpa using c1
        replace HSC := hide (show sameT (thC y) (thC x) = false from by rw [HSC.out]; simp [c1])
        clear c1
        have HTN := hide (show (lo ++ [y]).map thC = ((l.take (j + 1)).map thC).filter (fun h => !sameT h (thC x)) from by
          rw [HTM.out, filt_snoc HSC.out, ← HLO.out, List.map_append]; rfl)
        have HSN := hide (show N = x.m + smT (thC x) ((l.take (j + 1)).map thC) from by rw [HTM.out, sm_snoc HSC.out]; exact HN.out)
        go_wp2_with fail
        (refine wp_region_quiet_bw (by kernel_rfl) (by kernel_rfl) ?_
         repeat (first | go_big_quiet_step ((fail)) | quiet_step ((fail)))
         refine wpQuiet_nil ?_
         intro wq hw'
         obtain ⟨⟨_, hbq⟩, hw''⟩ := hw'
         subst hw'')
        have hB3 := bstep hBr hbq
        have kz3 := kz.below hbq kz.lt
        have hown3 := own_below hown hbq
        have hrows3 : RowsC wq B lo := fun i hi => (hrows i hi).below hbq
        have hyr3 := HYR.out.below hbq
        have f0 := p0 ⟨wq, hbq⟩
        have f1 := p1 ⟨wq, hbq⟩
        have f2 := (hbq.cell (p := ⟨bq, oq + j * 3 + 2, none⟩) hbl).trans e2
        simp only at f0 f1
        have hWq := Nat.le_trans hWr hbq.size
        obtain ⟨A', c', X', hrun, hown4, hrows4, hblk4, hb4⟩ := oc_app y hown3 hrows3 hyr3 hWq (by omega) (by omega)
        have hlen : (lo ++ [y]).length = lo.length + 1 := by simp
        have HO4 := hide hown4
        have HR4 := hide hrows4
        have HK4 := hide (show Blk X' zb 57 #[.int .i64 x.t, .slice x.A x.n x.c, .int .i64 N] from (hblk4 zb kz3.lt fun e => by have := (hown3.lt zb e).1; omega).trans kz3)
        have HB4 := hide (show Below w.heap.size w X' from hB3.trans (hb4.mono (by omega)))
        have HW4 := hide (show W.heap.size ≤ X'.heap.size from Nat.le_trans hWq hb4.size)
        clear hbq hBr p0 p1 p2 p3 HC1 hown hrows kz hB3 kz3 hown3 hrows3 hyr3 hown4 hrows4 hblk4 hb4 e0 e1 e2 b0 b1 b2
        go_wp2_with (at_builtin; refine wpList_append_is rfl _ _ 67 rfl rfl rfl rfl hrun ?_)
        go_roundw
        case rel => exact ⟨j + 1, N, A', c', lo ++ [y], by omega, by go_num, by rw [hlen], HSN.out, HTN.out, by rw [hlen] at *; exact HO4.out, HR4.out, HK4.out, HB4.out, HW4.out⟩
        case measure => first | (simp [intOf]; done) | (simp [intOf]; omega)
    · obtain rfl : j = n := by omega
      have htk : l.take j = l := List.take_of_length_le (by rw [HLN.out]; omega)
      have HLO2 := hide (show lo.map thC = (l.map thC).filter (fun h => !sameT h (thC x)) from by have := HLO.out; rwa [htk] at this)
      have HN2 := hide (show N = (thC x).m + smT (thC x) (l.map thC) from by have := HN.out; rw [htk] at this; exact this)
      clear HLO HN htk
      by_cases hN0 : N = 0
      · have d1 : (N != 0) = false := by simpa using hN0
        have HR := hide (show RetKc w B D (.returned (.slice Ao lo.length co)) wr from ⟨Ao, co, lo, rfl, by
          rw [← HD.out, HLO2.out]
          unfold keptT
          rw [← HN2.out, hN0]; simp, own_mono hown (by omega), hrows, hBr⟩)
        clear hown hrows hBr kz hN0
        go_wp2_with fail
        go_ret
        exact HR.out
      · have d1 : (N != 0) = true := by simpa using hN0
        go_upto_region 9 with fail
        refine Held.begin (fun z => z.cell? ⟨zb, 0, none⟩ = some (.int .i64 x.t) ∧ z.cell? ⟨zb, 1, none⟩ = some (.slice x.A x.n x.c) ∧ z.cell? ⟨zb, 2, none⟩ = some (.int .i64 N)) 11 (by kernel_rfl) ?_
        have hbd := (Below.refl wr.heap.size wr).drew
        obtain ⟨X1, hXe⟩ : ∃ X1, wr.drew = X1 := ⟨_, rfl⟩
        rw [hXe] at hbd ⊢
        have kz1 := kz.below hbd kz.lt
        have hown1 := own_below hown hbd
        have hrows1 : RowsC X1 B lo := fun i hi => (hrows i hi).below hbd
        have hB1 := bstep hBr hbd
        have hW1 := Nat.le_trans hWr hbd.size
        have hx1 := (hx.below hB1).mono hB1.size
        have hS : X1.cell? ⟨zb, 0, none⟩ = some (.int .i64 x.t) ∧ X1.cell? ⟨zb, 1, none⟩ = some (.slice x.A x.n x.c) ∧ X1.cell? ⟨zb, 2, none⟩ = some (.int .i64 N) := ⟨by simpa using kz1.cell 0, by simpa using kz1.cell 1, by simpa using kz1.cell 2⟩
        clear hXe hbd kz hown hrows hBr hWr b0 b1 b2
        refine Held.take (i := 0) (.slice Ao lo.length co) rfl hS (by kernel_rfl) (by kernel_rfl) (by kernel_rfl) (by kernel_rfl) (fun _ _ _ h => h) rfl (fun y hy => by obtain ⟨x1, x2, x3⟩ := hy; go_simp) ?_
        try simp only [Act.put]
        refine Held.take (i := 1) (.pointer (some ⟨zb, 0, none⟩)) rfl hS (by kernel_rfl) (by kernel_rfl) (by kernel_rfl) (by kernel_rfl) (fun _ _ _ h => h) rfl (fun y hy => by obtain ⟨x1, x2, x3⟩ := hy; go_simp) ?_
        try simp only [Act.put]
        refine Held.take (i := 2) (.int .i64 x.t) rfl hS (by kernel_rfl) (by kernel_rfl) (by kernel_rfl) (by kernel_rfl) (fun _ _ _ h => h) rfl (fun y hy => by obtain ⟨x1, x2, x3⟩ := hy; go_simp) ?_
        try simp only [Act.put]
        refine Held.take (i := 3) (.pointer (some ⟨zb, 1, none⟩)) rfl hS (by kernel_rfl) (by kernel_rfl) (by kernel_rfl) (by kernel_rfl) (fun _ _ _ h => h) rfl (fun y hy => by obtain ⟨x1, x2, x3⟩ := hy; go_simp) ?_
        try simp only [Act.put]
        refine Held.take (i := 4) (.slice x.A x.n x.c) rfl hS (by kernel_rfl) (by kernel_rfl) (by kernel_rfl) (by kernel_rfl) (fun _ _ _ h => h) rfl (fun y hy => by obtain ⟨x1, x2, x3⟩ := hy; go_simp) ?_
        try simp only [Act.put]
        refine Held.take (i := 6) (.pointer (some ⟨zb, 2, none⟩)) rfl hS (by kernel_rfl) (by kernel_rfl) (by kernel_rfl) (by kernel_rfl) (fun _ _ _ h => h) rfl (fun y hy => by obtain ⟨x1, x2, x3⟩ := hy; go_simp) ?_
        try simp only [Act.put]
        refine Held.take (i := 7) (.int .i64 N) rfl hS (by kernel_rfl) (by kernel_rfl) (by kernel_rfl) (by kernel_rfl) (fun _ _ _ h => h) rfl (fun y hy => by obtain ⟨x1, x2, x3⟩ := hy; go_simp) ?_
        try simp only [Act.put]
        refine Held.one (i := 5) rfl (by kernel_rfl) rfl (fun K hK => ?_)
        unfold Oper.wp
        go_simp
        refine (OwnO_any x.A x.n x.c _ x.r X1 hx1 hxn).mono ?_
        rintro e X2 ⟨A2, c2, rfl, hown2, hb2⟩
        have hrow2 : RowK X2 B A2 x.n x.r := RowK.of_own hown2 (by omega)
        have kz2 := kz1.below hb2 kz1.lt
        have hownl2 := own_below hown1 hb2
        have hrows2 : RowsC X2 B lo := fun i hi => (hrows1 i hi).below hb2
        have hB2 := bstep hB1 hb2
        have hW2 := Nat.le_trans hW1 hb2.size
        have hS : X2.cell? ⟨zb, 0, none⟩ = some (.int .i64 x.t) ∧ X2.cell? ⟨zb, 1, none⟩ = some (.slice x.A x.n x.c) ∧ X2.cell? ⟨zb, 2, none⟩ = some (.int .i64 N) := ⟨by simpa using kz2.cell 0, by simpa using kz2.cell 1, by simpa using kz2.cell 2⟩
        refine hK _ _ (fun _ => hS) ?_
        try simp only [Act.put]
        clear hK K hb2 kz1 hown1 hrows1 hB1 hW1 hown2 hx1
        refine Held.one (i := 8) rfl (by kernel_rfl) rfl (fun K hK => ?_)
        unfold Oper.wp
        go_simp
        refine hK _ _ (fun _ => hS) ?_
        try simp only [Act.put]
        clear hK K
        obtain ⟨A', c', X4, hrun, hown4, hrows4, hblk4, hb4⟩ := oc_app ⟨x.t, A2, x.n, c2, x.r, N⟩ hownl2 hrows2 hrow2 hW2 (by omega) (by omega)
        have kq := below_val (w := X2) #[.int .i64 x.t, .slice A2 x.n c2, .int .i64 N] 57
        have kz3 := kz2.below kq kz2.lt
        have kz4 : Blk X4 zb 57 #[.int .i64 x.t, .slice x.A x.n x.c, .int .i64 N] := (hblk4 zb kz2.lt fun e => by have := (hownl2.lt zb e).1; omega).trans kz2
        have HR := hide (show RetKc w B D (.returned (.slice A' (lo.length + 1) c')) X4 from ⟨A', c', lo ++ [⟨x.t, A2, x.n, c2, x.r, N⟩], by simp, by
          rw [← HD.out, List.map_append, HLO2.out]
          unfold keptT
          rw [← HN2.out, if_pos hN0]; rfl, by
          have e : (lo ++ [(⟨x.t, A2, x.n, c2, x.r, N⟩ : Ch)]).length = lo.length + 1 := by simp
          rw [e] at hown4 ⊢
          exact own_mono hown4 (by omega), hrows4, hB2.trans (hb4.mono (by omega))⟩)
        clear hown4 hrows4 hblk4 hb4 hownl2 hrows2 hrow2 hB2 kz2
        refine Held.one (i := 9) rfl (by kernel_rfl) rfl (fun K hK => ?_)
        unfold Oper.wp
        go_simp
        refine hK _ _ (fun _ => ⟨by simpa using kz3.cell 0, by simpa using kz3.cell 1, by simpa using kz3.cell 2⟩) ?_
        try simp only [Act.put]
        clear hK K hS
        have hS : X4.cell? ⟨zb, 0, none⟩ = some (.int .i64 x.t) ∧ X4.cell? ⟨zb, 1, none⟩ = some (.slice x.A x.n x.c) ∧ X4.cell? ⟨zb, 2, none⟩ = some (.int .i64 N) := ⟨by simpa using kz4.cell 0, by simpa using kz4.cell 1, by simpa using kz4.cell 2⟩
        refine Held.one (i := 10) rfl (by kernel_rfl) rfl (fun K hK => ?_)
        refine wp_append_is _ _ 67 rfl rfl rfl rfl hrun ?_
        refine hK _ _ (fun _ => hS) ?_
        try simp only [Act.put]
        clear hK K hrun
        refine Held.one (i := 11) rfl (by kernel_rfl) rfl (fun K hK => ?_)
        unfold Oper.wp
        go_simp
        refine hK _ _ (fun h => absurd rfl h) ?_
        try simp only [Act.put]
        clear hK K hS
        refine Held.done (by kernel_rfl) ?_
        go_wp2_with fail
        go_ret
        exact HR.out
end Go.Proofs.YtoapjidpfghnlaaGreatDoor
