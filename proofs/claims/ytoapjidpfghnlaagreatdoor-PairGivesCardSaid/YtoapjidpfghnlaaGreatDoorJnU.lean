/-
  The walk of the reference's PutChange. No condition. (Printed by gen_jnU.)
-/
import Derived.Test.YtoapjidpfghnlaaGreatDoorJnR
namespace Go.Proofs.YtoapjidpfghnlaaGreatDoor
open Go.RowKit
attribute [local go_sem] Oper.semAt_some wide_fn wide_depth
set_option linter.unusedVariables false
set_option linter.unusedSimpArgs false

theorem fix_eq (c y : Th) (N : Int) : fixT c N y = ⟨y.t, (fixT c N y).m, y.r⟩ := by
  unfold fixT
  split <;> rfl
theorem Pc1.len0 {c : Th} {l o : List Th} {N : Int} (h : Pc1 c l N false o) : o.length ≤ l.length := by
  obtain ⟨m0, e⟩ := h.ou
  rw [e]
  simp only [Bool.false_eq_true, if_false]
  exact List.length_filter_le _ _
theorem fix_m {c y : Th} {N : Int} : (fixT c N y).m = if sameT y c then N else y.m := by
  unfold fixT
  split <;> rfl
set_option maxRecDepth 100000 in
set_option maxHeartbeats 64000000 in
theorem PutChange_any (A : Option Addr) (n c : Nat) (l : List Ch) (x : Ch) (B : Nat) (w : World) (hl : Reads w w.heap.size 3 A n (l.flatMap encCh)) (hlr : RowsC w B l) (hB : B ≤ w.heap.size) (hx : RowK w B x.A x.n x.r) (hxn : x.n ≤ 1000) (hn : n ≤ 1000)
    (hox : okR x.r = true) (hok : ∀ y ∈ l, okR y.r = true ∧ -1000000000 ≤ y.m ∧ y.m ≤ 1000000000) (hxm : -1000000000 ≤ x.m ∧ x.m ≤ 1000000000) :
    Calls Tryz.prog 111 #[.slice A n c, .agg #[.int .i64 x.t, .slice x.A x.n x.c, .int .i64 x.m]] w (RetKc w B (putC (l.map thC) (thC x))) := by
  have hLn : l.length = n := hl.len encCh_len (by omega)
  have HLN := hide hLn
  have HOK := hide hok
  have HSM := hide (show ∀ j, -1000000000000 ≤ smT (thC x) ((l.take j).map thC) ∧ smT (thC x) ((l.take j).map thC) ≤ 1000000000000 from fun j => by
    have h1 := sm_bound (M := 1000000000) (by omega) (thC x) (l := (l.take j).map thC) fun y hy => by
      obtain ⟨z, hz, rfl⟩ := List.mem_map.1 hy
      exact (hok z (List.mem_of_mem_take hz)).2
    have h2 : ((l.take j).map thC).length ≤ 1000 := by rw [List.length_map, List.length_take]; omega
    omega)
  obtain ⟨D, hD⟩ : ∃ D, putC (l.map thC) (thC x) = D := ⟨_, rfl⟩
  rw [hD]
  have HD := hide hD
  clear hD hok hLn
  have hB0 := below_val (w := w) #[.int .i64 x.t, .slice x.A x.n x.c, .int .i64 x.m] 57
  have kz := Blk.new w 57 #[.int .i64 x.t, .slice x.A x.n x.c, .int .i64 x.m]
  have hs0 : (w.alloc (.cells #[.int .i64 x.t, .slice x.A x.n x.c, .int .i64 x.m] 57)).heap.size = w.heap.size + 1 := World.size_alloc _ _
  go_enter Tryz.func111, Tryz.ntmps111
  go_upto_region 1 with fail
  obtain ⟨W, hW⟩ : ∃ W, w.alloc (.cells #[.int .i64 x.t, .slice x.A x.n x.c, .int .i64 x.m] 57) = W := ⟨_, rfl⟩
  obtain ⟨zb, hzb⟩ : ∃ zb, w.heap.size = zb := ⟨_, rfl⟩
  rw [hW] at hB0 kz hs0 ⊢
  rw [hzb] at kz hs0 ⊢
  clear hW
  go_wp2_with fail
  go_loopw [5, 6, 7, 8] (fun vo vd i _ wr => ∃ (j : Nat) (N : Int) (d : Bool) (Ao : Option Addr) (co : Nat) (lo : List Ch), j ≤ n ∧ i = .int .i64 j ∧ vo = .slice Ao lo.length co ∧ vd = .bool d ∧ Pc1 (thC x) ((l.take j).map thC) N d (lo.map thC) ∧ lo.length ≤ j + 1 ∧ (∀ y ∈ lo, okR y.r = true) ∧
    wr.ownsRow W.heap.size 57 3 (.slice Ao lo.length co) lo.length (lo.flatMap encCh) ∧ RowsC wr B lo ∧ Blk wr zb 57 #[.int .i64 x.t, .slice x.A x.n x.c, .int .i64 N] ∧ Below w.heap.size w wr ∧ W.heap.size ≤ wr.heap.size) (fun _ _ i _ _ => n - (intOf i).toNat)
  case atStart => exact ⟨0, x.m, false, none, 0, [], Nat.zero_le _, rfl, rfl, rfl, Pc1.nil (thC x), Nat.zero_le _, nofun, World.ownsRow_nil _ _ _ _, (by intro i hi; cases hi), kz, hB0, Nat.le_refl _⟩
  case round =>
    clear kz hB0
    obtain ⟨j, N, d, Ao, co, lo, hj, rfl, rfl, rfl, hP, hlo, hlok, hown, hrows, kz, hBr, hWr⟩ := hrel
    have hNb : -1001000000000 ≤ N ∧ N ≤ 1001000000000 := by have h1 := hP.n; have h2 := HSM.out j; have h3 : (thC x).m = x.m := rfl; omega
    have HP := hide hP
    have HLOK := hide hlok
    clear hP hlok
    have b0 : wr.cell? ⟨zb, 0, none⟩ = some (.int .i64 x.t) := by simpa using kz.cell 0
    have b1 : wr.cell? ⟨zb, 1, none⟩ = some (.slice x.A x.n x.c) := by simpa using kz.cell 1
    have b2 : wr.cell? ⟨zb, 2, none⟩ = some (.int .i64 N) := by simpa using kz.cell 2
    by_cases hlt : j < n
    · have hlR := hl.up hBr
      obtain ⟨bq, oq, y, hA, hbl, hyl, hyc⟩ := hlR.elem encCh_len HLN.out hlt
      have hyin := List.mem_of_getElem? hyl
      have hyr := (hlr y hyin).below hBr
      have HYR := hide hyr
      have hyo := HOK.out y hyin
      have HYO := hide hyo.1
      have hyx := HSM.out (j + 1)
      have hw9 : IntKind.i64.wrap (N + y.m) = N + y.m := by rw [IntKind.wrap_i64]; omega
      have HTM := hide (take_map hyl)
      have e0 : wr.cell? ⟨bq, oq + j * 3, none⟩ = some (.int .i64 y.t) := by simpa using hyc 0 _ rfl
      have e1 : wr.cell? ⟨bq, oq + j * 3 + 1, none⟩ = some (.slice y.A y.n y.c) := by simpa [Nat.add_assoc] using hyc 1 _ rfl
      have e2 : wr.cell? ⟨bq, oq + j * 3 + 2, none⟩ = some (.int .i64 y.m) := by simpa [Nat.add_assoc] using hyc 2 _ rfl
      have HSC := hide (same_cmp (x := thC y) (c := thC x) hyo.1 hox)
      have HLT := hide (cmp_lt (c := thC x) (x := thC y))
      have hqz : bq ≠ zb := by
        rintro rfl
        obtain ⟨b', off', h1, h2, _⟩ := hl.2 (by omega)
        rw [h1] at hA
        injection hA with hA
        injection hA with hA1
        omega
      have q1 : (0 : Int) ≤ (j : Int) := by omega
      have q2 : (j : Int) < (n : Int) := by omega
      have p1 := fun (p : BW wr) => BW.cell (a := ⟨bq, oq + j * 3 + 1, none⟩) hbl e1 p
      have p3 := fun (p : BW wr) => BW.cell (a := ⟨zb, 1, none⟩) kz.lt b1 p
      have hxr := hx.below hBr
      have HXR := hide hxr
      have hwr := hBr.size
      have hBw := Nat.le_trans hB hwr
      have HC1 := hide (fun (p : BW wr) => calls_bw (p := p) (R2Compare_any x.A x.n x.c x.r y.A y.n y.c y.r p.x (((hxr.mono hBw).below p.h).rd.up (Below.refl _ _)) (((hyr.mono hBw).below p.h).rd.up (Below.refl _ _)) hxr.le))
      obtain ⟨cc, hcc⟩ : ∃ cc, cmpR x.r y.r = cc := ⟨_, rfl⟩
      rw [hcc] at HC1
      rw [show cmpR (thC x).r (thC y).r = cc from hcc] at HSC HLT
      replace HSC := hide (show sameT (thC y) (thC x) = (decide (cc = 0) && decide (x.t = y.t)) from HSC.out)
      replace HLT := hide (show cmpT (thC x) (thC y) < 0 ↔ cc < 0 ∨ (cc = 0 ∧ x.t < y.t) from HLT.out)
      subst hA
      clear hcc hxr hyr hlR hyc hyl hyin
      go_wp2_with fail
      (refine wp_region_quiet_bw (by kernel_rfl) (by kernel_rfl) ?_
       repeat (first | go_big_quiet_step (((go_at_call 106; exact HC1.out _))) | quiet_step (((go_at_call 106; exact HC1.out _))))
       refine wpQuiet_nil ?_
       intro wq hw'
       obtain ⟨⟨_, hbq⟩, hw''⟩ := hw'
       subst hw'')
      obtain ⟨V, hV⟩ : ∃ V : World, V = wq := ⟨_, rfl⟩
      subst hV
      have hB3 := bstep hBr hbq
      have kz3 := kz.below hbq kz.lt
      have hown3 := own_below hown hbq
      have hrows3 : RowsC V B lo := fun i hi => (hrows i hi).below hbq
      have hyr3 := HYR.out.below hbq
      have hxr3 := HXR.out.below hbq
      have f0 := (hbq.cell (p := ⟨bq, oq + j * 3, none⟩) hbl).trans e0
      have f1 := (hbq.cell (p := ⟨bq, oq + j * 3 + 1, none⟩) hbl).trans e1
      have f2 := (hbq.cell (p := ⟨bq, oq + j * 3 + 2, none⟩) hbl).trans e2
      have b0 : V.cell? ⟨zb, 0, none⟩ = some (.int .i64 x.t) := by simpa using kz3.cell 0
      have b1 : V.cell? ⟨zb, 1, none⟩ = some (.slice x.A x.n x.c) := by simpa using kz3.cell 1
      have b2 : V.cell? ⟨zb, 2, none⟩ = some (.int .i64 N) := by simpa using kz3.cell 2
      have hblV : bq < V.heap.size := Nat.lt_of_lt_of_le hbl hbq.size
      have hWq := Nat.le_trans hWr hbq.size
      clear hbq hBr p1 p3 HC1 hown hrows kz e0 e1 e2 hWr hwr hBw HYR HXR hbl
      have p0 := fun (p : BW V) => BW.cell (a := ⟨bq, oq + j * 3, none⟩) hblV f0 p
      have p2 := fun (p : BW V) => BW.cell (a := ⟨zb, 0, none⟩) kz3.lt b0 p
      go_upto_region 7 with fail
      go_cut [37] from 12 to 77 (fun s37 wx => s37 = .bool (sameT (thC y) (thC x)) ∧ Below V.heap.size V wx)
      case first =>
        clear hB3 kz3 hown3 hrows3 hyr3 hxr3
        by_cases c1 : cc = 0
        · have d1 : (cc == 0) = true := by simpa using c1
          by_cases c2 : x.t = y.t
          · have d2 : (x.t == y.t) = true := by simpa using c2
            have HS0 := hide (show sameT (thC y) (thC x) = true from by rw [HSC.out]; simp [c1, c2])
            clear c2
            (refine wp_region_quiet_bw (by kernel_rfl) (by kernel_rfl) ?_
             repeat (first | go_big_quiet_step ((fail)) | quiet_step ((fail)))
             refine wpQuiet_nil ?_
             intro wq hw'
             obtain ⟨⟨_, hbq⟩, hw''⟩ := hw'
             subst hw'')
            have HBQ := hide hbq
            clear hbq
            go_wp2_with fail
            go_meet
            case rel => exact ⟨by rw [HS0.out], HBQ.out⟩
          · have d2 : (x.t == y.t) = false := by simpa using c2
            have HS0 := hide (show sameT (thC y) (thC x) = false from by rw [HSC.out]; simp [c2])
            clear c2
            (refine wp_region_quiet_bw (by kernel_rfl) (by kernel_rfl) ?_
             repeat (first | go_big_quiet_step ((fail)) | quiet_step ((fail)))
             refine wpQuiet_nil ?_
             intro wq hw'
             obtain ⟨⟨_, hbq⟩, hw''⟩ := hw'
             subst hw'')
            have HBQ := hide hbq
            clear hbq
            go_wp2_with fail
            go_meet
            case rel => exact ⟨by rw [HS0.out], HBQ.out⟩
        · have d1 : (cc == 0) = false := by simpa using c1
          have HS0 := hide (show sameT (thC y) (thC x) = false from by rw [HSC.out]; simp [c1])
          clear c1
          (refine wp_region_quiet_bw (by kernel_rfl) (by kernel_rfl) ?_
           repeat (first | go_big_quiet_step ((fail)) | quiet_step ((fail)))
           refine wpQuiet_nil ?_
           intro wq hw'
           obtain ⟨⟨_, hbq⟩, hw''⟩ := hw'
           subst hw'')
          have HBQ := hide hbq
          clear hbq
          go_wp2_with fail
          go_meet
          case rel => exact ⟨by rw [HS0.out], HBQ.out⟩
      case rest =>
        obtain ⟨rfl, hbq⟩ := hcut
        obtain ⟨V2, hV⟩ : ∃ V : World, V = wc := ⟨_, rfl⟩
        subst hV
        have hB4 := bstep hB3 hbq
        have kz4 := kz3.below hbq kz3.lt
        have hown4 := own_below hown3 hbq
        have hrows4 : RowsC V2 B lo := fun i hi => (hrows3 i hi).below hbq
        have hyr4 := hyr3.below hbq
        have hxr4 := hxr3.below hbq
        have f0 := (hbq.cell (p := ⟨bq, oq + j * 3, none⟩) hblV).trans f0
        have f1 := (hbq.cell (p := ⟨bq, oq + j * 3 + 1, none⟩) hblV).trans f1
        have f2 := (hbq.cell (p := ⟨bq, oq + j * 3 + 2, none⟩) hblV).trans f2
        have hblV := Nat.lt_of_lt_of_le hblV hbq.size
        have b0 : V2.cell? ⟨zb, 0, none⟩ = some (.int .i64 x.t) := by simpa using kz4.cell 0
        have b1 : V2.cell? ⟨zb, 1, none⟩ = some (.slice x.A x.n x.c) := by simpa using kz4.cell 1
        have b2 : V2.cell? ⟨zb, 2, none⟩ = some (.int .i64 N) := by simpa using kz4.cell 2
        have hWq := Nat.le_trans hWq hbq.size
        clear hbq p0 p2 hB3 kz3 hown3 hrows3 hyr3 hxr3
        cases hsm : sameT (thC y) (thC x)
        case true =>
          have HS0 := hide hsm
          clear hsm HSC HLT
          have hpc := HP.out.same HS0.out
          rw [← HTM.out] at hpc
          have HPC := hide (show Pc1 (thC x) ((l.take (j + 1)).map thC) (N + y.m) d (lo.map thC) from hpc)
          clear hpc
          go_upto_region 8 with fail
          refine Held.begin (fun z => z.cell? ⟨zb, 2, none⟩ = some (.int .i64 N) ∧ z.cell? ⟨bq, oq + j * 3 + 2, none⟩ = some (.int .i64 y.m)) 9 (by kernel_rfl) ?_
          have hbd := (Below.refl V2.heap.size V2).drew
          obtain ⟨X1, hXe⟩ : ∃ X1, V2.drew = X1 := ⟨_, rfl⟩
          rw [hXe] at hbd ⊢
          have kz5 := kz4.below hbd kz4.lt
          have hown5 := own_below hown4 hbd
          have hrows5 : RowsC X1 B lo := fun i hi => (hrows4 i hi).below hbd
          have hB5 := bstep hB4 hbd
          have hS : X1.cell? ⟨zb, 2, none⟩ = some (.int .i64 N) ∧ X1.cell? ⟨bq, oq + j * 3 + 2, none⟩ = some (.int .i64 y.m) := ⟨by simpa using kz5.cell 2, (hbd.cell hblV).trans f2⟩
          have hWx := Nat.le_trans hWq hbd.size
          clear hXe hbd hB4 kz4 hown4 hrows4 f0 f1 f2 hyr4 hxr4 b0 b1 b2
          refine Held.take (i := 0) (.pointer (some ⟨zb, 2, none⟩)) rfl hS (by kernel_rfl) (by kernel_rfl) (by kernel_rfl) (by kernel_rfl) (fun _ _ _ h => h) rfl (fun y hy => by obtain ⟨x1, x2⟩ := hy; go_simp) ?_
          try simp only [Act.put]
          refine Held.take (i := 1) (.int .i64 N) rfl hS (by kernel_rfl) (by kernel_rfl) (by kernel_rfl) (by kernel_rfl) (fun _ _ _ h => h) rfl (fun y hy => by obtain ⟨x1, x2⟩ := hy; go_simp) ?_
          try simp only [Act.put]
          refine Held.take (i := 2) (.slice (some ⟨bq, oq, none⟩) n c) rfl hS (by kernel_rfl) (by kernel_rfl) (by kernel_rfl) (by kernel_rfl) (fun _ _ _ h => h) rfl (fun y hy => by obtain ⟨x1, x2⟩ := hy; go_simp) ?_
          try simp only [Act.put]
          refine Held.take (i := 3) (.int .i64 (j : Int)) rfl hS (by kernel_rfl) (by kernel_rfl) (by kernel_rfl) (by kernel_rfl) (fun _ _ _ h => h) rfl (fun y hy => by obtain ⟨x1, x2⟩ := hy; go_simp) ?_
          try simp only [Act.put]
          refine Held.take (i := 4) (.pointer (some ⟨bq, oq + j * 3, none⟩)) rfl hS (by kernel_rfl) (by kernel_rfl) (by kernel_rfl) (by kernel_rfl) (fun _ _ _ h => h) rfl (fun y hy => by obtain ⟨x1, x2⟩ := hy; go_simp) ?_
          try simp only [Act.put]
          refine Held.take (i := 5) (.pointer (some ⟨bq, oq + j * 3 + 2, none⟩)) rfl hS (by kernel_rfl) (by kernel_rfl) (by kernel_rfl) (by kernel_rfl) (fun _ _ _ h => h) rfl (fun y hy => by obtain ⟨x1, x2⟩ := hy; go_simp) ?_
          try simp only [Act.put]
          refine Held.take (i := 6) (.int .i64 y.m) rfl hS (by kernel_rfl) (by kernel_rfl) (by kernel_rfl) (by kernel_rfl) (fun _ _ _ h => h) rfl (fun y hy => by obtain ⟨x1, x2⟩ := hy; go_simp) ?_
          try simp only [Act.put]
          refine Held.take (i := 7) (.int .i64 (N + y.m)) rfl hS (by kernel_rfl) (by kernel_rfl) (by kernel_rfl) (by kernel_rfl) (fun _ _ _ h => h) rfl (fun y hy => by obtain ⟨x1, x2⟩ := hy; go_simp) ?_
          try simp only [Act.put]
          refine Held.take (i := 8) (.pointer (some ⟨zb, 2, none⟩)) rfl hS (by kernel_rfl) (by kernel_rfl) (by kernel_rfl) (by kernel_rfl) (fun _ _ _ h => h) rfl (fun y hy => by obtain ⟨x1, x2⟩ := hy; go_simp) ?_
          try simp only [Act.put]
          have hc2 := hS.1
          have fz := kz5.frozen 2
          have HO6 := hide (show (X1.setCell ⟨zb, 2, none⟩ (.int .i64 (N + y.m))).ownsRow W.heap.size 57 3 (.slice Ao lo.length co) lo.length (lo.flatMap encCh) from own_blockU hown5 fun g hg => Below.heap_setCell _ _ _ g (by have := (hown5.lt g hg).1; show g ≠ zb; omega))
          have HR6 := hide (show RowsC (X1.setCell ⟨zb, 2, none⟩ (.int .i64 (N + y.m))) B lo from fun i hi => (hrows5 i hi).keep (p := fun k => k = zb) (fun k _ hne => Below.heap_setCell _ _ _ k hne) (by simp [World.setCell]) fun k hk => ⟨by omega, by subst hk; exact blk_not kz5 (by decide)⟩)
          have HK6 := hide (show Blk (X1.setCell ⟨zb, 2, none⟩ (.int .i64 (N + y.m))) zb 57 #[.int .i64 x.t, .slice x.A x.n x.c, .int .i64 (N + y.m)] from by simpa using kz5.set_ 2 (.int .i64 (N + y.m)))
          have HB6 := hide (show Below w.heap.size w (X1.setCell ⟨zb, 2, none⟩ (.int .i64 (N + y.m))) from hB5.setCell (by show w.heap.size ≤ zb; omega) _)
          have HW6 := hide (show W.heap.size ≤ (X1.setCell ⟨zb, 2, none⟩ (.int .i64 (N + y.m))).heap.size from by simpa [World.setCell] using hWx)
          clear hown5 hrows5 hB5
          refine Held.one (i := 9) rfl (by kernel_rfl) rfl (fun K hK => ?_)
          unfold Oper.wp
          go_simp
          refine hK _ _ (fun h => absurd rfl h) ?_
          try simp only [Act.put]
          clear hK K hS hc2 fz kz5
          refine Held.done (by kernel_rfl) ?_
          go_wp2_with fail
          go_roundw
          case rel => exact ⟨j + 1, N + y.m, d, Ao, co, lo, by omega, by go_num, rfl, rfl, HPC.out, by omega, HLOK.out, HO6.out, HR6.out, HK6.out, HB6.out, HW6.out⟩
          case measure => first | (simp [intOf]; done) | (simp [intOf]; omega)
        case false =>
          have HS0 := hide hsm
          clear hsm HSC
          have p0 := fun (p : BW V2) => BW.cell (a := ⟨bq, oq + j * 3, none⟩) hblV f0 p
          have p2 := fun (p : BW V2) => BW.cell (a := ⟨zb, 0, none⟩) kz4.lt b0 p
          go_upto_region 9 with fail
          go_cut [66] from 12 to 77 (fun s66 wx => s66 = .bool (!d && decide (cmpT (thC x) (thC y) < 0)) ∧ Below V2.heap.size V2 wx)
          case first =>
            clear hB4 kz4 hown4 hrows4 hyr4 hxr4
            cases d
            case true =>
              (refine wp_region_quiet_bw (by kernel_rfl) (by kernel_rfl) ?_
               repeat (first | go_big_quiet_step ((fail)) | quiet_step ((fail)))
               refine wpQuiet_nil ?_
               intro wq hw'
               obtain ⟨⟨_, hbq⟩, hw''⟩ := hw'
               subst hw'')
              have HBQ := hide hbq
              clear hbq
              go_wp2_with fail
              go_meet
              case rel => exact ⟨rfl, HBQ.out⟩
            case false =>
              by_cases c3 : cc < 0
              · have d3 : decide (cc < 0) = true := decide_eq_true c3
                have HD3 := hide (show decide (cmpT (thC x) (thC y) < 0) = true from decide_eq_true (HLT.out.2 (.inl c3)))
                clear c3
                (refine wp_region_quiet_bw (by kernel_rfl) (by kernel_rfl) ?_
                 repeat (first | go_big_quiet_step ((fail)) | quiet_step ((fail)))
                 refine wpQuiet_nil ?_
                 intro wq hw'
                 obtain ⟨⟨_, hbq⟩, hw''⟩ := hw'
                 subst hw'')
                have HBQ := hide hbq
                clear hbq
                go_wp2_with fail
                go_meet
                case rel => exact ⟨by rw [HD3.out]; rfl, HBQ.out⟩
              · have d3 : decide (cc < 0) = false := decide_eq_false c3
                by_cases c1 : cc = 0
                · have d1 : (cc == 0) = true := by simpa using c1
                  by_cases c4 : x.t < y.t
                  · have d4 : decide (x.t < y.t) = true := decide_eq_true c4
                    have HD3 := hide (show decide (cmpT (thC x) (thC y) < 0) = true from decide_eq_true (HLT.out.2 (.inr ⟨c1, c4⟩)))
                    clear c3 c1 c4
                    (refine wp_region_quiet_bw (by kernel_rfl) (by kernel_rfl) ?_
                     repeat (first | go_big_quiet_step ((fail)) | quiet_step ((fail)))
                     refine wpQuiet_nil ?_
                     intro wq hw'
                     obtain ⟨⟨_, hbq⟩, hw''⟩ := hw'
                     subst hw'')
                    have HBQ := hide hbq
                    clear hbq
                    go_wp2_with fail
                    go_meet
                    case rel => exact ⟨by rw [HD3.out]; rfl, HBQ.out⟩
                  · have d4 : decide (x.t < y.t) = false := decide_eq_false c4
                    have HD3 := hide (show decide (cmpT (thC x) (thC y) < 0) = false from decide_eq_false fun h => by rcases HLT.out.1 h with h | h <;> omega)
                    clear c3 c1 c4
                    (refine wp_region_quiet_bw (by kernel_rfl) (by kernel_rfl) ?_
                     repeat (first | go_big_quiet_step ((fail)) | quiet_step ((fail)))
                     refine wpQuiet_nil ?_
                     intro wq hw'
                     obtain ⟨⟨_, hbq⟩, hw''⟩ := hw'
                     subst hw'')
                    have HBQ := hide hbq
                    clear hbq
                    go_wp2_with fail
                    go_meet
                    case rel => exact ⟨by rw [HD3.out]; rfl, HBQ.out⟩
                · have d1 : (cc == 0) = false := by simpa using c1
                  have HD3 := hide (show decide (cmpT (thC x) (thC y) < 0) = false from decide_eq_false fun h => by rcases HLT.out.1 h with h | h <;> omega)
                  clear c3 c1
                  (refine wp_region_quiet_bw (by kernel_rfl) (by kernel_rfl) ?_
                   repeat (first | go_big_quiet_step ((fail)) | quiet_step ((fail)))
                   refine wpQuiet_nil ?_
                   intro wq hw'
                   obtain ⟨⟨_, hbq⟩, hw''⟩ := hw'
                   subst hw'')
                  have HBQ := hide hbq
                  clear hbq
                  go_wp2_with fail
                  go_meet
                  case rel => exact ⟨by rw [HD3.out]; rfl, HBQ.out⟩
          case rest =>
            obtain ⟨rfl, hbq⟩ := hcut
            obtain ⟨V3, hV⟩ : ∃ V : World, V = wc := ⟨_, rfl⟩
            subst hV
            have hB5 := bstep hB4 hbq
            have kz5 := kz4.below hbq kz4.lt
            have hown5 := own_below hown4 hbq
            have hrows5 : RowsC V3 B lo := fun i hi => (hrows4 i hi).below hbq
            have hyr5 := hyr4.below hbq
            have hxr5 := hxr4.below hbq
            have f0 := (hbq.cell (p := ⟨bq, oq + j * 3, none⟩) hblV).trans f0
            have f1 := (hbq.cell (p := ⟨bq, oq + j * 3 + 1, none⟩) hblV).trans f1
            have f2 := (hbq.cell (p := ⟨bq, oq + j * 3 + 2, none⟩) hblV).trans f2
            have hblV := Nat.lt_of_lt_of_le hblV hbq.size
            have b0 : V3.cell? ⟨zb, 0, none⟩ = some (.int .i64 x.t) := by simpa using kz5.cell 0
            have b1 : V3.cell? ⟨zb, 1, none⟩ = some (.slice x.A x.n x.c) := by simpa using kz5.cell 1
            have b2 : V3.cell? ⟨zb, 2, none⟩ = some (.int .i64 N) := by simpa using kz5.cell 2
            have hWq := Nat.le_trans hWq hbq.size
            clear hbq p0 p2 hB4 kz4 hown4 hrows4 hyr4 hxr4
            by_cases hin : d = false ∧ cmpT (thC x) (thC y) < 0
            · obtain ⟨rfl, hcl⟩ := hin
              have HCL := hide hcl
              rw [show (!false && decide (cmpT (thC x) (thC y) < 0)) = true from by rw [decide_eq_true hcl]; rfl]
              clear hcl
              have hlo2 : lo.length ≤ j := by have h5 := HP.out.len0; rw [List.length_map, List.length_map, List.length_take] at h5; omega
              have hpc := HP.out.here HS0.out HCL.out
              rw [← HTM.out] at hpc
              have HPC := hide hpc
              obtain ⟨A6, c6, X6, hrun, hown6, hrows6, hblk6, hb6⟩ := oc_app ⟨x.t, x.A, x.n, x.c, x.r, N⟩ hown5 hrows5 hxr5 hWq (by omega) (by omega)
              have hlen6 : (lo ++ [(⟨x.t, x.A, x.n, x.c, x.r, N⟩ : Ch)]).length = lo.length + 1 := by simp
              rw [hlen6] at hown6
              have kz6 : Blk X6 zb 57 #[.int .i64 x.t, .slice x.A x.n x.c, .int .i64 N] := (hblk6 zb kz5.lt fun e => by have := (hown5.lt zb e).1; omega).trans kz5
              have hB6 : Below w.heap.size w X6 := hB5.trans (hb6.mono (by omega))
              have hW6 : W.heap.size ≤ X6.heap.size := Nat.le_trans hWq hb6.size
              have hq6 : bq < W.heap.size := by
                obtain ⟨b', off', h1, h2, _⟩ := hl.2 (by omega)
                injection h1 with h1
                injection h1 with h1
                have h3 : bq = b' := h1
                omega
              have hg6 := hblk6 bq hblV fun e => by have := (hown5.lt bq e).1; omega
              have g0 := (World.cell?_of_block (a := ⟨bq, oq + j * 3, none⟩) hg6).trans f0
              have g1 := (World.cell?_of_block (a := ⟨bq, oq + j * 3 + 1, none⟩) hg6).trans f1
              have g2 := (World.cell?_of_block (a := ⟨bq, oq + j * 3 + 2, none⟩) hg6).trans f2
              have hyr6 : RowK X6 B y.A y.n y.r := (hyr5.keep (p := fun k => (Value.slice Ao lo.length co).ownBlock = some k) (fun k hk hne => hblk6 k hk hne) hb6.size fun k hk => ⟨by have := (hown5.lt k hk).1; omega, (own_not hown5 (by decide) k (by unfold obl; rw [hk]; simp)).2⟩)
              clear hown5 hrows5 kz5 hB5 hyr5 hxr5 hblk6 hb6 hpc f0 f1 f2 hg6
              obtain ⟨A', c', X', hrun2, hown7, hrows7, hblk7, hb7⟩ := oc_app (lo := lo ++ [(⟨x.t, x.A, x.n, x.c, x.r, N⟩ : Ch)]) y (by rw [hlen6]; exact hown6) hrows6 hyr6 hW6 (by omega) (by omega)
              rw [hlen6] at hrun2
              have hlen7 : (lo ++ [(⟨x.t, x.A, x.n, x.c, x.r, N⟩ : Ch)] ++ [y]).length = lo.length + 1 + 1 := by simp
              rw [hlen7, hlen6] at hown7
              have HP7 := hide (show Pc1 (thC x) ((l.take (j + 1)).map thC) N true ((lo ++ [(⟨x.t, x.A, x.n, x.c, x.r, N⟩ : Ch)] ++ [y]).map thC) from by
                have h5 := HPC.out
                rw [List.map_append, List.map_append, List.append_assoc]
                exact h5)
              have HL7 := hide (show ∀ z ∈ lo ++ [(⟨x.t, x.A, x.n, x.c, x.r, N⟩ : Ch)] ++ [y], okR z.r = true from fun z hz => by
                rcases List.mem_append.1 hz with hz | hz
                · rcases List.mem_append.1 hz with hz | hz
                  · exact HLOK.out z hz
                  · obtain rfl : z = ⟨x.t, x.A, x.n, x.c, x.r, N⟩ := by simpa using hz
                    exact hox
                · obtain rfl : z = y := by simpa using hz
                  exact HYO.out)
              have HO7 := hide hown7
              have HR7 := hide hrows7
              have HK7 := hide (show Blk X' zb 57 #[.int .i64 x.t, .slice x.A x.n x.c, .int .i64 N] from (hblk7 zb kz6.lt fun e => by rw [hlen6] at e; have := (hown6.lt zb e).1; omega).trans kz6)
              have HB7 := hide (show Below w.heap.size w X' from hB6.trans (hb7.mono (by omega)))
              have HW7 := hide (show W.heap.size ≤ X'.heap.size from Nat.le_trans hW6 hb7.size)
              clear hown6 hrows6 kz6 hB6 hyr6 hown7 hrows7 hblk7 hb7
              go_wp2_with (at_builtin; first | (refine wpList_append_is rfl _ _ 67 rfl rfl rfl rfl hrun ?_) | (refine wpList_append_is rfl _ _ 67 rfl rfl rfl rfl hrun2 ?_))
              go_roundw
              case rel => exact ⟨j + 1, N, true, A', c', lo ++ [(⟨x.t, x.A, x.n, x.c, x.r, N⟩ : Ch)] ++ [y], by omega, by go_num, by rw [hlen7], rfl, HP7.out, by rw [hlen7]; omega, HL7.out, by rw [hlen7]; exact HO7.out, HR7.out, HK7.out, HB7.out, HW7.out⟩
              case measure => first | (simp [intOf]; done) | (simp [intOf]; omega)
            · have HFAR := hide (show d = true ∨ ¬ cmpT (thC x) (thC y) < 0 from by
                cases d
                · exact .inr fun h => hin ⟨rfl, h⟩
                · exact .inl rfl)
              rw [show (!d && decide (cmpT (thC x) (thC y) < 0)) = false from by
                rcases HFAR.out with h | h
                · rw [h]; rfl
                · rw [decide_eq_false h]; simp]
              clear hin
              have hpc := HP.out.far HS0.out HFAR.out
              rw [← HTM.out] at hpc
              have HPC := hide hpc
              obtain ⟨A', c', X', hrun, hown6, hrows6, hblk6, hb6⟩ := oc_app y hown5 hrows5 hyr5 hWq (by omega) (by omega)
              have hlen : (lo ++ [y]).length = lo.length + 1 := by simp
              rw [hlen] at hown6
              have HP6 := hide (show Pc1 (thC x) ((l.take (j + 1)).map thC) N d ((lo ++ [y]).map thC) from by rw [List.map_append]; exact HPC.out)
              have HL6 := hide (show ∀ z ∈ lo ++ [y], okR z.r = true from fun z hz => by
                rcases List.mem_append.1 hz with hz | hz
                · exact HLOK.out z hz
                · obtain rfl : z = y := by simpa using hz
                  exact HYO.out)
              have HO6 := hide hown6
              have HR6 := hide hrows6
              have HK6 := hide (show Blk X' zb 57 #[.int .i64 x.t, .slice x.A x.n x.c, .int .i64 N] from (hblk6 zb kz5.lt fun e => by have := (hown5.lt zb e).1; omega).trans kz5)
              have HB6 := hide (show Below w.heap.size w X' from hB5.trans (hb6.mono (by omega)))
              have HW6 := hide (show W.heap.size ≤ X'.heap.size from Nat.le_trans hWq hb6.size)
              clear hown5 hrows5 kz5 hB5 hyr5 hxr5 hown6 hrows6 hblk6 hb6 hpc b0 b1 b2
              go_wp2_with (at_builtin; refine wpList_append_is rfl _ _ 67 rfl rfl rfl rfl hrun ?_)
              go_roundw
              case rel => exact ⟨j + 1, N, d, A', c', lo ++ [y], by omega, by go_num, by rw [hlen], rfl, HP6.out, by omega, HL6.out, by rw [hlen]; exact HO6.out, HR6.out, HK6.out, HB6.out, HW6.out⟩
              case measure => first | (simp [intOf]; done) | (simp [intOf]; omega)
    · obtain rfl : j = n := by omega
      have htk : l.take j = l := List.take_of_length_le (by rw [HLN.out]; omega)
      have HP2 := hide (show Pc1 (thC x) (l.map thC) N d (lo.map thC) from by have := HP.out; rwa [htk] at this)
      clear HP htk
      have hxr := hx.below hBr
      go_upto_if 79 with fail
      go_cut [5] from 78 to 83 (fun s5 wx => ∃ (A6 : Option Addr) (c6 : Nat) (fo : List Ch), s5 = .slice A6 fo.length c6 ∧ ((fo.map thC).map (fixT (thC x) N)).filter (fun h => decide (h.m ≠ 0)) = D ∧ fo.length ≤ 1002 ∧ (∀ z ∈ fo, okR z.r = true) ∧
        wx.ownsRow W.heap.size 57 3 (.slice A6 fo.length c6) fo.length (fo.flatMap encCh) ∧ RowsC wx B fo ∧ Blk wx zb 57 #[.int .i64 x.t, .slice x.A x.n x.c, .int .i64 N] ∧ Below w.heap.size w wx ∧ W.heap.size ≤ wx.heap.size)
      case first =>
        cases d
        case true =>
          have hpf := HP2.out.put
          unfold finO at hpf
          rw [if_pos rfl] at hpf
          have HPF := hide (hpf.trans HD.out)
          have HOF := hide hown
          have HRF := hide hrows
          have HKF := hide kz
          have HBF := hide hBr
          have HWF := hide hWr
          clear hpf hown hrows kz hBr hWr b0 b1 b2
          go_wp2_with fail
          go_meet
          case rel => exact ⟨Ao, co, lo, rfl, HPF.out, by omega, HLOK.out, HOF.out, HRF.out, HKF.out, HBF.out, HWF.out⟩
        case false =>
          have hpf := HP2.out.put
          unfold finO at hpf
          rw [if_neg (by decide)] at hpf
          obtain ⟨A6, c6, X6, hrun, hown6, hrows6, hblk6, hb6⟩ := oc_app ⟨x.t, x.A, x.n, x.c, x.r, N⟩ hown hrows hxr hWr (by omega) (by omega)
          have hlen6 : (lo ++ [(⟨x.t, x.A, x.n, x.c, x.r, N⟩ : Ch)]).length = lo.length + 1 := by simp
          rw [hlen6] at hown6
          have HPF := hide (show ((((lo ++ [(⟨x.t, x.A, x.n, x.c, x.r, N⟩ : Ch)]).map thC).map (fixT (thC x) N)).filter fun h => decide (h.m ≠ 0)) = D from by
            rw [List.map_append]
            exact hpf.trans HD.out)
          have HLL := hide (show ∀ z ∈ lo ++ [(⟨x.t, x.A, x.n, x.c, x.r, N⟩ : Ch)], okR z.r = true from fun z hz => by
            rcases List.mem_append.1 hz with hz | hz
            · exact HLOK.out z hz
            · obtain rfl : z = ⟨x.t, x.A, x.n, x.c, x.r, N⟩ := by simpa using hz
              exact hox)
          have HOF := hide hown6
          have HRF := hide hrows6
          have HKF := hide (show Blk X6 zb 57 #[.int .i64 x.t, .slice x.A x.n x.c, .int .i64 N] from (hblk6 zb kz.lt fun e => by have := (hown.lt zb e).1; omega).trans kz)
          have HBF := hide (show Below w.heap.size w X6 from hBr.trans (hb6.mono (by omega)))
          have HWF := hide (show W.heap.size ≤ X6.heap.size from Nat.le_trans hWr hb6.size)
          clear hpf hown hrows kz hBr hWr hown6 hrows6 hblk6 hb6
          go_wp2_with (at_builtin; refine wpList_append_is rfl _ _ 67 rfl rfl rfl rfl hrun ?_)
          go_meet
          case rel => exact ⟨A6, c6, _, by rw [hlen6], HPF.out, by omega, HLL.out, by rw [hlen6]; exact HOF.out, HRF.out, HKF.out, HBF.out, HWF.out⟩
      case rest =>
        clear hown hrows kz hBr hWr b0 b1 b2 HP2 HLOK hlo hxr
        obtain ⟨A6, c6, fo, rfl, hfn, hfl, hfk, hof, hrf, hkf, hbf, hwf⟩ := hcut
        obtain ⟨W8, hW8⟩ : ∃ V : World, V = wc := ⟨_, rfl⟩
        subst hW8
        have HFN := hide hfn
        have HFK := hide hfk
        have HOF := hide hof
        have HRF := hide hrf
        have HKF := hide hkf
        have HBF := hide hbf
        have HWF := hide hwf
        clear hfn hfk hof hrf hkf hbf hwf
        obtain ⟨nn, hnn⟩ : ∃ nn, fo.length = nn := ⟨_, rfl⟩
        have HFL := hide hnn
        rw [hnn] at HOF hfl ⊢
        clear hnn
        go_wp2_with fail
        go_loopw [9, 10, 11] (fun vo i _ wr => ∃ (k : Nat) (Ar : Option Addr) (cr : Nat) (lr : List Ch), k ≤ nn ∧ i = .int .i64 k ∧ vo = .slice Ar lr.length cr ∧ lr.map thC = (((fo.take k).map thC).map (fixT (thC x) N)).filter (fun h => decide (h.m ≠ 0)) ∧ lr.length ≤ k ∧
          wr.ownsRow W8.heap.size 57 3 (.slice Ar lr.length cr) lr.length (lr.flatMap encCh) ∧ RowsC wr B lr ∧ Below W8.heap.size W8 wr) (fun _ i _ _ => nn - (intOf i).toNat)
        case atStart => exact ⟨0, none, 0, [], Nat.zero_le _, rfl, rfl, rfl, Nat.zero_le _, World.ownsRow_nil _ _ _ _, (by intro i hi; cases hi), Below.refl _ _⟩
        case round =>
          obtain ⟨k, Ar, cr, lr, hk, rfl, rfl, hlr2, hlk, hown, hrows, hBw⟩ := hrel
          have HLR := hide hlr2
          clear hlr2
          by_cases hkl : k < nn
          · have hown0 := own_below HOF.out hBw
            obtain ⟨bq, oq, y, hA, hbl, hyl, hyc⟩ := (Reads.of_own hown0).elem encCh_len HFL.out hkl
            have hyin := List.mem_of_getElem? hyl
            have hyr := (HRF.out y hyin).below hBw
            have hyo := HFK.out y hyin
            have HTM := hide (take_map hyl)
            have HYR := hide hyr
            have kzr := HKF.out.below hBw HKF.out.lt
            have e0 : wr.cell? ⟨bq, oq + k * 3, none⟩ = some (.int .i64 y.t) := by simpa using hyc 0 _ rfl
            have e1 : wr.cell? ⟨bq, oq + k * 3 + 1, none⟩ = some (.slice y.A y.n y.c) := by simpa [Nat.add_assoc] using hyc 1 _ rfl
            have e2 : wr.cell? ⟨bq, oq + k * 3 + 2, none⟩ = some (.int .i64 y.m) := by simpa [Nat.add_assoc] using hyc 2 _ rfl
            have b0 : wr.cell? ⟨zb, 0, none⟩ = some (.int .i64 x.t) := by simpa using kzr.cell 0
            have b1 : wr.cell? ⟨zb, 1, none⟩ = some (.slice x.A x.n x.c) := by simpa using kzr.cell 1
            have b2 : wr.cell? ⟨zb, 2, none⟩ = some (.int .i64 N) := by simpa using kzr.cell 2
            have hsc := same_cmp (x := thC y) (c := thC x) hyo hox
            have q1 : (0 : Int) ≤ (k : Int) := by omega
            have q2 : (k : Int) < (nn : Int) := by omega
            have p0 := fun (p : BW wr) => BW.cell (a := ⟨bq, oq + k * 3, none⟩) hbl e0 p
            have p1 := fun (p : BW wr) => BW.cell (a := ⟨bq, oq + k * 3 + 1, none⟩) hbl e1 p
            have p2 := fun (p : BW wr) => BW.cell (a := ⟨zb, 0, none⟩) kzr.lt b0 p
            have p3 := fun (p : BW wr) => BW.cell (a := ⟨zb, 1, none⟩) kzr.lt b1 p
            have hBt := HBF.out.trans (hBw.mono (by have := HBF.out.size; omega))
            have hxr := hx.below hBt
            have hwr := hBt.size
            have hBw9 := Nat.le_trans hB hwr
            have HC1 := hide (fun (p : BW wr) => calls_bw (p := p) (R2Compare_any y.A y.n y.c y.r x.A x.n x.c x.r p.x (((hyr.mono hBw9).below p.h).rd.up (Below.refl _ _)) (((hxr.mono hBw9).below p.h).rd.up (Below.refl _ _)) hyr.le))
            obtain ⟨cc, hcc⟩ : ∃ cc, cmpR y.r x.r = cc := ⟨_, rfl⟩
            rw [hcc] at HC1
            have HSC := hide (show sameT (thC y) (thC x) = (decide (y.t = x.t) && decide (cc = 0)) by
              rw [hsc, ← hcc]
              have h1 := Tot.row.anti x.r y.r
              show (decide (cmpR x.r y.r = 0) && decide (x.t = y.t)) = _
              rw [Bool.and_comm]
              congr 1
              · exact decide_eq_decide.2 ⟨Eq.symm, Eq.symm⟩
              · exact decide_eq_decide.2 ⟨fun h => by omega, fun h => by omega⟩)
            obtain ⟨v9, hv9⟩ : ∃ v, (fixT (thC x) N (thC y)).m = v := ⟨_, rfl⟩
            have HV9 := hide hv9
            subst hA
            clear hsc hcc hxr hyr hyc hyl hyin hown0 hwr hBw9 hBt hv9
            have HBW := hide hBw
            go_upto_region 20 with fail
            go_cut [113] from 84 to 132 (fun s113 wx => s113 = .bool (sameT (thC y) (thC x)) ∧ Below wr.heap.size wr wx)
            case first =>
              clear hBw hown hrows
              by_cases c1 : y.t = x.t
              · have d1 : (y.t == x.t) = true := by simpa using c1
                by_cases c2 : cc = 0
                · have d2 : (cc == 0) = true := by simpa using c2
                  have HS0 := hide (show sameT (thC y) (thC x) = true from by rw [HSC.out]; simp [c1, c2])
                  clear c1 c2
                  (refine wp_region_quiet_bw (by kernel_rfl) (by kernel_rfl) ?_
                   repeat (first | go_big_quiet_step (((go_at_call 106; exact HC1.out _))) | quiet_step (((go_at_call 106; exact HC1.out _))))
                   refine wpQuiet_nil ?_
                   intro wq hw'
                   obtain ⟨⟨_, hbq⟩, hw''⟩ := hw'
                   subst hw'')
                  have HBQ := hide hbq
                  clear hbq
                  go_wp2_with fail
                  go_meet
                  case rel => exact ⟨by rw [HS0.out], HBQ.out⟩
                · have d2 : (cc == 0) = false := by simpa using c2
                  have HS0 := hide (show sameT (thC y) (thC x) = false from by rw [HSC.out]; simp [c2])
                  clear c1 c2
                  (refine wp_region_quiet_bw (by kernel_rfl) (by kernel_rfl) ?_
                   repeat (first | go_big_quiet_step (((go_at_call 106; exact HC1.out _))) | quiet_step (((go_at_call 106; exact HC1.out _))))
                   refine wpQuiet_nil ?_
                   intro wq hw'
                   obtain ⟨⟨_, hbq⟩, hw''⟩ := hw'
                   subst hw'')
                  have HBQ := hide hbq
                  clear hbq
                  go_wp2_with fail
                  go_meet
                  case rel => exact ⟨by rw [HS0.out], HBQ.out⟩
              · have d1 : (y.t == x.t) = false := by simpa using c1
                have HS0 := hide (show sameT (thC y) (thC x) = false from by rw [HSC.out]; simp [c1])
                clear c1
                (refine wp_region_quiet_bw (by kernel_rfl) (by kernel_rfl) ?_
                 repeat (first | go_big_quiet_step ((fail)) | quiet_step ((fail)))
                 refine wpQuiet_nil ?_
                 intro wq hw'
                 obtain ⟨⟨_, hbq⟩, hw''⟩ := hw'
                 subst hw'')
                have HBQ := hide hbq
                clear hbq
                go_wp2_with fail
                go_meet
                case rel => exact ⟨by rw [HS0.out], HBQ.out⟩
            case rest =>
              obtain ⟨rfl, hbq⟩ := hcut
              have HNX := hide (show (((fo.take (k + 1)).map thC).map (fixT (thC x) N)).filter (fun h => decide (h.m ≠ 0)) = lr.map thC ++ if v9 = 0 then [] else [⟨y.t, v9, y.r⟩] from by
                rw [HTM.out, List.map_append, List.filter_append, ← HLR.out]
                congr 1
                have e9 : fixT (thC x) N (thC y) = ⟨y.t, v9, y.r⟩ := by rw [fix_eq, HV9.out]; rfl
                rw [List.map_cons, List.map_nil, e9]
                by_cases h9 : v9 = 0
                · rw [if_pos h9, List.filter_cons_of_neg (by simp [h9])]; rfl
                · rw [if_neg h9, List.filter_cons_of_pos (by simp [h9])]; rfl)
              obtain ⟨V, hV⟩ : ∃ V : World, V = wc := ⟨_, rfl⟩
              subst hV
              have hB3 := bstep hBw hbq
              have hown3 := own_below hown hbq
              have hrows3 : RowsC V B lr := fun i hi => (hrows i hi).below hbq
              have hyr3 := HYR.out.below hbq
              have f0 := (hbq.cell (p := ⟨bq, oq + k * 3, none⟩) hbl).trans e0
              have f1 := (hbq.cell (p := ⟨bq, oq + k * 3 + 1, none⟩) hbl).trans e1
              have hblV : bq < V.heap.size := Nat.lt_of_lt_of_le hbl hbq.size
              have b2 := (hbq.cell (p := ⟨zb, 2, none⟩) kzr.lt).trans b2
              clear hbq hBw p0 p1 p2 p3 HC1 hown hrows kzr e0 e1 e2 b0 b1 HYR hbl HTM HLR
              have HVN := hide (show (if sameT (thC y) (thC x) then N else y.m) = v9 from by rw [← HV9.out, fix_m]; rfl)
              clear HSC
              go_upto_if 113 with fail
              go_cut [11] from 84 to 132 (fun s11 wx => s11 = .int .i64 v9 ∧ V = wx)
              case first =>
                clear hB3 hown3 hrows3 hyr3
                cases hsm : sameT (thC y) (thC x)
                · have HE9 := hide (show y.m = v9 from by have := HVN.out; rw [hsm] at this; exact this)
                  clear hsm
                  go_wp2_with fail
                  go_meet
                  case rel => exact ⟨by rw [HE9.out], rfl⟩
                · have HE9 := hide (show N = v9 from by have := HVN.out; rw [hsm] at this; exact this)
                  clear hsm
                  go_wp2_with fail
                  go_meet
                  case rel => exact ⟨by rw [HE9.out], rfl⟩
              case rest =>
              obtain ⟨rfl, rfl⟩ := hcut
              by_cases hz : v9 = 0
              · have z1 : (v9 != 0) = false := by simpa using hz
                have HN2 := hide (show lr.map thC = (((fo.take (k + 1)).map thC).map (fixT (thC x) N)).filter (fun h => decide (h.m ≠ 0)) from by rw [HNX.out, if_pos hz, List.append_nil])
                have HO3 := hide hown3
                have HR3 := hide hrows3
                have HB3 := hide hB3
                clear HNX hown3 hrows3 hB3 hyr3 hz
                go_wp2_with fail
                go_roundw
                case rel => exact ⟨k + 1, Ar, cr, lr, by omega, by go_num, rfl, HN2.out, by omega, HO3.out, HR3.out, HB3.out⟩
                case measure => first | (simp [intOf]; done) | (simp [intOf]; omega)
              · have z1 : (v9 != 0) = true := by simpa using hz
                have HN2 := hide (show (lr ++ [(⟨y.t, y.A, y.n, y.c, y.r, v9⟩ : Ch)]).map thC = (((fo.take (k + 1)).map thC).map (fixT (thC x) N)).filter (fun h => decide (h.m ≠ 0)) from by rw [HNX.out, if_neg hz, List.map_append]; rfl)
                clear HNX hz
                go_upto_region 23 with fail
                have hbd := (Below.refl V.heap.size V).drew
                obtain ⟨X1, hXe⟩ : ∃ X1, V.drew = X1 := ⟨_, rfl⟩
                rw [hXe] at hbd
                have hown5 := own_below hown3 hbd
                have hrows5 : RowsC X1 B lr := fun i hi => (hrows3 i hi).below hbd
                have hB5 := bstep hB3 hbd
                have hyr5 := hyr3.below hbd
                have hS : X1.cell? ⟨bq, oq + k * 3, none⟩ = some (.int .i64 y.t) ∧ X1.cell? ⟨bq, oq + k * 3 + 1, none⟩ = some (.slice y.A y.n y.c) := ⟨(hbd.cell hblV).trans f0, (hbd.cell hblV).trans f1⟩
                have hz1 : B ≤ W8.heap.size := Nat.le_trans hB HBF.out.size
                have hz2 : lr.length ≤ 100000 := Nat.le_trans hlk (Nat.le_trans hk (Nat.le_trans hfl (by decide)))
                obtain ⟨A', c', X', hrun, hown6, hrows6, hblk6, hb6⟩ := oc_app ⟨y.t, y.A, y.n, y.c, y.r, v9⟩ hown5 hrows5 hyr5 hB5.size hz1 hz2
                have hba := below_val (w := X1) #[.int .i64 y.t, .slice y.A y.n y.c, .int .i64 v9] 57
                have hbx : bq < X1.heap.size := World.block_lt_of_cell? _ _ hS.1
                have hq8 : bq < W8.heap.size := (HOF.out.lt bq rfl).2
                have hg6 := hblk6 bq hbx fun e => by have := (hown5.lt bq e).1; omega
                have hS8 : (X1.alloc (.cells #[.int .i64 y.t, .slice y.A y.n y.c, .int .i64 v9] 57)).cell? ⟨bq, oq + k * 3, none⟩ = some (.int .i64 y.t) ∧ (X1.alloc (.cells #[.int .i64 y.t, .slice y.A y.n y.c, .int .i64 v9] 57)).cell? ⟨bq, oq + k * 3 + 1, none⟩ = some (.slice y.A y.n y.c) :=
                  ⟨(hba.cell (p := ⟨bq, oq + k * 3, none⟩) hbx).trans hS.1, (hba.cell (p := ⟨bq, oq + k * 3 + 1, none⟩) hbx).trans hS.2⟩
                have hS9 : X'.cell? ⟨bq, oq + k * 3, none⟩ = some (.int .i64 y.t) ∧ X'.cell? ⟨bq, oq + k * 3 + 1, none⟩ = some (.slice y.A y.n y.c) :=
                  ⟨(World.cell?_of_block (a := ⟨bq, oq + k * 3, none⟩) hg6).trans hS.1, (World.cell?_of_block (a := ⟨bq, oq + k * 3 + 1, none⟩) hg6).trans hS.2⟩
                have HS8 := hide hS8
                have HS9 := hide hS9
                have hlen : (lr ++ [(⟨y.t, y.A, y.n, y.c, y.r, v9⟩ : Ch)]).length = lr.length + 1 := by simp
                rw [hlen] at hown6
                have HO6 := hide hown6
                have HR6 := hide hrows6
                have HB6 := hide (hB5.trans hb6)
                have HLEN := hide hlen
                have HRUN := hide hrun
                clear hbd hB3 hown3 hrows3 f0 f1 hyr3 hown5 hrows5 hB5 hyr5 hown6 hrows6 hblk6 hb6 hba hg6 hS8 hS9 hlen hrun
                refine Held.begin (fun z => z.cell? ⟨bq, oq + k * 3, none⟩ = some (.int .i64 y.t) ∧ z.cell? ⟨bq, oq + k * 3 + 1, none⟩ = some (.slice y.A y.n y.c)) 15 (by kernel_rfl) ?_
                rw [hXe]
                clear hXe
                refine Held.take (i := 0) (.slice Ar lr.length cr) rfl hS (by kernel_rfl) (by kernel_rfl) (by kernel_rfl) (by kernel_rfl) (fun _ _ _ h => h) rfl (fun y hy => by obtain ⟨x1, x2⟩ := hy; go_simp) ?_
                try simp only [Act.put]
                refine Held.take (i := 1) (.slice (some ⟨bq, oq, none⟩) nn c6) rfl hS (by kernel_rfl) (by kernel_rfl) (by kernel_rfl) (by kernel_rfl) (fun _ _ _ h => h) rfl (fun y hy => by obtain ⟨x1, x2⟩ := hy; go_simp) ?_
                try simp only [Act.put]
                refine Held.take (i := 2) (.int .i64 (k : Int)) rfl hS (by kernel_rfl) (by kernel_rfl) (by kernel_rfl) (by kernel_rfl) (fun _ _ _ h => h) rfl (fun y hy => by obtain ⟨x1, x2⟩ := hy; go_simp) ?_
                try simp only [Act.put]
                refine Held.take (i := 3) (.pointer (some ⟨bq, oq + k * 3, none⟩)) rfl hS (by kernel_rfl) (by kernel_rfl) (by kernel_rfl) (by kernel_rfl) (fun _ _ _ h => h) rfl (fun y hy => by obtain ⟨x1, x2⟩ := hy; go_simp) ?_
                try simp only [Act.put]
                refine Held.take (i := 4) (.pointer (some ⟨bq, oq + k * 3, none⟩)) rfl hS (by kernel_rfl) (by kernel_rfl) (by kernel_rfl) (by kernel_rfl) (fun _ _ _ h => h) rfl (fun y hy => by obtain ⟨x1, x2⟩ := hy; go_simp) ?_
                try simp only [Act.put]
                refine Held.take (i := 5) (.int .i64 y.t) rfl hS (by kernel_rfl) (by kernel_rfl) (by kernel_rfl) (by kernel_rfl) (fun _ _ _ h => h) rfl (fun y hy => by obtain ⟨x1, x2⟩ := hy; go_simp) ?_
                try simp only [Act.put]
                refine Held.take (i := 6) (.slice (some ⟨bq, oq, none⟩) nn c6) rfl hS (by kernel_rfl) (by kernel_rfl) (by kernel_rfl) (by kernel_rfl) (fun _ _ _ h => h) rfl (fun y hy => by obtain ⟨x1, x2⟩ := hy; go_simp) ?_
                try simp only [Act.put]
                refine Held.take (i := 7) (.int .i64 (k : Int)) rfl hS (by kernel_rfl) (by kernel_rfl) (by kernel_rfl) (by kernel_rfl) (fun _ _ _ h => h) rfl (fun y hy => by obtain ⟨x1, x2⟩ := hy; go_simp) ?_
                try simp only [Act.put]
                refine Held.take (i := 8) (.pointer (some ⟨bq, oq + k * 3, none⟩)) rfl hS (by kernel_rfl) (by kernel_rfl) (by kernel_rfl) (by kernel_rfl) (fun _ _ _ h => h) rfl (fun y hy => by obtain ⟨x1, x2⟩ := hy; go_simp) ?_
                try simp only [Act.put]
                refine Held.take (i := 9) (.pointer (some ⟨bq, oq + k * 3 + 1, none⟩)) rfl hS (by kernel_rfl) (by kernel_rfl) (by kernel_rfl) (by kernel_rfl) (fun _ _ _ h => h) rfl (fun y hy => by obtain ⟨x1, x2⟩ := hy; go_simp) ?_
                try simp only [Act.put]
                refine Held.take (i := 10) (.slice y.A y.n y.c) rfl hS (by kernel_rfl) (by kernel_rfl) (by kernel_rfl) (by kernel_rfl) (fun _ _ _ h => h) rfl (fun y hy => by obtain ⟨x1, x2⟩ := hy; go_simp) ?_
                try simp only [Act.put]
                refine Held.take (i := 11) (.int .i64 v9) rfl hS (by kernel_rfl) (by kernel_rfl) (by kernel_rfl) (by kernel_rfl) (fun _ _ _ h => h) rfl (fun y hy => by obtain ⟨x1, x2⟩ := hy; go_simp) ?_
                try simp only [Act.put]
                refine Held.take (i := 12) (.agg #[.int .i64 y.t, .slice y.A y.n y.c, .int .i64 v9]) rfl hS (by kernel_rfl) (by kernel_rfl) (by kernel_rfl) (by kernel_rfl) (fun _ _ _ h => h) rfl (fun y hy => by obtain ⟨x1, x2⟩ := hy; go_simp) ?_
                try simp only [Act.put]
                refine Held.one (i := 13) rfl (by kernel_rfl) rfl (fun K hK => ?_)
                unfold Oper.wp
                go_simp
                refine hK _ _ (fun _ => HS8.out) ?_ --⟨(hba.cell (p := ⟨bq, oq + k * 3, none⟩) hbx).trans hS2.1, (hba.cell (p := ⟨bq, oq + k * 3 + 1, none⟩) hbx).trans hS2.2⟩) ?_
                try simp only [Act.put]
                clear hK K hS
                refine Held.one (i := 14) rfl (by kernel_rfl) rfl (fun K hK => ?_)
                refine wp_append_is _ _ 67 rfl rfl rfl rfl HRUN.out ?_
                refine hK _ _ (fun _ => HS9.out) ?_ --⟨(World.cell?_of_block (a := ⟨bq, oq + k * 3, none⟩) hg6).trans hS2.1, (World.cell?_of_block (a := ⟨bq, oq + k * 3 + 1, none⟩) hg6).trans hS2.2⟩) ?_
                try simp only [Act.put]
                clear hK K HRUN
                refine Held.one (i := 15) rfl (by kernel_rfl) rfl (fun K hK => ?_)
                unfold Oper.wp
                go_simp
                refine hK _ _ (fun h => absurd rfl h) ?_
                try simp only [Act.put]
                clear hK K HS8 HS9
                refine Held.done (by kernel_rfl) ?_
                go_wp2_with fail
                go_roundw
                case rel => exact ⟨k + 1, A', c', _, by omega, by go_num, by rw [HLEN.out], HN2.out, by rw [HLEN.out]; omega, by rw [HLEN.out]; exact HO6.out, HR6.out, HB6.out⟩
                case measure => first | (simp [intOf]; done) | (simp [intOf]; omega)
          · obtain rfl : k = nn := by omega
            have htk2 : fo.take k = fo := List.take_of_length_le (by rw [HFL.out]; omega)
            have HRES := hide (show RetKc w B D (.returned (.slice Ar lr.length cr)) wr from ⟨Ar, cr, lr, rfl, by have := HLR.out; rw [htk2] at this; rw [this, HFN.out], own_mono hown HBF.out.size, hrows, HBF.out.trans (hBw.mono HBF.out.size)⟩)
            clear hown hrows hBw htk2
            go_wp2_with fail
            go_ret
            exact HRES.out
end Go.Proofs.YtoapjidpfghnlaaGreatDoor
