/-
  The walk of the reference's joined. No condition.
  The reference's Outer. No condition but the lists' lengths.
-/
import Derived.Test.YtoapjidpfghnlaaGreatDoorOuN
namespace Go.Proofs.YtoapjidpfghnlaaGreatDoor

section
open Go.RowKit
attribute [local go_sem] Oper.semAt_some wide_fn wide_depth
set_option linter.unusedVariables false
set_option linter.unusedSimpArgs false

theorem RBag.form {d : Bg} {v : Value} {W : World} (h : RBag d v W) : ∃ A n c, v = .slice A n c ∧ RBag d (.slice A n c) W := by
  obtain ⟨A, n, c, l, rfl, h⟩ := h
  exact ⟨A, n, c, rfl, A, n, c, l, rfl, h⟩
theorem BagR.stepO {w w' : World} {A : Option Addr} {n : Nat} {l : List It} (h : BagR w w.heap.size A n l) (hb : Below w.heap.size w w') : BagR w' w'.heap.size A n l := (h.below hb).mono hb.size
set_option maxRecDepth 100000 in
set_option maxHeartbeats 16000000 in
theorem joined_any (kind : Int) (A1 : Option Addr) (n1 c1 : Nat) (on : List Int) (A2 : Option Addr) (n2 c2 : Nat) (others : List Int) (wide width : Nat) (A3 : Option Addr) (n3 c3 : Nat) (ll : List It) (A4 : Option Addr) (n4 c4 : Nat) (lr : List It) (w : World) (lf rt : Bool)
    (h1 : Reads w w.heap.size 1 A1 n1 (on.map (Value.int .i64))) (h2 : Reads w w.heap.size 1 A2 n2 (others.map (Value.int .i64))) (hn : n1 = n2) (hn1 : n1 ≤ 1000) (h3 : BagR w w.heap.size A3 n3 ll) (h4 : BagR w w.heap.size A4 n4 lr)
    (hl : SideOk (dat ll) on wide) (hr : SideOk (dat lr) others width) (hw : wide + width ≤ 8) (hk : 0 ≤ kind ∧ kind ≤ 3) (hlf : lf = decide (kind % 2 = 1)) (hrt : rt = decide (2 ≤ kind)) :
    Calls Tryz.prog 98 #[.int .i64 kind, .slice A1 n1 c1, .slice A2 n2 c2, .int .i64 (wide : Int), .int .i64 (width : Int), .slice A3 n3 c3, .slice A4 n4 c4] w (RetTold w (joinL lf rt on others wide width (dat ll) (dat lr))) := by
  have PA := hide h1
  have PB := hide h2
  have PC := hide h3
  have PD := hide h4
  have SL := hide hl
  have SR := hide hr
  have HNN := hide hn
  have HLF := hide hlf
  have HRT := hide hrt
  have HN3 := hide (show (dat ll).length = n3 from by rw [dat_len]; exact h3.len)
  have HN4 := hide (show (dat lr).length = n4 from by rw [dat_len]; exact h4.len)
  have hm3 : n3 ≤ 400 := by have := hl.len; rw [HN3.out] at this; exact this
  have hm4 : n4 ≤ 400 := by have := hr.len; rw [HN4.out] at this; exact this
  have hmk := fun W => run_make_bl n4 (by omega) W
  clear h1 h2 h3 h4 hl hr hn hlf hrt
  go_enter Tryz.func98, Tryz.ntmps98
  go_wp2_with fail
  have hbl := Bl.made w n4
  have hB := (Below.refl w.heap.size w).alloc (Nat.le_refl _) (.cells (madeCells #[.bool false] n4) 4)
  obtain ⟨W0, hW0⟩ : ∃ W0, w.alloc (.cells (madeCells #[.bool false] n4) 4) = W0 := ⟨_, rfl⟩
  rw [hW0] at hbl hB ⊢
  obtain ⟨lb, hlb⟩ : ∃ lb, w.heap.size = lb := ⟨_, rfl⟩
  have hbl := (show Bl w.heap.size W0 lb n4 (fun j => decide (j < 0)) from by rw [← hlb]; exact hbl.congr fun k _ => by simp)
  clear hW0 hmk
  rw [hlb]
  have HLB := hide hlb
  clear hlb
  go_loopw [17] (fun i wr => ∃ k : Nat, k ≤ n4 ∧ i = .int .i64 k ∧ Bl w.heap.size wr lb n4 (fun j => decide (j < k)) ∧ Below w.heap.size w wr) (fun i _ => n4 - (intOf i).toNat)
  case atStart => exact ⟨0, Nat.zero_le _, rfl, hbl, hB⟩
  case round =>
    clear hbl hB
    obtain ⟨k, hkk, rfl, hbl, hB⟩ := hrel
    by_cases hlt : k < n4
    · have q1 : (0 : Int) ≤ (k : Int) := by omega
      have q2 : (k : Int) < (n4 : Int) := by omega
      have c0 := hbl.cell hlt
      have f0 := hbl.2.frozen k
      have HBL := hide (hbl.put (k := k) true)
      have HB := hide (hB.setCell (p := ⟨lb, k, none⟩) hbl.1 (.bool true))
      clear hbl hB
      go_wp2
      go_roundw
      case rel => exact ⟨k + 1, by omega, by go_num, HBL.out.congr fun j _ => by by_cases e : j = k <;> simp [e] <;> omega, HB.out⟩
      case measure => simp [intOf]; omega
    · obtain rfl : k = n4 := by omega
      have hbl := (show Bl w.heap.size wr lb k (loneF on others ((dat ll).take 0) (dat lr)) from hbl.congr fun j hj => by rw [List.take_zero, loneF_nil]; simpa using hj)
      have HNK := hide (show k = k from rfl)
      go_wp2_with fail
      go_loopw [15, 18] (fun v i wr => ∃ i1 : Nat, i1 ≤ n3 ∧ i = .int .i64 i1 ∧ RBag (aftB [] (leftsL lf on others width ((dat ll).take i1) (dat lr))) v wr ∧ Bl w.heap.size wr lb k (loneF on others ((dat ll).take i1) (dat lr)) ∧ Below w.heap.size w wr) (fun _ i _ => n3 - (intOf i).toNat)
      case atStart => exact ⟨0, Nat.zero_le _, rfl, ⟨none, 0, 0, [], rfl, rfl, BagR.nil _ _, Nat.le_refl _⟩, hbl, hB⟩
      case round =>
        clear hbl hB
        obtain ⟨i1, hi1, rfl, hO, hbl, hBr⟩ := hrel
        by_cases hli : i1 < n3
        · have q1 : (0 : Int) ≤ (i1 : Int) := by omega
          have q2 : (i1 : Int) < (n3 : Int) := by omega
          obtain ⟨bq, oq, x, hq1, hq2, hxk, hq3, hq4, hq5⟩ := (PC.out.stepO hBr).at_ hli
          have HX := hide hxk
          have HXD := hide (dat_at hxk)
          have hxin := List.mem_of_getElem? HXD.out
          obtain ⟨sx1, sx2, sx3⟩ := SL.out.row _ hxin
          have sx4 := SL.out.num _ hxin
          simp only at sx1 sx2 sx3 sx4
          have HXP := hide (show okR x.r = true ∧ x.r.length = wide ∧ 1 ≤ x.m ∧ x.m ≤ 2000000 from ⟨sx1, sx2, sx4⟩)
          have HXO := hide (okR_vals sx1)
          have HXC := hide sx3
          have HTX := hide (show (dat ll).take (i1 + 1) = (dat ll).take i1 ++ [(x.r, x.m)] from take_snoc' HXD.out)
          have hbl := (show Bl w.heap.size wr lb k (midF on others ((dat ll).take i1) (x.r, x.m) (dat lr) 0) from by rw [midF_zero]; exact hbl)
          clear hxk hxin hq1 hq2 hq3 hq4 hq5 bq oq sx1 sx2 sx3 sx4
          go_wp2_with fail
          go_loopw [15, 19, 20] (fun v al i wx => ∃ m : Nat, m ≤ k ∧ i = .int .i64 m ∧ al = .bool (!meets on others (x.r, x.m) ((dat lr).take m)) ∧ RBag (aftB [] (leftsL lf on others width ((dat ll).take i1) (dat lr) ++ pairL on others (x.r, x.m) ((dat lr).take m))) v wx ∧ Bl w.heap.size wx lb k (midF on others ((dat ll).take i1) (x.r, x.m) (dat lr) m) ∧ Below w.heap.size w wx) (fun _ _ i _ => k - (intOf i).toNat)
          case atStart => exact ⟨0, Nat.zero_le _, rfl, rfl, by rw [show pairL on others (x.r, x.m) ((dat lr).take 0) = [] from rfl, List.append_nil]; exact hO, hbl, hBr⟩
          case round =>
            clear hO hbl hBr
            obtain ⟨m, hm, rfl, rfl, hO, hbl, hBr⟩ := hrel
            by_cases hlt2 : m < k
            · have q3 : (0 : Int) ≤ (m : Int) := by omega
              have q4 : (m : Int) < (k : Int) := by omega
              obtain ⟨bx, ox, x', rfl, hbx, hxk', e0, e1, hrx⟩ := (PC.out.stepO hBr).at_ hli
              obtain rfl : x' = x := by rw [HX.out] at hxk'; exact (Option.some.inj hxk').symm
              obtain ⟨by_, oy, y, rfl, hby, hyk, f0, f1, hry⟩ := (PD.out.stepO hBr).at_ hlt2
              have HYD := hide (dat_at hyk)
              have hyin := List.mem_of_getElem? HYD.out
              obtain ⟨sy1, sy2, sy3⟩ := SR.out.row _ hyin
              have sy4 := SR.out.num _ hyin
              simp only at sy1 sy2 sy3 sy4
              have hlx := hrx.len
              have hly := hry.len
              have hxp := HXP.out
              have hxn8 : x'.n ≤ 8 := by omega
              have hyn8 : y.n ≤ 8 := by omega
              have HTY := hide (show (dat lr).take (m + 1) = (dat lr).take m ++ [(y.r, y.m)] from take_snoc' HYD.out)
              have p0 := fun (p : BW wr) => BW.cell (a := ⟨bx, ox + i1 * 2, none⟩) hbx e0 p
              have p2 := fun (p : BW wr) => BW.cell (a := ⟨by_, oy + m * 2, none⟩) hby f0 p
              have HC2 := hide (fun (p : BW wr) => calls_bw (p := p) (equal_any A1 n1 c1 on A2 n2 c2 others x'.A x'.n x'.c x'.r y.A y.n y.c y.r p.x (PA.out.up (bstep hBr p.h)) (PB.out.up (bstep hBr p.h)) HNN.out (by omega) ((hrx.below p.h).mono p.h.size) ((hry.below p.h).mono p.h.size) HXO.out (okR_vals sy1) HXC.out sy3))
              obtain ⟨q, hq⟩ : ∃ q, eqK on others x'.r y.r = q := ⟨_, rfl⟩
              rw [hq] at HC2
              have HQ := hide hq
              clear hq hyk hxk' hyin hxp sy3
              cases q
              · have HMT := hide (show meets on others (x'.r, x'.m) ((dat lr).take (m + 1)) = meets on others (x'.r, x'.m) ((dat lr).take m) from by rw [HTY.out, meets_snoc, show eqK on others (x'.r, x'.m).1 (y.r, y.m).1 = false from HQ.out]; simp)
                have HPR := hide (show pairL on others (x'.r, x'.m) ((dat lr).take (m + 1)) = pairL on others (x'.r, x'.m) ((dat lr).take m) from by rw [HTY.out, pairL_snoc, show eqK on others (x'.r, x'.m).1 (y.r, y.m).1 = false from HQ.out]; simp)
                go_wp2_with fail
                (refine wp_region_quiet_bw (by kernel_rfl) (by kernel_rfl) ?_
                 repeat (first | go_big_quiet_step (((go_at_call 78; with_reducible exact HC2.out _))) | quiet_step (((go_at_call 78; with_reducible exact HC2.out _))))
                 refine wpQuiet_nil ?_
                 intro wq hw'
                 obtain ⟨⟨_, hbq⟩, hw''⟩ := hw'
                 subst hw'')
                have HBZ := hide (bstep hBr hbq)
                have HO := hide (hO.below hbq)
                have HBL := hide ((hbl.below hbq).congr fun j _ => midF_no HYD.out HQ.out j)
                clear hO hbl hBr hbq p0 p2 HC2 e0 e1 f0 f1 hrx hry
                go_wp2
                go_roundw
                case rel => exact ⟨m + 1, by omega, by go_num, by rw [HMT.out], by rw [HPR.out]; exact HO.out, HBL.out, HBZ.out⟩
                case measure => simp [intOf]; omega
              · have HMT := hide (show meets on others (x'.r, x'.m) ((dat lr).take (m + 1)) = true from by rw [HTY.out, meets_snoc, show eqK on others (x'.r, x'.m).1 (y.r, y.m).1 = true from HQ.out]; simp)
                have HPR := hide (show pairL on others (x'.r, x'.m) ((dat lr).take (m + 1)) = pairL on others (x'.r, x'.m) ((dat lr).take m) ++ [(x'.r ++ y.r, x'.m * y.m)] from by rw [HTY.out, pairL_snoc, show eqK on others (x'.r, x'.m).1 (y.r, y.m).1 = true from HQ.out]; simp)
                go_wp2_with fail
                (refine wp_region_quiet_bw (by kernel_rfl) (by kernel_rfl) ?_
                 repeat (first | go_big_quiet_step (((go_at_call 78; with_reducible exact HC2.out _))) | quiet_step (((go_at_call 78; with_reducible exact HC2.out _))))
                 refine wpQuiet_nil ?_
                 intro wq hw'
                 obtain ⟨⟨_, hbq⟩, hw''⟩ := hw'
                 subst hw'')
                obtain ⟨wv, hwv⟩ : ∃ wv : World, wv = wq := ⟨_, rfl⟩
                subst hwv
                have hBz := bstep hBr hbq
                have hOz := hO.below hbq
                have hbz := hbl.below hbq
                have e0 := (hbq.cell hbx).trans e0
                have e1 := (hbq.cell hbx).trans e1
                have f0 := (hbq.cell hby).trans f0
                have f1 := (hbq.cell hby).trans f1
                have hbx := Nat.lt_of_lt_of_le hbx hbq.size
                have hby := Nat.lt_of_lt_of_le hby hbq.size
                have hrx := (hrx.below hbq).mono hbq.size
                have hry := (hry.below hbq).mono hbq.size
                clear hO hbl hBr hbq p0 p2 HC2
                obtain ⟨Ao, no, co, rfl, hOz⟩ := hOz.form
                have hTO := told_pairs (lf := lf) (x := (x'.r, x'.m)) SL.out SR.out hw HXP.out i1 m
                have HTO := hide hTO
                have hxm := HXP.out.2.2
                have hpb : 0 ≤ x'.m * y.m ∧ x'.m * y.m ≤ 4000000000000 := by
                  have g1 : 0 ≤ x'.m * y.m := Int.mul_nonneg (by omega) (by omega)
                  have g2 : x'.m * y.m ≤ 2000000 * 2000000 := Int.mul_le_mul hxm.2 sy4.2 (by omega) (by omega)
                  omega
                obtain ⟨pm, hpm⟩ : ∃ pm, x'.m * y.m = pm := ⟨_, rfl⟩
                rw [hpm] at hpb HPR
                have hwm : IntKind.i64.wrap (x'.m * y.m) = pm := by rw [hpm, IntKind.wrap_i64]; omega
                clear hTO hxm hpm
                go_wp2_with fail
                refine Held.begin (fun z => z.cell? ⟨bx, ox + i1 * 2, none⟩ = some (.slice x'.A x'.n x'.c) ∧ z.cell? ⟨bx, ox + i1 * 2 + 1, none⟩ = some (.int .i64 x'.m) ∧ z.cell? ⟨by_, oy + m * 2, none⟩ = some (.slice y.A y.n y.c) ∧ z.cell? ⟨by_, oy + m * 2 + 1, none⟩ = some (.int .i64 y.m)) 100 (by kernel_rfl) ?_
                have hdr : Below wv.heap.size wv wv.drew := (Below.refl _ _).drew
                have hS : wv.drew.cell? ⟨bx, ox + i1 * 2, none⟩ = some (.slice x'.A x'.n x'.c) ∧ wv.drew.cell? ⟨bx, ox + i1 * 2 + 1, none⟩ = some (.int .i64 x'.m) ∧ wv.drew.cell? ⟨by_, oy + m * 2, none⟩ = some (.slice y.A y.n y.c) ∧ wv.drew.cell? ⟨by_, oy + m * 2 + 1, none⟩ = some (.int .i64 y.m) := ⟨e0, e1, f0, f1⟩
                have hB1 := bstep hBz hdr
                have hO1 := hOz.below hdr
                have hb1 := hbz.below hdr
                have hrx := (hrx.below hdr).mono hdr.size
                have hry := (hry.below hdr).mono hdr.size
                have hbx := Nat.lt_of_lt_of_le hbx hdr.size
                have hby := Nat.lt_of_lt_of_le hby hdr.size
                obtain ⟨X1, hX1⟩ : ∃ X1, wv.drew = X1 := ⟨_, rfl⟩
                rw [hX1] at hS hB1 hO1 hb1 hrx hry hbx hby ⊢
                clear hX1 hdr hBz hOz hbz e0 e1 f0 f1
                refine Held.take (i := 0) (.slice Ao no co) rfl hS (by kernel_rfl) (by kernel_rfl) (by kernel_rfl) (by kernel_rfl) (fun _ _ _ h => h) rfl (fun y hy => by obtain ⟨x1, x2, x3, x4⟩ := hy; go_simp) ?_
                try simp only [Act.put]
                refine Held.take (i := 1) (.slice (some ⟨bx, ox, none⟩) n3 c3) rfl hS (by kernel_rfl) (by kernel_rfl) (by kernel_rfl) (by kernel_rfl) (fun _ _ _ h => h) rfl (fun y hy => by obtain ⟨x1, x2, x3, x4⟩ := hy; go_simp) ?_
                try simp only [Act.put]
                refine Held.take (i := 2) (.int .i64 (i1 : Int)) rfl hS (by kernel_rfl) (by kernel_rfl) (by kernel_rfl) (by kernel_rfl) (fun _ _ _ h => h) rfl (fun y hy => by obtain ⟨x1, x2, x3, x4⟩ := hy; go_simp) ?_
                try simp only [Act.put]
                refine Held.take (i := 3) (.pointer (some ⟨bx, ox + i1 * 2, none⟩)) rfl hS (by kernel_rfl) (by kernel_rfl) (by kernel_rfl) (by kernel_rfl) (fun _ _ _ h => h) rfl (fun y hy => by obtain ⟨x1, x2, x3, x4⟩ := hy; go_simp) ?_
                try simp only [Act.put]
                refine Held.take (i := 4) (.pointer (some ⟨bx, ox + i1 * 2, none⟩)) rfl hS (by kernel_rfl) (by kernel_rfl) (by kernel_rfl) (by kernel_rfl) (fun _ _ _ h => h) rfl (fun y hy => by obtain ⟨x1, x2, x3, x4⟩ := hy; go_simp) ?_
                try simp only [Act.put]
                refine Held.take (i := 5) (.slice x'.A x'.n x'.c) rfl hS (by kernel_rfl) (by kernel_rfl) (by kernel_rfl) (by kernel_rfl) (fun _ _ _ h => h) rfl (fun y hy => by obtain ⟨x1, x2, x3, x4⟩ := hy; go_simp) ?_
                try simp only [Act.put]
                refine Held.take (i := 6) (.slice (some ⟨by_, oy, none⟩) k c4) rfl hS (by kernel_rfl) (by kernel_rfl) (by kernel_rfl) (by kernel_rfl) (fun _ _ _ h => h) rfl (fun y hy => by obtain ⟨x1, x2, x3, x4⟩ := hy; go_simp) ?_
                try simp only [Act.put]
                refine Held.take (i := 7) (.int .i64 (m : Int)) rfl hS (by kernel_rfl) (by kernel_rfl) (by kernel_rfl) (by kernel_rfl) (fun _ _ _ h => h) rfl (fun y hy => by obtain ⟨x1, x2, x3, x4⟩ := hy; go_simp) ?_
                try simp only [Act.put]
                refine Held.take (i := 8) (.pointer (some ⟨by_, oy + m * 2, none⟩)) rfl hS (by kernel_rfl) (by kernel_rfl) (by kernel_rfl) (by kernel_rfl) (fun _ _ _ h => h) rfl (fun y hy => by obtain ⟨x1, x2, x3, x4⟩ := hy; go_simp) ?_
                try simp only [Act.put]
                refine Held.take (i := 9) (.pointer (some ⟨by_, oy + m * 2, none⟩)) rfl hS (by kernel_rfl) (by kernel_rfl) (by kernel_rfl) (by kernel_rfl) (fun _ _ _ h => h) rfl (fun y hy => by obtain ⟨x1, x2, x3, x4⟩ := hy; go_simp) ?_
                try simp only [Act.put]
                refine Held.take (i := 10) (.slice y.A y.n y.c) rfl hS (by kernel_rfl) (by kernel_rfl) (by kernel_rfl) (by kernel_rfl) (fun _ _ _ h => h) rfl (fun y hy => by obtain ⟨x1, x2, x3, x4⟩ := hy; go_simp) ?_
                try simp only [Act.put]
                refine Held.take (i := 12) (.slice (some ⟨bx, ox, none⟩) n3 c3) rfl hS (by kernel_rfl) (by kernel_rfl) (by kernel_rfl) (by kernel_rfl) (fun _ _ _ h => h) rfl (fun y hy => by obtain ⟨x1, x2, x3, x4⟩ := hy; go_simp) ?_
                try simp only [Act.put]
                refine Held.take (i := 13) (.int .i64 (i1 : Int)) rfl hS (by kernel_rfl) (by kernel_rfl) (by kernel_rfl) (by kernel_rfl) (fun _ _ _ h => h) rfl (fun y hy => by obtain ⟨x1, x2, x3, x4⟩ := hy; go_simp) ?_
                try simp only [Act.put]
                refine Held.take (i := 14) (.pointer (some ⟨bx, ox + i1 * 2, none⟩)) rfl hS (by kernel_rfl) (by kernel_rfl) (by kernel_rfl) (by kernel_rfl) (fun _ _ _ h => h) rfl (fun y hy => by obtain ⟨x1, x2, x3, x4⟩ := hy; go_simp) ?_
                try simp only [Act.put]
                refine Held.take (i := 15) (.pointer (some ⟨bx, ox + i1 * 2 + 1, none⟩)) rfl hS (by kernel_rfl) (by kernel_rfl) (by kernel_rfl) (by kernel_rfl) (fun _ _ _ h => h) rfl (fun y hy => by obtain ⟨x1, x2, x3, x4⟩ := hy; go_simp) ?_
                try simp only [Act.put]
                refine Held.take (i := 16) (.int .i64 x'.m) rfl hS (by kernel_rfl) (by kernel_rfl) (by kernel_rfl) (by kernel_rfl) (fun _ _ _ h => h) rfl (fun y hy => by obtain ⟨x1, x2, x3, x4⟩ := hy; go_simp) ?_
                try simp only [Act.put]
                refine Held.take (i := 17) (.slice (some ⟨by_, oy, none⟩) k c4) rfl hS (by kernel_rfl) (by kernel_rfl) (by kernel_rfl) (by kernel_rfl) (fun _ _ _ h => h) rfl (fun y hy => by obtain ⟨x1, x2, x3, x4⟩ := hy; go_simp) ?_
                try simp only [Act.put]
                refine Held.take (i := 18) (.int .i64 (m : Int)) rfl hS (by kernel_rfl) (by kernel_rfl) (by kernel_rfl) (by kernel_rfl) (fun _ _ _ h => h) rfl (fun y hy => by obtain ⟨x1, x2, x3, x4⟩ := hy; go_simp) ?_
                try simp only [Act.put]
                refine Held.take (i := 19) (.pointer (some ⟨by_, oy + m * 2, none⟩)) rfl hS (by kernel_rfl) (by kernel_rfl) (by kernel_rfl) (by kernel_rfl) (fun _ _ _ h => h) rfl (fun y hy => by obtain ⟨x1, x2, x3, x4⟩ := hy; go_simp) ?_
                try simp only [Act.put]
                refine Held.take (i := 20) (.pointer (some ⟨by_, oy + m * 2 + 1, none⟩)) rfl hS (by kernel_rfl) (by kernel_rfl) (by kernel_rfl) (by kernel_rfl) (fun _ _ _ h => h) rfl (fun y hy => by obtain ⟨x1, x2, x3, x4⟩ := hy; go_simp) ?_
                try simp only [Act.put]
                refine Held.take (i := 21) (.int .i64 y.m) rfl hS (by kernel_rfl) (by kernel_rfl) (by kernel_rfl) (by kernel_rfl) (fun _ _ _ h => h) rfl (fun y hy => by obtain ⟨x1, x2, x3, x4⟩ := hy; go_simp) ?_
                try simp only [Act.put]
                refine Held.take (i := 22) (.int .i64 pm) rfl hS (by kernel_rfl) (by kernel_rfl) (by kernel_rfl) (by kernel_rfl) (fun _ _ _ h => h) rfl (fun y hy => by obtain ⟨x1, x2, x3, x4⟩ := hy; go_simp) ?_
                try simp only [Act.put]
                refine Held.one (i := 11) rfl (by kernel_rfl) rfl (fun K hK => ?_)
                unfold Oper.wp
                go_simp
                refine (both9_any x'.A x'.n x'.c x'.r y.A y.n y.c y.r X1 hrx hry (by omega) (by omega)).mono ?_
                rintro e X2 ⟨Ad, cd, rfl, hown, hb2⟩
                have hrow : RowK X2 X2.heap.size Ad (x'.n + y.n) (x'.r ++ y.r) := RowK.of_own hown (by omega)
                have hB2 := bstep hB1 hb2
                have hO2 := hO1.below hb2
                have hl2 := hb1.below hb2
                have hS2 : X2.cell? ⟨bx, ox + i1 * 2, none⟩ = some (.slice x'.A x'.n x'.c) ∧ X2.cell? ⟨bx, ox + i1 * 2 + 1, none⟩ = some (.int .i64 x'.m) ∧ X2.cell? ⟨by_, oy + m * 2, none⟩ = some (.slice y.A y.n y.c) ∧ X2.cell? ⟨by_, oy + m * 2 + 1, none⟩ = some (.int .i64 y.m) := ⟨(hb2.cell hbx).trans hS.1, (hb2.cell hbx).trans hS.2.1, (hb2.cell hby).trans hS.2.2.1, (hb2.cell hby).trans hS.2.2.2⟩
                have hbx := Nat.lt_of_lt_of_le hbx hb2.size
                have hby := Nat.lt_of_lt_of_le hby hb2.size
                refine hK _ _ (fun _ => hS2) ?_
                try simp only [Act.put]
                obtain ⟨mm, hmm⟩ : ∃ mm, x'.n + y.n = mm := ⟨_, rfl⟩
                have hmm16 : mm ≤ 16 := by omega
                rw [hmm] at hrow ⊢
                clear hK K hS hb2 hown hB1 hO1 hb1 hrx hry hmm
                have hS := hS2
                clear hS2
                refine Held.one (i := 23) rfl (by kernel_rfl) rfl (fun K hK => ?_)
                unfold Oper.wp
                go_simp
                refine (RTold_any _ Ao no co Ad mm cd (x'.r ++ y.r) pm X2 HTO.out hO2 hrow (by omega) (by omega)).mono ?_
                rintro e X3 ⟨An, nn, cn, rfl, hO3, hb3⟩
                have hB3 := bstep hB2 hb3
                have hl3 := hl2.below hb3
                have HS3 := hide (show X3.cell? ⟨bx, ox + i1 * 2, none⟩ = some (.slice x'.A x'.n x'.c) ∧ X3.cell? ⟨bx, ox + i1 * 2 + 1, none⟩ = some (.int .i64 x'.m) ∧ X3.cell? ⟨by_, oy + m * 2, none⟩ = some (.slice y.A y.n y.c) ∧ X3.cell? ⟨by_, oy + m * 2 + 1, none⟩ = some (.int .i64 y.m) from ⟨(hb3.cell hbx).trans hS.1, (hb3.cell hbx).trans hS.2.1, (hb3.cell hby).trans hS.2.2.1, (hb3.cell hby).trans hS.2.2.2⟩)
                refine hK _ _ (fun _ => HS3.out) ?_
                try simp only [Act.put]
                have HO3 := hide hO3
                clear hK K hS hb3 hB2 hO2 hl2 hrow hO3 hbx hby
                refine Held.one (i := 24) rfl (by kernel_rfl) rfl (fun K hK => ?_)
                unfold Oper.wp
                go_simp
                refine hK _ _ (fun _ => HS3.out) ?_
                try simp only [Act.put]
                clear hK K
                refine Held.done (by kernel_rfl) ?_
                have c0 := hl3.cell hlt2
                have fz := hl3.2.frozen m
                have HBL := hide ((hl3.put (k := m) false).congr fun j _ => midF_yes HYD.out HQ.out j)
                have HB := hide (hB3.setCell (p := ⟨lb, m, none⟩) hl3.1 (.bool false))
                have HO := hide (HO3.out.offB c0 (.bool false))
                clear hl3 hB3 HS3 HO3
                go_wp2
                go_roundw
                case rel => exact ⟨m + 1, by omega, by go_num, by rw [HMT.out]; rfl, by rw [HPR.out, ← List.append_assoc]; exact HO.out, HBL.out, HB.out⟩
                case measure => simp [intOf]; omega
            · obtain rfl : m = k := by omega
              rw [show (dat lr).take m = dat lr from take_all HN4.out] at hO ⊢
              have hbm := (show Bl w.heap.size wr lb m (loneF on others ((dat ll).take (i1 + 1)) (dat lr)) from by rw [HTX.out]; exact hbl.congr fun j hj => midF_all hj)
              clear hbl
              have hbl := hbm
              clear hbm
              obtain ⟨mt, hmt⟩ : ∃ mt, meets on others (x.r, x.m) (dat lr) = mt := ⟨_, rfl⟩
              have HSN := hide (show leftsL lf on others width ((dat ll).take (i1 + 1)) (dat lr) = leftsL lf on others width ((dat ll).take i1) (dat lr) ++ pairL on others (x.r, x.m) (dat lr) ++ (if lf && !mt then [(x.r ++ nullR width, x.m)] else []) from by
                rw [HTX.out, leftsL_snoc, List.append_assoc, ← hmt]
                rfl)
              rw [hmt]
              clear hmt
              have r0 : kind.tmod 2 = kind % 2 := Int.tmod_eq_emod_of_nonneg hk.1
              have HLF2 := HLF.out
              have d1 : (kind % 2 == 1) = lf := by
                rw [HLF2]
                by_cases e : kind % 2 = 1 <;> simp [e]
              clear HLF2
              cases mt
              · cases lf
                · have HS2 := hide (show leftsL false on others width ((dat ll).take (i1 + 1)) (dat lr) = leftsL false on others width ((dat ll).take i1) (dat lr) ++ pairL on others (x.r, x.m) (dat lr) from by rw [HSN.out]; simp)
                  go_wp2
                  go_roundw
                  case rel => exact ⟨i1 + 1, by omega, by go_num, by rw [HS2.out]; exact hO, hbl, hBr⟩
                  case measure => simp [intOf]; omega
                · skip
                  have HS2 := hide (show leftsL true on others width ((dat ll).take (i1 + 1)) (dat lr) = leftsL true on others width ((dat ll).take i1) (dat lr) ++ pairL on others (x.r, x.m) (dat lr) ++ [(x.r ++ nullR width, x.m)] from by rw [HSN.out]; simp)
                  obtain ⟨bx, ox, x', rfl, hbx, hxk', e0, e1, hrx⟩ := (PC.out.stepO hBr).at_ hli
                  obtain rfl : x' = x := by rw [HX.out] at hxk'; exact (Option.some.inj hxk').symm
                  have hlx := hrx.len
                  have hxp := HXP.out
                  have hxn8 : x'.n ≤ 8 := by omega
                  have hxmb : -4000000000000 ≤ x'.m ∧ x'.m ≤ 4000000000000 := by omega
                  clear hxk' hxp
                  obtain ⟨Ao, no, co, rfl, hOz⟩ := hO.form
                  have HTO := hide (show ToldOk (leftsL true on others width ((dat ll).take i1) (dat lr) ++ pairL on others (x'.r, x'.m) (dat lr)) from by have h := told_pairs (lf := true) (x := (x'.r, x'.m)) SL.out SR.out hw HXP.out i1 m; rwa [take_all HN4.out] at h)
                  clear hO
                  go_wp2_with fail
                  refine Held.begin (fun z => z.cell? ⟨bx, ox + i1 * 2, none⟩ = some (.slice x'.A x'.n x'.c) ∧ z.cell? ⟨bx, ox + i1 * 2 + 1, none⟩ = some (.int .i64 x'.m)) 100 (by kernel_rfl) ?_
                  have hdr : Below wr.heap.size wr wr.drew := (Below.refl _ _).drew
                  have hS : wr.drew.cell? ⟨bx, ox + i1 * 2, none⟩ = some (.slice x'.A x'.n x'.c) ∧ wr.drew.cell? ⟨bx, ox + i1 * 2 + 1, none⟩ = some (.int .i64 x'.m) := ⟨e0, e1⟩
                  have hB1 := bstep hBr hdr
                  have hO1 := hOz.below hdr
                  have hb1 := hbl.below hdr
                  have hrx := (hrx.below hdr).mono hdr.size
                  have hbx := Nat.lt_of_lt_of_le hbx hdr.size
                  obtain ⟨X1, hX1⟩ : ∃ X1, wr.drew = X1 := ⟨_, rfl⟩
                  rw [hX1] at hS hB1 hO1 hb1 hrx hbx ⊢
                  clear hX1 hdr hBr hOz hbl e0 e1
                  refine Held.take (i := 0) (.slice Ao no co) rfl hS (by kernel_rfl) (by kernel_rfl) (by kernel_rfl) (by kernel_rfl) (fun _ _ _ h => h) rfl (fun y hy => by obtain ⟨x1, x2⟩ := hy; go_simp) ?_
                  try simp only [Act.put]
                  refine Held.take (i := 1) (.slice (some ⟨bx, ox, none⟩) n3 c3) rfl hS (by kernel_rfl) (by kernel_rfl) (by kernel_rfl) (by kernel_rfl) (fun _ _ _ h => h) rfl (fun y hy => by obtain ⟨x1, x2⟩ := hy; go_simp) ?_
                  try simp only [Act.put]
                  refine Held.take (i := 2) (.int .i64 (i1 : Int)) rfl hS (by kernel_rfl) (by kernel_rfl) (by kernel_rfl) (by kernel_rfl) (fun _ _ _ h => h) rfl (fun y hy => by obtain ⟨x1, x2⟩ := hy; go_simp) ?_
                  try simp only [Act.put]
                  refine Held.take (i := 3) (.pointer (some ⟨bx, ox + i1 * 2, none⟩)) rfl hS (by kernel_rfl) (by kernel_rfl) (by kernel_rfl) (by kernel_rfl) (fun _ _ _ h => h) rfl (fun y hy => by obtain ⟨x1, x2⟩ := hy; go_simp) ?_
                  try simp only [Act.put]
                  refine Held.take (i := 4) (.pointer (some ⟨bx, ox + i1 * 2, none⟩)) rfl hS (by kernel_rfl) (by kernel_rfl) (by kernel_rfl) (by kernel_rfl) (fun _ _ _ h => h) rfl (fun y hy => by obtain ⟨x1, x2⟩ := hy; go_simp) ?_
                  try simp only [Act.put]
                  refine Held.take (i := 5) (.slice x'.A x'.n x'.c) rfl hS (by kernel_rfl) (by kernel_rfl) (by kernel_rfl) (by kernel_rfl) (fun _ _ _ h => h) rfl (fun y hy => by obtain ⟨x1, x2⟩ := hy; go_simp) ?_
                  try simp only [Act.put]
                  refine Held.take (i := 6) (.int .i64 (width : Int)) rfl hS (by kernel_rfl) (by kernel_rfl) (by kernel_rfl) (by kernel_rfl) (fun _ _ _ h => h) rfl (fun y hy => by obtain ⟨x1, x2⟩ := hy; go_simp) ?_
                  try simp only [Act.put]
                  refine Held.take (i := 9) (.slice (some ⟨bx, ox, none⟩) n3 c3) rfl hS (by kernel_rfl) (by kernel_rfl) (by kernel_rfl) (by kernel_rfl) (fun _ _ _ h => h) rfl (fun y hy => by obtain ⟨x1, x2⟩ := hy; go_simp) ?_
                  try simp only [Act.put]
                  refine Held.take (i := 10) (.int .i64 (i1 : Int)) rfl hS (by kernel_rfl) (by kernel_rfl) (by kernel_rfl) (by kernel_rfl) (fun _ _ _ h => h) rfl (fun y hy => by obtain ⟨x1, x2⟩ := hy; go_simp) ?_
                  try simp only [Act.put]
                  refine Held.take (i := 11) (.pointer (some ⟨bx, ox + i1 * 2, none⟩)) rfl hS (by kernel_rfl) (by kernel_rfl) (by kernel_rfl) (by kernel_rfl) (fun _ _ _ h => h) rfl (fun y hy => by obtain ⟨x1, x2⟩ := hy; go_simp) ?_
                  try simp only [Act.put]
                  refine Held.take (i := 12) (.pointer (some ⟨bx, ox + i1 * 2 + 1, none⟩)) rfl hS (by kernel_rfl) (by kernel_rfl) (by kernel_rfl) (by kernel_rfl) (fun _ _ _ h => h) rfl (fun y hy => by obtain ⟨x1, x2⟩ := hy; go_simp) ?_
                  try simp only [Act.put]
                  refine Held.take (i := 13) (.int .i64 x'.m) rfl hS (by kernel_rfl) (by kernel_rfl) (by kernel_rfl) (by kernel_rfl) (fun _ _ _ h => h) rfl (fun y hy => by obtain ⟨x1, x2⟩ := hy; go_simp) ?_
                  try simp only [Act.put]
                  refine Held.one (i := 7) rfl (by kernel_rfl) rfl (fun K hK => ?_)
                  unfold Oper.wp
                  go_simp
                  refine (Nulls_any width X1 (by omega)).mono ?_
                  rintro e X2 ⟨Az, cz, rfl, hown, hb2⟩
                  have hrz : RowK X2 X2.heap.size Az width (nullR width) := RowK.of_own hown (by omega)
                  have hB2 := bstep hB1 hb2
                  have hO2 := hO1.below hb2
                  have hl2 := hb1.below hb2
                  have hrx := (hrx.below hb2).mono hb2.size
                  have hS2 : X2.cell? ⟨bx, ox + i1 * 2, none⟩ = some (.slice x'.A x'.n x'.c) ∧ X2.cell? ⟨bx, ox + i1 * 2 + 1, none⟩ = some (.int .i64 x'.m) := ⟨(hb2.cell hbx).trans hS.1, (hb2.cell hbx).trans hS.2⟩
                  have hbx := Nat.lt_of_lt_of_le hbx hb2.size
                  refine hK _ _ (fun _ => hS2) ?_
                  try simp only [Act.put]
                  clear hK K hS hb2 hown hB1 hO1 hb1
                  have hS := hS2
                  clear hS2
                  refine Held.one (i := 8) rfl (by kernel_rfl) rfl (fun K hK => ?_)
                  unfold Oper.wp
                  go_simp
                  refine (both9_any x'.A x'.n x'.c x'.r Az width cz (nullR width) X2 hrx hrz (by omega) (by omega)).mono ?_
                  rintro e X3 ⟨Ad, cd, rfl, hown, hb2⟩
                  have hrow : RowK X3 X3.heap.size Ad (x'.n + width) (x'.r ++ nullR width) := RowK.of_own hown (by omega)
                  have hB3 := bstep hB2 hb2
                  have hO3 := hO2.below hb2
                  have hl3 := hl2.below hb2
                  have hS2 : X3.cell? ⟨bx, ox + i1 * 2, none⟩ = some (.slice x'.A x'.n x'.c) ∧ X3.cell? ⟨bx, ox + i1 * 2 + 1, none⟩ = some (.int .i64 x'.m) := ⟨(hb2.cell hbx).trans hS.1, (hb2.cell hbx).trans hS.2⟩
                  have hbx := Nat.lt_of_lt_of_le hbx hb2.size
                  refine hK _ _ (fun _ => hS2) ?_
                  try simp only [Act.put]
                  obtain ⟨mm, hmm⟩ : ∃ mm, x'.n + width = mm := ⟨_, rfl⟩
                  have hmm16 : mm ≤ 1000 := by omega
                  rw [hmm] at hrow ⊢
                  clear hK K hS hb2 hown hB2 hO2 hl2 hrx hrz hmm
                  have hS := hS2
                  clear hS2
                  refine Held.one (i := 14) rfl (by kernel_rfl) rfl (fun K hK => ?_)
                  unfold Oper.wp
                  go_simp
                  refine (RTold_any _ Ao no co Ad mm cd (x'.r ++ nullR width) x'.m X3 HTO.out hO3 hrow (by omega) (by omega)).mono ?_
                  rintro e X4 ⟨An, nn, cn, rfl, hO4, hb3⟩
                  have hB4 := bstep hB3 hb3
                  have hl4 := hl3.below hb3
                  have HS3 := hide (show X4.cell? ⟨bx, ox + i1 * 2, none⟩ = some (.slice x'.A x'.n x'.c) ∧ X4.cell? ⟨bx, ox + i1 * 2 + 1, none⟩ = some (.int .i64 x'.m) from ⟨(hb3.cell hbx).trans hS.1, (hb3.cell hbx).trans hS.2⟩)
                  refine hK _ _ (fun _ => HS3.out) ?_
                  try simp only [Act.put]
                  have HO3 := hide hO4
                  clear hK K hS hb3 hB3 hO3 hl3 hrow hO4 hbx
                  refine Held.one (i := 15) rfl (by kernel_rfl) rfl (fun K hK => ?_)
                  unfold Oper.wp
                  go_simp
                  refine hK _ _ (fun _ => HS3.out) ?_
                  try simp only [Act.put]
                  clear hK K
                  refine Held.done (by kernel_rfl) ?_
                  have HBL := hide hl4
                  have HB := hide hB4
                  clear hl4 hB4 HS3
                  go_wp2
                  go_roundw
                  case rel => exact ⟨i1 + 1, by omega, by go_num, by rw [HS2.out]; exact HO3.out, HBL.out, HB.out⟩
                  case measure => simp [intOf]; omega
              · have HS2 := hide (show leftsL lf on others width ((dat ll).take (i1 + 1)) (dat lr) = leftsL lf on others width ((dat ll).take i1) (dat lr) ++ pairL on others (x.r, x.m) (dat lr) from by rw [HSN.out]; simp)
                go_wp2
                go_roundw
                case rel => exact ⟨i1 + 1, by omega, by go_num, by rw [HS2.out]; exact hO, hbl, hBr⟩
                case measure => simp [intOf]; omega
        · obtain rfl : i1 = n3 := by omega
          have htk : (dat ll).take i1 = dat ll := take_all HN3.out
          rw [htk] at hO hbl
          clear htk
          have d2 : decide (2 ≤ kind) = rt := HRT.out.symm
          go_wp2_with fail
          go_loopw [15, 21] (fun v i wr => ∃ j : Nat, j ≤ k ∧ i = .int .i64 j ∧ RBag (aftB [] (leftsL lf on others width (dat ll) (dat lr) ++ rightL rt on others wide (dat ll) ((dat lr).take j))) v wr ∧ Bl w.heap.size wr lb k (loneF on others (dat ll) (dat lr)) ∧ Below w.heap.size w wr) (fun _ i _ => k - (intOf i).toNat)
          case atStart => exact ⟨0, Nat.zero_le _, rfl, by rw [show rightL rt on others wide (dat ll) ((dat lr).take 0) = [] from rfl, List.append_nil]; exact hO, hbl, hBr⟩
          case round =>
            clear hO hbl hBr
            obtain ⟨j, hj, rfl, hO, hbl, hBr⟩ := hrel
            by_cases hlt2 : j < k
            · have q3 : (0 : Int) ≤ (j : Int) := by omega
              have q4 : (j : Int) < (k : Int) := by omega
              obtain ⟨bx, ox, y, rfl, hbx, hyk, e0, e1, hrx⟩ := (PD.out.stepO hBr).at_ hlt2
              have HYD := hide (dat_at hyk)
              have hyin := List.mem_of_getElem? HYD.out
              obtain ⟨sy1, sy2, sy3⟩ := SR.out.row _ hyin
              have sy4 := SR.out.num _ hyin
              simp only at sy1 sy2 sy3 sy4
              have hly := hrx.len
              have hyn8 : y.n ≤ 8 := by omega
              have hxmb : -4000000000000 ≤ y.m ∧ y.m ≤ 4000000000000 := by omega
              have c0 := hbl.cell hlt2
              rw [loneF_at HYD.out] at c0
              obtain ⟨lo, hlo⟩ : ∃ lo, loneB on others (dat ll) (y.r, y.m) = lo := ⟨_, rfl⟩
              have HSN := hide (show rightL rt on others wide (dat ll) ((dat lr).take (j + 1)) = rightL rt on others wide (dat ll) ((dat lr).take j) ++ if rt && lo then [(nullR wide ++ y.r, y.m)] else [] from by
                rw [take_snoc' HYD.out, rightL_snoc, ← hlo])
              rw [hlo] at c0
              clear hlo hyk hyin sy3
              cases lo
              · have HS2 := hide (show rightL rt on others wide (dat ll) ((dat lr).take (j + 1)) = rightL rt on others wide (dat ll) ((dat lr).take j) from by rw [HSN.out]; simp)
                clear e0 e1 hrx
                go_wp2
                go_roundw
                case rel => exact ⟨j + 1, by omega, by go_num, by rw [HS2.out]; exact hO, hbl, hBr⟩
                case measure => simp [intOf]; omega
              · cases rt
                · have HS2 := hide (show rightL false on others wide (dat ll) ((dat lr).take (j + 1)) = rightL false on others wide (dat ll) ((dat lr).take j) from by rw [HSN.out]; simp)
                  clear e0 e1 hrx
                  go_wp2
                  go_roundw
                  case rel => exact ⟨j + 1, by omega, by go_num, by rw [HS2.out]; exact hO, hbl, hBr⟩
                  case measure => simp [intOf]; omega
                · skip
                  have HS2 := hide (show rightL true on others wide (dat ll) ((dat lr).take (j + 1)) = rightL true on others wide (dat ll) ((dat lr).take j) ++ [(nullR wide ++ y.r, y.m)] from by rw [HSN.out]; simp)
                  obtain ⟨Ao, no, co, rfl, hOz⟩ := hO.form
                  have HTO := hide (told_rights (lf := lf) (rt := true) SL.out SR.out hw j)
                  clear hO
                  go_wp2_with fail
                  refine Held.begin (fun z => z.cell? ⟨bx, ox + j * 2, none⟩ = some (.slice y.A y.n y.c) ∧ z.cell? ⟨bx, ox + j * 2 + 1, none⟩ = some (.int .i64 y.m)) 100 (by kernel_rfl) ?_
                  have hdr : Below wr.heap.size wr wr.drew := (Below.refl _ _).drew
                  have hS : wr.drew.cell? ⟨bx, ox + j * 2, none⟩ = some (.slice y.A y.n y.c) ∧ wr.drew.cell? ⟨bx, ox + j * 2 + 1, none⟩ = some (.int .i64 y.m) := ⟨e0, e1⟩
                  have hB1 := bstep hBr hdr
                  have hO1 := hOz.below hdr
                  have hb1 := hbl.below hdr
                  have hrx := (hrx.below hdr).mono hdr.size
                  have hbx := Nat.lt_of_lt_of_le hbx hdr.size
                  obtain ⟨X1, hX1⟩ : ∃ X1, wr.drew = X1 := ⟨_, rfl⟩
                  rw [hX1] at hS hB1 hO1 hb1 hrx hbx ⊢
                  clear hX1 hdr hBr hOz hbl e0 e1
                  refine Held.take (i := 0) (.slice Ao no co) rfl hS (by kernel_rfl) (by kernel_rfl) (by kernel_rfl) (by kernel_rfl) (fun _ _ _ h => h) rfl (fun y hy => by obtain ⟨x1, x2⟩ := hy; go_simp) ?_
                  try simp only [Act.put]
                  refine Held.take (i := 1) (.int .i64 (wide : Int)) rfl hS (by kernel_rfl) (by kernel_rfl) (by kernel_rfl) (by kernel_rfl) (fun _ _ _ h => h) rfl (fun y hy => by obtain ⟨x1, x2⟩ := hy; go_simp) ?_
                  try simp only [Act.put]
                  refine Held.take (i := 3) (.slice (some ⟨bx, ox, none⟩) k c4) rfl hS (by kernel_rfl) (by kernel_rfl) (by kernel_rfl) (by kernel_rfl) (fun _ _ _ h => h) rfl (fun y hy => by obtain ⟨x1, x2⟩ := hy; go_simp) ?_
                  try simp only [Act.put]
                  refine Held.take (i := 4) (.int .i64 (j : Int)) rfl hS (by kernel_rfl) (by kernel_rfl) (by kernel_rfl) (by kernel_rfl) (fun _ _ _ h => h) rfl (fun y hy => by obtain ⟨x1, x2⟩ := hy; go_simp) ?_
                  try simp only [Act.put]
                  refine Held.take (i := 5) (.pointer (some ⟨bx, ox + j * 2, none⟩)) rfl hS (by kernel_rfl) (by kernel_rfl) (by kernel_rfl) (by kernel_rfl) (fun _ _ _ h => h) rfl (fun y hy => by obtain ⟨x1, x2⟩ := hy; go_simp) ?_
                  try simp only [Act.put]
                  refine Held.take (i := 6) (.pointer (some ⟨bx, ox + j * 2, none⟩)) rfl hS (by kernel_rfl) (by kernel_rfl) (by kernel_rfl) (by kernel_rfl) (fun _ _ _ h => h) rfl (fun y hy => by obtain ⟨x1, x2⟩ := hy; go_simp) ?_
                  try simp only [Act.put]
                  refine Held.take (i := 7) (.slice y.A y.n y.c) rfl hS (by kernel_rfl) (by kernel_rfl) (by kernel_rfl) (by kernel_rfl) (fun _ _ _ h => h) rfl (fun y hy => by obtain ⟨x1, x2⟩ := hy; go_simp) ?_
                  try simp only [Act.put]
                  refine Held.take (i := 9) (.slice (some ⟨bx, ox, none⟩) k c4) rfl hS (by kernel_rfl) (by kernel_rfl) (by kernel_rfl) (by kernel_rfl) (fun _ _ _ h => h) rfl (fun y hy => by obtain ⟨x1, x2⟩ := hy; go_simp) ?_
                  try simp only [Act.put]
                  refine Held.take (i := 10) (.int .i64 (j : Int)) rfl hS (by kernel_rfl) (by kernel_rfl) (by kernel_rfl) (by kernel_rfl) (fun _ _ _ h => h) rfl (fun y hy => by obtain ⟨x1, x2⟩ := hy; go_simp) ?_
                  try simp only [Act.put]
                  refine Held.take (i := 11) (.pointer (some ⟨bx, ox + j * 2, none⟩)) rfl hS (by kernel_rfl) (by kernel_rfl) (by kernel_rfl) (by kernel_rfl) (fun _ _ _ h => h) rfl (fun y hy => by obtain ⟨x1, x2⟩ := hy; go_simp) ?_
                  try simp only [Act.put]
                  refine Held.take (i := 12) (.pointer (some ⟨bx, ox + j * 2 + 1, none⟩)) rfl hS (by kernel_rfl) (by kernel_rfl) (by kernel_rfl) (by kernel_rfl) (fun _ _ _ h => h) rfl (fun y hy => by obtain ⟨x1, x2⟩ := hy; go_simp) ?_
                  try simp only [Act.put]
                  refine Held.take (i := 13) (.int .i64 y.m) rfl hS (by kernel_rfl) (by kernel_rfl) (by kernel_rfl) (by kernel_rfl) (fun _ _ _ h => h) rfl (fun y hy => by obtain ⟨x1, x2⟩ := hy; go_simp) ?_
                  try simp only [Act.put]
                  refine Held.one (i := 2) rfl (by kernel_rfl) rfl (fun K hK => ?_)
                  unfold Oper.wp
                  go_simp
                  refine (Nulls_any wide X1 (by omega)).mono ?_
                  rintro e X2 ⟨Az, cz, rfl, hown, hb2⟩
                  have hrz : RowK X2 X2.heap.size Az wide (nullR wide) := RowK.of_own hown (by omega)
                  have hB2 := bstep hB1 hb2
                  have hO2 := hO1.below hb2
                  have hl2 := hb1.below hb2
                  have hrx := (hrx.below hb2).mono hb2.size
                  have hS2 : X2.cell? ⟨bx, ox + j * 2, none⟩ = some (.slice y.A y.n y.c) ∧ X2.cell? ⟨bx, ox + j * 2 + 1, none⟩ = some (.int .i64 y.m) := ⟨(hb2.cell hbx).trans hS.1, (hb2.cell hbx).trans hS.2⟩
                  have hbx := Nat.lt_of_lt_of_le hbx hb2.size
                  refine hK _ _ (fun _ => hS2) ?_
                  try simp only [Act.put]
                  clear hK K hS hb2 hown hB1 hO1 hb1
                  have hS := hS2
                  clear hS2
                  refine Held.one (i := 8) rfl (by kernel_rfl) rfl (fun K hK => ?_)
                  unfold Oper.wp
                  go_simp
                  refine (both9_any Az wide cz (nullR wide) y.A y.n y.c y.r X2 hrz hrx (by omega) (by omega)).mono ?_
                  rintro e X3 ⟨Ad, cd, rfl, hown, hb2⟩
                  have hrow : RowK X3 X3.heap.size Ad (wide + y.n) (nullR wide ++ y.r) := RowK.of_own hown (by omega)
                  have hB3 := bstep hB2 hb2
                  have hO3 := hO2.below hb2
                  have hl3 := hl2.below hb2
                  have hS2 : X3.cell? ⟨bx, ox + j * 2, none⟩ = some (.slice y.A y.n y.c) ∧ X3.cell? ⟨bx, ox + j * 2 + 1, none⟩ = some (.int .i64 y.m) := ⟨(hb2.cell hbx).trans hS.1, (hb2.cell hbx).trans hS.2⟩
                  have hbx := Nat.lt_of_lt_of_le hbx hb2.size
                  refine hK _ _ (fun _ => hS2) ?_
                  try simp only [Act.put]
                  obtain ⟨mm, hmm⟩ : ∃ mm, wide + y.n = mm := ⟨_, rfl⟩
                  have hmm16 : mm ≤ 1000 := by omega
                  rw [hmm] at hrow ⊢
                  clear hK K hS hb2 hown hB2 hO2 hl2 hrx hrz hmm
                  have hS := hS2
                  clear hS2
                  refine Held.one (i := 14) rfl (by kernel_rfl) rfl (fun K hK => ?_)
                  unfold Oper.wp
                  go_simp
                  refine (RTold_any _ Ao no co Ad mm cd (nullR wide ++ y.r) y.m X3 HTO.out hO3 hrow (by omega) (by omega)).mono ?_
                  rintro e X4 ⟨An, nn, cn, rfl, hO4, hb3⟩
                  have hB4 := bstep hB3 hb3
                  have hl4 := hl3.below hb3
                  have HS3 := hide (show X4.cell? ⟨bx, ox + j * 2, none⟩ = some (.slice y.A y.n y.c) ∧ X4.cell? ⟨bx, ox + j * 2 + 1, none⟩ = some (.int .i64 y.m) from ⟨(hb3.cell hbx).trans hS.1, (hb3.cell hbx).trans hS.2⟩)
                  refine hK _ _ (fun _ => HS3.out) ?_
                  try simp only [Act.put]
                  have HO3 := hide hO4
                  clear hK K hS hb3 hB3 hO3 hl3 hrow hO4 hbx
                  refine Held.one (i := 15) rfl (by kernel_rfl) rfl (fun K hK => ?_)
                  unfold Oper.wp
                  go_simp
                  refine hK _ _ (fun _ => HS3.out) ?_
                  try simp only [Act.put]
                  clear hK K
                  refine Held.done (by kernel_rfl) ?_
                  have HBL := hide hl4
                  have HB := hide hB4
                  clear hl4 hB4 HS3
                  go_wp2
                  go_roundw
                  case rel => exact ⟨j + 1, by omega, by go_num, by rw [HS2.out, ← List.append_assoc]; exact HO3.out, HBL.out, HB.out⟩
                  case measure => simp [intOf]; omega
            · obtain rfl : j = k := by omega
              rw [take_all HN4.out] at hO
              obtain ⟨Ao, no, co, rfl, hO⟩ := hO.form
              go_wp2
              go_ret
              exact ⟨Ao, no, co, rfl, hO, hBr⟩
end

section
open Go.RowKit
attribute [local go_sem] Oper.semAt_some wide_fn wide_depth
set_option linter.unusedVariables false
set_option linter.unusedSimpArgs false

theorem outE_set (kind : Int) (on others : List Int) (wide width : Int) (l r : Bg) : outE kind on others wide width l r = if okBag l && okBag r then (if setE kind on others wide width l r = 0 then (if wholeB l && wholeB r then (if okBag (aftB [] (joinL (decide (kind % 2 = 1)) (decide (2 ≤ kind)) on others wide.toNat width.toNat l r)) then 0 else 4) else 10) else setE kind on others wide width l r) else 1 := by
  unfold outE setE
  obtain ⟨a, ha⟩ : ∃ a, (okBag l && okBag r) = a := ⟨_, rfl⟩
  obtain ⟨b, hb⟩ : ∃ b, (fitK on others && (wideG l wide && (wideG r width && !widerB wide width))) = b := ⟨_, rfl⟩
  obtain ⟨c, hc⟩ : ∃ c, (btw wide 0 8 && (btw width 0 8 && (btw kind 0 3 && (insK on wide && insK others width)))) = c := ⟨_, rfl⟩
  rw [ha, hb, hc]
  cases a <;> cases b <;> cases c <;> simp
theorem setE_zero {kind : Int} {on others : List Int} {wide width : Int} {l r : Bg} (h : setE kind on others wide width l r = 0) : (fitK on others = true ∧ wideG l wide = true ∧ wideG r width = true ∧ widerB wide width = false) ∧ btw wide 0 8 = true ∧ btw width 0 8 = true ∧ btw kind 0 3 = true ∧ insK on wide = true ∧ insK others width = true := by
  unfold setE at h
  obtain ⟨b, hb⟩ : ∃ b, (fitK on others && (wideG l wide && (wideG r width && !widerB wide width))) = b := ⟨_, rfl⟩
  obtain ⟨c, hc⟩ : ∃ c, (btw wide 0 8 && (btw width 0 8 && (btw kind 0 3 && (insK on wide && insK others width)))) = c := ⟨_, rfl⟩
  rw [hb, hc] at h
  cases b
  · simp at h
  cases c
  · simp at h
  simp only [Bool.and_eq_true, Bool.not_eq_true'] at hb hc
  exact ⟨⟨hb.1, hb.2.1, hb.2.2.1, hb.2.2.2⟩, hc.1, hc.2.1, hc.2.2.1, hc.2.2.2.1, hc.2.2.2.2⟩
theorem side_ok {l : Bg} {cols : List Int} {n : Nat} (h1 : wholeB l = true) (h2 : wideG l (n : Int) = true) (h3 : insK cols (n : Int) = true) : SideOk l cols n := by
  unfold wholeB at h1
  rw [Bool.and_eq_true] at h1
  have hw : ∀ x ∈ l, x.1.length = n := fun x hx => by
    have := List.all_eq_true.1 h2 x hx
    simp only [decide_eq_true_eq] at this
    omega
  refine ⟨fun x hx => ⟨(okBag_asc h1.1).1.ok x hx, hw x hx, hasC_wide (by rw [hw x hx]) h3⟩, fun x hx => ?_, ?_⟩
  · have g1 := (numB_ne ((okBag_asc h1.1).2.1 x hx)).2
    have g2 := h1.2
    unfold posB at g2
    have g3 := List.all_eq_true.1 g2 x hx
    simp only [decide_eq_true_eq] at g3
    have g4 := (numB_ne ((okBag_asc h1.1).2.1 x hx)).1
    omega
  · have := h1.1
    unfold okBag at this
    rw [Bool.and_eq_true, decide_eq_true_eq] at this
    exact this.2
theorem wider_fit {a b : Int} (h : widerB a b = false) (ha : btw a 0 8 = true) (hb : btw b 0 8 = true) : a.toNat + b.toNat ≤ 8 := by
  have h1 := btw_iff.1 ha
  have h2 := btw_iff.1 hb
  unfold widerB at h
  by_cases e : 0 < a ∧ 0 < b
  · rw [if_pos e] at h
    simp only [Bool.or_eq_false_iff, decide_eq_false_iff_not] at h
    omega
  · omega
end

end Go.Proofs.YtoapjidpfghnlaaGreatDoor
