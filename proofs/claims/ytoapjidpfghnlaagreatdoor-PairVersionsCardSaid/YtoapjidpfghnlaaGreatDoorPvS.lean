/-
  The walk of the reference's newest. No condition.
-/
import Derived.Test.YtoapjidpfghnlaaGreatDoorPvR
namespace Go.Proofs.YtoapjidpfghnlaaGreatDoor
open Go.RowKit
attribute [local go_sem] Oper.semAt_some wide_fn wide_depth
set_option linter.unusedVariables false
set_option linter.unusedSimpArgs false

/-- A row, handed back. -/
def RetRowN (w : World) (r : Rw) (e : Ending) (w' : World) : Prop := ∃ A n c, e = .returned (.slice A n c) ∧ RowK w' w'.heap.size A n r ∧ Below w.heap.size w w'
/-- Where the newest lies. -/
def AtN (lr : List Ev) (z : Option Te) (a : Int) : Prop := (a = -1 ∧ z = none) ∨ ∃ (j : Nat) (y : Ev), a = (j : Int) ∧ lr[j]? = some y ∧ z = some (y.t, y.r)
set_option maxRecDepth 100000 in
set_option maxHeartbeats 8000000 in
theorem newest9_any (A1 : Option Addr) (n1 c1 : Nat) (on : List Int) (A2 : Option Addr) (n2 c2 : Nat) (others : List Int) (wd : Nat) (x : Ev) (A4 : Option Addr) (n4 c4 : Nat) (lr : List Ev) (w : World)
    (h1 : Reads w w.heap.size 1 A1 n1 (on.map (Value.int .i64))) (h2 : Reads w w.heap.size 1 A2 n2 (others.map (Value.int .i64))) (hnn : n1 = n2) (hn1 : n1 ≤ 1000) (hw : wd ≤ 8) (hx : RowK w w.heap.size x.A x.n x.r) (h4 : EvR w w.heap.size A4 n4 lr) (hm4 : n4 ≤ 100000)
    (hox : okE (x.t, x.r) = true) (hor : ∀ y ∈ lr, okE (y.t, y.r) = true) (hhx : hasC x.r on = true) (hhr : ∀ y ∈ lr, hasC y.r others = true) :
    Calls Tryz.prog 89 #[.slice A1 n1 c1, .slice A2 n2 c2, .int .i64 (wd : Int), .agg #[.int .i64 x.t, .slice x.A x.n x.c], .slice A4 n4 c4] w (RetRowN w (rowN wd (newN on others (x.t, x.r) (dE lr)))) := by
  have HL4 := hide h4.len
  have hle4 := h4.le
  have HOX := hide hox
  have HOR := hide hor
  have HHX := hide hhx
  have HHR := hide hhr
  have HNN := hide hnn
  have PA := hide h1
  have PB := hide h2
  have PX := hide hx
  have PD := hide h4
  clear hox hor hhx hhr hnn h1 h2 hx h4
  have hBa := below_val (w := w) #[.int .i64 x.t, .slice x.A x.n x.c] 36
  have kx := Blk.new w 36 #[.int .i64 x.t, .slice x.A x.n x.c]
  go_enter Tryz.func89, Tryz.ntmps89
  go_wp2_with fail
  obtain ⟨Wa, hWa⟩ : ∃ Wa, w.alloc (.cells #[.int .i64 x.t, .slice x.A x.n x.c] 36) = Wa := ⟨_, rfl⟩
  rw [hWa] at hBa kx ⊢
  obtain ⟨kb, hkb⟩ : ∃ kb, w.heap.size = kb := ⟨_, rfl⟩
  rw [hkb] at kx ⊢
  clear hWa
  go_loopw [11, 12] (fun v i wr => ∃ (k : Nat) (a : Int), k ≤ n4 ∧ i = .int .i64 k ∧ v = .int .i64 a ∧ AtN lr (newN on others (x.t, x.r) (dE (lr.take k))) a ∧ Below Wa.heap.size Wa wr) (fun _ i _ => n4 - (intOf i).toNat)
  case atStart => exact ⟨0, -1, Nat.zero_le _, rfl, rfl, .inl ⟨rfl, rfl⟩, Below.refl _ _⟩
  case round =>
    obtain ⟨k, a, hk, rfl, rfl, hat, hBk⟩ := hrel
    have hBr := bstep hBa hBk
    have kx2 := kx.below hBk kx.lt
    have x0 : wr.cell? ⟨kb, 0, none⟩ = some (.int .i64 x.t) := by simpa using kx2.cell 0
    have x1 : wr.cell? ⟨kb, 1, none⟩ = some (.slice x.A x.n x.c) := by simpa using kx2.cell 1
    by_cases hlt : k < n4
    · obtain ⟨b, off, y, hA, hb, hyk, e0, e1, hry⟩ := (PD.out.step' hBr).at_ hlt
      have hyin := List.mem_of_getElem? hyk
      have hoy := HOR.out y hyin
      have HSN := hide (show newN on others (x.t, x.r) (dE (lr.take (k + 1))) = if eqK on others x.r y.r then newS (x.t, x.r) (newN on others (x.t, x.r) (dE (lr.take k))) (y.t, y.r) else newN on others (x.t, x.r) (dE (lr.take k)) from by
        rw [take_snoc' hyk, dE_snoc, newN_snoc])
      have HYK := hide hyk
      have HAT := hide hat
      have q1 : (0 : Int) ≤ (k : Int) := by omega
      have q2 : (k : Int) < (n4 : Int) := by omega
      have hxr := (PX.out.below hBr).mono hBr.size
      have p0 := fun (p : BW wr) => BW.cell (a := ⟨b, off + k * 2, none⟩) hb e0 p
      have p1 := fun (p : BW wr) => BW.cell (a := ⟨b, off + k * 2 + 1, none⟩) hb e1 p
      have p2 := fun (p : BW wr) => BW.cell (a := ⟨kb, 0, none⟩) kx2.lt x0 p
      have p3 := fun (p : BW wr) => BW.cell (a := ⟨kb, 1, none⟩) kx2.lt x1 p
      have C1 := hide (fun (p : BW wr) => calls_bw (p := p) (equal_any A1 n1 c1 on A2 n2 c2 others x.A x.n x.c x.r y.A y.n y.c y.r p.x (PA.out.up (bstep hBr p.h)) (PB.out.up (bstep hBr p.h)) HNN.out (by omega) ((hxr.below p.h).mono p.h.size) ((hry.below p.h).mono p.h.size) (okR_vals (okE_row HOX.out)) (okR_vals (okE_row hoy)) HHX.out (HHR.out y hyin)))
      obtain ⟨q, hq⟩ : ∃ q, eqK on others x.r y.r = q := ⟨_, rfl⟩
      rw [hq] at C1 HSN
      have PE0 := hide e0
      have PE1 := hide e1
      have HRY := hide hry
      rw [hA]
      have HA := hide hA
      clear hq hyk hat e0 e1 hA hry hoy hyin
      by_cases ht : x.t < y.t
      · have d1 : decide (x.t < y.t) = true := decide_eq_true ht
        have HAN := hide (show AtN lr (newN on others (x.t, x.r) (dE (lr.take (k + 1)))) a from by
          rw [HSN.out]
          unfold newS
          rw [if_neg (show ¬ y.t ≤ x.t by omega)]
          cases q <;> exact HAT.out)
        clear x0 x1 ht hxr
        go_wp2_with fail
        (refine wp_region_quiet_bw (by kernel_rfl) (by kernel_rfl) ?_
         repeat (first | go_big_quiet_step (((go_at_call 78; with_reducible exact C1.out _))) | quiet_step (((go_at_call 78; with_reducible exact C1.out _))))
         refine wpQuiet_nil ?_
         intro wq hw'
         obtain ⟨⟨_, hbq⟩, hw''⟩ := hw'
         subst hw'')
        have HB2 := hide (bstep hBk hbq)
        clear hbq p0 p1 p2 p3 C1
        go_wp2
        go_roundw
        case rel => exact ⟨k + 1, a, by omega, by go_num, rfl, HAN.out, HB2.out⟩
        case measure => simp [intOf]; omega
      · have d1 : decide (x.t < y.t) = false := decide_eq_false ht
        cases q
        · have HAN := hide (show AtN lr (newN on others (x.t, x.r) (dE (lr.take (k + 1)))) a from by
            rw [HSN.out]
            exact HAT.out)
          clear x0 x1 ht hxr
          go_wp2_with fail
          (refine wp_region_quiet_bw (by kernel_rfl) (by kernel_rfl) ?_
           repeat (first | go_big_quiet_step (((go_at_call 78; with_reducible exact C1.out _))) | quiet_step (((go_at_call 78; with_reducible exact C1.out _))))
           refine wpQuiet_nil ?_
           intro wq hw'
           obtain ⟨⟨_, hbq⟩, hw''⟩ := hw'
           subst hw'')
          have HB2 := hide (bstep hBk hbq)
          clear hbq p0 p1 p2 p3 C1
          go_wp2
          go_roundw
          case rel => exact ⟨k + 1, a, by omega, by go_num, rfl, HAN.out, HB2.out⟩
          case measure => simp [intOf]; omega
        · have HSN2 := hide (show newN on others (x.t, x.r) (dE (lr.take (k + 1))) = (match newN on others (x.t, x.r) (dE (lr.take k)) with
            | none => some (y.t, y.r)
            | some z => if 0 < cmpE (y.t, y.r) z then some (y.t, y.r) else some z) from by
            rw [HSN.out, if_pos rfl]
            unfold newS
            rw [if_pos (show y.t ≤ x.t by omega)]
            cases newN on others (x.t, x.r) (dE (lr.take k)) <;> rfl)
          clear x0 x1 ht hxr HSN
          go_wp2_with fail
          (refine wp_region_quiet_bw (by kernel_rfl) (by kernel_rfl) ?_
           repeat (first | go_big_quiet_step (((go_at_call 78; with_reducible exact C1.out _))) | quiet_step (((go_at_call 78; with_reducible exact C1.out _))))
           refine wpQuiet_nil ?_
           intro wq hw'
           obtain ⟨⟨_, hbq⟩, hw''⟩ := hw'
           subst hw'')
          obtain ⟨wv, hwv⟩ : ∃ wv : World, wv = wq := ⟨_, rfl⟩
          subst hwv
          have hBk2 := bstep hBk hbq
          have hb2 := Nat.lt_of_lt_of_le hb hbq.size
          have f0 := (hbq.cell hb).trans PE0.out
          have f1 := (hbq.cell hb).trans PE1.out
          have hBr2 := bstep hBr hbq
          have hry2 := (HRY.out.below hbq).mono hbq.size
          clear hbq p0 p1 p2 p3 C1 hBk hBr kx2
          rcases HAT.out with ⟨ha, hz⟩ | ⟨j, z, ha, hzj, hz⟩
          · subst ha
            have HAN := hide (show AtN lr (newN on others (x.t, x.r) (dE (lr.take (k + 1)))) (k : Int) from .inr ⟨k, y, rfl, HYK.out, by rw [HSN2.out, hz]⟩)
            have p0 := fun (p : BW wv) => BW.cell (a := ⟨b, off + k * 2, none⟩) hb2 f0 p
            have p1 := fun (p : BW wv) => BW.cell (a := ⟨b, off + k * 2 + 1, none⟩) hb2 f1 p
            clear hz f0 f1 hry2
            go_wp2_with fail
            (refine wp_region_quiet_bw (by kernel_rfl) (by kernel_rfl) ?_
             repeat (first | go_big_quiet_step ((fail)) | quiet_step ((fail)))
             refine wpQuiet_nil ?_
             intro wq hw'
             obtain ⟨⟨_, hbq⟩, hw''⟩ := hw'
             subst hw'')
            have HB2 := hide (bstep hBk2 hbq)
            clear hbq p0 p1 hBk2 hBr2
            go_wp2
            go_roundw
            case rel => exact ⟨k + 1, k, by omega, by go_num, rfl, HAN.out, HB2.out⟩
            case measure => simp [intOf]; omega
          · subst ha
            have hj : j < n4 := by rw [← HL4.out]; exact (List.getElem?_eq_some_iff.1 hzj).1
            obtain ⟨b', off', z', hA', hb', hzk, g0, g1, hrz⟩ := (PD.out.step' hBr2).at_ hj
            obtain rfl : z' = z := by rw [hzj] at hzk; exact (Option.some.inj hzk).symm
            rw [HA.out] at hA'
            injection hA' with hA'
            injection hA' with e1 e2
            subst e1 e2
            have HZJ := hide hzj
            have r1 : (0 : Int) ≤ (j : Int) := by omega
            have r2 : (j : Int) < (n4 : Int) := by omega
            have r3 : decide ((j : Int) < 0) = false := decide_eq_false (by omega)
            have p0 := fun (p : BW wv) => BW.cell (a := ⟨b, off + k * 2, none⟩) hb2 f0 p
            have p1 := fun (p : BW wv) => BW.cell (a := ⟨b, off + k * 2 + 1, none⟩) hb2 f1 p
            have p2 := fun (p : BW wv) => BW.cell (a := ⟨b, off + j * 2, none⟩) hb2 g0 p
            have p3 := fun (p : BW wv) => BW.cell (a := ⟨b, off + j * 2 + 1, none⟩) hb2 g1 p
            have C2 := hide (fun (p : BW wv) => calls_bw (p := p) (R2Compare_any y.A y.n y.c y.r z'.A z'.n z'.c z'.r p.x ((hry2.below p.h).mono p.h.size).rd ((hrz.below p.h).mono p.h.size).rd hry2.le))
            obtain ⟨cr, hcr⟩ : ∃ cr, cmpR y.r z'.r = cr := ⟨_, rfl⟩
            rw [hcr] at C2
            have HCE := hide (show cmpE (y.t, y.r) (z'.t, z'.r) = thenC (cmpI y.t z'.t) cr from by rw [← hcr]; rfl)
            have HZZ := hide hz
            clear hcr hz hzj f0 f1 g0 g1 hry2 hrz hzk
            by_cases t1 : z'.t < y.t
            · have d2 : decide (z'.t < y.t) = true := decide_eq_true t1
              have HAN := hide (show AtN lr (newN on others (x.t, x.r) (dE (lr.take (k + 1)))) (k : Int) from .inr ⟨k, y, rfl, HYK.out, by
                rw [HSN2.out, HZZ.out]
                show (if 0 < cmpE (y.t, y.r) (z'.t, z'.r) then _ else _) = _
                rw [HCE.out, show cmpI y.t z'.t = 1 from by unfold cmpI; rw [if_neg (by omega), if_pos (by omega)]]
                rfl⟩)
              clear t1
              go_wp2_with fail
              (refine wp_region_quiet_bw (by kernel_rfl) (by kernel_rfl) ?_
               repeat (first | go_big_quiet_step (((go_at_call 106; with_reducible exact C2.out _))) | quiet_step (((go_at_call 106; with_reducible exact C2.out _))))
               refine wpQuiet_nil ?_
               intro wq hw'
               obtain ⟨⟨_, hbq⟩, hw''⟩ := hw'
               subst hw'')
              have HB2 := hide (bstep hBk2 hbq)
              clear hbq p0 p1 p2 p3 hBk2 hBr2 C2
              go_wp2
              go_roundw
              case rel => exact ⟨k + 1, k, by omega, by go_num, rfl, HAN.out, HB2.out⟩
              case measure => simp [intOf]; omega
            · have d2 : decide (z'.t < y.t) = false := decide_eq_false t1
              by_cases t2 : y.t = z'.t
              · have d3 : (y.t == z'.t) = true := by simpa using t2
                have HCE2 := hide (show cmpE (y.t, y.r) (z'.t, z'.r) = cr from by
                  rw [HCE.out, show cmpI y.t z'.t = 0 from by unfold cmpI; rw [if_neg (by omega), if_neg (by omega)]]
                  rfl)
                by_cases t3 : 0 < cr
                · have d4 : decide (0 < cr) = true := decide_eq_true t3
                  have HAN := hide (show AtN lr (newN on others (x.t, x.r) (dE (lr.take (k + 1)))) (k : Int) from .inr ⟨k, y, rfl, HYK.out, by
                    rw [HSN2.out, HZZ.out]
                    show (if 0 < cmpE (y.t, y.r) (z'.t, z'.r) then _ else _) = _
                    rw [HCE2.out, if_pos t3]⟩)
                  clear t1 t2 t3
                  go_wp2_with fail
                  (refine wp_region_quiet_bw (by kernel_rfl) (by kernel_rfl) ?_
                   repeat (first | go_big_quiet_step (((go_at_call 106; with_reducible exact C2.out _))) | quiet_step (((go_at_call 106; with_reducible exact C2.out _))))
                   refine wpQuiet_nil ?_
                   intro wq hw'
                   obtain ⟨⟨_, hbq⟩, hw''⟩ := hw'
                   subst hw'')
                  have HB2 := hide (bstep hBk2 hbq)
                  clear hbq p0 p1 p2 p3 hBk2 hBr2 C2
                  go_wp2
                  go_roundw
                  case rel => exact ⟨k + 1, k, by omega, by go_num, rfl, HAN.out, HB2.out⟩
                  case measure => simp [intOf]; omega
                · have d4 : decide (0 < cr) = false := decide_eq_false t3
                  have HAN := hide (show AtN lr (newN on others (x.t, x.r) (dE (lr.take (k + 1)))) (j : Int) from .inr ⟨j, z', rfl, HZJ.out, by
                    rw [HSN2.out, HZZ.out]
                    show (if 0 < cmpE (y.t, y.r) (z'.t, z'.r) then _ else _) = _
                    rw [HCE2.out, if_neg t3]⟩)
                  clear t1 t2 t3
                  go_wp2_with fail
                  (refine wp_region_quiet_bw (by kernel_rfl) (by kernel_rfl) ?_
                   repeat (first | go_big_quiet_step (((go_at_call 106; with_reducible exact C2.out _))) | quiet_step (((go_at_call 106; with_reducible exact C2.out _))))
                   refine wpQuiet_nil ?_
                   intro wq hw'
                   obtain ⟨⟨_, hbq⟩, hw''⟩ := hw'
                   subst hw'')
                  have HB2 := hide (bstep hBk2 hbq)
                  clear hbq p0 p1 p2 p3 hBk2 hBr2 C2
                  go_wp2
                  go_roundw
                  case rel => exact ⟨k + 1, j, by omega, by go_num, rfl, HAN.out, HB2.out⟩
                  case measure => simp [intOf]; omega
              · have d3 : (y.t == z'.t) = false := by simpa using t2
                have HAN := hide (show AtN lr (newN on others (x.t, x.r) (dE (lr.take (k + 1)))) (j : Int) from .inr ⟨j, z', rfl, HZJ.out, by
                  rw [HSN2.out, HZZ.out]
                  show (if 0 < cmpE (y.t, y.r) (z'.t, z'.r) then _ else _) = _
                  rw [HCE.out, show cmpI y.t z'.t = -1 from by unfold cmpI; rw [if_pos (by omega)]]
                  rfl⟩)
                clear t1 t2
                go_wp2_with fail
                (refine wp_region_quiet_bw (by kernel_rfl) (by kernel_rfl) ?_
                 repeat (first | go_big_quiet_step ((fail)) | quiet_step ((fail)))
                 refine wpQuiet_nil ?_
                 intro wq hw'
                 obtain ⟨⟨_, hbq⟩, hw''⟩ := hw'
                 subst hw'')
                have HB2 := hide (bstep hBk2 hbq)
                clear hbq p0 p1 p2 p3 hBk2 hBr2 C2
                go_wp2
                go_roundw
                case rel => exact ⟨k + 1, j, by omega, by go_num, rfl, HAN.out, HB2.out⟩
                case measure => simp [intOf]; omega
    · obtain rfl : k = n4 := by omega
      rw [take_all HL4.out] at hat
      have HAT := hide hat
      clear hat x0 x1
      rcases HAT.out with ⟨ha, hz⟩ | ⟨j, z, ha, hzj, hz⟩
      · subst ha
        have HZ := hide hz
        clear hz
        go_wp2_with fail
        refine (Nulls_any wd wr (by omega)).mono ?_
        rintro e W2 ⟨A, c, rfl, hown, hb2⟩
        have HR := hide (show RowK W2 W2.heap.size A wd (nullR wd) from RowK.of_own hown (by omega))
        have HB := hide (bstep hBr hb2)
        clear hown hb2
        go_wp2
        go_ret
        exact ⟨A, wd, c, rfl, by rw [HZ.out]; exact HR.out, HB.out⟩
      · subst ha
        have hj : j < k := by rw [← HL4.out]; exact (List.getElem?_eq_some_iff.1 hzj).1
        obtain ⟨b', off', z', hA', hb', hzk, g0, g1, hrz⟩ := (PD.out.step' hBr).at_ hj
        obtain rfl : z' = z := by rw [hzj] at hzk; exact (Option.some.inj hzk).symm
        have HZ := hide hz
        have HRZ := hide hrz
        have HB := hide hBr
        have r1 : (0 : Int) ≤ (j : Int) := by omega
        have r2 : (j : Int) < (k : Int) := by omega
        have r3 : decide ((j : Int) < 0) = false := decide_eq_false (by omega)
        rw [hA']
        clear hz hrz hzk hzj hA'
        go_wp2
        go_ret
        exact ⟨_, _, _, rfl, by rw [HZ.out]; exact HRZ.out, HB.out⟩
end Go.Proofs.YtoapjidpfghnlaaGreatDoor
