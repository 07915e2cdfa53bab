/-
  The walks of the reference's small functions of the version join: wide, Nulls, inside at any width, newest. No condition.
  The walk of the reference's newest. No condition.
  The walk of the reference's Versions. No condition.
-/
import Derived.Test.YtoapjidpfghnlaaGreatDoorVtM
import Derived.Test.YtoapjidpfghnlaaGreatDoorPrR5
namespace Go.Proofs.YtoapjidpfghnlaaGreatDoor

section
open Go.RowKit
attribute [local go_sem] Oper.semAt_some wide_fn wide_depth
set_option linter.unusedVariables false
set_option linter.unusedSimpArgs false

theorem wide_any (A : Option Addr) (n c : Nat) (l : List Ev) (m : Int) (w : World) (hl : EvR w w.heap.size A n l) :
    Calls Tryz.prog 88 #[.slice A n c, .int .i64 m] w (RetV w (.bool (wideB (dE l) m))) := by
  have HL := hide hl.len
  have hle := hl.le
  go_enter Tryz.func88, Tryz.ntmps88
  go_wp2_with fail
  go_loopw [5] (fun i wr => ∃ k : Nat, k ≤ n ∧ i = .int .i64 k ∧ wideB (dE (l.take k)) m = true ∧ w = wr) (fun i _ => n - (intOf i).toNat)
  case atStart => exact ⟨0, Nat.zero_le _, rfl, rfl, rfl⟩
  case round =>
    obtain ⟨k, hk, rfl, hany, hw⟩ := hrel
    subst hw
    have HA := hide hany
    clear hany
    by_cases hlt : k < n
    · obtain ⟨b, off, x, rfl, hb, hxk, e0, e1, hrow⟩ := hl.at_ hlt
      have HXL := hide hrow.len
      have HE := hide hxk
      clear hxk hrow
      have q1 : (0 : Int) ≤ (k : Int) := by omega
      have q2 : (k : Int) < (n : Int) := by omega
      by_cases hm : (x.n : Int) = m
      · have z1 : ((x.n : Int) != m) = false := by simpa using hm
        have z2 : ((x.n : Int) == m) = true := by simpa using hm
        have HX := hide (show wideB (dE (l.take (k + 1))) m = true by
          rw [take_snoc' HE.out, dE_snoc]
          unfold wideB at *
          rw [List.all_append, HA.out]
          simp [HXL.out, hm])
        clear hm e0
        go_wp2
        go_roundw
        case rel => exact ⟨k + 1, by omega, by go_num, HX.out, trivial⟩
        case measure => simp [intOf]; omega
      · have z1 : ((x.n : Int) != m) = true := by simpa using hm
        have z2 : ((x.n : Int) == m) = false := by simpa using hm
        have HX := hide (show false = wideB (dE l) m by
          symm
          unfold wideB
          rw [List.all_eq_false]
          exact ⟨(x.t, x.r), List.mem_of_getElem? (dE_at HE.out), by simp [HXL.out, hm]⟩)
        clear hm e0
        go_wp2
        go_ret
        exact ⟨ret_bool HX.out, Below.refl _ _⟩
    · obtain rfl : k = n := by omega
      have HX := hide (show true = wideB (dE l) m by
        have := HA.out
        rw [take_all HL.out] at this
        exact this.symm)
      go_wp2
      go_ret
      exact ⟨ret_bool HX.out, Below.refl _ _⟩
set_option maxRecDepth 100000 in
set_option maxHeartbeats 4000000 in
theorem Nulls_any (n : Nat) (w : World) (hn : n ≤ 1000) :
    Calls Tryz.prog 138 #[.int .i64 (n : Int)] w (RetRowO w n (nullR n)) := by
  obtain ⟨i0, hi, hz0, hz1, hz2⟩ := info_parts3 infoVal
  go_enter Tryz.func138, Tryz.ntmps138
  go_wp2_with fail
  go_loopw [3, 4] (fun v i wr => ∃ k : Nat, k ≤ n ∧ i = .int .i64 k ∧ wr.ownsRow w.heap.size 102 3 v k ((nullR k).flatMap encV) ∧ Below w.heap.size w wr) (fun _ i _ => n - (intOf i).toNat)
  case atStart => exact ⟨0, Nat.zero_le _, rfl, World.ownsRow_nil _ _ _ _, Below.refl _ _⟩
  case round =>
    obtain ⟨k, hk, rfl, hown, hB⟩ := hrel
    by_cases hlt : k < n
    · have q1 : (k : Int) < (n : Int) := by omega
      have hsz := hB.size
      have kv := Blk.new wr 102 #[.int .i64 0, .int .i64 0, .string ⟨#[]⟩]
      have hBv := below_val (w := wr) #[.int .i64 0, .int .i64 0, .string ⟨#[]⟩] 102
      have hrd : Reads (wr.alloc (.cells #[.int .i64 0, .int .i64 0, .string ⟨#[]⟩] 102)) (wr.heap.size + 1) 3 (some ⟨wr.heap.size, 0, none⟩) 1 [.int .i64 0, .int .i64 0, .string ⟨#[]⟩] :=
        ⟨rfl, fun _ => ⟨wr.heap.size, 0, rfl, by omega, fun j u hu => by rw [Nat.zero_add, kv.cell j]; simpa using hu⟩⟩
      have hown1 := hown.alloc (.cells #[.int .i64 0, .int .i64 0, .string ⟨#[]⟩] 102)
      have HNX := hide (show (nullR (k + 1)).flatMap encV = (nullR k).flatMap encV ++ [.int .i64 0, .int .i64 0, .string ⟨#[]⟩] by
        unfold nullR
        rw [List.replicate_succ', List.flatMap_append]
        rfl)
      have HB1 := hide (hB.trans (hBv.mono hsz))
      clear kv hBv hown
      go_wp2_with (at_builtin; refine wpList_append_any _ rfl _ _ 34 rfl w.heap.size 102 i0 _ 3 32 Tryz.underlying34 hi hz0 hz1 hz2 rfl (by decide) _ k _ rfl hown1 (wr.heap.size + 1) (some ⟨wr.heap.size, 0, none⟩) 1 1 [.int .i64 0, .int .i64 0, .string ⟨#[]⟩] rfl hrd (by simp [Value.oneCell']) (by unfold maxLen; omega) (by omega) (by simp; omega) ?_; intro v3 w3 hown3 hgrow _; have hB3 : Below w.heap.size w w3 := below_append HB1.out hown1 (by simp; omega) hgrow; clear hgrow)
      clear hB hrd hown1
      go_wp2
      go_roundw
      case rel => exact ⟨k + 1, by omega, by go_num, by rw [HNX.out]; exact hown3, hB3⟩
      case measure => simp [intOf]; omega
    · obtain rfl : k = n := by omega
      obtain ⟨A5, c5, rfl, _⟩ := own_form hown
      go_wp2
      go_ret
      exact ⟨A5, c5, rfl, hown, hB⟩
/-- What inside answers, whatever it is. -/
def RetAnyB (w : World) (e : Ending) (w' : World) : Prop := ∃ b : Bool, e = .returned (.bool b) ∧ Below w.heap.size w w'
theorem inside_some (A : Option Addr) (n c : Nat) (cols : List Int) (m : Int) (w : World) (hx : Reads w w.heap.size 1 A n (cols.map (Value.int .i64))) (hn : n ≤ 9223372036854775807) :
    Calls Tryz.prog 74 #[.slice A n c, .int .i64 m] w (RetAnyB w) := by
  have HL := hide hx.len1
  go_enter Tryz.func74, Tryz.ntmps74
  go_wp2_with fail
  go_loopw [5] (fun i wr => ∃ k : Nat, k ≤ n ∧ i = .int .i64 k ∧ w = wr) (fun i _ => n - (intOf i).toNat)
  case atStart => exact ⟨0, Nat.zero_le _, rfl, rfl⟩
  case round =>
    obtain ⟨k, hk, rfl, hw⟩ := hrel
    subst hw
    by_cases hlt : k < n
    · obtain ⟨b, off, x, rfl, hb, hxk, hc⟩ := hx.at1 hlt
      clear hxk
      have q1 : (0 : Int) ≤ (k : Int) := by omega
      have q2 : (k : Int) < (n : Int) := by omega
      obtain ⟨mm, hmm⟩ : ∃ mm, IntKind.i64.wrap (m - 1) = mm := ⟨_, rfl⟩
      go_wp2_with fail
      try rw [hmm]
      refine (R9within_any x 0 mm _).mono ?_
      rintro ee w1 ⟨rfl, rfl⟩
      clear hmm
      cases hv : btw x 0 mm
      · clear hv hc
        go_wp2
        go_ret
        exact ⟨false, rfl, Below.refl _ _⟩
      · clear hv hc
        go_wp2
        go_roundw
        case rel => exact ⟨k + 1, by omega, by go_num, trivial⟩
        case measure => simp [intOf]; omega
    · obtain rfl : k = n := by omega
      go_wp2
      go_ret
      exact ⟨true, rfl, Below.refl _ _⟩
end

section
open Go.RowKit
attribute [local go_sem] Oper.semAt_some wide_fn wide_depth
set_option linter.unusedVariables false
set_option linter.unusedSimpArgs false

/-- A row, handed back. -/
def RetRowN (w : World) (r : Rw) (e : Ending) (w' : World) : Prop := ∃ A n c, e = .returned (.slice A n c) ∧ RowK w' w'.heap.size A n r ∧ Below w.heap.size w w'
/-- Where the newest lies. -/
def AtN (lr : List Ev) (z : Option Te) (a : Int) : Prop := (a = -1 ∧ z = none) ∨ ∃ (j : Nat) (y : Ev), a = (j : Int) ∧ lr[j]? = some y ∧ z = some (y.t, y.r)
set_option maxRecDepth 100000 in
set_option maxHeartbeats 8000000 in
theorem newest9_any (A1 : Option Addr) (n1 c1 : Nat) (on : List Int) (A2 : Option Addr) (n2 c2 : Nat) (others : List Int) (wd : Nat) (x : Ev) (A4 : Option Addr) (n4 c4 : Nat) (lr : List Ev) (w : World)
    (h1 : Reads w w.heap.size 1 A1 n1 (on.map (Value.int .i64))) (h2 : Reads w w.heap.size 1 A2 n2 (others.map (Value.int .i64))) (hnn : n1 = n2) (hn1 : n1 ≤ 1000) (hw : wd ≤ 8) (hx : RowK w w.heap.size x.A x.n x.r) (h4 : EvR w w.heap.size A4 n4 lr) (hm4 : n4 ≤ 100000)
    (hox : okE (x.t, x.r) = true) (hor : ∀ y ∈ lr, okE (y.t, y.r) = true) (hhx : hasC x.r on = true) (hhr : ∀ y ∈ lr, hasC y.r others = true) :
    Calls Tryz.prog 89 #[.slice A1 n1 c1, .slice A2 n2 c2, .int .i64 (wd : Int), .agg #[.int .i64 x.t, .slice x.A x.n x.c], .slice A4 n4 c4] w (RetRowN w (rowN wd (newN on others (x.t, x.r) (dE lr)))) := by
  have HL4 := hide h4.len
  have hle4 := h4.le
  have HOX := hide hox
  have HOR := hide hor
  have HHX := hide hhx
  have HHR := hide hhr
  have HNN := hide hnn
  have PA := hide h1
  have PB := hide h2
  have PX := hide hx
  have PD := hide h4
  clear hox hor hhx hhr hnn h1 h2 hx h4
  have hBa := below_val (w := w) #[.int .i64 x.t, .slice x.A x.n x.c] 36
  have kx := Blk.new w 36 #[.int .i64 x.t, .slice x.A x.n x.c]
  go_enter Tryz.func89, Tryz.ntmps89
  go_wp2_with fail
  obtain ⟨Wa, hWa⟩ : ∃ Wa, w.alloc (.cells #[.int .i64 x.t, .slice x.A x.n x.c] 36) = Wa := ⟨_, rfl⟩
  rw [hWa] at hBa kx ⊢
  obtain ⟨kb, hkb⟩ : ∃ kb, w.heap.size = kb := ⟨_, rfl⟩
  rw [hkb] at kx ⊢
  clear hWa
  go_loopw [11, 12] (fun v i wr => ∃ (k : Nat) (a : Int), k ≤ n4 ∧ i = .int .i64 k ∧ v = .int .i64 a ∧ AtN lr (newN on others (x.t, x.r) (dE (lr.take k))) a ∧ Below Wa.heap.size Wa wr) (fun _ i _ => n4 - (intOf i).toNat)
  case atStart => exact ⟨0, -1, Nat.zero_le _, rfl, rfl, .inl ⟨rfl, rfl⟩, Below.refl _ _⟩
  case round =>
    obtain ⟨k, a, hk, rfl, rfl, hat, hBk⟩ := hrel
    have hBr := bstep hBa hBk
    have kx2 := kx.below hBk kx.lt
    have x0 : wr.cell? ⟨kb, 0, none⟩ = some (.int .i64 x.t) := by simpa using kx2.cell 0
    have x1 : wr.cell? ⟨kb, 1, none⟩ = some (.slice x.A x.n x.c) := by simpa using kx2.cell 1
    by_cases hlt : k < n4
    · obtain ⟨b, off, y, hA, hb, hyk, e0, e1, hry⟩ := (PD.out.step' hBr).at_ hlt
      have hyin := List.mem_of_getElem? hyk
      have hoy := HOR.out y hyin
      have HSN := hide (show newN on others (x.t, x.r) (dE (lr.take (k + 1))) = if eqK on others x.r y.r then newS (x.t, x.r) (newN on others (x.t, x.r) (dE (lr.take k))) (y.t, y.r) else newN on others (x.t, x.r) (dE (lr.take k)) from by
        rw [take_snoc' hyk, dE_snoc, newN_snoc])
      have HYK := hide hyk
      have HAT := hide hat
      have q1 : (0 : Int) ≤ (k : Int) := by omega
      have q2 : (k : Int) < (n4 : Int) := by omega
      have hxr := (PX.out.below hBr).mono hBr.size
      have p0 := fun (p : BW wr) => BW.cell (a := ⟨b, off + k * 2, none⟩) hb e0 p
      have p1 := fun (p : BW wr) => BW.cell (a := ⟨b, off + k * 2 + 1, none⟩) hb e1 p
      have p2 := fun (p : BW wr) => BW.cell (a := ⟨kb, 0, none⟩) kx2.lt x0 p
      have p3 := fun (p : BW wr) => BW.cell (a := ⟨kb, 1, none⟩) kx2.lt x1 p
      have C1 := hide (fun (p : BW wr) => calls_bw (p := p) (equal_any A1 n1 c1 on A2 n2 c2 others x.A x.n x.c x.r y.A y.n y.c y.r p.x (PA.out.up (bstep hBr p.h)) (PB.out.up (bstep hBr p.h)) HNN.out (by omega) ((hxr.below p.h).mono p.h.size) ((hry.below p.h).mono p.h.size) (okR_vals (okE_row HOX.out)) (okR_vals (okE_row hoy)) HHX.out (HHR.out y hyin)))
      obtain ⟨q, hq⟩ : ∃ q, eqK on others x.r y.r = q := ⟨_, rfl⟩
      rw [hq] at C1 HSN
      have PE0 := hide e0
      have PE1 := hide e1
      have HRY := hide hry
      rw [hA]
      have HA := hide hA
      clear hq hyk hat e0 e1 hA hry hoy hyin
      by_cases ht : x.t < y.t
      · have d1 : decide (x.t < y.t) = true := decide_eq_true ht
        have HAN := hide (show AtN lr (newN on others (x.t, x.r) (dE (lr.take (k + 1)))) a from by
          rw [HSN.out]
          unfold newS
          rw [if_neg (show ¬ y.t ≤ x.t by omega)]
          cases q <;> exact HAT.out)
        clear x0 x1 ht hxr
        go_wp2_with fail
        (refine wp_region_quiet_bw (by kernel_rfl) (by kernel_rfl) ?_
         repeat (first | go_big_quiet_step (((go_at_call 78; with_reducible exact C1.out _))) | quiet_step (((go_at_call 78; with_reducible exact C1.out _))))
         refine wpQuiet_nil ?_
         intro wq hw'
         obtain ⟨⟨_, hbq⟩, hw''⟩ := hw'
         subst hw'')
        have HB2 := hide (bstep hBk hbq)
        clear hbq p0 p1 p2 p3 C1
        go_wp2
        go_roundw
        case rel => exact ⟨k + 1, a, by omega, by go_num, rfl, HAN.out, HB2.out⟩
        case measure => simp [intOf]; omega
      · have d1 : decide (x.t < y.t) = false := decide_eq_false ht
        cases q
        · have HAN := hide (show AtN lr (newN on others (x.t, x.r) (dE (lr.take (k + 1)))) a from by
            rw [HSN.out]
            exact HAT.out)
          clear x0 x1 ht hxr
          go_wp2_with fail
          (refine wp_region_quiet_bw (by kernel_rfl) (by kernel_rfl) ?_
           repeat (first | go_big_quiet_step (((go_at_call 78; with_reducible exact C1.out _))) | quiet_step (((go_at_call 78; with_reducible exact C1.out _))))
           refine wpQuiet_nil ?_
           intro wq hw'
           obtain ⟨⟨_, hbq⟩, hw''⟩ := hw'
           subst hw'')
          have HB2 := hide (bstep hBk hbq)
          clear hbq p0 p1 p2 p3 C1
          go_wp2
          go_roundw
          case rel => exact ⟨k + 1, a, by omega, by go_num, rfl, HAN.out, HB2.out⟩
          case measure => simp [intOf]; omega
        · have HSN2 := hide (show newN on others (x.t, x.r) (dE (lr.take (k + 1))) = (match newN on others (x.t, x.r) (dE (lr.take k)) with
            | none => some (y.t, y.r)
            | some z => if 0 < cmpE (y.t, y.r) z then some (y.t, y.r) else some z) from by
            rw [HSN.out, if_pos rfl]
            unfold newS
            rw [if_pos (show y.t ≤ x.t by omega)]
            cases newN on others (x.t, x.r) (dE (lr.take k)) <;> rfl)
          clear x0 x1 ht hxr HSN
          go_wp2_with fail
          (refine wp_region_quiet_bw (by kernel_rfl) (by kernel_rfl) ?_
           repeat (first | go_big_quiet_step (((go_at_call 78; with_reducible exact C1.out _))) | quiet_step (((go_at_call 78; with_reducible exact C1.out _))))
           refine wpQuiet_nil ?_
           intro wq hw'
           obtain ⟨⟨_, hbq⟩, hw''⟩ := hw'
           subst hw'')
          obtain ⟨wv, hwv⟩ : ∃ wv : World, wv = wq := ⟨_, rfl⟩
          subst hwv
          have hBk2 := bstep hBk hbq
          have hb2 := Nat.lt_of_lt_of_le hb hbq.size
          have f0 := (hbq.cell hb).trans PE0.out
          have f1 := (hbq.cell hb).trans PE1.out
          have hBr2 := bstep hBr hbq
          have hry2 := (HRY.out.below hbq).mono hbq.size
          clear hbq p0 p1 p2 p3 C1 hBk hBr kx2
          rcases HAT.out with ⟨ha, hz⟩ | ⟨j, z, ha, hzj, hz⟩
          · subst ha
            have HAN := hide (show AtN lr (newN on others (x.t, x.r) (dE (lr.take (k + 1)))) (k : Int) from .inr ⟨k, y, rfl, HYK.out, by rw [HSN2.out, hz]⟩)
            have p0 := fun (p : BW wv) => BW.cell (a := ⟨b, off + k * 2, none⟩) hb2 f0 p
            have p1 := fun (p : BW wv) => BW.cell (a := ⟨b, off + k * 2 + 1, none⟩) hb2 f1 p
            clear hz f0 f1 hry2
            go_wp2_with fail
            (refine wp_region_quiet_bw (by kernel_rfl) (by kernel_rfl) ?_
             repeat (first | go_big_quiet_step ((fail)) | quiet_step ((fail)))
             refine wpQuiet_nil ?_
             intro wq hw'
             obtain ⟨⟨_, hbq⟩, hw''⟩ := hw'
             subst hw'')
            have HB2 := hide (bstep hBk2 hbq)
            clear hbq p0 p1 hBk2 hBr2
            go_wp2
            go_roundw
            case rel => exact ⟨k + 1, k, by omega, by go_num, rfl, HAN.out, HB2.out⟩
            case measure => simp [intOf]; omega
          · subst ha
            have hj : j < n4 := by rw [← HL4.out]; exact (List.getElem?_eq_some_iff.1 hzj).1
            obtain ⟨b', off', z', hA', hb', hzk, g0, g1, hrz⟩ := (PD.out.step' hBr2).at_ hj
            obtain rfl : z' = z := by rw [hzj] at hzk; exact (Option.some.inj hzk).symm
            rw [HA.out] at hA'
            injection hA' with hA'
            injection hA' with e1 e2
            subst e1 e2
            have HZJ := hide hzj
            have r1 : (0 : Int) ≤ (j : Int) := by omega
            have r2 : (j : Int) < (n4 : Int) := by omega
            have r3 : decide ((j : Int) < 0) = false := decide_eq_false (by omega)
            have p0 := fun (p : BW wv) => BW.cell (a := ⟨b, off + k * 2, none⟩) hb2 f0 p
            have p1 := fun (p : BW wv) => BW.cell (a := ⟨b, off + k * 2 + 1, none⟩) hb2 f1 p
            have p2 := fun (p : BW wv) => BW.cell (a := ⟨b, off + j * 2, none⟩) hb2 g0 p
            have p3 := fun (p : BW wv) => BW.cell (a := ⟨b, off + j * 2 + 1, none⟩) hb2 g1 p
            have C2 := hide (fun (p : BW wv) => calls_bw (p := p) (R2Compare_any y.A y.n y.c y.r z'.A z'.n z'.c z'.r p.x ((hry2.below p.h).mono p.h.size).rd ((hrz.below p.h).mono p.h.size).rd hry2.le))
            obtain ⟨cr, hcr⟩ : ∃ cr, cmpR y.r z'.r = cr := ⟨_, rfl⟩
            rw [hcr] at C2
            have HCE := hide (show cmpE (y.t, y.r) (z'.t, z'.r) = thenC (cmpI y.t z'.t) cr from by rw [← hcr]; rfl)
            have HZZ := hide hz
            clear hcr hz hzj f0 f1 g0 g1 hry2 hrz hzk
            by_cases t1 : z'.t < y.t
            · have d2 : decide (z'.t < y.t) = true := decide_eq_true t1
              have HAN := hide (show AtN lr (newN on others (x.t, x.r) (dE (lr.take (k + 1)))) (k : Int) from .inr ⟨k, y, rfl, HYK.out, by
                rw [HSN2.out, HZZ.out]
                show (if 0 < cmpE (y.t, y.r) (z'.t, z'.r) then _ else _) = _
                rw [HCE.out, show cmpI y.t z'.t = 1 from by unfold cmpI; rw [if_neg (by omega), if_pos (by omega)]]
                rfl⟩)
              clear t1
              go_wp2_with fail
              (refine wp_region_quiet_bw (by kernel_rfl) (by kernel_rfl) ?_
               repeat (first | go_big_quiet_step (((go_at_call 106; with_reducible exact C2.out _))) | quiet_step (((go_at_call 106; with_reducible exact C2.out _))))
               refine wpQuiet_nil ?_
               intro wq hw'
               obtain ⟨⟨_, hbq⟩, hw''⟩ := hw'
               subst hw'')
              have HB2 := hide (bstep hBk2 hbq)
              clear hbq p0 p1 p2 p3 hBk2 hBr2 C2
              go_wp2
              go_roundw
              case rel => exact ⟨k + 1, k, by omega, by go_num, rfl, HAN.out, HB2.out⟩
              case measure => simp [intOf]; omega
            · have d2 : decide (z'.t < y.t) = false := decide_eq_false t1
              by_cases t2 : y.t = z'.t
              · have d3 : (y.t == z'.t) = true := by simpa using t2
                have HCE2 := hide (show cmpE (y.t, y.r) (z'.t, z'.r) = cr from by
                  rw [HCE.out, show cmpI y.t z'.t = 0 from by unfold cmpI; rw [if_neg (by omega), if_neg (by omega)]]
                  rfl)
                by_cases t3 : 0 < cr
                · have d4 : decide (0 < cr) = true := decide_eq_true t3
                  have HAN := hide (show AtN lr (newN on others (x.t, x.r) (dE (lr.take (k + 1)))) (k : Int) from .inr ⟨k, y, rfl, HYK.out, by
                    rw [HSN2.out, HZZ.out]
                    show (if 0 < cmpE (y.t, y.r) (z'.t, z'.r) then _ else _) = _
                    rw [HCE2.out, if_pos t3]⟩)
                  clear t1 t2 t3
                  go_wp2_with fail
                  (refine wp_region_quiet_bw (by kernel_rfl) (by kernel_rfl) ?_
                   repeat (first | go_big_quiet_step (((go_at_call 106; with_reducible exact C2.out _))) | quiet_step (((go_at_call 106; with_reducible exact C2.out _))))
                   refine wpQuiet_nil ?_
                   intro wq hw'
                   obtain ⟨⟨_, hbq⟩, hw''⟩ := hw'
                   subst hw'')
                  have HB2 := hide (bstep hBk2 hbq)
                  clear hbq p0 p1 p2 p3 hBk2 hBr2 C2
                  go_wp2
                  go_roundw
                  case rel => exact ⟨k + 1, k, by omega, by go_num, rfl, HAN.out, HB2.out⟩
                  case measure => simp [intOf]; omega
                · have d4 : decide (0 < cr) = false := decide_eq_false t3
                  have HAN := hide (show AtN lr (newN on others (x.t, x.r) (dE (lr.take (k + 1)))) (j : Int) from .inr ⟨j, z', rfl, HZJ.out, by
                    rw [HSN2.out, HZZ.out]
                    show (if 0 < cmpE (y.t, y.r) (z'.t, z'.r) then _ else _) = _
                    rw [HCE2.out, if_neg t3]⟩)
                  clear t1 t2 t3
                  go_wp2_with fail
                  (refine wp_region_quiet_bw (by kernel_rfl) (by kernel_rfl) ?_
                   repeat (first | go_big_quiet_step (((go_at_call 106; with_reducible exact C2.out _))) | quiet_step (((go_at_call 106; with_reducible exact C2.out _))))
                   refine wpQuiet_nil ?_
                   intro wq hw'
                   obtain ⟨⟨_, hbq⟩, hw''⟩ := hw'
                   subst hw'')
                  have HB2 := hide (bstep hBk2 hbq)
                  clear hbq p0 p1 p2 p3 hBk2 hBr2 C2
                  go_wp2
                  go_roundw
                  case rel => exact ⟨k + 1, j, by omega, by go_num, rfl, HAN.out, HB2.out⟩
                  case measure => simp [intOf]; omega
              · have d3 : (y.t == z'.t) = false := by simpa using t2
                have HAN := hide (show AtN lr (newN on others (x.t, x.r) (dE (lr.take (k + 1)))) (j : Int) from .inr ⟨j, z', rfl, HZJ.out, by
                  rw [HSN2.out, HZZ.out]
                  show (if 0 < cmpE (y.t, y.r) (z'.t, z'.r) then _ else _) = _
                  rw [HCE.out, show cmpI y.t z'.t = -1 from by unfold cmpI; rw [if_pos (by omega)]]
                  rfl⟩)
                clear t1 t2
                go_wp2_with fail
                (refine wp_region_quiet_bw (by kernel_rfl) (by kernel_rfl) ?_
                 repeat (first | go_big_quiet_step ((fail)) | quiet_step ((fail)))
                 refine wpQuiet_nil ?_
                 intro wq hw'
                 obtain ⟨⟨_, hbq⟩, hw''⟩ := hw'
                 subst hw'')
                have HB2 := hide (bstep hBk2 hbq)
                clear hbq p0 p1 p2 p3 hBk2 hBr2 C2
                go_wp2
                go_roundw
                case rel => exact ⟨k + 1, j, by omega, by go_num, rfl, HAN.out, HB2.out⟩
                case measure => simp [intOf]; omega
    · obtain rfl : k = n4 := by omega
      rw [take_all HL4.out] at hat
      have HAT := hide hat
      clear hat x0 x1
      rcases HAT.out with ⟨ha, hz⟩ | ⟨j, z, ha, hzj, hz⟩
      · subst ha
        have HZ := hide hz
        clear hz
        go_wp2_with fail
        refine (Nulls_any wd wr (by omega)).mono ?_
        rintro e W2 ⟨A, c, rfl, hown, hb2⟩
        have HR := hide (show RowK W2 W2.heap.size A wd (nullR wd) from RowK.of_own hown (by omega))
        have HB := hide (bstep hBr hb2)
        clear hown hb2
        go_wp2
        go_ret
        exact ⟨A, wd, c, rfl, by rw [HZ.out]; exact HR.out, HB.out⟩
      · subst ha
        have hj : j < k := by rw [← HL4.out]; exact (List.getElem?_eq_some_iff.1 hzj).1
        obtain ⟨b', off', z', hA', hb', hzk, g0, g1, hrz⟩ := (PD.out.step' hBr).at_ hj
        obtain rfl : z' = z := by rw [hzj] at hzk; exact (Option.some.inj hzk).symm
        have HZ := hide hz
        have HRZ := hide hrz
        have HB := hide hBr
        have r1 : (0 : Int) ≤ (j : Int) := by omega
        have r2 : (j : Int) < (k : Int) := by omega
        have r3 : decide ((j : Int) < 0) = false := decide_eq_false (by omega)
        rw [hA']
        clear hz hrz hzk hzj hA'
        go_wp2
        go_ret
        exact ⟨_, _, _, rfl, by rw [HZ.out]; exact HRZ.out, HB.out⟩
end

section
open Go.RowKit
attribute [local go_sem] Oper.semAt_some wide_fn wide_depth
set_option linter.unusedVariables false
set_option linter.unusedSimpArgs false

/-- What inside answers at any width. -/
def RetIn (w : World) (ok : Bool) (v : Bool) (e : Ending) (w' : World) : Prop := ∃ b : Bool, e = .returned (.bool b) ∧ (ok = true → b = v) ∧ Below w.heap.size w w'
theorem inside_w (A : Option Addr) (n c : Nat) (cols : List Int) (m : Int) (w : World) (hx : Reads w w.heap.size 1 A n (cols.map (Value.int .i64))) (hn : n ≤ 9223372036854775807) :
    Calls Tryz.prog 74 #[.slice A n c, .int .i64 m] w (RetIn w (btw m 0 8) (insK cols m)) := by
  cases h : btw m 0 8
  · exact (inside_some A n c cols m w hx hn).mono fun e w' ⟨b, h1, h2⟩ => ⟨b, h1, nofun, h2⟩
  · have := btw_iff.1 h
    exact (inside_any A n c cols m w hx hn (by omega)).mono fun e w' ⟨h1, h2⟩ => ⟨_, h1, fun _ => rfl, h2⟩
theorem overB_snoc (l : List Te) (n : Nat) (x : Te) : overB (l ++ [x]) n = (overB l n || decide (8 < x.2.length + n)) := by unfold overB; rw [List.any_append]; simp
theorem overB_at {l : List Te} {n k : Nat} {x : Te} (hx : l[k]? = some x) (h : 8 < x.2.length + n) : overB l n = true := by
  unfold overB
  rw [List.any_eq_true]
  exact ⟨x, List.mem_of_getElem? hx, by simpa using h⟩
set_option maxRecDepth 100000 in
set_option maxHeartbeats 16000000 in
theorem RVersions_any (A1 : Option Addr) (n1 c1 : Nat) (on : List Int) (A2 : Option Addr) (n2 c2 : Nat) (others : List Int) (width : Int) (A3 : Option Addr) (n3 c3 : Nat) (ll : List Ev) (A4 : Option Addr) (n4 c4 : Nat) (lr : List Ev) (w : World)
    (h1 : Reads w w.heap.size 1 A1 n1 (on.map (Value.int .i64))) (h2 : Reads w w.heap.size 1 A2 n2 (others.map (Value.int .i64))) (hn1 : n1 ≤ 1000) (hn2 : n2 ≤ 1000) (h3 : EvR w w.heap.size A3 n3 ll) (h4 : EvR w w.heap.size A4 n4 lr) (hm3 : n3 ≤ 100000) (hm4 : n4 ≤ 100000) :
    Calls Tryz.prog 20 #[.slice A1 n1 c1, .slice A2 n2 c2, .int .i64 width, .slice A3 n3 c3, .slice A4 n4 c4] w (RetEvE w (verB on others width (dE ll) (dE lr))) := by
  obtain ⟨p, hp⟩ : ∃ p, verB on others width (dE ll) (dE lr) = p := ⟨_, rfl⟩
  rw [hp]
  have HL1 := hide h1.len1
  have HL2 := hide h2.len1
  have HL3 := hide h3.len
  have HL4 := hide h4.len
  unfold verB verE at hp
  obtain ⟨o1, r1⟩ : ∃ b, evsB (dE ll) = b := ⟨_, rfl⟩
  obtain ⟨o2, r2⟩ : ∃ b, evsB (dE lr) = b := ⟨_, rfl⟩
  obtain ⟨o3, r3⟩ : ∃ b, fitK on others = b := ⟨_, rfl⟩
  obtain ⟨o4, r4⟩ : ∃ b, wideB (dE lr) width = b := ⟨_, rfl⟩
  obtain ⟨o5, r5⟩ : ∃ b, insK on 8 = b := ⟨_, rfl⟩
  obtain ⟨o6, r6⟩ : ∃ b, insK others width = b := ⟨_, rfl⟩
  obtain ⟨o7, r7⟩ : ∃ b, hasE (dE ll) on = b := ⟨_, rfl⟩
  obtain ⟨o8, r8⟩ : ∃ b, btw width 0 8 = b := ⟨_, rfl⟩
  rw [r1, r2, r3, r4, r5, r6, r7, r8] at hp
  have HP := hide hp
  have R1 := hide r1
  have R2 := hide r2
  have R3 := hide r3
  have R4 := hide r4
  have R5 := hide r5
  have R6 := hide r6
  have R7 := hide r7
  have R8 := hide r8
  clear hp r1 r2 r3 r4 r5 r6 r7 r8
  go_enter Tryz.func20, Tryz.ntmps20
  go_wp2_with fail
  refine (RValidEvents_any A3 n3 c3 ll w h3).mono ?_
  rintro e W1 ⟨rfl, hB1⟩
  rw [R1.out]
  cases o1
  · go_wp2
    refine bodyPost_ret (results_tmp2 rfl _ _ _) rfl ?_
    rw [show p = ([], 1) from HP.out.symm.trans (by first | rfl | simp)]
    exact EvE_bad hB1 1
  · skip
    go_wp2_with fail
    refine (RValidEvents_any A4 n4 c4 lr W1 (h4.step hB1)).mono ?_
    rintro e W2 ⟨rfl, hb⟩
    have hB2 := bstep hB1 hb
    clear hb hB1
    rw [R2.out]
    cases o2
    · go_wp2
      refine bodyPost_ret (results_tmp2 rfl _ _ _) rfl ?_
      rw [show p = ([], 1) from HP.out.symm.trans (by first | rfl | simp)]
      exact EvE_bad hB2 1
    · skip
      go_wp2_with fail
      refine (fit_any A1 n1 c1 A2 n2 c2 on others W2 HL1.out HL2.out).mono ?_
      rintro e w' ⟨rfl, rfl⟩
      rw [R3.out]
      cases o3
      · go_wp2
        refine bodyPost_ret (results_tmp2 rfl _ _ _) rfl ?_
        rw [show p = ([], 9) from HP.out.symm.trans (by first | rfl | simp)]
        exact EvE_bad hB2 9
      · skip
        go_wp2_with fail
        refine (wide_any A4 n4 c4 lr width W2 (h4.step hB2)).mono ?_
        rintro e W3 ⟨rfl, hb⟩
        have hB3 := bstep hB2 hb
        clear hb hB2
        rw [R4.out]
        cases o4
        · go_wp2
          refine bodyPost_ret (results_tmp2 rfl _ _ _) rfl ?_
          rw [show p = ([], 9) from HP.out.symm.trans (by first | rfl | simp)]
          exact EvE_bad hB3 9
        · skip
          go_wp2_with fail
          refine (inside_any A1 n1 c1 on 8 W3 (h1.up hB3) (by omega) (by omega)).mono ?_
          rintro e W4 ⟨rfl, hb⟩
          have hB4 := bstep hB3 hb
          clear hb hB3
          rw [R5.out]
          cases o5
          · go_wp2
            refine bodyPost_ret (results_tmp2 rfl _ _ _) rfl ?_
            rw [show p = ([], 7) from HP.out.symm.trans (by first | rfl | simp)]
            exact EvE_bad hB4 7
          · skip
            go_wp2_with fail
            refine (inside_w A2 n2 c2 others width W4 (h2.up hB4) (by omega)).mono ?_
            rintro e W5 hres
            obtain ⟨b6, rfl, hb6, hb⟩ := hres
            have hB5 := bstep hB4 hb
            clear hb hB4
            rw [R8.out, R6.out] at hb6
            cases b6
            · have HP6 := hide (show p = ([], 7) from HP.out.symm.trans (by cases o8 <;> cases o6 <;> first | rfl | (simp at hb6; done) | simp))
              go_wp2
              refine bodyPost_ret (results_tmp2 rfl _ _ _) rfl ?_
              rw [HP6.out]
              exact EvE_bad hB5 7
            · skip
              have HB6 := hide hb6
              clear hb6
              go_wp2_with fail
              refine (revents_any A3 n3 c3 ll A1 n1 c1 on W5 (h3.step hB5) (h1.up hB5) (by omega)).mono ?_
              rintro e W6 ⟨rfl, hb⟩
              have hB6 := bstep hB5 hb
              clear hb hB5
              rw [R7.out]
              cases o7
              · go_wp2
                refine bodyPost_ret (results_tmp2 rfl _ _ _) rfl ?_
                rw [show p = ([], 7) from HP.out.symm.trans (by first | rfl | simp)]
                exact EvE_bad hB6 7
              · skip
                go_wp2_with fail
                refine (R9within_any width 0 8 W6).mono ?_
                rintro e w' ⟨rfl, rfl⟩
                rw [R8.out]
                cases o8
                · go_wp2
                  refine bodyPost_ret (results_tmp2 rfl _ _ _) rfl ?_
                  rw [show p = ([], 7) from HP.out.symm.trans (by first | rfl | simp)]
                  exact EvE_bad hB6 7
                · skip
                  obtain rfl : o6 = true := (HB6.out rfl).symm
                  obtain ⟨wd, rfl⟩ : ∃ wd : Nat, width = (wd : Int) := ⟨width.toNat, by have := btw_iff.1 R8.out; omega⟩
                  have hwd : wd ≤ 8 := by have := btw_iff.1 R8.out; omega
                  have HP2 : Hid (p = if overB (dE ll) wd then ([], 4) else (srtG cmpE ((dE ll).map fun x => verO on others wd x (dE lr)), 0)) := by
                    refine hide (HP.out.symm.trans ?_)
                    rw [show ((wd : Int)).toNat = wd from by omega]
                    cases overB (dE ll) wd <;> first | rfl | simp
                  have HOKL := hide (show ∀ x ∈ ll, okE (x.t, x.r) = true from fun x hx => by
                    have r1 := R1.out
                    unfold evsB at r1
                    rw [Bool.and_eq_true] at r1
                    exact List.all_eq_true.1 r1.2 (x.t, x.r) (List.mem_map_of_mem hx))
                  have HOKR := hide (show ∀ x ∈ lr, okE (x.t, x.r) = true from fun x hx => by
                    have r2 := R2.out
                    unfold evsB at r2
                    rw [Bool.and_eq_true] at r2
                    exact List.all_eq_true.1 r2.2 (x.t, x.r) (List.mem_map_of_mem hx))
                  have HHL := hide (show ∀ x ∈ ll, hasC x.r on = true from fun x hx => List.all_eq_true.1 R7.out (x.t, x.r) (List.mem_map_of_mem hx))
                  have HWR := hide (show ∀ y ∈ dE lr, y.2.length = wd from fun y hy => by have := wideB_at R4.out hy; omega)
                  have HHR := hide (show ∀ y ∈ lr, hasC y.r others = true from fun y hy => hasC_wide (wideB_at R4.out (show (y.t, y.r) ∈ dE lr from List.mem_map_of_mem hy)) R6.out)
                  have hn3 : n3 ≤ 100 := by
                    have r1 := R1.out
                    unfold evsB at r1
                    rw [Bool.and_eq_true, decide_eq_true_eq, dE_len, HL3.out] at r1
                    exact r1.1
                  have hnn : n1 = n2 := by
                    have r3 := R3.out
                    unfold fitK at r3
                    rw [Bool.and_eq_true, decide_eq_true_eq, HL1.out, HL2.out] at r3
                    exact r3.1
                  have HNN := hide hnn
                  clear R1 R2 R3 R4 R5 R6 R7 R8 HP HB6 hnn
                  have PA := hide h1
                  have PB := hide h2
                  have PC := hide h3
                  have PD := hide h4
                  clear h1 h2 h3 h4
                  obtain ⟨DR, hdr⟩ : ∃ DR, dE lr = DR := ⟨_, rfl⟩
                  rw [hdr] at HP2 HWR
                  have HDR := hide hdr
                  clear hdr
                  go_wp2_with fail
                  go_loopw [12, 13] (fun v i wr => ∃ k : Nat, k ≤ n3 ∧ i = .int .i64 k ∧ EvO (srtG cmpE (((dE ll).take k).map fun x => verO on others wd x DR)) v wr ∧ overB ((dE ll).take k) wd = false ∧ Below w.heap.size w wr) (fun _ i _ => n3 - (intOf i).toNat)
                  case atStart => exact ⟨0, Nat.zero_le _, rfl, ⟨none, 0, 0, [], rfl, rfl, EvR.nil _ _, Nat.le_refl _⟩, rfl, hB6⟩
                  case round =>
                    clear hB6
                    obtain ⟨k, hk, rfl, hO, hov, hBr⟩ := hrel
                    have HOV := hide hov
                    clear hov
                    by_cases hlt : k < n3
                    · have q1 : (0 : Int) ≤ (k : Int) := by omega
                      have q2 : (k : Int) < (n3 : Int) := by omega
                      obtain ⟨bx, ox, x, hA, hbx, hxk, e0, e1, hrx⟩ := (PC.out.step' hBr).at_ hlt
                      have hxin := List.mem_of_getElem? hxk
                      have hox := HOKL.out x hxin
                      have hx8 : x.r.length ≤ 8 := okR_eight (okE_row hox)
                      have hlx := hrx.len
                      have hxn8 : x.n ≤ 8 := by omega
                      have HXD := hide (dE_at hxk)
                      have hhx := HHL.out x hxin
                      have HTK := hide (show (dE ll).take (k + 1) = (dE ll).take k ++ [(x.t, x.r)] from take_snoc' (dE_at hxk))
                      rw [hA]
                      have HA := hide hA
                      clear hxk hxin hA
                      by_cases h8 : 8 < x.n + wd
                      · have d8 : decide ((8 : Int) < (x.n : Int) + (wd : Int)) = true := decide_eq_true (by omega)
                        have q8 : (8 : Int) < (x.n : Int) + (wd : Int) := by omega
                        have HLA := hide (show overB (dE ll) wd = true from overB_at HXD.out (by show 8 < x.r.length + wd; omega))
                        have HBR := hide hBr
                        clear hO hrx e0 hlx hBr
                        go_wp2
                        refine bodyPost_ret (results_tmp2 rfl _ _ _) rfl ?_
                        rw [HP2.out, HLA.out, if_pos rfl]
                        exact EvE_bad HBR.out 4
                      · have d8 : decide ((8 : Int) < (x.n : Int) + (wd : Int)) = false := decide_eq_false (by omega)
                        have q8 : ¬ (8 : Int) < (x.n : Int) + (wd : Int) := by omega
                        have HOV2 := hide (show overB ((dE ll).take (k + 1)) wd = false from by
                          rw [HTK.out, overB_snoc, HOV.out]
                          simp
                          omega)
                        obtain ⟨A, n, c, l, rfl, hd, hr, hnc⟩ := hO
                        have hlen : n ≤ 100 := by
                          have h1 := hr.len
                          rw [← dE_len, hd, srtG_len Tot.te, List.length_map, List.length_take] at h1
                          omega
                        have HD := hide hd
                        have HXL := hide hlx
                        clear hd hlx h8
                        go_upto_region 13 with fail
                        refine Held.begin (fun z => z.cell? ⟨bx, ox + k * 2, none⟩ = some (.int .i64 x.t) ∧ z.cell? ⟨bx, ox + k * 2 + 1, none⟩ = some (.slice x.A x.n x.c)) 100 (by kernel_rfl) ?_
                        have hdr : Below wr.heap.size wr wr.drew := (Below.refl _ _).drew
                        have hS : wr.drew.cell? ⟨bx, ox + k * 2, none⟩ = some (.int .i64 x.t) ∧ wr.drew.cell? ⟨bx, ox + k * 2 + 1, none⟩ = some (.slice x.A x.n x.c) := ⟨e0, e1⟩
                        have hB1 := bstep hBr hdr
                        have hr := hr.step hdr
                        have hrx := (hrx.below hdr).mono hdr.size
                        have hbx := Nat.lt_of_lt_of_le hbx hdr.size
                        obtain ⟨X1, hX1⟩ : ∃ X1, wr.drew = X1 := ⟨_, rfl⟩
                        rw [hX1] at hS hB1 hr hrx hbx ⊢
                        clear hX1 hdr hBr e0 e1
                        refine Held.take (i := 0) (.slice A n c) rfl hS (by kernel_rfl) (by kernel_rfl) (by kernel_rfl) (by kernel_rfl) (fun _ _ _ h => h) rfl (fun y hy => by obtain ⟨x1, x2⟩ := hy; go_simp) ?_
                        try simp only [Act.put]
                        refine Held.take (i := 1) (.slice (some ⟨bx, ox, none⟩) n3 c3) rfl hS (by kernel_rfl) (by kernel_rfl) (by kernel_rfl) (by kernel_rfl) (fun _ _ _ h => h) rfl (fun y hy => by obtain ⟨x1, x2⟩ := hy; go_simp) ?_
                        try simp only [Act.put]
                        refine Held.take (i := 2) (.int .i64 (k : Int)) rfl hS (by kernel_rfl) (by kernel_rfl) (by kernel_rfl) (by kernel_rfl) (fun _ _ _ h => h) rfl (fun y hy => by obtain ⟨x1, x2⟩ := hy; go_simp) ?_
                        try simp only [Act.put]
                        refine Held.take (i := 3) (.pointer (some ⟨bx, ox + k * 2, none⟩)) rfl hS (by kernel_rfl) (by kernel_rfl) (by kernel_rfl) (by kernel_rfl) (fun _ _ _ h => h) rfl (fun y hy => by obtain ⟨x1, x2⟩ := hy; go_simp) ?_
                        try simp only [Act.put]
                        refine Held.take (i := 4) (.pointer (some ⟨bx, ox + k * 2, none⟩)) rfl hS (by kernel_rfl) (by kernel_rfl) (by kernel_rfl) (by kernel_rfl) (fun _ _ _ h => h) rfl (fun y hy => by obtain ⟨x1, x2⟩ := hy; go_simp) ?_
                        try simp only [Act.put]
                        refine Held.take (i := 5) (.int .i64 x.t) rfl hS (by kernel_rfl) (by kernel_rfl) (by kernel_rfl) (by kernel_rfl) (fun _ _ _ h => h) rfl (fun y hy => by obtain ⟨x1, x2⟩ := hy; go_simp) ?_
                        try simp only [Act.put]
                        refine Held.take (i := 6) (.slice (some ⟨bx, ox, none⟩) n3 c3) rfl hS (by kernel_rfl) (by kernel_rfl) (by kernel_rfl) (by kernel_rfl) (fun _ _ _ h => h) rfl (fun y hy => by obtain ⟨x1, x2⟩ := hy; go_simp) ?_
                        try simp only [Act.put]
                        refine Held.take (i := 7) (.int .i64 (k : Int)) rfl hS (by kernel_rfl) (by kernel_rfl) (by kernel_rfl) (by kernel_rfl) (fun _ _ _ h => h) rfl (fun y hy => by obtain ⟨x1, x2⟩ := hy; go_simp) ?_
                        try simp only [Act.put]
                        refine Held.take (i := 8) (.pointer (some ⟨bx, ox + k * 2, none⟩)) rfl hS (by kernel_rfl) (by kernel_rfl) (by kernel_rfl) (by kernel_rfl) (fun _ _ _ h => h) rfl (fun y hy => by obtain ⟨x1, x2⟩ := hy; go_simp) ?_
                        try simp only [Act.put]
                        refine Held.take (i := 9) (.pointer (some ⟨bx, ox + k * 2 + 1, none⟩)) rfl hS (by kernel_rfl) (by kernel_rfl) (by kernel_rfl) (by kernel_rfl) (fun _ _ _ h => h) rfl (fun y hy => by obtain ⟨x1, x2⟩ := hy; go_simp) ?_
                        try simp only [Act.put]
                        refine Held.take (i := 10) (.slice x.A x.n x.c) rfl hS (by kernel_rfl) (by kernel_rfl) (by kernel_rfl) (by kernel_rfl) (fun _ _ _ h => h) rfl (fun y hy => by obtain ⟨x1, x2⟩ := hy; go_simp) ?_
                        try simp only [Act.put]
                        refine Held.take (i := 11) (.slice A1 n1 c1) rfl hS (by kernel_rfl) (by kernel_rfl) (by kernel_rfl) (by kernel_rfl) (fun _ _ _ h => h) rfl (fun y hy => by obtain ⟨x1, x2⟩ := hy; go_simp) ?_
                        try simp only [Act.put]
                        refine Held.take (i := 12) (.slice A2 n2 c2) rfl hS (by kernel_rfl) (by kernel_rfl) (by kernel_rfl) (by kernel_rfl) (fun _ _ _ h => h) rfl (fun y hy => by obtain ⟨x1, x2⟩ := hy; go_simp) ?_
                        try simp only [Act.put]
                        refine Held.take (i := 13) (.int .i64 (wd : Int)) rfl hS (by kernel_rfl) (by kernel_rfl) (by kernel_rfl) (by kernel_rfl) (fun _ _ _ h => h) rfl (fun y hy => by obtain ⟨x1, x2⟩ := hy; go_simp) ?_
                        try simp only [Act.put]
                        refine Held.take (i := 14) (.slice (some ⟨bx, ox, none⟩) n3 c3) rfl hS (by kernel_rfl) (by kernel_rfl) (by kernel_rfl) (by kernel_rfl) (fun _ _ _ h => h) rfl (fun y hy => by obtain ⟨x1, x2⟩ := hy; go_simp) ?_
                        try simp only [Act.put]
                        refine Held.take (i := 15) (.int .i64 (k : Int)) rfl hS (by kernel_rfl) (by kernel_rfl) (by kernel_rfl) (by kernel_rfl) (fun _ _ _ h => h) rfl (fun y hy => by obtain ⟨x1, x2⟩ := hy; go_simp) ?_
                        try simp only [Act.put]
                        refine Held.take (i := 16) (.pointer (some ⟨bx, ox + k * 2, none⟩)) rfl hS (by kernel_rfl) (by kernel_rfl) (by kernel_rfl) (by kernel_rfl) (fun _ _ _ h => h) rfl (fun y hy => by obtain ⟨x1, x2⟩ := hy; go_simp) ?_
                        try simp only [Act.put]
                        refine Held.take (i := 17) (.agg #[.int .i64 x.t, .slice x.A x.n x.c]) rfl hS (by kernel_rfl) (by kernel_rfl) (by kernel_rfl) (by kernel_rfl) (fun _ _ _ h => h) rfl (fun y hy => by obtain ⟨x1, x2⟩ := hy; go_simp) ?_
                        try simp only [Act.put]
                        refine Held.take (i := 18) (.slice A4 n4 c4) rfl hS (by kernel_rfl) (by kernel_rfl) (by kernel_rfl) (by kernel_rfl) (fun _ _ _ h => h) rfl (fun y hy => by obtain ⟨x1, x2⟩ := hy; go_simp) ?_
                        try simp only [Act.put]
                        refine Held.one (i := 19) rfl (by kernel_rfl) rfl (fun K hK => ?_)
                        unfold Oper.wp
                        go_simp
                        refine (newest9_any A1 n1 c1 on A2 n2 c2 others wd x A4 n4 c4 lr X1 (PA.out.up hB1) (PB.out.up hB1) HNN.out (by omega) hwd hrx (PD.out.step' hB1) hm4 hox HOKR.out hhx HHR.out).mono ?_
                        rintro e X2 hres
                        obtain ⟨Ac, nc, cc, rfl, hrow, hb2⟩ := hres
                        rw [HDR.out] at hrow
                        have hB2 := bstep hB1 hb2
                        have hr2 := hr.step hb2
                        have hrx2 := (hrx.below hb2).mono hb2.size
                        have hS2 : X2.cell? ⟨bx, ox + k * 2, none⟩ = some (.int .i64 x.t) ∧ X2.cell? ⟨bx, ox + k * 2 + 1, none⟩ = some (.slice x.A x.n x.c) := ⟨(hb2.cell hbx).trans hS.1, (hb2.cell hbx).trans hS.2⟩
                        refine hK _ _ (fun _ => hS2) ?_
                        try simp only [Act.put]
                        have hbx2 := Nat.lt_of_lt_of_le hbx hb2.size
                        clear hK K hS hb2 hB1 hr hrx hbx
                        have hncl : nc ≤ 8 := by
                          have h1 := hrow.len
                          rw [rowN_len HWR.out] at h1
                          omega
                        refine Held.one (i := 20) rfl (by kernel_rfl) rfl (fun K hK => ?_)
                        unfold Oper.wp
                        go_simp
                        refine (both9_any x.A x.n x.c x.r Ac nc cc _ X2 hrx2 hrow (by omega) (by omega)).mono ?_
                        rintro e X3 ⟨Ad, cd, rfl, hown, hb3⟩
                        have hrow3 : RowK X3 X3.heap.size Ad (x.n + nc) (x.r ++ rowN wd (newN on others (x.t, x.r) DR)) := RowK.of_own hown (by omega)
                        have hB3 := bstep hB2 hb3
                        have hr3 := hr2.step hb3
                        have hS3 : X3.cell? ⟨bx, ox + k * 2, none⟩ = some (.int .i64 x.t) ∧ X3.cell? ⟨bx, ox + k * 2 + 1, none⟩ = some (.slice x.A x.n x.c) := ⟨(hb3.cell hbx2).trans hS2.1, (hb3.cell hbx2).trans hS2.2⟩
                        refine hK _ _ (fun _ => hS3) ?_
                        try simp only [Act.put]
                        have hbx3 := Nat.lt_of_lt_of_le hbx2 hb3.size
                        clear hK K hS2 hb3 hown hB2 hr2 hrx2 hbx2 hrow
                        have hS := hS3
                        clear hS3
                        obtain ⟨mm, hmm⟩ : ∃ mm, x.n + nc = mm := ⟨_, rfl⟩
                        rw [hmm] at hrow3 ⊢
                        clear hmm
                        refine Held.take (i := 21) (.agg #[.int .i64 x.t, .slice Ad mm cd]) rfl hS (by kernel_rfl) (by kernel_rfl) (by kernel_rfl) (by kernel_rfl) (fun _ _ _ h => h) rfl (fun y hy => by obtain ⟨x1, x2⟩ := hy; go_simp) ?_
                        try simp only [Act.put]
                        refine Held.one (i := 22) rfl (by kernel_rfl) rfl (fun K hK => ?_)
                        unfold Oper.wp
                        go_simp
                        refine (PutEvent_any A n c l ⟨x.t, Ad, mm, cd, x.r ++ rowN wd (newN on others (x.t, x.r) DR)⟩ X3 hr3 hnc (by omega) hrow3).mono ?_
                        rintro e X4 ⟨An, nn, cn, ln, rfl, hdn, hrn, hncn, hb4⟩
                        have hB4 := bstep hB3 hb4
                        have HS4 := hide (show X4.cell? ⟨bx, ox + k * 2, none⟩ = some (.int .i64 x.t) ∧ X4.cell? ⟨bx, ox + k * 2 + 1, none⟩ = some (.slice x.A x.n x.c) from ⟨(hb4.cell hbx3).trans hS.1, (hb4.cell hbx3).trans hS.2⟩)
                        refine hK _ _ (fun _ => HS4.out) ?_
                        try simp only [Act.put]
                        have HO := hide (show EvO (srtG cmpE (((dE ll).take (k + 1)).map fun x => verO on others wd x DR)) (.slice An nn cn) X4 from ⟨An, nn, cn, ln, rfl, by
                          rw [HTK.out, List.map_append, List.map_cons, List.map_nil, srtG_snoc, hdn, HD.out]
                          rfl, hrn, hncn⟩)
                        clear hK K hS hb4 hB3 hr3 hrow3 hdn hrn hncn hbx3
                        refine Held.one (i := 23) rfl (by kernel_rfl) rfl (fun K hK => ?_)
                        unfold Oper.wp
                        go_simp
                        refine hK _ _ (fun _ => HS4.out) ?_
                        try simp only [Act.put]
                        clear hK K
                        refine Held.done (by kernel_rfl) ?_
                        go_wp2
                        go_roundw
                        case rel => exact ⟨k + 1, by omega, by go_num, HO.out, HOV2.out, hB4⟩
                        case measure => simp [intOf]; omega
                    · obtain rfl : k = n3 := by omega
                      rw [List.take_of_length_le (by rw [dE_len, HL3.out]; exact Nat.le_refl _)] at hO HOV
                      obtain ⟨A, n, c, l, rfl, hd, hr, hnc⟩ := hO
                      have HEND := hide (show RetEvE w p (.returned (.tuple #[.slice A n c, .int .i64 0])) wr from by
                        rw [HP2.out, HOV.out]
                        exact ⟨A, n, c, l, rfl, hd, hr, hnc, hBr⟩)
                      clear hr hBr hd
                      go_wp2
                      refine bodyPost_ret (results_tmp2 rfl _ _ _) rfl ?_
                      exact HEND.out
end

end Go.Proofs.YtoapjidpfghnlaaGreatDoor
