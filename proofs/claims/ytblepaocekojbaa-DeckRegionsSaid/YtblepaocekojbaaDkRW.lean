/-
  The walk of tidewrightref26.Waves, for every valid graph.
-/
import Derived.Test.YtblepaocekojbaaDkWvM
import Derived.Test.YtblepaocekojbaaDkBk
import Derived.Deep.CutRange
namespace Go.Proofs.Ytblepaocekojbaa
open Go.RowKit Go.Shelf Go.Deep
attribute [local go_sem] Oper.semAt_some

def wvNum (g : Gr) : Nat → Nat := numOf (labs g.es)
def wvK (g : Gr) : Nat := numb (labs g.es) g.n1
/-- What Waves answers of a valid graph. -/
def RetWv (g : Gr) (w : World) (e : Ending) (w' : World) : Prop :=
  (∃ W, IsWave (Pr (wvNum g) g.es) W ∧ RetSlE w 1 (wvK g) (rowL (wvK g) fun x => .int .i64 ((W x : Nat) : Int)) 0 e w') ∨ ((∀ W, ¬ IsWave (Pr (wvNum g) g.es) W) ∧ RetSlE w 1 0 [] 10 e w')
theorem reads_rowIs {w : World} {gb K : Nat} {t : TypeId} {f : Nat → Value} (h : w.rowIs gb t K f) : Reads w w.heap.size 1 (some ⟨gb, 0, none⟩) K (rowL K f) :=
  ⟨by rw [rowL_len]; simp, fun _ => ⟨gb, 0, rfl, h.lt, fun j u hu => by
    have hj := (List.getElem?_eq_some_iff.1 hu).1
    rw [rowL_len] at hj
    rw [Nat.zero_add, h.cell (by simpa using hj)]
    rw [rowL_get _ hj] at hu
    exact hu⟩⟩

set_option maxRecDepth 100000 in
set_option maxHeartbeats 4000000 in
theorem RWaves_ok (g : Gr) (w : World) (hg : g.Ok w w.heap.size) (hv : validB g = true) :
    Calls Try.prog 28 #[.agg #[g.v1, g.v2]] w (RetWv g w) := by
  have hb := ok_ops hv
  have hbn : g.n2 ≤ 400 := by
    unfold validB at hv
    simp only [Bool.and_eq_true, decide_eq_true_eq] at hv
    exact hv.1.1.2
  have HV := hide hv
  have HL2 := hide (hg.r2.len encEd_len (by omega))
  have HPR := hide (fun a b => pr_lt hv (a := a) (b := b))
  have HNK := hide (fun i (h : i < g.n1) => numOf_num (Lab.labs g.es) h)
  have hK : numb (labs g.es) g.n1 ≤ g.n1 := numb_le _ _
  have hB0 : Below w.heap.size w (w.alloc (.cells #[g.v1, g.v2] 25)) := (Below.refl _ _).alloc (Nat.le_refl _) _
  have b0 : Blk (w.alloc (.cells #[g.v1, g.v2] 25)) w.heap.size 25 #[g.v1, g.v2] := Blk.new w _ _
  have hs0 : (w.alloc (.cells #[g.v1, g.v2] 25)).heap.size = w.heap.size + 1 := World.size_alloc _ _
  go_enter Try.func28, Try.ntmps28
  go_wp2_with fail
  obtain ⟨W0, hW0⟩ : ∃ W0, w.alloc (.cells #[g.v1, g.v2] 25) = W0 := ⟨_, rfl⟩
  rw [hW0] at hB0 b0 hs0 ⊢
  clear hW0
  refine (RRegions_any g W0 (hg.up hB0) (by omega) (by omega)).mono ?_
  rintro e W1 ⟨Ar, cr, rfl, hr, hB1⟩
  rw [show regN g = g.n1 from by simp [regN, HV.out], show regL g = rowL g.n1 (fun i => .int .i64 ((numOf (labs g.es) i : Nat) : Int)) from by simp [regL, HV.out]] at hr
  rw [show regN g = g.n1 from by simp [regN, HV.out], show regE g = 0 from by simp [regE, HV.out]]
  obtain ⟨ar, offr, rfl, har, hrc⟩ := reads_row hr (by omega)
  have b1 := b0.below hB1 (by omega)
  have hB01 := bstep hB0 hB1
  have hs1 : w.heap.size < W1.heap.size := by have := hB1.size; omega
  have HRC := hide hrc
  clear hr hrc b0 hB0 hB1 hs0 hv
  go_wp2_with fail
  go_loopw [6, 7] (fun m i wr => ∃ k : Nat, k ≤ g.n1 ∧ i = .int .i64 k ∧ m = .int .i64 (numb (labs g.es) k : Nat) ∧ wr = W1) (fun _ i _ => g.n1 - (intOf i).toNat)
  case atStart => exact ⟨0, Nat.zero_le _, rfl, rfl, rfl⟩
  case round =>
    obtain ⟨k, hk, rfl, rfl, hw⟩ := hrel
    have HW := hide hw
    by_cases hlt : k < g.n1
    · have ck : wr.cell? ⟨ar, offr + k, none⟩ = some (.int .i64 ((numOf (labs g.es) k : Nat) : Int)) := by rw [hw]; exact HRC.out k hlt
      have hmx := max_num (Lab.labs g.es) k
      have h1 := numb_le (labs g.es) k
      have h2 := HNK.out k hlt
      obtain ⟨x, hx⟩ : ∃ x, numb (labs g.es) k = x := ⟨_, rfl⟩
      obtain ⟨y, hy⟩ : ∃ y, numOf (labs g.es) k = y := ⟨_, rfl⟩
      rw [hx] at hmx h1 ⊢
      rw [hy] at hmx ck h2
      have HMX := hide hmx
      clear hmx hw hx hy
      by_cases hxy : x < y + 1
      · have n1 : (x : Int) < (y : Int) + 1 := by omega
        go_wp2
        go_roundw
        case rel => exact ⟨k + 1, by omega, by go_num, by rw [← HMX.out, Nat.max_eq_right (by omega)]; go_num, HW.out⟩
        case measure => simp [intOf]; omega
      · have n1 : ¬ ((x : Int) < (y : Int) + 1) := by omega
        go_wp2
        go_roundw
        case rel => exact ⟨k + 1, by omega, by go_num, by rw [← HMX.out, Nat.max_eq_left (by omega)], HW.out⟩
        case measure => simp [intOf]; omega
    · obtain rfl : k = g.n1 := by omega
      subst hw
      clear HW
      have HKK := hide (show numb (labs g.es) g.n1 = wvK g from rfl)
      obtain ⟨K, hKe⟩ : ∃ K, numb (labs g.es) g.n1 = K := ⟨_, rfl⟩
      rw [hKe] at HKK hK HPR HNK ⊢
      clear hKe
      have hmk := fun W => run_make_row' (P := Try.prog) 22 3 (.int .i64 0) 8 Try.underlying22 infoInt_dk rfl .i64 .i64 K (by omega) (by omega) W
      have m7 := World.rowIs_made wr (.int .i64 0) K 3
      have hB3 : Below wr.heap.size wr (wr.alloc (.cells (madeCells #[.int .i64 0] K) 3)) := (Below.refl _ _).alloc (Nat.le_refl _) _
      have hs3 : (wr.alloc (.cells (madeCells #[.int .i64 0] K) 3)).heap.size = wr.heap.size + 1 := World.size_alloc _ _
      go_upto_region 10 with fail
      obtain ⟨W3, hW3⟩ : ∃ W3, wr.alloc (.cells (madeCells #[.int .i64 0] K) 3) = W3 := ⟨_, rfl⟩
      rw [hW3] at m7 hB3 hs3 ⊢
      clear hW3 hmk
      obtain ⟨gb, hgb⟩ : ∃ gb, wr.heap.size = gb := ⟨_, rfl⟩
      rw [hgb] at m7 hB3 hs3 hs1 har ⊢
      have hgm : g.Ok W3 gb := by rw [← hgb]; exact (hg.up hB01).below (by rw [hgb]; exact hB3)
      have HOM := hide (fun i (h : i < g.n1) => (hB3.cell (p := ⟨ar, offr + i, none⟩) har).trans (HRC.out i h))
      have d1m : W3.cell? ⟨w.heap.size, 1, none⟩ = some (.slice g.a2 g.n2 g.c2) := (hB3.cell (p := ⟨w.heap.size, 1, none⟩) hs1).trans (b1.cell 1)
      have hBw : Below w.heap.size w W3 := hB01.trans (hB3.mono (by omega))
      clear HRC hgb b1 hB01 hB3
      go_wp2_with fail
      go_loopw [9, 10, 11, 12, 13] (fun r _ _ _ _ wx => ∃ (p : Nat) (O : Nat → Nat), p ≤ K + 1 ∧ r = .int .i64 (p : Int) ∧ Low (Pr (wvNum g) g.es) O ∧ Upto' (Pr (wvNum g) g.es) p O ∧ (p = K + 1 → ∀ W, ¬ IsWave (Pr (wvNum g) g.es) W) ∧ (∀ x, O x ≤ p * 400) ∧ wx.rowIs gb 3 K (fun x => .int .i64 ((O x : Nat) : Int)) ∧ Below gb W3 wx)
        (fun r _ _ _ _ _ => K + 1 - (intOf r).toNat)
      case atStart => exact ⟨0, _, Nat.zero_le _, rfl, Low.zero _, Upto'.zero _, fun h => by omega, fun _ => Nat.zero_le _, m7.congr (fun i _ => rfl), Below.refl _ _⟩
      case round =>
        clear m7
        obtain ⟨p, O, hp, rfl, hlow, hup, hnone, hbd, hrow, hB⟩ := hrel
        have HLOW := hide hlow
        have HUP := hide hup
        have HNONE := hide hnone
        have HBD := hide hbd
        clear hlow hup hnone hbd
        by_cases hpk : p ≤ K
        · go_wp2_with fail
          go_loopw [10, 11, 12, 13] (fun ag i _ _ wx => ∃ (k : Nat) (b : Bool) (T : Nat → Nat), k ≤ g.n2 ∧ ag = .bool b ∧ i = .int .i64 (k : Int) ∧ Rnd (wvNum g) g.es O (g.es.take k) b T ∧ (∀ x, T x ≤ p * 400 + k) ∧ wx.rowIs gb 3 K (fun x => .int .i64 ((T x : Nat) : Int)) ∧ Below gb W3 wx)
            (fun _ i _ _ _ => g.n2 - (intOf i).toNat)
          case atStart => exact ⟨0, false, O, Nat.zero_le _, rfl, rfl, Rnd.start HLOW.out, fun x => by have := HBD.out x; omega, hrow, hB⟩
          case round =>
            clear hrow hB
            obtain ⟨k, b, T, hk, rfl, rfl, hrnd, hbd, hrow, hB⟩ := hrel
            have HRND := hide hrnd
            have HBT := hide hbd
            clear hrnd hbd
            have hd1 := (hB.cell (p := ⟨w.heap.size, 1, none⟩) hs1).trans d1m
            by_cases hlt2 : k < g.n2
            · obtain ⟨b1, off, e, ha, hb1, hek, hce⟩ := (hgm.below hB).r2.elem encEd_len HL2.out hlt2
              obtain ⟨v1, v2, v3, v4, v5⟩ := ok_edge HV.out hek
              have HEM := hide (mem_at hek)
              have HTK := hide (take_snoc' hek)
              clear hek
              have e0 : wr.cell? ⟨b1, off + k * 3, none⟩ = some (.int .i64 e.f) := by simpa using hce 0 _ rfl
              have e1 : wr.cell? ⟨b1, off + k * 3 + 1, none⟩ = some (.int .i64 e.t) := by simpa [← Nat.add_assoc] using hce 1 _ rfl
              clear hce
              rw [ha] at hd1
              clear ha
              obtain ⟨f, hf⟩ := Int.eq_ofNat_of_zero_le v1
              obtain ⟨t, ht⟩ := Int.eq_ofNat_of_zero_le (show 0 ≤ e.t by omega)
              have HSKIP := hide (fun (h : wvNum g f ≠ wvNum g t → T (wvNum g f) + 1 ≤ T (wvNum g t)) => show Rnd (wvNum g) g.es O (g.es.take (k + 1)) b T from by rw [HTK.out]; exact HRND.out.skip (by rw [hf, ht]; exact h))
              have HTURN := hide (fun (h1 : wvNum g f ≠ wvNum g t) (h2 : T (wvNum g t) < T (wvNum g f) + 1) => show Rnd (wvNum g) g.es O (g.es.take (k + 1)) true (fun x => if x = wvNum g t then T (wvNum g f) + 1 else T x) from by
                have := HRND.out.turn HEM.out (by rw [hf, ht]; exact h1) (by rw [hf, ht]; exact h2)
                rw [hf, ht] at this
                rw [HTK.out]; exact this)
              rw [hf] at e0 v2
              rw [ht] at e1 v2 v3
              have hfn : f < g.n1 := by omega
              have htn : t < g.n1 := by omega
              have kf := (hB.cell (p := ⟨ar, offr + f, none⟩) har).trans (HOM.out f hfn)
              have kt := (hB.cell (p := ⟨ar, offr + t, none⟩) har).trans (HOM.out t htn)
              have hxn := HNK.out f hfn
              have hyn := HNK.out t htn
              change wr.cell? ⟨ar, offr + f, none⟩ = some (.int .i64 ((wvNum g f : Nat) : Int)) at kf
              change wr.cell? ⟨ar, offr + t, none⟩ = some (.int .i64 ((wvNum g t : Nat) : Int)) at kt
              change wvNum g f < K at hxn
              change wvNum g t < K at hyn
              obtain ⟨x, hx⟩ : ∃ x, wvNum g f = x := ⟨_, rfl⟩
              obtain ⟨y, hy⟩ : ∃ y, wvNum g t = y := ⟨_, rfl⟩
              rw [hx] at kf hxn HSKIP HTURN
              rw [hy] at kt hyn HSKIP HTURN
              clear hx hy
              have q1 : (0 : Int) ≤ (k : Int) := by omega
              have q2 : (k : Int) < (g.n2 : Int) := by omega
              have q3 : (0 : Int) ≤ (f : Int) := by omega
              have q4 : (f : Int) < (g.n1 : Int) := by omega
              have q5 : (0 : Int) ≤ (t : Int) := by omega
              have q6 : (t : Int) < (g.n1 : Int) := by omega
              go_wp2_with fail
              go_quiet (fail)
              obtain ⟨W6, hW6⟩ : ∃ W6, wr.drewN nq = W6 := ⟨_, rfl⟩
              have hrow3 : W6.rowIs gb 3 K (fun x => .int .i64 ((T x : Nat) : Int)) := by rw [← hW6]; exact hrow
              have hB4 : Below gb W3 W6 := by rw [← hW6]; exact below_drewN hB nq
              rw [hW6]
              clear hW6 hrow hB hd1 e0 e1 kf kt
              have cx := hrow3.cell hxn
              have cy := hrow3.cell hyn
              have htx := HBT.out x
              have hty := HBT.out y
              obtain ⟨tx, htxe⟩ : ∃ tx, T x = tx := ⟨_, rfl⟩
              obtain ⟨ty, htye⟩ : ∃ ty, T y = ty := ⟨_, rfl⟩
              rw [htxe] at cx htx HSKIP HTURN
              rw [htye] at cy hty HSKIP HTURN
              have hp400 : p * 400 ≤ 80400 := by have : p ≤ 201 := by omega
                                                 omega
              have q7 : (0 : Int) ≤ (x : Int) := by omega
              have q8 : (x : Int) < (K : Int) := by omega
              have q9 : (0 : Int) ≤ (y : Int) := by omega
              have q10 : (y : Int) < (K : Int) := by omega
              have HTX := hide htxe
              clear htxe htye
              by_cases hxy : x = y
              · have n1 : ((x : Int) != (y : Int)) = false := by simp; omega
                have HEND := hide (HSKIP.out (fun h => absurd hxy h))
                clear hxy
                go_wp2_with fail
                go_quiet (fail)
                go_wp2
                go_roundw
                case rel => exact ⟨k + 1, b, T, by omega, rfl, by go_num, HEND.out, fun z => by have := HBT.out z; omega, hrow3, below_drewN hB4 _⟩
                case measure => simp [intOf]; omega
              · have n1 : ((x : Int) != (y : Int)) = true := by simp; omega
                have hw1 : IntKind.i64.wrap ((tx : Int) + 1) = (tx : Int) + 1 := by rw [IntKind.wrap_i64]; omega
                by_cases hlt3 : ty < tx + 1
                · have HEND := hide (HTURN.out hxy hlt3)
                  have n2 : decide ((ty : Int) < (tx : Int) + 1) = true := by simp; omega
                  clear hxy
                  go_wp2_with fail
                  go_quiet (fail)
                  obtain ⟨W7, hW7⟩ : ∃ W7, W6.drewN nq = W7 := ⟨_, rfl⟩
                  have hrow4 : W7.rowIs gb 3 K (fun x => .int .i64 ((T x : Nat) : Int)) := by rw [← hW7]; exact hrow3
                  have hB5 : Below gb W3 W7 := by rw [← hW7]; exact below_drewN hB4 nq
                  have cx7 := hrow4.cell hxn
                  have cy7 := hrow4.cell hyn
                  rw [HTX.out] at cx7
                  rw [hW7]
                  clear hW7 hrow3 hB4 cx cy
                  have fy := hrow4.frozen y
                  have sy := hrow4.set y (.int .i64 ((tx : Int) + 1))
                  have hB6 := hB5.setCell (p := ⟨gb, y, none⟩) (Nat.le_refl _) (.int .i64 ((tx : Int) + 1))
                  clear hrow4 hB5
                  go_wp2
                  go_roundw
                  case rel => exact ⟨k + 1, true, _, by omega, rfl, by go_num, HEND.out, fun z => by
                    have := HBT.out z
                    by_cases e : z = y
                    · rw [if_pos e]; omega
                    · rw [if_neg e]; omega, sy.congr (fun z _ => by
                    by_cases e : z = y
                    · rw [if_pos e, if_pos e]; simp
                    · rw [if_neg e, if_neg e]), hB6⟩
                  case measure => simp [intOf]; omega
                · have HEND := hide (HSKIP.out (fun _ => by omega))
                  have n2 : decide ((ty : Int) < (tx : Int) + 1) = false := by simp; omega
                  clear hxy
                  go_wp2_with fail
                  go_quiet (fail)
                  go_wp2
                  go_roundw
                  case rel => exact ⟨k + 1, b, T, by omega, rfl, by go_num, HEND.out, fun z => by have := HBT.out z; omega, hrow3, below_drewN hB4 _⟩
                  case measure => simp [intOf]; omega
            · obtain rfl : k = g.n2 := by omega
              rw [List.take_of_length_le (Nat.le_of_eq HL2.out)] at HRND
              cases b
              · have hTO := HRND.out.still rfl
                subst hTO
                have hwv := HRND.out.wave
                have HR := hide (show RetWv g w (.returned (.tuple #[.slice (some ⟨gb, 0, none⟩) K K, .int .i64 0])) wr from by
                  refine .inl ⟨T, hwv, ?_⟩
                  rw [← HKK.out]
                  exact ⟨some ⟨gb, 0, none⟩, K, rfl, reads_rowIs hrow, hBw.trans (hB.mono (by omega))⟩)
                clear hrow hB hwv
                go_wp2
                go_ret2
                exact HR.out
              · have HN := hide (HRND.out.next HUP.out)
                have HNO := hide (show p + 1 = K + 1 → ∀ W, ¬ IsWave (Pr (wvNum g) g.es) W from fun h => by
                  obtain rfl : p = K := by omega
                  exact HRND.out.none_ HPR.out HUP.out)

                go_wp2
                go_roundw
                case rel => exact ⟨p + 1, T, by omega, by go_num, HRND.out.low, HN.out, HNO.out, fun x => by have := HBT.out x; omega, hrow, hB⟩
                case measure => simp [intOf]; omega
        · obtain rfl : p = K + 1 := by omega
          have HR := hide (show RetWv g w (.returned (.tuple #[.slice none 0 0, .int .i64 10])) wr from .inr ⟨HNONE.out rfl, none, 0, rfl, Reads.none_, hBw.trans (hB.mono (by omega))⟩)
          clear hrow hB
          go_wp2
          go_ret2
          exact HR.out
end Go.Proofs.Ytblepaocekojbaa
