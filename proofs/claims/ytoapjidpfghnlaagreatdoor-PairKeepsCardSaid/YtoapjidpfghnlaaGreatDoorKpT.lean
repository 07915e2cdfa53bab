/-
  The walk of a keeper's tell, whichever side is told. No condition.
-/
import Derived.Test.YtoapjidpfghnlaaGreatDoorKpO
import Derived.Test.YtoapjidpfghnlaaGreatDoorOuW
import Derived.Test.YtoapjidpfghnlaaGreatDoorOpenCap
import Derived.Test.YtoapjidpfghnlaaGreatDoorBgT6
namespace Go.Proofs.YtoapjidpfghnlaaGreatDoor
open Go.RowKit
attribute [local go_sem] Oper.semAt_some wide_fn wide_depth
set_option linter.unusedVariables false
set_option linter.unusedSimpArgs false

/-- What tell hands back, and what it makes of the keeper. -/
def RetKp (k : Kst) (s : KS) (b : Nat) (left : Bool) (l r : Bg) (t : Int) (x : Rw) (m : Int) (w : World) (e : Ending) (w' : World) : Prop :=
  ∃ A0 n0 c0 lc, e = .returned (.tuple #[.slice A0 n0 c0, .int .i64 (kpE k left l r t x m)]) ∧ (lc.map (fun (i : Ch) => (i.r, i.m)) = kpC k left l r t x m ∧ ∀ i ∈ lc, i.t = t) ∧ ChgR w' w'.heap.size A0 n0 lc ∧ Turn [b] w w' ∧
    ∃ vL vR vN, KpO w' b s k vL vR vN (kpL k left l r t x m) (kpR k left l r t x m) (kpJ k (kpL k left l r t x m) (kpR k left l r t x m))
theorem chgr_nil (w : World) (B : Nat) : ChgR w B none 0 [] := ⟨⟨rfl, fun h => absurd h (by decide)⟩, nofun, by omega⟩
theorem kp_bad {k : Kst} {s : KS} {b : Nat} {left : Bool} {l r : Bg} {t : Int} {x : Rw} {m : Int} {vL vR vN : Value} {w w1 : World} (h : KpO w1 b s k vL vR vN l r (kpJ k l r)) (ht : Turn [b] w w1) {err : Int} (he : kpE k left l r t x m = err) (h0 : err ≠ 0) :
    RetKp k s b left l r t x m w (.returned (.tuple #[.slice none 0 0, .int .i64 err])) w1 := by
  have h1 : ¬ kpE k left l r t x m = 0 := by rw [he]; exact h0
  refine ⟨none, 0, 0, [], by rw [he], ⟨by unfold kpC; rw [if_neg h1]; rfl, nofun⟩, chgr_nil _ _, ht, vL, vR, vN, ?_⟩
  unfold kpL kpR
  rw [if_neg h1, if_neg h1]
  exact h
theorem chg_oneK {w : World} {t : Int} {Ar : Option Addr} {nr cr : Nat} {r : Rw} {m : Int} (hr : RowK w w.heap.size Ar nr r) :
    ChgR (w.alloc (.cells #[.int .i64 t, .slice Ar nr cr, .int .i64 m] 57)) (w.alloc (.cells #[.int .i64 t, .slice Ar nr cr, .int .i64 m] 57)).heap.size (some ⟨w.heap.size, 0, none⟩) 1 [⟨t, Ar, nr, cr, r, m⟩] :=
  ⟨⟨rfl, fun _ => ⟨w.heap.size, 0, rfl, by simp, fun j u hu => by
    rw [Nat.zero_add, (Blk.new w 57 #[.int .i64 t, .slice Ar nr cr, .int .i64 m]).cell]
    simpa [encCh] using hu⟩⟩, fun i hi => by
    obtain rfl : i = ⟨t, Ar, nr, cr, r, m⟩ := by simpa using hi
    exact (hr.below ((Below.refl _ _).alloc (Nat.le_refl _) _)).mono (by simp), by omega⟩
theorem apply_oneK {d : Bg} {t : Int} {Ar : Option Addr} {nr cr : Nat} {r : Rw} {m : Int} (hd : okBag d = true) (hc : okCh t r m = true) : applyB d [⟨t, Ar, nr, cr, r, m⟩] = toldB (putB d r m) := by
  unfold applyB
  have : okChs [(⟨t, Ar, nr, cr, r, m⟩ : Ch)] = true := by
    unfold okChs chV
    simp [hc]
  rw [hd, this]
  rfl
theorem diff_toldK {a b : Bg} {T : Int} (ha : okBag a = true) (hb : okBag b = true) (hT : btw T (-1000000000000) 1000000000000 = true) : diffB a b T = toldB (plusB b a (-1)) := by
  unfold diffB
  rw [ha, hb, hT, diff_eq ha hb]
  rfl
theorem look_bd {d : Bg} (h : okBag d = true) (r : Rw) : -1000000 ≤ look d r ∧ look d r ≤ 1000000 := look_bound (okBag_asc h).2.1 r
/-- What was, again. -/
theorem kp_back {k : Kst} {s : KS} {b o : Nat} {left : Bool} {l r d d2 wl wr : Bg} {t : Int} {x : Rw} {m : Int} {vL vR vN vo v1 v5 v6 : Value} {w Y : World} (h : KpO Y b s k v5 v6 vN wl wr (kpJ k l r)) (ht : Turn [b] w Y) (ho : sideAt left = o) (hvo : (if left then vL else vR) = vo)
    (h5 : (if left then v1 else vL) = v5) (h6 : (if left then vR else v1) = v6) (hl : lft2 left l d2 = wl) (hr : rgt2 left r d2 = wr) (hd : own2 left l r = d) (hb : BgV Y vo d) {err : Int} (he : kpE k left l r t x m = err) (h0 : err ≠ 0) :
    RetKp k s b left l r t x m w (.returned (.tuple #[.slice none 0 0, .int .i64 err])) (Y.setCell ⟨b, o, none⟩ vo) := by
  have hs := h.spot left vo
  have hk := h.side left hb
  rw [ho] at hs hk
  refine kp_bad (vL := vL) (vR := vR) (vN := vN) ?_ (ht.trans hs) he h0
  subst hvo h5 h6 hl hr hd
  cases left
  · exact hk
  · exact hk
set_option maxRecDepth 100000 in
set_option maxHeartbeats 16000000 in
theorem tell_any {b : Nat} {k : Kst} {s : KS} {vL vR vN : Value} {l r : Bg} {q : Nat} (left : Bool) (t : Int) (Ar : Option Addr) (nr cr : Nat) (x : Rw) (m : Int) (w : World)
    (h : KpO w b s k vL vR vN l r (kpJ k l r)) (hk : Kp2 k l r q) (hq : q + 1 ≤ 60) (hr : RowK w w.heap.size Ar nr x) (ht : Tab w) :
    Calls Tryz.prog 114 #[.pointer (some ⟨b, 0, none⟩), .pointer (some ⟨b, sideAt left, none⟩), .int .i64 ((if left then k.a else k.b : Nat) : Int), .agg #[.int .i64 t, .slice Ar nr cr, .int .i64 m]] w (RetKp k s b left l r t x m w) := by
  have HU := hide (fun (X : World) (hX : Below w.heap.size w X) => h.below hX)
  have HBAD := hide (fun (w1 : World) (hB : Below w.heap.size w w1) (err : Int) (he : kpE k left l r t x m = err) (h0 : err ≠ 0) => kp_bad (left := left) (h.below hB) (Turn.of_below (X := [b]) hB) he h0)
  have HRW := hide (fun (X : World) (hX : Below w.heap.size w X) => (hr.below hX).mono hX.size)
  have HTB := hide (fun (X : World) (hX : Below w.heap.size w X) => ht.below hX)
  have HK := hide hk
  have HO := hide (hk.own left)
  have HNR := hide hr.len
  have hnr := hr.le
  have hbw := h.lt
  obtain ⟨d, hd⟩ : ∃ d, own2 left l r = d := ⟨_, rfl⟩
  obtain ⟨wd, hwd⟩ : ∃ wd, (if left then k.a else k.b : Nat) = wd := ⟨_, rfl⟩
  obtain ⟨R3, hR3⟩ : ∃ R3 : Int, R3 = (if okBag (plusB (kpJ k (lft2 left l (putB d x m)) (rgt2 left r (putB d x m))) (kpJ k l r) (-1)) then 0 else 4) := ⟨_, rfl⟩
  obtain ⟨R2, hR2⟩ : ∃ R2 : Int, R2 = (if okBag (kpJ k (lft2 left l (putB d x m)) (rgt2 left r (putB d x m))) then R3 else 4) := ⟨_, rfl⟩
  obtain ⟨R1, hR1⟩ : ∃ R1 : Int, R1 = (if okBag (putB d x m) then R2 else 4) := ⟨_, rfl⟩
  have hEE : kpE k left l r t x m = (if okCh t x m then (if x.length = wd then (if look d x + m < 0 then 10 else R1) else 9) else 1) := by
    rw [hR1, hR2, hR3, ← hd, ← hwd]
    rfl
  have HR1 := hide hR1
  have HR2 := hide hR2
  have HR3 := hide hR3
  rw [hd, hwd] at HO
  rw [hwd]
  obtain ⟨o, ho⟩ : ∃ o, sideAt left = o := ⟨_, rfl⟩
  obtain ⟨vo, hvo⟩ : ∃ vo, (if left then vL else vR) = vo := ⟨_, rfl⟩
  have HAT := hide (fun (X : World) (hX : Below w.heap.size w X) => show X.cell? ⟨b, o, none⟩ = some vo from by rw [← ho, ← hvo]; exact (h.below hX).at_ left)
  have HVO := hide (fun (X : World) (hX : Below w.heap.size w X) => show BgV X vo d from by
    rw [← hvo, ← hd]
    cases left
    · exact (h.below hX).r
    · exact (h.below hX).l)
  obtain ⟨A, n, c, lo, rfl, _⟩ := HVO.out w (Below.refl _ _)
  rw [ho]
  have HEE := hide hEE
  have HOO := hide ho
  have HVV := hide hvo
  have HDD := hide hd
  have HWDE := hide hwd
  have HTB0 := hide ht
  have HVO2 := hide (fun (Y : World) (hY : Turn [b] w Y) => (show BgV w (.slice A n c) d from HVO.out w (Below.refl _ _)).turn hY)
  have hB0 := below_val (w := w) #[.int .i64 t, .slice Ar nr cr, .int .i64 m] 57
  have kb0 := Blk.new w 57 #[.int .i64 t, .slice Ar nr cr, .int .i64 m]
  clear h hk hr ht hEE ho hvo hd hwd hR1 hR2 hR3
  go_enter Tryz.func114, Tryz.ntmps114
  go_upto_region 1 with fail
  obtain ⟨W0, hW0⟩ : ∃ W0, w.alloc (.cells #[.int .i64 t, .slice Ar nr cr, .int .i64 m] 57) = W0 := ⟨_, rfl⟩
  obtain ⟨bc, hbc⟩ : ∃ bc, w.heap.size = bc := ⟨_, rfl⟩
  rw [hW0] at hB0 kb0 ⊢
  rw [hbc] at kb0 hbw ⊢
  clear hW0
  have g0 : W0.cell? ⟨bc, 0, none⟩ = some (.int .i64 t) := by simpa using kb0.cell 0
  have g1 : W0.cell? ⟨bc, 1, none⟩ = some (.slice Ar nr cr) := by simpa using kb0.cell 1
  have g2 : W0.cell? ⟨bc, 2, none⟩ = some (.int .i64 m) := by simpa using kb0.cell 2
  have HC1 := hide (ValidChange_any t Ar nr cr x m W0 (HRW.out W0 hB0))
  obtain ⟨v, hv⟩ : ∃ v, okCh t x m = v := ⟨_, rfl⟩
  rw [hv] at HC1
  have HV := hide hv
  clear hv
  go_wp2_with fail
  refine HC1.out.mono ?_
  rintro e W1 ⟨rfl, hb⟩
  have hBw := bstep hB0 hb
  have kb1 := kb0.below hb kb0.lt
  clear hB0 hb kb0 g0 g1 g2 HC1
  cases v
  · have HX := hide (show kpE k left l r t x m = 1 from HEE.out.trans (by rw [HV.out]; rfl))
    go_wp2
    refine bodyPost_ret (results_tmp2 rfl _ _ _) rfl ?_
    exact HBAD.out _ hBw 1 HX.out (by decide)
  · skip
    have g1 : W1.cell? ⟨bc, 1, none⟩ = some (.slice Ar nr cr) := by simpa using kb1.cell 1
    by_cases hw : nr = wd
    case neg =>
      have z : ((nr : Int) != (wd : Int)) = true := by simp; omega
      have zn : (nr != wd) = true := by simpa using hw
      have HX := hide (show kpE k left l r t x m = 9 from HEE.out.trans (by rw [HV.out, HNR.out, if_neg hw]; rfl))
      clear hw
      go_wp2
      refine bodyPost_ret (results_tmp2 rfl _ _ _) rfl ?_
      exact HBAD.out _ hBw 9 HX.out (by decide)
    case pos =>
      have z : ((nr : Int) != (wd : Int)) = false := by simp; omega
      have zn : (nr != wd) = false := by simpa using hw
      have HWD := hide hw
      clear hw
      go_wp2_with fail
      obtain ⟨_, hokr, hnm⟩ := okCh_inK HV.out
      have hm := (numB_ne hnm).2
      have hlb := look_bd HO.out.bag x
      obtain ⟨lk, hlk2⟩ : ∃ lk, look d x = lk := ⟨_, rfl⟩
      have hC2 := fun (p : BW W1) => show Calls Tryz.prog 160 #[.slice A n c, .slice Ar nr cr] p.x _ from calls_bw (p := p) (v := .int .i64 lk) (by
        obtain ⟨A9, n9, c9, l9, e9, d9, b9, _⟩ := HVO.out p.x (bstep hBw p.h)
        injection e9 with e1 e2 e3
        subst e1 e2 e3
        have := Count_any A n c p.x.heap.size l9 Ar nr cr x p.x b9 (HRW.out p.x (bstep hBw p.h)) (Nat.le_refl _)
        rwa [d9, show cntB d x = lk from by unfold cntB; rw [HO.out.bag, hokr, ← hlk2]; rfl] at this)
      rw [hlk2] at hlb
      have HC2 := hide hC2
      have HLK := hide hlk2
      have zs : IntKind.i64.wrap (lk + m) = lk + m := by rw [IntKind.wrap_i64]; omega
      have g1 := fun (p : BW W1) => BW.cell (a := ⟨bc, 1, none⟩) kb1.lt (by simpa using kb1.cell 1) p
      have g2 := fun (p : BW W1) => BW.cell (a := ⟨bc, 2, none⟩) kb1.lt (by simpa using kb1.cell 2) p
      have g5 := fun (p : BW W1) => show p.x.cell? ⟨b, o, none⟩ = some (.slice A n c) from HAT.out p.x (bstep hBw p.h)
      clear hC2 hlk2
      by_cases hneg : lk + m < 0
      case pos =>
        have z : decide (lk + m < 0) = true := by simpa using hneg
        have HY := hide (show kpE k left l r t x m = 10 from HEE.out.trans (by rw [HV.out, HNR.out, if_pos rfl, if_pos HWD.out, HLK.out, if_pos hneg]))
        clear hneg
        (refine wp_region_quiet_bw (by kernel_rfl) (by kernel_rfl) ?_
         repeat (first | go_big_quiet_step ((go_at_call 160; exact HC2.out _)) | quiet_step ((go_at_call 160; exact HC2.out _)))
         refine wpQuiet_nil ?_
         intro wq hw'
         obtain ⟨⟨_, hbq⟩, hw''⟩ := hw'
         subst hw'')
        clear g1 g2 g5
        go_wp2
        refine bodyPost_ret (results_tmp2 rfl _ _ _) rfl ?_
        exact HBAD.out _ (bstep hBw hbq) 10 HY.out (by decide)
      case neg =>
        have z : decide (lk + m < 0) = false := by simpa using hneg
        have HPS := hide (show 0 ≤ look d x + m from by rw [HLK.out]; omega)
        have HY := hide (show kpE k left l r t x m = R1 from HEE.out.trans (by rw [HV.out, HNR.out, if_pos rfl, if_pos HWD.out, HLK.out, if_neg hneg]))
        clear hneg
        (refine wp_region_quiet_bw (by kernel_rfl) (by kernel_rfl) ?_
         repeat (first | go_big_quiet_step ((go_at_call 160; exact HC2.out _)) | quiet_step ((go_at_call 160; exact HC2.out _)))
         refine wpQuiet_nil ?_
         intro wq hw'
         obtain ⟨⟨_, hbq⟩, hw''⟩ := hw'
         subst hw'')
        obtain ⟨W2, hW2⟩ : ∃ W2, W2 = wq := ⟨_, rfl⟩
        rw [← hW2] at hbq ⊢
        have hBw2 := bstep hBw hbq
        have kb2 := kb1.below hbq kb1.lt
        clear hW2 g1 g2 g5 z zs HC2 hlb hbq kb1 hBw
        have g5 := HAT.out W2 hBw2
        have g0 : W2.cell? ⟨bc, 0, none⟩ = some (.int .i64 t) := by simpa using kb2.cell 0
        have g1 : W2.cell? ⟨bc, 1, none⟩ = some (.slice Ar nr cr) := by simpa using kb2.cell 1
        have g2 : W2.cell? ⟨bc, 2, none⟩ = some (.int .i64 m) := by simpa using kb2.cell 2
        have hcl := chg_oneK (t := t) (cr := cr) (m := m) (HRW.out W2 hBw2)
        have hB3 := below_val (w := W2) #[.int .i64 t, .slice Ar nr cr, .int .i64 m] 57
        have hBy := bstep hBw2 hB3
        have hA : Calls Tryz.prog 161 #[.slice A n c, .slice (some ⟨W2.heap.size, 0, none⟩) 1 1] (W2.alloc (.cells #[.int .i64 t, .slice Ar nr cr, .int .i64 m] 57)) (RetBagK (W2.alloc (.cells #[.int .i64 t, .slice Ar nr cr, .int .i64 m] 57)) (toldB (putB d x m)).1 (toldB (putB d x m)).2) := by
          obtain ⟨A9, n9, c9, l9, e9, d9, b9, _⟩ := HVO.out _ hBy
          injection e9 with e1 e2 e3
          subst e1 e2 e3
          have := ApplyK_any A n c l9 (some ⟨W2.heap.size, 0, none⟩) 1 1 _ _ b9 hcl (HTB.out _ hBy)
          rw [d9, apply_oneK HO.out.bag HV.out] at this
          exact this
        have HA := hide hA
        have kb3 := kb2.below hB3 kb2.lt
        clear hA hB3 hcl kb2 hBw2
        go_wp2_with fail
        obtain ⟨pp, hpp⟩ : ∃ pp, toldB (putB d x m) = pp := ⟨_, rfl⟩
        rw [hpp] at HA
        refine HA.out.mono ?_
        rintro e W3 ⟨A1, n1, c1, l1, rfl, hl1, hbg1, hcp1, hks1, hb⟩
        obtain ⟨dd, E2⟩ := pp
        replace hl1 : dat l1 = dd := hl1
        have hBz := bstep hBy hb
        have kb4 := kb3.below hb kb3.lt
        clear hb hBy kb3 HA g0 g1 g2 g5
        cases hok : okBag (putB d x m)
        case false =>
          have h3 : ([], 4) = (dd, E2) := by rw [← hpp]; unfold toldB; rw [hok]; rfl
          injection h3 with h3 h4
          have HZ := hide (show kpE k left l r t x m = E2 from HY.out.trans (by rw [HR1.out, hok, ← h4]; rfl))
          have z : (E2 != 0) = true := by rw [← h4]; rfl
          have HNE := hide (show E2 ≠ 0 by rw [← h4]; decide)
          clear hok hpp h3 h4 hl1 hbg1 hcp1 hks1
          go_wp2
          refine bodyPost_ret (results_tmp2 rfl _ _ _) rfl ?_
          exact HBAD.out _ hBz E2 HZ.out HNE.out
        case true =>
          have h3 : (putB d x m, 0) = (dd, E2) := by rw [← hpp]; unfold toldB; rw [hok]; rfl
          injection h3 with h3 h4
          subst h4
          have hl1 : dat l1 = putB d x m := hl1.trans h3.symm
          have HOK := hide hok
          have HY2 := hide (show kpE k left l r t x m = R2 from HY.out.trans (by rw [HR1.out, hok, if_pos rfl]))
          have hsd := HO.out.put (okCh_inK HV.out).2.1 (okCh_inK HV.out).2.2 (HNR.out.trans HWD.out) HPS.out hok
          have hu3 := HU.out W3 hBz
          have hvo : BgV W3 (.slice A1 n1 c1) (putB d x m) := ⟨A1, n1, c1, l1, rfl, hl1, hbg1, hcp1, hks1⟩
          have hcO := HAT.out W3 hBz
          have hfO : W3.frozen? ⟨b, o, none⟩ = false := hu3.blk.frozen o
          have hkO := hu3.side left hvo
          have hsp := hu3.spot left (.slice A1 n1 c1)
          rw [HOO.out] at hkO hsp
          have hT1 := (Turn.of_below (X := [b]) hBz).trans hsp
          have hbcX : (W3.setCell ⟨b, o, none⟩ (.slice A1 n1 c1)).cell? ⟨bc, 0, none⟩ = some (.int .i64 t) := hsp.keep _ _ (by simpa using kb4.cell 0) nofun
          have HSD := hide hsd
          obtain ⟨wl, hwl⟩ : ∃ wl, lft2 left l (putB d x m) = wl := ⟨_, rfl⟩
          obtain ⟨wr, hwr⟩ : ∃ wr, rgt2 left r (putB d x m) = wr := ⟨_, rfl⟩
          have HWL := hide hwl
          have HWR := hide hwr
          have hsl : Sd wl k.a (q + 1) ∧ Sd wr k.b (q + 1) := by
            have hsd := HSD.out
            rw [← hwl, ← hwr]
            cases left
            · exact ⟨HK.out.sl.mono (by omega), by have := HWDE.out; simp at this; rw [← this] at hsd; exact hsd⟩
            · exact ⟨by have := HWDE.out; simp at this; rw [← this] at hsd; exact hsd, HK.out.sr.mono (by omega)⟩
          have HSL := hide hsl
          rw [hwl, hwr] at hkO
          rw [hwl, hwr] at HR2 HR3
          obtain ⟨v5, hv5⟩ : ∃ v5, (if left then Value.slice A1 n1 c1 else vL) = v5 := ⟨_, rfl⟩
          obtain ⟨v6, hv6⟩ : ∃ v6, (if left then vR else Value.slice A1 n1 c1) = v6 := ⟨_, rfl⟩
          have HV5 := hide hv5
          have HV6 := hide hv6
          rw [hv5, hv6] at hkO
          clear hok hpp h3 hl1 hbg1 hcp1 hks1 hsd hsl hwl hwr hv5 hv6 hsp hvo hu3 HY
          go_upto_region 12 with fail
          obtain ⟨X0, hX0⟩ : ∃ X0, W3.setCell ⟨b, o, none⟩ (.slice A1 n1 c1) = X0 := ⟨_, rfl⟩
          rw [hX0] at hkO hT1 hbcX ⊢
          clear hX0 hcO hfO kb4
          obtain ⟨A5, n5, c5, l5, rfl, hd5, hb5, hc5, hk5⟩ := hkO.l
          obtain ⟨A6, n6, c6, l6, rfl, hd6, hb6, hc6, hk6⟩ := hkO.r
          obtain ⟨AN, nN, cN, lN, rfl, hdN, hbN, hcN⟩ := hkO.j
          have HKO := hide hkO
          have HD5 := hide hd5
          have HD6 := hide hd6
          have HDN := hide hdN
          have HK5 := hide hk5
          have HK6 := hide hk6
          have hn5 : n5 ≤ 60 := by have h8 := HSL.out.1.cnt; rw [← hd5, dat_len, hb5.len] at h8; omega
          have hn6 : n6 ≤ 60 := by have h8 := HSL.out.2.cnt; rw [← hd6, dat_len, hb6.len] at h8; omega
          clear hd5 hd6 hdN hk5 hk6
          refine Held.begin (fun y => y.cell? ⟨b, 0, none⟩ = some (.slice s.A s.n s.c) ∧ y.cell? ⟨b, 1, none⟩ = some (.slice s.A' s.n' s.c') ∧ y.cell? ⟨b, 2, none⟩ = some (.int .i64 k.kind) ∧ y.cell? ⟨b, 3, none⟩ = some (.int .i64 (k.a : Int)) ∧ y.cell? ⟨b, 4, none⟩ = some (.int .i64 (k.b : Int)) ∧ y.cell? ⟨b, 5, none⟩ = some (.slice A5 n5 c5) ∧ y.cell? ⟨b, 6, none⟩ = some (.slice A6 n6 c6)) 100 (by kernel_rfl) ?_
          have hdr : Below X0.heap.size X0 X0.drew := (Below.refl _ _).drew
          have hS : X0.drew.cell? ⟨b, 0, none⟩ = some (.slice s.A s.n s.c) ∧ X0.drew.cell? ⟨b, 1, none⟩ = some (.slice s.A' s.n' s.c') ∧ X0.drew.cell? ⟨b, 2, none⟩ = some (.int .i64 k.kind) ∧ X0.drew.cell? ⟨b, 3, none⟩ = some (.int .i64 (k.a : Int)) ∧ X0.drew.cell? ⟨b, 4, none⟩ = some (.int .i64 (k.b : Int)) ∧ X0.drew.cell? ⟨b, 5, none⟩ = some (.slice A5 n5 c5) ∧ X0.drew.cell? ⟨b, 6, none⟩ = some (.slice A6 n6 c6) := ⟨hkO.blk.cell 0, hkO.blk.cell 1, hkO.blk.cell 2, hkO.blk.cell 3, hkO.blk.cell 4, hkO.blk.cell 5, hkO.blk.cell 6⟩
          have hbl := hkO.lt
          obtain ⟨X1, hX1⟩ : ∃ X1, X0.drew = X1 := ⟨_, rfl⟩
          rw [hX1] at hdr hS ⊢
          clear hX1 hkO
          refine Held.take (i := 0) (.pointer (some ⟨b, 0, none⟩)) rfl hS (by kernel_rfl) (by kernel_rfl) (by kernel_rfl) (by kernel_rfl) (fun _ _ _ h => h) rfl (fun y hy => by obtain ⟨x1, x2, x3, x4, x5, x6, x7⟩ := hy; go_simp) ?_
          try simp only [Act.put]
          refine Held.take (i := 1) (.pointer (some ⟨b, 0, none⟩)) rfl hS (by kernel_rfl) (by kernel_rfl) (by kernel_rfl) (by kernel_rfl) (fun _ _ _ h => h) rfl (fun y hy => by obtain ⟨x1, x2, x3, x4, x5, x6, x7⟩ := hy; go_simp) ?_
          try simp only [Act.put]
          refine Held.take (i := 2) (.pointer (some ⟨b, 2, none⟩)) rfl hS (by kernel_rfl) (by kernel_rfl) (by kernel_rfl) (by kernel_rfl) (fun _ _ _ h => h) rfl (fun y hy => by obtain ⟨x1, x2, x3, x4, x5, x6, x7⟩ := hy; go_simp) ?_
          try simp only [Act.put]
          refine Held.take (i := 3) (.int .i64 k.kind) rfl hS (by kernel_rfl) (by kernel_rfl) (by kernel_rfl) (by kernel_rfl) (fun _ _ _ h => h) rfl (fun y hy => by obtain ⟨x1, x2, x3, x4, x5, x6, x7⟩ := hy; go_simp) ?_
          try simp only [Act.put]
          refine Held.take (i := 4) (.pointer (some ⟨b, 0, none⟩)) rfl hS (by kernel_rfl) (by kernel_rfl) (by kernel_rfl) (by kernel_rfl) (fun _ _ _ h => h) rfl (fun y hy => by obtain ⟨x1, x2, x3, x4, x5, x6, x7⟩ := hy; go_simp) ?_
          try simp only [Act.put]
          refine Held.take (i := 5) (.pointer (some ⟨b, 0, none⟩)) rfl hS (by kernel_rfl) (by kernel_rfl) (by kernel_rfl) (by kernel_rfl) (fun _ _ _ h => h) rfl (fun y hy => by obtain ⟨x1, x2, x3, x4, x5, x6, x7⟩ := hy; go_simp) ?_
          try simp only [Act.put]
          refine Held.take (i := 6) (.pointer (some ⟨b, 0, none⟩)) rfl hS (by kernel_rfl) (by kernel_rfl) (by kernel_rfl) (by kernel_rfl) (fun _ _ _ h => h) rfl (fun y hy => by obtain ⟨x1, x2, x3, x4, x5, x6, x7⟩ := hy; go_simp) ?_
          try simp only [Act.put]
          refine Held.take (i := 7) (.agg #[.slice s.A s.n s.c, .slice s.A' s.n' s.c']) rfl hS (by kernel_rfl) (by kernel_rfl) (by kernel_rfl) (by kernel_rfl) (fun _ _ _ h => h) rfl (fun y hy => by obtain ⟨x1, x2, x3, x4, x5, x6, x7⟩ := hy; go_simp) ?_
          try simp only [Act.put]
          refine Held.take (i := 8) (.pointer (some ⟨b, 0, none⟩)) rfl hS (by kernel_rfl) (by kernel_rfl) (by kernel_rfl) (by kernel_rfl) (fun _ _ _ h => h) rfl (fun y hy => by obtain ⟨x1, x2, x3, x4, x5, x6, x7⟩ := hy; go_simp) ?_
          try simp only [Act.put]
          refine Held.take (i := 9) (.pointer (some ⟨b, 0, none⟩)) rfl hS (by kernel_rfl) (by kernel_rfl) (by kernel_rfl) (by kernel_rfl) (fun _ _ _ h => h) rfl (fun y hy => by obtain ⟨x1, x2, x3, x4, x5, x6, x7⟩ := hy; go_simp) ?_
          try simp only [Act.put]
          refine Held.take (i := 10) (.pointer (some ⟨b, 3, none⟩)) rfl hS (by kernel_rfl) (by kernel_rfl) (by kernel_rfl) (by kernel_rfl) (fun _ _ _ h => h) rfl (fun y hy => by obtain ⟨x1, x2, x3, x4, x5, x6, x7⟩ := hy; go_simp) ?_
          try simp only [Act.put]
          refine Held.take (i := 11) (.int .i64 (k.a : Int)) rfl hS (by kernel_rfl) (by kernel_rfl) (by kernel_rfl) (by kernel_rfl) (fun _ _ _ h => h) rfl (fun y hy => by obtain ⟨x1, x2, x3, x4, x5, x6, x7⟩ := hy; go_simp) ?_
          try simp only [Act.put]
          refine Held.take (i := 12) (.pointer (some ⟨b, 0, none⟩)) rfl hS (by kernel_rfl) (by kernel_rfl) (by kernel_rfl) (by kernel_rfl) (fun _ _ _ h => h) rfl (fun y hy => by obtain ⟨x1, x2, x3, x4, x5, x6, x7⟩ := hy; go_simp) ?_
          try simp only [Act.put]
          refine Held.take (i := 13) (.pointer (some ⟨b, 0, none⟩)) rfl hS (by kernel_rfl) (by kernel_rfl) (by kernel_rfl) (by kernel_rfl) (fun _ _ _ h => h) rfl (fun y hy => by obtain ⟨x1, x2, x3, x4, x5, x6, x7⟩ := hy; go_simp) ?_
          try simp only [Act.put]
          refine Held.take (i := 14) (.pointer (some ⟨b, 4, none⟩)) rfl hS (by kernel_rfl) (by kernel_rfl) (by kernel_rfl) (by kernel_rfl) (fun _ _ _ h => h) rfl (fun y hy => by obtain ⟨x1, x2, x3, x4, x5, x6, x7⟩ := hy; go_simp) ?_
          try simp only [Act.put]
          refine Held.take (i := 15) (.int .i64 (k.b : Int)) rfl hS (by kernel_rfl) (by kernel_rfl) (by kernel_rfl) (by kernel_rfl) (fun _ _ _ h => h) rfl (fun y hy => by obtain ⟨x1, x2, x3, x4, x5, x6, x7⟩ := hy; go_simp) ?_
          try simp only [Act.put]
          refine Held.take (i := 16) (.pointer (some ⟨b, 0, none⟩)) rfl hS (by kernel_rfl) (by kernel_rfl) (by kernel_rfl) (by kernel_rfl) (fun _ _ _ h => h) rfl (fun y hy => by obtain ⟨x1, x2, x3, x4, x5, x6, x7⟩ := hy; go_simp) ?_
          try simp only [Act.put]
          refine Held.take (i := 17) (.pointer (some ⟨b, 0, none⟩)) rfl hS (by kernel_rfl) (by kernel_rfl) (by kernel_rfl) (by kernel_rfl) (fun _ _ _ h => h) rfl (fun y hy => by obtain ⟨x1, x2, x3, x4, x5, x6, x7⟩ := hy; go_simp) ?_
          try simp only [Act.put]
          refine Held.take (i := 18) (.pointer (some ⟨b, 5, none⟩)) rfl hS (by kernel_rfl) (by kernel_rfl) (by kernel_rfl) (by kernel_rfl) (fun _ _ _ h => h) rfl (fun y hy => by obtain ⟨x1, x2, x3, x4, x5, x6, x7⟩ := hy; go_simp) ?_
          try simp only [Act.put]
          refine Held.take (i := 19) (.slice A5 n5 c5) rfl hS (by kernel_rfl) (by kernel_rfl) (by kernel_rfl) (by kernel_rfl) (fun _ _ _ h => h) rfl (fun y hy => by obtain ⟨x1, x2, x3, x4, x5, x6, x7⟩ := hy; go_simp) ?_
          try simp only [Act.put]
          refine Held.take (i := 20) (.pointer (some ⟨b, 0, none⟩)) rfl hS (by kernel_rfl) (by kernel_rfl) (by kernel_rfl) (by kernel_rfl) (fun _ _ _ h => h) rfl (fun y hy => by obtain ⟨x1, x2, x3, x4, x5, x6, x7⟩ := hy; go_simp) ?_
          try simp only [Act.put]
          refine Held.take (i := 21) (.pointer (some ⟨b, 0, none⟩)) rfl hS (by kernel_rfl) (by kernel_rfl) (by kernel_rfl) (by kernel_rfl) (fun _ _ _ h => h) rfl (fun y hy => by obtain ⟨x1, x2, x3, x4, x5, x6, x7⟩ := hy; go_simp) ?_
          try simp only [Act.put]
          refine Held.take (i := 22) (.pointer (some ⟨b, 6, none⟩)) rfl hS (by kernel_rfl) (by kernel_rfl) (by kernel_rfl) (by kernel_rfl) (fun _ _ _ h => h) rfl (fun y hy => by obtain ⟨x1, x2, x3, x4, x5, x6, x7⟩ := hy; go_simp) ?_
          try simp only [Act.put]
          refine Held.take (i := 23) (.slice A6 n6 c6) rfl hS (by kernel_rfl) (by kernel_rfl) (by kernel_rfl) (by kernel_rfl) (fun _ _ _ h => h) rfl (fun y hy => by obtain ⟨x1, x2, x3, x4, x5, x6, x7⟩ := hy; go_simp) ?_
          try simp only [Act.put]
          refine Held.one (i := 24) rfl (by kernel_rfl) rfl (fun K hK => ?_)
          unfold Oper.wp
          go_simp
          have hst := HKO.out.st.below hdr
          have hOu := outer_any k.kind s.A s.n s.c k.on s.A' s.n' s.c' k.others k.a k.b A5 n5 c5 l5 A6 n6 c6 l6 X1 hst.on hst.ot (hst.same HK.out.ok) hst.n1 ((hb5.below hdr).mono hdr.size) ((hb6.below hdr).mono hdr.size) hn5 hn6 HK5.out HK6.out ((hT1.tab HTB0.out).below hdr) (by rw [HD5.out]; exact HSL.out.1.side HK.out.ok.ion) (by rw [HD6.out]; exact HSL.out.2.side HK.out.ok.iot) HK.out.ok.wide HK.out.ok.kind
          rw [HD5.out, HD6.out] at hOu
          change Calls _ _ _ _ (RetOu X1 (if okBag (kpJ k wl wr) then (kpJ k wl wr, 0) else ([], 4))) at hOu
          obtain ⟨p, hp⟩ : ∃ p, (if okBag (kpJ k wl wr) then (kpJ k wl wr, (0 : Int)) else ([], 4)) = p := ⟨_, rfl⟩
          rw [hp] at hOu
          refine hOu.mono ?_
          rintro e X2 ⟨AJ, nJ, cJ, lJ, rfl, hdJ, hbJ, hcJ, _, hb⟩
          have hS2 : X2.cell? ⟨b, 0, none⟩ = some (.slice s.A s.n s.c) ∧ X2.cell? ⟨b, 1, none⟩ = some (.slice s.A' s.n' s.c') ∧ X2.cell? ⟨b, 2, none⟩ = some (.int .i64 k.kind) ∧ X2.cell? ⟨b, 3, none⟩ = some (.int .i64 (k.a : Int)) ∧ X2.cell? ⟨b, 4, none⟩ = some (.int .i64 (k.b : Int)) ∧ X2.cell? ⟨b, 5, none⟩ = some (.slice A5 n5 c5) ∧ X2.cell? ⟨b, 6, none⟩ = some (.slice A6 n6 c6) := ⟨(hb.cell (Nat.lt_of_lt_of_le hbl hdr.size)).trans hS.1, (hb.cell (Nat.lt_of_lt_of_le hbl hdr.size)).trans hS.2.1, (hb.cell (Nat.lt_of_lt_of_le hbl hdr.size)).trans hS.2.2.1, (hb.cell (Nat.lt_of_lt_of_le hbl hdr.size)).trans hS.2.2.2.1, (hb.cell (Nat.lt_of_lt_of_le hbl hdr.size)).trans hS.2.2.2.2.1, (hb.cell (Nat.lt_of_lt_of_le hbl hdr.size)).trans hS.2.2.2.2.2.1, (hb.cell (Nat.lt_of_lt_of_le hbl hdr.size)).trans hS.2.2.2.2.2.2⟩
          have hBX := bstep hdr hb
          refine hK _ _ (fun _ => hS2) ?_
          try simp only [Act.put]
          clear hK K hS hdr hb hOu hst hb5 hb6 hn5 hn6
          have hS := hS2
          clear hS2
          have HP := hide hp
          obtain ⟨pd, E3⟩ := p
          replace hdJ : dat lJ = pd := hdJ
          clear hp
          dsimp only
          refine Held.take (i := 25) (.tuple #[.slice AJ nJ cJ, .int .i64 E3]) rfl hS (by kernel_rfl) (by kernel_rfl) (by kernel_rfl) (by kernel_rfl) (fun _ _ _ h => h) rfl (fun y hy => by obtain ⟨x1, x2, x3, x4, x5, x6, x7⟩ := hy; go_simp) ?_
          try simp only [Act.put]
          refine Held.take (i := 26) (.slice AJ nJ cJ) rfl hS (by kernel_rfl) (by kernel_rfl) (by kernel_rfl) (by kernel_rfl) (fun _ _ _ h => h) rfl (fun y hy => by obtain ⟨x1, x2, x3, x4, x5, x6, x7⟩ := hy; go_simp) ?_
          try simp only [Act.put]
          refine Held.take (i := 27) (.int .i64 E3) rfl hS (by kernel_rfl) (by kernel_rfl) (by kernel_rfl) (by kernel_rfl) (fun _ _ _ h => h) rfl (fun y hy => by obtain ⟨x1, x2, x3, x4, x5, x6, x7⟩ := hy; go_simp) ?_
          try simp only [Act.put]
          refine Held.take (i := 28) (.slice AJ nJ cJ) rfl hS (by kernel_rfl) (by kernel_rfl) (by kernel_rfl) (by kernel_rfl) (fun _ _ _ h => h) rfl (fun y hy => by obtain ⟨x1, x2, x3, x4, x5, x6, x7⟩ := hy; go_simp) ?_
          try simp only [Act.put]
          refine Held.take (i := 29) (.int .i64 E3) rfl hS (by kernel_rfl) (by kernel_rfl) (by kernel_rfl) (by kernel_rfl) (fun _ _ _ h => h) rfl (fun y hy => by obtain ⟨x1, x2, x3, x4, x5, x6, x7⟩ := hy; go_simp) ?_
          try simp only [Act.put]
          refine Held.done (by kernel_rfl) ?_
          clear hS
          have hkX := HKO.out.below hBX
          have hTX := hT1.below hBX
          have hbcX := (hBX.cell (World.block_lt_of_cell? _ _ hbcX)).trans hbcX
          have HBK := hide (fun (Y : World) (hY : Below X2.heap.size X2 Y) (err : Int) (he : kpE k left l r t x m = err) (h0 : err ≠ 0) => kp_back (hkX.below hY) (hTX.below hY) HOO.out HVV.out HV5.out HV6.out HWL.out HWR.out HDD.out (HVO2.out _ (hTX.below hY)) he h0)
          cases hokJ : okBag (kpJ k wl wr)
          case false =>
            have h3 : ([], 4) = (pd, E3) := by rw [← HP.out, hokJ]; rfl
            injection h3 with h3 h4
            have HZ := hide (show kpE k left l r t x m = E3 from HY2.out.trans (by rw [HR2.out, hokJ, ← h4]; rfl))
            have z : (E3 == 0) = false := by rw [← h4]; rfl
            have z2 : (E3 != 0) = true := by rw [← h4]; rfl
            have HNE := hide (show E3 ≠ 0 by rw [← h4]; decide)
            have cO : ∃ u, X2.cell? ⟨b, o, none⟩ = some u := ⟨_, by rw [← HOO.out]; exact hkX.at_ left⟩
            obtain ⟨uO, cO⟩ := cO
            have fO : X2.frozen? ⟨b, o, none⟩ = false := hkX.blk.frozen o
            have HRT := hide (HBK.out X2 (Below.refl _ _) E3 HZ.out HNE.out)
            clear hokJ h3 h4 hkX hTX hbJ hdJ hbcX HBK hbl hbN
            go_wp2
            refine bodyPost_ret (results_tmp2 rfl _ _ _) rfl ?_
            exact HRT.out
          case true =>
            have h3 : (kpJ k wl wr, 0) = (pd, E3) := by rw [← HP.out, hokJ]; rfl
            injection h3 with h3 h4
            subst h4
            have hdJ : dat lJ = kpJ k wl wr := hdJ.trans h3.symm
            have HY3 := hide (show kpE k left l r t x m = R3 from HY2.out.trans (by rw [HR2.out, hokJ, if_pos rfl]))
            have HOJ := hide hokJ
            clear hokJ h3 HP HY2
            go_wp2_with fail
            refine Held.begin (fun y => y.cell? ⟨b, 7, none⟩ = some (.slice AN nN cN) ∧ y.cell? ⟨bc, 0, none⟩ = some (.int .i64 t)) 100 (by kernel_rfl) ?_
            have hdr : Below X2.heap.size X2 X2.drew := (Below.refl _ _).drew
            have hS : X2.drew.cell? ⟨b, 7, none⟩ = some (.slice AN nN cN) ∧ X2.drew.cell? ⟨bc, 0, none⟩ = some (.int .i64 t) := ⟨hkX.blk.cell 7, hbcX⟩
            have hbl7 := World.block_lt_of_cell? _ _ hS.1
            have hblc := World.block_lt_of_cell? _ _ hS.2
            obtain ⟨X3, hX3⟩ : ∃ X3, X2.drew = X3 := ⟨_, rfl⟩
            rw [hX3] at hdr hS hbl7 hblc ⊢
            clear hX3
            refine Held.take (i := 0) (.pointer (some ⟨b, 0, none⟩)) rfl hS (by kernel_rfl) (by kernel_rfl) (by kernel_rfl) (by kernel_rfl) (fun _ _ _ h => h) rfl (fun y hy => by obtain ⟨x1, x2⟩ := hy; go_simp) ?_
            try simp only [Act.put]
            refine Held.take (i := 1) (.pointer (some ⟨b, 0, none⟩)) rfl hS (by kernel_rfl) (by kernel_rfl) (by kernel_rfl) (by kernel_rfl) (fun _ _ _ h => h) rfl (fun y hy => by obtain ⟨x1, x2⟩ := hy; go_simp) ?_
            try simp only [Act.put]
            refine Held.take (i := 2) (.pointer (some ⟨b, 7, none⟩)) rfl hS (by kernel_rfl) (by kernel_rfl) (by kernel_rfl) (by kernel_rfl) (fun _ _ _ h => h) rfl (fun y hy => by obtain ⟨x1, x2⟩ := hy; go_simp) ?_
            try simp only [Act.put]
            refine Held.take (i := 3) (.slice AN nN cN) rfl hS (by kernel_rfl) (by kernel_rfl) (by kernel_rfl) (by kernel_rfl) (fun _ _ _ h => h) rfl (fun y hy => by obtain ⟨x1, x2⟩ := hy; go_simp) ?_
            try simp only [Act.put]
            refine Held.take (i := 4) (.slice AJ nJ cJ) rfl hS (by kernel_rfl) (by kernel_rfl) (by kernel_rfl) (by kernel_rfl) (fun _ _ _ h => h) rfl (fun y hy => by obtain ⟨x1, x2⟩ := hy; go_simp) ?_
            try simp only [Act.put]
            refine Held.take (i := 5) (.pointer (some ⟨bc, 0, none⟩)) rfl hS (by kernel_rfl) (by kernel_rfl) (by kernel_rfl) (by kernel_rfl) (fun _ _ _ h => h) rfl (fun y hy => by obtain ⟨x1, x2⟩ := hy; go_simp) ?_
            try simp only [Act.put]
            refine Held.take (i := 6) (.int .i64 t) rfl hS (by kernel_rfl) (by kernel_rfl) (by kernel_rfl) (by kernel_rfl) (fun _ _ _ h => h) rfl (fun y hy => by obtain ⟨x1, x2⟩ := hy; go_simp) ?_
            try simp only [Act.put]
            refine Held.one (i := 7) rfl (by kernel_rfl) rfl (fun K hK => ?_)
            unfold Oper.wp
            go_simp
            have hbN3 : BagR X3 X3.heap.size AN nN lN := ((hbN.below hBX).mono hBX.size |>.below hdr).mono hdr.size
            have hbJ3 : BagR X3 X3.heap.size AJ nJ lJ := (hbJ.below hdr).mono (Nat.zero_le _)
            have hCh := callsIn_wide.1 (Changes_gen AN nN cN lN AJ nJ cJ lJ X3 hbN3 hbJ3 hcN hcJ t)
            rw [HDN.out, hdJ, diff_toldK HK.out.j HOJ.out (okCh_inK HV.out).1] at hCh
            obtain ⟨p4, hp4⟩ : ∃ p4, toldB (plusB (kpJ k wl wr) (kpJ k l r) (-1)) = p4 := ⟨_, rfl⟩
            rw [hp4] at hCh
            refine hCh.mono ?_
            rintro e X4 ⟨A3, n3, c3, lc, rfl, ⟨hlc, hlt⟩, hchg, hb⟩
            have hS2 : X4.cell? ⟨b, 7, none⟩ = some (.slice AN nN cN) ∧ X4.cell? ⟨bc, 0, none⟩ = some (.int .i64 t) := ⟨(hb.cell hbl7).trans hS.1, (hb.cell hblc).trans hS.2⟩
            have hB4 := bstep hdr hb
            refine hK _ _ (fun _ => hS2) ?_
            try simp only [Act.put]
            have HLC := hide hlc
            have HLT := hide hlt
            obtain ⟨pd4, E4⟩ := p4
            dsimp only
            clear hK K hS hdr hb hCh hbN3 hbJ3 hlc hlt hbl7 hblc
            have hS := hS2
            clear hS2
            refine Held.take (i := 8) (.tuple #[.slice A3 n3 c3, .int .i64 E4]) rfl hS (by kernel_rfl) (by kernel_rfl) (by kernel_rfl) (by kernel_rfl) (fun _ _ _ h => h) rfl (fun y hy => by obtain ⟨x1, x2⟩ := hy; go_simp) ?_
            try simp only [Act.put]
            refine Held.take (i := 9) (.slice A3 n3 c3) rfl hS (by kernel_rfl) (by kernel_rfl) (by kernel_rfl) (by kernel_rfl) (fun _ _ _ h => h) rfl (fun y hy => by obtain ⟨x1, x2⟩ := hy; go_simp) ?_
            try simp only [Act.put]
            refine Held.take (i := 10) (.int .i64 E4) rfl hS (by kernel_rfl) (by kernel_rfl) (by kernel_rfl) (by kernel_rfl) (fun _ _ _ h => h) rfl (fun y hy => by obtain ⟨x1, x2⟩ := hy; go_simp) ?_
            try simp only [Act.put]
            refine Held.take (i := 11) (.slice A3 n3 c3) rfl hS (by kernel_rfl) (by kernel_rfl) (by kernel_rfl) (by kernel_rfl) (fun _ _ _ h => h) rfl (fun y hy => by obtain ⟨x1, x2⟩ := hy; go_simp) ?_
            try simp only [Act.put]
            refine Held.take (i := 12) (.int .i64 E4) rfl hS (by kernel_rfl) (by kernel_rfl) (by kernel_rfl) (by kernel_rfl) (fun _ _ _ h => h) rfl (fun y hy => by obtain ⟨x1, x2⟩ := hy; go_simp) ?_
            try simp only [Act.put]
            refine Held.done (by kernel_rfl) ?_
            have h7 := hS.1
            clear hS
            have hk4 := hkX.below hB4
            have hT4 := hTX.below hB4
            cases hokD : okBag (plusB (kpJ k wl wr) (kpJ k l r) (-1))
            case false =>
              have h3 : ([], 4) = (pd4, E4) := by rw [← hp4]; unfold toldB; rw [hokD]; rfl
              injection h3 with h3 h4
              have HZ := hide (show kpE k left l r t x m = E4 from HY3.out.trans (by rw [HR3.out, hokD, ← h4]; rfl))
              have z2 : (E4 != 0) = true := by rw [← h4]; rfl
              have HNE := hide (show E4 ≠ 0 by rw [← h4]; decide)
              have cO : ∃ u, X4.cell? ⟨b, o, none⟩ = some u := ⟨_, by rw [← HOO.out]; exact hk4.at_ left⟩
              obtain ⟨uO, cO⟩ := cO
              have fO : X4.frozen? ⟨b, o, none⟩ = false := hk4.blk.frozen o
              have HRT := hide (HBK.out X4 hB4 E4 HZ.out HNE.out)
              clear hokD h3 h4 hkX hTX hk4 hT4 hbJ hdJ hbcX HBK hbl hbN hchg h7 hp4
              go_wp2
              refine bodyPost_ret (results_tmp2 rfl _ _ _) rfl ?_
              exact HRT.out
            case true =>
              have h3 : (plusB (kpJ k wl wr) (kpJ k l r) (-1), 0) = (pd4, E4) := by rw [← hp4]; unfold toldB; rw [hokD]; rfl
              injection h3 with h3 h4
              subst h4
              have HZ := hide (show kpE k left l r t x m = 0 from HY3.out.trans (by rw [HR3.out, hokD]; rfl))
              have f7 : X4.frozen? ⟨b, 7, none⟩ = false := hk4.blk.frozen 7
              have hsp := hk4.spotN (.slice AJ nJ cJ)
              have hk5 := hk4.now (v := .slice AJ nJ cJ) (d := kpJ k wl wr) ⟨AJ, nJ, cJ, lJ, rfl, hdJ, (hbJ.below hB4).mono (Nat.zero_le _), hcJ⟩
              have HKF := hide hk5
              have HTF := hide (hT4.trans hsp)
              have HCF := hide (hchg.turn hsp)
              have HLC2 := hide (HLC.out.trans (show _ = plusB (kpJ k wl wr) (kpJ k l r) (-1) from h3.symm))
              clear hokD h3 hkX hTX hk4 hT4 hbJ hdJ hbcX HBK hbl hbN hchg hp4 hsp hk5
              go_wp2
              refine bodyPost_ret (results_tmp2 rfl _ _ _) rfl ?_
              refine ⟨A3, n3, c3, lc, by rw [HZ.out]; rfl, ⟨?_, HLT.out⟩, HCF.out, HTF.out, ?_⟩
              · unfold kpC
                rw [if_pos HZ.out, HDD.out, HWL.out, HWR.out]
                exact HLC2.out
              · unfold kpL kpR
                rw [if_pos HZ.out, if_pos HZ.out, HDD.out, HWL.out, HWR.out]
                exact ⟨_, _, _, HKF.out⟩
end Go.Proofs.YtoapjidpfghnlaaGreatDoor
