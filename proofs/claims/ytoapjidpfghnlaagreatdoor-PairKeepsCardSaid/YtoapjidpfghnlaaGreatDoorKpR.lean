/-
  The walks of the reference's NewKeeper, and of its keeper's Left and Right. (Printed by gen_kpR.) No condition.
-/
import Derived.Test.YtoapjidpfghnlaaGreatDoorKpN
import Derived.Test.YtoapjidpfghnlaaGreatDoorKpB
import Derived.Test.YtoapjidpfghnlaaGreatDoorOkG
import Derived.Test.YtoapjidpfghnlaaGreatDoorOpenCap
import Derived.Test.YtoapjidpfghnlaaGreatDoorBgT5
namespace Go.Proofs.YtoapjidpfghnlaaGreatDoor
open Go.RowKit
attribute [local go_sem] Oper.semAt_some wide_fn wide_depth
set_option linter.unusedVariables false
set_option linter.unusedSimpArgs false

theorem look_foundK {d : Bg} (ha : Asc d) {r : Rw} (hr : okR r = true) {i : Nat} {x : Rw × Int} (hx : d[i]? = some x) (hc : cmpR x.1 r = 0) : look d r = x.2 := by
  have hm := List.mem_of_getElem? hx
  have e : x.1 = r := okR_eq (ha.ok x hm) hr hc
  subst e
  exact look_mem ha hm
set_option maxRecDepth 100000 in
set_option maxHeartbeats 4000000 in
theorem RNk_any (A : Option Addr) (n c B : Nat) (l : List It) (A' : Option Addr) (n' c' : Nat) (r : Rw) (w : World) (hx : BagR w B A n l) (hr : RowK w w.heap.size A' n' r) (ho : Asc (dat l)) (hq : okR r = true) :
    Calls Tryz.prog 100 #[.slice A n c, .slice A' n' c'] w (RetV w (.int .i64 (look (dat l) r))) := by
  obtain ⟨p, hp⟩ : ∃ p, look (dat l) r = p := ⟨_, rfl⟩
  have HP := hide hp
  rw [hp]
  clear hp
  have hn := hx.le
  have HL := hide (show (dat l).length = n by rw [dat_len, hx.len])
  have HO := hide ho
  have HQ := hide hq
  clear ho hq
  go_enter Tryz.func100, Tryz.ntmps100
  go_wp2_with fail
  go_loopw [5] (fun i wr => ∃ k : Nat, k ≤ n ∧ i = .int .i64 k ∧ (∀ (q : Nat) (x : Rw × Int), q < k → (dat l)[q]? = some x → cmpR x.1 r ≠ 0) ∧ Below w.heap.size w wr) (fun i _ => n - (intOf i).toNat)
  case atStart => exact ⟨0, Nat.zero_le _, rfl, fun q x hq => absurd hq (by omega), Below.refl _ _⟩
  case round =>
    obtain ⟨k, hk, rfl, hno, hBw⟩ := hrel
    have HN := hide hno
    clear hno
    by_cases hlt : k < n
    · obtain ⟨b, off, x, rfl, hb, hxk, c0, c1, hrow⟩ := (hx.below hBw).at_ hlt
      have HE := hide (dat_at hxk)
      have q1 : (0 : Int) ≤ (k : Int) := by omega
      have q2 : (k : Int) < (n : Int) := by omega
      have HS := hide (R2Compare_any x.A x.n x.c x.r A' n' c' r wr hrow.rd (hr.below hBw).rd hrow.le)
      clear hxk
      go_wp2_with fail
      refine HS.out.mono ?_
      rintro e W1 ⟨rfl, hB1⟩
      have hB2 := bstep hBw hB1
      by_cases hc : cmpR x.r r = 0
      · have z : (cmpR x.r r == 0) = true := by simpa using hc
        have HX := hide (show x.m = p by rw [← HP.out, look_foundK HO.out HQ.out HE.out hc])
        have c1' := (hB1.cell (p := ⟨b, off + k * 2 + 1, none⟩) hb).trans c1
        clear hc c0 c1
        go_wp2
        go_ret
        exact ⟨ret_int HX.out, hB2⟩
      · have z : (cmpR x.r r == 0) = false := by simpa using hc
        have HX := hide (show ∀ (q : Nat) (y : Rw × Int), q < k + 1 → (dat l)[q]? = some y → cmpR y.1 r ≠ 0 from fun q y hq hy => by
          by_cases e : q = k
          · subst e
            rw [HE.out] at hy
            injection hy with hy
            rw [← hy]; exact hc
          · exact HN.out q y (by omega) hy)
        clear hc
        go_wp2
        go_roundw
        case rel => exact ⟨k + 1, by omega, by go_num, HX.out, hB2⟩
        case measure => simp [intOf]; omega
    · obtain rfl : k = n := by omega
      have HX := hide (show 0 = p by
        rw [← HP.out, look_no fun q x hx => HN.out q x (by have := (List.getElem?_eq_some_iff.1 hx).1; rw [HL.out] at this; exact this) hx])
      go_wp2
      go_ret
      exact ⟨ret_int HX.out, hBw⟩
def RetNR (kind : Int) (on others : List Int) (wide width : Int) (w : World) (e : Ending) (w' : World) : Prop := Below w.heap.size w w' ∧
  if setE kind on others wide width [] [] = 0 then ∃ b s, e = .returned (.tuple #[.pointer (some ⟨b, 0, none⟩), .int .i64 0]) ∧ w.heap.size ≤ b ∧ ∀ k : Kst, k.kind = kind → k.on = on → k.others = others → (k.a : Int) = wide → (k.b : Int) = width → KrO w' b s k (.slice none 0 0) (.slice none 0 0) [] []
  else e = .returned (.tuple #[.pointer none, .int .i64 (setE kind on others wide width [] [])])
set_option maxRecDepth 100000 in
set_option maxHeartbeats 8000000 in
theorem RNewKeeper_any (kind : Int) (A1 : Option Addr) (n1 c1 : Nat) (on : List Int) (A2 : Option Addr) (n2 c2 : Nat) (others : List Int) (wide width : Int) (w : World)
    (h1 : Reads w w.heap.size 1 A1 n1 (on.map (Value.int .i64))) (h2 : Reads w w.heap.size 1 A2 n2 (others.map (Value.int .i64))) (hn1 : n1 ≤ 1000) (hn2 : n2 ≤ 1000) :
    Calls Tryz.prog 51 #[.int .i64 kind, .slice A1 n1 c1, .slice A2 n2 c2, .int .i64 wide, .int .i64 width] w (RetNR kind on others wide width w) := by
  obtain ⟨i0, hi, hz0, hz1, hz2⟩ := info_parts3 infoInt9
  have HS := hide (RSetup_any kind A1 n1 c1 on A2 n2 c2 others wide width none 0 0 [] none 0 0 [] w h1 h2 hn1 hn2 (BagR.nil _ _) (BagR.nil _ _))
  obtain ⟨E, hE⟩ : ∃ E, setE kind on others wide width [] [] = E := ⟨_, rfl⟩
  rw [show dat [] = [] from rfl, hE] at HS
  have HE := hide hE
  have PA := hide h1
  have PB := hide h2
  clear h1 h2 hE
  go_enter Tryz.func51, Tryz.ntmps51
  go_wp2_with fail
  refine HS.out.mono ?_
  rintro e W2 ⟨rfl, hB2⟩
  by_cases h0 : E = 0
  · have z : (E != 0) = false := by simpa using h0
    have HZ := hide (HE.out.trans h0)
    clear h0
    have hlit := own_lit W2 3 1 0 #[] rfl (by unfold maxLen; omega) (Nat.le_refl W2.heap.size)
    have hB0 := below_val (w := W2) #[] 3
    have hrd := (PA.out.up hB2).alloc (Nat.le_refl _) (.cells #[] 3)
    have HB2 := hide hB2
    clear hB2
    go_wp2_with (first | (at_builtin; refine wpList_append_any _ rfl _ _ 22 rfl W2.heap.size 3 i0 _ 1 8 Tryz.underlying22 hi hz0 hz1 hz2 rfl (by decide) (.slice (some ⟨W2.heap.size, 0, none⟩) 0 0) 0 [] rfl hlit W2.heap.size A1 n1 c1 (on.map (Value.int .i64)) rfl hrd (by intro u hu; obtain ⟨y, _, rfl⟩ := List.mem_map.1 hu; rfl) (by unfold maxLen; omega) (by omega) (by simp) ?_; intro v' W3 hown hgrow _; rw [Nat.zero_add, List.nil_append] at hown; obtain ⟨Aa, ca, rfl, _⟩ := own_form hown; have hB1 : Below W2.heap.size W2 W3 := below_append hB0 hlit (by simp) hgrow; have hlit2 := own_lit W3 3 1 0 #[] rfl (by unfold maxLen; omega) (Nat.le_refl W3.heap.size); have hB02 := below_val (w := W3) #[] 3; have hrd2 := (PB.out.up (bstep HB2.out hB1)).alloc (Nat.le_refl _) (.cells #[] 3); clear hgrow) | (at_builtin; refine wpList_append_any _ rfl _ _ 22 rfl W3.heap.size 3 i0 _ 1 8 Tryz.underlying22 hi hz0 hz1 hz2 rfl (by decide) (.slice (some ⟨W3.heap.size, 0, none⟩) 0 0) 0 [] rfl hlit2 W3.heap.size A2 n2 c2 (others.map (Value.int .i64)) rfl hrd2 (by intro u hu; obtain ⟨y, _, rfl⟩ := List.mem_map.1 hu; rfl) (by unfold maxLen; omega) (by omega) (by simp) ?_; intro v'' W4 hown' hgrow' _; rw [Nat.zero_add, List.nil_append] at hown'; obtain ⟨Ab, cb, rfl, _⟩ := own_form hown'; have hB3 : Below W3.heap.size W3 W4 := below_append hB02 hlit2 (by simp) hgrow'; clear hgrow'))
    have HRES := hide (show RetNR kind on others wide width w (.returned (.tuple #[.pointer (some ⟨W4.heap.size, 0, none⟩), .int .i64 0])) (W4.alloc (.cells #[.int .i64 kind, .int .i64 wide, .int .i64 width, .slice Aa n1 ca, .slice Ab n2 cb, .slice none 0 0, .slice none 0 0] 155)) from by
      have hbv := below_val (w := W4) #[.int .i64 kind, .int .i64 wide, .int .i64 width, .slice Aa n1 ca, .slice Ab n2 cb, .slice none 0 0, .slice none 0 0] 155
      have hBx := bstep (bstep HB2.out hB1) hB3
      refine ⟨bstep hBx hbv, ?_⟩
      rw [if_pos HZ.out]
      have kb := Blk.new W4 155 #[.int .i64 kind, .int .i64 wide, .int .i64 width, .slice Aa n1 ca, .slice Ab n2 cb, .slice none 0 0, .slice none 0 0]
      refine ⟨_, ⟨Aa, n1, ca, Ab, n2, cb⟩, rfl, hBx.size, fun k e1 e2 e3 e4 e5 => ⟨?_, ⟨?_, ?_, hn1, hn2⟩, (BgV.nil _).w, (BgV.nil _).w⟩⟩
      · rw [e1, e4, e5]; exact kb
      · rw [e2]; exact (((IntK.of_own hown).below hB3).below hbv).rd
      · rw [e3]; exact ((IntK.of_own hown').below hbv).rd)
    clear hown hown' hlit hlit2 hB0 hB02 hB1 hB3 hrd hrd2
    go_wp2
    refine bodyPost_ret (results_tmp2 rfl _ _ _) rfl ?_
    exact HRES.out
  · have z : (E != 0) = true := by simpa using h0
    have HB := hide hB2
    have HZ := hide h0
    clear h0
    go_wp2
    refine bodyPost_ret (results_tmp2 rfl _ _ _) rfl ?_
    refine ⟨HB.out, ?_⟩
    rw [HE.out, if_neg HZ.out]
    rfl
/-- What a change that is told hands back, and what it makes of the reference's keeper. -/
def RetKr (k : Kst) (s : KS) (b : Nat) (left : Bool) (l r : Bg) (t : Int) (x : Rw) (m : Int) (w : World) (e : Ending) (w' : World) : Prop :=
  ∃ A0 n0 c0 lc, e = .returned (.tuple #[.slice A0 n0 c0, .int .i64 (kpE k left l r t x m)]) ∧ (lc.map (fun (i : Ch) => (i.r, i.m)) = kpC k left l r t x m ∧ ∀ i ∈ lc, i.t = t) ∧ ChgR w' w'.heap.size A0 n0 lc ∧ Turn [b] w w' ∧
    ∃ vL vR, KrO w' b s k vL vR (kpL k left l r t x m) (kpR k left l r t x m)
theorem RetKr.under {k : Kst} {s : KS} {b : Nat} {left : Bool} {l r : Bg} {t : Int} {x : Rw} {m : Int} {w W : World} {e : Ending} {w' : World} (hB : Below w.heap.size w W) (h : RetKr k s b left l r t x m W e w') : RetKr k s b left l r t x m w e w' := by
  obtain ⟨A0, n0, c0, lc, h1, h2, h3, h4, h5⟩ := h
  exact ⟨A0, n0, c0, lc, h1, h2, h3, (Turn.of_below hB).trans h4, h5⟩
theorem kr_bad {k : Kst} {s : KS} {b : Nat} {left : Bool} {l r : Bg} {t : Int} {x : Rw} {m : Int} {vL vR : Value} {w w1 : World} (h : KrO w1 b s k vL vR l r) (ht : Turn [b] w w1) {err : Int} (he : kpE k left l r t x m = err) (h0 : err ≠ 0) :
    RetKr k s b left l r t x m w (.returned (.tuple #[.slice none 0 0, .int .i64 err])) w1 := by
  have h1 : ¬ kpE k left l r t x m = 0 := by rw [he]; exact h0
  refine ⟨none, 0, 0, [], by rw [he], ⟨by unfold kpC; rw [if_neg h1]; rfl, nofun⟩, chgr_nil _ _, ht, vL, vR, ?_⟩
  unfold kpL kpR
  rw [if_neg h1, if_neg h1]
  exact h
/-- The side with one change more, whatever it is. -/
theorem sd_more {d : Bg} {n q : Nat} {cols : List Int} (h : Sd d n q) {x : Rw} {m : Int} (hx : okR x = true) (hm : numB m = true) (hn : x.length = n) (h3 : 0 ≤ look d x + m) (hi : insK cols (n : Int) = true) (hq : q + 1 ≤ 400) : SideOk (putB d x m) cols n := by
  obtain ⟨h4, h5, h6, _⟩ := sd_put h hx hm hn h3
  exact ⟨fun y hy => ⟨h4.ok y hy, (h5 y hy).1, hasC_wide (by rw [(h5 y hy).1]) hi⟩, fun y hy => (h5 y hy).2, by omega⟩
theorem bigJ {k : Kst} {l r : Bg} {q : Nat} (hl : SideOk l k.on k.a) (hr : SideOk r k.others k.b) (hw : k.a + k.b ≤ 8) (h1 : l.length ≤ q) (h2 : r.length ≤ q) (hq : q ≤ 40) : BigL (kpJ k l r) := by
  have hn := knd_net hl hr hw (decide (k.kind % 2 = 1)) (decide (2 ≤ k.kind))
  have hok : ∀ c ∈ joinL (decide (k.kind % 2 = 1)) (decide (2 ≤ k.kind)) k.on k.others k.a k.b l r, TellP c := fun c hc => (List.mem_append.1 hc).elim (lefts_tell hl hr hw c) (right_tell hr hw c)
  have hlen : (joinL (decide (k.kind % 2 = 1)) (decide (2 ≤ k.kind)) k.on k.others k.a k.b l r).length ≤ 1700 := by
    have g1 := leftsL_len (decide (k.kind % 2 = 1)) k.on k.others k.b l r
    have g2 := rightL_len (decide (2 ≤ k.kind)) k.on k.others k.a l r
    have g3 : l.length * (r.length + 1) ≤ 40 * 41 := Nat.mul_le_mul (by omega) (by omega)
    unfold joinL
    rw [List.length_append]
    omega
  refine ⟨hn.asc, fun x hx => ⟨hn.ne x hx, ?_⟩, ?_⟩
  · have h3 := sum_absL (fun x hx => (hok x hx).2) x.1
    rw [← hn.sum, look_in (asc_apart hn.asc) hx] at h3
    omega
  · have h3 := told_len (xs := joinL (decide (k.kind % 2 = 1)) (decide (2 ≤ k.kind)) k.on k.others k.a k.b l r) (fun c hc => (hok c hc).1)
    unfold kpJ kndB
    omega
theorem look_pos2 {d : Bg} (h : ∀ x ∈ d, 1 ≤ x.2) (x : Rw) : 0 ≤ look d x := by
  induction d with
  | nil => exact Int.le_refl 0
  | cons y d ih =>
    have h1 := ih fun z hz => h z (List.mem_cons_of_mem _ hz)
    have h2 := h y List.mem_cons_self
    rw [look]
    split
    · omega
    · exact h1
set_option maxRecDepth 100000 in
set_option maxHeartbeats 16000000 in
theorem RLeftside_any {b : Nat} {k : Kst} {s : KS} {vL vR : Value} {l r : Bg} {q : Nat} (t : Int) (Ar : Option Addr) (nr cr : Nat) (x : Rw) (m : Int) (w : World)
    (h : KrO w b s k vL vR l r) (hk : Kp2 k l r q) (hq : q + 1 ≤ 40) (hr : RowK w w.heap.size Ar nr x) :
    Calls Tryz.prog 115 #[.pointer (some ⟨b, 0, none⟩), .agg #[.int .i64 t, .slice Ar nr cr, .int .i64 m], .bool true] w (RetKr k s b true l r t x m w) := by
  obtain ⟨AL, nL, cL, lL, rfl, hdL, hbL, hcL⟩ := h.l
  obtain ⟨AR, nR, cR, lR, rfl, hdR, hbR, hcR⟩ := h.r
  have HU := hide (fun (X : World) (hX : Below w.heap.size w X) => h.below hX)
  have HBAD := hide (fun (w1 : World) (hB : Below w.heap.size w w1) (err : Int) (he : kpE k true l r t x m = err) (h0 : err ≠ 0) => kr_bad (left := true) (h.below hB) (Turn.of_below (X := [b]) hB) he h0)
  have HRW := hide (fun (X : World) (hX : Below w.heap.size w X) => (hr.below hX).mono hX.size)
  have HBL := hide (fun (X : World) (hX : Below w.heap.size w X) => (hbL.below hX).mono hX.size)
  have HBR := hide (fun (X : World) (hX : Below w.heap.size w X) => (hbR.below hX).mono hX.size)
  have HDL := hide hdL
  have HDR := hide hdR
  have HK := hide hk
  have HNR := hide hr.len
  have HLL := hide (show nL ≤ 40 from by have h1 := hk.sl.cnt; rw [← hdL, dat_len, hbL.len] at h1; omega)
  have HLR := hide (show nR ≤ 40 from by have h1 := hk.sr.cnt; rw [← hdR, dat_len, hbR.len] at h1; omega)
  have hnr := hr.le
  have hbw := h.lt
  obtain ⟨R3, hR3⟩ : ∃ R3 : Int, R3 = (if okBag (plusB (kpJ k (lft2 true l (putB l x m)) (rgt2 true r (putB l x m))) (kpJ k l r) (-1)) then 0 else 4) := ⟨_, rfl⟩
  obtain ⟨R2, hR2⟩ : ∃ R2 : Int, R2 = (if okBag (kpJ k (lft2 true l (putB l x m)) (rgt2 true r (putB l x m))) then R3 else 4) := ⟨_, rfl⟩
  obtain ⟨R1, hR1⟩ : ∃ R1 : Int, R1 = (if okBag (putB l x m) then R2 else 4) := ⟨_, rfl⟩
  have hEE : kpE k true l r t x m = (if okCh t x m then (if x.length = k.a then (if look l x + m < 0 then 10 else R1) else 9) else 1) := by
    rw [hR1, hR2, hR3]
    rfl
  have HR1 := hide hR1
  have HR2 := hide hR2
  have HR3 := hide hR3
  have HEE := hide hEE
  have hB0 := below_val (w := w) #[.int .i64 t, .slice Ar nr cr, .int .i64 m] 57
  have kb0 := Blk.new w 57 #[.int .i64 t, .slice Ar nr cr, .int .i64 m]
  clear h hk hr hdL hdR hbL hbR hEE hR1 hR2 hR3
  go_enter Tryz.func115, Tryz.ntmps115
  go_upto_region 1 with fail
  obtain ⟨W0, hW0⟩ : ∃ W0, w.alloc (.cells #[.int .i64 t, .slice Ar nr cr, .int .i64 m] 57) = W0 := ⟨_, rfl⟩
  obtain ⟨bc, hbc⟩ : ∃ bc, w.heap.size = bc := ⟨_, rfl⟩
  rw [hW0] at hB0 kb0 ⊢
  rw [hbc] at kb0 hbw ⊢
  clear hW0
  have g0 : W0.cell? ⟨bc, 0, none⟩ = some (.int .i64 t) := by simpa using kb0.cell 0
  have g1 : W0.cell? ⟨bc, 1, none⟩ = some (.slice Ar nr cr) := by simpa using kb0.cell 1
  have g2 : W0.cell? ⟨bc, 2, none⟩ = some (.int .i64 m) := by simpa using kb0.cell 2
  have HC1 := hide (RValidChange_any t Ar nr cr x m W0 (HRW.out W0 hB0))
  obtain ⟨v, hv⟩ : ∃ v, okCh t x m = v := ⟨_, rfl⟩
  rw [hv] at HC1
  have HV := hide hv
  clear hv
  go_wp2_with fail
  refine HC1.out.mono ?_
  rintro e W1 ⟨rfl, hb⟩
  have hB1 := bstep hB0 hb
  have kb1 := kb0.below hb kb0.lt
  clear hB0 hb kb0 g0 g1 g2 HC1
  cases v
  case false =>
    have HX := hide (show kpE k true l r t x m = 1 from HEE.out.trans (by rw [HV.out]; rfl))
    go_wp2
    refine bodyPost_ret (results_tmp2 rfl _ _ _) rfl ?_
    exact HBAD.out _ hB1 1 HX.out (by decide)
  case true =>
    have g5 := fun (p : BW W1) => show p.x.cell? ⟨b, 5, none⟩ = some (.slice AL nL cL) from (HU.out p.x (bstep hB1 p.h)).blk.cell 5
    have g6 := fun (p : BW W1) => show p.x.cell? ⟨b, 6, none⟩ = some (.slice AR nR cR) from (HU.out p.x (bstep hB1 p.h)).blk.cell 6
    have g1 := fun (p : BW W1) => show p.x.cell? ⟨b, 1, none⟩ = some (.int .i64 (k.a : Int)) from (HU.out p.x (bstep hB1 p.h)).blk.cell 1
    go_wp2_with fail
    (refine wp_region_quiet_bw (by kernel_rfl) (by kernel_rfl) ?_
     repeat (first | go_big_quiet_step ((fail)) | quiet_step ((fail)))
     refine wpQuiet_nil ?_
     intro wq hw'
     obtain ⟨⟨_, hbq⟩, hw''⟩ := hw'
     subst hw'')
    obtain ⟨W2, hW2⟩ : ∃ W2, W2 = wq := ⟨_, rfl⟩
    rw [← hW2] at hbq ⊢
    have hB2 := bstep hB1 hbq
    have kb2 := kb1.below hbq kb1.lt
    clear hW2 g1 g5 g6 hbq kb1 hB1
    have g1 : W2.cell? ⟨bc, 1, none⟩ = some (.slice Ar nr cr) := by simpa using kb2.cell 1
    have g3 : W2.cell? ⟨b, 2, none⟩ = some (.int .i64 (k.b : Int)) := (HU.out W2 hB2).blk.cell 2
    by_cases hw : nr = k.a
    case neg =>
      have z : ((nr : Int) != (k.a : Int)) = true := by simp; omega
      have zn : (nr != k.a) = true := by simpa using hw
      have HX := hide (show kpE k true l r t x m = 9 from HEE.out.trans (by rw [HV.out, HNR.out, if_neg hw]; rfl))
      clear hw
      go_wp2
      refine bodyPost_ret (results_tmp2 rfl _ _ _) rfl ?_
      exact HBAD.out _ hB2 9 HX.out (by decide)
    case pos =>
      have z : ((nr : Int) != (k.a : Int)) = false := by simp; omega
      have zn : (nr != k.a) = false := by simpa using hw
      have HWD := hide hw
      clear hw
      go_wp2_with fail
      clear g1 g3 z zn
      refine Held.begin (fun y => y.cell? ⟨b, 0, none⟩ = some (.int .i64 k.kind) ∧ y.cell? ⟨b, 1, none⟩ = some (.int .i64 (k.a : Int)) ∧ y.cell? ⟨b, 2, none⟩ = some (.int .i64 (k.b : Int)) ∧ y.cell? ⟨b, 3, none⟩ = some (.slice s.A s.n s.c) ∧ y.cell? ⟨b, 4, none⟩ = some (.slice s.A' s.n' s.c')) 100 (by kernel_rfl) ?_
      have hdr : Below W2.heap.size W2 W2.drew := (Below.refl _ _).drew
      obtain ⟨Xw, hXe⟩ : ∃ Xw, W2.drew = Xw := ⟨_, rfl⟩
      rw [hXe] at hdr ⊢
      have hBd := bstep hB2 hdr
      have hu := HU.out Xw hBd
      have hS : Xw.cell? ⟨b, 0, none⟩ = some (.int .i64 k.kind) ∧ Xw.cell? ⟨b, 1, none⟩ = some (.int .i64 (k.a : Int)) ∧ Xw.cell? ⟨b, 2, none⟩ = some (.int .i64 (k.b : Int)) ∧ Xw.cell? ⟨b, 3, none⟩ = some (.slice s.A s.n s.c) ∧ Xw.cell? ⟨b, 4, none⟩ = some (.slice s.A' s.n' s.c') := ⟨hu.blk.cell 0, hu.blk.cell 1, hu.blk.cell 2, hu.blk.cell 3, hu.blk.cell 4⟩
      clear hXe
      refine Held.take (i := 0) (.pointer (some ⟨b, 0, none⟩)) rfl hS (by kernel_rfl) (by kernel_rfl) (by kernel_rfl) (by kernel_rfl) (fun _ _ _ h => h) rfl (fun y hy => by obtain ⟨x1, x2, x3, x4, x5⟩ := hy; go_simp) ?_
      try simp only [Act.put]
      refine Held.take (i := 1) (.pointer (some ⟨b, 0, none⟩)) rfl hS (by kernel_rfl) (by kernel_rfl) (by kernel_rfl) (by kernel_rfl) (fun _ _ _ h => h) rfl (fun y hy => by obtain ⟨x1, x2, x3, x4, x5⟩ := hy; go_simp) ?_
      try simp only [Act.put]
      refine Held.take (i := 2) (.pointer (some ⟨b, 0, none⟩)) rfl hS (by kernel_rfl) (by kernel_rfl) (by kernel_rfl) (by kernel_rfl) (fun _ _ _ h => h) rfl (fun y hy => by obtain ⟨x1, x2, x3, x4, x5⟩ := hy; go_simp) ?_
      try simp only [Act.put]
      refine Held.take (i := 3) (.int .i64 k.kind) rfl hS (by kernel_rfl) (by kernel_rfl) (by kernel_rfl) (by kernel_rfl) (fun _ _ _ h => h) rfl (fun y hy => by obtain ⟨x1, x2, x3, x4, x5⟩ := hy; go_simp) ?_
      try simp only [Act.put]
      refine Held.take (i := 4) (.pointer (some ⟨b, 0, none⟩)) rfl hS (by kernel_rfl) (by kernel_rfl) (by kernel_rfl) (by kernel_rfl) (fun _ _ _ h => h) rfl (fun y hy => by obtain ⟨x1, x2, x3, x4, x5⟩ := hy; go_simp) ?_
      try simp only [Act.put]
      refine Held.take (i := 5) (.pointer (some ⟨b, 0, none⟩)) rfl hS (by kernel_rfl) (by kernel_rfl) (by kernel_rfl) (by kernel_rfl) (fun _ _ _ h => h) rfl (fun y hy => by obtain ⟨x1, x2, x3, x4, x5⟩ := hy; go_simp) ?_
      try simp only [Act.put]
      refine Held.take (i := 6) (.pointer (some ⟨b, 3, none⟩)) rfl hS (by kernel_rfl) (by kernel_rfl) (by kernel_rfl) (by kernel_rfl) (fun _ _ _ h => h) rfl (fun y hy => by obtain ⟨x1, x2, x3, x4, x5⟩ := hy; go_simp) ?_
      try simp only [Act.put]
      refine Held.take (i := 7) (.slice s.A s.n s.c) rfl hS (by kernel_rfl) (by kernel_rfl) (by kernel_rfl) (by kernel_rfl) (fun _ _ _ h => h) rfl (fun y hy => by obtain ⟨x1, x2, x3, x4, x5⟩ := hy; go_simp) ?_
      try simp only [Act.put]
      refine Held.take (i := 8) (.pointer (some ⟨b, 0, none⟩)) rfl hS (by kernel_rfl) (by kernel_rfl) (by kernel_rfl) (by kernel_rfl) (fun _ _ _ h => h) rfl (fun y hy => by obtain ⟨x1, x2, x3, x4, x5⟩ := hy; go_simp) ?_
      try simp only [Act.put]
      refine Held.take (i := 9) (.pointer (some ⟨b, 0, none⟩)) rfl hS (by kernel_rfl) (by kernel_rfl) (by kernel_rfl) (by kernel_rfl) (fun _ _ _ h => h) rfl (fun y hy => by obtain ⟨x1, x2, x3, x4, x5⟩ := hy; go_simp) ?_
      try simp only [Act.put]
      refine Held.take (i := 10) (.pointer (some ⟨b, 4, none⟩)) rfl hS (by kernel_rfl) (by kernel_rfl) (by kernel_rfl) (by kernel_rfl) (fun _ _ _ h => h) rfl (fun y hy => by obtain ⟨x1, x2, x3, x4, x5⟩ := hy; go_simp) ?_
      try simp only [Act.put]
      refine Held.take (i := 11) (.slice s.A' s.n' s.c') rfl hS (by kernel_rfl) (by kernel_rfl) (by kernel_rfl) (by kernel_rfl) (fun _ _ _ h => h) rfl (fun y hy => by obtain ⟨x1, x2, x3, x4, x5⟩ := hy; go_simp) ?_
      try simp only [Act.put]
      refine Held.take (i := 12) (.pointer (some ⟨b, 0, none⟩)) rfl hS (by kernel_rfl) (by kernel_rfl) (by kernel_rfl) (by kernel_rfl) (fun _ _ _ h => h) rfl (fun y hy => by obtain ⟨x1, x2, x3, x4, x5⟩ := hy; go_simp) ?_
      try simp only [Act.put]
      refine Held.take (i := 13) (.pointer (some ⟨b, 0, none⟩)) rfl hS (by kernel_rfl) (by kernel_rfl) (by kernel_rfl) (by kernel_rfl) (fun _ _ _ h => h) rfl (fun y hy => by obtain ⟨x1, x2, x3, x4, x5⟩ := hy; go_simp) ?_
      try simp only [Act.put]
      refine Held.take (i := 14) (.pointer (some ⟨b, 1, none⟩)) rfl hS (by kernel_rfl) (by kernel_rfl) (by kernel_rfl) (by kernel_rfl) (fun _ _ _ h => h) rfl (fun y hy => by obtain ⟨x1, x2, x3, x4, x5⟩ := hy; go_simp) ?_
      try simp only [Act.put]
      refine Held.take (i := 15) (.int .i64 (k.a : Int)) rfl hS (by kernel_rfl) (by kernel_rfl) (by kernel_rfl) (by kernel_rfl) (fun _ _ _ h => h) rfl (fun y hy => by obtain ⟨x1, x2, x3, x4, x5⟩ := hy; go_simp) ?_
      try simp only [Act.put]
      refine Held.take (i := 16) (.pointer (some ⟨b, 0, none⟩)) rfl hS (by kernel_rfl) (by kernel_rfl) (by kernel_rfl) (by kernel_rfl) (fun _ _ _ h => h) rfl (fun y hy => by obtain ⟨x1, x2, x3, x4, x5⟩ := hy; go_simp) ?_
      try simp only [Act.put]
      refine Held.take (i := 17) (.pointer (some ⟨b, 0, none⟩)) rfl hS (by kernel_rfl) (by kernel_rfl) (by kernel_rfl) (by kernel_rfl) (fun _ _ _ h => h) rfl (fun y hy => by obtain ⟨x1, x2, x3, x4, x5⟩ := hy; go_simp) ?_
      try simp only [Act.put]
      refine Held.take (i := 18) (.pointer (some ⟨b, 2, none⟩)) rfl hS (by kernel_rfl) (by kernel_rfl) (by kernel_rfl) (by kernel_rfl) (fun _ _ _ h => h) rfl (fun y hy => by obtain ⟨x1, x2, x3, x4, x5⟩ := hy; go_simp) ?_
      try simp only [Act.put]
      refine Held.take (i := 19) (.int .i64 (k.b : Int)) rfl hS (by kernel_rfl) (by kernel_rfl) (by kernel_rfl) (by kernel_rfl) (fun _ _ _ h => h) rfl (fun y hy => by obtain ⟨x1, x2, x3, x4, x5⟩ := hy; go_simp) ?_
      try simp only [Act.put]
      refine Held.take (i := 20) (.slice AL nL cL) rfl hS (by kernel_rfl) (by kernel_rfl) (by kernel_rfl) (by kernel_rfl) (fun _ _ _ h => h) rfl (fun y hy => by obtain ⟨x1, x2, x3, x4, x5⟩ := hy; go_simp) ?_
      try simp only [Act.put]
      refine Held.take (i := 21) (.slice AR nR cR) rfl hS (by kernel_rfl) (by kernel_rfl) (by kernel_rfl) (by kernel_rfl) (fun _ _ _ h => h) rfl (fun y hy => by obtain ⟨x1, x2, x3, x4, x5⟩ := hy; go_simp) ?_
      try simp only [Act.put]
      refine Held.one (i := 22) rfl (by kernel_rfl) rfl (fun K hK => ?_)
      unfold Oper.wp
      go_simp
      have hJ := joined_any k.kind s.A s.n s.c k.on s.A' s.n' s.c' k.others k.a k.b AL nL cL lL AR nR cR lR Xw _ _ hu.st.on hu.st.ot (hu.st.same HK.out.ok) hu.st.n1 (HBL.out Xw hBd) (HBR.out Xw hBd) (by rw [HDL.out]; exact HK.out.sl.side HK.out.ok.ion) (by rw [HDR.out]; exact HK.out.sr.side HK.out.ok.iot) HK.out.ok.wide HK.out.ok.kind rfl rfl
      rw [HDL.out, HDR.out] at hJ
      refine hJ.mono ?_
      rintro e W3 ⟨Aw, nw, cw, rfl, hOw, hb⟩
      have hS2 : W3.cell? ⟨b, 0, none⟩ = some (.int .i64 k.kind) ∧ W3.cell? ⟨b, 1, none⟩ = some (.int .i64 (k.a : Int)) ∧ W3.cell? ⟨b, 2, none⟩ = some (.int .i64 (k.b : Int)) ∧ W3.cell? ⟨b, 3, none⟩ = some (.slice s.A s.n s.c) ∧ W3.cell? ⟨b, 4, none⟩ = some (.slice s.A' s.n' s.c') := ⟨(hb.cell hu.lt).trans hS.1, (hb.cell hu.lt).trans hS.2.1, (hb.cell hu.lt).trans hS.2.2.1, (hb.cell hu.lt).trans hS.2.2.2.1, (hb.cell hu.lt).trans hS.2.2.2.2⟩
      have hB3 := bstep hBd hb
      have kb3 := (kb2.below hdr kb2.lt).below hb (kb2.below hdr kb2.lt).lt
      refine hK _ _ (fun _ => hS2) ?_
      try simp only [Act.put]
      clear hK K hS hb hdr hBd hu hJ hB2 kb2
      have hS := hS2
      clear hS2
      refine Held.take (i := 23) (.slice Aw nw cw) rfl hS (by kernel_rfl) (by kernel_rfl) (by kernel_rfl) (by kernel_rfl) (fun _ _ _ h => h) rfl (fun y hy => by obtain ⟨x1, x2, x3, x4, x5⟩ := hy; go_simp) ?_
      try simp only [Act.put]
      refine Held.done (by kernel_rfl) ?_
      clear hS
      obtain ⟨_, _, _, lw, hve, hdw, hbw, hcw⟩ := hOw
      injection hve with e1 e2 e3
      subst e1 e2 e3
      change dat lw = kpJ k _ _ at hdw
      obtain ⟨_, hokr, hnm⟩ := okCh_inK HV.out
      have hm := numB_ne hnm
      have hmem8 : ∀ z ∈ dat lL, z.1.length ≤ 1000 := fun z hz => by rw [HDL.out] at hz; have := okR_len ((okBag_asc HK.out.sl.bag).1.ok z hz); omega
      have hnum8 : ∀ z ∈ dat lL, -4000000000000000000 ≤ z.2 ∧ z.2 ≤ 4000000000000000000 := fun z hz => by rw [HDL.out] at hz; have := numB_ne ((okBag_asc HK.out.sl.bag).2.1 z hz); omega
      have hnr8 : nr ≤ 1000 := by have := okR_len hokr; rw [HNR.out] at this; omega
      have hPu := RPutL_any AL nL cL lL Ar nr cr x m W3 (HBL.out W3 hB3) (by have := HLL.out; omega) (HRW.out W3 hB3) hnr8 hmem8 hnum8 (by omega)
      rw [HDL.out] at hPu
      have HPu := hide hPu
      have g1 : W3.cell? ⟨bc, 1, none⟩ = some (.slice Ar nr cr) := by simpa using kb3.cell 1
      have g2 : W3.cell? ⟨bc, 2, none⟩ = some (.int .i64 m) := by simpa using kb3.cell 2
      clear hPu hmem8 hnum8 hnr8
      go_wp2_with fail
      refine HPu.out.mono ?_
      rintro e W4 ⟨Ap, np, cp, lp, rfl, hdp, hbp, hcp, hb⟩
      have hB4 := bstep hB3 hb
      have kb4 := kb3.below hb kb3.lt
      have hbw4 := (hbw.below hb).mono hb.size
      clear hb hB3 kb3 hbw g1 g2 HPu
      have HDP := hide hdp
      clear hdp
      obtain ⟨lk, hlk⟩ : ∃ lk, look l x = lk := ⟨_, rfl⟩
      have HLK := hide hlk
      clear hlk
      have hpa : Asc (putB l x m) ∧ look (putB l x m) x = lk + m := by
        have d1 := okBag_asc HK.out.sl.bag
        obtain ⟨i1, i2, i3⟩ := ins_ok hokr m d1.1 (fun y hy => (numB_ne (d1.2.1 y hy)).1)
        rw [putB_ins d1.1.up]
        exact ⟨i1, by rw [i3, if_pos rfl, HLK.out]⟩
      have hNp := fun (X : World) => RNk_any Ap np cp X.heap.size lp Ar nr cr x X
      have hoth : 0 ≤ look r x := look_pos2 HK.out.sr.pos x
      obtain ⟨ro, hro⟩ : ∃ ro, look r x = ro := ⟨_, rfl⟩
      rw [hro] at hoth
      have HRO := hide hro
      clear hro
      have HN1 := hide (show Calls Tryz.prog 100 #[.slice Ap np cp, .slice Ar nr cr] W4 (RetV W4 (.int .i64 (lk + m))) from by
        have := hNp W4 hbp (HRW.out W4 hB4) (by rw [HDP.out]; exact hpa.1) hokr
        rwa [HDP.out, hpa.2] at this)
      have g1 : W4.cell? ⟨bc, 1, none⟩ = some (.slice Ar nr cr) := by simpa using kb4.cell 1
      by_cases hneg : lk + m < 0
      case pos =>
        have z : decide (lk + m < 0) = true := by simpa using hneg
        have HX := hide (show kpE k true l r t x m = 10 from HEE.out.trans (by rw [HV.out, HNR.out, if_pos rfl, if_pos HWD.out, HLK.out, if_pos hneg]))
        clear hneg hNp hoth
        go_wp2_with fail
        refine HN1.out.mono ?_
        rintro e W5 ⟨rfl, hb⟩
        have hB5 := bstep hB4 hb
        clear hb hB4
        go_wp2
        refine bodyPost_ret (results_tmp2 rfl _ _ _) rfl ?_
        exact HBAD.out _ hB5 10 HX.out (by decide)
      case neg =>
        have z : decide (lk + m < 0) = false := by simpa using hneg
        have HPS := hide (show 0 ≤ look l x + m from by rw [HLK.out]; omega)
        have HY := hide (show kpE k true l r t x m = R1 from HEE.out.trans (by rw [HV.out, HNR.out, if_pos rfl, if_pos HWD.out, HLK.out, if_neg hneg]))
        clear hneg
        go_wp2_with fail
        refine HN1.out.mono ?_
        rintro e W5 ⟨rfl, hb⟩
        have hB5 := bstep hB4 hb
        have kb5 := kb4.below hb kb4.lt
        have hbp := (hbp.below hb).mono hb.size
        have hbw4 := (hbw4.below hb).mono hb.size
        have g1 : W5.cell? ⟨bc, 1, none⟩ = some (.slice Ar nr cr) := by simpa using kb5.cell 1
        have HN2 := hide (show Calls Tryz.prog 100 #[.slice AR nR cR, .slice Ar nr cr] W5 (RetV W5 (.int .i64 ro)) from by
          have := RNk_any AR nR cR _ lR Ar nr cr x W5 (HBR.out W5 hB5) (HRW.out W5 hB5) (by rw [HDR.out]; exact (okBag_asc HK.out.sr.bag).1) hokr
          rwa [HDR.out, HRO.out] at this)
        have z2 : decide (ro < 0) = false := by simp; omega
        clear hb hB4 kb4 HN1 hNp
        go_wp2_with fail
        refine HN2.out.mono ?_
        rintro e W6 ⟨rfl, hb⟩
        have hB6 := bstep hB5 hb
        have kb6 := kb5.below hb kb5.lt
        have hbp := (hbp.below hb).mono hb.size
        have hbw4 := (hbw4.below hb).mono hb.size
        clear hb hB5 kb5 HN2 g1
        go_wp2_with fail
        clear z z2 hoth
        have HSO := hide (sd_more HK.out.sl hokr hnm (HNR.out.trans HWD.out) HPS.out HK.out.ok.ion (by omega))
        have HSP := hide (sd_put HK.out.sl hokr hnm (HNR.out.trans HWD.out) HPS.out)
        clear hpa
        refine Held.begin (fun y => y.cell? ⟨b, 0, none⟩ = some (.int .i64 k.kind) ∧ y.cell? ⟨b, 1, none⟩ = some (.int .i64 (k.a : Int)) ∧ y.cell? ⟨b, 2, none⟩ = some (.int .i64 (k.b : Int)) ∧ y.cell? ⟨b, 3, none⟩ = some (.slice s.A s.n s.c) ∧ y.cell? ⟨b, 4, none⟩ = some (.slice s.A' s.n' s.c')) 100 (by kernel_rfl) ?_
        have hdr : Below W6.heap.size W6 W6.drew := (Below.refl _ _).drew
        obtain ⟨Xj, hXe⟩ : ∃ Xj, W6.drew = Xj := ⟨_, rfl⟩
        rw [hXe] at hdr ⊢
        have hBd := bstep hB6 hdr
        have hu := HU.out Xj hBd
        have hS : Xj.cell? ⟨b, 0, none⟩ = some (.int .i64 k.kind) ∧ Xj.cell? ⟨b, 1, none⟩ = some (.int .i64 (k.a : Int)) ∧ Xj.cell? ⟨b, 2, none⟩ = some (.int .i64 (k.b : Int)) ∧ Xj.cell? ⟨b, 3, none⟩ = some (.slice s.A s.n s.c) ∧ Xj.cell? ⟨b, 4, none⟩ = some (.slice s.A' s.n' s.c') := ⟨hu.blk.cell 0, hu.blk.cell 1, hu.blk.cell 2, hu.blk.cell 3, hu.blk.cell 4⟩
        clear hXe
        refine Held.take (i := 0) (.pointer (some ⟨b, 0, none⟩)) rfl hS (by kernel_rfl) (by kernel_rfl) (by kernel_rfl) (by kernel_rfl) (fun _ _ _ h => h) rfl (fun y hy => by obtain ⟨x1, x2, x3, x4, x5⟩ := hy; go_simp) ?_
        try simp only [Act.put]
        refine Held.take (i := 1) (.pointer (some ⟨b, 0, none⟩)) rfl hS (by kernel_rfl) (by kernel_rfl) (by kernel_rfl) (by kernel_rfl) (fun _ _ _ h => h) rfl (fun y hy => by obtain ⟨x1, x2, x3, x4, x5⟩ := hy; go_simp) ?_
        try simp only [Act.put]
        refine Held.take (i := 2) (.pointer (some ⟨b, 0, none⟩)) rfl hS (by kernel_rfl) (by kernel_rfl) (by kernel_rfl) (by kernel_rfl) (fun _ _ _ h => h) rfl (fun y hy => by obtain ⟨x1, x2, x3, x4, x5⟩ := hy; go_simp) ?_
        try simp only [Act.put]
        refine Held.take (i := 3) (.int .i64 k.kind) rfl hS (by kernel_rfl) (by kernel_rfl) (by kernel_rfl) (by kernel_rfl) (fun _ _ _ h => h) rfl (fun y hy => by obtain ⟨x1, x2, x3, x4, x5⟩ := hy; go_simp) ?_
        try simp only [Act.put]
        refine Held.take (i := 4) (.pointer (some ⟨b, 0, none⟩)) rfl hS (by kernel_rfl) (by kernel_rfl) (by kernel_rfl) (by kernel_rfl) (fun _ _ _ h => h) rfl (fun y hy => by obtain ⟨x1, x2, x3, x4, x5⟩ := hy; go_simp) ?_
        try simp only [Act.put]
        refine Held.take (i := 5) (.pointer (some ⟨b, 0, none⟩)) rfl hS (by kernel_rfl) (by kernel_rfl) (by kernel_rfl) (by kernel_rfl) (fun _ _ _ h => h) rfl (fun y hy => by obtain ⟨x1, x2, x3, x4, x5⟩ := hy; go_simp) ?_
        try simp only [Act.put]
        refine Held.take (i := 6) (.pointer (some ⟨b, 3, none⟩)) rfl hS (by kernel_rfl) (by kernel_rfl) (by kernel_rfl) (by kernel_rfl) (fun _ _ _ h => h) rfl (fun y hy => by obtain ⟨x1, x2, x3, x4, x5⟩ := hy; go_simp) ?_
        try simp only [Act.put]
        refine Held.take (i := 7) (.slice s.A s.n s.c) rfl hS (by kernel_rfl) (by kernel_rfl) (by kernel_rfl) (by kernel_rfl) (fun _ _ _ h => h) rfl (fun y hy => by obtain ⟨x1, x2, x3, x4, x5⟩ := hy; go_simp) ?_
        try simp only [Act.put]
        refine Held.take (i := 8) (.pointer (some ⟨b, 0, none⟩)) rfl hS (by kernel_rfl) (by kernel_rfl) (by kernel_rfl) (by kernel_rfl) (fun _ _ _ h => h) rfl (fun y hy => by obtain ⟨x1, x2, x3, x4, x5⟩ := hy; go_simp) ?_
        try simp only [Act.put]
        refine Held.take (i := 9) (.pointer (some ⟨b, 0, none⟩)) rfl hS (by kernel_rfl) (by kernel_rfl) (by kernel_rfl) (by kernel_rfl) (fun _ _ _ h => h) rfl (fun y hy => by obtain ⟨x1, x2, x3, x4, x5⟩ := hy; go_simp) ?_
        try simp only [Act.put]
        refine Held.take (i := 10) (.pointer (some ⟨b, 4, none⟩)) rfl hS (by kernel_rfl) (by kernel_rfl) (by kernel_rfl) (by kernel_rfl) (fun _ _ _ h => h) rfl (fun y hy => by obtain ⟨x1, x2, x3, x4, x5⟩ := hy; go_simp) ?_
        try simp only [Act.put]
        refine Held.take (i := 11) (.slice s.A' s.n' s.c') rfl hS (by kernel_rfl) (by kernel_rfl) (by kernel_rfl) (by kernel_rfl) (fun _ _ _ h => h) rfl (fun y hy => by obtain ⟨x1, x2, x3, x4, x5⟩ := hy; go_simp) ?_
        try simp only [Act.put]
        refine Held.take (i := 12) (.pointer (some ⟨b, 0, none⟩)) rfl hS (by kernel_rfl) (by kernel_rfl) (by kernel_rfl) (by kernel_rfl) (fun _ _ _ h => h) rfl (fun y hy => by obtain ⟨x1, x2, x3, x4, x5⟩ := hy; go_simp) ?_
        try simp only [Act.put]
        refine Held.take (i := 13) (.pointer (some ⟨b, 0, none⟩)) rfl hS (by kernel_rfl) (by kernel_rfl) (by kernel_rfl) (by kernel_rfl) (fun _ _ _ h => h) rfl (fun y hy => by obtain ⟨x1, x2, x3, x4, x5⟩ := hy; go_simp) ?_
        try simp only [Act.put]
        refine Held.take (i := 14) (.pointer (some ⟨b, 1, none⟩)) rfl hS (by kernel_rfl) (by kernel_rfl) (by kernel_rfl) (by kernel_rfl) (fun _ _ _ h => h) rfl (fun y hy => by obtain ⟨x1, x2, x3, x4, x5⟩ := hy; go_simp) ?_
        try simp only [Act.put]
        refine Held.take (i := 15) (.int .i64 (k.a : Int)) rfl hS (by kernel_rfl) (by kernel_rfl) (by kernel_rfl) (by kernel_rfl) (fun _ _ _ h => h) rfl (fun y hy => by obtain ⟨x1, x2, x3, x4, x5⟩ := hy; go_simp) ?_
        try simp only [Act.put]
        refine Held.take (i := 16) (.pointer (some ⟨b, 0, none⟩)) rfl hS (by kernel_rfl) (by kernel_rfl) (by kernel_rfl) (by kernel_rfl) (fun _ _ _ h => h) rfl (fun y hy => by obtain ⟨x1, x2, x3, x4, x5⟩ := hy; go_simp) ?_
        try simp only [Act.put]
        refine Held.take (i := 17) (.pointer (some ⟨b, 0, none⟩)) rfl hS (by kernel_rfl) (by kernel_rfl) (by kernel_rfl) (by kernel_rfl) (fun _ _ _ h => h) rfl (fun y hy => by obtain ⟨x1, x2, x3, x4, x5⟩ := hy; go_simp) ?_
        try simp only [Act.put]
        refine Held.take (i := 18) (.pointer (some ⟨b, 2, none⟩)) rfl hS (by kernel_rfl) (by kernel_rfl) (by kernel_rfl) (by kernel_rfl) (fun _ _ _ h => h) rfl (fun y hy => by obtain ⟨x1, x2, x3, x4, x5⟩ := hy; go_simp) ?_
        try simp only [Act.put]
        refine Held.take (i := 19) (.int .i64 (k.b : Int)) rfl hS (by kernel_rfl) (by kernel_rfl) (by kernel_rfl) (by kernel_rfl) (fun _ _ _ h => h) rfl (fun y hy => by obtain ⟨x1, x2, x3, x4, x5⟩ := hy; go_simp) ?_
        try simp only [Act.put]
        refine Held.take (i := 20) (.slice Ap np cp) rfl hS (by kernel_rfl) (by kernel_rfl) (by kernel_rfl) (by kernel_rfl) (fun _ _ _ h => h) rfl (fun y hy => by obtain ⟨x1, x2, x3, x4, x5⟩ := hy; go_simp) ?_
        try simp only [Act.put]
        refine Held.take (i := 21) (.slice AR nR cR) rfl hS (by kernel_rfl) (by kernel_rfl) (by kernel_rfl) (by kernel_rfl) (fun _ _ _ h => h) rfl (fun y hy => by obtain ⟨x1, x2, x3, x4, x5⟩ := hy; go_simp) ?_
        try simp only [Act.put]
        refine Held.one (i := 22) rfl (by kernel_rfl) rfl (fun K hK => ?_)
        unfold Oper.wp
        go_simp
        have hJ := joined_any k.kind s.A s.n s.c k.on s.A' s.n' s.c' k.others k.a k.b Ap np cp lp AR nR cR lR Xj _ _ hu.st.on hu.st.ot (hu.st.same HK.out.ok) hu.st.n1 ((hbp.below hdr).mono hdr.size) (HBR.out Xj hBd) (by rw [HDP.out]; exact HSO.out) (by rw [HDR.out]; exact HK.out.sr.side HK.out.ok.iot) HK.out.ok.wide HK.out.ok.kind rfl rfl
        rw [HDP.out, HDR.out] at hJ
        refine hJ.mono ?_
        rintro e W7 ⟨Aj, nj, cj, rfl, hOj, hb⟩
        have hS2 : W7.cell? ⟨b, 0, none⟩ = some (.int .i64 k.kind) ∧ W7.cell? ⟨b, 1, none⟩ = some (.int .i64 (k.a : Int)) ∧ W7.cell? ⟨b, 2, none⟩ = some (.int .i64 (k.b : Int)) ∧ W7.cell? ⟨b, 3, none⟩ = some (.slice s.A s.n s.c) ∧ W7.cell? ⟨b, 4, none⟩ = some (.slice s.A' s.n' s.c') := ⟨(hb.cell hu.lt).trans hS.1, (hb.cell hu.lt).trans hS.2.1, (hb.cell hu.lt).trans hS.2.2.1, (hb.cell hu.lt).trans hS.2.2.2.1, (hb.cell hu.lt).trans hS.2.2.2.2⟩
        have hB7 := bstep hBd hb
        have kb7 := (kb6.below hdr kb6.lt).below hb (kb6.below hdr kb6.lt).lt
        have hbp := (((hbp.below hdr).mono hdr.size).below hb).mono hb.size
        have hbw4 := (((hbw4.below hdr).mono hdr.size).below hb).mono hb.size
        refine hK _ _ (fun _ => hS2) ?_
        try simp only [Act.put]
        clear hK K hS hb hdr hBd hu hJ hB6 kb6
        have hS := hS2
        clear hS2
        refine Held.take (i := 23) (.slice Aj nj cj) rfl hS (by kernel_rfl) (by kernel_rfl) (by kernel_rfl) (by kernel_rfl) (fun _ _ _ h => h) rfl (fun y hy => by obtain ⟨x1, x2, x3, x4, x5⟩ := hy; go_simp) ?_
        try simp only [Act.put]
        refine Held.done (by kernel_rfl) ?_
        clear hS
        obtain ⟨_, _, _, lj, hve, hdj, hbj, hcj⟩ := hOj
        injection hve with e1 e2 e3
        subst e1 e2 e3
        change dat lj = kpJ k _ _ at hdj
        have HBJ := hide (show BigL (kpJ k (putB l x m) r) from bigJ HSO.out (HK.out.sr.side HK.out.ok.iot) HK.out.ok.wide HSP.out.2.2.1 (by have := HK.out.sr.cnt; omega) hq)
        have HBW := hide (show BigL (kpJ k l r) from bigL_of HK.out.j)
        have HDJ := hide hdj
        have HDW := hide hdw
        have hPl := RPlusL_any Aj nj cj lj Aw nw cw lw (-1) W7 hbj hbw4 (by rw [hdj]; exact HBJ.out) (by rw [hdw]; exact HBW.out) (by omega)
        rw [hdj, hdw] at hPl
        have HPl := hide hPl
        clear hPl hdj hdw
        go_wp2_with fail
        refine HPl.out.mono ?_
        rintro e W8 ⟨Ad, nd, cd, ld, rfl, hdd, hbd, hcd, hb⟩
        have hB8 := bstep hB7 hb
        have kb8 := kb7.below hb kb7.lt
        have hbp := (hbp.below hb).mono hb.size
        have hbj := (hbj.below hb).mono hb.size
        have HDD := hide hdd
        clear hb hB7 kb7 HPl hbw4 hdd
        have HVp := hide (fun (X : World) (hX : Below W8.heap.size W8 X) => show Calls Tryz.prog 95 #[.slice Ap np cp] X (RetV X (.bool (okBag (putB l x m)))) from by have := R3Valid_any Ap np cp _ lp X ((hbp.below hX).mono hX.size); rwa [HDP.out] at this)
        have HVo := hide (fun (X : World) (hX : Below W8.heap.size W8 X) => show Calls Tryz.prog 95 #[.slice AR nR cR] X (RetV X (.bool true)) from by have := R3Valid_any AR nR cR _ lR X (HBR.out X (bstep hB8 hX)); rwa [HDR.out, HK.out.sr.bag] at this)
        have HVj := hide (fun (X : World) (hX : Below W8.heap.size W8 X) => show Calls Tryz.prog 95 #[.slice Aj nj cj] X (RetV X (.bool (okBag (kpJ k (putB l x m) r)))) from by have := R3Valid_any Aj nj cj _ lj X ((hbj.below hX).mono hX.size); rwa [HDJ.out] at this)
        have HVd := hide (fun (X : World) (hX : Below W8.heap.size W8 X) => show Calls Tryz.prog 95 #[.slice Ad nd cd] X (RetV X (.bool (okBag (plusB (kpJ k (putB l x m) r) (kpJ k l r) (-1))))) from by have := R3Valid_any Ad nd cd _ ld X ((hbd.below hX).mono hX.size); rwa [HDD.out] at this)
        obtain ⟨vp, hvp⟩ : ∃ v, okBag (putB l x m) = v := ⟨_, rfl⟩
        obtain ⟨vj, hvj⟩ : ∃ v, okBag (kpJ k (putB l x m) r) = v := ⟨_, rfl⟩
        obtain ⟨vd, hvd⟩ : ∃ v, okBag (plusB (kpJ k (putB l x m) r) (kpJ k l r) (-1)) = v := ⟨_, rfl⟩
        simp only [hvp, hvj, hvd] at HVp HVj HVd
        have HZ1 := hide (show R1 = if vp then R2 else 4 from by rw [HR1.out, hvp])
        have HZ2 := hide (show R2 = if vj then R3 else 4 from by rw [HR2.out]; show (if okBag (kpJ k (putB l x m) r) = true then R3 else 4) = _; rw [hvj])
        have HZ3 := hide (show R3 = if vd then 0 else 4 from by rw [HR3.out]; show (if okBag (plusB (kpJ k (putB l x m) r) (kpJ k l r) (-1)) = true then (0 : Int) else 4) = _; rw [hvd])
        have HOD := hide hvd
        have HOJ := hide hvj
        clear hvp hvj hvd
        have hC8 : Below W8.heap.size W8 W8 := Below.refl _ _
        go_wp2_with fail
        refine (HVp.out W8 hC8).mono ?_
        rintro e W9 ⟨rfl, hb⟩
        have hC9 := bstep hC8 hb
        clear hb hC8
        cases vp
        case false =>
          have HX := hide (show kpE k true l r t x m = 4 from HY.out.trans (by rw [HZ1.out]; simp [HZ2.out, HZ3.out]))
          have hBz := bstep hB8 hC9
          go_wp2
          refine bodyPost_ret (results_tmp2 rfl _ _ _) rfl ?_
          exact HBAD.out _ hBz 4 HX.out (by decide)
        case true =>
          go_wp2_with fail
          refine (HVo.out W9 hC9).mono ?_
          rintro e W10 ⟨rfl, hb⟩
          have hC10 := bstep hC9 hb
          clear hb hC9
          go_wp2_with fail
          refine (HVj.out W10 hC10).mono ?_
          rintro e W11 ⟨rfl, hb⟩
          have hC11 := bstep hC10 hb
          clear hb hC10
          cases vj
          case false =>
            have HX := hide (show kpE k true l r t x m = 4 from HY.out.trans (by rw [HZ1.out]; simp [HZ2.out, HZ3.out]))
            have hBz := bstep hB8 hC11
            go_wp2
            refine bodyPost_ret (results_tmp2 rfl _ _ _) rfl ?_
            exact HBAD.out _ hBz 4 HX.out (by decide)
          case true =>
            go_wp2_with fail
            refine (HVd.out W11 hC11).mono ?_
            rintro e W12 ⟨rfl, hb⟩
            have hC12 := bstep hC11 hb
            clear hb hC11
            cases vd
            case false =>
              have HX := hide (show kpE k true l r t x m = 4 from HY.out.trans (by rw [HZ1.out]; simp [HZ2.out, HZ3.out]))
              have hBz := bstep hB8 hC12
              go_wp2
              refine bodyPost_ret (results_tmp2 rfl _ _ _) rfl ?_
              exact HBAD.out _ hBz 4 HX.out (by decide)
            case true =>
              have HX := hide (show kpE k true l r t x m = 0 from HY.out.trans (by rw [HZ1.out]; simp [HZ2.out, HZ3.out]))
              have hBz := bstep hB8 hC12
              have kbz := kb8.below hC12 kb8.lt
              have huz := HU.out _ hBz
              obtain ⟨tz, kz⟩ := huz.set (v := .slice Ap np cp) (u := .slice AR nR cR) (d := (putB l x m)) (e := r) ⟨Ap, np, cp, lp, rfl, HDP.out, (hbp.below hC12).mono hC12.size, hcp⟩ ⟨AR, nR, cR, lR, rfl, HDR.out, HBR.out _ hBz, hcR⟩
              have c5 : W12.cell? ⟨b, 5, none⟩ = some (.slice AL nL cL) := huz.blk.cell 5
              have f5 : W12.frozen? ⟨b, 5, none⟩ = false := huz.blk.frozen 5
              have c6 : (W12.setCell ⟨b, 5, none⟩ (.slice Ap np cp)).cell? ⟨b, 6, none⟩ = some (.slice AR nR cR) := (huz.blk.set_ 5 (.slice Ap np cp)).cell 6
              have f6 : (W12.setCell ⟨b, 5, none⟩ (.slice Ap np cp)).frozen? ⟨b, 6, none⟩ = false := (huz.blk.set_ 5 (.slice Ap np cp)).frozen 6
              have gt : ((W12.setCell ⟨b, 5, none⟩ (.slice Ap np cp)).setCell ⟨b, 6, none⟩ (.slice AR nR cR)).cell? ⟨bc, 0, none⟩ = some (.int .i64 t) := tz.keep _ _ (by simpa using kbz.cell 0) nofun
              have hMd := RMade_any Ad nd cd ld t _ (((hbd.below hC12).mono hC12.size).turn tz) (by rw [HDD.out]; exact HOD.out)
              rw [HDD.out] at hMd
              have HMd := hide hMd
              have KZ := hide kz
              have TZ := hide ((Turn.of_below (X := [b]) hBz).trans tz)
              clear hMd kz tz huz hBz kbz hbd hbj hbp hC12 hB8 kb8 HVp HVo HVj HVd
              go_wp2_with fail
              refine HMd.out.mono ?_
              rintro e WF ⟨A5, n5, c5', lc, rfl, ⟨hlc, hlt⟩, hchg, hb⟩
              have HLC := hide (show lc.map (fun (i : Ch) => (i.r, i.m)) = plusB (kpJ k (putB l x m) r) (kpJ k l r) (-1) from hlc)
              have HLT := hide hlt
              have HCH := hide hchg
              have HTF := hide (TZ.out.below hb)
              have HKF := hide (KZ.out.below hb)
              clear hb hlc hlt hchg c5 f5 c6 f6 gt HMd
              go_wp2
              refine bodyPost_ret (results_tmp2 rfl _ _ _) rfl ?_
              refine ⟨A5, n5, c5', lc, by rw [HX.out]; rfl, ⟨?_, HLT.out⟩, HCH.out, HTF.out, ?_⟩
              · unfold kpC
                rw [if_pos HX.out]
                exact HLC.out
              · unfold kpL kpR
                rw [if_pos HX.out, if_pos HX.out]
                exact ⟨_, _, HKF.out⟩
set_option maxRecDepth 100000 in
theorem rside_nil (t : Int) (Ar : Option Addr) (nr cr : Nat) (m : Int) (left : Bool) (w : World) :
    Calls Tryz.prog 115 #[.pointer none, .agg #[.int .i64 t, .slice Ar nr cr, .int .i64 m], .bool left] w (RetV w (.tuple #[.slice none 0 0, .int .i64 1])) := by
  have hB0 := below_val (w := w) #[.int .i64 t, .slice Ar nr cr, .int .i64 m] 57
  go_enter Tryz.func115, Tryz.ntmps115
  go_wp2
  refine bodyPost_ret (results_tmp2 rfl _ _ _) rfl ?_
  exact ⟨rfl, hB0⟩
theorem RKLeft_any {b : Nat} {k : Kst} {s : KS} {vL vR : Value} {l r : Bg} {q : Nat} (t : Int) (Ar : Option Addr) (nr cr : Nat) (x : Rw) (m : Int) (w : World)
    (h : KrO w b s k vL vR l r) (hk : Kp2 k l r q) (hq : q + 1 ≤ 40) (hr : RowK w w.heap.size Ar nr x) :
    Calls Tryz.prog 53 #[.pointer (some ⟨b, 0, none⟩), .agg #[.int .i64 t, .slice Ar nr cr, .int .i64 m]] w (RetKr k s b true l r t x m w) := by
  have hB0 := below_val (w := w) #[.int .i64 t, .slice Ar nr cr, .int .i64 m] 57
  have kb0 := Blk.new w 57 #[.int .i64 t, .slice Ar nr cr, .int .i64 m]
  have HT := hide (RLeftside_any t Ar nr cr x m _ (h.below hB0) hk hq ((hr.below hB0).mono hB0.size))
  have HB := hide hB0
  clear h hk hr hB0
  go_enter Tryz.func53, Tryz.ntmps53
  go_upto_region 1 with fail
  have g0 : (w.alloc (.cells #[.int .i64 t, .slice Ar nr cr, .int .i64 m] 57)).cell? ⟨w.heap.size, 0, none⟩ = some (.int .i64 t) := by simp
  have g1 : (w.alloc (.cells #[.int .i64 t, .slice Ar nr cr, .int .i64 m] 57)).cell? ⟨w.heap.size, 1, none⟩ = some (.slice Ar nr cr) := by simp
  have g2 : (w.alloc (.cells #[.int .i64 t, .slice Ar nr cr, .int .i64 m] 57)).cell? ⟨w.heap.size, 2, none⟩ = some (.int .i64 m) := by simp
  go_wp2_with fail
  refine HT.out.mono ?_
  rintro e W1 hres
  obtain ⟨E, hE⟩ : ∃ E, kpE k true l r t x m = E := ⟨_, rfl⟩
  obtain ⟨A0, n0, c0, lc, he, hlc, hch, htn, hko⟩ := hres
  rw [hE] at he
  subst he
  have HRS := hide (show RetKr k s b true l r t x m w (.returned (.tuple #[.slice A0 n0 c0, .int .i64 E])) W1 from RetKr.under HB.out ⟨A0, n0, c0, lc, by rw [hE], hlc, hch, htn, hko⟩)
  clear hlc hch htn hko hE
  go_wp2
  refine bodyPost_ret (results_tmp2 rfl _ _ _) rfl ?_
  exact HRS.out
theorem RKLeft_nil (t : Int) (Ar : Option Addr) (nr cr : Nat) (m : Int) (w : World) :
    Calls Tryz.prog 53 #[.pointer none, .agg #[.int .i64 t, .slice Ar nr cr, .int .i64 m]] w (RetV w (.tuple #[.slice none 0 0, .int .i64 1])) := by
  have HS := hide (rside_nil t Ar nr cr m true)
  have hB0 := below_val (w := w) #[.int .i64 t, .slice Ar nr cr, .int .i64 m] 57
  go_enter Tryz.func53, Tryz.ntmps53
  go_upto_region 1 with fail
  have g0 : (w.alloc (.cells #[.int .i64 t, .slice Ar nr cr, .int .i64 m] 57)).cell? ⟨w.heap.size, 0, none⟩ = some (.int .i64 t) := by simp
  have g1 : (w.alloc (.cells #[.int .i64 t, .slice Ar nr cr, .int .i64 m] 57)).cell? ⟨w.heap.size, 1, none⟩ = some (.slice Ar nr cr) := by simp
  have g2 : (w.alloc (.cells #[.int .i64 t, .slice Ar nr cr, .int .i64 m] 57)).cell? ⟨w.heap.size, 2, none⟩ = some (.int .i64 m) := by simp
  go_wp2_with fail
  refine (HS.out _).mono ?_
  rintro e W1 ⟨rfl, hb⟩
  have HB := hide (bstep hB0 hb)
  clear hb hB0
  go_wp2
  refine bodyPost_ret (results_tmp2 rfl _ _ _) rfl ?_
  exact ⟨rfl, HB.out⟩
set_option maxRecDepth 100000 in
set_option maxHeartbeats 16000000 in
theorem RRightside_any {b : Nat} {k : Kst} {s : KS} {vL vR : Value} {l r : Bg} {q : Nat} (t : Int) (Ar : Option Addr) (nr cr : Nat) (x : Rw) (m : Int) (w : World)
    (h : KrO w b s k vL vR l r) (hk : Kp2 k l r q) (hq : q + 1 ≤ 40) (hr : RowK w w.heap.size Ar nr x) :
    Calls Tryz.prog 115 #[.pointer (some ⟨b, 0, none⟩), .agg #[.int .i64 t, .slice Ar nr cr, .int .i64 m], .bool false] w (RetKr k s b false l r t x m w) := by
  obtain ⟨AL, nL, cL, lL, rfl, hdL, hbL, hcL⟩ := h.l
  obtain ⟨AR, nR, cR, lR, rfl, hdR, hbR, hcR⟩ := h.r
  have HU := hide (fun (X : World) (hX : Below w.heap.size w X) => h.below hX)
  have HBAD := hide (fun (w1 : World) (hB : Below w.heap.size w w1) (err : Int) (he : kpE k false l r t x m = err) (h0 : err ≠ 0) => kr_bad (left := false) (h.below hB) (Turn.of_below (X := [b]) hB) he h0)
  have HRW := hide (fun (X : World) (hX : Below w.heap.size w X) => (hr.below hX).mono hX.size)
  have HBL := hide (fun (X : World) (hX : Below w.heap.size w X) => (hbL.below hX).mono hX.size)
  have HBR := hide (fun (X : World) (hX : Below w.heap.size w X) => (hbR.below hX).mono hX.size)
  have HDL := hide hdL
  have HDR := hide hdR
  have HK := hide hk
  have HNR := hide hr.len
  have HLL := hide (show nL ≤ 40 from by have h1 := hk.sl.cnt; rw [← hdL, dat_len, hbL.len] at h1; omega)
  have HLR := hide (show nR ≤ 40 from by have h1 := hk.sr.cnt; rw [← hdR, dat_len, hbR.len] at h1; omega)
  have hnr := hr.le
  have hbw := h.lt
  obtain ⟨R3, hR3⟩ : ∃ R3 : Int, R3 = (if okBag (plusB (kpJ k (lft2 false l (putB r x m)) (rgt2 false r (putB r x m))) (kpJ k l r) (-1)) then 0 else 4) := ⟨_, rfl⟩
  obtain ⟨R2, hR2⟩ : ∃ R2 : Int, R2 = (if okBag (kpJ k (lft2 false l (putB r x m)) (rgt2 false r (putB r x m))) then R3 else 4) := ⟨_, rfl⟩
  obtain ⟨R1, hR1⟩ : ∃ R1 : Int, R1 = (if okBag (putB r x m) then R2 else 4) := ⟨_, rfl⟩
  have hEE : kpE k false l r t x m = (if okCh t x m then (if x.length = k.b then (if look r x + m < 0 then 10 else R1) else 9) else 1) := by
    rw [hR1, hR2, hR3]
    rfl
  have HR1 := hide hR1
  have HR2 := hide hR2
  have HR3 := hide hR3
  have HEE := hide hEE
  have hB0 := below_val (w := w) #[.int .i64 t, .slice Ar nr cr, .int .i64 m] 57
  have kb0 := Blk.new w 57 #[.int .i64 t, .slice Ar nr cr, .int .i64 m]
  clear h hk hr hdL hdR hbL hbR hEE hR1 hR2 hR3
  go_enter Tryz.func115, Tryz.ntmps115
  go_upto_region 1 with fail
  obtain ⟨W0, hW0⟩ : ∃ W0, w.alloc (.cells #[.int .i64 t, .slice Ar nr cr, .int .i64 m] 57) = W0 := ⟨_, rfl⟩
  obtain ⟨bc, hbc⟩ : ∃ bc, w.heap.size = bc := ⟨_, rfl⟩
  rw [hW0] at hB0 kb0 ⊢
  rw [hbc] at kb0 hbw ⊢
  clear hW0
  have g0 : W0.cell? ⟨bc, 0, none⟩ = some (.int .i64 t) := by simpa using kb0.cell 0
  have g1 : W0.cell? ⟨bc, 1, none⟩ = some (.slice Ar nr cr) := by simpa using kb0.cell 1
  have g2 : W0.cell? ⟨bc, 2, none⟩ = some (.int .i64 m) := by simpa using kb0.cell 2
  have HC1 := hide (RValidChange_any t Ar nr cr x m W0 (HRW.out W0 hB0))
  obtain ⟨v, hv⟩ : ∃ v, okCh t x m = v := ⟨_, rfl⟩
  rw [hv] at HC1
  have HV := hide hv
  clear hv
  go_wp2_with fail
  refine HC1.out.mono ?_
  rintro e W1 ⟨rfl, hb⟩
  have hB1 := bstep hB0 hb
  have kb1 := kb0.below hb kb0.lt
  clear hB0 hb kb0 g0 g1 g2 HC1
  cases v
  case false =>
    have HX := hide (show kpE k false l r t x m = 1 from HEE.out.trans (by rw [HV.out]; rfl))
    go_wp2
    refine bodyPost_ret (results_tmp2 rfl _ _ _) rfl ?_
    exact HBAD.out _ hB1 1 HX.out (by decide)
  case true =>
    have g5 := fun (p : BW W1) => show p.x.cell? ⟨b, 5, none⟩ = some (.slice AL nL cL) from (HU.out p.x (bstep hB1 p.h)).blk.cell 5
    have g6 := fun (p : BW W1) => show p.x.cell? ⟨b, 6, none⟩ = some (.slice AR nR cR) from (HU.out p.x (bstep hB1 p.h)).blk.cell 6
    have g1 := fun (p : BW W1) => show p.x.cell? ⟨b, 1, none⟩ = some (.int .i64 (k.a : Int)) from (HU.out p.x (bstep hB1 p.h)).blk.cell 1
    go_wp2_with fail
    (refine wp_region_quiet_bw (by kernel_rfl) (by kernel_rfl) ?_
     repeat (first | go_big_quiet_step ((fail)) | quiet_step ((fail)))
     refine wpQuiet_nil ?_
     intro wq hw'
     obtain ⟨⟨_, hbq⟩, hw''⟩ := hw'
     subst hw'')
    obtain ⟨W2, hW2⟩ : ∃ W2, W2 = wq := ⟨_, rfl⟩
    rw [← hW2] at hbq ⊢
    have hB2 := bstep hB1 hbq
    have kb2 := kb1.below hbq kb1.lt
    clear hW2 g1 g5 g6 hbq kb1 hB1
    have g1 : W2.cell? ⟨bc, 1, none⟩ = some (.slice Ar nr cr) := by simpa using kb2.cell 1
    have g3 : W2.cell? ⟨b, 2, none⟩ = some (.int .i64 (k.b : Int)) := (HU.out W2 hB2).blk.cell 2
    by_cases hw : nr = k.b
    case neg =>
      have z : ((nr : Int) != (k.b : Int)) = true := by simp; omega
      have zn : (nr != k.b) = true := by simpa using hw
      have HX := hide (show kpE k false l r t x m = 9 from HEE.out.trans (by rw [HV.out, HNR.out, if_neg hw]; rfl))
      clear hw
      go_wp2
      refine bodyPost_ret (results_tmp2 rfl _ _ _) rfl ?_
      exact HBAD.out _ hB2 9 HX.out (by decide)
    case pos =>
      have z : ((nr : Int) != (k.b : Int)) = false := by simp; omega
      have zn : (nr != k.b) = false := by simpa using hw
      have HWD := hide hw
      clear hw
      go_wp2_with fail
      clear g1 g3 z zn
      refine Held.begin (fun y => y.cell? ⟨b, 0, none⟩ = some (.int .i64 k.kind) ∧ y.cell? ⟨b, 1, none⟩ = some (.int .i64 (k.a : Int)) ∧ y.cell? ⟨b, 2, none⟩ = some (.int .i64 (k.b : Int)) ∧ y.cell? ⟨b, 3, none⟩ = some (.slice s.A s.n s.c) ∧ y.cell? ⟨b, 4, none⟩ = some (.slice s.A' s.n' s.c')) 100 (by kernel_rfl) ?_
      have hdr : Below W2.heap.size W2 W2.drew := (Below.refl _ _).drew
      obtain ⟨Xw, hXe⟩ : ∃ Xw, W2.drew = Xw := ⟨_, rfl⟩
      rw [hXe] at hdr ⊢
      have hBd := bstep hB2 hdr
      have hu := HU.out Xw hBd
      have hS : Xw.cell? ⟨b, 0, none⟩ = some (.int .i64 k.kind) ∧ Xw.cell? ⟨b, 1, none⟩ = some (.int .i64 (k.a : Int)) ∧ Xw.cell? ⟨b, 2, none⟩ = some (.int .i64 (k.b : Int)) ∧ Xw.cell? ⟨b, 3, none⟩ = some (.slice s.A s.n s.c) ∧ Xw.cell? ⟨b, 4, none⟩ = some (.slice s.A' s.n' s.c') := ⟨hu.blk.cell 0, hu.blk.cell 1, hu.blk.cell 2, hu.blk.cell 3, hu.blk.cell 4⟩
      clear hXe
      refine Held.take (i := 0) (.pointer (some ⟨b, 0, none⟩)) rfl hS (by kernel_rfl) (by kernel_rfl) (by kernel_rfl) (by kernel_rfl) (fun _ _ _ h => h) rfl (fun y hy => by obtain ⟨x1, x2, x3, x4, x5⟩ := hy; go_simp) ?_
      try simp only [Act.put]
      refine Held.take (i := 1) (.pointer (some ⟨b, 0, none⟩)) rfl hS (by kernel_rfl) (by kernel_rfl) (by kernel_rfl) (by kernel_rfl) (fun _ _ _ h => h) rfl (fun y hy => by obtain ⟨x1, x2, x3, x4, x5⟩ := hy; go_simp) ?_
      try simp only [Act.put]
      refine Held.take (i := 2) (.pointer (some ⟨b, 0, none⟩)) rfl hS (by kernel_rfl) (by kernel_rfl) (by kernel_rfl) (by kernel_rfl) (fun _ _ _ h => h) rfl (fun y hy => by obtain ⟨x1, x2, x3, x4, x5⟩ := hy; go_simp) ?_
      try simp only [Act.put]
      refine Held.take (i := 3) (.int .i64 k.kind) rfl hS (by kernel_rfl) (by kernel_rfl) (by kernel_rfl) (by kernel_rfl) (fun _ _ _ h => h) rfl (fun y hy => by obtain ⟨x1, x2, x3, x4, x5⟩ := hy; go_simp) ?_
      try simp only [Act.put]
      refine Held.take (i := 4) (.pointer (some ⟨b, 0, none⟩)) rfl hS (by kernel_rfl) (by kernel_rfl) (by kernel_rfl) (by kernel_rfl) (fun _ _ _ h => h) rfl (fun y hy => by obtain ⟨x1, x2, x3, x4, x5⟩ := hy; go_simp) ?_
      try simp only [Act.put]
      refine Held.take (i := 5) (.pointer (some ⟨b, 0, none⟩)) rfl hS (by kernel_rfl) (by kernel_rfl) (by kernel_rfl) (by kernel_rfl) (fun _ _ _ h => h) rfl (fun y hy => by obtain ⟨x1, x2, x3, x4, x5⟩ := hy; go_simp) ?_
      try simp only [Act.put]
      refine Held.take (i := 6) (.pointer (some ⟨b, 3, none⟩)) rfl hS (by kernel_rfl) (by kernel_rfl) (by kernel_rfl) (by kernel_rfl) (fun _ _ _ h => h) rfl (fun y hy => by obtain ⟨x1, x2, x3, x4, x5⟩ := hy; go_simp) ?_
      try simp only [Act.put]
      refine Held.take (i := 7) (.slice s.A s.n s.c) rfl hS (by kernel_rfl) (by kernel_rfl) (by kernel_rfl) (by kernel_rfl) (fun _ _ _ h => h) rfl (fun y hy => by obtain ⟨x1, x2, x3, x4, x5⟩ := hy; go_simp) ?_
      try simp only [Act.put]
      refine Held.take (i := 8) (.pointer (some ⟨b, 0, none⟩)) rfl hS (by kernel_rfl) (by kernel_rfl) (by kernel_rfl) (by kernel_rfl) (fun _ _ _ h => h) rfl (fun y hy => by obtain ⟨x1, x2, x3, x4, x5⟩ := hy; go_simp) ?_
      try simp only [Act.put]
      refine Held.take (i := 9) (.pointer (some ⟨b, 0, none⟩)) rfl hS (by kernel_rfl) (by kernel_rfl) (by kernel_rfl) (by kernel_rfl) (fun _ _ _ h => h) rfl (fun y hy => by obtain ⟨x1, x2, x3, x4, x5⟩ := hy; go_simp) ?_
      try simp only [Act.put]
      refine Held.take (i := 10) (.pointer (some ⟨b, 4, none⟩)) rfl hS (by kernel_rfl) (by kernel_rfl) (by kernel_rfl) (by kernel_rfl) (fun _ _ _ h => h) rfl (fun y hy => by obtain ⟨x1, x2, x3, x4, x5⟩ := hy; go_simp) ?_
      try simp only [Act.put]
      refine Held.take (i := 11) (.slice s.A' s.n' s.c') rfl hS (by kernel_rfl) (by kernel_rfl) (by kernel_rfl) (by kernel_rfl) (fun _ _ _ h => h) rfl (fun y hy => by obtain ⟨x1, x2, x3, x4, x5⟩ := hy; go_simp) ?_
      try simp only [Act.put]
      refine Held.take (i := 12) (.pointer (some ⟨b, 0, none⟩)) rfl hS (by kernel_rfl) (by kernel_rfl) (by kernel_rfl) (by kernel_rfl) (fun _ _ _ h => h) rfl (fun y hy => by obtain ⟨x1, x2, x3, x4, x5⟩ := hy; go_simp) ?_
      try simp only [Act.put]
      refine Held.take (i := 13) (.pointer (some ⟨b, 0, none⟩)) rfl hS (by kernel_rfl) (by kernel_rfl) (by kernel_rfl) (by kernel_rfl) (fun _ _ _ h => h) rfl (fun y hy => by obtain ⟨x1, x2, x3, x4, x5⟩ := hy; go_simp) ?_
      try simp only [Act.put]
      refine Held.take (i := 14) (.pointer (some ⟨b, 1, none⟩)) rfl hS (by kernel_rfl) (by kernel_rfl) (by kernel_rfl) (by kernel_rfl) (fun _ _ _ h => h) rfl (fun y hy => by obtain ⟨x1, x2, x3, x4, x5⟩ := hy; go_simp) ?_
      try simp only [Act.put]
      refine Held.take (i := 15) (.int .i64 (k.a : Int)) rfl hS (by kernel_rfl) (by kernel_rfl) (by kernel_rfl) (by kernel_rfl) (fun _ _ _ h => h) rfl (fun y hy => by obtain ⟨x1, x2, x3, x4, x5⟩ := hy; go_simp) ?_
      try simp only [Act.put]
      refine Held.take (i := 16) (.pointer (some ⟨b, 0, none⟩)) rfl hS (by kernel_rfl) (by kernel_rfl) (by kernel_rfl) (by kernel_rfl) (fun _ _ _ h => h) rfl (fun y hy => by obtain ⟨x1, x2, x3, x4, x5⟩ := hy; go_simp) ?_
      try simp only [Act.put]
      refine Held.take (i := 17) (.pointer (some ⟨b, 0, none⟩)) rfl hS (by kernel_rfl) (by kernel_rfl) (by kernel_rfl) (by kernel_rfl) (fun _ _ _ h => h) rfl (fun y hy => by obtain ⟨x1, x2, x3, x4, x5⟩ := hy; go_simp) ?_
      try simp only [Act.put]
      refine Held.take (i := 18) (.pointer (some ⟨b, 2, none⟩)) rfl hS (by kernel_rfl) (by kernel_rfl) (by kernel_rfl) (by kernel_rfl) (fun _ _ _ h => h) rfl (fun y hy => by obtain ⟨x1, x2, x3, x4, x5⟩ := hy; go_simp) ?_
      try simp only [Act.put]
      refine Held.take (i := 19) (.int .i64 (k.b : Int)) rfl hS (by kernel_rfl) (by kernel_rfl) (by kernel_rfl) (by kernel_rfl) (fun _ _ _ h => h) rfl (fun y hy => by obtain ⟨x1, x2, x3, x4, x5⟩ := hy; go_simp) ?_
      try simp only [Act.put]
      refine Held.take (i := 20) (.slice AL nL cL) rfl hS (by kernel_rfl) (by kernel_rfl) (by kernel_rfl) (by kernel_rfl) (fun _ _ _ h => h) rfl (fun y hy => by obtain ⟨x1, x2, x3, x4, x5⟩ := hy; go_simp) ?_
      try simp only [Act.put]
      refine Held.take (i := 21) (.slice AR nR cR) rfl hS (by kernel_rfl) (by kernel_rfl) (by kernel_rfl) (by kernel_rfl) (fun _ _ _ h => h) rfl (fun y hy => by obtain ⟨x1, x2, x3, x4, x5⟩ := hy; go_simp) ?_
      try simp only [Act.put]
      refine Held.one (i := 22) rfl (by kernel_rfl) rfl (fun K hK => ?_)
      unfold Oper.wp
      go_simp
      have hJ := joined_any k.kind s.A s.n s.c k.on s.A' s.n' s.c' k.others k.a k.b AL nL cL lL AR nR cR lR Xw _ _ hu.st.on hu.st.ot (hu.st.same HK.out.ok) hu.st.n1 (HBL.out Xw hBd) (HBR.out Xw hBd) (by rw [HDL.out]; exact HK.out.sl.side HK.out.ok.ion) (by rw [HDR.out]; exact HK.out.sr.side HK.out.ok.iot) HK.out.ok.wide HK.out.ok.kind rfl rfl
      rw [HDL.out, HDR.out] at hJ
      refine hJ.mono ?_
      rintro e W3 ⟨Aw, nw, cw, rfl, hOw, hb⟩
      have hS2 : W3.cell? ⟨b, 0, none⟩ = some (.int .i64 k.kind) ∧ W3.cell? ⟨b, 1, none⟩ = some (.int .i64 (k.a : Int)) ∧ W3.cell? ⟨b, 2, none⟩ = some (.int .i64 (k.b : Int)) ∧ W3.cell? ⟨b, 3, none⟩ = some (.slice s.A s.n s.c) ∧ W3.cell? ⟨b, 4, none⟩ = some (.slice s.A' s.n' s.c') := ⟨(hb.cell hu.lt).trans hS.1, (hb.cell hu.lt).trans hS.2.1, (hb.cell hu.lt).trans hS.2.2.1, (hb.cell hu.lt).trans hS.2.2.2.1, (hb.cell hu.lt).trans hS.2.2.2.2⟩
      have hB3 := bstep hBd hb
      have kb3 := (kb2.below hdr kb2.lt).below hb (kb2.below hdr kb2.lt).lt
      refine hK _ _ (fun _ => hS2) ?_
      try simp only [Act.put]
      clear hK K hS hb hdr hBd hu hJ hB2 kb2
      have hS := hS2
      clear hS2
      refine Held.take (i := 23) (.slice Aw nw cw) rfl hS (by kernel_rfl) (by kernel_rfl) (by kernel_rfl) (by kernel_rfl) (fun _ _ _ h => h) rfl (fun y hy => by obtain ⟨x1, x2, x3, x4, x5⟩ := hy; go_simp) ?_
      try simp only [Act.put]
      refine Held.done (by kernel_rfl) ?_
      clear hS
      obtain ⟨_, _, _, lw, hve, hdw, hbw, hcw⟩ := hOw
      injection hve with e1 e2 e3
      subst e1 e2 e3
      change dat lw = kpJ k _ _ at hdw
      obtain ⟨_, hokr, hnm⟩ := okCh_inK HV.out
      have hm := numB_ne hnm
      have hmem8 : ∀ z ∈ dat lR, z.1.length ≤ 1000 := fun z hz => by rw [HDR.out] at hz; have := okR_len ((okBag_asc HK.out.sr.bag).1.ok z hz); omega
      have hnum8 : ∀ z ∈ dat lR, -4000000000000000000 ≤ z.2 ∧ z.2 ≤ 4000000000000000000 := fun z hz => by rw [HDR.out] at hz; have := numB_ne ((okBag_asc HK.out.sr.bag).2.1 z hz); omega
      have hnr8 : nr ≤ 1000 := by have := okR_len hokr; rw [HNR.out] at this; omega
      have hPu := RPutL_any AR nR cR lR Ar nr cr x m W3 (HBR.out W3 hB3) (by have := HLR.out; omega) (HRW.out W3 hB3) hnr8 hmem8 hnum8 (by omega)
      rw [HDR.out] at hPu
      have HPu := hide hPu
      have g1 : W3.cell? ⟨bc, 1, none⟩ = some (.slice Ar nr cr) := by simpa using kb3.cell 1
      have g2 : W3.cell? ⟨bc, 2, none⟩ = some (.int .i64 m) := by simpa using kb3.cell 2
      clear hPu hmem8 hnum8 hnr8
      go_wp2_with fail
      refine HPu.out.mono ?_
      rintro e W4 ⟨Ap, np, cp, lp, rfl, hdp, hbp, hcp, hb⟩
      have hB4 := bstep hB3 hb
      have kb4 := kb3.below hb kb3.lt
      have hbw4 := (hbw.below hb).mono hb.size
      clear hb hB3 kb3 hbw g1 g2 HPu
      have HDP := hide hdp
      clear hdp
      obtain ⟨lk, hlk⟩ : ∃ lk, look r x = lk := ⟨_, rfl⟩
      have HLK := hide hlk
      clear hlk
      have hpa : Asc (putB r x m) ∧ look (putB r x m) x = lk + m := by
        have d1 := okBag_asc HK.out.sr.bag
        obtain ⟨i1, i2, i3⟩ := ins_ok hokr m d1.1 (fun y hy => (numB_ne (d1.2.1 y hy)).1)
        rw [putB_ins d1.1.up]
        exact ⟨i1, by rw [i3, if_pos rfl, HLK.out]⟩
      have hNp := fun (X : World) => RNk_any Ap np cp X.heap.size lp Ar nr cr x X
      have hoth : 0 ≤ look l x := look_pos2 HK.out.sl.pos x
      obtain ⟨ro, hro⟩ : ∃ ro, look l x = ro := ⟨_, rfl⟩
      rw [hro] at hoth
      have HRO := hide hro
      clear hro
      have HN1 := hide (show Calls Tryz.prog 100 #[.slice AL nL cL, .slice Ar nr cr] W4 (RetV W4 (.int .i64 ro)) from by
        have := RNk_any AL nL cL _ lL Ar nr cr x W4 (HBL.out W4 hB4) (HRW.out W4 hB4) (by rw [HDL.out]; exact (okBag_asc HK.out.sl.bag).1) hokr
        rwa [HDL.out, HRO.out] at this)
      have g1 : W4.cell? ⟨bc, 1, none⟩ = some (.slice Ar nr cr) := by simpa using kb4.cell 1
      have z2 : decide (ro < 0) = false := by simp; omega
      go_wp2_with fail
      refine HN1.out.mono ?_
      rintro e W5 ⟨rfl, hb⟩
      have hB5 := bstep hB4 hb
      have kb5 := kb4.below hb kb4.lt
      have hbp := (hbp.below hb).mono hb.size
      have hbw4 := (hbw4.below hb).mono hb.size
      have HN2 := hide (show Calls Tryz.prog 100 #[.slice Ap np cp, .slice Ar nr cr] W5 (RetV W5 (.int .i64 (lk + m))) from by
        have := hNp W5 hbp (HRW.out W5 hB5) (by rw [HDP.out]; exact hpa.1) hokr
        rwa [HDP.out, hpa.2] at this)
      clear hb hB4 kb4 HN1 hNp g1
      have g1 : W5.cell? ⟨bc, 1, none⟩ = some (.slice Ar nr cr) := by simpa using kb5.cell 1
      by_cases hneg : lk + m < 0
      case pos =>
        have z : decide (lk + m < 0) = true := by simpa using hneg
        have HX := hide (show kpE k false l r t x m = 10 from HEE.out.trans (by rw [HV.out, HNR.out, if_pos rfl, if_pos HWD.out, HLK.out, if_pos hneg]))
        clear hneg hoth
        go_wp2_with fail
        refine HN2.out.mono ?_
        rintro e W6 ⟨rfl, hb⟩
        have hB6 := bstep hB5 hb
        clear hb hB5
        go_wp2
        refine bodyPost_ret (results_tmp2 rfl _ _ _) rfl ?_
        exact HBAD.out _ hB6 10 HX.out (by decide)
      case neg =>
        have z : decide (lk + m < 0) = false := by simpa using hneg
        have HPS := hide (show 0 ≤ look r x + m from by rw [HLK.out]; omega)
        have HY := hide (show kpE k false l r t x m = R1 from HEE.out.trans (by rw [HV.out, HNR.out, if_pos rfl, if_pos HWD.out, HLK.out, if_neg hneg]))
        clear hneg
        go_wp2_with fail
        refine HN2.out.mono ?_
        rintro e W6 ⟨rfl, hb⟩
        have hB6 := bstep hB5 hb
        have kb6 := kb5.below hb kb5.lt
        have hbp := (hbp.below hb).mono hb.size
        have hbw4 := (hbw4.below hb).mono hb.size
        clear hb hB5 kb5 HN2 g1
        go_wp2_with fail
        clear z z2 hoth
        have HSO := hide (sd_more HK.out.sr hokr hnm (HNR.out.trans HWD.out) HPS.out HK.out.ok.iot (by omega))
        have HSP := hide (sd_put HK.out.sr hokr hnm (HNR.out.trans HWD.out) HPS.out)
        clear hpa
        refine Held.begin (fun y => y.cell? ⟨b, 0, none⟩ = some (.int .i64 k.kind) ∧ y.cell? ⟨b, 1, none⟩ = some (.int .i64 (k.a : Int)) ∧ y.cell? ⟨b, 2, none⟩ = some (.int .i64 (k.b : Int)) ∧ y.cell? ⟨b, 3, none⟩ = some (.slice s.A s.n s.c) ∧ y.cell? ⟨b, 4, none⟩ = some (.slice s.A' s.n' s.c')) 100 (by kernel_rfl) ?_
        have hdr : Below W6.heap.size W6 W6.drew := (Below.refl _ _).drew
        obtain ⟨Xj, hXe⟩ : ∃ Xj, W6.drew = Xj := ⟨_, rfl⟩
        rw [hXe] at hdr ⊢
        have hBd := bstep hB6 hdr
        have hu := HU.out Xj hBd
        have hS : Xj.cell? ⟨b, 0, none⟩ = some (.int .i64 k.kind) ∧ Xj.cell? ⟨b, 1, none⟩ = some (.int .i64 (k.a : Int)) ∧ Xj.cell? ⟨b, 2, none⟩ = some (.int .i64 (k.b : Int)) ∧ Xj.cell? ⟨b, 3, none⟩ = some (.slice s.A s.n s.c) ∧ Xj.cell? ⟨b, 4, none⟩ = some (.slice s.A' s.n' s.c') := ⟨hu.blk.cell 0, hu.blk.cell 1, hu.blk.cell 2, hu.blk.cell 3, hu.blk.cell 4⟩
        clear hXe
        refine Held.take (i := 0) (.pointer (some ⟨b, 0, none⟩)) rfl hS (by kernel_rfl) (by kernel_rfl) (by kernel_rfl) (by kernel_rfl) (fun _ _ _ h => h) rfl (fun y hy => by obtain ⟨x1, x2, x3, x4, x5⟩ := hy; go_simp) ?_
        try simp only [Act.put]
        refine Held.take (i := 1) (.pointer (some ⟨b, 0, none⟩)) rfl hS (by kernel_rfl) (by kernel_rfl) (by kernel_rfl) (by kernel_rfl) (fun _ _ _ h => h) rfl (fun y hy => by obtain ⟨x1, x2, x3, x4, x5⟩ := hy; go_simp) ?_
        try simp only [Act.put]
        refine Held.take (i := 2) (.pointer (some ⟨b, 0, none⟩)) rfl hS (by kernel_rfl) (by kernel_rfl) (by kernel_rfl) (by kernel_rfl) (fun _ _ _ h => h) rfl (fun y hy => by obtain ⟨x1, x2, x3, x4, x5⟩ := hy; go_simp) ?_
        try simp only [Act.put]
        refine Held.take (i := 3) (.int .i64 k.kind) rfl hS (by kernel_rfl) (by kernel_rfl) (by kernel_rfl) (by kernel_rfl) (fun _ _ _ h => h) rfl (fun y hy => by obtain ⟨x1, x2, x3, x4, x5⟩ := hy; go_simp) ?_
        try simp only [Act.put]
        refine Held.take (i := 4) (.pointer (some ⟨b, 0, none⟩)) rfl hS (by kernel_rfl) (by kernel_rfl) (by kernel_rfl) (by kernel_rfl) (fun _ _ _ h => h) rfl (fun y hy => by obtain ⟨x1, x2, x3, x4, x5⟩ := hy; go_simp) ?_
        try simp only [Act.put]
        refine Held.take (i := 5) (.pointer (some ⟨b, 0, none⟩)) rfl hS (by kernel_rfl) (by kernel_rfl) (by kernel_rfl) (by kernel_rfl) (fun _ _ _ h => h) rfl (fun y hy => by obtain ⟨x1, x2, x3, x4, x5⟩ := hy; go_simp) ?_
        try simp only [Act.put]
        refine Held.take (i := 6) (.pointer (some ⟨b, 3, none⟩)) rfl hS (by kernel_rfl) (by kernel_rfl) (by kernel_rfl) (by kernel_rfl) (fun _ _ _ h => h) rfl (fun y hy => by obtain ⟨x1, x2, x3, x4, x5⟩ := hy; go_simp) ?_
        try simp only [Act.put]
        refine Held.take (i := 7) (.slice s.A s.n s.c) rfl hS (by kernel_rfl) (by kernel_rfl) (by kernel_rfl) (by kernel_rfl) (fun _ _ _ h => h) rfl (fun y hy => by obtain ⟨x1, x2, x3, x4, x5⟩ := hy; go_simp) ?_
        try simp only [Act.put]
        refine Held.take (i := 8) (.pointer (some ⟨b, 0, none⟩)) rfl hS (by kernel_rfl) (by kernel_rfl) (by kernel_rfl) (by kernel_rfl) (fun _ _ _ h => h) rfl (fun y hy => by obtain ⟨x1, x2, x3, x4, x5⟩ := hy; go_simp) ?_
        try simp only [Act.put]
        refine Held.take (i := 9) (.pointer (some ⟨b, 0, none⟩)) rfl hS (by kernel_rfl) (by kernel_rfl) (by kernel_rfl) (by kernel_rfl) (fun _ _ _ h => h) rfl (fun y hy => by obtain ⟨x1, x2, x3, x4, x5⟩ := hy; go_simp) ?_
        try simp only [Act.put]
        refine Held.take (i := 10) (.pointer (some ⟨b, 4, none⟩)) rfl hS (by kernel_rfl) (by kernel_rfl) (by kernel_rfl) (by kernel_rfl) (fun _ _ _ h => h) rfl (fun y hy => by obtain ⟨x1, x2, x3, x4, x5⟩ := hy; go_simp) ?_
        try simp only [Act.put]
        refine Held.take (i := 11) (.slice s.A' s.n' s.c') rfl hS (by kernel_rfl) (by kernel_rfl) (by kernel_rfl) (by kernel_rfl) (fun _ _ _ h => h) rfl (fun y hy => by obtain ⟨x1, x2, x3, x4, x5⟩ := hy; go_simp) ?_
        try simp only [Act.put]
        refine Held.take (i := 12) (.pointer (some ⟨b, 0, none⟩)) rfl hS (by kernel_rfl) (by kernel_rfl) (by kernel_rfl) (by kernel_rfl) (fun _ _ _ h => h) rfl (fun y hy => by obtain ⟨x1, x2, x3, x4, x5⟩ := hy; go_simp) ?_
        try simp only [Act.put]
        refine Held.take (i := 13) (.pointer (some ⟨b, 0, none⟩)) rfl hS (by kernel_rfl) (by kernel_rfl) (by kernel_rfl) (by kernel_rfl) (fun _ _ _ h => h) rfl (fun y hy => by obtain ⟨x1, x2, x3, x4, x5⟩ := hy; go_simp) ?_
        try simp only [Act.put]
        refine Held.take (i := 14) (.pointer (some ⟨b, 1, none⟩)) rfl hS (by kernel_rfl) (by kernel_rfl) (by kernel_rfl) (by kernel_rfl) (fun _ _ _ h => h) rfl (fun y hy => by obtain ⟨x1, x2, x3, x4, x5⟩ := hy; go_simp) ?_
        try simp only [Act.put]
        refine Held.take (i := 15) (.int .i64 (k.a : Int)) rfl hS (by kernel_rfl) (by kernel_rfl) (by kernel_rfl) (by kernel_rfl) (fun _ _ _ h => h) rfl (fun y hy => by obtain ⟨x1, x2, x3, x4, x5⟩ := hy; go_simp) ?_
        try simp only [Act.put]
        refine Held.take (i := 16) (.pointer (some ⟨b, 0, none⟩)) rfl hS (by kernel_rfl) (by kernel_rfl) (by kernel_rfl) (by kernel_rfl) (fun _ _ _ h => h) rfl (fun y hy => by obtain ⟨x1, x2, x3, x4, x5⟩ := hy; go_simp) ?_
        try simp only [Act.put]
        refine Held.take (i := 17) (.pointer (some ⟨b, 0, none⟩)) rfl hS (by kernel_rfl) (by kernel_rfl) (by kernel_rfl) (by kernel_rfl) (fun _ _ _ h => h) rfl (fun y hy => by obtain ⟨x1, x2, x3, x4, x5⟩ := hy; go_simp) ?_
        try simp only [Act.put]
        refine Held.take (i := 18) (.pointer (some ⟨b, 2, none⟩)) rfl hS (by kernel_rfl) (by kernel_rfl) (by kernel_rfl) (by kernel_rfl) (fun _ _ _ h => h) rfl (fun y hy => by obtain ⟨x1, x2, x3, x4, x5⟩ := hy; go_simp) ?_
        try simp only [Act.put]
        refine Held.take (i := 19) (.int .i64 (k.b : Int)) rfl hS (by kernel_rfl) (by kernel_rfl) (by kernel_rfl) (by kernel_rfl) (fun _ _ _ h => h) rfl (fun y hy => by obtain ⟨x1, x2, x3, x4, x5⟩ := hy; go_simp) ?_
        try simp only [Act.put]
        refine Held.take (i := 20) (.slice AL nL cL) rfl hS (by kernel_rfl) (by kernel_rfl) (by kernel_rfl) (by kernel_rfl) (fun _ _ _ h => h) rfl (fun y hy => by obtain ⟨x1, x2, x3, x4, x5⟩ := hy; go_simp) ?_
        try simp only [Act.put]
        refine Held.take (i := 21) (.slice Ap np cp) rfl hS (by kernel_rfl) (by kernel_rfl) (by kernel_rfl) (by kernel_rfl) (fun _ _ _ h => h) rfl (fun y hy => by obtain ⟨x1, x2, x3, x4, x5⟩ := hy; go_simp) ?_
        try simp only [Act.put]
        refine Held.one (i := 22) rfl (by kernel_rfl) rfl (fun K hK => ?_)
        unfold Oper.wp
        go_simp
        have hJ := joined_any k.kind s.A s.n s.c k.on s.A' s.n' s.c' k.others k.a k.b AL nL cL lL Ap np cp lp Xj _ _ hu.st.on hu.st.ot (hu.st.same HK.out.ok) hu.st.n1 (HBL.out Xj hBd) ((hbp.below hdr).mono hdr.size) (by rw [HDL.out]; exact HK.out.sl.side HK.out.ok.ion) (by rw [HDP.out]; exact HSO.out) HK.out.ok.wide HK.out.ok.kind rfl rfl
        rw [HDL.out, HDP.out] at hJ
        refine hJ.mono ?_
        rintro e W7 ⟨Aj, nj, cj, rfl, hOj, hb⟩
        have hS2 : W7.cell? ⟨b, 0, none⟩ = some (.int .i64 k.kind) ∧ W7.cell? ⟨b, 1, none⟩ = some (.int .i64 (k.a : Int)) ∧ W7.cell? ⟨b, 2, none⟩ = some (.int .i64 (k.b : Int)) ∧ W7.cell? ⟨b, 3, none⟩ = some (.slice s.A s.n s.c) ∧ W7.cell? ⟨b, 4, none⟩ = some (.slice s.A' s.n' s.c') := ⟨(hb.cell hu.lt).trans hS.1, (hb.cell hu.lt).trans hS.2.1, (hb.cell hu.lt).trans hS.2.2.1, (hb.cell hu.lt).trans hS.2.2.2.1, (hb.cell hu.lt).trans hS.2.2.2.2⟩
        have hB7 := bstep hBd hb
        have kb7 := (kb6.below hdr kb6.lt).below hb (kb6.below hdr kb6.lt).lt
        have hbp := (((hbp.below hdr).mono hdr.size).below hb).mono hb.size
        have hbw4 := (((hbw4.below hdr).mono hdr.size).below hb).mono hb.size
        refine hK _ _ (fun _ => hS2) ?_
        try simp only [Act.put]
        clear hK K hS hb hdr hBd hu hJ hB6 kb6
        have hS := hS2
        clear hS2
        refine Held.take (i := 23) (.slice Aj nj cj) rfl hS (by kernel_rfl) (by kernel_rfl) (by kernel_rfl) (by kernel_rfl) (fun _ _ _ h => h) rfl (fun y hy => by obtain ⟨x1, x2, x3, x4, x5⟩ := hy; go_simp) ?_
        try simp only [Act.put]
        refine Held.done (by kernel_rfl) ?_
        clear hS
        obtain ⟨_, _, _, lj, hve, hdj, hbj, hcj⟩ := hOj
        injection hve with e1 e2 e3
        subst e1 e2 e3
        change dat lj = kpJ k _ _ at hdj
        have HBJ := hide (show BigL (kpJ k l (putB r x m)) from bigJ (HK.out.sl.side HK.out.ok.ion) HSO.out HK.out.ok.wide (by have := HK.out.sl.cnt; omega) HSP.out.2.2.1 hq)
        have HBW := hide (show BigL (kpJ k l r) from bigL_of HK.out.j)
        have HDJ := hide hdj
        have HDW := hide hdw
        have hPl := RPlusL_any Aj nj cj lj Aw nw cw lw (-1) W7 hbj hbw4 (by rw [hdj]; exact HBJ.out) (by rw [hdw]; exact HBW.out) (by omega)
        rw [hdj, hdw] at hPl
        have HPl := hide hPl
        clear hPl hdj hdw
        go_wp2_with fail
        refine HPl.out.mono ?_
        rintro e W8 ⟨Ad, nd, cd, ld, rfl, hdd, hbd, hcd, hb⟩
        have hB8 := bstep hB7 hb
        have kb8 := kb7.below hb kb7.lt
        have hbp := (hbp.below hb).mono hb.size
        have hbj := (hbj.below hb).mono hb.size
        have HDD := hide hdd
        clear hb hB7 kb7 HPl hbw4 hdd
        have HVp := hide (fun (X : World) (hX : Below W8.heap.size W8 X) => show Calls Tryz.prog 95 #[.slice Ap np cp] X (RetV X (.bool (okBag (putB r x m)))) from by have := R3Valid_any Ap np cp _ lp X ((hbp.below hX).mono hX.size); rwa [HDP.out] at this)
        have HVo := hide (fun (X : World) (hX : Below W8.heap.size W8 X) => show Calls Tryz.prog 95 #[.slice AL nL cL] X (RetV X (.bool true)) from by have := R3Valid_any AL nL cL _ lL X (HBL.out X (bstep hB8 hX)); rwa [HDL.out, HK.out.sl.bag] at this)
        have HVj := hide (fun (X : World) (hX : Below W8.heap.size W8 X) => show Calls Tryz.prog 95 #[.slice Aj nj cj] X (RetV X (.bool (okBag (kpJ k l (putB r x m))))) from by have := R3Valid_any Aj nj cj _ lj X ((hbj.below hX).mono hX.size); rwa [HDJ.out] at this)
        have HVd := hide (fun (X : World) (hX : Below W8.heap.size W8 X) => show Calls Tryz.prog 95 #[.slice Ad nd cd] X (RetV X (.bool (okBag (plusB (kpJ k l (putB r x m)) (kpJ k l r) (-1))))) from by have := R3Valid_any Ad nd cd _ ld X ((hbd.below hX).mono hX.size); rwa [HDD.out] at this)
        obtain ⟨vp, hvp⟩ : ∃ v, okBag (putB r x m) = v := ⟨_, rfl⟩
        obtain ⟨vj, hvj⟩ : ∃ v, okBag (kpJ k l (putB r x m)) = v := ⟨_, rfl⟩
        obtain ⟨vd, hvd⟩ : ∃ v, okBag (plusB (kpJ k l (putB r x m)) (kpJ k l r) (-1)) = v := ⟨_, rfl⟩
        simp only [hvp, hvj, hvd] at HVp HVj HVd
        have HZ1 := hide (show R1 = if vp then R2 else 4 from by rw [HR1.out, hvp])
        have HZ2 := hide (show R2 = if vj then R3 else 4 from by rw [HR2.out]; show (if okBag (kpJ k l (putB r x m)) = true then R3 else 4) = _; rw [hvj])
        have HZ3 := hide (show R3 = if vd then 0 else 4 from by rw [HR3.out]; show (if okBag (plusB (kpJ k l (putB r x m)) (kpJ k l r) (-1)) = true then (0 : Int) else 4) = _; rw [hvd])
        have HOD := hide hvd
        have HOJ := hide hvj
        clear hvp hvj hvd
        have hC8 : Below W8.heap.size W8 W8 := Below.refl _ _
        go_wp2_with fail
        refine (HVo.out W8 hC8).mono ?_
        rintro e W9 ⟨rfl, hb⟩
        have hC9 := bstep hC8 hb
        clear hb hC8
        go_wp2_with fail
        refine (HVp.out W9 hC9).mono ?_
        rintro e W10 ⟨rfl, hb⟩
        have hC10 := bstep hC9 hb
        clear hb hC9
        cases vp
        case false =>
          have HX := hide (show kpE k false l r t x m = 4 from HY.out.trans (by rw [HZ1.out]; simp [HZ2.out, HZ3.out]))
          have hBz := bstep hB8 hC10
          go_wp2
          refine bodyPost_ret (results_tmp2 rfl _ _ _) rfl ?_
          exact HBAD.out _ hBz 4 HX.out (by decide)
        case true =>
          go_wp2_with fail
          refine (HVj.out W10 hC10).mono ?_
          rintro e W11 ⟨rfl, hb⟩
          have hC11 := bstep hC10 hb
          clear hb hC10
          cases vj
          case false =>
            have HX := hide (show kpE k false l r t x m = 4 from HY.out.trans (by rw [HZ1.out]; simp [HZ2.out, HZ3.out]))
            have hBz := bstep hB8 hC11
            go_wp2
            refine bodyPost_ret (results_tmp2 rfl _ _ _) rfl ?_
            exact HBAD.out _ hBz 4 HX.out (by decide)
          case true =>
            go_wp2_with fail
            refine (HVd.out W11 hC11).mono ?_
            rintro e W12 ⟨rfl, hb⟩
            have hC12 := bstep hC11 hb
            clear hb hC11
            cases vd
            case false =>
              have HX := hide (show kpE k false l r t x m = 4 from HY.out.trans (by rw [HZ1.out]; simp [HZ2.out, HZ3.out]))
              have hBz := bstep hB8 hC12
              go_wp2
              refine bodyPost_ret (results_tmp2 rfl _ _ _) rfl ?_
              exact HBAD.out _ hBz 4 HX.out (by decide)
            case true =>
              have HX := hide (show kpE k false l r t x m = 0 from HY.out.trans (by rw [HZ1.out]; simp [HZ2.out, HZ3.out]))
              have hBz := bstep hB8 hC12
              have kbz := kb8.below hC12 kb8.lt
              have huz := HU.out _ hBz
              obtain ⟨tz, kz⟩ := huz.set (v := .slice AL nL cL) (u := .slice Ap np cp) (d := l) (e := (putB r x m)) ⟨AL, nL, cL, lL, rfl, HDL.out, HBL.out _ hBz, hcL⟩ ⟨Ap, np, cp, lp, rfl, HDP.out, (hbp.below hC12).mono hC12.size, hcp⟩
              have c5 : W12.cell? ⟨b, 5, none⟩ = some (.slice AL nL cL) := huz.blk.cell 5
              have f5 : W12.frozen? ⟨b, 5, none⟩ = false := huz.blk.frozen 5
              have c6 : (W12.setCell ⟨b, 5, none⟩ (.slice AL nL cL)).cell? ⟨b, 6, none⟩ = some (.slice AR nR cR) := (huz.blk.set_ 5 (.slice AL nL cL)).cell 6
              have f6 : (W12.setCell ⟨b, 5, none⟩ (.slice AL nL cL)).frozen? ⟨b, 6, none⟩ = false := (huz.blk.set_ 5 (.slice AL nL cL)).frozen 6
              have gt : ((W12.setCell ⟨b, 5, none⟩ (.slice AL nL cL)).setCell ⟨b, 6, none⟩ (.slice Ap np cp)).cell? ⟨bc, 0, none⟩ = some (.int .i64 t) := tz.keep _ _ (by simpa using kbz.cell 0) nofun
              have hMd := RMade_any Ad nd cd ld t _ (((hbd.below hC12).mono hC12.size).turn tz) (by rw [HDD.out]; exact HOD.out)
              rw [HDD.out] at hMd
              have HMd := hide hMd
              have KZ := hide kz
              have TZ := hide ((Turn.of_below (X := [b]) hBz).trans tz)
              clear hMd kz tz huz hBz kbz hbd hbj hbp hC12 hB8 kb8 HVp HVo HVj HVd
              go_wp2_with fail
              refine HMd.out.mono ?_
              rintro e WF ⟨A5, n5, c5', lc, rfl, ⟨hlc, hlt⟩, hchg, hb⟩
              have HLC := hide (show lc.map (fun (i : Ch) => (i.r, i.m)) = plusB (kpJ k l (putB r x m)) (kpJ k l r) (-1) from hlc)
              have HLT := hide hlt
              have HCH := hide hchg
              have HTF := hide (TZ.out.below hb)
              have HKF := hide (KZ.out.below hb)
              clear hb hlc hlt hchg c5 f5 c6 f6 gt HMd
              go_wp2
              refine bodyPost_ret (results_tmp2 rfl _ _ _) rfl ?_
              refine ⟨A5, n5, c5', lc, by rw [HX.out]; rfl, ⟨?_, HLT.out⟩, HCH.out, HTF.out, ?_⟩
              · unfold kpC
                rw [if_pos HX.out]
                exact HLC.out
              · unfold kpL kpR
                rw [if_pos HX.out, if_pos HX.out]
                exact ⟨_, _, HKF.out⟩
theorem RKRight_any {b : Nat} {k : Kst} {s : KS} {vL vR : Value} {l r : Bg} {q : Nat} (t : Int) (Ar : Option Addr) (nr cr : Nat) (x : Rw) (m : Int) (w : World)
    (h : KrO w b s k vL vR l r) (hk : Kp2 k l r q) (hq : q + 1 ≤ 40) (hr : RowK w w.heap.size Ar nr x) :
    Calls Tryz.prog 55 #[.pointer (some ⟨b, 0, none⟩), .agg #[.int .i64 t, .slice Ar nr cr, .int .i64 m]] w (RetKr k s b false l r t x m w) := by
  have hB0 := below_val (w := w) #[.int .i64 t, .slice Ar nr cr, .int .i64 m] 57
  have kb0 := Blk.new w 57 #[.int .i64 t, .slice Ar nr cr, .int .i64 m]
  have HT := hide (RRightside_any t Ar nr cr x m _ (h.below hB0) hk hq ((hr.below hB0).mono hB0.size))
  have HB := hide hB0
  clear h hk hr hB0
  go_enter Tryz.func55, Tryz.ntmps55
  go_upto_region 1 with fail
  have g0 : (w.alloc (.cells #[.int .i64 t, .slice Ar nr cr, .int .i64 m] 57)).cell? ⟨w.heap.size, 0, none⟩ = some (.int .i64 t) := by simp
  have g1 : (w.alloc (.cells #[.int .i64 t, .slice Ar nr cr, .int .i64 m] 57)).cell? ⟨w.heap.size, 1, none⟩ = some (.slice Ar nr cr) := by simp
  have g2 : (w.alloc (.cells #[.int .i64 t, .slice Ar nr cr, .int .i64 m] 57)).cell? ⟨w.heap.size, 2, none⟩ = some (.int .i64 m) := by simp
  go_wp2_with fail
  refine HT.out.mono ?_
  rintro e W1 hres
  obtain ⟨E, hE⟩ : ∃ E, kpE k false l r t x m = E := ⟨_, rfl⟩
  obtain ⟨A0, n0, c0, lc, he, hlc, hch, htn, hko⟩ := hres
  rw [hE] at he
  subst he
  have HRS := hide (show RetKr k s b false l r t x m w (.returned (.tuple #[.slice A0 n0 c0, .int .i64 E])) W1 from RetKr.under HB.out ⟨A0, n0, c0, lc, by rw [hE], hlc, hch, htn, hko⟩)
  clear hlc hch htn hko hE
  go_wp2
  refine bodyPost_ret (results_tmp2 rfl _ _ _) rfl ?_
  exact HRS.out
theorem RKRight_nil (t : Int) (Ar : Option Addr) (nr cr : Nat) (m : Int) (w : World) :
    Calls Tryz.prog 55 #[.pointer none, .agg #[.int .i64 t, .slice Ar nr cr, .int .i64 m]] w (RetV w (.tuple #[.slice none 0 0, .int .i64 1])) := by
  have HS := hide (rside_nil t Ar nr cr m false)
  have hB0 := below_val (w := w) #[.int .i64 t, .slice Ar nr cr, .int .i64 m] 57
  go_enter Tryz.func55, Tryz.ntmps55
  go_upto_region 1 with fail
  have g0 : (w.alloc (.cells #[.int .i64 t, .slice Ar nr cr, .int .i64 m] 57)).cell? ⟨w.heap.size, 0, none⟩ = some (.int .i64 t) := by simp
  have g1 : (w.alloc (.cells #[.int .i64 t, .slice Ar nr cr, .int .i64 m] 57)).cell? ⟨w.heap.size, 1, none⟩ = some (.slice Ar nr cr) := by simp
  have g2 : (w.alloc (.cells #[.int .i64 t, .slice Ar nr cr, .int .i64 m] 57)).cell? ⟨w.heap.size, 2, none⟩ = some (.int .i64 m) := by simp
  go_wp2_with fail
  refine (HS.out _).mono ?_
  rintro e W1 ⟨rfl, hb⟩
  have HB := hide (bstep hB0 hb)
  clear hb hB0
  go_wp2
  refine bodyPost_ret (results_tmp2 rfl _ _ _) rfl ?_
  exact ⟨rfl, HB.out⟩
end Go.Proofs.YtoapjidpfghnlaaGreatDoor
