/-
  The walks of the reference's N at a bag that ascends, and of the reference's Tell. No condition.
-/
import Derived.Test.YtljglceaibgknaaGreatDoorRqU
import Derived.Test.YtljglceaibgknaaGreatDoorMade
namespace Go.Proofs.YtljglceaibgknaaGreatDoor
open Go.RowKit
attribute [local go_sem] Oper.semAt_some wide_fn wide_depth
set_option linter.unusedVariables false
set_option linter.unusedSimpArgs false

theorem look_foundA {d : Bg} (ha : Asc d) {r : Rw} (hr : okR r = true) {i : Nat} {x : Rw × Int} (hx : d[i]? = some x) (hc : cmpR x.1 r = 0) : look d r = x.2 := by
  have hm := List.mem_of_getElem? hx
  have e : x.1 = r := okR_eq (ha.ok x hm) hr hc
  subst e
  exact look_mem ha hm
set_option maxRecDepth 100000 in
set_option maxHeartbeats 4000000 in
theorem RNa_any (A : Option Addr) (n c B : Nat) (l : List It) (A' : Option Addr) (n' c' : Nat) (r : Rw) (w : World) (hx : BagR w B A n l) (hr : RowK w w.heap.size A' n' r) (ho : Asc (dat l)) (hq : okR r = true) :
    Calls Tryz.prog 25 #[.slice A n c, .slice A' n' c'] w (RetV w (.int .i64 (look (dat l) r))) := by
  obtain ⟨p, hp⟩ : ∃ p, look (dat l) r = p := ⟨_, rfl⟩
  have HP := hide hp
  rw [hp]
  clear hp
  have hn := hx.le
  have HL := hide (show (dat l).length = n by rw [dat_len, hx.len])
  have HO := hide ho
  have HQ := hide hq
  clear ho hq
  go_enter Tryz.func25, Tryz.ntmps25
  go_wp2_with fail
  go_loopw [5] (fun i wr => ∃ k : Nat, k ≤ n ∧ i = .int .i64 k ∧ (∀ (q : Nat) (x : Rw × Int), q < k → (dat l)[q]? = some x → cmpR x.1 r ≠ 0) ∧ Below w.heap.size w wr) (fun i _ => n - (intOf i).toNat)
  case atStart => exact ⟨0, Nat.zero_le _, rfl, fun q x hq => absurd hq (by omega), Below.refl _ _⟩
  case round =>
    obtain ⟨k, hk, rfl, hno, hBw⟩ := hrel
    have HN := hide hno
    clear hno
    by_cases hlt : k < n
    · obtain ⟨b, off, x, rfl, hb, hxk, c0, c1, hrow⟩ := (hx.below hBw).at_ hlt
      have HE := hide (dat_at hxk)
      have q1 : (0 : Int) ≤ (k : Int) := by omega
      have q2 : (k : Int) < (n : Int) := by omega
      have HS := hide (R2Compare_any x.A x.n x.c x.r A' n' c' r wr hrow.rd (hr.below hBw).rd hrow.le)
      clear hxk
      go_wp2_with fail
      refine HS.out.mono ?_
      rintro e W1 ⟨rfl, hB1⟩
      have hB2 := bstep hBw hB1
      by_cases hc : cmpR x.r r = 0
      · have z : (cmpR x.r r == 0) = true := by simpa using hc
        have HX := hide (show x.m = p by rw [← HP.out, look_foundA HO.out HQ.out HE.out hc])
        have c1' := (hB1.cell (p := ⟨b, off + k * 2 + 1, none⟩) hb).trans c1
        clear hc c0 c1
        go_wp2
        go_ret
        exact ⟨ret_int HX.out, hB2⟩
      · have z : (cmpR x.r r == 0) = false := by simpa using hc
        have HX := hide (show ∀ (q : Nat) (y : Rw × Int), q < k + 1 → (dat l)[q]? = some y → cmpR y.1 r ≠ 0 from fun q y hq hy => by
          by_cases e : q = k
          · subst e
            rw [HE.out] at hy
            injection hy with hy
            rw [← hy]; exact hc
          · exact HN.out q y (by omega) hy)
        clear hc
        go_wp2
        go_roundw
        case rel => exact ⟨k + 1, by omega, by go_num, HX.out, hB2⟩
        case measure => simp [intOf]; omega
    · obtain rfl : k = n := by omega
      have HX := hide (show 0 = p by
        rw [← HP.out, look_no fun q x hx => HN.out q x (by have := (List.getElem?_eq_some_iff.1 hx).1; rw [HL.out] at this; exact this) hx])
      go_wp2
      go_ret
      exact ⟨ret_int HX.out, hBw⟩
/-- What the reference's Tell hands back, and what it makes of its ranker. -/
def RetTellR (s : Stp) (width : Int) (b : Nat) (k : Sk) (d : Bg) (t : Int) (r : Rw) (m : Int) (w : World) (e : Ending) (w' : World) : Prop :=
  ∃ A0 n0 c0 lc, e = .returned (.tuple #[.slice A0 n0 c0, .int .i64 (tellE width d t r m)]) ∧ (lc.map (fun (i : Ch) => (i.r, i.m)) = tellC s width d t r m ∧ ∀ i ∈ lc, i.t = t) ∧ ChgR w' w'.heap.size A0 n0 lc ∧ Turn [b] w w' ∧
    ∃ A n c l, RkR w' b k s width A n c l ∧ dat l = tellD width d t r m
theorem tellR_bad {b : Nat} {k : Sk} {s : Stp} {width : Int} {A : Option Addr} {n c : Nat} {l : List It} {d : Bg} {t : Int} {r : Rw} {m : Int} {w w1 : World} (h : RkR w b k s width A n c l) (hd : dat l = d)
    (hB : Below w.heap.size w w1) {err : Int} (he : tellE width d t r m = err) (h0 : err ≠ 0) : RetTellR s width b k d t r m w (.returned (.tuple #[.slice none 0 0, .int .i64 err])) w1 := by
  have hD : tellD width d t r m = d := by unfold tellD; rw [if_neg (by rw [he]; exact h0)]
  have hC : tellC s width d t r m = [] := by unfold tellC; rw [if_neg (by rw [he]; exact h0)]
  exact ⟨none, 0, 0, [], by rw [he], ⟨by rw [hC]; rfl, nofun⟩, ChgR.nil _ _, Turn.of_below hB, A, n, c, l, h.up hB, by rw [hD, hd]⟩
theorem look_putA {d : Bg} {r : Rw} {m : Int} (h : Asc d) (hz : ∀ x ∈ d, x.2 ≠ 0) (hr : okR r = true) : look (putB d r m) r = look d r + m ∧ Asc (putB d r m) := by
  obtain ⟨i1, i2, i3⟩ := ins_ok hr m h hz
  rw [putB_ins h.up, i3, if_pos rfl]
  exact ⟨rfl, i1⟩
set_option maxRecDepth 100000 in
set_option maxHeartbeats 16000000 in
theorem RTell_any {b : Nat} {k : Sk} {s : Stp} {width : Int} {A : Option Addr} {n c : Nat} {l : List It} {d : Bg} {q : Nat} (t : Int) (Ar : Option Addr) (nr cr : Nat) (r : Rw) (m : Int) (w : World)
    (h : RkR w b k s width A n c l) (hd : dat l = d) (hk : Kept s width d q) (hq : 2 * q + 1 ≤ 400) (hr : RowK w w.heap.size Ar nr r) :
    Calls Tryz.prog 43 #[.pointer (some ⟨b, 0, none⟩), .agg #[.int .i64 t, .slice Ar nr cr, .int .i64 m]] w (RetTellR s width b k d t r m w) := by
  have HBAD := hide (fun (w1 : World) (hB : Below w.heap.size w w1) (err : Int) (he : tellE width d t r m = err) (h0 : err ≠ 0) => tellR_bad h hd hB he h0)
  have HU := hide (fun (X : World) (hX : Below w.heap.size w X) => h.up hX)
  have HRW := hide (fun (X : World) (hX : Below w.heap.size w X) => (hr.below hX).mono hX.size)
  have HK := hide hk
  have HD := hide hd
  have HNR := hide hr.len
  have hnr := hr.le
  have hbw := h.lt
  have HLN := hide h.all.len
  have hB0 := below_val (w := w) #[.int .i64 t, .slice Ar nr cr, .int .i64 m] 82
  have kb0 := Blk.new w 82 #[.int .i64 t, .slice Ar nr cr, .int .i64 m]
  clear h hd hk hr
  go_enter Tryz.func43, Tryz.ntmps43
  go_upto_region 1 with fail
  obtain ⟨W0, hW0⟩ : ∃ W0, w.alloc (.cells #[.int .i64 t, .slice Ar nr cr, .int .i64 m] 82) = W0 := ⟨_, rfl⟩
  obtain ⟨bc, hbc⟩ : ∃ bc, w.heap.size = bc := ⟨_, rfl⟩
  rw [hW0] at hB0 kb0 ⊢
  rw [hbc] at kb0 hbw ⊢
  clear hW0
  have hu0 := HU.out W0 hB0
  have g0 := fun (p : BW W0) => BW.cell (a := ⟨bc, 0, none⟩) kb0.lt (by simpa using kb0.cell 0) p
  have g1 := fun (p : BW W0) => BW.cell (a := ⟨bc, 1, none⟩) kb0.lt (by simpa using kb0.cell 1) p
  have g2 := fun (p : BW W0) => BW.cell (a := ⟨bc, 2, none⟩) kb0.lt (by simpa using kb0.cell 2) p
  have g4 := fun (p : BW W0) => BW.cell (a := ⟨b, 4, none⟩) hu0.lt (by simpa using hu0.blk.cell 4) p
  have hC1 := fun (p : BW W0) => calls_bw (p := p) (RValidChange_any t Ar nr cr r m p.x (HRW.out p.x (bstep hB0 p.h)))
  cases hv : okCh t r m
  · simp only [hv] at hC1
    have HC1 := hide hC1
    have HX := hide (show tellE width d t r m = 1 by unfold tellE; rw [hv]; rfl)
    clear hC1 hv
    (refine wp_region_quiet_bw (by kernel_rfl) (by kernel_rfl) ?_
     repeat (first | go_big_quiet_step ((go_at_call 109; exact HC1.out _)) | quiet_step ((go_at_call 109; exact HC1.out _)))
     refine wpQuiet_nil ?_
     intro wq hw'
     obtain ⟨⟨_, hbq⟩, hw''⟩ := hw'
     subst hw'')
    clear g0 g1 g2 g4
    go_wp2
    go_ret2
    exact HBAD.out _ (bstep hB0 hbq) 1 HX.out (by decide)
  have HV := hide hv
  simp only [hv] at hC1
  have HC1 := hide hC1
  clear hC1 hv
  by_cases hw : (nr : Int) = width
  case neg =>
    have z : ((nr : Int) != width) = true := by simpa using hw
    have HX := hide (show tellE width d t r m = 1 by
      have h2 : ((r.length : Int) == width) = false := by rw [HNR.out]; simpa using hw
      unfold tellE
      rw [HV.out, h2]
      rfl)
    clear hw
    (refine wp_region_quiet_bw (by kernel_rfl) (by kernel_rfl) ?_
     repeat (first | go_big_quiet_step ((go_at_call 109; exact HC1.out _)) | quiet_step ((go_at_call 109; exact HC1.out _)))
     refine wpQuiet_nil ?_
     intro wq hw'
     obtain ⟨⟨_, hbq⟩, hw''⟩ := hw'
     subst hw'')
    clear g0 g1 g2 g4
    go_wp2
    go_ret2
    exact HBAD.out _ (bstep hB0 hbq) 1 HX.out (by decide)
  have z : ((nr : Int) != width) = false := by simpa using hw
  have HX := hide (show tellE width d t r m = if look d r + m < 0 then 10 else if okBag (putB d r m) then 0 else 4 by
    have h2 : ((r.length : Int) == width) = true := by rw [HNR.out]; simpa using hw
    unfold tellE
    rw [HV.out, h2]
    rfl)
  clear hw
  (refine wp_region_quiet_bw (by kernel_rfl) (by kernel_rfl) ?_
   repeat (first | go_big_quiet_step ((go_at_call 109; exact HC1.out _)) | quiet_step ((go_at_call 109; exact HC1.out _)))
   refine wpQuiet_nil ?_
   intro wq hw'
   obtain ⟨⟨_, hbq⟩, hw''⟩ := hw'
   subst hw'')
  obtain ⟨W1, hW1⟩ : ∃ W1, W1 = wq := ⟨_, rfl⟩
  rw [← hW1] at hbq ⊢
  clear hW1 g0 g1 g2 g4 z HC1
  have hBw := bstep hB0 hbq
  have kb1 := kb0.below hbq kb0.lt
  clear hB0 hbq kb0 hu0
  obtain ⟨_, hokr, hnm⟩ := okCh_in HV.out
  have hm := (numB_ne hnm).2
  have hasc := okBag_asc HK.out.bag
  have hz0 : ∀ x ∈ d, x.2 ≠ 0 := fun x hx => (numB_ne (hasc.2.1 x hx)).1
  have HPA := hide (look_putA (m := m) hasc.1 hz0 hokr)
  have HOR := hide hokr
  have hn4 : n ≤ 400 := by
    have h6 := hasc.2.2
    rw [← HD.out, dat_len, HLN.out] at h6
    omega
  have hr8 : nr ≤ 8 := by
    have h7 := okR_len hokr
    rw [HNR.out] at h7
    omega
  have HNUM := hide (show ∀ x ∈ d, -4000000000000 ≤ x.2 ∧ x.2 ≤ 4000000000000 from fun x hx => by have := (numB_ne (hasc.2.1 x hx)).2; omega)
  have HROW := hide (show ∀ x ∈ d, x.1.length ≤ 1000 from fun x hx => by have := okR_len (hasc.1.ok x hx); omega)
  clear hasc hz0 hokr hnm
  go_wp2_with fail
  have hu1 := HU.out W1 hBw
  refine Held.begin (fun y => y.cell? ⟨b, 5, none⟩ = some (.slice A n c) ∧ y.cell? ⟨bc, 1, none⟩ = some (.slice Ar nr cr) ∧ y.cell? ⟨bc, 2, none⟩ = some (.int .i64 m)) 100 (by kernel_rfl) ?_
  obtain ⟨X1, hX1⟩ : ∃ X1, W1.drew = X1 := ⟨_, rfl⟩
  have hD : Below W1.heap.size W1 X1 := by rw [← hX1]; exact (Below.refl _ _).drew
  rw [hX1]
  have hBx := bstep hBw hD
  have kb3 := kb1.below hD kb1.lt
  have hu3 := HU.out X1 hBx
  have hS : X1.cell? ⟨b, 5, none⟩ = some (.slice A n c) ∧ X1.cell? ⟨bc, 1, none⟩ = some (.slice Ar nr cr) ∧ X1.cell? ⟨bc, 2, none⟩ = some (.int .i64 m) := ⟨by simpa using hu3.blk.cell 5, by simpa using kb3.cell 1, by simpa using kb3.cell 2⟩
  clear hX1 hD hBw kb1 hu1
  refine Held.take (i := 0) (.pointer (some ⟨b, 0, none⟩)) rfl hS (by kernel_rfl) (by kernel_rfl) (by kernel_rfl) (by kernel_rfl) (fun _ _ _ h => h) rfl (fun y hy => by obtain ⟨x1, x2, x3⟩ := hy; go_simp) ?_
  try simp only [Act.put]
  refine Held.take (i := 1) (.pointer (some ⟨b, 0, none⟩)) rfl hS (by kernel_rfl) (by kernel_rfl) (by kernel_rfl) (by kernel_rfl) (fun _ _ _ h => h) rfl (fun y hy => by obtain ⟨x1, x2, x3⟩ := hy; go_simp) ?_
  try simp only [Act.put]
  refine Held.take (i := 2) (.pointer (some ⟨b, 5, none⟩)) rfl hS (by kernel_rfl) (by kernel_rfl) (by kernel_rfl) (by kernel_rfl) (fun _ _ _ h => h) rfl (fun y hy => by obtain ⟨x1, x2, x3⟩ := hy; go_simp) ?_
  try simp only [Act.put]
  refine Held.take (i := 3) (.slice A n c) rfl hS (by kernel_rfl) (by kernel_rfl) (by kernel_rfl) (by kernel_rfl) (fun _ _ _ h => h) rfl (fun y hy => by obtain ⟨x1, x2, x3⟩ := hy; go_simp) ?_
  try simp only [Act.put]
  refine Held.take (i := 4) (.pointer (some ⟨bc, 1, none⟩)) rfl hS (by kernel_rfl) (by kernel_rfl) (by kernel_rfl) (by kernel_rfl) (fun _ _ _ h => h) rfl (fun y hy => by obtain ⟨x1, x2, x3⟩ := hy; go_simp) ?_
  try simp only [Act.put]
  refine Held.take (i := 5) (.slice Ar nr cr) rfl hS (by kernel_rfl) (by kernel_rfl) (by kernel_rfl) (by kernel_rfl) (fun _ _ _ h => h) rfl (fun y hy => by obtain ⟨x1, x2, x3⟩ := hy; go_simp) ?_
  try simp only [Act.put]
  refine Held.take (i := 6) (.pointer (some ⟨bc, 2, none⟩)) rfl hS (by kernel_rfl) (by kernel_rfl) (by kernel_rfl) (by kernel_rfl) (fun _ _ _ h => h) rfl (fun y hy => by obtain ⟨x1, x2, x3⟩ := hy; go_simp) ?_
  try simp only [Act.put]
  refine Held.take (i := 7) (.int .i64 m) rfl hS (by kernel_rfl) (by kernel_rfl) (by kernel_rfl) (by kernel_rfl) (fun _ _ _ h => h) rfl (fun y hy => by obtain ⟨x1, x2, x3⟩ := hy; go_simp) ?_
  try simp only [Act.put]
  refine Held.one (i := 8) rfl (by kernel_rfl) rfl (fun K hK => ?_)
  unfold Oper.wp
  go_simp
  have hP := RPut_any A n c l Ar nr cr r m X1 hu3.all (by omega) (HRW.out X1 hBx) (by omega) (by rw [HD.out]; exact HROW.out) (by rw [HD.out]; exact HNUM.out) (by omega)
  rw [HD.out] at hP
  refine hP.mono ?_
  rintro e X2 ⟨A1, n1, c1, l1, rfl, hl1, hbg1, hcp1, hB4⟩
  have HL1 := hide hl1
  have hBy := bstep hBx hB4
  have kb4 := kb3.below hB4 kb3.lt
  have hu4 := HU.out X2 hBy
  have hS : X2.cell? ⟨b, 5, none⟩ = some (.slice A n c) ∧ X2.cell? ⟨bc, 1, none⟩ = some (.slice Ar nr cr) ∧ X2.cell? ⟨bc, 2, none⟩ = some (.int .i64 m) := ⟨by simpa using hu4.blk.cell 5, by simpa using kb4.cell 1, by simpa using kb4.cell 2⟩
  refine hK _ _ (fun _ => hS) ?_
  try simp only [Act.put]
  clear hK K hB4 hBx kb3 hu3 hl1
  refine Held.take (i := 9) (.slice A1 n1 c1) rfl hS (by kernel_rfl) (by kernel_rfl) (by kernel_rfl) (by kernel_rfl) (fun _ _ _ h => h) rfl (fun y hy => by obtain ⟨x1, x2, x3⟩ := hy; go_simp) ?_
  try simp only [Act.put]
  refine Held.done (by kernel_rfl) ?_
  obtain ⟨lk, hlk⟩ : ∃ lk, look (putB d r m) r = lk := ⟨_, rfl⟩
  have hN := RNa_any A1 n1 c1 _ l1 Ar nr cr r X2 hbg1 (HRW.out X2 hBy) (HL1.out ▸ HPA.out.2) HOR.out
  rw [HL1.out, hlk] at hN
  have HN := hide hN
  have HX2 := hide (show tellE width d t r m = if lk < 0 then 10 else if okBag (putB d r m) then 0 else 4 by rw [HX.out, ← HPA.out.1, hlk])
  have c1' := hS.2.1
  clear hS hN hlk
  go_wp2_with fail
  refine HN.out.mono ?_
  rintro e X3 ⟨rfl, hB5⟩
  have hBz := bstep hBy hB5
  have hbg1 := (hbg1.below hB5).mono hB5.size
  have kb5 := kb4.below hB5 kb4.lt
  clear c1' HN hBy kb4 hu4 hB5 HX HPA HOR
  by_cases hneg : lk < 0
  · have HZ := hide (show tellE width d t r m = 10 by rw [HX2.out, if_pos hneg])
    go_wp2
    go_ret2
    exact HBAD.out _ hBz 10 HZ.out (by decide)
  have HX3 := hide (show tellE width d t r m = if okBag (putB d r m) then 0 else 4 by rw [HX2.out, if_neg hneg])
  have hVd := R3Valid_any A1 n1 c1 _ l1 X3 hbg1
  rw [HL1.out] at hVd
  cases hok : okBag (putB d r m)
  · rw [hok] at hVd
    have HVd := hide hVd
    have HZ := hide (show tellE width d t r m = 4 by rw [HX3.out, hok]; rfl)
    clear hok hVd
    go_wp2_with fail
    refine HVd.out.mono ?_
    rintro e X4 ⟨rfl, hB6⟩
    have HE := hide (bstep hBz hB6)
    clear hBz hB6
    go_wp2
    go_ret2
    exact HBAD.out _ HE.out 4 HZ.out (by decide)
  rw [hok] at hVd
  have HVd := hide hVd
  have HZ := hide (show tellE width d t r m = 0 by rw [HX3.out, hok]; rfl)
  have HOK := hide hok
  clear hok hVd HX2 HX3
  go_wp2_with fail
  refine HVd.out.mono ?_
  rintro e X4 ⟨rfl, hB6⟩
  clear hneg
  have hBu := bstep hBz hB6
  have hbg1 := (hbg1.below hB6).mono hB6.size
  have kb6 := kb5.below hB6 kb5.lt
  clear HVd hBz kb5 hB6
  have hk2 := HK.out.put HZ.out
  have HK2 := hide hk2
  have HAS2 := hide (ask_ok hk2.ask)
  have HAS1 := hide (ask_ok HK.out.ask)
  have hln1 : n1 ≤ 1000 := by
    have h6 := (okBag_asc HOK.out).2.2
    rw [← HL1.out, dat_len, hbg1.len] at h6
    omega
  clear hk2
  go_wp2_with fail
  refine Held.begin (fun y => y.cell? ⟨b, 0, none⟩ = some (.slice k.A k.n k.c) ∧ y.cell? ⟨b, 1, none⟩ = some (.slice k.A' k.n' k.c') ∧ y.cell? ⟨b, 2, none⟩ = some (.bool s.dn) ∧ y.cell? ⟨b, 3, none⟩ = some (.int .i64 s.n) ∧ y.cell? ⟨b, 5, none⟩ = some (.slice A n c)) 100 (by kernel_rfl) ?_
  obtain ⟨X5, hX5⟩ : ∃ X5, X4.drew = X5 := ⟨_, rfl⟩
  have hD : Below X4.heap.size X4 X5 := by rw [← hX5]; exact (Below.refl _ _).drew
  rw [hX5]
  have hBv := bstep hBu hD
  have kb7 := kb6.below hD kb6.lt
  have hbg1 := (hbg1.below hD).mono hD.size
  have HSS := hide (show ∀ (X : World), RkR X b k s width A n c l → X.cell? ⟨b, 0, none⟩ = some (.slice k.A k.n k.c) ∧ X.cell? ⟨b, 1, none⟩ = some (.slice k.A' k.n' k.c') ∧ X.cell? ⟨b, 2, none⟩ = some (.bool s.dn) ∧ X.cell? ⟨b, 3, none⟩ = some (.int .i64 s.n) ∧ X.cell? ⟨b, 5, none⟩ = some (.slice A n c) from
    fun X hu => ⟨hu.box.c0, hu.box.c1, hu.box.c2, hu.box.c3, by simpa using hu.blk.cell 5⟩)
  have hu7 := HU.out X5 hBv
  have hS := HSS.out X5 hu7
  clear hX5 hD hBu kb6
  refine Held.take (i := 0) (.pointer (some ⟨b, 0, none⟩)) rfl hS (by kernel_rfl) (by kernel_rfl) (by kernel_rfl) (by kernel_rfl) (fun _ _ _ h => h) rfl (fun y hy => by obtain ⟨x1, x2, x3, x4, x5⟩ := hy; go_simp) ?_
  try simp only [Act.put]
  refine Held.take (i := 1) (.pointer (some ⟨b, 0, none⟩)) rfl hS (by kernel_rfl) (by kernel_rfl) (by kernel_rfl) (by kernel_rfl) (fun _ _ _ h => h) rfl (fun y hy => by obtain ⟨x1, x2, x3, x4, x5⟩ := hy; go_simp) ?_
  try simp only [Act.put]
  refine Held.take (i := 2) (.pointer (some ⟨b, 0, none⟩)) rfl hS (by kernel_rfl) (by kernel_rfl) (by kernel_rfl) (by kernel_rfl) (fun _ _ _ h => h) rfl (fun y hy => by obtain ⟨x1, x2, x3, x4, x5⟩ := hy; go_simp) ?_
  try simp only [Act.put]
  refine Held.take (i := 3) (.agg #[.slice k.A k.n k.c, .slice k.A' k.n' k.c', .bool s.dn, .int .i64 s.n]) rfl hS (by kernel_rfl) (by kernel_rfl) (by kernel_rfl) (by kernel_rfl) (fun _ _ _ h => h) rfl (fun y hy => by obtain ⟨x1, x2, x3, x4, x5⟩ := hy; go_simp) ?_
  try simp only [Act.put]
  refine Held.take (i := 4) (.slice A1 n1 c1) rfl hS (by kernel_rfl) (by kernel_rfl) (by kernel_rfl) (by kernel_rfl) (fun _ _ _ h => h) rfl (fun y hy => by obtain ⟨x1, x2, x3, x4, x5⟩ := hy; go_simp) ?_
  try simp only [Act.put]
  refine Held.take (i := 6) (.pointer (some ⟨b, 0, none⟩)) rfl hS (by kernel_rfl) (by kernel_rfl) (by kernel_rfl) (by kernel_rfl) (fun _ _ _ h => h) rfl (fun y hy => by obtain ⟨x1, x2, x3, x4, x5⟩ := hy; go_simp) ?_
  try simp only [Act.put]
  refine Held.take (i := 7) (.pointer (some ⟨b, 0, none⟩)) rfl hS (by kernel_rfl) (by kernel_rfl) (by kernel_rfl) (by kernel_rfl) (fun _ _ _ h => h) rfl (fun y hy => by obtain ⟨x1, x2, x3, x4, x5⟩ := hy; go_simp) ?_
  try simp only [Act.put]
  refine Held.take (i := 8) (.pointer (some ⟨b, 0, none⟩)) rfl hS (by kernel_rfl) (by kernel_rfl) (by kernel_rfl) (by kernel_rfl) (fun _ _ _ h => h) rfl (fun y hy => by obtain ⟨x1, x2, x3, x4, x5⟩ := hy; go_simp) ?_
  try simp only [Act.put]
  refine Held.take (i := 9) (.agg #[.slice k.A k.n k.c, .slice k.A' k.n' k.c', .bool s.dn, .int .i64 s.n]) rfl hS (by kernel_rfl) (by kernel_rfl) (by kernel_rfl) (by kernel_rfl) (fun _ _ _ h => h) rfl (fun y hy => by obtain ⟨x1, x2, x3, x4, x5⟩ := hy; go_simp) ?_
  try simp only [Act.put]
  refine Held.take (i := 10) (.pointer (some ⟨b, 0, none⟩)) rfl hS (by kernel_rfl) (by kernel_rfl) (by kernel_rfl) (by kernel_rfl) (fun _ _ _ h => h) rfl (fun y hy => by obtain ⟨x1, x2, x3, x4, x5⟩ := hy; go_simp) ?_
  try simp only [Act.put]
  refine Held.take (i := 11) (.pointer (some ⟨b, 0, none⟩)) rfl hS (by kernel_rfl) (by kernel_rfl) (by kernel_rfl) (by kernel_rfl) (fun _ _ _ h => h) rfl (fun y hy => by obtain ⟨x1, x2, x3, x4, x5⟩ := hy; go_simp) ?_
  try simp only [Act.put]
  refine Held.take (i := 12) (.pointer (some ⟨b, 5, none⟩)) rfl hS (by kernel_rfl) (by kernel_rfl) (by kernel_rfl) (by kernel_rfl) (fun _ _ _ h => h) rfl (fun y hy => by obtain ⟨x1, x2, x3, x4, x5⟩ := hy; go_simp) ?_
  try simp only [Act.put]
  refine Held.take (i := 13) (.slice A n c) rfl hS (by kernel_rfl) (by kernel_rfl) (by kernel_rfl) (by kernel_rfl) (fun _ _ _ h => h) rfl (fun y hy => by obtain ⟨x1, x2, x3, x4, x5⟩ := hy; go_simp) ?_
  try simp only [Act.put]
  refine Held.one (i := 5) rfl (by kernel_rfl) rfl (fun K hK => ?_)
  unfold Oper.wp
  go_simp
  have hT1 := rtop_any k s width A1 n1 c1 l1 X5 (hu7.set.more (Nat.le_of_lt hu7.lt)) hbg1 hln1 (HL1.out ▸ HAS2.out)
  rw [HL1.out] at hT1
  unfold Sk.v at hT1
  refine hT1.mono ?_
  rintro e X6 ⟨A2, n2, c2, l2, rfl, hl2, hbg2, hcp2, hB8⟩
  have HL2 := hide hl2
  have hBy := bstep hBv hB8
  have hbg1 := (hbg1.below hB8).mono hB8.size
  have kb8 := kb7.below hB8 kb7.lt
  have hu8 := HU.out X6 hBy
  have hS := HSS.out X6 hu8
  refine hK _ _ (fun _ => hS) ?_
  try simp only [Act.put]
  clear hK K hB8 hBv kb7 hu7 hl2
  refine Held.one (i := 14) rfl (by kernel_rfl) rfl (fun K hK => ?_)
  unfold Oper.wp
  go_simp
  have hT2 := rtop_any k s width A n c l X6 (hu8.set.more (Nat.le_of_lt hu8.lt)) hu8.all (by omega) (HD.out ▸ HAS1.out)
  rw [HD.out] at hT2
  unfold Sk.v at hT2
  refine hT2.mono ?_
  rintro e X7 ⟨A3, n3, c3, l3, rfl, hl3, hbg3, hcp3, hB9⟩
  have HL3 := hide hl3
  have hBz := bstep hBy hB9
  have hbg1 := (hbg1.below hB9).mono hB9.size
  have hbg2 := (hbg2.below hB9).mono hB9.size
  have kb9 := kb8.below hB9 kb8.lt
  have hu9 := HU.out X7 hBz
  have hS := HSS.out X7 hu9
  refine hK _ _ (fun _ => hS) ?_
  try simp only [Act.put]
  clear hK K hB9 hBy kb8 hu8 hl3
  refine Held.one (i := 15) rfl (by kernel_rfl) rfl (fun K hK => ?_)
  unfold Oper.wp
  go_simp
  have hPl := RPlus_any A2 n2 c2 l2 A3 n3 c3 l3 (-1) X7 hbg2 hbg3 (by rw [HL2.out]; exact HK2.out.top.1) (by rw [HL3.out]; exact HK.out.top.1) (by omega)
  rw [HL2.out, HL3.out] at hPl
  refine hPl.mono ?_
  rintro e X8 ⟨A4, n4, c4, l4, rfl, hl4, hbg4, hcp4, hB10⟩
  have HL4 := hide hl4
  have hBt := bstep hBz hB10
  have hbg1 := (hbg1.below hB10).mono hB10.size
  have kb10 := kb9.below hB10 kb9.lt
  have hu10 := HU.out X8 hBt
  have hS := HSS.out X8 hu10
  refine hK _ _ (fun _ => hS) ?_
  try simp only [Act.put]
  clear hK K hB10 hBz kb9 hu9 hl4
  refine Held.take (i := 16) (.slice A4 n4 c4) rfl hS (by kernel_rfl) (by kernel_rfl) (by kernel_rfl) (by kernel_rfl) (fun _ _ _ h => h) rfl (fun y hy => by obtain ⟨x1, x2, x3, x4, x5⟩ := hy; go_simp) ?_
  try simp only [Act.put]
  refine Held.done (by kernel_rfl) ?_
  have c5 : X8.cell? ⟨b, 5, none⟩ = some (.slice A n c) := hS.2.2.2.2
  have f5 := hu10.blk.frozen 5
  have hv5 := hu10.set5 hbg1 hcp1
  have hp5 := Turn.spot c5 (by intro k m e; rw [show (5 : Nat) + 1 = 6 from rfl, show X8.cell? ⟨b, 6, none⟩ = none from hu10.blk.cell 6] at e; cases e) (.slice A1 n1 c1)
  have c0t : (X8.setCell ⟨b, 5, none⟩ (.slice A1 n1 c1)).cell? ⟨bc, 0, none⟩ = some (.int .i64 t) := hp5.keep _ _ (by simpa using kb10.cell 0) nofun
  have hM := RMade_any A4 n4 c4 l4 t (X8.setCell ⟨b, 5, none⟩ (.slice A1 n1 c1)) (hbg4.turn hp5) (by rw [HL4.out]; exact HK.out.diff HK2.out (by omega))
  rw [HL4.out] at hM
  have HM := hide hM
  have HV5 := hide hv5
  have HT := hide ((Turn.of_below (X := [b]) hBt).trans hp5)
  clear hM hv5 hp5 hS hu10 hbg1 hbg2 hbg3 hbg4 hBt kb10
  go_wp2_with fail
  refine HM.out.mono ?_
  rintro e X9 ⟨A5, n5, c5', lc, rfl, ⟨hlc, hlt⟩, hchg, hB11⟩
  have HLC := hide (show lc.map (fun (i : Ch) => (i.r, i.m)) = plusB (topB s (putB d r m)) (topB s d) (-1) from hlc)
  have HLT := hide hlt
  have HTT := hide (HT.out.below hB11)
  have HU5 := hide (HV5.out.up hB11)
  clear hlc hlt hB11
  go_wp2
  go_ret2
  have hD2 : tellD width d t r m = putB d r m := by unfold tellD; rw [if_pos HZ.out]
  have hC2 : tellC s width d t r m = plusB (topB s (putB d r m)) (topB s d) (-1) := by unfold tellC; rw [if_pos HZ.out]
  exact ⟨A5, n5, c5', lc, by rw [HZ.out]; rfl, ⟨by rw [hC2]; exact HLC.out, HLT.out⟩, hchg, HTT.out, A1, n1, c1, l1, HU5.out, by rw [hD2]; exact HL1.out⟩
end Go.Proofs.YtljglceaibgknaaGreatDoor
