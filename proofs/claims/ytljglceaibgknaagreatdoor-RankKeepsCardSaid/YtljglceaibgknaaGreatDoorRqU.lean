/-
  The walk of a ranker's Tell. No condition.
-/
import Derived.Test.YtljglceaibgknaaGreatDoorTrn
import Derived.Test.YtljglceaibgknaaGreatDoorRqS
import Derived.Test.YtljglceaibgknaaGreatDoorMade
import Derived.Test.YtljglceaibgknaaGreatDoorBgT6
namespace Go.Proofs.YtljglceaibgknaaGreatDoor
open Go.RowKit
attribute [local go_sem] Oper.semAt_some wide_fn wide_depth
set_option linter.unusedVariables false
set_option linter.unusedSimpArgs false

theorem SetK.turn {X : List Nat} {w w' : World} {k : Sk} {s : Stp} (h : SetK w w.heap.size k s) (ht : Turn X w w') : SetK w' w'.heap.size k s :=
  ⟨h.p.turn (fun u hu => by obtain ⟨y, _, rfl⟩ := List.mem_map.1 hu; exact nofun) ht, h.b.turn (fun u hu => by obtain ⟨y, _, rfl⟩ := List.mem_map.1 hu; exact nofun) ht, h.np, h.nb⟩
/-- What Tell hands back, and what it makes of the ranker. -/
def RetTell (s : Stp) (width : Int) (b : Nat) (k : Sk) (d : Bg) (t : Int) (r : Rw) (m : Int) (w : World) (e : Ending) (w' : World) : Prop :=
  ∃ A0 n0 c0 lc, e = .returned (.tuple #[.slice A0 n0 c0, .int .i64 (tellE width d t r m)]) ∧ (lc.map (fun (i : Ch) => (i.r, i.m)) = tellC s width d t r m ∧ ∀ i ∈ lc, i.t = t) ∧ ChgR w' w'.heap.size A0 n0 lc ∧ Turn [b] w w' ∧
    ∃ A n c l A' n' c' l', RkB w' b k s width A n c l A' n' c' l' ∧ dat l = tellD width d t r m ∧ dat l' = topB s (tellD width d t r m)
theorem tell_bad {b : Nat} {k : Sk} {s : Stp} {width : Int} {A A' : Option Addr} {n c n' c' : Nat} {l l' : List It} {d : Bg} {t : Int} {r : Rw} {m : Int} {w w1 : World} (h : RkB w b k s width A n c l A' n' c' l') (hd : dat l = d) (hd' : dat l' = topB s d)
    (hB : Below w.heap.size w w1) {err : Int} (he : tellE width d t r m = err) (h0 : err ≠ 0) : RetTell s width b k d t r m w (.returned (.tuple #[.slice none 0 0, .int .i64 err])) w1 := by
  have hD : tellD width d t r m = d := by unfold tellD; rw [if_neg (by rw [he]; exact h0)]
  have hC : tellC s width d t r m = [] := by unfold tellC; rw [if_neg (by rw [he]; exact h0)]
  refine ⟨none, 0, 0, [], by rw [he], ⟨by rw [hC]; rfl, nofun⟩, ChgR.nil _ _, Turn.of_below hB, A, n, c, l, A', n', c', l', h.up hB, by rw [hD, hd], by rw [hD, hd']⟩
theorem chg_one {w : World} {t : Int} {Ar : Option Addr} {nr cr : Nat} {r : Rw} {m : Int} (hr : RowK w w.heap.size Ar nr r) :
    ChgR (w.alloc (.cells #[.int .i64 t, .slice Ar nr cr, .int .i64 m] 82)) (w.alloc (.cells #[.int .i64 t, .slice Ar nr cr, .int .i64 m] 82)).heap.size (some ⟨w.heap.size, 0, none⟩) 1 [⟨t, Ar, nr, cr, r, m⟩] :=
  ⟨⟨rfl, fun _ => ⟨w.heap.size, 0, rfl, by simp, fun j u hu => by
    rw [Nat.zero_add, (Blk.new w 82 #[.int .i64 t, .slice Ar nr cr, .int .i64 m]).cell]
    simpa [encCh] using hu⟩⟩, fun i hi => by
    obtain rfl : i = ⟨t, Ar, nr, cr, r, m⟩ := by simpa using hi
    exact (hr.below ((Below.refl _ _).alloc (Nat.le_refl _) _)).mono (by simp), by omega⟩
theorem apply_one {d : Bg} {t : Int} {Ar : Option Addr} {nr cr : Nat} {r : Rw} {m : Int} (hd : okBag d = true) (hc : okCh t r m = true) : applyB d [⟨t, Ar, nr, cr, r, m⟩] = toldB (putB d r m) := by
  unfold applyB
  have : okChs [(⟨t, Ar, nr, cr, r, m⟩ : Ch)] = true := by
    unfold okChs chV
    simp [hc]
  rw [hd, this]
  rfl
theorem diff_told {a b : Bg} {T : Int} (ha : okBag a = true) (hb : okBag b = true) (hT : btw T (-1000000000000) 1000000000000 = true) (hk : okBag (plusB b a (-1)) = true) : diffB a b T = (plusB b a (-1), 0) := by
  unfold diffB toldB
  rw [ha, hb, hT, diff_eq ha hb, hk]
  rfl
set_option maxRecDepth 100000 in
set_option maxHeartbeats 16000000 in
theorem Tell_any {b : Nat} {k : Sk} {s : Stp} {width : Int} {A A' : Option Addr} {n c n' c' : Nat} {l l' : List It} {d : Bg} {q : Nat} (t : Int) (Ar : Option Addr) (nr cr : Nat) (r : Rw) (m : Int) (w : World)
    (h : RkB w b k s width A n c l A' n' c' l') (hd : dat l = d) (hd' : dat l' = topB s d) (hk : Kept s width d q) (hq : 2 * q + 1 ≤ 400) (hr : RowK w w.heap.size Ar nr r) (ht : Tab w) :
    Calls Tryz.prog 42 #[.pointer (some ⟨b, 0, none⟩), .agg #[.int .i64 t, .slice Ar nr cr, .int .i64 m]] w (RetTell s width b k d t r m w) := by
  have HBAD := hide (fun (w1 : World) (hB : Below w.heap.size w w1) (err : Int) (he : tellE width d t r m = err) (h0 : err ≠ 0) => tell_bad h hd hd' hB he h0)
  have HU := hide (fun (X : World) (hX : Below w.heap.size w X) => h.up hX)
  have HRW := hide (fun (X : World) (hX : Below w.heap.size w X) => (hr.below hX).mono hX.size)
  have HTB := hide (fun (X : World) (hX : Below w.heap.size w X) => ht.below hX)
  have HK := hide hk
  have HD := hide hd
  have HD' := hide hd'
  have HNR := hide hr.len
  have hnr := hr.le
  have hbw := h.lt
  have hB0 := below_val (w := w) #[.int .i64 t, .slice Ar nr cr, .int .i64 m] 82
  have kb0 := Blk.new w 82 #[.int .i64 t, .slice Ar nr cr, .int .i64 m]
  obtain ⟨E, hE⟩ : ∃ E, tellE width d t r m = E := ⟨_, rfl⟩
  have HE := hide hE
  clear h hd hd' hk hr ht hE
  go_enter Tryz.func42, Tryz.ntmps42
  go_upto_region 1 with fail
  obtain ⟨W0, hW0⟩ : ∃ W0, w.alloc (.cells #[.int .i64 t, .slice Ar nr cr, .int .i64 m] 82) = W0 := ⟨_, rfl⟩
  obtain ⟨bc, hbc⟩ : ∃ bc, w.heap.size = bc := ⟨_, rfl⟩
  rw [hW0] at hB0 kb0 ⊢
  rw [hbc] at kb0 hbw ⊢
  clear hW0
  have hu0 := HU.out W0 hB0
  have g0 := fun (p : BW W0) => BW.cell (a := ⟨bc, 0, none⟩) kb0.lt (by simpa using kb0.cell 0) p
  have g1 := fun (p : BW W0) => BW.cell (a := ⟨bc, 1, none⟩) kb0.lt (by simpa using kb0.cell 1) p
  have g2 := fun (p : BW W0) => BW.cell (a := ⟨bc, 2, none⟩) kb0.lt (by simpa using kb0.cell 2) p
  have g4 := fun (p : BW W0) => BW.cell (a := ⟨b, 4, none⟩) hu0.lt (by simpa using hu0.blk.cell 4) p
  have hC1 := fun (p : BW W0) => calls_bw (p := p) (ValidChange_any t Ar nr cr r m p.x (HRW.out p.x (bstep hB0 p.h)))
  cases hv : okCh t r m
  · simp only [hv] at hC1
    have HC1 := hide hC1
    have HX := hide (show tellE width d t r m = 1 by unfold tellE; rw [hv]; rfl)
    clear hC1 hv
    (refine wp_region_quiet_bw (by kernel_rfl) (by kernel_rfl) ?_
     repeat (first | go_big_quiet_step ((go_at_call 105; exact HC1.out _)) | quiet_step ((go_at_call 105; exact HC1.out _)))
     refine wpQuiet_nil ?_
     intro wq hw'
     obtain ⟨⟨_, hbq⟩, hw''⟩ := hw'
     subst hw'')
    clear g0 g1 g2 g4
    go_wp2
    go_ret2
    exact HBAD.out _ (bstep hB0 hbq) 1 HX.out (by decide)
  have HV := hide hv
  simp only [hv] at hC1
  have HC1 := hide hC1
  clear hC1 hv
  by_cases hw : (nr : Int) = width
  case neg =>
    have z : ((nr : Int) != width) = true := by simpa using hw
    have HX := hide (show tellE width d t r m = 1 by
      have h2 : ((r.length : Int) == width) = false := by rw [HNR.out]; simpa using hw
      unfold tellE
      rw [HV.out, h2]
      rfl)
    clear hw
    (refine wp_region_quiet_bw (by kernel_rfl) (by kernel_rfl) ?_
     repeat (first | go_big_quiet_step ((go_at_call 105; exact HC1.out _)) | quiet_step ((go_at_call 105; exact HC1.out _)))
     refine wpQuiet_nil ?_
     intro wq hw'
     obtain ⟨⟨_, hbq⟩, hw''⟩ := hw'
     subst hw'')
    clear g0 g1 g2 g4
    go_wp2
    go_ret2
    exact HBAD.out _ (bstep hB0 hbq) 1 HX.out (by decide)
  have z : ((nr : Int) != width) = false := by simpa using hw
  have HX := hide (show tellE width d t r m = if look d r + m < 0 then 10 else if okBag (putB d r m) then 0 else 4 by
    have h2 : ((r.length : Int) == width) = true := by rw [HNR.out]; simpa using hw
    unfold tellE
    rw [HV.out, h2]
    rfl)
  clear hw
  (refine wp_region_quiet_bw (by kernel_rfl) (by kernel_rfl) ?_
   repeat (first | go_big_quiet_step ((go_at_call 105; exact HC1.out _)) | quiet_step ((go_at_call 105; exact HC1.out _)))
   refine wpQuiet_nil ?_
   intro wq hw'
   obtain ⟨⟨_, hbq⟩, hw''⟩ := hw'
   subst hw'')
  obtain ⟨W1, hW1⟩ : ∃ W1, W1 = wq := ⟨_, rfl⟩
  rw [← hW1] at hbq ⊢
  clear hW1 g0 g1 g2 g4 z HC1
  have hBw := bstep hB0 hbq
  have kb1 := kb0.below hbq kb0.lt
  clear hB0 hbq kb0 hu0
  go_wp2_with fail
  have hu1 := HU.out W1 hBw
  obtain ⟨_, hokr, hnm⟩ := okCh_in HV.out
  have hm := (numB_ne hnm).2
  have hlk : cntB d r = look d r := by unfold cntB; rw [HK.out.bag, hokr]; rfl
  have hlb := look_pos (b := d) (fun x hx => ⟨HK.out.pos x hx, (numB_ne ((okBag_asc HK.out.bag).2.1 x hx)).2.2⟩) r
  obtain ⟨lk, hlk2⟩ : ∃ lk, look d r = lk := ⟨_, rfl⟩
  rw [hlk2] at hlk hlb
  have hC2 := fun (p : BW W1) => calls_bw (p := p) (Count_any A n c p.x.heap.size l Ar nr cr r p.x ((hu1.up p.h).all) (HRW.out p.x (bstep hBw p.h)) (Nat.le_refl _))
  simp only [HD.out, hlk] at hC2
  have HC2 := hide hC2
  have HLK := hide hlk2
  have zs : IntKind.i64.wrap (lk + m) = lk + m := IntWalk.i64_in _ (by omega)
  have g1 := fun (p : BW W1) => BW.cell (a := ⟨bc, 1, none⟩) kb1.lt (by simpa using kb1.cell 1) p
  have g2 := fun (p : BW W1) => BW.cell (a := ⟨bc, 2, none⟩) kb1.lt (by simpa using kb1.cell 2) p
  have g5 := fun (p : BW W1) => BW.cell (a := ⟨b, 5, none⟩) hu1.lt (by simpa using hu1.blk.cell 5) p
  clear hC2 hlk hlk2 hokr hnm
  by_cases hneg : lk + m < 0
  · have z : decide (lk + m < 0) = true := by simpa using hneg
    have HY := hide (show tellE width d t r m = 10 by rw [HX.out, HLK.out, if_pos hneg])
    clear hneg
    (refine wp_region_quiet_bw (by kernel_rfl) (by kernel_rfl) ?_
     repeat (first | go_big_quiet_step ((go_at_call 106; exact HC2.out _)) | quiet_step ((go_at_call 106; exact HC2.out _)))
     refine wpQuiet_nil ?_
     intro wq hw'
     obtain ⟨⟨_, hbq⟩, hw''⟩ := hw'
     subst hw'')
    clear g1 g2 g5
    go_wp2
    go_ret2
    exact HBAD.out _ (bstep hBw hbq) 10 HY.out (by decide)
  have z : decide (lk + m < 0) = false := by simpa using hneg
  have HY := hide (show tellE width d t r m = if okBag (putB d r m) then 0 else 4 by rw [HX.out, HLK.out, if_neg hneg])
  clear hneg
  (refine wp_region_quiet_bw (by kernel_rfl) (by kernel_rfl) ?_
   repeat (first | go_big_quiet_step ((go_at_call 106; exact HC2.out _)) | quiet_step ((go_at_call 106; exact HC2.out _)))
   refine wpQuiet_nil ?_
   intro wq hw'
   obtain ⟨⟨_, hbq⟩, hw''⟩ := hw'
   subst hw'')
  obtain ⟨W2, hW2⟩ : ∃ W2, W2 = wq := ⟨_, rfl⟩
  rw [← hW2] at hbq ⊢
  clear hW2 g1 g2 g5 z zs HC2 HX hlb hm
  have hBw := bstep hBw hbq
  have kb2 := kb1.below hbq kb1.lt
  clear hbq kb1 hu1
  go_wp2_with fail
  have hu2 := HU.out W2 hBw
  refine Held.begin (fun y => y.cell? ⟨b, 5, none⟩ = some (.slice A n c) ∧ y.cell? ⟨bc, 0, none⟩ = some (.int .i64 t) ∧ y.cell? ⟨bc, 1, none⟩ = some (.slice Ar nr cr) ∧ y.cell? ⟨bc, 2, none⟩ = some (.int .i64 m)) 100 (by kernel_rfl) ?_
  obtain ⟨X1, hX1⟩ : ∃ X1, W2.drew = X1 := ⟨_, rfl⟩
  have hD : Below W2.heap.size W2 X1 := by rw [← hX1]; exact (Below.refl _ _).drew
  rw [hX1]
  have hBx := bstep hBw hD
  have kb3 := kb2.below hD kb2.lt
  have hu3 := HU.out X1 hBx
  have hS : X1.cell? ⟨b, 5, none⟩ = some (.slice A n c) ∧ X1.cell? ⟨bc, 0, none⟩ = some (.int .i64 t) ∧ X1.cell? ⟨bc, 1, none⟩ = some (.slice Ar nr cr) ∧ X1.cell? ⟨bc, 2, none⟩ = some (.int .i64 m) := ⟨by simpa using hu3.blk.cell 5, by simpa using kb3.cell 0, by simpa using kb3.cell 1, by simpa using kb3.cell 2⟩
  clear hX1 hD hBw kb2 hu2
  refine Held.take (i := 0) (.pointer (some ⟨b, 0, none⟩)) rfl hS (by kernel_rfl) (by kernel_rfl) (by kernel_rfl) (by kernel_rfl) (fun _ _ _ h => h) rfl (fun y hy => by obtain ⟨x1, x2, x3, x4⟩ := hy; go_simp) ?_
  try simp only [Act.put]
  refine Held.take (i := 1) (.pointer (some ⟨b, 0, none⟩)) rfl hS (by kernel_rfl) (by kernel_rfl) (by kernel_rfl) (by kernel_rfl) (fun _ _ _ h => h) rfl (fun y hy => by obtain ⟨x1, x2, x3, x4⟩ := hy; go_simp) ?_
  try simp only [Act.put]
  refine Held.take (i := 2) (.pointer (some ⟨b, 5, none⟩)) rfl hS (by kernel_rfl) (by kernel_rfl) (by kernel_rfl) (by kernel_rfl) (fun _ _ _ h => h) rfl (fun y hy => by obtain ⟨x1, x2, x3, x4⟩ := hy; go_simp) ?_
  try simp only [Act.put]
  refine Held.take (i := 3) (.slice A n c) rfl hS (by kernel_rfl) (by kernel_rfl) (by kernel_rfl) (by kernel_rfl) (fun _ _ _ h => h) rfl (fun y hy => by obtain ⟨x1, x2, x3, x4⟩ := hy; go_simp) ?_
  try simp only [Act.put]
  refine Held.take (i := 4) (.agg #[.int .i64 t, .slice Ar nr cr, .int .i64 m]) rfl hS (by kernel_rfl) (by kernel_rfl) (by kernel_rfl) (by kernel_rfl) (fun _ _ _ h => h) rfl (fun y hy => by obtain ⟨x1, x2, x3, x4⟩ := hy; go_simp) ?_
  try simp only [Act.put]
  refine Held.one (i := 5) rfl (by kernel_rfl) rfl (fun K hK => ?_)
  unfold Oper.wp
  go_simp
  have hcl := chg_one (t := t) (cr := cr) (m := m) (HRW.out X1 hBx)
  have hB3 := below_val (w := X1) #[.int .i64 t, .slice Ar nr cr, .int .i64 m] 82
  have kb4 := kb3.below hB3 kb3.lt
  have hBy := bstep hBx hB3
  obtain ⟨X2, hX2⟩ : ∃ X2, X1.alloc (.cells #[.int .i64 t, .slice Ar nr cr, .int .i64 m] 82) = X2 := ⟨_, rfl⟩
  rw [hX2] at hcl kb4 hBy ⊢
  have hu4 := HU.out X2 hBy
  have hS : X2.cell? ⟨b, 5, none⟩ = some (.slice A n c) ∧ X2.cell? ⟨bc, 0, none⟩ = some (.int .i64 t) ∧ X2.cell? ⟨bc, 1, none⟩ = some (.slice Ar nr cr) ∧ X2.cell? ⟨bc, 2, none⟩ = some (.int .i64 m) := ⟨by simpa using hu4.blk.cell 5, by simpa using kb4.cell 0, by simpa using kb4.cell 1, by simpa using kb4.cell 2⟩
  refine hK _ _ (fun _ => hS) ?_
  try simp only [Act.put]
  clear hK K hB3 hBx kb3 hu3 hX2
  refine Held.one (i := 6) rfl (by kernel_rfl) rfl (fun K hK => ?_)
  unfold Oper.wp
  go_simp
  have hA := Apply_any A n c l (some ⟨X1.heap.size, 0, none⟩) 1 1 _ X2 hu4.all hcl (HTB.out X2 hBy)
  rw [HD.out, apply_one HK.out.bag HV.out] at hA
  obtain ⟨pp, hpp⟩ : ∃ pp, toldB (putB d r m) = pp := ⟨_, rfl⟩
  rw [hpp] at hA
  refine hA.mono ?_
  rintro e X3 ⟨A1, n1, c1, l1, rfl, hl1, hbg1, hcp1, hB4⟩
  obtain ⟨dd, E2⟩ := pp
  replace hl1 : dat l1 = dd := hl1
  have kb5 := kb4.below hB4 kb4.lt
  have hBz := bstep hBy hB4
  have hu5 := HU.out X3 hBz
  have hS : X3.cell? ⟨b, 5, none⟩ = some (.slice A n c) ∧ X3.cell? ⟨bc, 0, none⟩ = some (.int .i64 t) ∧ X3.cell? ⟨bc, 1, none⟩ = some (.slice Ar nr cr) ∧ X3.cell? ⟨bc, 2, none⟩ = some (.int .i64 m) := ⟨by simpa using hu5.blk.cell 5, by simpa using kb5.cell 0, by simpa using kb5.cell 1, by simpa using kb5.cell 2⟩
  refine hK _ _ (fun _ => hS) ?_
  try simp only [Act.put]
  clear hK K hB4 hBy kb4 hu4 hcl
  refine Held.take (i := 7) (.tuple #[.slice A1 n1 c1, .int .i64 E2]) rfl hS (by kernel_rfl) (by kernel_rfl) (by kernel_rfl) (by kernel_rfl) (fun _ _ _ h => h) rfl (fun y hy => by obtain ⟨x1, x2, x3, x4⟩ := hy; go_simp) ?_
  try simp only [Act.put]
  refine Held.take (i := 8) (.slice A1 n1 c1) rfl hS (by kernel_rfl) (by kernel_rfl) (by kernel_rfl) (by kernel_rfl) (fun _ _ _ h => h) rfl (fun y hy => by obtain ⟨x1, x2, x3, x4⟩ := hy; go_simp) ?_
  try simp only [Act.put]
  refine Held.take (i := 9) (.int .i64 E2) rfl hS (by kernel_rfl) (by kernel_rfl) (by kernel_rfl) (by kernel_rfl) (fun _ _ _ h => h) rfl (fun y hy => by obtain ⟨x1, x2, x3, x4⟩ := hy; go_simp) ?_
  try simp only [Act.put]
  refine Held.take (i := 10) (.slice A1 n1 c1) rfl hS (by kernel_rfl) (by kernel_rfl) (by kernel_rfl) (by kernel_rfl) (fun _ _ _ h => h) rfl (fun y hy => by obtain ⟨x1, x2, x3, x4⟩ := hy; go_simp) ?_
  try simp only [Act.put]
  refine Held.take (i := 11) (.int .i64 E2) rfl hS (by kernel_rfl) (by kernel_rfl) (by kernel_rfl) (by kernel_rfl) (fun _ _ _ h => h) rfl (fun y hy => by obtain ⟨x1, x2, x3, x4⟩ := hy; go_simp) ?_
  try simp only [Act.put]
  refine Held.done (by kernel_rfl) ?_
  clear hS
  cases hok : okBag (putB d r m)
  · have h3 : ([], 4) = (dd, E2) := by rw [← hpp]; unfold toldB; rw [hok]; rfl
    injection h3 with h3 h4
    have HZ := hide (show tellE width d t r m = E2 by rw [HY.out, hok, ← h4]; rfl)
    have z : (E2 != 0) = true := by rw [← h4]; rfl
    have hne : E2 ≠ 0 := by rw [← h4]; decide
    have HNE := hide hne
    clear hok hpp h3 h4 hne
    go_wp2
    go_ret2
    exact HBAD.out _ hBz E2 HZ.out HNE.out
  have h3 : (putB d r m, 0) = (dd, E2) := by rw [← hpp]; unfold toldB; rw [hok]; rfl
  injection h3 with h3 h4
  subst h4
  have HZ := hide (show tellE width d t r m = 0 by rw [HY.out, hok]; rfl)
  have HL1 := hide (hl1.trans h3.symm)
  have HOK := hide hok
  clear hok hpp hl1
  clear h3
  have hk2 := HK.out.put HZ.out
  have hask := ask_ok hk2.ask
  have HK2 := hide hk2
  have hln1 : n1 ≤ 1000 := by
    have h5 := hask.bag
    have h6 := (okBag_asc h5).2.2
    rw [← HL1.out, dat_len, hbg1.len] at h6
    omega
  have hTop := top_any k s A1 n1 c1 l1 X3 (hu5.set.more (Nat.le_of_lt hu5.lt)) hbg1 hln1 (HL1.out ▸ FitS.of hask) (HTB.out X3 hBz) (HL1.out ▸ hask.bag) (HL1.out ▸ hask.pos) (by have := hask.s0; omega) (by have := hask.sn; omega)
  rw [HL1.out] at hTop
  unfold Sk.v at hTop
  have HTop := hide hTop
  have c0 := hu5.box.c0
  have c1' := hu5.box.c1
  have c2 := hu5.box.c2
  have c3 := hu5.box.c3
  clear hTop hk2 hask
  go_wp2_with fail
  refine HTop.out.mono ?_
  rintro e X4 ⟨A2, n2, c2', l2, rfl, hl2, hbg2, hcp2, hB5⟩
  replace hl2 : dat l2 = topB s (putB d r m) := hl2
  have HL2 := hide hl2
  have hBu := bstep hBz hB5
  have kb6 := kb5.below hB5 kb5.lt
  have hbg1 := (hbg1.below hB5).mono hB5.size
  have hu6 := HU.out X4 hBu
  clear c0 c1' c2 c3 HTop hBz kb5 hu5 hB5 hl2
  go_wp2_with fail
  refine Held.begin (fun y => y.cell? ⟨b, 6, none⟩ = some (.slice A' n' c') ∧ y.cell? ⟨bc, 0, none⟩ = some (.int .i64 t)) 100 (by kernel_rfl) ?_
  obtain ⟨X5, hX5⟩ : ∃ X5, X4.drew = X5 := ⟨_, rfl⟩
  have hD : Below X4.heap.size X4 X5 := by rw [← hX5]; exact (Below.refl _ _).drew
  rw [hX5]
  have hBv := bstep hBu hD
  have kb7 := kb6.below hD kb6.lt
  have hbg1 := (hbg1.below hD).mono hD.size
  have hbg2 := (hbg2.below hD).mono hD.size
  have hu7 := HU.out X5 hBv
  have hS : X5.cell? ⟨b, 6, none⟩ = some (.slice A' n' c') ∧ X5.cell? ⟨bc, 0, none⟩ = some (.int .i64 t) := ⟨by simpa using hu7.blk.cell 6, by simpa using kb7.cell 0⟩
  clear hX5 hD hBu kb6 hu6
  refine Held.take (i := 0) (.pointer (some ⟨b, 0, none⟩)) rfl hS (by kernel_rfl) (by kernel_rfl) (by kernel_rfl) (by kernel_rfl) (fun _ _ _ h => h) rfl (fun y hy => by obtain ⟨x1, x2⟩ := hy; go_simp) ?_
  try simp only [Act.put]
  refine Held.take (i := 1) (.pointer (some ⟨b, 0, none⟩)) rfl hS (by kernel_rfl) (by kernel_rfl) (by kernel_rfl) (by kernel_rfl) (fun _ _ _ h => h) rfl (fun y hy => by obtain ⟨x1, x2⟩ := hy; go_simp) ?_
  try simp only [Act.put]
  refine Held.take (i := 2) (.pointer (some ⟨b, 6, none⟩)) rfl hS (by kernel_rfl) (by kernel_rfl) (by kernel_rfl) (by kernel_rfl) (fun _ _ _ h => h) rfl (fun y hy => by obtain ⟨x1, x2⟩ := hy; go_simp) ?_
  try simp only [Act.put]
  refine Held.take (i := 3) (.slice A' n' c') rfl hS (by kernel_rfl) (by kernel_rfl) (by kernel_rfl) (by kernel_rfl) (fun _ _ _ h => h) rfl (fun y hy => by obtain ⟨x1, x2⟩ := hy; go_simp) ?_
  try simp only [Act.put]
  refine Held.take (i := 4) (.slice A2 n2 c2') rfl hS (by kernel_rfl) (by kernel_rfl) (by kernel_rfl) (by kernel_rfl) (fun _ _ _ h => h) rfl (fun y hy => by obtain ⟨x1, x2⟩ := hy; go_simp) ?_
  try simp only [Act.put]
  refine Held.take (i := 5) (.pointer (some ⟨bc, 0, none⟩)) rfl hS (by kernel_rfl) (by kernel_rfl) (by kernel_rfl) (by kernel_rfl) (fun _ _ _ h => h) rfl (fun y hy => by obtain ⟨x1, x2⟩ := hy; go_simp) ?_
  try simp only [Act.put]
  refine Held.take (i := 6) (.int .i64 t) rfl hS (by kernel_rfl) (by kernel_rfl) (by kernel_rfl) (by kernel_rfl) (fun _ _ _ h => h) rfl (fun y hy => by obtain ⟨x1, x2⟩ := hy; go_simp) ?_
  try simp only [Act.put]
  refine Held.one (i := 7) rfl (by kernel_rfl) rfl (fun K hK => ?_)
  unfold Oper.wp
  go_simp
  have hCh := callsIn_wide.1 (Changes_gen A' n' c' l' A2 n2 c2' l2 X5 hu7.now hbg2 hu7.nc' hcp2 t)
  rw [HD'.out, HL2.out, diff_told HK.out.top.1 HK2.out.top.1 (okCh_in HV.out).1 (HK.out.diff HK2.out (by omega))] at hCh
  refine hCh.mono ?_
  rintro e X6 ⟨A3, n3, c3, lc, rfl, ⟨hlc, hlt⟩, hchg, hB6⟩
  replace hlc : lc.map (fun (i : Ch) => (i.r, i.m)) = plusB (topB s (putB d r m)) (topB s d) (-1) := hlc
  have HLC := hide hlc
  have HLT := hide hlt
  have hBx := bstep hBv hB6
  have hbg1 := (hbg1.below hB6).mono hB6.size
  have hbg2 := (hbg2.below hB6).mono hB6.size
  have hu8 := HU.out X6 hBx
  have kb8 := kb7.below hB6 kb7.lt
  have hS : X6.cell? ⟨b, 6, none⟩ = some (.slice A' n' c') ∧ X6.cell? ⟨bc, 0, none⟩ = some (.int .i64 t) := ⟨by simpa using hu8.blk.cell 6, by simpa using kb8.cell 0⟩
  refine hK _ _ (fun _ => hS) ?_
  try simp only [Act.put]
  clear hK K hB6 hBv kb7 hu7 hlc hlt
  refine Held.take (i := 8) (.tuple #[.slice A3 n3 c3, .int .i64 0]) rfl hS (by kernel_rfl) (by kernel_rfl) (by kernel_rfl) (by kernel_rfl) (fun _ _ _ h => h) rfl (fun y hy => by obtain ⟨x1, x2⟩ := hy; go_simp) ?_
  try simp only [Act.put]
  refine Held.take (i := 9) (.slice A3 n3 c3) rfl hS (by kernel_rfl) (by kernel_rfl) (by kernel_rfl) (by kernel_rfl) (fun _ _ _ h => h) rfl (fun y hy => by obtain ⟨x1, x2⟩ := hy; go_simp) ?_
  try simp only [Act.put]
  refine Held.take (i := 10) (.int .i64 0) rfl hS (by kernel_rfl) (by kernel_rfl) (by kernel_rfl) (by kernel_rfl) (fun _ _ _ h => h) rfl (fun y hy => by obtain ⟨x1, x2⟩ := hy; go_simp) ?_
  try simp only [Act.put]
  refine Held.take (i := 11) (.slice A3 n3 c3) rfl hS (by kernel_rfl) (by kernel_rfl) (by kernel_rfl) (by kernel_rfl) (fun _ _ _ h => h) rfl (fun y hy => by obtain ⟨x1, x2⟩ := hy; go_simp) ?_
  try simp only [Act.put]
  refine Held.take (i := 12) (.int .i64 0) rfl hS (by kernel_rfl) (by kernel_rfl) (by kernel_rfl) (by kernel_rfl) (fun _ _ _ h => h) rfl (fun y hy => by obtain ⟨x1, x2⟩ := hy; go_simp) ?_
  try simp only [Act.put]
  refine Held.done (by kernel_rfl) ?_
  clear hS kb8
  have hv5 := hu8.set5 hbg1 hcp1
  have c5 : X6.cell? ⟨b, 5, none⟩ = some (.slice A n c) := by simpa using hu8.blk.cell 5
  have f5 := hu8.blk.frozen 5
  have c6 : (X6.setCell ⟨b, 5, none⟩ (.slice A1 n1 c1)).cell? ⟨b, 6, none⟩ = some (.slice A' n' c') := by simpa using hv5.blk.cell 6
  have f6 := hv5.blk.frozen 6
  have hp5 := Turn.spot c5 (by intro k m e; rw [show (5 : Nat) + 1 = 6 from rfl, show X6.cell? ⟨b, 6, none⟩ = some (.slice A' n' c') by simpa using hu8.blk.cell 6] at e; cases e) (.slice A1 n1 c1)
  have hp6 := Turn.spot c6 (by intro k m e; rw [show (6 : Nat) + 1 = 7 from rfl, show (X6.setCell ⟨b, 5, none⟩ (.slice A1 n1 c1)).cell? ⟨b, 7, none⟩ = none from hv5.blk.cell 7] at e; cases e) (.slice A2 n2 c2')
  have hz : (X6.setCell ⟨b, 5, none⟩ (.slice A1 n1 c1)).heap.size = X6.heap.size := by simp [World.setCell]
  have hv6 := hv5.set6 (hbg2.turn hp5) hcp2
  have HV6 := hide hv6
  have HT := hide ((Turn.of_below (X := [b]) hBx).trans (hp5.trans hp6))
  have HCH := hide (hchg.turn (hp5.trans hp6))
  clear hv5 hv6 hp5 hp6 hu8 hbg1 hbg2 hchg hBx hz
  go_wp2
  go_ret2
  have hD2 : tellD width d t r m = putB d r m := by unfold tellD; rw [if_pos HZ.out]
  have hC2 : tellC s width d t r m = plusB (topB s (putB d r m)) (topB s d) (-1) := by unfold tellC; rw [if_pos HZ.out]
  exact ⟨A3, n3, c3, lc, by rw [HZ.out]; rfl, ⟨by rw [hC2]; exact HLC.out, HLT.out⟩, HCH.out, HT.out, A1, n1, c1, l1, A2, n2, c2', l2, HV6.out, by rw [hD2]; exact HL1.out, by rw [hD2]; exact HL2.out⟩
end Go.Proofs.YtljglceaibgknaaGreatDoor
