/-
  Distinct on both sides; bag.Meet and bag.Join.
-/
import Derived.Test.YtiioiajcoiaalaaGreatDoorLatB
namespace Go.Proofs.YtiioiajcoiaalaaGreatDoor
open Go.RowKit
attribute [local go_sem] Oper.semAt_some
set_option linter.unusedVariables false
set_option linter.unusedSimpArgs false

/-- What Distinct tells, with the error. -/
def distE (d : Bg) : Bg × Int := if okBag d then (distB d, 0) else ([], 1)
set_option maxRecDepth 100000 in
set_option maxHeartbeats 4000000 in
theorem RDistinct_any (A : Option Addr) (n c : Nat) (l : List It) (w : World) (hb : BagR w w.heap.size A n l) :
    Calls Tryz.prog 19 #[.slice A n c] w (RetC w (distE (dat l))) := by
  obtain ⟨p, hp⟩ : ∃ p, distE (dat l) = p := ⟨_, rfl⟩
  rw [hp]
  have HP := hide hp
  clear hp
  obtain ⟨i0, hi, hz0, hz1, hz2⟩ := info_parts3 infoItem
  have HL := hide hb.len
  go_enter Tryz.func19, Tryz.ntmps19
  go_wp2_with fail
  refine (R3Valid_any A n c _ l w hb).mono ?_
  rintro e W1 ⟨rfl, hB1⟩
  cases oa : okBag (dat l)
  · have HQ := hide (show p = ([], 1) by rw [← HP.out]; unfold distE; rw [oa]; rfl)
    clear oa
    go_wp2
    go_ret2
    rw [HQ.out]
    exact ⟨none, 0, 0, [], rfl, rfl, BagR.nil _ _, Nat.le_refl _, hB1⟩
  have OA := hide oa
  have HQ := hide (show p = (distB (dat l), 0) by rw [← HP.out]; unfold distE; rw [oa]; rfl)
  have hn4 : n ≤ 400 := by have := (okBag_asc oa).2.2; rw [dat_len, hb.len] at this; exact this
  have hb1 := (hb.below hB1).mono hB1.size
  have HB1 := hide hB1
  clear oa hb hB1
  go_wp2_with fail
  go_loopw [4, 5] (fun v i wr => ∃ (k : Nat) (v' : Value), k ≤ n ∧ i = .int .i64 k ∧ v' = v ∧ PutI W1 (distB ((dat l).take k)) v' wr) (fun _ i _ => n - (intOf i).toNat)
  case atStart => exact ⟨0, _, Nat.zero_le _, rfl, rfl, Below.refl _ _, ⟨[], World.ownsRow_nil _ _ _ _, rfl, nofun⟩, trivial⟩
  case round =>
    obtain ⟨k, v, hk, rfl, rfl, hI⟩ := hrel
    by_cases hlt : k < n
    · obtain ⟨b, off, y0, rfl, hbl, hyk, c0', c1', hy⟩ := hb1.at_ hlt
      have hyd := dat_at hyk
      have hyr := (okBag_asc OA.out).1.ok _ (List.mem_of_getElem? hyd)
      have hyn : y0.n ≤ 1000 := by have h1 := okR_len hyr; have h2 := hy.len; simp only at h1; omega
      have HT := hide (show distB ((dat l).take (k + 1)) = distB ((dat l).take k) ++ if 0 < y0.m then [(y0.r, 1)] else [] by rw [take_snoc' hyd, dist_snoc])
      have hKL : (distB ((dat l).take k)).length ≤ 400 := by
        unfold distB
        rw [List.length_map]
        refine Nat.le_trans (List.length_filter_le _ _) ?_
        rw [List.length_take]
        omega
      obtain ⟨D, hD⟩ : ∃ D, distB ((dat l).take k) = D := ⟨_, rfl⟩
      rw [hD] at hI hKL
      have HDD := hide hD
      have c0 := (hI.bel.cell (p := ⟨b, off + k * 2, none⟩) hbl).trans c0'
      have c1 := (hI.bel.cell (p := ⟨b, off + k * 2 + 1, none⟩) hbl).trans c1'
      have q1 : (0 : Int) ≤ (k : Int) := by omega
      have q2 : (k : Int) < (n : Int) := by omega
      clear c0' c1' hyk hyd hyr hD
      by_cases h0 : 0 < y0.m
      · have z : decide (0 < y0.m) = true := by simpa using h0
        have HX := hide (show distB ((dat l).take (k + 1)) = D ++ [(y0.r, 1)] by rw [HT.out, if_pos h0, HDD.out])
        clear HT h0
        go_wp2_with fail
        refine (Own_any y0.A y0.n y0.c _ W1.heap.size y0.r wr (hy.below hI.bel) (by omega)).mono ?_
        rintro e X2 ⟨Ac, cc, rfl, hrow, hB2⟩
        have hI2 := hI.below hB2
        clear hI hB2 c0 c1
        have hle := hI2.bel.size
        obtain ⟨hbel, ⟨l', h1, h2, h3⟩, _⟩ := hI2
        have hll : l'.length ≤ 400 := by rw [← dat_len, h2]; exact hKL
        have hrd := one_reads X2 62 [.slice Ac y0.n cc, .int .i64 1] 2 rfl
        have HH2 := hide h2
        clear h2 hKL
        go_wp2_with (at_builtin; refine wpList_append_any _ rfl _ _ 23 rfl W1.heap.size 62 i0 _ 2 32 Tryz.underlying23 hi hz0 hz1 hz2 rfl (by decide) v l'.length _ rfl (h1.alloc _) (X2.heap.size + 1) (some ⟨X2.heap.size, 0, none⟩) 1 1 [.slice Ac y0.n cc, .int .i64 1] rfl hrd (by simp [Value.oneCell']) (by unfold maxLen; omega) (by omega) (by simp; omega) ?_; intro v' X3 hown1 hgrow _)
        have HI2 := hide (puti_app hbel h1 HH2.out h3 hrow hown1 hgrow)
        clear hbel h1 h3 hrow hown1 hgrow hrd hle
        go_wp2
        go_roundw
        case rel => exact ⟨k + 1, _, by omega, by go_num, rfl, by rw [HX.out]; exact HI2.out⟩
        case measure => simp [intOf] <;> omega
      · have z : decide (0 < y0.m) = false := by simpa using h0
        have HX := hide (show distB ((dat l).take (k + 1)) = D by rw [HT.out, if_neg h0, List.append_nil]; exact HDD.out)
        have HI2 := hide hI
        clear HT h0 hI hKL
        go_wp2
        go_roundw
        case rel => exact ⟨k + 1, _, by omega, by go_num, rfl, by rw [HX.out]; exact HI2.out⟩
        case measure => simp [intOf] <;> omega
    · obtain rfl : k = n := by omega
      rw [take_all (by rw [dat_len]; exact HL.out)] at hI
      obtain ⟨A', n', c', l', rfl, s1, s2, s3, s4⟩ := puti_bag hI (by
        unfold distB
        rw [List.length_map]
        refine Nat.le_trans (List.length_filter_le _ _) ?_
        rw [dat_len, HL.out]
        omega)
      have HE := hide (bstep HB1.out s4)
      clear hI s4
      go_wp2
      go_ret2
      rw [HQ.out]
      exact ⟨A', n', c', l', rfl, s1, s2, s3, HE.out⟩
theorem RowK.nil (w : World) (B : Nat) : RowK w B none 0 [] := ⟨Reads.none_, fun h => absurd h (by decide), by omega⟩
set_option maxRecDepth 100000 in
theorem dist1_any (x : It) (B : Nat) (w : World) (hrow : RowK w B x.A x.n x.r) : Calls Tryz.prog 62 #[.agg #[.slice x.A x.n x.c, .int .i64 x.m]] w fun e w' =>
    (∃ A' n' c', e = .returned (.tuple #[.slice A' n' c', .int .i64 (distG (x.r, x.m)).2]) ∧ RowK w' B A' n' (distG (x.r, x.m)).1) ∧ Below w.heap.size w w' := by
  have hB0 := below_val (w := w) #[.slice x.A x.n x.c, .int .i64 x.m] 62
  have b0 := Blk.new w 62 #[.slice x.A x.n x.c, .int .i64 x.m]
  have hr := hrow.below hB0
  have HB := hide hB0
  have HR := hide hr
  have k0 := b0.cell 0
  have k1 := b0.cell 1
  simp only [List.getElem?_toArray, List.getElem?_cons_zero, List.getElem?_cons_succ] at k0 k1
  clear hB0 hr hrow b0
  obtain ⟨d, hd⟩ : ∃ d, distG (x.r, x.m) = d := ⟨_, rfl⟩
  rw [hd]
  by_cases h0 : 0 < x.m
  · have z : decide (0 < x.m) = true := by simpa using h0
    have HD := hide (show d = (x.r, 1) by rw [← hd]; exact if_pos h0)
    clear hd h0
    go_enter Tryz.func62, Tryz.ntmps62
    go_wp2
    go_ret2
    rw [HD.out]
    exact ⟨⟨_, _, _, rfl, HR.out⟩, HB.out⟩
  · have z : decide (0 < x.m) = false := by simpa using h0
    have HD := hide (show d = ([], 0) by rw [← hd]; exact if_neg h0)
    clear hd h0
    go_enter Tryz.func62, Tryz.ntmps62
    go_wp2
    go_ret2
    rw [HD.out]
    exact ⟨⟨_, _, _, rfl, RowK.nil _ _⟩, HB.out⟩
set_option maxRecDepth 100000 in
set_option maxHeartbeats 4000000 in
theorem Distinct_any (A : Option Addr) (n c : Nat) (l : List It) (w : World) (hb : BagR w w.heap.size A n l) (ht : Tab w) :
    Calls Tryz.prog 18 #[.slice A n c] w (RetC w (distE (dat l))) := by
  obtain ⟨p, hp⟩ : ∃ p, distE (dat l) = p := ⟨_, rfl⟩
  rw [hp]
  have HP := hide hp
  clear hp
  go_enter Tryz.func18, Tryz.ntmps18
  go_wp2_with fail
  refine (BagValid_any A n c _ l w hb).mono ?_
  rintro e W1 ⟨rfl, hB1⟩
  cases oa : okBag (dat l)
  · have HQ := hide (show p = ([], 1) by rw [← HP.out]; unfold distE; rw [oa]; rfl)
    clear oa
    go_wp2
    go_ret2
    rw [HQ.out]
    exact ⟨none, 0, 0, [], rfl, rfl, BagR.nil _ _, Nat.le_refl _, hB1⟩
  have OA := hide oa
  have HQ := hide (show p = (distB (dat l), 0) by rw [← HP.out]; unfold distE; rw [oa]; rfl)
  clear oa
  go_wp2_with fail
  refine (made_any A n c 62 #[] W1).mono ?_
  rintro e W2 ⟨rfl, hW2⟩
  have b1 := (Boxed.new W1 22 (.slice A n c)).alloc (.cells #[.func (Fn.func 62) #[] #[]] 83)
  have b2 := Boxed.new (W1.alloc (.cells #[.slice A n c] 22)) 83 (.func (Fn.func 62) #[] #[])
  rw [World.size_alloc] at b2
  have hB12 : Below W1.heap.size W1 ((W1.alloc (.cells #[.slice A n c] 22)).alloc (.cells #[.func (Fn.func 62) #[] #[]] 83)) := ((Below.refl _ _).alloc (Nat.le_refl _) _).alloc (by simp) _
  rw [← hW2] at b1 b2 hB12
  have hB02 := bstep hB1 hB12
  have hb2 := (hb.below hB02).mono hB02.size
  have ht2 := ht.below hB02
  have HDI := hide (show mk distG (dat l) = distB (dat l) from dist_mk _)
  have hok := hide (dist_ok OA.out)
  clear hW2 hB12 hB1 hb ht
  go_wp2_with fail
  refine (callsIn_wide.1 (gathered_in 115 #[.pointer (some ⟨W1.heap.size, 0, none⟩), .pointer (some ⟨W1.heap.size + 1, 0, none⟩)] (mk distG (dat l)) W2.heap.size [] W2 (fun W hW => ht2.below (bar_nil hW)) (enters_of Tryz.func115 (by kernel_rfl) rfl)
    (fun W hW hs => made1_iter 7 (by omega) W1.heap.size (W1.heap.size + 1) A n c l 62 #[] distG W W2.heap.size (W2.heap.size + 5) [] (KeepT W2.heap.size (W2.heap.size + 5)) (fun _ V => Below W2.heap.size W2 V)
      (fun _ V hV => ⟨(hV.block _ b1.lt).trans b1, (hV.block _ b2.lt).trans b2, hb2.below hV, by simp⟩) (fun _ X Y hX hk => hX.trans (bar_nil hk.bar)) (fun _ X o hX => hX.alloc hX.size o) hW
      (enters_of Tryz.func62 (by kernel_rfl) rfl)
      (fun k x V _ hV hr => (dist1_any x W2.heap.size V hr).mono fun e V' ⟨h1, h2⟩ => ⟨h1, hV.trans (h2.mono hV.size), WrB.below h2⟩))
    (fun x hx => by
      rw [HDI.out] at hx
      have := (dist_mem hx).1
      exact ⟨(okBag_asc hok.out).1.ok x hx, by omega, by omega⟩)
    (by rw [HDI.out]; have := (okBag_asc hok.out).2.2; omega) (Nat.le_refl _) (by simp))).mono ?_
  rintro e W4 ⟨A4, n4, c4, l4, rfl, hnet, hbag, hcap, _, hbar⟩
  rw [HDI.out] at hnet
  have hB04 := bstep hB02 (bar_nil hbar)
  have HD4 := hide (show dat l4 = distB (dat l) from hnet.same (Net.one hok.out) fun _ => rfl)
  have hsz := hbar.size
  clear hbar hnet b1 b2 hb2 ht2 hB02
  go_wp2_with fail
  refine (put_any A4 n4 c4 W2.heap.size l4 W4 hbag hsz hcap).mono ?_
  intro e W5 h
  rw [HD4.out] at h
  obtain ⟨A5, n5, c5, l5, rfl, r2, r3, r4, r5⟩ := told_ret' hB04 h
  have hq : toldB (distB (dat l)) = (distB (dat l), 0) := by unfold toldB; rw [hok.out]; rfl
  rw [hq] at r2 ⊢
  have HE := hide r5
  clear r5 h hB04 hq
  go_wp2
  go_ret2
  rw [HQ.out]
  exact ⟨A5, n5, c5, l5, rfl, r2, r3, r4, HE.out⟩
theorem meet1_any (m k : Int) (w : World) : Calls Tryz.prog 67 #[.int .i64 m, .int .i64 k] w fun e w' => e = .returned (.int .i64 (fE false m k)) ∧ w = w' := by
  go_enter Tryz.func67, Tryz.ntmps67
  go_wp2
  go_ret
  exact ⟨rfl, rfl⟩
theorem join1_any (m k : Int) (w : World) : Calls Tryz.prog 69 #[.int .i64 m, .int .i64 k] w fun e w' => e = .returned (.int .i64 (fE true m k)) ∧ w = w' := by
  go_enter Tryz.func69, Tryz.ntmps69
  go_wp2
  go_ret
  exact ⟨rfl, rfl⟩
theorem Meet_any (A : Option Addr) (n c : Nat) (la : List It) (A' : Option Addr) (n' c' : Nat) (lb : List It) (w : World) (ha : BagR w w.heap.size A n la) (hb : BagR w w.heap.size A' n' lb) (hc : n ≤ c) (hc' : n' ≤ c') :
    Calls Tryz.prog 22 #[.slice A n c, .slice A' n' c'] w (RetC w (comb (fE false) (dat la) (dat lb))) := by
  have H := hide (both_any (fE false) 67 #[] (enters_of Tryz.func67 (by kernel_rfl) rfl) A n c la A' n' c' lb w ha hb hc hc' (fun m k W _ _ _ _ _ => meet1_any m k W))
  obtain ⟨d, E, hp⟩ : ∃ d E, comb (fE false) (dat la) (dat lb) = (d, E) := ⟨_, _, rfl⟩
  rw [hp] at H ⊢
  clear hp ha hb
  go_enter Tryz.func22, Tryz.ntmps22
  go_wp2_with fail
  refine H.out.mono ?_
  rintro e W1 ⟨Ar, nr, cr, lr, rfl, hd, hbr, hcr, hB⟩
  go_wp2
  go_ret2
  exact ⟨Ar, nr, cr, lr, rfl, hd, hbr, hcr, hB⟩
theorem Join_any (A : Option Addr) (n c : Nat) (la : List It) (A' : Option Addr) (n' c' : Nat) (lb : List It) (w : World) (ha : BagR w w.heap.size A n la) (hb : BagR w w.heap.size A' n' lb) (hc : n ≤ c) (hc' : n' ≤ c') :
    Calls Tryz.prog 24 #[.slice A n c, .slice A' n' c'] w (RetC w (comb (fE true) (dat la) (dat lb))) := by
  have H := hide (both_any (fE true) 69 #[] (enters_of Tryz.func69 (by kernel_rfl) rfl) A n c la A' n' c' lb w ha hb hc hc' (fun m k W _ _ _ _ _ => join1_any m k W))
  obtain ⟨d, E, hp⟩ : ∃ d E, comb (fE true) (dat la) (dat lb) = (d, E) := ⟨_, _, rfl⟩
  rw [hp] at H ⊢
  clear hp ha hb
  go_enter Tryz.func24, Tryz.ntmps24
  go_wp2_with fail
  refine H.out.mono ?_
  rintro e W1 ⟨Ar, nr, cr, lr, rfl, hd, hbr, hcr, hB⟩
  go_wp2
  go_ret2
  exact ⟨Ar, nr, cr, lr, rfl, hd, hbr, hcr, hB⟩
end Go.Proofs.YtiioiajcoiaalaaGreatDoor
