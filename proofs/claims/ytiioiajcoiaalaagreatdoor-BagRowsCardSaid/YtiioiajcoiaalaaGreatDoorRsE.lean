/-
  The walks of bag.Rows and of the reference's Rows.
-/
import Derived.Test.YtiioiajcoiaalaaGreatDoorRsD
namespace Go.Proofs.YtiioiajcoiaalaaGreatDoor
open Go.RowKit
attribute [local go_sem] Oper.semAt_some
set_option linter.unusedVariables false
set_option linter.unusedSimpArgs false

/-- Rows and an error, handed back. -/
def RetRs (w : World) (p : List Rw × Int) (e : Ending) (w' : World) : Prop := ∃ A n c l, e = .returned (.tuple #[.slice A n c, .int .i64 p.2]) ∧ rwD l = p.1 ∧ RowL w' w'.heap.size A n l ∧ Below w.heap.size w w'
theorem rep_take (d : Bg) {k : Nat} {x : Rw × Int} (h : d[k]? = some x) : repX (d.take (k + 1)) = repX (d.take k) ++ List.replicate x.2.toNat x.1 := by rw [take_snoc' h, rep_snoc]
theorem rep_le {d : Bg} (hp : ∀ x ∈ d, 0 ≤ x.2) (ht : tot d ≤ 400) (k : Nat) : (repX (d.take k)).length ≤ 400 := by
  have h1 := rep_len hp
  have h2 : (repX (d.take k)).length ≤ (repX d).length := by
    have : repX d = repX (d.take k) ++ repX (d.drop k) := by unfold repX; rw [← List.flatMap_append, List.take_append_drop]
    rw [this, List.length_append]
    omega
  omega
theorem rep_next {r : Rw} (D : List Rw) (j : Nat) : D ++ List.replicate (j + 1) r = D ++ List.replicate j r ++ [r] := by rw [List.append_assoc, ← List.replicate_succ']
set_option maxRecDepth 100000 in
set_option maxHeartbeats 8000000 in
theorem Rows_any (A : Option Addr) (n c : Nat) (l : List It) (w : World) (hb : BagR w w.heap.size A n l) :
    Calls Tryz.prog 35 #[.slice A n c] w (RetRs w (rowsB (dat l))) := by
  obtain ⟨i0, hi, hz0, hz1, hz2⟩ := info_parts3 infoRk
  obtain ⟨p, hp⟩ : ∃ p, rowsB (dat l) = p := ⟨_, rfl⟩
  rw [hp]
  have HP := hide hp
  clear hp
  have HLB := hide hb.len
  go_enter Tryz.func35, Tryz.ntmps35
  go_wp2_with fail
  refine (BagValid_any A n c _ l w hb).mono ?_
  rintro e W1 ⟨rfl, hB1⟩
  cases oa : okBag (dat l)
  · have HQ := hide (show p = ([], 1) by rw [← HP.out]; unfold rowsB; rw [oa]; rfl)
    clear oa
    go_wp2
    go_ret2
    rw [HQ.out]
    exact ⟨none, 0, 0, [], rfl, rfl, RowL.nil _ _, hB1⟩
  have OA := hide oa
  have hb1 := (hb.below hB1).mono hB1.size
  clear oa hb
  go_wp2_with fail
  refine (Whole_any A n c _ l W1 hb1).mono ?_
  rintro e W2 ⟨rfl, hB2⟩
  have hB02 := bstep hB1 hB2
  cases ow : wholeB (dat l)
  · have HQ := hide (show p = ([], 10) by rw [← HP.out]; unfold rowsB; rw [OA.out, ow]; rfl)
    clear ow hB1 hB2
    go_wp2
    go_ret2
    rw [HQ.out]
    exact ⟨none, 0, 0, [], rfl, rfl, RowL.nil _ _, hB02⟩
  have OW := hide ow
  have hb2 := (hb1.below hB2).mono hB2.size
  clear ow hb1 hB1 hB2
  go_wp2_with fail
  refine (Total_any A n c _ l W2 hb2).mono ?_
  rintro e W3 ⟨rfl, hB3⟩
  have hB03 := bstep hB02 hB3
  have ht : totB (dat l) = tot (dat l) := by unfold totB; rw [OA.out]; rfl
  rw [ht]
  obtain ⟨tt, htt⟩ : ∃ tt, tot (dat l) = tt := ⟨_, rfl⟩
  rw [htt]
  by_cases h4 : tt ≤ 400
  case neg =>
    have z : decide (400 < tt) = true := by simp; omega
    have HQ := hide (show p = ([], 4) by rw [← HP.out]; unfold rowsB; rw [OA.out, OW.out, htt]; simp only [if_true]; rw [if_neg h4])
    clear hB02 hB3 ht htt h4
    go_wp2
    go_ret2
    rw [HQ.out]
    exact ⟨none, 0, 0, [], rfl, rfl, RowL.nil _ _, hB03⟩
  have z : decide (400 < tt) = false := by simp; omega
  have HQ := hide (show p = (repX (dat l), 0) by rw [← HP.out]; unfold rowsB; rw [OA.out, OW.out, htt]; simp only [if_true]; rw [if_pos h4])
  have HPOS := hide (show ∀ x ∈ dat l, 0 ≤ x.2 from fun x hx => by
    have h := OW.out
    unfold wholeB posB at h
    rw [Bool.and_eq_true, List.all_eq_true] at h
    simpa using h.2 x hx)
  have HLE := hide (rep_le HPOS.out (by rw [htt]; exact h4))
  have hb3 := (hb2.below hB3).mono hB3.size
  have HB3 := hide hB03
  have hn4 : n ≤ 400 := by have := (okBag_asc OA.out).2.2; rw [dat_len, HLB.out] at this; exact this
  clear hB02 hB3 ht htt h4 hb2 hB03
  go_wp2_with fail
  go_loopw [4, 21] (fun v i wr => ∃ (k : Nat) (v' : Value), k ≤ n ∧ i = .int .i64 k ∧ v' = v ∧ RwlI W3 (repX ((dat l).take k)) v' wr) (fun _ i _ => n - (intOf i).toNat)
  case atStart => exact ⟨0, _, Nat.zero_le _, rfl, rfl, RwlI.nil W3⟩
  case round =>
    obtain ⟨k, v, hk, rfl, rfl, hI⟩ := hrel
    by_cases hlt : k < n
    · obtain ⟨b, off, y0, rfl, hbl, hyk, c0', c1', hy⟩ := hb3.at_ hlt
      have hyd := dat_at hyk
      have hmem := List.mem_of_getElem? hyd
      have hyr := (okBag_asc OA.out).1.ok _ hmem
      have hy8 : y0.n ≤ 1000 := by have h1 := okR_len hyr; have h2 := hy.len; simp only at h1; omega
      obtain ⟨mN, hmN⟩ : ∃ mN : Nat, y0.m = (mN : Int) := ⟨y0.m.toNat, by have := HPOS.out _ hmem; simp only at this; omega⟩
      have HT := hide (show repX ((dat l).take (k + 1)) = repX ((dat l).take k) ++ List.replicate mN y0.r by rw [rep_take _ hyd]; simp only [hmN]; simp)
      have HTL := hide (HLE.out (k + 1))
      obtain ⟨D, hD⟩ : ∃ D, repX ((dat l).take k) = D := ⟨_, rfl⟩
      rw [hD] at hI HT
      have c0 := (hI.bel.cell (p := ⟨b, off + k * 2, none⟩) hbl).trans c0'
      have c1 := (hI.bel.cell (p := ⟨b, off + k * 2 + 1, none⟩) hbl).trans c1'
      rw [hmN] at c1
      have hm9 : mN ≤ 1000000 := by have := (numB_ne ((okBag_asc OA.out).2.1 _ hmem)).2.2; simp only at this; omega
      have q1 : (0 : Int) ≤ (k : Int) := by omega
      have q2 : (k : Int) < (n : Int) := by omega
      have hbx := below_val (w := wr) #[.slice y0.A y0.n y0.c, .int .i64 (mN : Int)] 62
      have kx := Blk.new wr 62 #[.slice y0.A y0.n y0.c, .int .i64 (mN : Int)]
      have hI1 := hI.below hbx
      have HYK := hide hy
      clear hyk hyd hmem hyr hD c0' c1' hmN hI hbx hy
      go_wp2_with fail
      obtain ⟨X0, hX0⟩ : ∃ X0, wr.alloc (.cells #[.slice y0.A y0.n y0.c, .int .i64 (mN : Int)] 62) = X0 := ⟨_, rfl⟩
      obtain ⟨xb, hxb⟩ : ∃ xb, wr.heap.size = xb := ⟨_, rfl⟩
      rw [hX0] at hI1 kx ⊢
      rw [hxb] at kx ⊢
      clear hX0 c0 c1
      go_loopw [4, 27] (fun v i wx => ∃ (j : Nat) (v' : Value), j ≤ mN ∧ i = .int .i64 j ∧ v' = v ∧ RwlI W3 (D ++ List.replicate j y0.r) v' wx ∧ Blk wx xb 62 #[.slice y0.A y0.n y0.c, .int .i64 (mN : Int)]) (fun _ i _ => mN - (intOf i).toNat)
      case atStart => exact ⟨0, _, Nat.zero_le _, rfl, rfl, by simpa using hI1, kx⟩
      case round =>
        clear hI1 kx hxb
        obtain ⟨j, v, hj, rfl, rfl, hI, kx⟩ := hrel
        by_cases hlt2 : j < mN
        · have k0 := kx.cell 0
          simp only [List.getElem?_toArray, List.getElem?_cons_zero] at k0
          have HN := hide (rep_next (r := y0.r) D j)
          have hKL : (D ++ List.replicate j y0.r).length ≤ 400 := by
            have := HTL.out
            rw [HT.out, List.length_append, List.length_replicate] at this
            rw [List.length_append, List.length_replicate]
            omega
          have q3 : (0 : Int) ≤ (j : Int) := by omega
          have q4 : (j : Int) < (mN : Int) := by omega
          obtain ⟨DJ, hDJ⟩ : ∃ DJ, D ++ List.replicate j y0.r = DJ := ⟨_, rfl⟩
          rw [hDJ] at hI hKL HN
          have HC := hide (Clone_any y0.A y0.n y0.c _ W3.heap.size y0.r wr (HYK.out.below hI.bel) hy8)
          clear hDJ
          go_wp2_with fail
          refine HC.out.mono ?_
          rintro e X2 ⟨Ac, cc, rfl, hrow, hB2⟩
          have hI2 := hI.below hB2
          have kx2 : Blk X2 xb 62 #[.slice y0.A y0.n y0.c, .int .i64 (mN : Int)] := (hB2.block _ kx.lt).trans kx
          clear hI kx k0 hB2 HC
          have hle := hI2.bel.size
          obtain ⟨hbel, l', h1, h2, h3⟩ := hI2
          have hll : l'.length ≤ 400 := by rw [← rwD_len, h2]; exact hKL
          have hrd := one_reads X2 43 [.slice Ac y0.n cc] 1 rfl
          have HH2 := hide h2
          have HNE := hide (show v.ownBlock ≠ some xb by
            intro e
            obtain ⟨cs, fz, hc⟩ := own_cells h1 e
            have := kx2
            unfold Blk at this
            rw [this] at hc
            injection hc with hc
            injection hc with _ hc2
            exact absurd hc2 (by decide))
          have kx3 := kx2.alloc (.cells #[.slice Ac y0.n cc] 43)
          clear h2 hKL kx2
          go_wp2_with (at_builtin; refine wpList_append_any _ rfl _ _ 47 rfl W3.heap.size 43 i0 _ 1 24 Tryz.underlying47 hi hz0 hz1 hz2 rfl (by decide) v l'.length _ rfl (h1.alloc _) (X2.heap.size + 1) (some ⟨X2.heap.size, 0, none⟩) 1 1 [.slice Ac y0.n cc] rfl hrd (by simp [Value.oneCell']) (by unfold maxLen; omega) (by omega) (by simp; omega) ?_; intro v' X3 hown1 hgrow _)
          have HI2 := hide (rwli_app hbel h1 HH2.out h3 hrow hown1 hgrow)
          have kx4 : Blk X3 xb 62 #[.slice y0.A y0.n y0.c, .int .i64 (mN : Int)] := kx3.grown hgrow fun e => HNE.out e.symm
          clear hbel h1 h3 hrow hown1 hgrow hrd hle kx3
          go_wp2
          go_roundw
          case rel => exact ⟨j + 1, _, by omega, by go_num, rfl, by rw [HN.out]; exact HI2.out, kx4⟩
          case measure => simp [intOf] <;> omega
        · obtain rfl : j = mN := by omega
          rw [← HT.out] at hI
          have HI := hide hI
          clear hI kx
          go_wp2
          go_roundw
          case rel => exact ⟨k + 1, _, by omega, by go_num, rfl, HI.out⟩
          case measure => simp [intOf] <;> omega
    · obtain rfl : k = n := by omega
      rw [take_all (by rw [dat_len]; exact HLB.out)] at hI
      obtain ⟨A', n', c', l', rfl, s1, s2, s3⟩ := rwli_end hI (by have := HLE.out k; rw [take_all (by rw [dat_len]; exact HLB.out)] at this; omega)
      have HE := hide (bstep HB3.out s3)
      clear hI s3
      go_wp2
      go_ret2
      rw [HQ.out]
      exact ⟨A', n', c', l', rfl, s1, s2, HE.out⟩
set_option maxRecDepth 100000 in
set_option maxHeartbeats 8000000 in
theorem RRows_any (A : Option Addr) (n c : Nat) (l : List It) (w : World) (hb : BagR w w.heap.size A n l) :
    Calls Tryz.prog 36 #[.slice A n c] w (RetRs w (rowsB (dat l))) := by
  obtain ⟨i0, hi, hz0, hz1, hz2⟩ := info_parts3 infoRk
  obtain ⟨p, hp⟩ : ∃ p, rowsB (dat l) = p := ⟨_, rfl⟩
  rw [hp]
  have HP := hide hp
  clear hp
  have HLB := hide hb.len
  go_enter Tryz.func36, Tryz.ntmps36
  go_wp2_with fail
  refine (R3Valid_any A n c _ l w hb).mono ?_
  rintro e W1 ⟨rfl, hB1⟩
  cases oa : okBag (dat l)
  · have HQ := hide (show p = ([], 1) by rw [← HP.out]; unfold rowsB; rw [oa]; rfl)
    clear oa
    go_wp2
    go_ret2
    rw [HQ.out]
    exact ⟨none, 0, 0, [], rfl, rfl, RowL.nil _ _, hB1⟩
  have OA := hide oa
  have hb1 := (hb.below hB1).mono hB1.size
  clear oa hb
  go_wp2_with fail
  refine (RWhole_any A n c _ l W1 hb1).mono ?_
  rintro e W2 ⟨rfl, hB2⟩
  have hB02 := bstep hB1 hB2
  cases ow : wholeB (dat l)
  · have HQ := hide (show p = ([], 10) by rw [← HP.out]; unfold rowsB; rw [OA.out, ow]; rfl)
    clear ow hB1 hB2
    go_wp2
    go_ret2
    rw [HQ.out]
    exact ⟨none, 0, 0, [], rfl, rfl, RowL.nil _ _, hB02⟩
  have OW := hide ow
  have hb2 := (hb1.below hB2).mono hB2.size
  clear ow hb1 hB1 hB2
  go_wp2_with fail
  refine (RTotal_any A n c _ l W2 hb2).mono ?_
  rintro e W3 ⟨rfl, hB3⟩
  have hB03 := bstep hB02 hB3
  have ht : totB (dat l) = tot (dat l) := by unfold totB; rw [OA.out]; rfl
  rw [ht]
  obtain ⟨tt, htt⟩ : ∃ tt, tot (dat l) = tt := ⟨_, rfl⟩
  rw [htt]
  by_cases h4 : tt ≤ 400
  case neg =>
    have z : decide (400 < tt) = true := by simp; omega
    have HQ := hide (show p = ([], 4) by rw [← HP.out]; unfold rowsB; rw [OA.out, OW.out, htt]; simp only [if_true]; rw [if_neg h4])
    clear hB02 hB3 ht htt h4
    go_wp2
    go_ret2
    rw [HQ.out]
    exact ⟨none, 0, 0, [], rfl, rfl, RowL.nil _ _, hB03⟩
  have z : decide (400 < tt) = false := by simp; omega
  have HQ := hide (show p = (repX (dat l), 0) by rw [← HP.out]; unfold rowsB; rw [OA.out, OW.out, htt]; simp only [if_true]; rw [if_pos h4])
  have HPOS := hide (show ∀ x ∈ dat l, 0 ≤ x.2 from fun x hx => by
    have h := OW.out
    unfold wholeB posB at h
    rw [Bool.and_eq_true, List.all_eq_true] at h
    simpa using h.2 x hx)
  have HLE := hide (rep_le HPOS.out (by rw [htt]; exact h4))
  have hb3 := (hb2.below hB3).mono hB3.size
  have HB3 := hide hB03
  have hn4 : n ≤ 400 := by have := (okBag_asc OA.out).2.2; rw [dat_len, HLB.out] at this; exact this
  clear hB02 hB3 ht htt h4 hb2 hB03
  go_wp2_with fail
  go_loopw [4, 5] (fun v i wr => ∃ (k : Nat) (v' : Value), k ≤ n ∧ i = .int .i64 k ∧ v' = v ∧ RwlI W3 (repX ((dat l).take k)) v' wr) (fun _ i _ => n - (intOf i).toNat)
  case atStart => exact ⟨0, _, Nat.zero_le _, rfl, rfl, RwlI.nil W3⟩
  case round =>
    obtain ⟨k, v, hk, rfl, rfl, hI⟩ := hrel
    by_cases hlt : k < n
    · obtain ⟨b, off, y0, rfl, hbl, hyk, c0', c1', hy⟩ := hb3.at_ hlt
      have hyd := dat_at hyk
      have hmem := List.mem_of_getElem? hyd
      have hyr := (okBag_asc OA.out).1.ok _ hmem
      have hy8 : y0.n ≤ 1000 := by have h1 := okR_len hyr; have h2 := hy.len; simp only at h1; omega
      obtain ⟨mN, hmN⟩ : ∃ mN : Nat, y0.m = (mN : Int) := ⟨y0.m.toNat, by have := HPOS.out _ hmem; simp only at this; omega⟩
      have HT := hide (show repX ((dat l).take (k + 1)) = repX ((dat l).take k) ++ List.replicate mN y0.r by rw [rep_take _ hyd]; simp only [hmN]; simp)
      have HTL := hide (HLE.out (k + 1))
      obtain ⟨D, hD⟩ : ∃ D, repX ((dat l).take k) = D := ⟨_, rfl⟩
      rw [hD] at hI HT
      rw [hmN] at c1'
      have hm9 : mN ≤ 1000000 := by have := (numB_ne ((okBag_asc OA.out).2.1 _ hmem)).2.2; simp only at this; omega
      have q1 : (0 : Int) ≤ (k : Int) := by omega
      have q2 : (k : Int) < (n : Int) := by omega
      have HYK := hide hy
      have HC0 := hide c0'
      have HC1 := hide c1'
      clear hyk hyd hmem hyr hD c0' c1' hmN hy
      go_wp2_with fail
      go_loopw [4, 6] (fun v i wx => ∃ (j : Nat) (v' : Value), j ≤ mN ∧ i = .int .i64 j ∧ v' = v ∧ RwlI W3 (D ++ List.replicate j y0.r) v' wx) (fun _ i _ => mN - (intOf i).toNat)
      case atStart => exact ⟨0, _, Nat.zero_le _, rfl, rfl, by simpa using hI⟩
      case round =>
        clear hI
        obtain ⟨j, v, hj, rfl, rfl, hI⟩ := hrel
        have c0 := (hI.bel.cell (p := ⟨b, off + k * 2, none⟩) hbl).trans HC0.out
        have c1 := (hI.bel.cell (p := ⟨b, off + k * 2 + 1, none⟩) hbl).trans HC1.out
        by_cases hlt2 : j < mN
        · have HN := hide (rep_next (r := y0.r) D j)
          have hKL : (D ++ List.replicate j y0.r).length ≤ 400 := by
            have := HTL.out
            rw [HT.out, List.length_append, List.length_replicate] at this
            rw [List.length_append, List.length_replicate]
            omega
          have q3 : (0 : Int) ≤ (j : Int) := by omega
          have q4 : (j : Int) < (mN : Int) := by omega
          obtain ⟨DJ, hDJ⟩ : ∃ DJ, D ++ List.replicate j y0.r = DJ := ⟨_, rfl⟩
          rw [hDJ] at hI hKL HN
          have HC := hide (Own_any y0.A y0.n y0.c _ W3.heap.size y0.r wr (HYK.out.below hI.bel) hy8)
          clear hDJ
          go_wp2_with fail
          refine HC.out.mono ?_
          rintro e X2 ⟨Ac, cc, rfl, hrow, hB2⟩
          have hI2 := hI.below hB2
          clear hI c0 c1 hB2 HC
          have hle := hI2.bel.size
          obtain ⟨hbel, l', h1, h2, h3⟩ := hI2
          have hll : l'.length ≤ 400 := by rw [← rwD_len, h2]; exact hKL
          have hrd := one_reads X2 43 [.slice Ac y0.n cc] 1 rfl
          have HH2 := hide h2
          clear h2 hKL
          go_wp2_with (at_builtin; refine wpList_append_any _ rfl _ _ 47 rfl W3.heap.size 43 i0 _ 1 24 Tryz.underlying47 hi hz0 hz1 hz2 rfl (by decide) v l'.length _ rfl (h1.alloc _) (X2.heap.size + 1) (some ⟨X2.heap.size, 0, none⟩) 1 1 [.slice Ac y0.n cc] rfl hrd (by simp [Value.oneCell']) (by unfold maxLen; omega) (by omega) (by simp; omega) ?_; intro v' X3 hown1 hgrow _)
          have HI2 := hide (rwli_app hbel h1 HH2.out h3 hrow hown1 hgrow)
          clear hbel h1 h3 hrow hown1 hgrow hrd hle
          go_wp2
          go_roundw
          case rel => exact ⟨j + 1, _, by omega, by go_num, rfl, by rw [HN.out]; exact HI2.out⟩
          case measure => simp [intOf] <;> omega
        · obtain rfl : j = mN := by omega
          rw [← HT.out] at hI
          have HI := hide hI
          clear hI
          go_wp2
          go_roundw
          case rel => exact ⟨k + 1, _, by omega, by go_num, rfl, HI.out⟩
          case measure => simp [intOf] <;> omega
    · obtain rfl : k = n := by omega
      rw [take_all (by rw [dat_len]; exact HLB.out)] at hI
      obtain ⟨A', n', c', l', rfl, s1, s2, s3⟩ := rwli_end hI (by have := HLE.out k; rw [take_all (by rw [dat_len]; exact HLB.out)] at this; omega)
      have HE := hide (bstep HB3.out s3)
      clear hI s3
      go_wp2
      go_ret2
      rw [HQ.out]
      exact ⟨A', n', c', l', rfl, s1, s2, HE.out⟩
end Go.Proofs.YtiioiajcoiaalaaGreatDoor
