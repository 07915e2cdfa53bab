/-
  The reference's Rows2, either, Meet, Join, Within and Distinct.
  The reference's either, Meet, Join, Within and Distinct.
-/
import Derived.Test.YtoapjidpfghnlaaGreatDoorLatM
import Derived.Test.YtoapjidpfghnlaaGreatDoorOpenCap
import Derived.Test.YtoapjidpfghnlaaGreatDoorBgT6
namespace Go.Proofs.YtoapjidpfghnlaaGreatDoor

section
open Go.RowKit
attribute [local go_sem] Oper.semAt_some
set_option linter.unusedVariables false
set_option linter.unusedSimpArgs false

/-- Rows, handed back. -/
def RetRwl (w : World) (d : List Rw) (e : Ending) (w' : World) : Prop := ∃ A n c l, e = .returned (.slice A n c) ∧ rwD l = d ∧ RowL w' w'.heap.size A n l ∧ Below w.heap.size w w'
theorem rws_take (a b : Bg) : rws a b = a.map (·.1) ++ (b.filter fun y => decide (look a y.1 = 0)).map (·.1) := rfl
theorem filt_snoc (a l : Bg) (x : Rw × Int) : ((l ++ [x]).filter fun y => decide (look a y.1 = 0)).map (·.1) = (l.filter fun y => decide (look a y.1 = 0)).map (·.1) ++ if look a x.1 = 0 then [x.1] else [] := by
  rw [List.filter_append, List.map_append]
  congr 1
  by_cases h : look a x.1 = 0 <;> simp [h]
set_option maxRecDepth 100000 in
set_option maxHeartbeats 4000000 in
theorem RRows2_any (A1 : Option Addr) (n1 c1 : Nat) (la : List It) (A2 : Option Addr) (n2 c2 : Nat) (lb : List It) (w : World) (ha : BagR w w.heap.size A1 n1 la) (hb : BagR w w.heap.size A2 n2 lb)
    (oa : okBag (dat la) = true) (ob : okBag (dat lb) = true) : Calls Tryz.prog 99 #[.slice A1 n1 c1, .slice A2 n2 c2] w (RetRwl w (rws (dat la) (dat lb))) := by
  obtain ⟨i0, hi, hz0, hz1, hz2⟩ := info_parts3 infoRk
  have hla : n1 ≤ 400 := by have := (okBag_asc oa).2.2; rw [dat_len, ha.len] at this; exact this
  have hlb : n2 ≤ 400 := by have := (okBag_asc ob).2.2; rw [dat_len, hb.len] at this; exact this
  have OA := hide oa
  have OB := hide ob
  have HLA := hide ha.len
  have HLB := hide hb.len
  clear oa ob
  go_enter Tryz.func99, Tryz.ntmps99
  go_wp2_with fail
  go_loopw [5, 6] (fun v i wr => ∃ (k : Nat) (v' : Value), k ≤ n1 ∧ i = .int .i64 k ∧ v' = v ∧ RwlI w (((dat la).take k).map (·.1)) v' wr) (fun _ i _ => n1 - (intOf i).toNat)
  case atStart => exact ⟨0, _, Nat.zero_le _, rfl, rfl, RwlI.nil w⟩
  case round =>
    obtain ⟨k, v, hk, rfl, rfl, hI⟩ := hrel
    by_cases hlt : k < n1
    · obtain ⟨b, off, y0, rfl, hbl, hyk, c0', c1', hy⟩ := ha.at_ hlt
      have hyd := dat_at hyk
      have HT := hide (show ((dat la).take (k + 1)).map (·.1) = ((dat la).take k).map (·.1) ++ [y0.r] by rw [take_snoc' hyd, List.map_append]; rfl)
      have hKL : (((dat la).take k).map (·.1)).length ≤ 400 := by rw [List.length_map, List.length_take]; omega
      obtain ⟨D, hD⟩ : ∃ D, ((dat la).take k).map (·.1) = D := ⟨_, rfl⟩
      rw [hD] at hI hKL
      have HDD := hide hD
      obtain ⟨hbel, l', h1, h2, h3⟩ := hI
      have hll : l'.length ≤ 400 := by rw [← rwD_len, h2]; exact hKL
      have c0 := (hbel.cell (p := ⟨b, off + k * 2, none⟩) hbl).trans c0'
      have hrow := hy.below hbel
      have hrd := one_reads wr 34 [.slice y0.A y0.n y0.c] 1 rfl
      have hle := hbel.size
      have q1 : (0 : Int) ≤ (k : Int) := by omega
      have q2 : (k : Int) < (n1 : Int) := by omega
      have HH2 := hide h2
      clear hyk hyd hD c0' c1' h2 hKL
      go_wp2_with (at_builtin; refine wpList_append_any _ rfl _ _ 125 rfl w.heap.size 34 i0 _ 1 24 Tryz.underlying125 hi hz0 hz1 hz2 rfl (by decide) v l'.length _ rfl (h1.alloc _) (wr.heap.size + 1) (some ⟨wr.heap.size, 0, none⟩) 1 1 [.slice y0.A y0.n y0.c] rfl hrd (by simp [Value.oneCell']) (by unfold maxLen; omega) (by omega) (by simp; omega) ?_; intro v' X3 hown1 hgrow _)
      have HI2 := hide (rwli_app hbel h1 HH2.out h3 hrow hown1 hgrow)
      clear hbel h1 h3 hrow hown1 hgrow hrd c0 hle
      go_wp2
      go_roundw
      case rel => exact ⟨k + 1, _, by omega, by go_num, rfl, by rw [HT.out, HDD.out]; exact HI2.out⟩
      case measure => simp [intOf] <;> omega
    · obtain rfl : k = n1 := by omega
      rw [take_all (by rw [dat_len]; exact HLA.out)] at hI
      have HRW := hide (show rws (dat la) (dat lb) = (dat la).map (·.1) ++ (((dat lb).take n2).filter fun y => decide (look (dat la) y.1 = 0)).map (·.1) by rw [take_all (by rw [dat_len]; exact HLB.out)]; rfl)
      go_wp2_with fail
      go_loopw [5, 7] (fun v i wx => ∃ (j : Nat) (v' : Value), j ≤ n2 ∧ i = .int .i64 j ∧ v' = v ∧ RwlI w ((dat la).map (·.1) ++ (((dat lb).take j).filter fun y => decide (look (dat la) y.1 = 0)).map (·.1)) v' wx) (fun _ i _ => n2 - (intOf i).toNat)
      case atStart => exact ⟨0, _, Nat.zero_le _, rfl, rfl, by simpa using hI⟩
      case round =>
        clear hI
        obtain ⟨j, v, hj, rfl, rfl, hI⟩ := hrel
        by_cases hlt2 : j < n2
        · obtain ⟨b, off, y0, rfl, hbl, hyk, c0', c1', hy⟩ := hb.at_ hlt2
          have hyd := dat_at hyk
          have hyr := (okBag_asc OB.out).1.ok _ (List.mem_of_getElem? hyd)
          obtain ⟨lk, hlk⟩ : ∃ lk, look (dat la) y0.r = lk := ⟨_, rfl⟩
          have HT := hide (show (((dat lb).take (j + 1)).filter fun y => decide (look (dat la) y.1 = 0)).map (·.1) = (((dat lb).take j).filter fun y => decide (look (dat la) y.1 = 0)).map (·.1) ++ if lk = 0 then [y0.r] else [] by rw [take_snoc' hyd, filt_snoc, ← hlk])
          have hKL : ((dat la).map (·.1) ++ (((dat lb).take j).filter fun y => decide (look (dat la) y.1 = 0)).map (·.1)).length ≤ 800 := by
            rw [List.length_append, List.length_map, List.length_map, dat_len, HLA.out]
            have := List.length_filter_le (fun y : Rw × Int => decide (look (dat la) y.1 = 0)) ((dat lb).take j)
            rw [List.length_take] at this
            omega
          obtain ⟨D, hD⟩ : ∃ D, (dat la).map (·.1) ++ (((dat lb).take j).filter fun y => decide (look (dat la) y.1 = 0)).map (·.1) = D := ⟨_, rfl⟩
          rw [hD] at hI hKL
          have HDD := hide hD
          have HN := hide (fun (W : World) (hB : Below wr.heap.size wr W) => RN_any A1 k c1 w.heap.size la y0.A y0.n y0.c y0.r W (ha.below (bstep hI.bel hB)) ((hy.below (bstep hI.bel hB)).mono (bstep hI.bel hB).size) OA.out hyr)
          have c0 := (hI.bel.cell (p := ⟨b, off + j * 2, none⟩) hbl).trans c0'
          have q1 : (0 : Int) ≤ (j : Int) := by omega
          have q2 : (j : Int) < (n2 : Int) := by omega
          have HC0 := hide c0'
          clear hyk hyd hyr hD c0' c1'
          go_wp2_with fail
          refine (HN.out wr (Below.refl _ _)).mono ?_
          rw [hlk]
          rintro e X2 ⟨rfl, hB2⟩
          have hI := hI.below hB2
          clear hB2 c0 HN hlk
          by_cases hz : lk = 0
          · subst hz
            have HD2 := hide (show (dat la).map (·.1) ++ (((dat lb).take (j + 1)).filter fun y => decide (look (dat la) y.1 = 0)).map (·.1) = D ++ [y0.r] by rw [HT.out, ← HDD.out, List.append_assoc]; rfl)
            obtain ⟨hbel, l', h1, h2, h3⟩ := hI
            have hll : l'.length ≤ 800 := by rw [← rwD_len, h2]; exact hKL
            have c0 := (hbel.cell (p := ⟨b, off + j * 2, none⟩) hbl).trans HC0.out
            have hrow := hy.below hbel
            have hrd := one_reads X2 34 [.slice y0.A y0.n y0.c] 1 rfl
            have hle := hbel.size
            have HH2 := hide h2
            clear h2 hKL HT
            go_wp2_with (at_builtin; refine wpList_append_any _ rfl _ _ 125 rfl w.heap.size 34 i0 _ 1 24 Tryz.underlying125 hi hz0 hz1 hz2 rfl (by decide) v l'.length _ rfl (h1.alloc _) (X2.heap.size + 1) (some ⟨X2.heap.size, 0, none⟩) 1 1 [.slice y0.A y0.n y0.c] rfl hrd (by simp [Value.oneCell']) (by unfold maxLen; omega) (by omega) (by simp; omega) ?_; intro v' X3 hown1 hgrow _)
            have HI2 := hide (rwli_app hbel h1 HH2.out h3 hrow hown1 hgrow)
            clear hbel h1 h3 hrow hown1 hgrow hrd c0 hle
            go_wp2
            go_roundw
            case rel => exact ⟨j + 1, _, by omega, by go_num, rfl, by rw [HD2.out]; exact HI2.out⟩
            case measure => simp [intOf] <;> omega
          · have zz : (lk == 0) = false := by simpa using hz
            have HD2 := hide (show (dat la).map (·.1) ++ (((dat lb).take (j + 1)).filter fun y => decide (look (dat la) y.1 = 0)).map (·.1) = D by rw [HT.out, if_neg hz, List.append_nil]; exact HDD.out)
            have HI2 := hide hI
            clear hI hz hKL HT
            go_wp2
            go_roundw
            case rel => exact ⟨j + 1, _, by omega, by go_num, rfl, by rw [HD2.out]; exact HI2.out⟩
            case measure => simp [intOf] <;> omega
        · obtain rfl : j = n2 := by omega
          rw [← HRW.out] at hI
          obtain ⟨A', n', c', l', rfl, s1, s2, s3⟩ := rwli_end hI (by have := rws_len OA.out OB.out; omega)
          clear hI
          go_wp2
          go_ret
          exact ⟨A', n', c', l', rfl, s1, s2, s3⟩
end

section
open Go.RowKit
attribute [local go_sem] Oper.semAt_some
set_option linter.unusedVariables false
set_option linter.unusedSimpArgs false

/-- The greater or the lesser of two. -/
def fE (g : Bool) (m k : Int) : Int := if g then max m k else min m k
theorem fE_zero (g : Bool) : fE g 0 0 = 0 := by cases g <;> rfl
theorem fE_bound (g : Bool) {m k : Int} (h1 : -1000000 ≤ m ∧ m ≤ 1000000) (h2 : -1000000 ≤ k ∧ k ≤ 1000000) : -1000000 ≤ fE g m k ∧ fE g m k ≤ 1000000 := by
  cases g <;> simp only [fE] <;> simp <;> omega
theorem fE_max {m k : Int} : fE true m k = if m < k then k else m := by
  simp only [fE]
  simp
  split <;> omega
theorem fE_min {m k : Int} : fE false m k = if k < m then k else m := by
  simp only [fE]
  simp
  split <;> omega
theorem eith_len {f : Int → Int → Int} {a b : Bg} (ha : okBag a = true) (hb : okBag b = true) : ∀ k, k ≤ (eithX f a b).length → (aftB [] ((eithX f a b).take k)).length ≤ k
  | 0, _ => by simp [aftB]
  | k + 1, hk => by
    have ih := eith_len (f := f) ha hb k (by omega)
    have h1 : (eithX f a b)[k]? = some ((eithX f a b)[k]'(by omega)) := List.getElem?_eq_getElem (by omega)
    rw [take_snoc' h1, aft_snoc]
    have := put_len (eith_net (f := f) ha hb k).asc ((eithX f a b)[k]'(by omega)).1 ((eithX f a b)[k]'(by omega)).2
    omega
theorem eithX_len (f : Int → Int → Int) (a b : Bg) : (eithX f a b).length = (rws a b).length := by simp [eithX]
theorem eithX_at {f : Int → Int → Int} {a b : Bg} {k : Nat} {r : Rw} (h : (rws a b)[k]? = some r) : (eithX f a b)[k]? = some (r, f (look a r) (look b r)) := by unfold eithX; rw [List.getElem?_map, h]; rfl
theorem eith_num {g : Bool} {a b : Bg} (ha : okBag a = true) (hb : okBag b = true) (k : Nat) : ∀ x ∈ aftB [] ((eithX (fE g) a b).take k), -4000000000000 ≤ x.2 ∧ x.2 ≤ 4000000000000 := by
  intro x hx
  have hn := eith_net (f := fE g) ha hb k
  have h1 := sum_abs (xs := (eithX (fE g) a b).take k) (fun z hz => by
    obtain ⟨r, hr, rfl⟩ := List.mem_map.1 (List.mem_of_mem_take hz)
    exact fE_bound g (look_bound (okBag_asc ha).2.1 r) (look_bound (okBag_asc hb).2.1 r)) x.1
  rw [← hn.sum, look_in (asc_apart hn.asc) hx] at h1
  have h2 : ((eithX (fE g) a b).take k).length ≤ 800 := by
    rw [List.length_take, eithX_len]
    have := rws_len ha hb
    omega
  omega
set_option maxRecDepth 100000 in
set_option maxHeartbeats 4000000 in
theorem RWithin_any (A1 : Option Addr) (n1 c1 : Nat) (la : List It) (A2 : Option Addr) (n2 c2 : Nat) (lb : List It) (w : World) (ha : BagR w w.heap.size A1 n1 la) (hb : BagR w w.heap.size A2 n2 lb) :
    Calls Tryz.prog 26 #[.slice A1 n1 c1, .slice A2 n2 c2] w (RetV w (.bool (leB (dat la) (dat lb)))) := by
  obtain ⟨p, hp⟩ : ∃ p, leB (dat la) (dat lb) = p := ⟨_, rfl⟩
  rw [hp]
  have HP := hide hp
  clear hp
  go_enter Tryz.func26, Tryz.ntmps26
  go_wp2_with fail
  refine (R3Valid_any A1 n1 c1 _ la w ha).mono ?_
  rintro e W1 ⟨rfl, hB1⟩
  cases oa : okBag (dat la)
  · have HQ := hide (show p = false by rw [← HP.out]; unfold leB; rw [oa]; rfl)
    clear oa
    go_wp2
    go_ret
    exact ⟨ret_bool HQ.out.symm, hB1⟩
  have OA := hide oa
  clear oa
  go_wp2_with fail
  refine (R3Valid_any A2 n2 c2 _ lb W1 (hb.below hB1)).mono ?_
  rintro e W2 ⟨rfl, hB2⟩
  have hB02 := bstep hB1 hB2
  clear hB1 hB2
  cases ob : okBag (dat lb)
  · have HQ := hide (show p = false by rw [← HP.out]; unfold leB; rw [OA.out, ob]; rfl)
    clear ob
    go_wp2
    go_ret
    exact ⟨ret_bool HQ.out.symm, hB02⟩
  have OB := hide ob
  have HQ := hide (show p = (rws (dat la) (dat lb)).all fun r => decide (look (dat la) r ≤ look (dat lb) r) by
    rw [← HP.out]
    unfold leB
    rw [OA.out, ob]
    rfl)
  clear ob
  go_wp2_with fail
  refine (RRows2_any A1 n1 c1 la A2 n2 c2 lb W2 ((ha.below hB02).mono hB02.size) ((hb.below hB02).mono hB02.size) OA.out OB.out).mono ?_
  rintro e W3 ⟨A3, n3, c3, l3, rfl, hd3, hr3, hB3⟩
  have hB03 := bstep hB02 hB3
  have HD3 := hide hd3
  have HL3 := hide hr3.len
  have hn3 : n3 ≤ 800 := by have := rws_len OA.out OB.out; rw [← hd3, rwD_len, hr3.len] at this; exact this
  have hXL := hide (show (rws (dat la) (dat lb)).length = n3 by rw [← hd3, rwD_len, hr3.len])
  have ha3 := (ha.below hB03).mono hB03.size
  have hb3 := (hb.below hB03).mono hB03.size
  have HB03 := hide hB03
  clear hB02 hB3 hd3 ha hb hB03
  go_wp2_with fail
  go_loopw [6] (fun i wr => ∃ k : Nat, k ≤ n3 ∧ i = .int .i64 k ∧ ((rws (dat la) (dat lb)).take k).all (fun r => decide (look (dat la) r ≤ look (dat lb) r)) = true ∧ Below W3.heap.size W3 wr) (fun i _ => n3 - (intOf i).toNat)
  case atStart => exact ⟨0, Nat.zero_le _, rfl, rfl, Below.refl _ _⟩
  case round =>
    obtain ⟨k, hk, rfl, hal, hBw⟩ := hrel
    have HAL := hide hal
    clear hal
    by_cases hlt : k < n3
    · obtain ⟨b, off, y, rfl, hbl, hyk, e0, hy⟩ := (hr3.below hBw).at_ hlt
      have hyd : (rws (dat la) (dat lb))[k]? = some y.r := by rw [← HD3.out]; exact rwD_at hyk
      have hyr := rws_ok OA.out OB.out _ (List.mem_of_getElem? hyd)
      obtain ⟨ma, hma⟩ : ∃ m, look (dat la) y.r = m := ⟨_, rfl⟩
      obtain ⟨mb, hmb⟩ : ∃ m, look (dat lb) y.r = m := ⟨_, rfl⟩
      have HYD := hide hyd
      have HMA := hide hma
      have HMB := hide hmb
      have C1 := hide (fun (p : BW wr) => calls_bw (p := p) (v := .int .i64 ma) (by rw [← hma]; exact RN_any A1 n1 c1 W3.heap.size la y.A y.n y.c y.r p.x (ha3.below (bstep hBw p.h)) ((hy.below p.h).mono (Nat.le_trans hBw.size p.h.size)) OA.out hyr))
      have C2 := hide (fun (p : BW wr) => calls_bw (p := p) (v := .int .i64 mb) (by rw [← hmb]; exact RN_any A2 n2 c2 W3.heap.size lb y.A y.n y.c y.r p.x (hb3.below (bstep hBw p.h)) ((hy.below p.h).mono (Nat.le_trans hBw.size p.h.size)) OB.out hyr))
      have y0 := fun (p : BW wr) => BW.cell (a := ⟨b, off + k, none⟩) hbl e0 p
      have q1 : (0 : Int) ≤ (k : Int) := by omega
      have q2 : (k : Int) < (n3 : Int) := by omega
      clear hyd hyr hma hmb hyk
      by_cases hl : mb < ma
      · have z : decide (mb < ma) = true := by simpa using hl
        have HX := hide (show p = false by
          rw [HQ.out, List.all_eq_false]
          exact ⟨y.r, List.mem_of_getElem? HYD.out, by rw [HMA.out, HMB.out]; simp; omega⟩)
        clear hl
        go_wp2_with fail
        (refine wp_region_quiet_bw (by kernel_rfl) (by kernel_rfl) ?_
         repeat (first | go_big_quiet_step ((first | (go_at_call 100; with_reducible exact C1.out _) | (go_at_call 100; with_reducible exact C2.out _))) | quiet_step ((first | (go_at_call 100; with_reducible exact C1.out _) | (go_at_call 100; with_reducible exact C2.out _))))
         refine wpQuiet_nil ?_
         intro wq hw'
         obtain ⟨⟨_, hbq⟩, hw''⟩ := hw'
         subst hw'')
        have HE := hide (bstep HB03.out (hBw.trans (hbq.mono hBw.size)))
        clear C1 C2 y0 e0 hy hBw hbq
        go_wp2
        go_ret
        exact ⟨ret_bool HX.out.symm, HE.out⟩
      · have z : decide (mb < ma) = false := by simpa using hl
        have HX := hide (show ((rws (dat la) (dat lb)).take (k + 1)).all (fun r => decide (look (dat la) r ≤ look (dat lb) r)) = true by
          rw [take_snoc' HYD.out, List.all_append, HAL.out]
          simp only [List.all_cons, List.all_nil]
          rw [HMA.out, HMB.out]
          simp
          omega)
        clear hl
        go_wp2_with fail
        (refine wp_region_quiet_bw (by kernel_rfl) (by kernel_rfl) ?_
         repeat (first | go_big_quiet_step ((first | (go_at_call 100; with_reducible exact C1.out _) | (go_at_call 100; with_reducible exact C2.out _))) | quiet_step ((first | (go_at_call 100; with_reducible exact C1.out _) | (go_at_call 100; with_reducible exact C2.out _))))
         refine wpQuiet_nil ?_
         intro wq hw'
         obtain ⟨⟨_, hbq⟩, hw''⟩ := hw'
         subst hw'')
        have hBf := hBw.trans (hbq.mono hBw.size)
        clear C1 C2 y0 e0 hy hBw hbq
        go_wp2
        go_roundw
        case rel => exact ⟨k + 1, by omega, by go_num, HX.out, hBf⟩
        case measure => simp [intOf] <;> omega
    · obtain rfl : k = n3 := by omega
      have HX := hide (show p = true by have := HAL.out; rw [take_all hXL.out] at this; rw [HQ.out]; exact this)
      have HE := hide (bstep HB03.out hBw)
      clear hBw
      go_wp2
      go_ret
      exact ⟨ret_bool HX.out.symm, HE.out⟩
end

end Go.Proofs.YtoapjidpfghnlaaGreatDoor
