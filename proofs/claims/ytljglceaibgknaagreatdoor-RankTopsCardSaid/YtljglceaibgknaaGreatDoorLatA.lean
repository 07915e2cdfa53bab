/-
  The reference's Rows2, either, Meet, Join, Within and Distinct.
-/
import Derived.Test.YtljglceaibgknaaGreatDoorLatM
import Derived.Test.YtljglceaibgknaaGreatDoorRwL
import Derived.Test.YtljglceaibgknaaGreatDoorBgT6
import Derived.Test.YtljglceaibgknaaGreatDoorMade
namespace Go.Proofs.YtljglceaibgknaaGreatDoor
open Go.RowKit
attribute [local go_sem] Oper.semAt_some
set_option linter.unusedVariables false
set_option linter.unusedSimpArgs false

/-- Rows, handed back. -/
def RetRwl (w : World) (d : List Rw) (e : Ending) (w' : World) : Prop := ∃ A n c l, e = .returned (.slice A n c) ∧ rwD l = d ∧ RowL w' w'.heap.size A n l ∧ Below w.heap.size w w'
theorem rws_take (a b : Bg) : rws a b = a.map (·.1) ++ (b.filter fun y => decide (look a y.1 = 0)).map (·.1) := rfl
theorem filt_snoc (a l : Bg) (x : Rw × Int) : ((l ++ [x]).filter fun y => decide (look a y.1 = 0)).map (·.1) = (l.filter fun y => decide (look a y.1 = 0)).map (·.1) ++ if look a x.1 = 0 then [x.1] else [] := by
  rw [List.filter_append, List.map_append]
  congr 1
  by_cases h : look a x.1 = 0 <;> simp [h]
set_option maxRecDepth 100000 in
set_option maxHeartbeats 4000000 in
theorem RRows2_any (A1 : Option Addr) (n1 c1 : Nat) (la : List It) (A2 : Option Addr) (n2 c2 : Nat) (lb : List It) (w : World) (ha : BagR w w.heap.size A1 n1 la) (hb : BagR w w.heap.size A2 n2 lb)
    (oa : okBag (dat la) = true) (ob : okBag (dat lb) = true) : Calls Tryz.prog 72 #[.slice A1 n1 c1, .slice A2 n2 c2] w (RetRwl w (rws (dat la) (dat lb))) := by
  obtain ⟨i0, hi, hz0, hz1, hz2⟩ := info_parts3 infoRk
  have hla : n1 ≤ 400 := by have := (okBag_asc oa).2.2; rw [dat_len, ha.len] at this; exact this
  have hlb : n2 ≤ 400 := by have := (okBag_asc ob).2.2; rw [dat_len, hb.len] at this; exact this
  have OA := hide oa
  have OB := hide ob
  have HLA := hide ha.len
  have HLB := hide hb.len
  clear oa ob
  go_enter Tryz.func72, Tryz.ntmps72
  go_wp2_with fail
  go_loopw [5, 6] (fun v i wr => ∃ (k : Nat) (v' : Value), k ≤ n1 ∧ i = .int .i64 k ∧ v' = v ∧ RwlI w (((dat la).take k).map (·.1)) v' wr) (fun _ i _ => n1 - (intOf i).toNat)
  case atStart => exact ⟨0, _, Nat.zero_le _, rfl, rfl, RwlI.nil w⟩
  case round =>
    obtain ⟨k, v, hk, rfl, rfl, hI⟩ := hrel
    by_cases hlt : k < n1
    · obtain ⟨b, off, y0, rfl, hbl, hyk, c0', c1', hy⟩ := ha.at_ hlt
      have hyd := dat_at hyk
      have HT := hide (show ((dat la).take (k + 1)).map (·.1) = ((dat la).take k).map (·.1) ++ [y0.r] by rw [take_snoc' hyd, List.map_append]; rfl)
      have hKL : (((dat la).take k).map (·.1)).length ≤ 400 := by rw [List.length_map, List.length_take]; omega
      obtain ⟨D, hD⟩ : ∃ D, ((dat la).take k).map (·.1) = D := ⟨_, rfl⟩
      rw [hD] at hI hKL
      have HDD := hide hD
      obtain ⟨hbel, l', h1, h2, h3⟩ := hI
      have hll : l'.length ≤ 400 := by rw [← rwD_len, h2]; exact hKL
      have c0 := (hbel.cell (p := ⟨b, off + k * 2, none⟩) hbl).trans c0'
      have hrow := hy.below hbel
      have hrd := one_reads wr 42 [.slice y0.A y0.n y0.c] 1 rfl
      have hle := hbel.size
      have q1 : (0 : Int) ≤ (k : Int) := by omega
      have q2 : (k : Int) < (n1 : Int) := by omega
      have HH2 := hide h2
      clear hyk hyd hD c0' c1' h2 hKL
      go_wp2_with (at_builtin; refine wpList_append_any _ rfl _ _ 100 rfl w.heap.size 42 i0 _ 1 24 Tryz.underlying100 hi hz0 hz1 hz2 rfl (by decide) v l'.length _ rfl (h1.alloc _) (wr.heap.size + 1) (some ⟨wr.heap.size, 0, none⟩) 1 1 [.slice y0.A y0.n y0.c] rfl hrd (by simp [Value.oneCell']) (by unfold maxLen; omega) (by omega) (by simp; omega) ?_; intro v' X3 hown1 hgrow _)
      have HI2 := hide (rwli_app hbel h1 HH2.out h3 hrow hown1 hgrow)
      clear hbel h1 h3 hrow hown1 hgrow hrd c0 hle
      go_wp2
      go_roundw
      case rel => exact ⟨k + 1, _, by omega, by go_num, rfl, by rw [HT.out, HDD.out]; exact HI2.out⟩
      case measure => simp [intOf] <;> omega
    · obtain rfl : k = n1 := by omega
      rw [take_all (by rw [dat_len]; exact HLA.out)] at hI
      have HRW := hide (show rws (dat la) (dat lb) = (dat la).map (·.1) ++ (((dat lb).take n2).filter fun y => decide (look (dat la) y.1 = 0)).map (·.1) by rw [take_all (by rw [dat_len]; exact HLB.out)]; rfl)
      go_wp2_with fail
      go_loopw [5, 7] (fun v i wx => ∃ (j : Nat) (v' : Value), j ≤ n2 ∧ i = .int .i64 j ∧ v' = v ∧ RwlI w ((dat la).map (·.1) ++ (((dat lb).take j).filter fun y => decide (look (dat la) y.1 = 0)).map (·.1)) v' wx) (fun _ i _ => n2 - (intOf i).toNat)
      case atStart => exact ⟨0, _, Nat.zero_le _, rfl, rfl, by simpa using hI⟩
      case round =>
        clear hI
        obtain ⟨j, v, hj, rfl, rfl, hI⟩ := hrel
        by_cases hlt2 : j < n2
        · obtain ⟨b, off, y0, rfl, hbl, hyk, c0', c1', hy⟩ := hb.at_ hlt2
          have hyd := dat_at hyk
          have hyr := (okBag_asc OB.out).1.ok _ (List.mem_of_getElem? hyd)
          obtain ⟨lk, hlk⟩ : ∃ lk, look (dat la) y0.r = lk := ⟨_, rfl⟩
          have HT := hide (show (((dat lb).take (j + 1)).filter fun y => decide (look (dat la) y.1 = 0)).map (·.1) = (((dat lb).take j).filter fun y => decide (look (dat la) y.1 = 0)).map (·.1) ++ if lk = 0 then [y0.r] else [] by rw [take_snoc' hyd, filt_snoc, ← hlk])
          have hKL : ((dat la).map (·.1) ++ (((dat lb).take j).filter fun y => decide (look (dat la) y.1 = 0)).map (·.1)).length ≤ 800 := by
            rw [List.length_append, List.length_map, List.length_map, dat_len, HLA.out]
            have := List.length_filter_le (fun y : Rw × Int => decide (look (dat la) y.1 = 0)) ((dat lb).take j)
            rw [List.length_take] at this
            omega
          obtain ⟨D, hD⟩ : ∃ D, (dat la).map (·.1) ++ (((dat lb).take j).filter fun y => decide (look (dat la) y.1 = 0)).map (·.1) = D := ⟨_, rfl⟩
          rw [hD] at hI hKL
          have HDD := hide hD
          have HN := hide (fun (W : World) (hB : Below wr.heap.size wr W) => RN_any A1 k c1 w.heap.size la y0.A y0.n y0.c y0.r W (ha.below (bstep hI.bel hB)) ((hy.below (bstep hI.bel hB)).mono (bstep hI.bel hB).size) OA.out hyr)
          have c0 := (hI.bel.cell (p := ⟨b, off + j * 2, none⟩) hbl).trans c0'
          have q1 : (0 : Int) ≤ (j : Int) := by omega
          have q2 : (j : Int) < (n2 : Int) := by omega
          have HC0 := hide c0'
          clear hyk hyd hyr hD c0' c1'
          go_wp2_with fail
          refine (HN.out wr (Below.refl _ _)).mono ?_
          rw [hlk]
          rintro e X2 ⟨rfl, hB2⟩
          have hI := hI.below hB2
          clear hB2 c0 HN hlk
          by_cases hz : lk = 0
          · subst hz
            have HD2 := hide (show (dat la).map (·.1) ++ (((dat lb).take (j + 1)).filter fun y => decide (look (dat la) y.1 = 0)).map (·.1) = D ++ [y0.r] by rw [HT.out, ← HDD.out, List.append_assoc]; rfl)
            obtain ⟨hbel, l', h1, h2, h3⟩ := hI
            have hll : l'.length ≤ 800 := by rw [← rwD_len, h2]; exact hKL
            have c0 := (hbel.cell (p := ⟨b, off + j * 2, none⟩) hbl).trans HC0.out
            have hrow := hy.below hbel
            have hrd := one_reads X2 42 [.slice y0.A y0.n y0.c] 1 rfl
            have hle := hbel.size
            have HH2 := hide h2
            clear h2 hKL HT
            go_wp2_with (at_builtin; refine wpList_append_any _ rfl _ _ 100 rfl w.heap.size 42 i0 _ 1 24 Tryz.underlying100 hi hz0 hz1 hz2 rfl (by decide) v l'.length _ rfl (h1.alloc _) (X2.heap.size + 1) (some ⟨X2.heap.size, 0, none⟩) 1 1 [.slice y0.A y0.n y0.c] rfl hrd (by simp [Value.oneCell']) (by unfold maxLen; omega) (by omega) (by simp; omega) ?_; intro v' X3 hown1 hgrow _)
            have HI2 := hide (rwli_app hbel h1 HH2.out h3 hrow hown1 hgrow)
            clear hbel h1 h3 hrow hown1 hgrow hrd c0 hle
            go_wp2
            go_roundw
            case rel => exact ⟨j + 1, _, by omega, by go_num, rfl, by rw [HD2.out]; exact HI2.out⟩
            case measure => simp [intOf] <;> omega
          · have zz : (lk == 0) = false := by simpa using hz
            have HD2 := hide (show (dat la).map (·.1) ++ (((dat lb).take (j + 1)).filter fun y => decide (look (dat la) y.1 = 0)).map (·.1) = D by rw [HT.out, if_neg hz, List.append_nil]; exact HDD.out)
            have HI2 := hide hI
            clear hI hz hKL HT
            go_wp2
            go_roundw
            case rel => exact ⟨j + 1, _, by omega, by go_num, rfl, by rw [HD2.out]; exact HI2.out⟩
            case measure => simp [intOf] <;> omega
        · obtain rfl : j = n2 := by omega
          rw [← HRW.out] at hI
          obtain ⟨A', n', c', l', rfl, s1, s2, s3⟩ := rwli_end hI (by have := rws_len OA.out OB.out; omega)
          clear hI
          go_wp2
          go_ret
          exact ⟨A', n', c', l', rfl, s1, s2, s3⟩
end Go.Proofs.YtljglceaibgknaaGreatDoor
