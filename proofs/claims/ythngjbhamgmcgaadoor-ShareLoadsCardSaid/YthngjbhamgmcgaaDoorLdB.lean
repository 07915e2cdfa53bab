/-
  The walks of the reference's keys, Load and Least.
-/
import Derived.Test.YthngjbhamgmcgaaDoorLdA
namespace Go.Proofs.YthngjbhamgmcgaaDoor
open Go.RowKit Go.Shelf Go.Deep
attribute [local go_sem] Oper.semAt_some
set_option linter.unusedVariables false
set_option linter.unusedSimpArgs false

set_option maxHeartbeats 1000000 in
theorem Rkeys_any (A : Option Addr) (n c B : Nat) (xs : List ByteArray) (w : World) (hx : Reads w B 1 A n (xs.map Value.string)) (hk : Kok xs) :
    Calls Tryd.prog 23 #[.slice A n c] w fun e w' => e = .returned (.int .i64 0) ∧ w = w' := by
  have h60 : n ≤ 60 := by rw [← hx.len1]; exact hk.1
  have HS := hide hk.2
  clear hk
  go_enter Tryd.func23, Tryd.ntmps23
  go_wp2
  go_loop [3] (fun i => ∃ k : Nat, k ≤ n ∧ i = .int .i64 k) (fun i => n - (intOf i).toNat)
  case atStart => exact ⟨0, Nat.zero_le _, rfl⟩
  case round =>
    obtain ⟨k, hk, rfl⟩ := hrel
    by_cases hlt : k < n
    · obtain ⟨b, off, x, rfl, hb, hxk, hc⟩ := hx.at1 hlt
      have hsz := HS.out x (List.mem_of_getElem? hxk)
      clear hxk
      go_wp2
      go_round
      case rel => exact ⟨k + 1, by omega, by go_num⟩
      case measure => simp [intOf]; omega
    · go_wp2
      go_ret
      exact ⟨rfl, rfl⟩
set_option maxRecDepth 100000 in
set_option maxHeartbeats 4000000 in
theorem RLoad_any (A : Option Addr) (n c : Nat) (xs : List ByteArray) (p G : Int) (w : World) (hx : Reads w w.heap.size 1 A n (xs.map Value.string)) (hk : Kok xs) :
    Calls Tryd.prog 9 #[.slice A n c, .int .i64 p, .int .i64 G] w (RetSlE w 1 (lodL p G xs).length ((lodL p G xs).map fun j => Value.int .i64 ((j : Nat) : Int)) (lodE p G)) := by
  have HL := hide hx.len1
  have h60 : n ≤ 60 := by rw [← HL.out]; exact hk.1
  have HK := hide (Rkeys_any A n c _ xs w hx hk)
  have HN := hide (numbers_any p G w)
  have HS := hide (fun s hs => Nat.le_trans (hk.2 s hs) (show 200 ≤ 65536 by omega))
  clear hk
  cases hr : rightB p G
  · have HE := hide (show lodE p G = 7 by unfold lodE; rw [hr]; rfl)
    have HR := hide (show lodL p G xs = [] by unfold lodL; rw [hr]; rfl)
    rw [hr] at HN
    rw [HE.out, HR.out]
    clear hr hx
    go_enter Tryd.func9, Tryd.ntmps9
    go_wp2_with fail
    refine HK.out.mono ?_
    rintro e w' ⟨rfl, rfl⟩
    go_wp2_with fail
    refine HN.out.mono ?_
    rintro e w' ⟨rfl, rfl⟩
    go_wp2_with fail
    go_ret2
    exact ⟨none, 0, rfl, Reads.none_, Below.refl _ _⟩
  · have HE := hide (show lodE p G = 0 by unfold lodE; rw [if_pos hr])
    have HR := hide (show lodL p G xs = (List.range p.toNat).map (ldN (ofN p G) xs) by unfold lodL; rw [if_pos hr])
    have HO := hide (fun s => ofN_spec hr s)
    have HOE := hide (fun s => ofE_yes hr s)
    have hp := (rightB_iff p G).1 hr
    rw [hr] at HN
    clear hr
    obtain ⟨P, rfl⟩ : ∃ P : Nat, p = (P : Int) := ⟨p.toNat, by omega⟩
    have hP1 : 1 ≤ P := by omega
    have hP16 : P ≤ 16 := by omega
    have hmk := fun W => run_make_row' (P := Tryd.prog) 24 3 (.int .i64 0) 8 Tryd.underlying24 Tryd.infoInt rfl .i64 .i64 P (by omega) (by omega) W
    have r0 := World.rowIs_made w (.int .i64 0) P 3
    have hB0 := (Below.refl w.heap.size w).alloc (Nat.le_refl _) (.cells (madeCells #[.int .i64 0] P) 3)
    clear hp
    go_enter Tryd.func9, Tryd.ntmps9
    go_wp2_with fail
    refine HK.out.mono ?_
    rintro e w' ⟨rfl, rfl⟩
    go_wp2_with fail
    refine HN.out.mono ?_
    rintro e w' ⟨rfl, rfl⟩
    clear HK HN
    go_wp2_with fail
    obtain ⟨W, hW⟩ : ∃ W, w.alloc (.cells (madeCells #[.int .i64 0] P) 3) = W := ⟨_, rfl⟩
    rw [hW] at r0 hB0 ⊢
    clear hW
    obtain ⟨bO, hbO⟩ : ∃ bO, w.heap.size = bO := ⟨_, rfl⟩
    rw [hbO] at r0
    rw [hbO]
    have x1 : w.heap.size ≤ bO := by omega
    have HBO := hide hbO
    clear hbO
    rw [← HBO.out]
    go_loopw [10, 11, 12] (fun i _ _ wr => ∃ k : Nat, k ≤ n ∧ i = .int .i64 k ∧ wr.rowIs w.heap.size 3 P (fun j => .int .i64 ((ldN (ofN (P : Int) G) (xs.take k) j : Nat) : Int)) ∧ Below w.heap.size w wr) (fun i _ _ _ => n - (intOf i).toNat)
    case atStart => exact ⟨0, Nat.zero_le _, rfl, by rw [HBO.out]; exact r0, hB0⟩
    case round =>
      clear r0 hB0
      obtain ⟨k, hkk, rfl, rO, hB⟩ := hrel
      by_cases hlt : k < n
      · obtain ⟨b, off, x, hA, hb, hxk, hc⟩ := (hx.below hB).at1 hlt
        have HT := hide (take_snoc' hxk)
        have hs := HS.out x (List.mem_of_getElem? hxk)
        obtain ⟨_, ho2⟩ := HO.out x
        have hoe := HOE.out x
        obtain ⟨o, hoo⟩ : ∃ o, ofN (P : Int) G x = o := ⟨_, rfl⟩
        rw [hoo] at ho2 hoe
        have HOO := hide hoo
        have hcl : ldN (ofN (P : Int) G) (xs.take k) o ≤ 60 := Nat.le_trans (ldN_le _ _ _) (by rw [List.length_take]; omega)
        have hol : o < P := by omega
        have eO := rO.cell hol
        have fO := rO.frozen o
        obtain ⟨cv, hcv⟩ : ∃ cv, ldN (ofN (P : Int) G) (xs.take k) o = cv := ⟨_, rfl⟩
        rw [hcv] at hcl
        simp only [hcv] at eO
        have rO2 : (wr.setCell ⟨w.heap.size, o, none⟩ (.int .i64 ((cv : Int) + 1))).rowIs w.heap.size 3 P (fun j => .int .i64 ((ldN (ofN (P : Int) G) (xs.take (k + 1)) j : Nat) : Int)) := (rO.set o _).congr fun i _ => by
          rw [HT.out, ldN_snoc, HOO.out]
          by_cases e : i = o
          · rw [if_pos e, if_pos e, e, hcv]; simp
          · rw [if_neg e, if_neg e]
        have hB2 := hB.setCell (p := ⟨w.heap.size, o, none⟩) (Nat.le_refl _) (.int .i64 ((cv : Int) + 1))
        have HC := hide (ROf_any x hs (P : Int) G wr)
        rw [hoe] at HC
        have HRO := hide rO2
        clear hxk hoo hoe hcv rO rO2
        rw [hA]
        have HA := hide hA
        clear hA
        have q1 : (0 : Int) ≤ (k : Int) := by omega
        have q2 : (k : Int) < (n : Int) := by omega
        have q3 : (0 : Int) ≤ (o : Int) := by omega
        have q5 : (o : Int) < (P : Int) := by omega
        go_wp2_with fail
        refine HC.out.mono ?_
        rintro e w' ⟨rfl, rfl⟩
        go_wp2_with fail
        go_roundw
        case rel => exact ⟨k + 1, by omega, by go_num, HRO.out, hB2⟩
        case measure => simp [intOf]; omega
      · obtain rfl : k = n := by omega
        rw [take_all HL.out] at rO
        have HRD := hide (show Reads wr wr.heap.size 1 (some ⟨w.heap.size, 0, none⟩) P ((lodL (P : Int) G xs).map fun j => Value.int .i64 ((j : Nat) : Int)) from by
          rw [HR.out]
          refine ⟨by simp, fun _ => ⟨w.heap.size, 0, rfl, rO.lt, fun j u hu => ?_⟩⟩
          rw [Nat.zero_add]
          simp only [List.map_map, Int.toNat_natCast, List.getElem?_map] at hu
          rcases Nat.lt_or_ge j P with hj | hj
          · rw [List.getElem?_range hj] at hu
            simp at hu
            rw [← hu]
            exact rO.cell hj
          · rw [List.getElem?_eq_none (by simpa using hj)] at hu
            cases hu)
        have HN := hide (show (lodL (P : Int) G xs).length = P by rw [HR.out]; simp)
        clear rO
        go_wp2_with fail
        go_ret2
        rw [HE.out, HN.out]
        exact ⟨_, _, rfl, HRD.out, hB⟩
end Go.Proofs.YthngjbhamgmcgaaDoor
