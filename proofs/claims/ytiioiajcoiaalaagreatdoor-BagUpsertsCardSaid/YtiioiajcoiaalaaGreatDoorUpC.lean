/-
  The walk of the reference's Upserts. (Printed by gen_upc.)
-/
import Derived.Test.YtiioiajcoiaalaaGreatDoorUpB
import Derived.Test.YtiioiajcoiaalaaGreatDoorPjB
import Derived.Test.YtiioiajcoiaalaaGreatDoorNetM
namespace Go.Proofs.YtiioiajcoiaalaaGreatDoor
open Go.RowKit
attribute [local go_sem] Oper.semAt_some
set_option linter.unusedVariables false
set_option linter.unusedSimpArgs false

/-- A row has all columns of a key. -/
def hasR (r : Rw) (key : List Int) : Bool := key.all fun c => btw c 0 ((r.length : Int) - 1)
theorem hasR_eq {key : List Int} (h : ∀ c ∈ key, 0 ≤ c) (r : Rw) : hasR r key = hasB r key := by
  unfold hasR hasB
  rw [Bool.eq_iff_iff, List.all_eq_true, List.all_eq_true]
  constructor
  · intro k c hc
    have := btw_iff.1 (k c hc)
    rw [decide_eq_true_eq]
    omega
  · intro k c hc
    have h1 := of_decide_eq_true (k c hc)
    exact btw_iff.2 ⟨h c hc, by omega⟩
theorem upOK_eq (key : List Int) (d : Bg) (l : List Ch) : upOK key d l = (okK key && (d.all fun x => hasR x.1 key) && l.all fun c => hasR c.r key) := by
  unfold upOK
  cases hk : okK key
  · rfl
  have h0 := fun c hc => (okK_pos hk c hc).1
  have e : hasR = hasR := rfl
  congr 1
  · congr 1
    exact List.all_congr rfl fun x => (hasR_eq h0 x.1).symm
  · exact List.all_congr rfl fun x => (hasR_eq h0 x.r).symm
set_option maxRecDepth 100000 in
set_option maxHeartbeats 2000000 in
theorem Rhas_any (A : Option Addr) (n c : Nat) (r : Rw) (A' : Option Addr) (n' c' : Nat) (key : List Int) (w : World) (hr : r.length = n) (hn : n ≤ 9223372036854775807) (hkr : Reads w w.heap.size 1 A' n' (key.map (Value.int .i64))) (hn' : n' ≤ 9223372036854775807) :
    Calls Tryz.prog 77 #[.slice A n c, .slice A' n' c'] w (RetV w (.bool (hasR r key))) := by
  have HL := hide hkr.len1
  have HR := hide hr
  obtain ⟨p, hp⟩ : ∃ p, hasR r key = p := ⟨_, rfl⟩
  rw [hp]
  have HP := hide hp
  clear hp hr
  have hw1 : IntKind.i64.wrap ((n : Int) - 1) = (n : Int) - 1 := by rw [IntKind.wrap_i64]; omega
  go_enter Tryz.func77, Tryz.ntmps77
  go_wp2_with fail
  go_loopw [5] (fun i wr => ∃ k : Nat, k ≤ n' ∧ i = .int .i64 k ∧ hasR r (key.take k) = true ∧ Below w.heap.size w wr) (fun i _ => n' - (intOf i).toNat)
  case atStart => exact ⟨0, Nat.zero_le _, rfl, rfl, Below.refl _ _⟩
  case round =>
    obtain ⟨k, hk, rfl, hal, hBw⟩ := hrel
    have HAL := hide hal
    clear hal
    by_cases hlt : k < n'
    · obtain ⟨b, off, x, rfl, hb, hxk, c0⟩ := (hkr.below hBw).at1 hlt
      have HXK := hide hxk
      obtain ⟨bt, hbt⟩ : ∃ bt, btw x 0 ((n : Int) - 1) = bt := ⟨_, rfl⟩
      have HW := hide (hbt ▸ R3within_any x 0 ((n : Int) - 1) wr)
      have HBT := hide hbt
      have q1 : (0 : Int) ≤ (k : Int) := by omega
      have q2 : (k : Int) < (n' : Int) := by omega
      clear hxk hbt
      go_wp2_with fail
      refine HW.out.mono ?_
      rintro e wr' ⟨rfl, rfl⟩
      clear HW c0
      cases bt
      · have HX := hide (show p = false by
          rw [← HP.out]
          unfold hasR
          rw [List.all_eq_false]
          exact ⟨x, List.mem_of_getElem? HXK.out, by rw [HR.out, HBT.out]; decide⟩)
        go_wp2
        go_ret
        exact ⟨ret_bool HX.out.symm, hBw⟩
      · have HX := hide (show hasR r (key.take (k + 1)) = true by
          have h1 := HAL.out
          unfold hasR at h1 ⊢
          rw [take_snoc' HXK.out, List.all_append, h1]
          simp only [List.all_cons, List.all_nil, Bool.and_true, Bool.true_and]
          rw [HR.out]
          exact HBT.out)
        go_wp2
        go_roundw
        case rel => exact ⟨k + 1, by omega, by go_num, HX.out, hBw⟩
        case measure => simp [intOf] <;> omega
    · obtain rfl : k = n' := by omega
      have HX := hide (show p = true by have := HAL.out; rw [take_all HL.out] at this; rw [← HP.out]; exact this)
      go_wp2
      go_ret
      exact ⟨ret_bool HX.out.symm, hBw⟩
set_option maxRecDepth 100000 in
set_option maxHeartbeats 16000000 in
theorem RUpserts_any (A : Option Addr) (n c : Nat) (l : List It) (A2 : Option Addr) (n2 c2 : Nat) (lc : List Ch) (A3 : Option Addr) (n3 c3 : Nat) (key : List Int) (w : World) (hb : BagR w w.heap.size A n l) (hcp : n ≤ c) (hx : ChgR w w.heap.size A2 n2 lc)
    (hkr : Reads w w.heap.size 1 A3 n3 (key.map (Value.int .i64))) (hn3 : n3 ≤ 1000) :
    Calls Tryz.prog 27 #[.slice A n c, .slice A2 n2 c2, .slice A3 n3 c3] w (RetC w (upsB (dat l) lc key)) := by
  obtain ⟨i0, hi, hz0, hz1, hz2⟩ := info_parts3 infoItem
  obtain ⟨p, hp⟩ : ∃ p, upsB (dat l) lc key = p := ⟨_, rfl⟩
  rw [hp]
  have HP := hide hp
  clear hp
  have HLK := hide hkr.len1
  have HLB := hide hb.len
  have HLC := hide hx.len
  go_enter Tryz.func27, Tryz.ntmps27
  go_wp2_with fail
  refine (R3Valid_any A n c _ l w hb).mono ?_
  rintro e W1 ⟨rfl, hB1⟩
  cases oa : okBag (dat l)
  · have HQ := hide (show p = ([], 1) by rw [← HP.out]; unfold upsB; rw [oa]; rfl)
    clear oa
    go_wp2
    go_ret2
    rw [HQ.out]
    exact ⟨none, 0, 0, [], rfl, rfl, BagR.nil _ _, Nat.le_refl _, hB1⟩
  have OA := hide oa
  clear oa
  go_wp2_with fail
  refine (RValidChanges_any A2 n2 c2 _ lc W1 (hx.below hB1) hB1.size).mono ?_
  rintro e W2 ⟨rfl, hB2⟩
  have hB02 := bstep hB1 hB2
  clear hB1 hB2
  cases ob : okChs lc
  · have HQ := hide (show p = ([], 1) by rw [← HP.out]; unfold upsB; rw [OA.out, ob]; rfl)
    clear ob
    go_wp2
    go_ret2
    rw [HQ.out]
    exact ⟨none, 0, 0, [], rfl, rfl, BagR.nil _ _, Nat.le_refl _, hB02⟩
  have OB := hide ob
  have hb2 := (hb.below hB02).mono hB02.size
  have hx2 : ChgR W2 W2.heap.size A2 n2 lc := ⟨(hx.below hB02).rd, fun i hi => ((hx.below hB02).rows i hi).mono hB02.size, hx.le⟩
  have hk2 := hkr.up hB02
  have HB02 := hide hB02
  have hn4 : n ≤ 400 := by have := (okBag_asc OA.out).2.2; rw [dat_len, HLB.out] at this; exact this
  have hm4 : n2 ≤ 400 := by have := (chs_in OB.out).2; rw [HLC.out] at this; exact this
  have HOKC := hide (show ∀ i ∈ lc, okR i.r = true from fun i hi => ((chs_in OB.out).1 (i.r, i.m) (List.mem_map.2 ⟨i, hi, rfl⟩)).1)
  clear ob hb hx hkr hB02
  have HEMP := hide (show decide (0 < n3) = !key.isEmpty by
    have := HLK.out
    cases key with
    | nil => simp at this; rw [← this]; rfl
    | cons x y => simp at this; simp; omega)
  go_wp2_with fail
  rw [HEMP.out]
  go_loopw [8, 9] (fun o i wr => ∃ k : Nat, k ≤ n3 ∧ i = .int .i64 k ∧ o = .bool (!key.isEmpty && (key.take k).all fun c => btw c 0 7) ∧ Below W2.heap.size W2 wr) (fun _ i _ => n3 - (intOf i).toNat)
  case atStart => exact ⟨0, Nat.zero_le _, rfl, by simp, Below.refl _ _⟩
  case round =>
    obtain ⟨k, hk, rfl, rfl, hBw⟩ := hrel
    by_cases hlt : k < n3
    · obtain ⟨b, off, x, rfl, hb, hxk, c0⟩ := (hk2.below hBw).at1 hlt
      have HXK := hide hxk
      have q1 : (0 : Int) ≤ (k : Int) := by omega
      have q2 : (k : Int) < (n3 : Int) := by omega
      have HN := hide (show (!key.isEmpty && (key.take (k + 1)).all fun c => btw c 0 7) = ((!key.isEmpty && (key.take k).all fun c => btw c 0 7) && btw x 0 7) by rw [take_snoc' hxk, List.all_append]; simp [Bool.and_assoc])
      obtain ⟨o, ho⟩ : ∃ o, (!key.isEmpty && (key.take k).all fun c => btw c 0 7) = o := ⟨_, rfl⟩
      rw [ho] at HN ⊢
      obtain ⟨bt, hbt⟩ : ∃ bt, btw x 0 7 = bt := ⟨_, rfl⟩
      rw [hbt] at HN
      have HW := hide (hbt ▸ R3within_any x 0 7 wr)
      clear hxk hbt ho
      cases o
      · go_wp2
        go_roundw
        case rel => exact ⟨k + 1, by omega, by go_num, by rw [HN.out]; rfl, hBw⟩
        case measure => simp [intOf] <;> omega
      · go_wp2_with fail
        refine HW.out.mono ?_
        rintro e wr' ⟨rfl, rfl⟩
        clear HW c0
        go_wp2
        go_roundw
        case rel => exact ⟨k + 1, by omega, by go_num, by rw [HN.out]; rfl, hBw⟩
        case measure => simp [intOf] <;> omega
    · obtain rfl : k = n3 := by omega
      have hok : (!key.isEmpty && (key.take k).all fun c => btw c 0 7) = okK key := by rw [take_all HLK.out]; rfl
      rw [hok]
      clear hok
      go_wp2_with fail
      go_loopw [8, 10] (fun o i wx => ∃ j : Nat, j ≤ n ∧ i = .int .i64 j ∧ o = .bool (okK key && ((dat l).take j).all fun x => hasR x.1 key) ∧ Below W2.heap.size W2 wx) (fun _ i _ => n - (intOf i).toNat)
      case atStart => exact ⟨0, Nat.zero_le _, rfl, by simp, hBw⟩
      case round =>
        clear hBw
        obtain ⟨j, hj, rfl, rfl, hBw⟩ := hrel
        by_cases hlt2 : j < n
        · obtain ⟨b, off, x, rfl, hbl, hxk, e0, e1, hrow⟩ := (hb2.below hBw).at_ hlt2
          have HN := hide (show (okK key && ((dat l).take (j + 1)).all fun x => hasR x.1 key) = ((okK key && ((dat l).take j).all fun x => hasR x.1 key) && hasR x.r key) by rw [take_snoc' (dat_at hxk), List.all_append]; simp [Bool.and_assoc])
          obtain ⟨o, ho⟩ : ∃ o, (okK key && ((dat l).take j).all fun x => hasR x.1 key) = o := ⟨_, rfl⟩
          rw [ho] at HN ⊢
          obtain ⟨bt, hbt⟩ : ∃ bt, hasR x.r key = bt := ⟨_, rfl⟩
          rw [hbt] at HN
          have HW := hide (hbt ▸ Rhas_any x.A x.n x.c x.r A3 k c3 key wr hrow.len hrow.le ((hk2.below hBw).more hBw.size) (by omega))
          have q1 : (0 : Int) ≤ (j : Int) := by omega
          have q2 : (j : Int) < (n : Int) := by omega
          clear hxk hbt ho hrow
          cases o
          · go_wp2
            go_roundw
            case rel => exact ⟨j + 1, by omega, by go_num, by rw [HN.out]; rfl, hBw⟩
            case measure => simp [intOf] <;> omega
          · go_wp2_with fail
            refine HW.out.mono ?_
            rintro e X ⟨rfl, hB3⟩
            have hBx := hBw.trans (hB3.mono hBw.size)
            clear HW hB3 hBw e0 e1
            go_wp2
            go_roundw
            case rel => exact ⟨j + 1, by omega, by go_num, by rw [HN.out]; rfl, hBx⟩
            case measure => simp [intOf] <;> omega
        · obtain rfl : j = n := by omega
          have hok : (okK key && ((dat l).take j).all fun x => hasR x.1 key) = (okK key && (dat l).all fun x => hasR x.1 key) := by rw [take_all (by rw [dat_len]; exact HLB.out)]
          rw [hok]
          clear hok
          obtain ⟨o2, ho2⟩ : ∃ o2, (okK key && (dat l).all fun x => hasR x.1 key) = o2 := ⟨_, rfl⟩
          have HO2 := hide ho2
          rw [ho2]
          clear ho2
          go_wp2_with fail
          go_loopw [8, 11] (fun o i wx => ∃ q : Nat, q ≤ n2 ∧ i = .int .i64 q ∧ o = .bool (o2 && (lc.take q).all fun x => hasR x.r key) ∧ Below W2.heap.size W2 wx) (fun _ i _ => n2 - (intOf i).toNat)
          case atStart => exact ⟨0, Nat.zero_le _, rfl, by simp, hBw⟩
          case round =>
            clear hBw
            obtain ⟨q, hq, rfl, rfl, hBw⟩ := hrel
            by_cases hlt3 : q < n2
            · obtain ⟨b, off, x, rfl, hbl, hxk, e0, e1, e2, hrow⟩ := (hx2.below hBw).at_ hlt3
              have HN := hide (show (o2 && (lc.take (q + 1)).all fun x => hasR x.r key) = ((o2 && (lc.take q).all fun x => hasR x.r key) && hasR x.r key) by rw [take_snoc' hxk, List.all_append]; simp [Bool.and_assoc])
              obtain ⟨o, ho⟩ : ∃ o, (o2 && (lc.take q).all fun x => hasR x.r key) = o := ⟨_, rfl⟩
              rw [ho] at HN ⊢
              obtain ⟨bt, hbt⟩ : ∃ bt, hasR x.r key = bt := ⟨_, rfl⟩
              rw [hbt] at HN
              have HW := hide (hbt ▸ Rhas_any x.A x.n x.c x.r A3 k c3 key wr hrow.len hrow.le ((hk2.below hBw).more hBw.size) (by omega))
              have q1 : (0 : Int) ≤ (q : Int) := by omega
              have q2 : (q : Int) < (n2 : Int) := by omega
              clear hxk hbt ho hrow
              cases o
              · go_wp2
                go_roundw
                case rel => exact ⟨q + 1, by omega, by go_num, by rw [HN.out]; rfl, hBw⟩
                case measure => simp [intOf] <;> omega
              · go_wp2_with fail
                refine HW.out.mono ?_
                rintro e X ⟨rfl, hB3⟩
                have hBx := hBw.trans (hB3.mono hBw.size)
                clear HW hB3 hBw e0 e1 e2
                go_wp2
                go_roundw
                case rel => exact ⟨q + 1, by omega, by go_num, by rw [HN.out]; rfl, hBx⟩
                case measure => simp [intOf] <;> omega
            · obtain rfl : q = n2 := by omega
              have hok : (o2 && (lc.take q).all fun x => hasR x.r key) = upOK key (dat l) lc := by rw [take_all HLC.out, upOK_eq, HO2.out]
              rw [hok]
              clear hok
              cases ou : upOK key (dat l) lc
              · have HQ := hide (show p = ([], 7) by rw [← HP.out]; unfold upsB; rw [OA.out, OB.out, ou]; rfl)
                have HE := hide (bstep HB02.out hBw)
                clear ou hBw
                go_wp2
                go_ret2
                rw [HQ.out]
                exact ⟨none, 0, 0, [], rfl, rfl, BagR.nil _ _, Nat.le_refl _, HE.out⟩
              have OU := hide ou
              have HQ := hide (show p = toldB (upQ key (dat l) lc) by rw [← HP.out]; unfold upsB; rw [OA.out, OB.out, ou]; rfl)
              have HHAS := hide (show ∀ i ∈ lc, hasB i.r key = true from fun i hi => by
                have h := OU.out
                unfold upOK at h
                rw [Bool.and_eq_true, Bool.and_eq_true, List.all_eq_true, List.all_eq_true] at h
                exact h.2 i hi)
              have HK0 := hide (show ∀ c ∈ key, 0 ≤ c from fun c hc => by
                have h := OU.out
                unfold upOK at h
                rw [Bool.and_eq_true, Bool.and_eq_true] at h
                exact (okK_pos h.1.1 c hc).1)
              have HALL := hide (up_all OA.out OB.out ou)
              have HNUM := hide (fun t => upQ_num (key := key) OA.out OB.out t)
              have hb3 := (hb2.below hBw).mono (Nat.le_refl _)
              clear ou
              go_wp2_with fail
              go_loopw [12, 13] (fun v i wx => ∃ (t : Nat) (Ao : Option Addr) (no co : Nat) (lo : List It), t ≤ q ∧ i = .int .i64 t ∧ .slice Ao no co = v ∧ BagR wx wx.heap.size Ao no lo ∧ no ≤ co ∧ no ≤ j + t ∧ dat lo = upQ key (dat l) (lc.take t) ∧ Below W2.heap.size W2 wx) (fun _ i _ => q - (intOf i).toNat)
              case atStart => exact ⟨0, _, _, _, l, Nat.zero_le _, rfl, rfl, (hb2.below hBw).mono hBw.size, hcp, Nat.le_refl _, rfl, hBw⟩
              case round =>
                clear hBw hb3
                obtain ⟨t, Ao, no, co, lo, ht, rfl, rfl, hbo, hco, hno, hdo, hBw⟩ := hrel
                have HDO := hide hdo
                have HLO := hide hbo.len
                clear hdo
                by_cases hlt4 : t < q
                · obtain ⟨b2, off2, x, rfl, hb2', hxk, f0, f1, f2, hrowx⟩ := (hx2.below hBw).at_ hlt4
                  have hmem := List.mem_of_getElem? hxk
                  have hxok := HOKC.out x hmem
                  have hxh := HHAS.out x hmem
                  have hUN := HALL.out t
                  have HNX := hide (show upQ key (dat l) (lc.take (t + 1)) = upR key (dat lo) x by rw [take_snoc' hxk, upQ_snoc, HDO.out])
                  have HASC := hide (show Asc (dat lo) by rw [HDO.out]; exact hUN.net.asc)
                  have HOKO := hide (show ∀ y ∈ dat lo, okR y.1 = true from fun y hy => HASC.out.ok y hy)
                  have HNUMO := hide (show ∀ y ∈ dat lo, -1000000 ≤ y.2 ∧ y.2 ≤ 1000000 from fun y hy => by rw [HDO.out] at hy; exact HNUM.out t y hy)
                  have HHO := hide (show ∀ y ∈ dat lo, hasB y.1 key = true from fun y hy => by
                    have h1 := look_mem HASC.out hy
                    have h2 := hUN.net.sum y.1
                    rw [← HDO.out, h1] at h2
                    by_cases he : ∃ z ∈ upP key (dat l) (lc.take t), z.1 = y.1
                    · obtain ⟨z, hz, e⟩ := he
                      rw [← e]; exact (hUN.ok z hz).2
                    · have h3 : y.2 ≠ 0 := by have := hUN.net.ne y (by rw [← HDO.out]; exact hy); exact this
                      have key0 : ∀ P : Bg, (∀ z ∈ P, z.1 ≠ y.1) → sumG P y.1 = 0 := by
                        intro P hP
                        induction P with
                        | nil => rfl
                        | cons z P ih =>
                          rw [sumG, if_neg (hP z (by simp)), ih fun u hu => hP u (List.mem_cons_of_mem _ hu)]
                          rfl
                      rw [key0 _ fun z hz e => he ⟨z, hz, e⟩] at h2
                      exact absurd h2 h3)
                  have q1 : (0 : Int) ≤ (t : Int) := by omega
                  have q2 : (t : Int) < (q : Int) := by omega
                  have HF1 := hide f1
                  have HF2 := hide f2
                  have HRX := hide hrowx
                  clear hxk hmem hUN f0 f1 f2 hrowx
                  go_wp2_with fail
                  obtain ⟨wk, hwk⟩ : ∃ wk : World, wk = wr := ⟨_, rfl⟩
                  subst hwk
                  have hp0 : PutI wk (((dat lo).take 0).filter fun y => decide (cmpR (pick y.1 key) (pick x.r key) ≠ 0)) (.slice none 0 0) wk := ⟨Below.refl _ _, ⟨[], World.ownsRow_nil _ _ _ _, rfl, nofun⟩, trivial⟩
                  go_loopw [14, 15] (fun v i wx => ∃ (s : Nat) (v' : Value), s ≤ no ∧ i = .int .i64 s ∧ v' = v ∧ PutI wk (((dat lo).take s).filter fun y => decide (cmpR (pick y.1 key) (pick x.r key) ≠ 0)) v' wx) (fun _ i _ => no - (intOf i).toNat)
                  case atStart => exact ⟨0, _, Nat.zero_le _, rfl, rfl, hp0⟩
                  case round =>
                    clear hp0
                    obtain ⟨s, v, hs, rfl, rfl, hI⟩ := hrel
                    by_cases hlt5 : s < no
                    · obtain ⟨b1, off1, y, rfl, hb1', hyk, g0, g1, hrowy⟩ := hbo.at_ hlt5
                      have hyd := dat_at hyk
                      have hymem := List.mem_of_getElem? hyd
                      have hyok := HOKO.out _ hymem
                      have hyh := HHO.out _ hymem
                      simp only at hyok hyh
                      have hKL : (((dat lo).take s).filter fun y => decide (cmpR (pick y.1 key) (pick x.r key) ≠ 0)).length ≤ 900 := by
                        refine Nat.le_trans (List.length_filter_le _ _) ?_
                        rw [List.length_take]
                        omega
                      have HTS := hide (show ((dat lo).take (s + 1)).filter (fun y => decide (cmpR (pick y.1 key) (pick x.r key) ≠ 0)) = ((dat lo).take s).filter (fun y => decide (cmpR (pick y.1 key) (pick x.r key) ≠ 0)) ++ if cmpR (pick y.r key) (pick x.r key) ≠ 0 then [(y.r, y.m)] else [] by
                        rw [take_snoc' hyd, List.filter_append]
                        congr 1
                        by_cases h : cmpR (pick y.r key) (pick x.r key) = 0 <;> simp [h])
                      obtain ⟨D, hD⟩ : ∃ D, ((dat lo).take s).filter (fun y => decide (cmpR (pick y.1 key) (pick x.r key) ≠ 0)) = D := ⟨_, rfl⟩
                      rw [hD] at hI HTS hKL
                      obtain ⟨cc, hcc⟩ : ∃ cc, cmpR (pick y.r key) (pick x.r key) = cc := ⟨_, rfl⟩
                      rw [hcc] at HTS
                      have HCC := hide hcc
                      have hpy : ∀ (i : Nat) (z : Int), key[i]? = some z → 0 ≤ z ∧ z ≤ (y.n : Int) - 1 := fun i z hz => by
                        have h1 := HK0.out z (List.mem_of_getElem? hz)
                        have h2 := of_decide_eq_true (List.all_eq_true.1 hyh z (List.mem_of_getElem? hz))
                        have h3 := hrowy.len
                        omega
                      have hpx : ∀ (i : Nat) (z : Int), key[i]? = some z → 0 ≤ z ∧ z ≤ (x.n : Int) - 1 := fun i z hz => by
                        have h1 := HK0.out z (List.mem_of_getElem? hz)
                        have h2 := of_decide_eq_true (List.all_eq_true.1 hxh z (List.mem_of_getElem? hz))
                        have h3 := HRX.out.len
                        omega
                      have HPY := hide (fun (X : World) (hX : Below wk.heap.size wk X) => Picks_any y.A y.n y.c y.r A3 k c3 key X (hrowy.below hX).rd hrowy.le ((hk2.below (hBw.trans (hX.mono hBw.size))).more (Nat.le_trans hBw.size hX.size)) hn3 hpy)
                      have HPX := hide (fun (X : World) (hX : Below wk.heap.size wk X) => Picks_any x.A x.n x.c x.r A3 k c3 key X (HRX.out.below hX).rd HRX.out.le ((hk2.below (hBw.trans (hX.mono hBw.size))).more (Nat.le_trans hBw.size hX.size)) hn3 hpx)
                      have HG0 := hide g0
                      have HG1 := hide g1
                      have HRY := hide hrowy
                      have k0 := (hI.bel.cell (p := ⟨b1, off1 + s * 2, none⟩) hb1').trans g0
                      have k1 := (hI.bel.cell (p := ⟨b2, off2 + t * 3 + 1, none⟩) hb2').trans HF1.out
                      have q3 : (0 : Int) ≤ (s : Int) := by omega
                      have q4 : (s : Int) < (no : Int) := by omega
                      clear hyk hyd hymem hyok hyh hD hcc hpy hpx g0 g1 hrowy
                      go_wp2_with fail
                      refine Held.begin (fun z => z.cell? ⟨b1, off1 + s * 2, none⟩ = some (.slice y.A y.n y.c) ∧ z.cell? ⟨b2, off2 + t * 3 + 1, none⟩ = some (.slice x.A x.n x.c)) 100 (by kernel_rfl) ?_
                      have hI := hI.below (Below.refl wr.heap.size wr).drew
                      obtain ⟨X1, hX1⟩ : ∃ X1, wr.drew = X1 := ⟨_, rfl⟩
                      have hS : X1.cell? ⟨b1, off1 + s * 2, none⟩ = some (.slice y.A y.n y.c) ∧ X1.cell? ⟨b2, off2 + t * 3 + 1, none⟩ = some (.slice x.A x.n x.c) := by rw [← hX1]; exact ⟨k0, k1⟩
                      rw [hX1] at hI ⊢
                      clear hX1 k0 k1
                      refine Held.take (i := 0) (.slice (some ⟨b1, off1, none⟩) no co) rfl hS (by kernel_rfl) (by kernel_rfl) (by kernel_rfl) (by kernel_rfl) (fun _ _ _ h => h) rfl (fun y hy => by obtain ⟨x1, x2⟩ := hy; go_simp) ?_
                      try simp only [Act.put]
                      refine Held.take (i := 1) (.int .i64 (s : Int)) rfl hS (by kernel_rfl) (by kernel_rfl) (by kernel_rfl) (by kernel_rfl) (fun _ _ _ h => h) rfl (fun y hy => by obtain ⟨x1, x2⟩ := hy; go_simp) ?_
                      try simp only [Act.put]
                      refine Held.take (i := 2) (.pointer (some ⟨b1, off1 + s * 2, none⟩)) rfl hS (by kernel_rfl) (by kernel_rfl) (by kernel_rfl) (by kernel_rfl) (fun _ _ _ h => h) rfl (fun y hy => by obtain ⟨x1, x2⟩ := hy; go_simp) ?_
                      try simp only [Act.put]
                      refine Held.take (i := 3) (.pointer (some ⟨b1, off1 + s * 2, none⟩)) rfl hS (by kernel_rfl) (by kernel_rfl) (by kernel_rfl) (by kernel_rfl) (fun _ _ _ h => h) rfl (fun y hy => by obtain ⟨x1, x2⟩ := hy; go_simp) ?_
                      try simp only [Act.put]
                      refine Held.take (i := 4) (.slice y.A y.n y.c) rfl hS (by kernel_rfl) (by kernel_rfl) (by kernel_rfl) (by kernel_rfl) (fun _ _ _ h => h) rfl (fun y hy => by obtain ⟨x1, x2⟩ := hy; go_simp) ?_
                      try simp only [Act.put]
                      refine Held.take (i := 5) (.slice A3 k c3) rfl hS (by kernel_rfl) (by kernel_rfl) (by kernel_rfl) (by kernel_rfl) (fun _ _ _ h => h) rfl (fun y hy => by obtain ⟨x1, x2⟩ := hy; go_simp) ?_
                      try simp only [Act.put]
                      refine Held.take (i := 7) (.slice (some ⟨b2, off2, none⟩) q c2) rfl hS (by kernel_rfl) (by kernel_rfl) (by kernel_rfl) (by kernel_rfl) (fun _ _ _ h => h) rfl (fun y hy => by obtain ⟨x1, x2⟩ := hy; go_simp) ?_
                      try simp only [Act.put]
                      refine Held.take (i := 8) (.int .i64 (t : Int)) rfl hS (by kernel_rfl) (by kernel_rfl) (by kernel_rfl) (by kernel_rfl) (fun _ _ _ h => h) rfl (fun y hy => by obtain ⟨x1, x2⟩ := hy; go_simp) ?_
                      try simp only [Act.put]
                      refine Held.take (i := 9) (.pointer (some ⟨b2, off2 + t * 3, none⟩)) rfl hS (by kernel_rfl) (by kernel_rfl) (by kernel_rfl) (by kernel_rfl) (fun _ _ _ h => h) rfl (fun y hy => by obtain ⟨x1, x2⟩ := hy; go_simp) ?_
                      try simp only [Act.put]
                      refine Held.take (i := 10) (.pointer (some ⟨b2, off2 + t * 3 + 1, none⟩)) rfl hS (by kernel_rfl) (by kernel_rfl) (by kernel_rfl) (by kernel_rfl) (fun _ _ _ h => h) rfl (fun y hy => by obtain ⟨x1, x2⟩ := hy; go_simp) ?_
                      try simp only [Act.put]
                      refine Held.take (i := 11) (.slice x.A x.n x.c) rfl hS (by kernel_rfl) (by kernel_rfl) (by kernel_rfl) (by kernel_rfl) (fun _ _ _ h => h) rfl (fun y hy => by obtain ⟨x1, x2⟩ := hy; go_simp) ?_
                      try simp only [Act.put]
                      refine Held.take (i := 12) (.slice A3 k c3) rfl hS (by kernel_rfl) (by kernel_rfl) (by kernel_rfl) (by kernel_rfl) (fun _ _ _ h => h) rfl (fun y hy => by obtain ⟨x1, x2⟩ := hy; go_simp) ?_
                      try simp only [Act.put]
                      refine Held.one (i := 6) rfl (by kernel_rfl) rfl (fun K hK => ?_)
                      unfold Oper.wp
                      go_simp
                      refine (HPY.out X1 hI.bel).mono ?_
                      rintro e X2 ⟨Ap, cp, rfl, hrd1, hB2⟩
                      have hI2 := hI.below hB2
                      have hS2 : X2.cell? ⟨b1, off1 + s * 2, none⟩ = some (.slice y.A y.n y.c) ∧ X2.cell? ⟨b2, off2 + t * 3 + 1, none⟩ = some (.slice x.A x.n x.c) := ⟨(hB2.cell (World.block_lt_of_cell? _ _ hS.1)).trans hS.1, (hB2.cell (World.block_lt_of_cell? _ _ hS.2)).trans hS.2⟩
                      refine hK _ _ (fun _ => hS2) ?_
                      try simp only [Act.put]
                      clear hK K hS hB2 hI
                      refine Held.one (i := 13) rfl (by kernel_rfl) rfl (fun K hK => ?_)
                      unfold Oper.wp
                      go_simp
                      refine (HPX.out X2 hI2.bel).mono ?_
                      rintro e X3 ⟨Aq, cq, rfl, hrd2, hB3⟩
                      have hI3 := hI2.below hB3
                      have hrd1 := hrd1.up hB3
                      have hS3 : X3.cell? ⟨b1, off1 + s * 2, none⟩ = some (.slice y.A y.n y.c) ∧ X3.cell? ⟨b2, off2 + t * 3 + 1, none⟩ = some (.slice x.A x.n x.c) := ⟨(hB3.cell (World.block_lt_of_cell? _ _ hS2.1)).trans hS2.1, (hB3.cell (World.block_lt_of_cell? _ _ hS2.2)).trans hS2.2⟩
                      refine hK _ _ (fun _ => hS3) ?_
                      try simp only [Act.put]
                      clear hK K hS2 hB3 hI2 HPY HPX
                      have HCM := hide (R2Compare_any Ap k cp (pick y.r key) Aq k cq (pick x.r key) X3 hrd1 hrd2 (by omega))
                      rw [HCC.out] at HCM
                      refine Held.one (i := 14) rfl (by kernel_rfl) rfl (fun K hK => ?_)
                      unfold Oper.wp
                      go_simp
                      refine HCM.out.mono ?_
                      rintro e X4 ⟨rfl, hB4⟩
                      have hI := hI3.below hB4
                      have hS : X4.cell? ⟨b1, off1 + s * 2, none⟩ = some (.slice y.A y.n y.c) ∧ X4.cell? ⟨b2, off2 + t * 3 + 1, none⟩ = some (.slice x.A x.n x.c) := ⟨(hB4.cell (World.block_lt_of_cell? _ _ hS3.1)).trans hS3.1, (hB4.cell (World.block_lt_of_cell? _ _ hS3.2)).trans hS3.2⟩
                      refine hK _ _ (fun _ => hS) ?_
                      try simp only [Act.put]
                      clear hK K hS3 hB4 hI3 hrd1 hrd2 HCM
                      refine Held.take (i := 15) (.bool (cc != 0)) rfl hS (by kernel_rfl) (by kernel_rfl) (by kernel_rfl) (by kernel_rfl) (fun _ _ _ h => h) rfl (fun y hy => by obtain ⟨x1, x2⟩ := hy; go_simp) ?_
                      try simp only [Act.put]
                      refine Held.done (by kernel_rfl) ?_
                      have k0 := hS.1
                      have k1 := (hI.bel.cell (p := ⟨b1, off1 + s * 2 + 1, none⟩) hb1').trans HG1.out
                      clear hS
                      by_cases hc0 : cc = 0
                      · have z : (cc != 0) = false := by simpa using hc0
                        have HE := hide (show ((dat lo).take (s + 1)).filter (fun y => decide (cmpR (pick y.1 key) (pick x.r key) ≠ 0)) = D by rw [HTS.out, if_neg (by simpa using hc0), List.append_nil])
                        have HI := hide hI
                        clear hc0 hI k0 k1
                        go_wp2
                        go_roundw
                        case rel => exact ⟨s + 1, _, by omega, by go_num, rfl, by rw [HE.out]; exact HI.out⟩
                        case measure => simp [intOf] <;> omega
                      · have z : (cc != 0) = true := by simpa using hc0
                        have HE := hide (show ((dat lo).take (s + 1)).filter (fun y => decide (cmpR (pick y.1 key) (pick x.r key) ≠ 0)) = D ++ [(y.r, y.m)] by rw [HTS.out, if_pos hc0])
                        have hle := hI.bel.size
                        obtain ⟨hbel, ⟨l', h1, h2, h3⟩, _⟩ := hI
                        have hll : l'.length ≤ 900 := by rw [← dat_len, h2]; exact hKL
                        have hrd := one_reads X4 62 [.slice y.A y.n y.c, .int .i64 y.m] 2 rfl
                        have hrow := HRY.out.below hbel
                        have HH2 := hide h2
                        clear hc0 h2 hKL
                        go_wp2_with (at_builtin; refine wpList_append_any _ rfl _ _ 23 rfl wk.heap.size 62 i0 _ 2 32 Tryz.underlying23 hi hz0 hz1 hz2 rfl (by decide) v l'.length _ rfl (h1.alloc _) (X4.heap.size + 1) (some ⟨X4.heap.size, 0, none⟩) 1 1 [.slice y.A y.n y.c, .int .i64 y.m] rfl hrd (by simp [Value.oneCell']) (by unfold maxLen; omega) (by omega) (by simp; omega) ?_; intro v' X5 hown1 hgrow _)
                        have HI2 := hide (puti_app hbel h1 HH2.out h3 hrow hown1 hgrow)
                        clear hbel h1 h3 hrow hown1 hgrow hrd hle k0 k1
                        go_wp2
                        go_roundw
                        case rel => exact ⟨s + 1, _, by omega, by go_num, rfl, by rw [HE.out]; exact HI2.out⟩
                        case measure => simp [intOf] <;> omega
                    · obtain rfl : s = no := by omega
                      rw [take_all (by rw [dat_len]; exact HLO.out)] at hI
                      have hln : ((dat lo).filter fun y => decide (cmpR (pick y.1 key) (pick x.r key) ≠ 0)).length ≤ s := by
                        refine Nat.le_trans (List.length_filter_le _ _) ?_
                        rw [dat_len, HLO.out]
                        exact Nat.le_refl _
                      obtain ⟨A6, n6, c6, l6, rfl, s1, s2, s3, s4⟩ := puti_bag hI (by omega)
                      have hn6 : n6 ≤ s := by rw [← s2.len, ← dat_len, s1]; exact hln
                      have hB6 := hBw.trans (s4.mono hBw.size)
                      have k2 := (s4.cell (p := ⟨b2, off2 + t * 3 + 2, none⟩) hb2').trans HF2.out
                      have k1 := (s4.cell (p := ⟨b2, off2 + t * 3 + 1, none⟩) hb2').trans HF1.out
                      have hrx := (HRX.out.below s4).mono (Nat.le_trans hBw.size s4.size)
                      clear hI hln
                      by_cases h0 : 0 < x.m
                      · have z0 : decide (0 < x.m) = true := by simpa using h0
                        have HU := hide (show upR key (dat lo) x = putB (dat l6) x.r 1 by unfold upR; rw [if_pos h0, s1])
                        have hx8 : x.n ≤ 1000 := by have h1 := okR_len hxok; have h2 := hrx.len; omega
                        have HR := hide (show ∀ z ∈ dat l6, z.1.length ≤ 1000 from fun z hz => by
                          rw [s1] at hz
                          have h1 := okR_len (HOKO.out z (List.mem_filter.1 hz).1)
                          omega)
                        have HM := hide (show ∀ z ∈ dat l6, -4000000000000 ≤ z.2 ∧ z.2 ≤ 4000000000000 from fun z hz => by
                          rw [s1] at hz
                          have h1 := HNUMO.out z (List.mem_filter.1 hz).1
                          omega)
                        have HLP := hide (show (putB (dat l6) x.r 1).length ≤ s + 1 by
                          have h1 := put_len (b := dat l6) (by rw [s1]; exact asc_filter HASC.out _) x.r 1
                          rw [dat_len, s2.len] at h1
                          omega)
                        have HPU := hide (RPut_any A6 n6 c6 l6 x.A x.n x.c x.r 1 wr s2 (by omega) hrx hx8 HR.out HM.out (by omega))
                        clear h0 s1 s2 s4 hrx
                        go_wp2_with fail
                        refine HPU.out.mono ?_
                        rintro e X7 ⟨A7, n7, c7, l7, rfl, hd7, hb7, hc7, hB7⟩
                        have hBf := hB6.trans (hB7.mono hB6.size)
                        have hn7 : n7 ≤ j + (t + 1) := by
                          have := HLP.out
                          rw [← hd7, dat_len, hb7.len] at this
                          omega
                        clear hB6 hB7 HPU k1 k2
                        go_wp2
                        go_roundw
                        case rel => exact ⟨t + 1, _, _, _, l7, by omega, by go_num, rfl, hb7, hc7, hn7, by rw [HNX.out, HU.out]; exact hd7, hBf⟩
                        case measure => simp [intOf] <;> omega
                      · have z0 : decide (0 < x.m) = false := by simpa using h0
                        have HU := hide (show upR key (dat lo) x = dat l6 by unfold upR; rw [if_neg h0, s1])
                        have HS2 := hide s2
                        clear h0 s1 s2 s4 hrx
                        go_wp2
                        go_roundw
                        case rel => exact ⟨t + 1, _, _, _, l6, by omega, by go_num, rfl, HS2.out, s3, by omega, by rw [HNX.out, HU.out], hB6⟩
                        case measure => simp [intOf] <;> omega
                · obtain rfl : t = q := by omega
                  have hdo := HDO.out
                  rw [take_all HLC.out] at hdo
                  have hall := HALL.out lc.length
                  rw [List.take_length] at hall
                  have hBIG : BigB (dat lo) := by
                    have h1 := hall.net.asc
                    have h2 := hall.net.ne
                    have h3 := HNUM.out lc.length
                    rw [List.take_length] at h3
                    rw [← hdo] at h1 h2 h3
                    refine ⟨h1, fun y hy => ?_, by rw [dat_len, HLO.out]; omega⟩
                    have h4 := h2 y hy
                    have h5 := h3 y hy
                    unfold numB
                    simp
                    omega
                  have HPL := hide (show plusB [] (dat lo) 1 = upQ key (dat l) lc by
                    obtain ⟨j1, j2, j3⟩ := plus_ok (a := []) (b := dat lo) (n := 1) ⟨nofun, List.Pairwise.nil⟩ nofun hBIG.1
                    refine Asc.ext j1 hall.net.asc j2 hall.net.ne fun r => ?_
                    rw [j3, ← hdo]
                    show 0 + 1 * look (dat lo) r = _
                    omega)
                  have hB0 := bstep HB02.out hBw
                  have HRP := hide (RPlusG_any none 0 0 [] Ao no co lo 1 wr (BagR.nil _ _) hbo ⟨⟨nofun, List.Pairwise.nil⟩, nofun, by decide⟩ hBIG (by omega))
                  clear hall hdo hBw hbo
                  go_wp2_with fail
                  refine HRP.out.mono ?_
                  rintro e X7 ⟨A7, n7, c7, l7, rfl, hd7, hb7, hc7, hB7⟩
                  have hd7 : dat l7 = upQ key (dat l) lc := hd7.trans HPL.out
                  have HD7 := hide hd7
                  have hB07 := bstep hB0 hB7
                  clear hB0 hB7 HRP hd7
                  go_wp2_with fail
                  refine (told_any A7 n7 c7 _ l7 X7 hb7 (Nat.le_refl _) hc7).mono ?_
                  intro e W8 h
                  rw [HD7.out] at h
                  obtain ⟨A5, n5, c5, l5, rfl, r2, r3, r4, r5⟩ := told_ret' hB07 h
                  have HE := hide r5
                  clear r5 h hB07
                  go_wp2
                  go_ret2
                  rw [HQ.out]
                  exact ⟨A5, n5, c5, l5, rfl, r2, r3, r4, HE.out⟩
end Go.Proofs.YtiioiajcoiaalaaGreatDoor
