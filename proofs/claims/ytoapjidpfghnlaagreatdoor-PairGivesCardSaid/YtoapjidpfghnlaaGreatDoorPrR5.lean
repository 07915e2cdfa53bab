/-
  The walks of the reference's small functions of joins: within, fit, inside, has, events, span, ValidEvent, ValidEvents. No condition.
  The walk of the reference's equal: the keys of two rows. No condition.
  The walks of the reference's both and PutEvent. No condition.
  The walk of the reference's PutEvent. No condition.
  The walk of the reference's Intervals. No condition.
-/
import Derived.Test.YtoapjidpfghnlaaGreatDoorPrO
import Derived.Test.YtoapjidpfghnlaaGreatDoorPrJ
import Derived.Deep.CutRange
namespace Go.Proofs.YtoapjidpfghnlaaGreatDoor

section
open Go.RowKit
attribute [local go_sem] Oper.semAt_some wide_fn wide_depth
set_option linter.unusedVariables false
set_option linter.unusedSimpArgs false

theorem R9within_any (n lo hi : Int) (w : World) : Calls Tryz.prog 77 #[.int .i64 n, .int .i64 lo, .int .i64 hi] w fun e w' => e = .returned (.bool (btw n lo hi)) ∧ w = w' := by
  by_cases h1 : n < lo
  · rw [btw_lo h1]
    go_enter Tryz.func77, Tryz.ntmps77
    go_wp2
    go_ret
    exact ⟨rfl, rfl⟩
  · by_cases h2 : hi < n
    · rw [show btw n lo hi = false by unfold btw; simp; omega]
      go_enter Tryz.func77, Tryz.ntmps77
      go_wp2
      go_ret
      exact ⟨ret_bool (show decide (n ≤ hi) = false by simp; omega), rfl⟩
    · rw [show btw n lo hi = true by unfold btw; simp; omega]
      go_enter Tryz.func77, Tryz.ntmps77
      go_wp2
      go_ret
      exact ⟨rfl, rfl⟩
theorem all_bad' {α : Type} {l : List α} {p : α → Bool} {k : Nat} {x : α} (h : l[k]? = some x) (hp : p x = false) : l.all p = false := by
  rw [List.all_eq_false]
  exact ⟨x, List.mem_of_getElem? h, by simpa using hp⟩
theorem all_next' {α : Type} {l : List α} {p : α → Bool} {k : Nat} {x : α} (h : l[k]? = some x) (hp : p x = true) (hk : (l.take k).all p = true) : (l.take (k + 1)).all p = true := by
  rw [take_snoc' h, List.all_append, hk]
  simp [hp]
theorem fit_any (A : Option Addr) (n c : Nat) (A' : Option Addr) (n' c' : Nat) (on others : List Int) (w : World) (h : on.length = n) (h' : others.length = n') :
    Calls Tryz.prog 73 #[.slice A n c, .slice A' n' c'] w fun e w' => e = .returned (.bool (fitK on others)) ∧ w = w' := by
  unfold fitK
  rw [h, h']
  by_cases h1 : n = n'
  · subst h1
    by_cases h2 : n ≤ 8
    · have q : ((n : Int) ≤ 8) := by omega
      have HX := hide (show true = (decide (n = n) && decide (n ≤ 8)) by simp [h2])
      clear h h' h2
      go_enter Tryz.func73, Tryz.ntmps73
      go_wp2
      go_ret
      exact ⟨ret_bool HX.out, rfl⟩
    · have q : ¬ ((n : Int) ≤ 8) := by omega
      have HX := hide (show false = (decide (n = n) && decide (n ≤ 8)) by simp [h2])
      clear h h' h2
      go_enter Tryz.func73, Tryz.ntmps73
      go_wp2
      go_ret
      exact ⟨ret_bool HX.out, rfl⟩
  · have q : ((n : Int) == (n' : Int)) = false := by simp; omega
    have HX := hide (show false = (decide (n = n') && decide (n ≤ 8)) by simp [h1])
    clear h h' h1
    go_enter Tryz.func73, Tryz.ntmps73
    go_wp2
    go_ret
    exact ⟨ret_bool HX.out, rfl⟩
theorem inside_any (A : Option Addr) (n c : Nat) (cols : List Int) (m : Int) (w : World) (hx : Reads w w.heap.size 1 A n (cols.map (Value.int .i64))) (hn : n ≤ 9223372036854775807) (hm : -9223372036854775807 ≤ m ∧ m ≤ 9223372036854775807) :
    Calls Tryz.prog 74 #[.slice A n c, .int .i64 m] w (RetV w (.bool (insK cols m))) := by
  have HL := hide hx.len1
  have HK := hide (show insK cols m = cols.all fun c => btw c 0 (m - 1) from rfl)
  go_enter Tryz.func74, Tryz.ntmps74
  go_wp2_with fail
  go_loopw [5] (fun i wr => ∃ k : Nat, k ≤ n ∧ i = .int .i64 k ∧ ((cols.take k).all fun c => btw c 0 (m - 1)) = true ∧ w = wr) (fun i _ => n - (intOf i).toNat)
  case atStart => exact ⟨0, Nat.zero_le _, rfl, rfl, rfl⟩
  case round =>
    obtain ⟨k, hk, rfl, hany, hw⟩ := hrel
    subst hw
    have HA := hide hany
    clear hany
    by_cases hlt : k < n
    · obtain ⟨b, off, x, rfl, hb, hxk, hc⟩ := hx.at1 hlt
      have HE := hide hxk
      clear hxk
      have q1 : (0 : Int) ≤ (k : Int) := by omega
      have q2 : (k : Int) < (n : Int) := by omega
      go_wp2_with fail
      refine (R9within_any x 0 (m - 1) w).mono ?_
      rintro ee w1 ⟨rfl, rfl⟩
      cases hv : btw x 0 (m - 1)
      · have HX := hide (show false = insK cols m by rw [HK.out, all_bad' HE.out hv])
        clear hv hc
        go_wp2
        go_ret
        exact ⟨ret_bool HX.out, Below.refl _ _⟩
      · have HX := hide (all_next' (p := fun c => btw c 0 (m - 1)) HE.out hv HA.out)
        clear hv hc
        go_wp2
        go_roundw
        case rel => exact ⟨k + 1, by omega, by go_num, HX.out, trivial⟩
        case measure => simp [intOf]; omega
    · obtain rfl : k = n := by omega
      have HX := hide (show true = insK cols m by
        have := HA.out
        rw [take_all HL.out] at this
        rw [HK.out, this])
      go_wp2
      go_ret
      exact ⟨ret_bool HX.out, Below.refl _ _⟩
theorem rhas_any (A : Option Addr) (n c : Nat) (r : Rw) (A' : Option Addr) (n' c' : Nat) (cols : List Int) (w : World) (hl : r.length = n) (hn : n ≤ 9223372036854775807) (hx : Reads w w.heap.size 1 A' n' (cols.map (Value.int .i64))) (hn' : n' ≤ 9223372036854775807) :
    Calls Tryz.prog 84 #[.slice A n c, .slice A' n' c'] w (RetV w (.bool (hasC r cols))) := by
  have HL := hide hx.len1
  have HK := hide (show hasC r cols = cols.all fun c => btw c 0 ((n : Int) - 1) by unfold hasC; rw [hl])
  clear hl
  go_enter Tryz.func84, Tryz.ntmps84
  go_wp2_with fail
  go_loopw [5] (fun i wr => ∃ k : Nat, k ≤ n' ∧ i = .int .i64 k ∧ ((cols.take k).all fun c => btw c 0 ((n : Int) - 1)) = true ∧ w = wr) (fun i _ => n' - (intOf i).toNat)
  case atStart => exact ⟨0, Nat.zero_le _, rfl, rfl, rfl⟩
  case round =>
    obtain ⟨k, hk, rfl, hany, hw⟩ := hrel
    subst hw
    have HA := hide hany
    clear hany
    by_cases hlt : k < n'
    · obtain ⟨b, off, x, rfl, hb, hxk, hc⟩ := hx.at1 hlt
      have HE := hide hxk
      clear hxk
      have q1 : (0 : Int) ≤ (k : Int) := by omega
      have q2 : (k : Int) < (n' : Int) := by omega
      go_wp2_with fail
      refine (R9within_any x 0 ((n : Int) - 1) w).mono ?_
      rintro ee w1 ⟨rfl, rfl⟩
      cases hv : btw x 0 ((n : Int) - 1)
      · have HX := hide (show false = hasC r cols by rw [HK.out, all_bad' HE.out hv])
        clear hv hc
        go_wp2
        go_ret
        exact ⟨ret_bool HX.out, Below.refl _ _⟩
      · have HX := hide (all_next' (p := fun c => btw c 0 ((n : Int) - 1)) HE.out hv HA.out)
        clear hv hc
        go_wp2
        go_roundw
        case rel => exact ⟨k + 1, by omega, by go_num, HX.out, trivial⟩
        case measure => simp [intOf]; omega
    · obtain rfl : k = n' := by omega
      have HX := hide (show true = hasC r cols by
        have := HA.out
        rw [take_all HL.out] at this
        rw [HK.out, this])
      go_wp2
      go_ret
      exact ⟨ret_bool HX.out, Below.refl _ _⟩
theorem rspan_any (lo hi : Int) (w : World) : Calls Tryz.prog 76 #[.int .i64 lo, .int .i64 hi] w fun e w' => e = .returned (.bool (spanB lo hi)) ∧ w = w' := by
  obtain ⟨u, hu⟩ : ∃ u, btw lo (-1000000000) 1000000000 = u := ⟨_, rfl⟩
  obtain ⟨v, hv⟩ : ∃ v, btw hi (-1000000000) 1000000000 = v := ⟨_, rfl⟩
  have HK := hide (show spanB lo hi = (u && v && decide (lo ≤ hi)) by unfold spanB; rw [hu, hv])
  have HU := hide hu
  have HV := hide hv
  clear hu hv
  go_enter Tryz.func76, Tryz.ntmps76
  go_wp2_with fail
  refine (R9within_any lo _ _ w).mono ?_
  rintro e w1 ⟨rfl, rfl⟩
  rw [HU.out]
  cases u
  · have HX := hide (show false = spanB lo hi by rw [HK.out, Bool.false_and, Bool.false_and])
    clear HK
    go_wp2
    go_ret
    exact ⟨ret_bool HX.out, rfl⟩
  · go_wp2_with fail
    refine (R9within_any hi _ _ w).mono ?_
    rintro e w1 ⟨rfl, rfl⟩
    rw [HV.out]
    cases v
    · have HX := hide (show false = spanB lo hi by rw [HK.out, Bool.and_false, Bool.false_and])
      clear HK
      go_wp2
      go_ret
      exact ⟨ret_bool HX.out, rfl⟩
    · have HX := hide (show decide (lo ≤ hi) = spanB lo hi by rw [HK.out, Bool.and_true, Bool.true_and])
      clear HK
      go_wp2
      go_ret
      exact ⟨ret_bool HX.out, rfl⟩
end

section
open Go.RowKit
attribute [local go_sem] Oper.semAt_some wide_fn wide_depth
set_option linter.unusedVariables false
set_option linter.unusedSimpArgs false

theorem pick_take (r : Rw) (xs : List Int) (k : Nat) (h : hasC r xs = true) : pick r (xs.take k) = (pick r xs).take k := by
  induction xs generalizing k with
  | nil => simp [pick]
  | cons x xs ih =>
    cases k with
    | zero => simp [pick]
    | succ k =>
      have h0 : hasC r xs = true := by unfold hasC at h ⊢; rw [List.all_cons, Bool.and_eq_true] at h; exact h.2
      obtain ⟨v, hv⟩ := hasC_val h (k := 0) (x := x) rfl
      have e1 : ∀ ys, pick r (x :: ys) = v :: pick r ys := fun ys => by unfold pick; rw [List.filterMap_cons, hv]
      rw [List.take_succ_cons, e1, e1, List.take_succ_cons, ih k h0]
theorem eqK_part {on others : List Int} {l r : Rw} (h1 : hasC l on = true) (h2 : hasC r others = true) {k : Nat} (h : eqK (on.take k) (others.take k) l r = false) : eqK on others l r = false := by
  unfold eqK at *
  rw [pick_take _ _ _ h1, pick_take _ _ _ h2] at h
  rw [Bool.and_eq_false_iff] at *
  rcases h with h | h
  · left
    unfold nonul at *
    rw [List.all_eq_false] at *
    obtain ⟨x, hx, hp⟩ := h
    exact ⟨x, List.mem_of_mem_take hx, hp⟩
  · by_cases e : pick l on = pick r others
    · rw [e] at h
      simp at h
    · right; simpa using e
set_option maxHeartbeats 2000000 in
theorem equal_any (A1 : Option Addr) (n1 c1 : Nat) (on : List Int) (A2 : Option Addr) (n2 c2 : Nat) (others : List Int) (Al : Option Addr) (nl cl : Nat) (l : Rw) (Ar : Option Addr) (nr cr : Nat) (r : Rw) (w : World)
    (h1 : Reads w w.heap.size 1 A1 n1 (on.map (Value.int .i64))) (h2 : Reads w w.heap.size 1 A2 n2 (others.map (Value.int .i64))) (hn : n1 = n2) (hnl : n1 ≤ 9223372036854775807) (hl : RowK w w.heap.size Al nl l) (hr : RowK w w.heap.size Ar nr r)
    (hol : l.all okV = true) (hor : r.all okV = true) (hhl : hasC l on = true) (hhr : hasC r others = true) :
    Calls Tryz.prog 78 #[.slice A1 n1 c1, .slice A2 n2 c2, .slice Al nl cl, .slice Ar nr cr] w (RetV w (.bool (eqK on others l r))) := by
  subst hn
  have HL1 := hide h1.len1
  have HL2 := hide h2.len1
  have hll := hl.len
  have hlr := hr.len
  have hle := hl.le
  have hre := hr.le
  have HHL := hide hhl
  have HHR := hide hhr
  have HOL := hide hol
  have HOR := hide hor
  clear hhl hhr hol hor
  go_enter Tryz.func78, Tryz.ntmps78
  go_wp2_with fail
  go_loopw [9] (fun i wr => ∃ k : Nat, k ≤ n1 ∧ i = .int .i64 k ∧ eqK (on.take k) (others.take k) l r = true ∧ Below w.heap.size w wr) (fun i _ => n1 - (intOf i).toNat)
  case atStart => exact ⟨0, Nat.zero_le _, rfl, rfl, Below.refl _ _⟩
  case round =>
    obtain ⟨k, hk, rfl, hany, hBw⟩ := hrel
    have HA := hide hany
    clear hany
    by_cases hlt : k < n1
    · obtain ⟨b, off, x, rfl, hb, hxk, hc⟩ := (h1.up hBw).at1 hlt
      obtain ⟨b', off', y, rfl, hb', hyk, hc'⟩ := (h2.up hBw).at1 hlt
      obtain ⟨hx1, hx2⟩ := hasC_at HHL.out hxk
      obtain ⟨hy1, hy2⟩ := hasC_at HHR.out hyk
      obtain ⟨u, hu⟩ := hasC_val HHL.out hxk
      obtain ⟨v, hv⟩ := hasC_val HHR.out hyk
      have HST := hide (eqK_steps HOL.out HOR.out HHL.out HHR.out hxk hyk hu hv)
      obtain ⟨xn, rfl⟩ : ∃ xn : Nat, x = (xn : Int) := ⟨x.toNat, by omega⟩
      obtain ⟨yn, rfl⟩ : ∃ yn : Nat, y = (yn : Int) := ⟨y.toNat, by omega⟩
      obtain ⟨b3, off3, u', rfl, hb3, hu', hcl⟩ := (hl.below hBw).rd.elem encV_len hll (i := xn) (by omega)
      obtain rfl : u' = u := by
        have e1 : (xn : Int).toNat = xn := by omega
        rw [e1, hu'] at hu
        exact Option.some.inj hu
      obtain ⟨b4, off4, v', rfl, hb4, hv', hcr⟩ := (hr.below hBw).rd.elem encV_len hlr (i := yn) (by omega)
      obtain rfl : v' = v := by
        have e1 : (yn : Int).toNat = yn := by omega
        rw [e1, hv'] at hv
        exact Option.some.inj hv
      have l0 : wr.cell? ⟨b3, off3 + xn * 3, none⟩ = some (.int .i64 u'.k) := by simpa using hcl 0 _ rfl
      have l1 : wr.cell? ⟨b3, off3 + xn * 3 + 1, none⟩ = some (.int .i64 u'.n) := by simpa [← Nat.add_assoc] using hcl 1 _ rfl
      have l2 : wr.cell? ⟨b3, off3 + xn * 3 + 2, none⟩ = some (.string u'.s) := by simpa [← Nat.add_assoc] using hcl 2 _ rfl
      have r0 : wr.cell? ⟨b4, off4 + yn * 3, none⟩ = some (.int .i64 v'.k) := by simpa using hcr 0 _ rfl
      have r1 : wr.cell? ⟨b4, off4 + yn * 3 + 1, none⟩ = some (.int .i64 v'.n) := by simpa [← Nat.add_assoc] using hcr 1 _ rfl
      have r2 : wr.cell? ⟨b4, off4 + yn * 3 + 2, none⟩ = some (.string v'.s) := by simpa [← Nat.add_assoc] using hcr 2 _ rfl
      clear hcl hcr hu hv hu' hv' hxk hyk
      have q1 : (0 : Int) ≤ (k : Int) := by omega
      have q2 : (k : Int) < (n1 : Int) := by omega
      have q3 : (xn : Int) < (nl : Int) := by omega
      have q4 : (yn : Int) < (nr : Int) := by omega
      go_wp2_with fail
      have HNO := hide (show eqK (on.take (k + 1)) (others.take (k + 1)) l r = false → false = eqK on others l r from fun h => (eqK_part HHL.out HHR.out (k := k + 1) h).symm)
      go_region
      · have kf := (Blk.new wr 102 #[.int .i64 u'.k, .int .i64 u'.n, .string u'.s]).alloc (.cells #[.int .i64 v'.k, .int .i64 v'.n, .string v'.s] 102)
        have ks := Blk.new (wr.alloc (.cells #[.int .i64 u'.k, .int .i64 u'.n, .string u'.s] 102)) 102 #[.int .i64 v'.k, .int .i64 v'.n, .string v'.s]
        rw [World.size_alloc] at ks
        have hbw : Below wr.heap.size wr ((wr.alloc (.cells #[.int .i64 u'.k, .int .i64 u'.n, .string u'.s] 102)).alloc (.cells #[.int .i64 v'.k, .int .i64 v'.n, .string v'.s] 102)).drew := (((Below.refl _ _).alloc (Nat.le_refl _) _).alloc (by simp) _).drew
        obtain ⟨W, hW⟩ : ∃ W, ((wr.alloc (.cells #[.int .i64 u'.k, .int .i64 u'.n, .string u'.s] 102)).alloc (.cells #[.int .i64 v'.k, .int .i64 v'.n, .string v'.s] 102)).drew = W := ⟨_, rfl⟩
        have ka : Blk W (wr.heap.size) 102 #[.int .i64 u'.k, .int .i64 u'.n, .string u'.s] := by rw [← hW]; exact kf
        have kb : Blk W (wr.heap.size + 1) 102 #[.int .i64 v'.k, .int .i64 v'.n, .string v'.s] := by rw [← hW]; exact ks
        rw [hW] at hbw ⊢
        clear kf ks hW l0 l1 l2 r0 r1 r2 hc hc'
        have hB2 := bstep hBw hbw
        have a0 : W.cell? ⟨wr.heap.size, 0, none⟩ = some (.int .i64 u'.k) := by simpa using ka.cell 0
        have a1 : W.cell? ⟨wr.heap.size, 1, none⟩ = some (.int .i64 u'.n) := by simpa using ka.cell 1
        have a2 : W.cell? ⟨wr.heap.size, 2, none⟩ = some (.string u'.s) := by simpa using ka.cell 2
        have b0 : W.cell? ⟨wr.heap.size + 1, 0, none⟩ = some (.int .i64 v'.k) := by simpa using kb.cell 0
        have b1 : W.cell? ⟨wr.heap.size + 1, 1, none⟩ = some (.int .i64 v'.n) := by simpa using kb.cell 1
        have b2 : W.cell? ⟨wr.heap.size + 1, 2, none⟩ = some (.string v'.s) := by simpa using kb.cell 2
        clear ka kb hbw hBw
        by_cases zu : u'.k = 0
        · have n1' : (u'.k == 0) = true := by simpa using zu
          have HX := hide (HNO.out (by rw [HST.out]; simp [zu]))
          clear zu
          go_wp2
          go_ret
          exact ⟨ret_bool HX.out, hB2⟩
        · have n1' : (u'.k == 0) = false := by simpa using zu
          by_cases zv : v'.k = 0
          · have n2' : (v'.k == 0) = true := by simpa using zv
            have HX := hide (HNO.out (by rw [HST.out]; simp [zv]))
            clear zu zv
            go_wp2
            go_ret
            exact ⟨ret_bool HX.out, hB2⟩
          · have n2' : (v'.k == 0) = false := by simpa using zv
            have HZ := hide (And.intro zu zv)
            clear zu zv
            go_wp2_with fail
            refine (RCompareValues_any u' v' W).mono ?_
            rintro e W2 ⟨rfl, hb2⟩
            have hB3 := bstep hB2 hb2
            clear a0 a1 a2 b0 b1 b2 hb2 hB2
            by_cases zc : cmpV u' v' = 0
            · have n3 : (cmpV u' v' != 0) = false := by simpa using zc
              have HX := hide (show eqK (on.take (k + 1)) (others.take (k + 1)) l r = true by rw [HST.out, HA.out]; simp [HZ.out.1, HZ.out.2, zc])
              clear zc
              go_wp2
              go_roundw
              case rel => exact ⟨k + 1, by omega, by go_num, HX.out, hB3⟩
              case measure => simp [intOf]; omega
            · have n3 : (cmpV u' v' != 0) = true := by simpa using zc
              have HX := hide (HNO.out (by rw [HST.out]; simp [zc]))
              clear zc
              go_wp2
              go_ret
              exact ⟨ret_bool HX.out, hB3⟩
      · have kf := (Blk.new wr 102 #[.int .i64 v'.k, .int .i64 v'.n, .string v'.s]).alloc (.cells #[.int .i64 u'.k, .int .i64 u'.n, .string u'.s] 102)
        have ks := Blk.new (wr.alloc (.cells #[.int .i64 v'.k, .int .i64 v'.n, .string v'.s] 102)) 102 #[.int .i64 u'.k, .int .i64 u'.n, .string u'.s]
        rw [World.size_alloc] at ks
        have hbw : Below wr.heap.size wr ((wr.alloc (.cells #[.int .i64 v'.k, .int .i64 v'.n, .string v'.s] 102)).alloc (.cells #[.int .i64 u'.k, .int .i64 u'.n, .string u'.s] 102)).drew := (((Below.refl _ _).alloc (Nat.le_refl _) _).alloc (by simp) _).drew
        obtain ⟨W, hW⟩ : ∃ W, ((wr.alloc (.cells #[.int .i64 v'.k, .int .i64 v'.n, .string v'.s] 102)).alloc (.cells #[.int .i64 u'.k, .int .i64 u'.n, .string u'.s] 102)).drew = W := ⟨_, rfl⟩
        have ka : Blk W (wr.heap.size + 1) 102 #[.int .i64 u'.k, .int .i64 u'.n, .string u'.s] := by rw [← hW]; exact ks
        have kb : Blk W (wr.heap.size) 102 #[.int .i64 v'.k, .int .i64 v'.n, .string v'.s] := by rw [← hW]; exact kf
        rw [hW] at hbw ⊢
        clear kf ks hW l0 l1 l2 r0 r1 r2 hc hc'
        have hB2 := bstep hBw hbw
        have a0 : W.cell? ⟨wr.heap.size + 1, 0, none⟩ = some (.int .i64 u'.k) := by simpa using ka.cell 0
        have a1 : W.cell? ⟨wr.heap.size + 1, 1, none⟩ = some (.int .i64 u'.n) := by simpa using ka.cell 1
        have a2 : W.cell? ⟨wr.heap.size + 1, 2, none⟩ = some (.string u'.s) := by simpa using ka.cell 2
        have b0 : W.cell? ⟨wr.heap.size, 0, none⟩ = some (.int .i64 v'.k) := by simpa using kb.cell 0
        have b1 : W.cell? ⟨wr.heap.size, 1, none⟩ = some (.int .i64 v'.n) := by simpa using kb.cell 1
        have b2 : W.cell? ⟨wr.heap.size, 2, none⟩ = some (.string v'.s) := by simpa using kb.cell 2
        clear ka kb hbw hBw
        by_cases zu : u'.k = 0
        · have n1' : (u'.k == 0) = true := by simpa using zu
          have HX := hide (HNO.out (by rw [HST.out]; simp [zu]))
          clear zu
          go_wp2
          go_ret
          exact ⟨ret_bool HX.out, hB2⟩
        · have n1' : (u'.k == 0) = false := by simpa using zu
          by_cases zv : v'.k = 0
          · have n2' : (v'.k == 0) = true := by simpa using zv
            have HX := hide (HNO.out (by rw [HST.out]; simp [zv]))
            clear zu zv
            go_wp2
            go_ret
            exact ⟨ret_bool HX.out, hB2⟩
          · have n2' : (v'.k == 0) = false := by simpa using zv
            have HZ := hide (And.intro zu zv)
            clear zu zv
            go_wp2_with fail
            refine (RCompareValues_any u' v' W).mono ?_
            rintro e W2 ⟨rfl, hb2⟩
            have hB3 := bstep hB2 hb2
            clear a0 a1 a2 b0 b1 b2 hb2 hB2
            by_cases zc : cmpV u' v' = 0
            · have n3 : (cmpV u' v' != 0) = false := by simpa using zc
              have HX := hide (show eqK (on.take (k + 1)) (others.take (k + 1)) l r = true by rw [HST.out, HA.out]; simp [HZ.out.1, HZ.out.2, zc])
              clear zc
              go_wp2
              go_roundw
              case rel => exact ⟨k + 1, by omega, by go_num, HX.out, hB3⟩
              case measure => simp [intOf]; omega
            · have n3 : (cmpV u' v' != 0) = true := by simpa using zc
              have HX := hide (HNO.out (by rw [HST.out]; simp [zc]))
              clear zc
              go_wp2
              go_ret
              exact ⟨ret_bool HX.out, hB3⟩
    · obtain rfl : k = n1 := by omega
      have HX := hide (show true = eqK on others l r by
        have := HA.out
        rw [take_all HL1.out, take_all HL2.out] at this
        exact this.symm)
      go_wp2
      go_ret
      exact ⟨ret_bool HX.out, hBw⟩
end

section
open Go.RowKit
attribute [local go_sem] Oper.semAt_some wide_fn wide_depth
set_option linter.unusedVariables false
set_option linter.unusedSimpArgs false

/-- A row of the call's own, handed back. -/
def RetRowO (w : World) (n : Nat) (r : Rw) (e : Ending) (w' : World) : Prop := ∃ A c, e = .returned (.slice A n c) ∧ w'.ownsRow w.heap.size 102 3 (.slice A n c) n (r.flatMap encV) ∧ Below w.heap.size w w'
set_option maxRecDepth 100000 in
set_option maxHeartbeats 2000000 in
theorem OwnO_any (A : Option Addr) (n c B : Nat) (r : Rw) (w : World) (hr : RowK w B A n r) (hn : n ≤ 1000) :
    Calls Tryz.prog 116 #[.slice A n c] w (RetRowO w n r) := by
  obtain ⟨i0, hi, hz0, hz1, hz2⟩ := info_parts3 infoVal
  have hlit := own_lit w 102 3 0 #[] rfl (by unfold maxLen; omega) (Nat.le_refl w.heap.size)
  have hB0 := below_val (w := w) #[] 102
  have hrd := hr.rd.alloc (Nat.le_refl _) (.cells #[] 102)
  have hle := hr.le
  clear hr
  go_enter Tryz.func116, Tryz.ntmps116
  go_wp2_with (at_builtin; refine wpList_append_any _ rfl _ _ 34 rfl w.heap.size 102 i0 _ 3 32 Tryz.underlying34 hi hz0 hz1 hz2 rfl (by decide) (.slice (some ⟨w.heap.size, 0, none⟩) 0 0) 0 [] rfl hlit w.heap.size A n c (r.flatMap encV) rfl hrd one_cell (by unfold maxLen; omega) (by omega) (by simp) ?_; intro v' W1 hown hgrow _; rw [Nat.zero_add, List.nil_append] at hown)
  have hB1 : Below w.heap.size w W1 := below_append hB0 hlit (by simp) hgrow
  obtain ⟨A', c', rfl, hR⟩ := own_form hown
  go_ret
  exact ⟨A', c', rfl, hown, hB1⟩
set_option maxRecDepth 100000 in
set_option maxHeartbeats 2000000 in
theorem both9_any (A : Option Addr) (n c : Nat) (r : Rw) (A' : Option Addr) (n' c' : Nat) (r' : Rw) (w : World) (hr : RowK w w.heap.size A n r) (hr' : RowK w w.heap.size A' n' r') (hn : n ≤ 1000) (hn' : n' ≤ 1000) :
    Calls Tryz.prog 79 #[.slice A n c, .slice A' n' c'] w (RetRowO w (n + n') (r ++ r')) := by
  obtain ⟨i0, hi, hz0, hz1, hz2⟩ := info_parts3 infoVal
  go_enter Tryz.func79, Tryz.ntmps79
  go_wp2_with fail
  refine (OwnO_any A n c _ r w hr hn).mono ?_
  rintro e W1 ⟨A1, c1, rfl, hown1, hB1⟩
  have hs1 := hB1.size
  have hrd := (hr'.below hB1).rd.up (Below.refl _ _)
  have one := one_vals r'
  have hfm : (r ++ r').flatMap encV = r.flatMap encV ++ r'.flatMap encV := by rw [List.flatMap_append]
  have HFM := hide hfm
  clear hfm hr hr'
  go_wp2_with (at_builtin; refine wpList_append_any _ rfl _ _ 34 rfl w.heap.size 102 i0 _ 3 32 Tryz.underlying34 hi hz0 hz1 hz2 rfl (by decide) (.slice A1 n c1) n (r.flatMap encV) rfl hown1 W1.heap.size A' n' c' (r'.flatMap encV) rfl hrd one (by unfold maxLen; omega) (by omega) (by omega) ?_; intro v' W2 hown hgrow _)
  have hB2 : Below w.heap.size w W2 := below_append hB1 hown1 (by omega) hgrow
  obtain ⟨A2, c2, rfl, hR⟩ := own_form hown
  go_ret
  exact ⟨A2, c2, rfl, by rw [HFM.out]; exact hown, hB2⟩

/-! Parts of a slice of events. -/
def dropAE (A : Option Addr) (j c : Nat) : Option Addr := if c = j then A else A.map (·.add (j * 2))
/-- Events, handed back. -/
def RetEvs (w : World) (p : List Te) (e : Ending) (w' : World) : Prop := ∃ A n c k, e = .returned (.slice A n c) ∧ dE k = p ∧ EvR w' w'.heap.size A n k ∧ n ≤ c ∧ Below w.heap.size w w'
end

section
open Go.RowKit
attribute [local go_sem] Oper.semAt_some wide_fn wide_depth
set_option linter.unusedVariables false
set_option linter.unusedSimpArgs false

end

section
open Go.RowKit
attribute [local go_sem] Oper.semAt_some wide_fn wide_depth
set_option linter.unusedVariables false
set_option linter.unusedSimpArgs false

/-- Events that are held in a variable. -/
def EvO (cs : List Te) (v : Value) (w : World) : Prop := ∃ A n c l, v = .slice A n c ∧ dE l = cs ∧ EvR w w.heap.size A n l ∧ n ≤ c
end

end Go.Proofs.YtoapjidpfghnlaaGreatDoor
