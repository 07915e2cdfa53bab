/-
  The walks of the reference's small functions of joins: within, fit, inside, has, events, span, ValidEvent, ValidEvents. No condition.
-/
import Derived.Test.YtoapjidpfghnlaaGreatDoorPrA
namespace Go.Proofs.YtoapjidpfghnlaaGreatDoor
open Go.RowKit
attribute [local go_sem] Oper.semAt_some wide_fn wide_depth
set_option linter.unusedVariables false
set_option linter.unusedSimpArgs false

theorem R9within_any (n lo hi : Int) (w : World) : Calls Tryz.prog 77 #[.int .i64 n, .int .i64 lo, .int .i64 hi] w fun e w' => e = .returned (.bool (btw n lo hi)) ∧ w = w' := by
  by_cases h1 : n < lo
  · rw [btw_lo h1]
    go_enter Tryz.func77, Tryz.ntmps77
    go_wp2
    go_ret
    exact ⟨rfl, rfl⟩
  · by_cases h2 : hi < n
    · rw [show btw n lo hi = false by unfold btw; simp; omega]
      go_enter Tryz.func77, Tryz.ntmps77
      go_wp2
      go_ret
      exact ⟨ret_bool (show decide (n ≤ hi) = false by simp; omega), rfl⟩
    · rw [show btw n lo hi = true by unfold btw; simp; omega]
      go_enter Tryz.func77, Tryz.ntmps77
      go_wp2
      go_ret
      exact ⟨rfl, rfl⟩
theorem rve_any (t : Int) (A : Option Addr) (n c : Nat) (r : Rw) (w : World) (hr : RowK w w.heap.size A n r) :
    Calls Tryz.prog 104 #[.agg #[.int .i64 t, .slice A n c]] w (RetV w (.bool (okE (t, r)))) := by
  have hB := below_val (w := w) #[.int .i64 t, .slice A n c] 36
  have k1 := Blk.new w 36 #[.int .i64 t, .slice A n c]
  have hr1 := (hr.below hB).mono hB.size
  have d0 : (w.alloc (.cells #[.int .i64 t, .slice A n c] 36)).cell? ⟨w.heap.size, 0, none⟩ = some (.int .i64 t) := k1.cell 0
  have d1 : (w.alloc (.cells #[.int .i64 t, .slice A n c] 36)).cell? ⟨w.heap.size, 1, none⟩ = some (.slice A n c) := k1.cell 1
  have HO := hide (show okE (t, r) = (btw t (-1000000000000) 1000000000000 && okR r) from rfl)
  have hle := hr.le
  clear hr
  go_enter Tryz.func104, Tryz.ntmps104
  go_wp2_with fail
  obtain ⟨W, hW⟩ : ∃ W, w.alloc (.cells #[.int .i64 t, .slice A n c] 36) = W := ⟨_, rfl⟩
  rw [hW] at hB k1 hr1 d0 d1 ⊢
  clear hW k1
  refine (R1Valid_any t W).mono ?_
  rintro e w' ⟨rfl, rfl⟩
  obtain ⟨v, hv⟩ : ∃ v, btw t (-1000000000000) 1000000000000 = v := ⟨_, rfl⟩
  rw [hv] at HO
  rw [hv]
  clear hv
  cases v
  · have HX := hide (show false = okE (t, r) by rw [HO.out, Bool.false_and])
    go_wp2
    go_ret
    exact ⟨ret_bool HX.out, hB⟩
  · have HX := hide (show okR r = okE (t, r) by rw [HO.out, Bool.true_and])
    go_wp2_with fail
    refine (R2Valid_any A n c W.heap.size r W hr1.rd (Nat.le_refl _) hle).mono ?_
    rintro e w1 ⟨rfl, hB1⟩
    have HB2 := hide (bstep hB hB1)
    clear hB hB1 hr1 d0 d1
    go_wp2
    go_ret
    exact ⟨ret_bool HX.out, HB2.out⟩
theorem all_bad' {α : Type} {l : List α} {p : α → Bool} {k : Nat} {x : α} (h : l[k]? = some x) (hp : p x = false) : l.all p = false := by
  rw [List.all_eq_false]
  exact ⟨x, List.mem_of_getElem? h, by simpa using hp⟩
theorem all_next' {α : Type} {l : List α} {p : α → Bool} {k : Nat} {x : α} (h : l[k]? = some x) (hp : p x = true) (hk : (l.take k).all p = true) : (l.take (k + 1)).all p = true := by
  rw [take_snoc' h, List.all_append, hk]
  simp [hp]
theorem RValidEvents_any (A : Option Addr) (n c : Nat) (l : List Ev) (w : World) (hl : EvR w w.heap.size A n l) :
    Calls Tryz.prog 72 #[.slice A n c, .int .i64 100] w (RetV w (.bool (evsB (dE l)))) := by
  have hle := hl.le
  have HL := hide hl.len
  have hev : evsB (dE l) = (decide (n ≤ 100) && l.all fun i => okE (i.t, i.r)) := by unfold evsB; rw [all_dE, dE_len, HL.out]
  have HEV := hide hev
  clear hev
  go_enter Tryz.func72, Tryz.ntmps72
  go_wp2_with fail
  go_loopw [5] (fun i wr => ∃ k : Nat, k ≤ n ∧ i = .int .i64 k ∧ ((l.take k).all fun i => okE (i.t, i.r)) = true ∧ Below w.heap.size w wr) (fun i _ => n - (intOf i).toNat)
  case atStart => exact ⟨0, Nat.zero_le _, rfl, rfl, Below.refl _ _⟩
  case round =>
    obtain ⟨k, hk, rfl, hany, hBw⟩ := hrel
    have HA := hide hany
    clear hany
    by_cases hlt : k < n
    · obtain ⟨b, off, x, rfl, hb, hxk, c0, c1, hrow⟩ := (hl.step hBw).at_ hlt
      have HE := hide hxk
      clear hxk
      have q1 : (0 : Int) ≤ (k : Int) := by omega
      have q2 : (k : Int) < (n : Int) := by omega
      go_wp2_with fail
      refine (rve_any x.t x.A x.n x.c x.r wr hrow).mono ?_
      rintro ee w1 ⟨rfl, hB1⟩
      have hB2 := bstep hBw hB1
      obtain ⟨v, hv⟩ : ∃ v, okE (x.t, x.r) = v := ⟨_, rfl⟩
      rw [hv]
      have HV := hide hv
      clear hv hB1 hBw c0 c1
      cases v
      · have HX := hide (show false = evsB (dE l) by rw [HEV.out, all_bad' (p := fun i : Ev => okE (i.t, i.r)) HE.out HV.out]; simp)
        go_wp2
        go_ret
        exact ⟨ret_bool HX.out, hB2⟩
      · have HX := hide (all_next' (p := fun i : Ev => okE (i.t, i.r)) HE.out HV.out HA.out)
        go_wp2
        go_roundw
        case rel => exact ⟨k + 1, by omega, by go_num, HX.out, hB2⟩
        case measure => simp [intOf]; omega
    · obtain rfl : k = n := by omega
      have HX := hide (show decide ((k : Int) ≤ 100) = evsB (dE l) by
        rw [HEV.out]
        have := HA.out
        rw [take_all HL.out] at this
        rw [this, Bool.and_true, Bool.eq_iff_iff]
        simp only [decide_eq_true_eq]
        omega)
      go_wp2
      go_ret
      exact ⟨ret_bool HX.out, hBw⟩
theorem fit_any (A : Option Addr) (n c : Nat) (A' : Option Addr) (n' c' : Nat) (on others : List Int) (w : World) (h : on.length = n) (h' : others.length = n') :
    Calls Tryz.prog 73 #[.slice A n c, .slice A' n' c'] w fun e w' => e = .returned (.bool (fitK on others)) ∧ w = w' := by
  unfold fitK
  rw [h, h']
  by_cases h1 : n = n'
  · subst h1
    by_cases h2 : n ≤ 8
    · have q : ((n : Int) ≤ 8) := by omega
      have HX := hide (show true = (decide (n = n) && decide (n ≤ 8)) by simp [h2])
      clear h h' h2
      go_enter Tryz.func73, Tryz.ntmps73
      go_wp2
      go_ret
      exact ⟨ret_bool HX.out, rfl⟩
    · have q : ¬ ((n : Int) ≤ 8) := by omega
      have HX := hide (show false = (decide (n = n) && decide (n ≤ 8)) by simp [h2])
      clear h h' h2
      go_enter Tryz.func73, Tryz.ntmps73
      go_wp2
      go_ret
      exact ⟨ret_bool HX.out, rfl⟩
  · have q : ((n : Int) == (n' : Int)) = false := by simp; omega
    have HX := hide (show false = (decide (n = n') && decide (n ≤ 8)) by simp [h1])
    clear h h' h1
    go_enter Tryz.func73, Tryz.ntmps73
    go_wp2
    go_ret
    exact ⟨ret_bool HX.out, rfl⟩
theorem inside_any (A : Option Addr) (n c : Nat) (cols : List Int) (m : Int) (w : World) (hx : Reads w w.heap.size 1 A n (cols.map (Value.int .i64))) (hn : n ≤ 9223372036854775807) (hm : -9223372036854775807 ≤ m ∧ m ≤ 9223372036854775807) :
    Calls Tryz.prog 74 #[.slice A n c, .int .i64 m] w (RetV w (.bool (insK cols m))) := by
  have HL := hide hx.len1
  have HK := hide (show insK cols m = cols.all fun c => btw c 0 (m - 1) from rfl)
  go_enter Tryz.func74, Tryz.ntmps74
  go_wp2_with fail
  go_loopw [5] (fun i wr => ∃ k : Nat, k ≤ n ∧ i = .int .i64 k ∧ ((cols.take k).all fun c => btw c 0 (m - 1)) = true ∧ w = wr) (fun i _ => n - (intOf i).toNat)
  case atStart => exact ⟨0, Nat.zero_le _, rfl, rfl, rfl⟩
  case round =>
    obtain ⟨k, hk, rfl, hany, hw⟩ := hrel
    subst hw
    have HA := hide hany
    clear hany
    by_cases hlt : k < n
    · obtain ⟨b, off, x, rfl, hb, hxk, hc⟩ := hx.at1 hlt
      have HE := hide hxk
      clear hxk
      have q1 : (0 : Int) ≤ (k : Int) := by omega
      have q2 : (k : Int) < (n : Int) := by omega
      go_wp2_with fail
      refine (R9within_any x 0 (m - 1) w).mono ?_
      rintro ee w1 ⟨rfl, rfl⟩
      cases hv : btw x 0 (m - 1)
      · have HX := hide (show false = insK cols m by rw [HK.out, all_bad' HE.out hv])
        clear hv hc
        go_wp2
        go_ret
        exact ⟨ret_bool HX.out, Below.refl _ _⟩
      · have HX := hide (all_next' (p := fun c => btw c 0 (m - 1)) HE.out hv HA.out)
        clear hv hc
        go_wp2
        go_roundw
        case rel => exact ⟨k + 1, by omega, by go_num, HX.out, trivial⟩
        case measure => simp [intOf]; omega
    · obtain rfl : k = n := by omega
      have HX := hide (show true = insK cols m by
        have := HA.out
        rw [take_all HL.out] at this
        rw [HK.out, this])
      go_wp2
      go_ret
      exact ⟨ret_bool HX.out, Below.refl _ _⟩
theorem rhas_any (A : Option Addr) (n c : Nat) (r : Rw) (A' : Option Addr) (n' c' : Nat) (cols : List Int) (w : World) (hl : r.length = n) (hn : n ≤ 9223372036854775807) (hx : Reads w w.heap.size 1 A' n' (cols.map (Value.int .i64))) (hn' : n' ≤ 9223372036854775807) :
    Calls Tryz.prog 84 #[.slice A n c, .slice A' n' c'] w (RetV w (.bool (hasC r cols))) := by
  have HL := hide hx.len1
  have HK := hide (show hasC r cols = cols.all fun c => btw c 0 ((n : Int) - 1) by unfold hasC; rw [hl])
  clear hl
  go_enter Tryz.func84, Tryz.ntmps84
  go_wp2_with fail
  go_loopw [5] (fun i wr => ∃ k : Nat, k ≤ n' ∧ i = .int .i64 k ∧ ((cols.take k).all fun c => btw c 0 ((n : Int) - 1)) = true ∧ w = wr) (fun i _ => n' - (intOf i).toNat)
  case atStart => exact ⟨0, Nat.zero_le _, rfl, rfl, rfl⟩
  case round =>
    obtain ⟨k, hk, rfl, hany, hw⟩ := hrel
    subst hw
    have HA := hide hany
    clear hany
    by_cases hlt : k < n'
    · obtain ⟨b, off, x, rfl, hb, hxk, hc⟩ := hx.at1 hlt
      have HE := hide hxk
      clear hxk
      have q1 : (0 : Int) ≤ (k : Int) := by omega
      have q2 : (k : Int) < (n' : Int) := by omega
      go_wp2_with fail
      refine (R9within_any x 0 ((n : Int) - 1) w).mono ?_
      rintro ee w1 ⟨rfl, rfl⟩
      cases hv : btw x 0 ((n : Int) - 1)
      · have HX := hide (show false = hasC r cols by rw [HK.out, all_bad' HE.out hv])
        clear hv hc
        go_wp2
        go_ret
        exact ⟨ret_bool HX.out, Below.refl _ _⟩
      · have HX := hide (all_next' (p := fun c => btw c 0 ((n : Int) - 1)) HE.out hv HA.out)
        clear hv hc
        go_wp2
        go_roundw
        case rel => exact ⟨k + 1, by omega, by go_num, HX.out, trivial⟩
        case measure => simp [intOf]; omega
    · obtain rfl : k = n' := by omega
      have HX := hide (show true = hasC r cols by
        have := HA.out
        rw [take_all HL.out] at this
        rw [HK.out, this])
      go_wp2
      go_ret
      exact ⟨ret_bool HX.out, Below.refl _ _⟩
theorem revents_any (A : Option Addr) (n c : Nat) (l : List Ev) (A' : Option Addr) (n' c' : Nat) (cols : List Int) (w : World) (hl : EvR w w.heap.size A n l) (hx : Reads w w.heap.size 1 A' n' (cols.map (Value.int .i64))) (hn' : n' ≤ 9223372036854775807) :
    Calls Tryz.prog 75 #[.slice A n c, .slice A' n' c'] w (RetV w (.bool (hasE (dE l) cols))) := by
  have hle := hl.le
  have HL := hide hl.len
  have HK := hide (show hasE (dE l) cols = l.all fun i => hasC i.r cols by unfold hasE; rw [all_dE])
  go_enter Tryz.func75, Tryz.ntmps75
  go_wp2_with fail
  go_loopw [5] (fun i wr => ∃ k : Nat, k ≤ n ∧ i = .int .i64 k ∧ ((l.take k).all fun i => hasC i.r cols) = true ∧ Below w.heap.size w wr) (fun i _ => n - (intOf i).toNat)
  case atStart => exact ⟨0, Nat.zero_le _, rfl, rfl, Below.refl _ _⟩
  case round =>
    obtain ⟨k, hk, rfl, hany, hBw⟩ := hrel
    have HA := hide hany
    clear hany
    by_cases hlt : k < n
    · obtain ⟨b, off, x, rfl, hb, hxk, c0, c1, hrow⟩ := (hl.step hBw).at_ hlt
      have HE := hide hxk
      have hrl := hrow.len
      have hrle := hrow.le
      clear hxk hrow
      have q1 : (0 : Int) ≤ (k : Int) := by omega
      have q2 : (k : Int) < (n : Int) := by omega
      go_wp2_with fail
      refine (rhas_any x.A x.n x.c x.r A' n' c' cols wr hrl hrle (hx.up hBw) hn').mono ?_
      rintro ee w1 ⟨rfl, hB1⟩
      have hB2 := bstep hBw hB1
      obtain ⟨v, hv⟩ : ∃ v, hasC x.r cols = v := ⟨_, rfl⟩
      rw [hv]
      have HV := hide hv
      clear hv hB1 hBw c0 c1
      cases v
      · have HX := hide (show false = hasE (dE l) cols by rw [HK.out, all_bad' (p := fun i : Ev => hasC i.r cols) HE.out HV.out])
        go_wp2
        go_ret
        exact ⟨ret_bool HX.out, hB2⟩
      · have HX := hide (all_next' (p := fun i : Ev => hasC i.r cols) HE.out HV.out HA.out)
        go_wp2
        go_roundw
        case rel => exact ⟨k + 1, by omega, by go_num, HX.out, hB2⟩
        case measure => simp [intOf]; omega
    · obtain rfl : k = n := by omega
      have HX := hide (show true = hasE (dE l) cols by
        have := HA.out
        rw [take_all HL.out] at this
        rw [HK.out, this])
      go_wp2
      go_ret
      exact ⟨ret_bool HX.out, hBw⟩
theorem rspan_any (lo hi : Int) (w : World) : Calls Tryz.prog 76 #[.int .i64 lo, .int .i64 hi] w fun e w' => e = .returned (.bool (spanB lo hi)) ∧ w = w' := by
  obtain ⟨u, hu⟩ : ∃ u, btw lo (-1000000000) 1000000000 = u := ⟨_, rfl⟩
  obtain ⟨v, hv⟩ : ∃ v, btw hi (-1000000000) 1000000000 = v := ⟨_, rfl⟩
  have HK := hide (show spanB lo hi = (u && v && decide (lo ≤ hi)) by unfold spanB; rw [hu, hv])
  have HU := hide hu
  have HV := hide hv
  clear hu hv
  go_enter Tryz.func76, Tryz.ntmps76
  go_wp2_with fail
  refine (R9within_any lo _ _ w).mono ?_
  rintro e w1 ⟨rfl, rfl⟩
  rw [HU.out]
  cases u
  · have HX := hide (show false = spanB lo hi by rw [HK.out, Bool.false_and, Bool.false_and])
    clear HK
    go_wp2
    go_ret
    exact ⟨ret_bool HX.out, rfl⟩
  · go_wp2_with fail
    refine (R9within_any hi _ _ w).mono ?_
    rintro e w1 ⟨rfl, rfl⟩
    rw [HV.out]
    cases v
    · have HX := hide (show false = spanB lo hi by rw [HK.out, Bool.and_false, Bool.false_and])
      clear HK
      go_wp2
      go_ret
      exact ⟨ret_bool HX.out, rfl⟩
    · have HX := hide (show decide (lo ≤ hi) = spanB lo hi by rw [HK.out, Bool.and_true, Bool.true_and])
      clear HK
      go_wp2
      go_ret
      exact ⟨ret_bool HX.out, rfl⟩
end Go.Proofs.YtoapjidpfghnlaaGreatDoor
