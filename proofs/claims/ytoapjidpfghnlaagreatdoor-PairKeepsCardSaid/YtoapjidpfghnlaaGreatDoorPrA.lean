/-
  The walks of pair's small functions: columns, keys, events, the interval. No condition.
-/
import Derived.Test.YtoapjidpfghnlaaGreatDoorPrM
import Derived.Test.YtoapjidpfghnlaaGreatDoorEvX
import Derived.Test.YtoapjidpfghnlaaGreatDoorUpA
import Derived.Test.YtoapjidpfghnlaaGreatDoorGat
import Derived.Test.YtoapjidpfghnlaaGreatDoorApl
namespace Go.Proofs.YtoapjidpfghnlaaGreatDoor
open Go.RowKit
attribute [local go_sem] Oper.semAt_some wide_fn wide_depth
set_option linter.unusedVariables false
set_option linter.unusedSimpArgs false

theorem pwithin_any (n lo hi : Int) (w : World) : Calls Tryz.prog 68 #[.int .i64 n, .int .i64 lo, .int .i64 hi] w fun e w' => e = .returned (.bool (btw n lo hi)) ∧ w = w' := by
  by_cases h1 : n < lo
  · rw [btw_lo h1]
    go_enter Tryz.func68, Tryz.ntmps68
    go_wp2
    go_ret
    exact ⟨rfl, rfl⟩
  · rw [show btw n lo hi = decide (n ≤ hi) from by simp [btw, show lo ≤ n by omega]]
    go_enter Tryz.func68, Tryz.ntmps68
    go_wp2
    go_ret
    exact ⟨rfl, rfl⟩
theorem has1_any (x : Int) (b : Nat) (A : Option Addr) (n c : Nat) (w : World) (h : w.cell? ⟨b, 0, none⟩ = some (.slice A n c)) (hn : n ≤ 9223372036854775807) :
    Calls Tryz.prog 135 #[.int .i64 x, .pointer (some ⟨b, 0, none⟩)] w (RetV w (.bool (!btw x 0 ((n : Int) - 1)))) := by
  obtain ⟨v, hv⟩ : ∃ v, btw x 0 ((n : Int) - 1) = v := ⟨_, rfl⟩
  have HB := hide (hv ▸ pwithin_any x 0 ((n : Int) - 1) w)
  rw [hv]
  clear hv
  go_enter Tryz.func135, Tryz.ntmps135
  go_wp2_with fail
  refine HB.out.mono ?_
  rintro e w' ⟨rfl, rfl⟩
  go_wp2
  go_ret
  exact ⟨rfl, Below.refl _ _⟩
theorem any_all_not {α : Type} (l : List α) (p : α → Bool) : (!l.any fun x => !p x) = l.all p := by
  induction l with
  | nil => rfl
  | cons x l ih => rw [List.any_cons, List.all_cons, ← ih]; cases p x <;> simp
theorem has_pair (A' : Option Addr) (n' c' : Nat) (xs : List Int) (A : Option Addr) (n c : Nat) (r : Rw) (w : World) (hx : Reads w w.heap.size 1 A' n' (xs.map (Value.int .i64))) (hn' : n' ≤ 9223372036854775807) (hl : r.length = n) (hn : n ≤ 9223372036854775807) :
    Calls Tryz.prog 82 #[.slice A' n' c', .slice A n c] w (RetV w (.bool (hasC r xs))) := by
  have hB := below_val (w := w) #[.slice A n c] 34
  have k1 := Blk.new w 34 #[.slice A n c]
  have hx1 := hx.up hB
  obtain ⟨v, hv⟩ : ∃ v, (xs.any fun x => !btw x 0 ((n : Int) - 1)) = v := ⟨_, rfl⟩
  have HV := hide (show hasC r xs = !v by
    unfold hasC
    rw [← hv, any_all_not, hl])
  rw [HV.out]
  clear hx
  go_enter Tryz.func82, Tryz.ntmps82
  go_upto_region 1 with fail
  obtain ⟨W, hW⟩ : ∃ W, w.alloc (.cells #[.slice A n c] 34) = W := ⟨_, rfl⟩
  rw [hW] at hB k1 hx1 ⊢
  clear hW
  have HC := hide (hv ▸ con_ints A' n' c' W.heap.size xs W hx1 hn' (Nat.le_refl _) 135 #[.pointer (some ⟨w.heap.size, 0, none⟩)] (fun x => !btw x 0 ((n : Int) - 1)) (enters_of Tryz.func135 (by kernel_rfl) rfl)
    (fun x _ X hX => has1_any x w.heap.size A n c X (by simpa using (k1.below hX k1.lt).cell 0) hn))
  clear hv hx1 k1
  go_wp2_with fail
  refine HC.out.mono ?_
  rintro e W1 ⟨rfl, hB1⟩
  have HE := hide (bstep hB hB1)
  clear hB hB1
  go_wp2
  go_ret
  exact ⟨rfl, HE.out⟩
theorem cwithin_any (n lo hi : Int) (w : World) : Calls Tryz.prog 195 #[.int .i64 n, .int .i64 lo, .int .i64 hi] w fun e w' => e = .returned (.bool (btw n lo hi)) ∧ w = w' := by
  by_cases h1 : n < lo
  · rw [btw_lo h1]
    go_enter Tryz.func195, Tryz.ntmps195
    go_wp2
    go_ret
    exact ⟨rfl, rfl⟩
  · rw [show btw n lo hi = decide (n ≤ hi) from by simp [btw, show lo ≤ n by omega]]
    go_enter Tryz.func195, Tryz.ntmps195
    go_wp2
    go_ret
    exact ⟨rfl, rfl⟩
theorem CkValid_any (t : Int) (w : World) : Calls Tryz.prog 149 #[.int .i64 t] w fun e w' => e = .returned (.bool (btw t (-1000000000000) 1000000000000)) ∧ w = w' := by
  go_enter Tryz.func149, Tryz.ntmps149
  go_wp2_with fail
  refine (cwithin_any t _ _ w).mono ?_
  rintro e w' ⟨rfl, rfl⟩
  go_wp2
  go_ret
  exact ⟨rfl, rfl⟩
theorem event_any (t : Int) (A : Option Addr) (n c : Nat) (r : Rw) (w : World) (hr : RowK w w.heap.size A n r) :
    Calls Tryz.prog 102 #[.agg #[.int .i64 t, .slice A n c]] w (RetV w (.bool (okE (t, r)))) := by
  have hB := below_val (w := w) #[.int .i64 t, .slice A n c] 36
  have k1 := Blk.new w 36 #[.int .i64 t, .slice A n c]
  have hr1 := (hr.below hB).mono hB.size
  obtain ⟨v, hv⟩ : ∃ v, okE (t, r) = v := ⟨_, rfl⟩
  rw [hv]
  have HV := hide hv
  clear hv hr
  go_enter Tryz.func102, Tryz.ntmps102
  go_upto_region 1 with fail
  obtain ⟨W, hW⟩ : ∃ W, w.alloc (.cells #[.int .i64 t, .slice A n c] 36) = W := ⟨_, rfl⟩
  rw [hW] at hB k1 hr1 ⊢
  clear hW
  have c0 : W.cell? ⟨w.heap.size, 0, none⟩ = some (.int .i64 t) := by simpa using k1.cell 0
  have c1 : W.cell? ⟨w.heap.size, 1, none⟩ = some (.slice A n c) := by simpa using k1.cell 1
  have HT := hide (CkValid_any t W)
  cases h1 : btw t (-1000000000000) 1000000000000
  · rw [h1] at HT
    have HX := hide (show false = v by rw [← HV.out]; unfold okE; rw [h1]; rfl)
    clear h1
    go_wp2_with fail
    refine HT.out.mono ?_
    rintro e W1 ⟨rfl, rfl⟩
    go_wp2
    go_ret
    exact ⟨ret_bool HX.out, hB⟩
  · rw [h1] at HT
    have HX := hide (show okR r = v by rw [← HV.out]; unfold okE; rw [h1]; rfl)
    have HR := hide (RowValid_any A n c _ r W hr1.rd (Nat.le_refl _) hr1.le)
    clear h1
    go_wp2_with fail
    refine HT.out.mono ?_
    rintro e W1 ⟨rfl, rfl⟩
    go_wp2_with fail
    refine HR.out.mono ?_
    rintro e W2 ⟨rfl, hB2⟩
    have HE := hide (bstep hB hB2)
    clear hB hB2
    go_wp2
    go_ret
    exact ⟨ret_bool HX.out, HE.out⟩
theorem events1_any (t : Int) (A : Option Addr) (n c : Nat) (r : Rw) (w : World) (hr : RowK w w.heap.size A n r) :
    Calls Tryz.prog 118 #[.agg #[.int .i64 t, .slice A n c]] w (RetV w (.bool (!okE (t, r)))) := by
  have hB := below_val (w := w) #[.int .i64 t, .slice A n c] 36
  have k1 := Blk.new w 36 #[.int .i64 t, .slice A n c]
  have hr1 := (hr.below hB).mono hB.size
  obtain ⟨v, hv⟩ : ∃ v, okE (t, r) = v := ⟨_, rfl⟩
  rw [hv]
  clear hr
  go_enter Tryz.func118, Tryz.ntmps118
  go_upto_region 1 with fail
  obtain ⟨W, hW⟩ : ∃ W, w.alloc (.cells #[.int .i64 t, .slice A n c] 36) = W := ⟨_, rfl⟩
  rw [hW] at hB k1 hr1 ⊢
  clear hW
  have c0 : W.cell? ⟨w.heap.size, 0, none⟩ = some (.int .i64 t) := by simpa using k1.cell 0
  have c1 : W.cell? ⟨w.heap.size, 1, none⟩ = some (.slice A n c) := by simpa using k1.cell 1
  have HE0 := hide (hv ▸ event_any t A n c r W hr1)
  clear hv hr1 k1
  go_wp2_with fail
  refine HE0.out.mono ?_
  rintro e W1 ⟨rfl, hB1⟩
  have HE := hide (bstep hB hB1)
  clear hB hB1
  go_wp2
  go_ret
  exact ⟨rfl, HE.out⟩
theorem all_dE (l : List Ev) (p : Te → Bool) : (dE l).all p = l.all fun i => p (i.t, i.r) := by unfold dE; rw [List.all_map]; rfl
theorem events_any (A : Option Addr) (n c : Nat) (l : List Ev) (w : World) (hl : EvR w w.heap.size A n l) :
    Calls Tryz.prog 61 #[.slice A n c] w (RetV w (.bool (evsB (dE l)))) := by
  have hn := hl.le
  have HLN := hide hl.len
  obtain ⟨v, hv⟩ : ∃ v, evsB (dE l) = v := ⟨_, rfl⟩
  rw [hv]
  have HV := hide hv
  clear hv
  by_cases h : n ≤ 100
  · have q : (n : Int) ≤ 100 := by omega
    obtain ⟨u, hu⟩ : ∃ u, (l.any fun i => !okE (i.t, i.r)) = u := ⟨_, rfl⟩
    have HC := hide (hu ▸ con_evs A n c l w hl.rd (by omega) 118 #[] (fun i => !okE (i.t, i.r)) (enters_of Tryz.func118 (by kernel_rfl) rfl) (fun x hx X hX => events1_any x.t x.A x.n x.c x.r X (((hl.rows x hx).below hX).mono hX.size)))
    have HX := hide (show (!u) = v by
      rw [← HV.out, ← hu]
      unfold evsB
      rw [all_dE, any_all_not, dE_len, HLN.out]
      simp [h])
    clear hu hl h
    go_enter Tryz.func61, Tryz.ntmps61
    go_wp2_with fail
    refine HC.out.mono ?_
    rintro e W1 ⟨rfl, hB1⟩
    go_wp2
    go_ret
    exact ⟨ret_bool HX.out, hB1⟩
  · have q : (100 : Int) < (n : Int) := by omega
    have HX := hide (show false = v by
      rw [← HV.out]
      unfold evsB
      rw [dE_len, HLN.out]
      simp [h])
    clear hl h
    go_enter Tryz.func61, Tryz.ntmps61
    go_wp2
    go_ret
    exact ⟨ret_bool HX.out, Below.refl _ _⟩
theorem sized_any (A : Option Addr) (n c : Nat) (A' : Option Addr) (n' c' : Nat) (on others : List Int) (w : World) (h : on.length = n) (h' : others.length = n') (hn : n ≤ 9223372036854775807) (hn' : n' ≤ 9223372036854775807) :
    Calls Tryz.prog 62 #[.agg #[.slice A n c, .slice A' n' c']] w (RetV w (.bool (fitK on others))) := by
  have hB := below_val (w := w) #[.slice A n c, .slice A' n' c'] 91
  have k1 := Blk.new w 91 #[.slice A n c, .slice A' n' c']
  obtain ⟨v, hv⟩ : ∃ v, fitK on others = v := ⟨_, rfl⟩
  rw [hv]
  have HV := hide hv
  have H1 := hide h
  have H2 := hide h'
  clear hv h h'
  go_enter Tryz.func62, Tryz.ntmps62
  go_upto_region 1 with fail
  obtain ⟨W, hW⟩ : ∃ W, w.alloc (.cells #[.slice A n c, .slice A' n' c'] 91) = W := ⟨_, rfl⟩
  rw [hW] at hB k1 ⊢
  clear hW
  have c0 : W.cell? ⟨w.heap.size, 0, none⟩ = some (.slice A n c) := by simpa using k1.cell 0
  have c1 : W.cell? ⟨w.heap.size, 1, none⟩ = some (.slice A' n' c') := by simpa using k1.cell 1
  clear k1
  by_cases he : n = n'
  · have z : ((n : Int) == (n' : Int)) = true := by simp [he]
    have HX := hide (show decide ((n : Int) ≤ 8) = v by
      rw [← HV.out]
      unfold fitK
      rw [H1.out, H2.out]
      by_cases h8 : n ≤ 8
      · have : (n : Int) ≤ 8 := by omega
        simp [he, h8, this] <;> omega
      · have : ¬ (n : Int) ≤ 8 := by omega
        simp [he, this] <;> omega)
    clear he
    go_wp2
    go_ret
    exact ⟨ret_bool HX.out, hB⟩
  · have z : ((n : Int) == (n' : Int)) = false := by simp; omega
    have HX := hide (show false = v by
      rw [← HV.out]
      unfold fitK
      rw [H1.out, H2.out]
      simp [he])
    clear he
    go_wp2
    go_ret
    exact ⟨ret_bool HX.out, hB⟩
theorem below1_any (x : Int) (w : World) : Calls Tryz.prog 119 #[.int .i64 x] w fun e w' => e = .returned (.func (Fn.func 120) #[] #[.pointer (some ⟨w.heap.size, 0, none⟩)]) ∧ w' = w.alloc (.cells #[.int .i64 x] 3) := by
  go_enter Tryz.func119, Tryz.ntmps119
  go_wp2
  go_ret
  exact ⟨rfl, rfl⟩
theorem below11_any (x : Int) (b : Nat) (m : Int) (w : World) (h : w.cell? ⟨b, 0, none⟩ = some (.int .i64 m)) (hm : -9223372036854775807 ≤ m ∧ m ≤ 9223372036854775807) :
    Calls Tryz.prog 120 #[.int .i64 x, .pointer (some ⟨b, 0, none⟩)] w (RetV w (.bool (!btw x 0 (m - 1)))) := by
  obtain ⟨v, hv⟩ : ∃ v, btw x 0 (m - 1) = v := ⟨_, rfl⟩
  have HB := hide (hv ▸ pwithin_any x 0 (m - 1) w)
  rw [hv]
  clear hv
  go_enter Tryz.func120, Tryz.ntmps120
  go_wp2_with fail
  refine HB.out.mono ?_
  rintro e w' ⟨rfl, rfl⟩
  go_wp2
  go_ret
  exact ⟨rfl, Below.refl _ _⟩
theorem ranged_any (lo hi : Int) (w : World) : Calls Tryz.prog 64 #[.int .i64 lo, .int .i64 hi] w fun e w' => e = .returned (.bool (spanB lo hi)) ∧ w = w' := by
  obtain ⟨v, hv⟩ : ∃ v, spanB lo hi = v := ⟨_, rfl⟩
  rw [hv]
  have HV := hide hv
  clear hv
  have H1 := hide (pwithin_any lo (-1000000000) 1000000000 w)
  cases h1 : btw lo (-1000000000) 1000000000
  · rw [h1] at H1
    have HX := hide (show false = v by rw [← HV.out]; unfold spanB; rw [h1]; rfl)
    clear h1
    go_enter Tryz.func64, Tryz.ntmps64
    go_wp2_with fail
    refine H1.out.mono ?_
    rintro e w' ⟨rfl, rfl⟩
    go_wp2
    go_ret
    exact ⟨ret_bool HX.out, rfl⟩
  · rw [h1] at H1
    have HX := hide (show btw hi lo 1000000000 = v by
      rw [← HV.out]
      unfold spanB
      have h2 := btw_iff.1 h1
      rw [h1, Bool.true_and, Bool.eq_iff_iff, Bool.and_eq_true, btw_iff, btw_iff, decide_eq_true_eq]
      omega)
    have H2 := hide (pwithin_any hi lo 1000000000 w)
    clear h1
    go_enter Tryz.func64, Tryz.ntmps64
    go_wp2_with fail
    refine H1.out.mono ?_
    rintro e w' ⟨rfl, rfl⟩
    go_wp2_with fail
    refine H2.out.mono ?_
    rintro e w' ⟨rfl, rfl⟩
    go_wp2
    go_ret
    exact ⟨ret_bool HX.out, rfl⟩
theorem lacking1_any (t : Int) (A : Option Addr) (n c : Nat) (r : Rw) (b : Nat) (A' : Option Addr) (n' c' : Nat) (xs : List Int) (w : World) (h : w.cell? ⟨b, 0, none⟩ = some (.slice A' n' c')) (hx : Reads w w.heap.size 1 A' n' (xs.map (Value.int .i64))) (hn' : n' ≤ 9223372036854775807) (hl : r.length = n) (hn : n ≤ 9223372036854775807) :
    Calls Tryz.prog 122 #[.agg #[.int .i64 t, .slice A n c], .pointer (some ⟨b, 0, none⟩)] w (RetV w (.bool (!hasC r xs))) := by
  have hB := below_val (w := w) #[.int .i64 t, .slice A n c] 36
  have k1 := Blk.new w 36 #[.int .i64 t, .slice A n c]
  have hx1 := hx.up hB
  have hb := (hB.cell (p := ⟨b, 0, none⟩) (World.block_lt_of_cell? _ _ h)).trans h
  obtain ⟨v, hv⟩ : ∃ v, hasC r xs = v := ⟨_, rfl⟩
  rw [hv]
  clear hx h
  go_enter Tryz.func122, Tryz.ntmps122
  go_upto_region 1 with fail
  obtain ⟨W, hW⟩ : ∃ W, w.alloc (.cells #[.int .i64 t, .slice A n c] 36) = W := ⟨_, rfl⟩
  rw [hW] at hB k1 hx1 hb ⊢
  clear hW
  have c1 : W.cell? ⟨w.heap.size, 1, none⟩ = some (.slice A n c) := by simpa using k1.cell 1
  have HH := hide (hv ▸ has_pair A' n' c' xs A n c r W hx1 hn' hl hn)
  clear hv hx1 k1 hl
  go_wp2_with fail
  refine HH.out.mono ?_
  rintro e W1 ⟨rfl, hB1⟩
  have HE := hide (bstep hB hB1)
  clear hB hB1
  go_wp2
  go_ret
  exact ⟨rfl, HE.out⟩
theorem lacking_any (A' : Option Addr) (n' c' : Nat) (xs : List Int) (A : Option Addr) (n c : Nat) (l : List Ev) (w : World) (hx : Reads w w.heap.size 1 A' n' (xs.map (Value.int .i64))) (hn' : n' ≤ 9223372036854775807) (hl : EvR w w.heap.size A n l) (hn : n ≤ 100000) :
    Calls Tryz.prog 65 #[.slice A' n' c', .slice A n c] w (RetV w (.bool (!hasE (dE l) xs))) := by
  have hB := below_val (w := w) #[.slice A' n' c'] 22
  have k1 := Blk.new w 22 #[.slice A' n' c']
  have hx1 := hx.up hB
  have hl1 := hl.step hB
  obtain ⟨v, hv⟩ : ∃ v, (l.any fun i => !hasC i.r xs) = v := ⟨_, rfl⟩
  have HV := hide (show (!hasE (dE l) xs) = v by
    unfold hasE
    rw [← hv, all_dE, ← any_all_not, Bool.not_not])
  rw [HV.out]
  clear hx hl
  go_enter Tryz.func65, Tryz.ntmps65
  go_upto_region 1 with fail
  obtain ⟨W, hW⟩ : ∃ W, w.alloc (.cells #[.slice A' n' c'] 22) = W := ⟨_, rfl⟩
  rw [hW] at hB k1 hx1 hl1 ⊢
  clear hW
  have HC := hide (hv ▸ con_evs A n c l W hl1.rd hn 122 #[.pointer (some ⟨w.heap.size, 0, none⟩)] (fun i => !hasC i.r xs) (enters_of Tryz.func122 (by kernel_rfl) rfl)
    (fun x hx X hX => lacking1_any x.t x.A x.n x.c x.r w.heap.size A' n' c' xs X (by simpa using (k1.below hX k1.lt).cell 0) (hx1.up hX) hn' (hl1.rows x hx).len (hl1.rows x hx).le))
  clear hv hx1 k1 hl1
  go_wp2_with fail
  refine HC.out.mono ?_
  rintro e W1 ⟨rfl, hB1⟩
  have HE := hide (bstep hB hB1)
  clear hB hB1
  go_wp2
  go_ret
  exact ⟨rfl, HE.out⟩
end Go.Proofs.YtoapjidpfghnlaaGreatDoor
