/-
  The walks of pair's small functions: columns, keys, events, the interval. No condition.
  The walk of pair.of: the text of a row's key. No condition.
-/
import Derived.Test.YtoapjidpfghnlaaGreatDoorEvX
import Derived.Test.YtoapjidpfghnlaaGreatDoorUpA
import Derived.Test.YtoapjidpfghnlaaGreatDoorGat
import Derived.Test.YtoapjidpfghnlaaGreatDoorApl
namespace Go.Proofs.YtoapjidpfghnlaaGreatDoor

section
open Go.RowKit
attribute [local go_sem] Oper.semAt_some wide_fn wide_depth
set_option linter.unusedVariables false
set_option linter.unusedSimpArgs false

theorem pwithin_any (n lo hi : Int) (w : World) : Calls Tryz.prog 68 #[.int .i64 n, .int .i64 lo, .int .i64 hi] w fun e w' => e = .returned (.bool (btw n lo hi)) ∧ w = w' := by
  by_cases h1 : n < lo
  · rw [btw_lo h1]
    go_enter Tryz.func68, Tryz.ntmps68
    go_wp2
    go_ret
    exact ⟨rfl, rfl⟩
  · rw [show btw n lo hi = decide (n ≤ hi) from by simp [btw, show lo ≤ n by omega]]
    go_enter Tryz.func68, Tryz.ntmps68
    go_wp2
    go_ret
    exact ⟨rfl, rfl⟩
theorem has1_any (x : Int) (b : Nat) (A : Option Addr) (n c : Nat) (w : World) (h : w.cell? ⟨b, 0, none⟩ = some (.slice A n c)) (hn : n ≤ 9223372036854775807) :
    Calls Tryz.prog 135 #[.int .i64 x, .pointer (some ⟨b, 0, none⟩)] w (RetV w (.bool (!btw x 0 ((n : Int) - 1)))) := by
  obtain ⟨v, hv⟩ : ∃ v, btw x 0 ((n : Int) - 1) = v := ⟨_, rfl⟩
  have HB := hide (hv ▸ pwithin_any x 0 ((n : Int) - 1) w)
  rw [hv]
  clear hv
  go_enter Tryz.func135, Tryz.ntmps135
  go_wp2_with fail
  refine HB.out.mono ?_
  rintro e w' ⟨rfl, rfl⟩
  go_wp2
  go_ret
  exact ⟨rfl, Below.refl _ _⟩
theorem any_all_not {α : Type} (l : List α) (p : α → Bool) : (!l.any fun x => !p x) = l.all p := by
  induction l with
  | nil => rfl
  | cons x l ih => rw [List.any_cons, List.all_cons, ← ih]; cases p x <;> simp
theorem has_pair (A' : Option Addr) (n' c' : Nat) (xs : List Int) (A : Option Addr) (n c : Nat) (r : Rw) (w : World) (hx : Reads w w.heap.size 1 A' n' (xs.map (Value.int .i64))) (hn' : n' ≤ 9223372036854775807) (hl : r.length = n) (hn : n ≤ 9223372036854775807) :
    Calls Tryz.prog 82 #[.slice A' n' c', .slice A n c] w (RetV w (.bool (hasC r xs))) := by
  have hB := below_val (w := w) #[.slice A n c] 34
  have k1 := Blk.new w 34 #[.slice A n c]
  have hx1 := hx.up hB
  obtain ⟨v, hv⟩ : ∃ v, (xs.any fun x => !btw x 0 ((n : Int) - 1)) = v := ⟨_, rfl⟩
  have HV := hide (show hasC r xs = !v by
    unfold hasC
    rw [← hv, any_all_not, hl])
  rw [HV.out]
  clear hx
  go_enter Tryz.func82, Tryz.ntmps82
  go_upto_region 1 with fail
  obtain ⟨W, hW⟩ : ∃ W, w.alloc (.cells #[.slice A n c] 34) = W := ⟨_, rfl⟩
  rw [hW] at hB k1 hx1 ⊢
  clear hW
  have HC := hide (hv ▸ con_ints A' n' c' W.heap.size xs W hx1 hn' (Nat.le_refl _) 135 #[.pointer (some ⟨w.heap.size, 0, none⟩)] (fun x => !btw x 0 ((n : Int) - 1)) (enters_of Tryz.func135 (by kernel_rfl) rfl)
    (fun x _ X hX => has1_any x w.heap.size A n c X (by simpa using (k1.below hX k1.lt).cell 0) hn))
  clear hv hx1 k1
  go_wp2_with fail
  refine HC.out.mono ?_
  rintro e W1 ⟨rfl, hB1⟩
  have HE := hide (bstep hB hB1)
  clear hB hB1
  go_wp2
  go_ret
  exact ⟨rfl, HE.out⟩
theorem cwithin_any (n lo hi : Int) (w : World) : Calls Tryz.prog 195 #[.int .i64 n, .int .i64 lo, .int .i64 hi] w fun e w' => e = .returned (.bool (btw n lo hi)) ∧ w = w' := by
  by_cases h1 : n < lo
  · rw [btw_lo h1]
    go_enter Tryz.func195, Tryz.ntmps195
    go_wp2
    go_ret
    exact ⟨rfl, rfl⟩
  · rw [show btw n lo hi = decide (n ≤ hi) from by simp [btw, show lo ≤ n by omega]]
    go_enter Tryz.func195, Tryz.ntmps195
    go_wp2
    go_ret
    exact ⟨rfl, rfl⟩
theorem CkValid_any (t : Int) (w : World) : Calls Tryz.prog 149 #[.int .i64 t] w fun e w' => e = .returned (.bool (btw t (-1000000000000) 1000000000000)) ∧ w = w' := by
  go_enter Tryz.func149, Tryz.ntmps149
  go_wp2_with fail
  refine (cwithin_any t _ _ w).mono ?_
  rintro e w' ⟨rfl, rfl⟩
  go_wp2
  go_ret
  exact ⟨rfl, rfl⟩
theorem event_any (t : Int) (A : Option Addr) (n c : Nat) (r : Rw) (w : World) (hr : RowK w w.heap.size A n r) :
    Calls Tryz.prog 102 #[.agg #[.int .i64 t, .slice A n c]] w (RetV w (.bool (okE (t, r)))) := by
  have hB := below_val (w := w) #[.int .i64 t, .slice A n c] 36
  have k1 := Blk.new w 36 #[.int .i64 t, .slice A n c]
  have hr1 := (hr.below hB).mono hB.size
  obtain ⟨v, hv⟩ : ∃ v, okE (t, r) = v := ⟨_, rfl⟩
  rw [hv]
  have HV := hide hv
  clear hv hr
  go_enter Tryz.func102, Tryz.ntmps102
  go_upto_region 1 with fail
  obtain ⟨W, hW⟩ : ∃ W, w.alloc (.cells #[.int .i64 t, .slice A n c] 36) = W := ⟨_, rfl⟩
  rw [hW] at hB k1 hr1 ⊢
  clear hW
  have c0 : W.cell? ⟨w.heap.size, 0, none⟩ = some (.int .i64 t) := by simpa using k1.cell 0
  have c1 : W.cell? ⟨w.heap.size, 1, none⟩ = some (.slice A n c) := by simpa using k1.cell 1
  have HT := hide (CkValid_any t W)
  cases h1 : btw t (-1000000000000) 1000000000000
  · rw [h1] at HT
    have HX := hide (show false = v by rw [← HV.out]; unfold okE; rw [h1]; rfl)
    clear h1
    go_wp2_with fail
    refine HT.out.mono ?_
    rintro e W1 ⟨rfl, rfl⟩
    go_wp2
    go_ret
    exact ⟨ret_bool HX.out, hB⟩
  · rw [h1] at HT
    have HX := hide (show okR r = v by rw [← HV.out]; unfold okE; rw [h1]; rfl)
    have HR := hide (RowValid_any A n c _ r W hr1.rd (Nat.le_refl _) hr1.le)
    clear h1
    go_wp2_with fail
    refine HT.out.mono ?_
    rintro e W1 ⟨rfl, rfl⟩
    go_wp2_with fail
    refine HR.out.mono ?_
    rintro e W2 ⟨rfl, hB2⟩
    have HE := hide (bstep hB hB2)
    clear hB hB2
    go_wp2
    go_ret
    exact ⟨ret_bool HX.out, HE.out⟩
theorem events1_any (t : Int) (A : Option Addr) (n c : Nat) (r : Rw) (w : World) (hr : RowK w w.heap.size A n r) :
    Calls Tryz.prog 118 #[.agg #[.int .i64 t, .slice A n c]] w (RetV w (.bool (!okE (t, r)))) := by
  have hB := below_val (w := w) #[.int .i64 t, .slice A n c] 36
  have k1 := Blk.new w 36 #[.int .i64 t, .slice A n c]
  have hr1 := (hr.below hB).mono hB.size
  obtain ⟨v, hv⟩ : ∃ v, okE (t, r) = v := ⟨_, rfl⟩
  rw [hv]
  clear hr
  go_enter Tryz.func118, Tryz.ntmps118
  go_upto_region 1 with fail
  obtain ⟨W, hW⟩ : ∃ W, w.alloc (.cells #[.int .i64 t, .slice A n c] 36) = W := ⟨_, rfl⟩
  rw [hW] at hB k1 hr1 ⊢
  clear hW
  have c0 : W.cell? ⟨w.heap.size, 0, none⟩ = some (.int .i64 t) := by simpa using k1.cell 0
  have c1 : W.cell? ⟨w.heap.size, 1, none⟩ = some (.slice A n c) := by simpa using k1.cell 1
  have HE0 := hide (hv ▸ event_any t A n c r W hr1)
  clear hv hr1 k1
  go_wp2_with fail
  refine HE0.out.mono ?_
  rintro e W1 ⟨rfl, hB1⟩
  have HE := hide (bstep hB hB1)
  clear hB hB1
  go_wp2
  go_ret
  exact ⟨rfl, HE.out⟩
theorem all_dE (l : List Ev) (p : Te → Bool) : (dE l).all p = l.all fun i => p (i.t, i.r) := by unfold dE; rw [List.all_map]; rfl
theorem events_any (A : Option Addr) (n c : Nat) (l : List Ev) (w : World) (hl : EvR w w.heap.size A n l) :
    Calls Tryz.prog 61 #[.slice A n c] w (RetV w (.bool (evsB (dE l)))) := by
  have hn := hl.le
  have HLN := hide hl.len
  obtain ⟨v, hv⟩ : ∃ v, evsB (dE l) = v := ⟨_, rfl⟩
  rw [hv]
  have HV := hide hv
  clear hv
  by_cases h : n ≤ 100
  · have q : (n : Int) ≤ 100 := by omega
    obtain ⟨u, hu⟩ : ∃ u, (l.any fun i => !okE (i.t, i.r)) = u := ⟨_, rfl⟩
    have HC := hide (hu ▸ con_evs A n c l w hl.rd (by omega) 118 #[] (fun i => !okE (i.t, i.r)) (enters_of Tryz.func118 (by kernel_rfl) rfl) (fun x hx X hX => events1_any x.t x.A x.n x.c x.r X (((hl.rows x hx).below hX).mono hX.size)))
    have HX := hide (show (!u) = v by
      rw [← HV.out, ← hu]
      unfold evsB
      rw [all_dE, any_all_not, dE_len, HLN.out]
      simp [h])
    clear hu hl h
    go_enter Tryz.func61, Tryz.ntmps61
    go_wp2_with fail
    refine HC.out.mono ?_
    rintro e W1 ⟨rfl, hB1⟩
    go_wp2
    go_ret
    exact ⟨ret_bool HX.out, hB1⟩
  · have q : (100 : Int) < (n : Int) := by omega
    have HX := hide (show false = v by
      rw [← HV.out]
      unfold evsB
      rw [dE_len, HLN.out]
      simp [h])
    clear hl h
    go_enter Tryz.func61, Tryz.ntmps61
    go_wp2
    go_ret
    exact ⟨ret_bool HX.out, Below.refl _ _⟩
theorem sized_any (A : Option Addr) (n c : Nat) (A' : Option Addr) (n' c' : Nat) (on others : List Int) (w : World) (h : on.length = n) (h' : others.length = n') (hn : n ≤ 9223372036854775807) (hn' : n' ≤ 9223372036854775807) :
    Calls Tryz.prog 62 #[.agg #[.slice A n c, .slice A' n' c']] w (RetV w (.bool (fitK on others))) := by
  have hB := below_val (w := w) #[.slice A n c, .slice A' n' c'] 91
  have k1 := Blk.new w 91 #[.slice A n c, .slice A' n' c']
  obtain ⟨v, hv⟩ : ∃ v, fitK on others = v := ⟨_, rfl⟩
  rw [hv]
  have HV := hide hv
  have H1 := hide h
  have H2 := hide h'
  clear hv h h'
  go_enter Tryz.func62, Tryz.ntmps62
  go_upto_region 1 with fail
  obtain ⟨W, hW⟩ : ∃ W, w.alloc (.cells #[.slice A n c, .slice A' n' c'] 91) = W := ⟨_, rfl⟩
  rw [hW] at hB k1 ⊢
  clear hW
  have c0 : W.cell? ⟨w.heap.size, 0, none⟩ = some (.slice A n c) := by simpa using k1.cell 0
  have c1 : W.cell? ⟨w.heap.size, 1, none⟩ = some (.slice A' n' c') := by simpa using k1.cell 1
  clear k1
  by_cases he : n = n'
  · have z : ((n : Int) == (n' : Int)) = true := by simp [he]
    have HX := hide (show decide ((n : Int) ≤ 8) = v by
      rw [← HV.out]
      unfold fitK
      rw [H1.out, H2.out]
      by_cases h8 : n ≤ 8
      · have : (n : Int) ≤ 8 := by omega
        simp [he, h8, this] <;> omega
      · have : ¬ (n : Int) ≤ 8 := by omega
        simp [he, this] <;> omega)
    clear he
    go_wp2
    go_ret
    exact ⟨ret_bool HX.out, hB⟩
  · have z : ((n : Int) == (n' : Int)) = false := by simp; omega
    have HX := hide (show false = v by
      rw [← HV.out]
      unfold fitK
      rw [H1.out, H2.out]
      simp [he])
    clear he
    go_wp2
    go_ret
    exact ⟨ret_bool HX.out, hB⟩
theorem below1_any (x : Int) (w : World) : Calls Tryz.prog 119 #[.int .i64 x] w fun e w' => e = .returned (.func (Fn.func 120) #[] #[.pointer (some ⟨w.heap.size, 0, none⟩)]) ∧ w' = w.alloc (.cells #[.int .i64 x] 3) := by
  go_enter Tryz.func119, Tryz.ntmps119
  go_wp2
  go_ret
  exact ⟨rfl, rfl⟩
theorem below11_any (x : Int) (b : Nat) (m : Int) (w : World) (h : w.cell? ⟨b, 0, none⟩ = some (.int .i64 m)) (hm : -9223372036854775807 ≤ m ∧ m ≤ 9223372036854775807) :
    Calls Tryz.prog 120 #[.int .i64 x, .pointer (some ⟨b, 0, none⟩)] w (RetV w (.bool (!btw x 0 (m - 1)))) := by
  obtain ⟨v, hv⟩ : ∃ v, btw x 0 (m - 1) = v := ⟨_, rfl⟩
  have HB := hide (hv ▸ pwithin_any x 0 (m - 1) w)
  rw [hv]
  clear hv
  go_enter Tryz.func120, Tryz.ntmps120
  go_wp2_with fail
  refine HB.out.mono ?_
  rintro e w' ⟨rfl, rfl⟩
  go_wp2
  go_ret
  exact ⟨rfl, Below.refl _ _⟩
theorem ranged_any (lo hi : Int) (w : World) : Calls Tryz.prog 64 #[.int .i64 lo, .int .i64 hi] w fun e w' => e = .returned (.bool (spanB lo hi)) ∧ w = w' := by
  obtain ⟨v, hv⟩ : ∃ v, spanB lo hi = v := ⟨_, rfl⟩
  rw [hv]
  have HV := hide hv
  clear hv
  have H1 := hide (pwithin_any lo (-1000000000) 1000000000 w)
  cases h1 : btw lo (-1000000000) 1000000000
  · rw [h1] at H1
    have HX := hide (show false = v by rw [← HV.out]; unfold spanB; rw [h1]; rfl)
    clear h1
    go_enter Tryz.func64, Tryz.ntmps64
    go_wp2_with fail
    refine H1.out.mono ?_
    rintro e w' ⟨rfl, rfl⟩
    go_wp2
    go_ret
    exact ⟨ret_bool HX.out, rfl⟩
  · rw [h1] at H1
    have HX := hide (show btw hi lo 1000000000 = v by
      rw [← HV.out]
      unfold spanB
      have h2 := btw_iff.1 h1
      rw [h1, Bool.true_and, Bool.eq_iff_iff, Bool.and_eq_true, btw_iff, btw_iff, decide_eq_true_eq]
      omega)
    have H2 := hide (pwithin_any hi lo 1000000000 w)
    clear h1
    go_enter Tryz.func64, Tryz.ntmps64
    go_wp2_with fail
    refine H1.out.mono ?_
    rintro e w' ⟨rfl, rfl⟩
    go_wp2_with fail
    refine H2.out.mono ?_
    rintro e w' ⟨rfl, rfl⟩
    go_wp2
    go_ret
    exact ⟨ret_bool HX.out, rfl⟩
theorem lacking1_any (t : Int) (A : Option Addr) (n c : Nat) (r : Rw) (b : Nat) (A' : Option Addr) (n' c' : Nat) (xs : List Int) (w : World) (h : w.cell? ⟨b, 0, none⟩ = some (.slice A' n' c')) (hx : Reads w w.heap.size 1 A' n' (xs.map (Value.int .i64))) (hn' : n' ≤ 9223372036854775807) (hl : r.length = n) (hn : n ≤ 9223372036854775807) :
    Calls Tryz.prog 122 #[.agg #[.int .i64 t, .slice A n c], .pointer (some ⟨b, 0, none⟩)] w (RetV w (.bool (!hasC r xs))) := by
  have hB := below_val (w := w) #[.int .i64 t, .slice A n c] 36
  have k1 := Blk.new w 36 #[.int .i64 t, .slice A n c]
  have hx1 := hx.up hB
  have hb := (hB.cell (p := ⟨b, 0, none⟩) (World.block_lt_of_cell? _ _ h)).trans h
  obtain ⟨v, hv⟩ : ∃ v, hasC r xs = v := ⟨_, rfl⟩
  rw [hv]
  clear hx h
  go_enter Tryz.func122, Tryz.ntmps122
  go_upto_region 1 with fail
  obtain ⟨W, hW⟩ : ∃ W, w.alloc (.cells #[.int .i64 t, .slice A n c] 36) = W := ⟨_, rfl⟩
  rw [hW] at hB k1 hx1 hb ⊢
  clear hW
  have c1 : W.cell? ⟨w.heap.size, 1, none⟩ = some (.slice A n c) := by simpa using k1.cell 1
  have HH := hide (hv ▸ has_pair A' n' c' xs A n c r W hx1 hn' hl hn)
  clear hv hx1 k1 hl
  go_wp2_with fail
  refine HH.out.mono ?_
  rintro e W1 ⟨rfl, hB1⟩
  have HE := hide (bstep hB hB1)
  clear hB hB1
  go_wp2
  go_ret
  exact ⟨rfl, HE.out⟩
theorem lacking_any (A' : Option Addr) (n' c' : Nat) (xs : List Int) (A : Option Addr) (n c : Nat) (l : List Ev) (w : World) (hx : Reads w w.heap.size 1 A' n' (xs.map (Value.int .i64))) (hn' : n' ≤ 9223372036854775807) (hl : EvR w w.heap.size A n l) (hn : n ≤ 100000) :
    Calls Tryz.prog 65 #[.slice A' n' c', .slice A n c] w (RetV w (.bool (!hasE (dE l) xs))) := by
  have hB := below_val (w := w) #[.slice A' n' c'] 22
  have k1 := Blk.new w 22 #[.slice A' n' c']
  have hx1 := hx.up hB
  have hl1 := hl.step hB
  obtain ⟨v, hv⟩ : ∃ v, (l.any fun i => !hasC i.r xs) = v := ⟨_, rfl⟩
  have HV := hide (show (!hasE (dE l) xs) = v by
    unfold hasE
    rw [← hv, all_dE, ← any_all_not, Bool.not_not])
  rw [HV.out]
  clear hx hl
  go_enter Tryz.func65, Tryz.ntmps65
  go_upto_region 1 with fail
  obtain ⟨W, hW⟩ : ∃ W, w.alloc (.cells #[.slice A' n' c'] 22) = W := ⟨_, rfl⟩
  rw [hW] at hB k1 hx1 hl1 ⊢
  clear hW
  have HC := hide (hv ▸ con_evs A n c l W hl1.rd hn 122 #[.pointer (some ⟨w.heap.size, 0, none⟩)] (fun i => !hasC i.r xs) (enters_of Tryz.func122 (by kernel_rfl) rfl)
    (fun x hx X hX => lacking1_any x.t x.A x.n x.c x.r w.heap.size A' n' c' xs X (by simpa using (k1.below hX k1.lt).cell 0) (hx1.up hX) hn' (hl1.rows x hx).len (hl1.rows x hx).le))
  clear hv hx1 k1 hl1
  go_wp2_with fail
  refine HC.out.mono ?_
  rintro e W1 ⟨rfl, hB1⟩
  have HE := hide (bstep hB hB1)
  clear hB hB1
  go_wp2
  go_ret
  exact ⟨rfl, HE.out⟩
end

section
open Go.RowKit
attribute [local go_sem] Oper.semAt_some wide_fn wide_depth
set_option linter.unusedVariables false
set_option linter.unusedSimpArgs false

/-- The text of a key. -/
def ofS (xs : List Int) (r : Rw) : ByteArray := if nonul (pick r xs) then ⟨(keyC (pick r xs)).toArray⟩ else ⟨#[]⟩
theorem pick_app (r : Rw) (a b : List Int) : pick r (a ++ b) = pick r a ++ pick r b := by unfold pick; rw [List.filterMap_append]
theorem nonul_part {r : Rw} {xs : List Int} {k : Nat} (h : nonul (pick r (xs.take k)) = false) : nonul (pick r xs) = false := by
  rw [← List.take_append_drop k xs, pick_app]
  unfold nonul at *
  rw [List.all_append, h]
  rfl
theorem rowT_one' {v : Val} (h : okV v = true) : rowT [v] = valT v := by
  unfold rowT
  rw [if_pos (by unfold okR; simp [h])]
  simp [Lib.join_one]
set_option maxRecDepth 100000 in
set_option maxHeartbeats 4000000 in
theorem of_any (A' : Option Addr) (n' c' : Nat) (xs : List Int) (A : Option Addr) (n c : Nat) (r : Rw) (w : World) (hx : Reads w w.heap.size 1 A' n' (xs.map (Value.int .i64))) (hn' : n' ≤ 1000) (hr : RowK w w.heap.size A n r) (hnc : n ≤ c) (ho : okR r = true) (hh : hasC r xs = true) (ht : Tab w) :
    Calls Tryz.prog 66 #[.slice A' n' c', .slice A n c] w (RetV w (.tuple #[.string (ofS xs r), .bool (nonul (pick r xs))])) := by
  have HL := hide hx.len1
  have HLR := hide hr.len
  have hle := hr.le
  have HOK := hide ho
  have HH := hide hh
  have HAV := hide (okR_all ho)
  obtain ⟨T, hT⟩ : ∃ T, ofS xs r = T := ⟨_, rfl⟩
  obtain ⟨q, hq⟩ : ∃ q, nonul (pick r xs) = q := ⟨_, rfl⟩
  rw [hT, hq]
  have HT := hide hT
  have HQ := hide hq
  clear hT hq ho hh
  go_enter Tryz.func66, Tryz.ntmps66
  go_wp2_with fail
  go_loopw [6, 11] (fun o i wr => ∃ (k : Nat) (O : ByteArray), k ≤ n' ∧ i = .int .i64 k ∧ o = .string O ∧ O.data.toList = keyC (pick r (xs.take k)) ∧ nonul (pick r (xs.take k)) = true ∧ Below w.heap.size w wr) (fun _ i _ => n' - (intOf i).toNat)
  case atStart => exact ⟨0, _, Nat.zero_le _, rfl, rfl, rfl, rfl, Below.refl _ _⟩
  case round =>
    obtain ⟨k, O, hk, rfl, rfl, hO, hnn, hB⟩ := hrel
    have hOs : O.size ≤ 1000000 := by
      rw [← ba_list, hO]
      have h1 := keyC_len (pickC_okV HAV.out (xs.take k))
      have h2 := pickC_len r (xs.take k)
      rw [List.length_take] at h2
      have : 803 * (pick r (xs.take k)).length ≤ 803 * 1000 := Nat.mul_le_mul_left _ (by omega)
      omega
    have HO := hide hO
    have HNN := hide hnn
    clear hO hnn
    by_cases hlt : k < n'
    · obtain ⟨b, off, x, rfl, hb, hxk, c0⟩ := (hx.below hB).at1 hlt
      have hx0 := hasC_at HH.out hxk
      rw [HLR.out] at hx0
      obtain ⟨t, rfl⟩ : ∃ t : Nat, x = (t : Int) := ⟨x.toNat, by omega⟩
      have ht2 : t < n := by omega
      obtain ⟨b2, off2, v, hA, hb2, hvk, hcv⟩ := (hr.below hB).rd.elem encV_len HLR.out ht2
      have hov := List.all_eq_true.1 HAV.out v (List.mem_of_getElem? hvk)
      have HPT := hide (pickC_take HH.out hxk (show r[((t : Int)).toNat]? = some v by simpa using hvk))
      have hrd1 : Reads wr wr.heap.size 3 (some ⟨b2, off2 + t * 3, none⟩) 1 ([v].flatMap encV) := ⟨rfl, fun _ => ⟨b2, off2 + t * 3, rfl, hb2, fun j u hu => by
        have hu' : (encV v)[j]? = some u := by simpa using hu
        have := hcv j u hu'
        rw [← Nat.add_assoc] at this
        exact this⟩⟩
      have hTX := fun cc => Text_any (some ⟨b2, off2 + t * 3, none⟩) 1 cc [v] wr hrd1 (by omega) (ht.below hB)
      rw [rowT_one' hov] at hTX
      have HTX := hide hTX
      have d0 : wr.cell? ⟨b2, off2 + t * 3, none⟩ = some (.int .i64 v.k) := by simpa using hcv 0 _ rfl
      rw [hA]
      have q1 : (0 : Int) ≤ (k : Int) := by omega
      have q2 : (k : Int) < (n' : Int) := by omega
      have q3 : (0 : Int) ≤ (t : Int) := by omega
      have q4 : (t : Int) < (n : Int) := by omega
      have hvl := valT_len hov
      clear hxk hvk hcv hrd1 hA hTX hx0 hov
      by_cases hv0 : v.k = 0
      · have z : (v.k == 0) = true := by simpa using hv0
        have HZ := hide (show nonul (pick r xs) = false by
          refine nonul_part (k := k + 1) ?_
          rw [HPT.out, nonul_snoc, HNN.out]
          simp [hv0])
        have HTE := hide (show T = ⟨#[]⟩ by rw [← HT.out]; unfold ofS; rw [HZ.out]; rfl)
        have HQE := hide (show q = false by rw [← HQ.out]; exact HZ.out)
        clear hv0 hvl
        go_wp2
        go_ret2
        exact ⟨by rw [HTE.out, HQE.out] <;> rfl, hB⟩
      · have z : (v.k == 0) = false := by simpa using hv0
        have HNN2 := hide (show nonul (pick r (xs.take (k + 1))) = true by
          rw [HPT.out, nonul_snoc, HNN.out]
          simp [hv0])
        obtain ⟨S, hS⟩ : ∃ S, (⟨(valT v).toArray⟩ : ByteArray) = S := ⟨_, rfl⟩
        rw [hS] at HTX
        have hSs : S.size ≤ 802 := by rw [← hS]; exact hvl
        have HS := hide (show S.data.toList = valT v by rw [← hS])
        have HN2 := hide (show (O ++ (S ++ ⟨#[44]⟩)).data.toList = keyC (pick r (xs.take (k + 1))) by
          rw [HPT.out, keyC_snoc, ba_app, ba_app, HO.out, HS.out])
        clear hS hvl hv0
        go_wp2_with fail
        refine (HTX.out _).mono ?_
        rintro e W4 ⟨rfl, hB4⟩
        have hB5 := bstep hB hB4
        clear hB hB4 HTX c0 d0
        go_wp2
        go_roundw
        case rel => exact ⟨k + 1, _, by omega, by go_num, rfl, HN2.out, HNN2.out, hB5⟩
        case measure => simp [intOf]; omega
    · obtain rfl : k = n' := by omega
      have HB := hide (show nonul (pick r xs) = true by have := HNN.out; rwa [take_all HL.out] at this)
      have HTE := hide (show T = O by
        rw [← HT.out]
        unfold ofS
        rw [HB.out, if_pos rfl]
        exact ba_ext (by rw [HO.out, take_all HL.out]))
      have HQE := hide (show q = true by rw [← HQ.out]; exact HB.out)
      go_wp2
      go_ret2
      exact ⟨by rw [HTE.out, HQE.out] <;> rfl, hB⟩
end

end Go.Proofs.YtoapjidpfghnlaaGreatDoor
