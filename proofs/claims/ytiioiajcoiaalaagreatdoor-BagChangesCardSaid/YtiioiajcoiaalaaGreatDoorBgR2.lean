/-
  The walks of the program's functions over rows: row.Valid, row.Compare with their closures, and Go's slices.ContainsFunc and CompareFunc at rows.
-/
import Derived.Test.YtiioiajcoiaalaaGreatDoorBgR1
namespace Go.Proofs.YtiioiajcoiaalaaGreatDoor
open Go.RowKit
attribute [local go_sem] Oper.semAt_some

theorem empty_size (s : ByteArray) : s.toList.isEmpty = (s.size == 0) := by
  rw [ByteArray.toList_eq, Bool.eq_iff_iff, List.isEmpty_iff, beq_iff_eq, Array.toList_eq_nil_iff]
  exact ⟨fun h => by show s.data.size = 0; rw [h]; rfl, fun h => Array.eq_empty_of_size_eq_zero h⟩
theorem below_val {w : World} (cs : Array Value) (t : TypeId) : Below w.heap.size w (w.alloc (.cells cs t)) := (Below.refl _ _).alloc (Nat.le_refl _) _

set_option maxRecDepth 100000 in
set_option maxHeartbeats 2000000 in
theorem ValidValue_any (v : Val) (w : World) : Calls Tryz.prog 124 #[.agg #[.int .i64 v.k, .int .i64 v.n, .string v.s]] w (RetV w (.bool (okV v))) := by
  have hB := below_val (w := w) #[.int .i64 v.k, .int .i64 v.n, .string v.s] 64
  have hm : Tryz.prog.eqGuardType Tryz.prog.depth 64 = false := by kernel_rfl
  have he := eqVal
  obtain ⟨k, n, s⟩ := v
  simp only at hB ⊢
  have hd : okV ⟨k, n, s⟩ = ((k == 0 && n == 0 && s.size == 0) || (k == 1 && s.size == 0 && decide (-1000000000000000 ≤ n) && decide (n ≤ 1000000000000000)) || (k == 2 && n == 0 && decide (s.size ≤ 200))) := rfl
  have hse : (s = ByteArray.empty) ↔ s.size = 0 := ⟨fun h => by rw [h]; rfl, empty_of_size⟩
  by_cases h0 : k = 0
  · subst h0
    have HD := hide (show okV ⟨0, n, s⟩ = decide ((0 : Int) = 0 ∧ n = 0 ∧ s = ByteArray.empty) from by
      rw [hd, Bool.eq_iff_iff, decide_eq_true_eq, hse]; simp)
    rw [HD.out]
    clear hd hse
    go_enter Tryz.func124, Tryz.ntmps124
    go_wp2
    go_ret
    exact ⟨rfl, hB⟩
  · have n0 : (k == 0) = false := by simpa using h0
    by_cases h1 : k = 1
    · subst h1
      have HD := hide (show okV ⟨1, n, s⟩ = (btw n (-1000000000000000) 1000000000000000 && s.toList.isEmpty) from by
        rw [hd, empty_size s]
        unfold btw
        cases s.size == 0 <;> cases decide (-1000000000000000 ≤ n) <;> cases decide (n ≤ 1000000000000000) <;> rfl)
      rw [HD.out]
      clear hd hse n0 h0
      obtain ⟨bb, hbb⟩ : ∃ bb, btw n (-1000000000000000) 1000000000000000 = bb := ⟨_, rfl⟩
      have HBB := hide hbb
      rw [hbb]
      clear hbb
      cases bb
      · go_enter Tryz.func124, Tryz.ntmps124
        go_wp2_with (go_at_call 127; refine (within_any _ _ _ _).mono ?_; rintro e w' ⟨rfl, rfl⟩; rw [HBB.out])
        go_ret
        exact ⟨rfl, hB⟩
      · go_enter Tryz.func124, Tryz.ntmps124
        go_wp2_with (go_at_call 127; refine (within_any _ _ _ _).mono ?_; rintro e w' ⟨rfl, rfl⟩; rw [HBB.out])
        go_ret
        exact ⟨rfl, hB⟩
    · have n1 : (k == 1) = false := by simpa using h1
      by_cases h2 : k = 2
      · subst h2
        by_cases hn : n = 0
        · subst hn
          have HD := hide (show okV ⟨2, 0, s⟩ = decide ((s.size : Int) ≤ 200) from by
            rw [hd, Bool.eq_iff_iff, decide_eq_true_eq]
            simp
            omega)
          rw [HD.out]
          clear hd hse n0 h0 n1 h1
          go_enter Tryz.func124, Tryz.ntmps124
          go_wp2
          go_ret
          exact ⟨rfl, hB⟩
        · have n2 : (n == 0) = false := by simpa using hn
          have HD := hide (show okV ⟨2, n, s⟩ = false from by rw [hd]; simp [hn])
          rw [HD.out]
          clear hd hse n0 h0 n1 h1
          go_enter Tryz.func124, Tryz.ntmps124
          go_wp2
          go_ret
          exact ⟨rfl, hB⟩
      · have n2 : (k == 2) = false := by simpa using h2
        have HD := hide (show okV ⟨k, n, s⟩ = false from by rw [hd]; simp [h0, h1, h2])
        rw [HD.out]
        clear hd hse
        go_enter Tryz.func124, Tryz.ntmps124
        go_wp2
        go_ret
        exact ⟨rfl, hB⟩

theorem valid1_any (v : Val) (w : World) : Calls Tryz.prog 123 #[.agg #[.int .i64 v.k, .int .i64 v.n, .string v.s]] w (RetV w (.bool (!okV v))) := by
  have hB := below_val (w := w) #[.int .i64 v.k, .int .i64 v.n, .string v.s] 64
  go_enter Tryz.func123, Tryz.ntmps123
  go_wp2_with fail
  refine (ValidValue_any v _).mono ?_
  rintro e w' ⟨rfl, hB1⟩
  have HB := hide (bstep hB hB1)
  clear hB hB1
  go_wp2
  go_ret
  exact ⟨rfl, HB.out⟩

theorem any_take' {α : Type} {l : List α} {k : Nat} {x : α} {p : α → Bool} (h : l[k]? = some x) (hp : p x = false) (ha : (l.take k).any p = false) : (l.take (k + 1)).any p = false := by
  rw [take_snoc' h, List.any_append, ha]; simp [hp]

set_option maxRecDepth 100000 in
set_option maxHeartbeats 2000000 in
theorem idx_row (A : Option Addr) (n c B : Nat) (r : Rw) (w : World) (hr : Reads w B 3 A n (r.flatMap encV)) (hB : B ≤ w.heap.size) (hn : n ≤ 9223372036854775807) :
    Calls Tryz.prog 148 #[.slice A n c, .func (Fn.func 123) #[] #[]] w fun e w' => (∃ i : Int, e = .returned (.int .i64 i) ∧ decide (0 ≤ i) = r.any (fun v => !okV v)) ∧ Below w.heap.size w w' := by
  have HL := hide (hr.len encV_len (by omega))
  go_enter Tryz.func148, Tryz.ntmps148
  go_wp2_with fail
  go_loopw [8] (fun i wr => ∃ k : Nat, k ≤ n ∧ i = .int .i64 k ∧ (r.take k).any (fun v => !okV v) = false ∧ Below w.heap.size w wr) (fun i _ => n - (intOf i).toNat)
  case atStart => exact ⟨0, Nat.zero_le _, rfl, rfl, Below.refl _ _⟩
  case round =>
    obtain ⟨k, hk, rfl, hany, hBw⟩ := hrel
    have HA := hide hany
    clear hany
    by_cases hlt : k < n
    · obtain ⟨b, off, e, rfl, hb, hek, hce⟩ := (hr.more hB).below hBw |>.elem encV_len HL.out hlt
      have HEK := hide hek
      have e0 : wr.cell? ⟨b, off + k * 3, none⟩ = some (.int .i64 e.k) := by simpa using hce 0 _ rfl
      have e1 : wr.cell? ⟨b, off + k * 3 + 1, none⟩ = some (.int .i64 e.n) := by simpa [← Nat.add_assoc] using hce 1 _ rfl
      have e2 : wr.cell? ⟨b, off + k * 3 + 2, none⟩ = some (.string e.s) := by simpa [← Nat.add_assoc] using hce 2 _ rfl
      clear hce hek
      have q1 : (0 : Int) ≤ (k : Int) := by omega
      have q2 : (k : Int) < (n : Int) := by omega
      go_wp2_with fail
      refine (valid1_any e wr).mono ?_
      rintro ee w1 ⟨rfl, hB1⟩
      have hB2 := bstep hBw hB1
      cases hq : okV e
      · have HX := hide (show r.any (fun v => !okV v) = true from List.any_eq_true.2 ⟨e, List.mem_of_getElem? HEK.out, by rw [hq]; rfl⟩)
        clear hq hB1 hBw e0 e1 e2
        go_wp2
        go_ret
        exact ⟨⟨_, rfl, by rw [HX.out]; simp⟩, hB2⟩
      · have HX := hide (any_take' (p := fun v => !okV v) HEK.out (by rw [hq]; rfl) HA.out)
        clear hq hB1 hBw e0 e1 e2
        go_wp2
        go_roundw
        case rel => exact ⟨k + 1, by omega, by go_num, HX.out, hB2⟩
        case measure => simp [intOf]; omega
    · obtain rfl : k = n := by omega
      go_wp2
      go_ret
      exact ⟨⟨_, rfl, by
        have := HA.out
        rw [take_all HL.out] at this
        rw [this]; rfl⟩, hBw⟩
theorem con_row (A : Option Addr) (n c B : Nat) (r : Rw) (w : World) (hr : Reads w B 3 A n (r.flatMap encV)) (hB : B ≤ w.heap.size) (hn : n ≤ 9223372036854775807) :
    Calls Tryz.prog 122 #[.slice A n c, .func (Fn.func 123) #[] #[]] w (RetV w (.bool (r.any (fun v => !okV v)))) := by
  go_enter Tryz.func122, Tryz.ntmps122
  go_wp2_with (go_at_call 148; refine (idx_row A n c B r w hr hB hn).mono ?_; rintro e w' ⟨⟨i, rfl, hi⟩, hB1⟩)
  go_ret
  exact ⟨rfl, hB1⟩
theorem okR_any (r : Rw) : okR r = (decide (r.length ≤ 8) && !r.any (fun v => !okV v)) := by
  unfold okR
  rw [Bool.and_comm]
  congr 1
  rw [Bool.eq_iff_iff]
  simp
theorem RowValid_any (A : Option Addr) (n c B : Nat) (r : Rw) (w : World) (hr : Reads w B 3 A n (r.flatMap encV)) (hB : B ≤ w.heap.size) (hn : n ≤ 9223372036854775807) :
    Calls Tryz.prog 83 #[.slice A n c] w (RetV w (.bool (okR r))) := by
  have hl := hr.len encV_len (by omega)
  have ho := okR_any r
  rw [hl] at ho
  by_cases h8 : n ≤ 8
  · have HO := hide (show okR r = !r.any (fun v => !okV v) from by rw [ho, decide_eq_true h8]; rfl)
    clear ho hl
    go_enter Tryz.func83, Tryz.ntmps83
    go_wp2_with fail
    refine (con_row A n c B r w hr hB hn).mono ?_
    rintro e w' ⟨rfl, hB1⟩
    go_wp2
    go_ret
    exact ⟨ret_bool HO.out.symm, hB1⟩
  · have HO := hide (show okR r = false from by rw [ho, decide_eq_false h8]; rfl)
    rw [HO.out]
    clear ho hl
    go_enter Tryz.func83, Tryz.ntmps83
    go_wp2
    go_ret
    exact ⟨ret_bool (by simp <;> omega), Below.refl _ _⟩
end Go.Proofs.YtiioiajcoiaalaaGreatDoor
