/-
  The walks of the reference's functions over values: within, ValidValue, class.
-/
import Derived.Test.YtiioiajcoiaalaaGreatDoorBgR3
namespace Go.Proofs.YtiioiajcoiaalaaGreatDoor
open Go.RowKit
attribute [local go_sem] Oper.semAt_some

/-- A drawn region met in a world of a class that was laid before. -/
theorem wp_region_quiet_bwp {P : Program} {id : Nat} {Q : Exit → Act → World → Prop} {a : Act} {W0 : World} {p : BW W0} {l : List Oper} (hm : P.follows .mixedOrders = true) (hB : Region.lexB .any l.toArray = true)
    (h : wpQuiet P l.toArray (fun w' => ∃ p : BW W0, w' = p.x) (fun a' => ∀ w', (∃ p : BW W0, w' = p.x) → Q .normal a' w') l a) : (Code.region id l.toArray true).wp P Q a p.x :=
  wp_region_quiet (C := fun w' => ∃ p : BW W0, w' = p.x) hm hB ⟨⟨p.x.drew, p.h.drew⟩, rfl⟩ (by simpa using h)

theorem R2within_any (n lo hi : Int) (w : World) : Calls Tryz.prog 149 #[.int .i64 n, .int .i64 lo, .int .i64 hi] w fun e w' => e = .returned (.bool (btw n lo hi)) ∧ w = w' := by
  by_cases h1 : n < lo
  · rw [btw_lo h1]
    go_enter Tryz.func149, Tryz.ntmps149
    go_wp2
    go_ret
    exact ⟨rfl, rfl⟩
  · rw [show btw n lo hi = decide (n ≤ hi) from by simp [btw, show lo ≤ n by omega]]
    go_enter Tryz.func149, Tryz.ntmps149
    go_wp2
    go_ret
    exact ⟨rfl, rfl⟩
theorem R3within_any (n lo hi : Int) (w : World) : Calls Tryz.prog 76 #[.int .i64 n, .int .i64 lo, .int .i64 hi] w fun e w' => e = .returned (.bool (btw n lo hi)) ∧ w = w' := by
  by_cases h1 : n < lo
  · rw [btw_lo h1]
    go_enter Tryz.func76, Tryz.ntmps76
    go_wp2
    go_ret
    exact ⟨rfl, rfl⟩
  · rw [show btw n lo hi = decide (n ≤ hi) from by simp [btw, show lo ≤ n by omega]]
    go_enter Tryz.func76, Tryz.ntmps76
    go_wp2
    go_ret
    exact ⟨rfl, rfl⟩
set_option maxRecDepth 100000 in
set_option maxHeartbeats 2000000 in
theorem RValidValue_any (v : Val) (w : World) : Calls Tryz.prog 125 #[.agg #[.int .i64 v.k, .int .i64 v.n, .string v.s]] w (RetV w (.bool (okV v))) := by
  have hB := below_val (w := w) #[.int .i64 v.k, .int .i64 v.n, .string v.s] 64
  obtain ⟨k, n, s⟩ := v
  simp only at hB ⊢
  have hd : okV ⟨k, n, s⟩ = ((k == 0 && n == 0 && s.size == 0) || (k == 1 && s.size == 0 && decide (-1000000000000000 ≤ n) && decide (n ≤ 1000000000000000)) || (k == 2 && n == 0 && decide (s.size ≤ 200))) := rfl
  have he := empty_size s
  by_cases h0 : k = 0
  · subst h0
    by_cases hn : n = 0
    · subst hn
      have HD := hide (show okV ⟨0, 0, s⟩ = s.toList.isEmpty from by rw [hd, he]; simp)
      rw [HD.out]
      clear hd he
      go_enter Tryz.func125, Tryz.ntmps125
      go_wp2
      go_ret
      exact ⟨rfl, hB⟩
    · have n0 : (n == 0) = false := by simpa using hn
      have HD := hide (show okV ⟨0, n, s⟩ = false from by rw [hd]; simp [hn])
      rw [HD.out]
      clear hd he
      go_enter Tryz.func125, Tryz.ntmps125
      go_wp2
      go_ret
      exact ⟨rfl, hB⟩
  · have n0 : (k == 0) = false := by simpa using h0
    by_cases h1 : k = 1
    · subst h1
      obtain ⟨bs, hbs⟩ : ∃ bs, s.toList.isEmpty = bs := ⟨_, rfl⟩
      have HD := hide (show okV ⟨1, n, s⟩ = (bs && btw n (-1000000000000000) 1000000000000000) from by
        rw [hd, ← hbs, he]
        unfold btw
        cases s.size == 0 <;> cases decide (-1000000000000000 ≤ n) <;> cases decide (n ≤ 1000000000000000) <;> rfl)
      rw [HD.out]
      clear hd n0 h0 he
      cases bs
      · go_enter Tryz.func125, Tryz.ntmps125
        go_wp2
        go_ret
        exact ⟨rfl, hB⟩
      · go_enter Tryz.func125, Tryz.ntmps125
        go_wp2_with (go_at_call 149; refine (R2within_any _ _ _ _).mono ?_; rintro e w' ⟨rfl, rfl⟩)
        go_ret
        exact ⟨rfl, hB⟩
    · have n1 : (k == 1) = false := by simpa using h1
      clear he
      by_cases h2 : k = 2
      · subst h2
        by_cases hn : n = 0
        · subst hn
          have HD := hide (show okV ⟨2, 0, s⟩ = decide ((s.size : Int) ≤ 200) from by
            rw [hd, Bool.eq_iff_iff, decide_eq_true_eq]
            simp
            omega)
          rw [HD.out]
          clear hd n0 h0 n1 h1
          go_enter Tryz.func125, Tryz.ntmps125
          go_wp2
          go_ret
          exact ⟨rfl, hB⟩
        · have n2 : (n == 0) = false := by simpa using hn
          have HD := hide (show okV ⟨2, n, s⟩ = false from by rw [hd]; simp [hn])
          rw [HD.out]
          clear hd n0 h0 n1 h1
          go_enter Tryz.func125, Tryz.ntmps125
          go_wp2
          go_ret
          exact ⟨rfl, hB⟩
      · have n2 : (k == 2) = false := by simpa using h2
        have HD := hide (show okV ⟨k, n, s⟩ = false from by rw [hd]; simp [h0, h1, h2])
        rw [HD.out]
        clear hd
        go_enter Tryz.func125, Tryz.ntmps125
        go_wp2
        go_ret
        exact ⟨rfl, hB⟩
theorem class_any (v : Val) (w : World) : Calls Tryz.prog 147 #[.agg #[.int .i64 v.k, .int .i64 v.n, .string v.s]] w (RetV w (.int .i64 (cls v))) := by
  have hB := below_val (w := w) #[.int .i64 v.k, .int .i64 v.n, .string v.s] 64
  have hc : cls v = if v.k = 1 ∨ v.k = 2 then v.k else 0 := rfl
  by_cases h1 : v.k = 1
  · have HC := hide (show cls v = 1 from by rw [hc, if_pos (.inl h1), h1])
    rw [HC.out]
    clear hc
    obtain ⟨k, n, s⟩ := v
    simp only at h1 hB ⊢
    subst h1
    go_enter Tryz.func147, Tryz.ntmps147
    go_wp2
    go_ret
    exact ⟨rfl, hB⟩
  · have n1 : (v.k == 1) = false := by simpa using h1
    by_cases h2 : v.k = 2
    · have HC := hide (show cls v = 2 from by rw [hc, if_pos (.inr h2), h2])
      rw [HC.out]
      clear hc h1 n1
      obtain ⟨k, n, s⟩ := v
      simp only at h2 hB ⊢
      subst h2
      go_enter Tryz.func147, Tryz.ntmps147
      go_wp2
      go_ret
      exact ⟨rfl, hB⟩
    · have n2 : (v.k == 2) = false := by simpa using h2
      have HC := hide (show cls v = 0 from by rw [hc, if_neg (by omega)])
      rw [HC.out]
      clear hc h1 h2
      go_enter Tryz.func147, Tryz.ntmps147
      go_wp2
      go_ret
      exact ⟨rfl, hB⟩

end Go.Proofs.YtiioiajcoiaalaaGreatDoor
