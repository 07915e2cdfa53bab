/-
  The walks of tidewrightref26.Spread and of Reactive on both sides.
-/
import Derived.Test.YtblepaocekojbaaDkP3
namespace Go.Proofs.Ytblepaocekojbaa
open Go.RowKit Go.Shelf Go.Deep
attribute [local go_sem] Oper.semAt_some

set_option maxRecDepth 100000 in
set_option maxHeartbeats 4000000 in
theorem RSpread_any (A : Option Addr) (n c : Nat) (l : List Pl) (x : Int) (w : World) (hl : Reads w w.heap.size 2 A n (l.flatMap encPl)) (hn : n ≤ 4611686018427387904) :
    Calls Try.prog 23 #[.slice A n c, .int .i64 x] w (RetSlE w 1 (sprN n l x) (sprL n l x) (sprE n l x)) := by
  have HL := hide (hl.len encPl_len (by omega))
  cases hp : plcB 20 n l
  · have HR := hide (spr_no (E := 1) (show sprE n l x = 1 from by cases hx : plcB x n l <;> (rw [spr_unf hp hx]; simp)) (by omega) (Below.refl w.heap.size w))
    have HP := hide hp
    clear hp
    go_enter Try.func23, Try.ntmps23
    go_wp2_with fail
    refine (Rplaced_any A n c _ l w hl hn).mono ?_
    rintro e W ⟨rfl, rfl⟩
    rw [HP.out]
    go_wp2
    go_ret2
    exact HR.out
  · have hn2 := plc_le hp
    by_cases hx : 1 ≤ x ∧ x ≤ 20
    · obtain ⟨X, hxX⟩ := Int.eq_ofNat_of_zero_le (show 0 ≤ x by omega)
      obtain ⟨hx1, hx2⟩ := hx
      have HP := hide hp
      have HSE := hide (fun b (h : plcB x n l = b) => (show sprE n l x = if b then 0 else 1 from by rw [spr_unf hp h]; simp; omega))
      have HBY := hide (plc_beyond (x := x) hp)
      have HAT := hide (fun k p (h : l[k]? = some p) => plc_at hp h)
      clear hp
      subst hxX
      have hmk := fun W => run_make_row' (P := Try.prog) 22 3 (.int .i64 0) 8 Try.underlying22 infoInt_dk rfl .i64 .i64 X (by omega) (by omega) W
      have m7 := World.rowIs_made w (.int .i64 0) X 3
      have hB3 : Below w.heap.size w (w.alloc (.cells (madeCells #[.int .i64 0] X) 3)) := (Below.refl _ _).alloc (Nat.le_refl _) _
      have hs3 : (w.alloc (.cells (madeCells #[.int .i64 0] X) 3)).heap.size = w.heap.size + 1 := World.size_alloc _ _
      go_enter Try.func23, Try.ntmps23
      go_wp2_with fail
      refine (Rplaced_any A n c _ l w hl hn).mono ?_
      rintro e W ⟨rfl, rfl⟩
      rw [HP.out]
      go_wp2_with fail
      refine (In_any (X : Int) 20 w).mono ?_
      rintro e W ⟨rfl, rfl⟩
      rw [show decide (1 ≤ (X : Int) ∧ (X : Int) ≤ 20) = true from by simp; omega]
      go_upto_region 6 with fail
      obtain ⟨W3, hW3⟩ : ∃ W3, w.alloc (.cells (madeCells #[.int .i64 0] X) 3) = W3 := ⟨_, rfl⟩
      rw [hW3] at m7 hB3 hs3 ⊢
      clear hW3 hmk
      have hl4 := hl.below hB3
      go_wp2_with fail
      go_loopw [7] (fun i wr => ∃ k : Nat, k ≤ n ∧ i = .int .i64 k ∧ (∀ p ∈ l.take k, p.m < (X : Int)) ∧ wr.rowIs w.heap.size 3 X (fun m => .int .i64 ((numM l k m : Nat) : Int)) ∧ Below w.heap.size W3 wr) (fun i _ => n - (intOf i).toNat)
      case atStart => exact ⟨0, Nat.zero_le _, rfl, by simp, m7.congr (fun m _ => rfl), Below.refl _ _⟩
      case round =>
        clear m7
        obtain ⟨k, hk, rfl, hall, hrow, hB⟩ := hrel
        have HALL := hide hall
        clear hall
        have hWs := hB.size
        by_cases hlt : k < n
        · obtain ⟨b, off, e, ha, hb, hek, hce⟩ := (hl4.below hB).elem encPl_len HL.out hlt
          have e0 : wr.cell? ⟨b, off + k * 2, none⟩ = some (.int .i64 e.m) := by simpa using hce 0 _ rfl
          have hat := HAT.out k e hek
          have HNM := hide (numM_succ hek)
          have HEK := hide hek
          clear hce hek
          rw [ha]
          clear ha
          obtain ⟨em, hem⟩ := Int.eq_ofNat_of_zero_le hat.1
          rw [hem] at e0 hat HNM
          by_cases hemX : em < X
          · have hle := numM_le l k em
            have HA2 := hide (show ∀ p ∈ l.take (k + 1), p.m < (X : Int) from fun p hp => by
              rw [take_snoc' HEK.out] at hp
              rcases List.mem_append.1 hp with hp | hp
              · exact HALL.out p hp
              · obtain rfl : p = e := by simpa using hp
                omega)
            obtain ⟨q, hq⟩ : ∃ q, numM l k em = q := ⟨_, rfl⟩
            have ce := hrow.cell hemX
            have fe := hrow.frozen em
            have se := hrow.set em (.int .i64 ((q : Int) + 1))
            have hB4 := hB.setCell (p := ⟨w.heap.size, em, none⟩) (Nat.le_refl _) (.int .i64 ((q : Int) + 1))
            rw [hq] at ce hle
            have HQ := hide hq
            clear hq hrow hB HEK hem
            go_wp2
            go_roundw
            case rel => exact ⟨k + 1, by omega, by go_num, HA2.out, se.congr (fun m _ => by
              rw [HNM.out m]
              by_cases e : m = em
              · subst e; rw [if_pos rfl, if_pos rfl, HQ.out]; simp
              · rw [if_neg e, if_neg (by omega)]), hB4⟩
            case measure => simp [intOf]; omega
          · have hno : plcB (X : Int) n l = false := by
              cases h : plcB (X : Int) n l
              · rfl
              · have := plc_at h HEK.out
                omega
            have HR := hide (spr_no (E := 1) (by rw [HSE.out _ hno]; rfl) (by omega) (hB3.trans hB))
            clear hrow hB HEK hem
            go_wp2
            go_ret2
            exact HR.out
        · obtain rfl : k = n := by omega
          have hall := HALL.out
          rw [take_all HL.out] at hall
          have hyes := HBY.out hall
          have hE : sprE k l (X : Int) = 0 := by rw [HSE.out _ hyes]; rfl
          have HR := hide (show RetSlE w 1 (sprN k l (X : Int)) (sprL k l (X : Int)) (sprE k l (X : Int)) (.returned (.tuple #[.slice (some ⟨w.heap.size, 0, none⟩) X X, .int .i64 0])) wr from by
            rw [(sprN_ok hE).1, (sprN_ok hE).2, hE]
            exact ⟨some ⟨w.heap.size, 0, none⟩, X, rfl, ⟨by rw [rowL_len]; simp, fun _ => ⟨w.heap.size, 0, rfl, by omega, fun j u hu => by
              have hj := (List.getElem?_eq_some_iff.1 hu).1
              rw [rowL_len] at hj
              rw [Nat.zero_add, hrow.cell (by simpa using hj)]
              rw [rowL_get _ hj] at hu
              exact hu⟩⟩, hB3.trans hB⟩)
          clear hrow hB hall hyes hE
          go_wp2
          go_ret2
          exact HR.out
    · have HR := hide (spr_no (E := 7) (show sprE n l x = 7 from by cases hx2 : plcB x n l <;> (rw [spr_unf hp hx2]; simp; omega)) (by omega) (Below.refl w.heap.size w))
      have HP := hide hp
      have HX := hide (show decide (1 ≤ x ∧ x ≤ 20) = false from by simpa using hx)
      clear hp hx
      go_enter Try.func23, Try.ntmps23
      go_wp2_with fail
      refine (Rplaced_any A n c _ l w hl hn).mono ?_
      rintro e W ⟨rfl, rfl⟩
      rw [HP.out]
      go_wp2_with fail
      refine (In_any x 20 w).mono ?_
      rintro e W ⟨rfl, rfl⟩
      rw [HX.out]
      go_wp2
      go_ret2
      exact HR.out

def reaOk (s g x : Int) : Bool := decide (0 ≤ s ∧ s ≤ 320) && (decide (1 ≤ g ∧ g ≤ 200) && decide (1 ≤ x ∧ x ≤ 16))
def reaE (s g x : Int) : Int := if reaOk s g x then (if s < g then 4 else 0) else 7
def reaV (s g x : Int) : Int := if reaOk s g x then (if s < g then 0 else if s.tdiv g < x then s.tdiv g else x) else 0

set_option maxHeartbeats 2000000 in
theorem Reactive_any (s g x : Int) (w : World) : Calls Try.prog 24 #[.int .i64 s, .int .i64 g, .int .i64 x] w fun e w' => e = .returned (.tuple #[.int .i64 (reaV s g x), .int .i64 (reaE s g x)]) ∧ w = w' := by
  have bad : reaOk s g x = false → reaV s g x = 0 ∧ reaE s g x = 7 := fun h => by simp [reaV, reaE, h]
  by_cases h1 : s < 0
  · rw [(bad (by simp [reaOk]; omega)).1, (bad (by simp [reaOk]; omega)).2]
    clear bad
    go_enter Try.func24, Try.ntmps24
    go_wp2
    go_ret2
    exact ⟨rfl, rfl⟩
  by_cases h2 : 320 < s
  · rw [(bad (by simp [reaOk]; omega)).1, (bad (by simp [reaOk]; omega)).2]
    clear bad
    go_enter Try.func24, Try.ntmps24
    go_wp2
    go_ret2
    exact ⟨rfl, rfl⟩
  by_cases h3 : g < 1
  · rw [(bad (by simp [reaOk]; omega)).1, (bad (by simp [reaOk]; omega)).2]
    clear bad
    go_enter Try.func24, Try.ntmps24
    go_wp2
    go_ret2
    exact ⟨rfl, rfl⟩
  by_cases h4 : 200 < g
  · rw [(bad (by simp [reaOk]; omega)).1, (bad (by simp [reaOk]; omega)).2]
    clear bad
    go_enter Try.func24, Try.ntmps24
    go_wp2
    go_ret2
    exact ⟨rfl, rfl⟩
  by_cases h5 : x < 1
  · rw [(bad (by simp [reaOk]; omega)).1, (bad (by simp [reaOk]; omega)).2]
    clear bad
    go_enter Try.func24, Try.ntmps24
    go_wp2
    go_ret2
    exact ⟨rfl, rfl⟩
  by_cases h6 : 16 < x
  · rw [(bad (by simp [reaOk]; omega)).1, (bad (by simp [reaOk]; omega)).2]
    clear bad
    go_enter Try.func24, Try.ntmps24
    go_wp2
    go_ret2
    exact ⟨rfl, rfl⟩
  have hok : reaOk s g x = true := by simp [reaOk]; omega
  clear bad
  by_cases h7 : s < g
  · rw [show reaV s g x = 0 from by simp [reaV, hok, h7], show reaE s g x = 4 from by simp [reaE, hok, h7]]
    clear hok
    go_enter Try.func24, Try.ntmps24
    go_wp2
    go_ret2
    exact ⟨rfl, rfl⟩
  · rw [show reaV s g x = if s.tdiv g < x then s.tdiv g else x from by simp [reaV, hok, h7], show reaE s g x = 0 from by simp [reaE, hok, h7]]
    clear hok
    have hq0 : 0 ≤ s.tdiv g ∧ s.tdiv g ≤ s := ⟨Int.tdiv_nonneg (by omega) (by omega), by rw [Int.tdiv_eq_ediv_of_nonneg (by omega)]; exact Int.ediv_le_self _ (by omega)⟩
    have hg0 : (g = 0) = False := eq_false (by omega)
    have hwq : IntKind.i64.wrap (s.tdiv g) = s.tdiv g := IntWalk.i64_in _ (by omega)
    go_enter Try.func24, Try.ntmps24
    go_wp2
    all_goals
      go_ret2
      exact ⟨rfl, rfl⟩

set_option maxHeartbeats 2000000 in
theorem RReactive_any (s g x : Int) (w : World) : Calls Try.prog 25 #[.int .i64 s, .int .i64 g, .int .i64 x] w fun e w' => e = .returned (.tuple #[.int .i64 (reaV s g x), .int .i64 (reaE s g x)]) ∧ w = w' := by
  have bad : reaOk s g x = false → reaV s g x = 0 ∧ reaE s g x = 7 := fun h => by simp [reaV, reaE, h]
  by_cases h1 : s < 0
  · rw [(bad (by simp [reaOk]; omega)).1, (bad (by simp [reaOk]; omega)).2]
    clear bad
    go_enter Try.func25, Try.ntmps25
    go_wp2
    go_ret2
    exact ⟨rfl, rfl⟩
  by_cases h2 : 320 < s
  · rw [(bad (by simp [reaOk]; omega)).1, (bad (by simp [reaOk]; omega)).2]
    clear bad
    go_enter Try.func25, Try.ntmps25
    go_wp2
    go_ret2
    exact ⟨rfl, rfl⟩
  by_cases h3 : 1 ≤ g ∧ g ≤ 200
  · have H3 := hide (show decide (1 ≤ g ∧ g ≤ 200) = true from by simpa using h3)
    by_cases h5 : 1 ≤ x ∧ x ≤ 16
    · have H5 := hide (show decide (1 ≤ x ∧ x ≤ 16) = true from by simpa using h5)
      have hok : reaOk s g x = true := by simp [reaOk]; omega
      clear bad
      obtain ⟨g1, g2⟩ := h3
      obtain ⟨x1, x2⟩ := h5
      have hq0 : 0 ≤ s.tdiv g ∧ s.tdiv g ≤ s := ⟨Int.tdiv_nonneg (by omega) (by omega), by rw [Int.tdiv_eq_ediv_of_nonneg (by omega)]; exact Int.ediv_le_self _ (by omega)⟩
      have hg0 : (g = 0) = False := eq_false (by omega)
      have hwq : IntKind.i64.wrap (s.tdiv g) = s.tdiv g := IntWalk.i64_in _ (by omega)
      by_cases h7 : s < g
      · rw [show reaV s g x = 0 from by simp [reaV, hok, h7], show reaE s g x = 4 from by simp [reaE, hok, h7]]
        have hq1 : s.tdiv g = 0 := Int.tdiv_eq_zero_of_lt (by omega) h7
        clear hok
        go_enter Try.func25, Try.ntmps25
        go_wp2_with fail
        refine (In_any g 200 w).mono ?_
        rintro e W ⟨rfl, rfl⟩
        rw [H3.out]
        go_wp2_with fail
        refine (In_any x 16 w).mono ?_
        rintro e W ⟨rfl, rfl⟩
        rw [H5.out]
        go_wp2
        go_ret2
        exact ⟨rfl, rfl⟩
      · have hq1 : 1 ≤ s.tdiv g := by rw [Int.tdiv_eq_ediv_of_nonneg (by omega)]; exact (Int.le_ediv_iff_mul_le (by omega)).2 (by omega)
        rw [show reaV s g x = if s.tdiv g < x then s.tdiv g else x from by simp [reaV, hok, h7], show reaE s g x = 0 from by simp [reaE, hok, h7]]
        clear hok
        by_cases h8 : s.tdiv g < x
        · rw [if_pos h8]
          go_enter Try.func25, Try.ntmps25
          go_wp2_with fail
          refine (In_any g 200 w).mono ?_
          rintro e W ⟨rfl, rfl⟩
          rw [H3.out]
          go_wp2_with fail
          refine (In_any x 16 w).mono ?_
          rintro e W ⟨rfl, rfl⟩
          rw [H5.out]
          go_wp2
          go_ret2
          exact ⟨rfl, rfl⟩
        · rw [if_neg h8]
          go_enter Try.func25, Try.ntmps25
          go_wp2_with fail
          refine (In_any g 200 w).mono ?_
          rintro e W ⟨rfl, rfl⟩
          rw [H3.out]
          go_wp2_with fail
          refine (In_any x 16 w).mono ?_
          rintro e W ⟨rfl, rfl⟩
          rw [H5.out]
          go_wp2
          go_ret2
          exact ⟨rfl, rfl⟩
    · have H5 := hide (show decide (1 ≤ x ∧ x ≤ 16) = false from by simpa using h5)
      rw [(bad (by simp [reaOk]; omega)).1, (bad (by simp [reaOk]; omega)).2]
      clear bad h3 h5
      go_enter Try.func25, Try.ntmps25
      go_wp2_with fail
      refine (In_any g 200 w).mono ?_
      rintro e W ⟨rfl, rfl⟩
      rw [H3.out]
      go_wp2_with fail
      refine (In_any x 16 w).mono ?_
      rintro e W ⟨rfl, rfl⟩
      rw [H5.out]
      go_wp2
      go_ret2
      exact ⟨rfl, rfl⟩
  · have H3 := hide (show decide (1 ≤ g ∧ g ≤ 200) = false from by simpa using h3)
    rw [(bad (by simp [reaOk]; omega)).1, (bad (by simp [reaOk]; omega)).2]
    clear bad h3
    go_enter Try.func25, Try.ntmps25
    go_wp2_with fail
    refine (In_any g 200 w).mono ?_
    rintro e W ⟨rfl, rfl⟩
    rw [H3.out]
    go_wp2
    go_ret2
    exact ⟨rfl, rfl⟩
end Go.Proofs.Ytblepaocekojbaa
