/-
  The walks of long, share.lists, tidewrightref12.lists, where the lists are so short as the law looks at.
-/
import Derived.Test.YthngjbhamgmcgaaTab
import Derived.Test.YthngjbhamgmcgaaShQ
namespace Go.Proofs.Ythngjbhamgmcgaa
open Go.RowKit Go.Shelf
attribute [local go_sem] Oper.semAt_some

/-- Is a list longer than is looked at? -/
def longB (xs : List ByteArray) : Bool := xs.any (fun s => decide (200 < s.size)) || decide (60 < xs.length)
theorem any_take {α : Type} (f : α → Bool) (xs : List α) (k : Nat) (x : α) (h : xs[k]? = some x) (hf : f x = false) (h0 : (xs.take k).any f = false) : (xs.take (k + 1)).any f = false := by
  rw [take_snoc' h, List.any_append, h0]; simp [hf]

theorem sh_len1 (s : ByteArray) (hs : s.size ≤ 65536) (w : World) : Calls Try.prog 93 #[.string s] w fun e w' => e = .returned (.bool false) ∧ w = w' := by
  go_enter Try.func93, Try.ntmps93
  go_wp2_with (go_at_call 45; refine (fits_any s hs _).mono ?_; rintro e w' ⟨rfl, rfl⟩)
  go_ret
  exact ⟨rfl, rfl⟩

set_option maxHeartbeats 1000000 in
theorem long_any (A : Option Addr) (n c B : Nat) (xs : List ByteArray) (w : World) (hx : Reads w B 1 A n (xs.map Value.string)) (hn : n ≤ 9223372036854775807) (hss : ∀ s ∈ xs, s.size ≤ 9223372036854775807) :
    Calls Try.prog 22 #[.slice A n c] w fun e w' => e = .returned (.bool (longB xs)) ∧ w = w' := by
  have HL := hide hx.len1
  have HS := hide hss
  clear hss
  go_enter Try.func22, Try.ntmps22
  go_wp2
  go_loop [3] (fun i => ∃ k : Nat, k ≤ n ∧ i = .int .i64 k ∧ (xs.take k).any (fun s => decide (200 < s.size)) = false) (fun i => n - (intOf i).toNat)
  case atStart => exact ⟨0, Nat.zero_le _, rfl, rfl⟩
  case round =>
    obtain ⟨k, hk, rfl, hany⟩ := hrel
    have HA := hide hany
    clear hany
    by_cases hlt : k < n
    · obtain ⟨b, off, x, rfl, hb, hxk, hc⟩ := hx.at1 hlt
      have hsz := HS.out x (List.mem_of_getElem? hxk)
      have HXK := hide hxk
      clear hxk
      by_cases h2 : 200 < x.size
      · go_wp2
        go_ret
        exact ⟨ret_bool (by
          unfold longB
          rw [List.any_eq_true.2 ⟨x, List.mem_of_getElem? HXK.out, by simpa using h2⟩]; rfl), rfl⟩
      · go_wp2
        go_round
        case rel => exact ⟨k + 1, by omega, by go_num, any_take _ _ _ _ HXK.out (by simpa using h2) HA.out⟩
        case measure => simp [intOf]; omega
    · obtain rfl : k = n := by omega
      go_wp2
      go_ret
      exact ⟨ret_bool (by
        have := HA.out
        rw [take_all HL.out] at this
        unfold longB; rw [this, HL.out]; simp; omega), rfl⟩

set_option maxHeartbeats 1000000 in
theorem idx_short (A : Option Addr) (n c B : Nat) (xs : List ByteArray) (w : World) (hx : Reads w B 1 A n (xs.map Value.string)) (hn : n ≤ 9223372036854775807) (hss : ∀ s ∈ xs, s.size ≤ 65536) :
    Calls Try.prog 107 #[.slice A n c, .func (Fn.func 93) #[] #[]] w fun e w' => e = .returned (.int .i64 (-1)) ∧ w = w' := by
  have HS := hide hss
  clear hss
  go_enter Try.func107, Try.ntmps107
  go_wp2
  go_loop [8] (fun i => ∃ k : Nat, k ≤ n ∧ i = .int .i64 k) (fun i => n - (intOf i).toNat)
  case atStart => exact ⟨0, Nat.zero_le _, rfl⟩
  case round =>
    obtain ⟨k, hk, rfl⟩ := hrel
    by_cases hlt : k < n
    · obtain ⟨b, off, x, rfl, hb, hxk, hc⟩ := hx.at1 hlt
      have hsz := HS.out x (List.mem_of_getElem? hxk)
      clear hxk
      go_wp2_with (go_at_call 93; refine (sh_len1 x hsz _).mono ?_; rintro e w' ⟨rfl, rfl⟩)
      go_round
      case rel => exact ⟨k + 1, by omega, by go_num⟩
      case measure => simp [intOf]; omega
    · go_wp2
      go_ret
      exact ⟨rfl, rfl⟩
theorem con_short (A : Option Addr) (n c B : Nat) (xs : List ByteArray) (w : World) (hx : Reads w B 1 A n (xs.map Value.string)) (hn : n ≤ 9223372036854775807) (hss : ∀ s ∈ xs, s.size ≤ 65536) :
    Calls Try.prog 92 #[.slice A n c, .func (Fn.func 93) #[] #[]] w fun e w' => e = .returned (.bool false) ∧ w = w' := by
  go_enter Try.func92, Try.ntmps92
  go_wp2_with (go_at_call 107; refine (idx_short A n c B xs _ hx hn hss).mono ?_; rintro e w' ⟨rfl, rfl⟩)
  go_ret
  exact ⟨rfl, rfl⟩
theorem sh_row1 (A : Option Addr) (n c B : Nat) (xs : List ByteArray) (w : World) (hx : Reads w B 1 A n (xs.map Value.string)) (hn : n ≤ 400) (hss : ∀ s ∈ xs, s.size ≤ 65536) :
    Calls Try.prog 91 #[.slice A n c] w fun e w' => e = .returned (.bool false) ∧ w = w' := by
  go_enter Try.func91, Try.ntmps91
  go_wp2_with (go_at_call 92; refine (con_short A n c B xs _ hx (by omega) hss).mono ?_; rintro e w' ⟨rfl, rfl⟩)
  go_ret
  exact ⟨ret_bool (by simp; omega), rfl⟩
/-- Lists as short as the law looks at. -/
def Short (R : List RowT) : Prop := ∀ r ∈ R, r.n ≤ 60 ∧ ∀ s ∈ r.xs, s.size ≤ 200
set_option maxHeartbeats 1000000 in
theorem idx2_short (A : Option Addr) (n c B : Nat) (R : List RowT) (w : World) (hx : Tab w B A n R) (hn : n ≤ 9223372036854775807) (hss : Short R) :
    Calls Try.prog 106 #[.slice A n c, .func (Fn.func 91) #[] #[]] w fun e w' => e = .returned (.int .i64 (-1)) ∧ w = w' := by
  have HS := hide hss
  clear hss
  go_enter Try.func106, Try.ntmps106
  go_wp2
  go_loop [8] (fun i => ∃ k : Nat, k ≤ n ∧ i = .int .i64 k) (fun i => n - (intOf i).toNat)
  case atStart => exact ⟨0, Nat.zero_le _, rfl⟩
  case round =>
    obtain ⟨k, hk, rfl⟩ := hrel
    by_cases hlt : k < n
    · obtain ⟨b, off, x, rfl, hb, hxk, hc, hr⟩ := hx.row hlt
      obtain ⟨h1, h2⟩ := HS.out x (List.mem_of_getElem? hxk)
      clear hxk
      have H2 := hide (fun s hs => Nat.le_trans (h2 s hs) (show 200 ≤ 65536 by omega))
      clear h2
      go_wp2_with (go_at_call 91; refine (sh_row1 _ _ _ B x.xs _ hr (by omega) H2.out).mono ?_; rintro e w' ⟨rfl, rfl⟩)
      go_round
      case rel => exact ⟨k + 1, by omega, by go_num⟩
      case measure => simp [intOf]; omega
    · go_wp2
      go_ret
      exact ⟨rfl, rfl⟩
theorem con2_short (A : Option Addr) (n c B : Nat) (R : List RowT) (w : World) (hx : Tab w B A n R) (hn : n ≤ 9223372036854775807) (hss : Short R) :
    Calls Try.prog 90 #[.slice A n c, .func (Fn.func 91) #[] #[]] w fun e w' => e = .returned (.bool false) ∧ w = w' := by
  go_enter Try.func90, Try.ntmps90
  go_wp2_with (go_at_call 106; refine (idx2_short A n c B R _ hx hn hss).mono ?_; rintro e w' ⟨rfl, rfl⟩)
  go_ret
  exact ⟨rfl, rfl⟩
theorem lists_short (A : Option Addr) (n c B : Nat) (R : List RowT) (w : World) (hx : Tab w B A n R) (hn : n ≤ 30) (hss : Short R) :
    Calls Try.prog 73 #[.slice A n c] w fun e w' => e = .returned (.bool (decide (1 ≤ n ∧ n ≤ 16))) ∧ w = w' := by
  by_cases h1 : 1 ≤ n
  · by_cases h2 : n ≤ 16
    · go_enter Try.func73, Try.ntmps73
      go_wp2_with (go_at_call 90; refine (con2_short A n c B R _ hx (by omega) hss).mono ?_; rintro e w' ⟨rfl, rfl⟩)
      go_ret
      exact ⟨ret_bool (by simp [h1, h2]), rfl⟩
    · go_enter Try.func73, Try.ntmps73
      go_wp2_with fail
      go_ret
      exact ⟨ret_bool (by simp [h2]), rfl⟩
  · go_enter Try.func73, Try.ntmps73
    go_wp2_with fail
    go_ret
    exact ⟨ret_bool (by simp <;> omega), rfl⟩

/-- How many elements all lists have. -/
def allN (R : List RowT) : Nat := (R.map RowT.n).sum
theorem allN_snoc (R : List RowT) (r : RowT) : allN (R ++ [r]) = allN R + r.n := by simp [allN]
theorem allN_take_le (R : List RowT) (hs : Short R) (k : Nat) : allN (R.take k) ≤ 60 * k := by
  induction k with
  | zero => simp [allN]
  | succ k ih =>
    by_cases h : k < R.length
    · rw [List.take_succ_eq_append_getElem h, allN_snoc]
      have := (hs _ (List.getElem_mem h)).1
      omega
    · rw [List.take_of_length_le (by omega)] at ih ⊢; omega
def listsE (n : Nat) (p : Int) (t : Nat) : Int := if decide (1 ≤ n ∧ n ≤ 16) then (if decide (1 ≤ p ∧ p ≤ 16) then (if decide (400 < t) then 4 else 0) else 7) else 1

set_option maxRecDepth 100000 in
set_option maxHeartbeats 2000000 in
theorem Rlists_short (A : Option Addr) (n c B : Nat) (R : List RowT) (p : Int) (w : World) (hx : Tab w B A n R) (hn : n ≤ 30) (hss : Short R) :
    Calls Try.prog 51 #[.slice A n c, .int .i64 p] w fun e w' => e = .returned (.int .i64 (listsE n p (allN R))) ∧ w = w' := by
  have HL := hide hx.len
  have hal := allN_take_le R hss
  have HS := hide hss
  have HAL := hide hal
  clear hss hal
  go_enter Try.func51, Try.ntmps51
  go_wp2
  go_loop [5, 6, 7] (fun t i _ => ∃ k : Nat, k ≤ n ∧ i = .int .i64 k ∧ t = .int .i64 (allN (R.take k) : Nat)) (fun _ i _ => n - (intOf i).toNat)
  case atStart => exact ⟨0, Nat.zero_le _, rfl, rfl⟩
  case round =>
    obtain ⟨k, hk, rfl, rfl⟩ := hrel
    have hb := HAL.out k
    by_cases hlt : k < n
    · obtain ⟨b, off, x, rfl, hb, hxk, hc, hr⟩ := hx.row hlt
      obtain ⟨h1, h2⟩ := HS.out x (List.mem_of_getElem? hxk)
      have H2 := hide h2
      clear h2
      have HSn := hide (show allN (R.take (k + 1)) = allN (R.take k) + x.n by rw [take_snoc' hxk, allN_snoc])
      clear hxk
      go_wp2
      go_loop [7] (fun i => ∃ j : Nat, j ≤ x.n ∧ i = .int .i64 j) (fun i => x.n - (intOf i).toNat)
      case atStart => exact ⟨0, Nat.zero_le _, rfl⟩
      case round =>
        obtain ⟨j, hj, rfl⟩ := hrel
        by_cases hlt2 : j < x.n
        · obtain ⟨b2, off2, y, ha2, hb2, hyk, hc2⟩ := hr.at1 hlt2
          have hy := H2.out y (List.mem_of_getElem? hyk)
          rw [ha2] at hc
          clear hyk
          go_wp2
          go_round
          case rel => exact ⟨j + 1, by omega, by go_num⟩
          case measure => simp [intOf]; omega
        · go_wp2
          go_round
          case rel => exact ⟨k + 1, by omega, by go_num, by rw [HSn.out]; go_num⟩
          case measure => simp [intOf]; omega
    · obtain rfl : k = n := by omega
      rw [List.take_of_length_le (Nat.le_of_eq HL.out)] at hb ⊢
      by_cases h1 : 1 ≤ k ∧ k ≤ 16
      · have d1 : decide (1 ≤ (k : Int) ∧ (k : Int) ≤ 16) = true := by simp; omega
        by_cases h2 : 1 ≤ p ∧ p ≤ 16
        · have d2 : decide (1 ≤ p ∧ p ≤ 16) = true := by simpa using h2
          by_cases h3 : 400 < allN R
          · go_wp2_with (go_at_call 44; refine (In_any _ _ _).mono ?_; rintro e w' ⟨rfl, rfl⟩)
            go_ret
            exact ⟨ret_int (by simp [listsE, h1, h2, h3]), rfl⟩
          · go_wp2_with (go_at_call 44; refine (In_any _ _ _).mono ?_; rintro e w' ⟨rfl, rfl⟩)
            go_ret
            exact ⟨ret_int (by simp [listsE, h1, h2, h3]), rfl⟩
        · have d2 : decide (1 ≤ p ∧ p ≤ 16) = false := by simp; omega
          go_wp2_with (go_at_call 44; refine (In_any _ _ _).mono ?_; rintro e w' ⟨rfl, rfl⟩)
          go_ret
          exact ⟨ret_int (by unfold listsE; rw [if_pos (by simpa using h1), d2]; rfl), rfl⟩
      · have d1 : decide (1 ≤ (k : Int) ∧ (k : Int) ≤ 16) = false := by simp; omega
        go_wp2_with (go_at_call 44; refine (In_any _ _ _).mono ?_; rintro e w' ⟨rfl, rfl⟩)
        go_ret
        exact ⟨ret_int (by unfold listsE; rw [if_neg (by simpa using h1)]), rfl⟩
end Go.Proofs.Ythngjbhamgmcgaa
