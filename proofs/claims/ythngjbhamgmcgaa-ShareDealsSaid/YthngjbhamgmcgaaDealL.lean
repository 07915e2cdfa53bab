/-
  The walk of the law ShareDeals.
-/
import Derived.Test.YthngjbhamgmcgaaUnQ
namespace Go.Proofs.Ythngjbhamgmcgaa
open Go.RowKit Go.Shelf Go.Deep
attribute [local go_sem] Oper.semAt_some

theorem long_no {xs : List ByteArray} (h : longB xs = false) : xs.length ≤ 60 ∧ ∀ s ∈ xs, s.size ≤ 200 := by
  unfold longB at h
  rw [Bool.or_eq_false_iff] at h
  refine ⟨by simpa using h.2, fun s hs => ?_⟩
  have := List.any_eq_false.1 h.1 s hs
  simpa using this

theorem deals_big (A : Option Addr) (n c : Nat) (P : Int) (w : World) (hn : n ≤ 9223372036854775807) (h : 30 < n) :
    Calls Try.prog 5 #[.slice A n c, .int .i64 P] w (RetV w (.bool true)) := by
  go_enter Try.func5, Try.ntmps5
  go_wp2_with fail
  refine (awake_any _).mono ?_
  rintro e w0 ⟨rfl, hB0⟩
  go_wp2_with fail
  go_ret
  exact ⟨rfl, hB0⟩

set_option maxRecDepth 100000 in
set_option maxHeartbeats 2000000 in
theorem deals_long (A : Option Addr) (n c : Nat) (R : List RowT) (P : Int) (w : World) (hx : Tab w w.heap.size A n R) (hn : n ≤ 30) (hrn : ∀ r ∈ R, r.n ≤ 9223372036854775807) (hsz : ∀ r ∈ R, ∀ s ∈ r.xs, s.size ≤ 9223372036854775807) (hl : ¬ ∀ r ∈ R, longB r.xs = false) :
    Calls Try.prog 5 #[.slice A n c, .int .i64 P] w (RetV w (.bool true)) := by
  have HN := hide hrn
  have HZ := hide hsz
  have HL := hide hx.len
  clear hrn hsz
  go_enter Try.func5, Try.ntmps5
  go_wp2_with fail
  refine (awake_any _).mono ?_
  rintro e w0 ⟨rfl, hB0⟩
  have hx0 := hx.up hB0
  clear hx
  go_wp2_with fail
  go_loopw [5] (fun i wr => ∃ k : Nat, k ≤ n ∧ i = .int .i64 k ∧ wr = w0 ∧ ∀ r ∈ R.take k, longB r.xs = false) (fun i _ => n - (intOf i).toNat)
  case atStart => exact ⟨0, Nat.zero_le _, rfl, rfl, by simp⟩
  case round =>
    obtain ⟨k, hk, rfl, rfl, hS⟩ := hrel
    have HS := hide hS
    clear hS
    by_cases hlt : k < n
    · obtain ⟨b, off, r, rfl, hb, hrk, hc, hr⟩ := hx0.row hlt
      have h1 := HN.out r (List.mem_of_getElem? hrk)
      have H2 := hide (HZ.out r (List.mem_of_getElem? hrk))
      have HK := hide hrk
      clear hrk
      cases hq : longB r.xs
      · have HQ := hide hq
        go_wp2_with (go_at_call 22; refine (long_any _ _ _ _ r.xs _ hr h1 H2.out).mono ?_; rintro e w' ⟨rfl, rfl⟩)
        go_roundw
        case rel => exact ⟨k + 1, by omega, by go_num, by trivial, fun s hs => by
          rw [take_snoc' HK.out] at hs
          rcases List.mem_append.1 hs with h | h
          · exact HS.out s h
          · rw [List.mem_singleton.1 h]; exact HQ.out⟩
        case measure => simp [intOf]; omega
      · go_wp2_with (go_at_call 22; refine (long_any _ _ _ _ r.xs _ hr h1 H2.out).mono ?_; rintro e w' ⟨rfl, rfl⟩)
        go_ret
        exact ⟨rfl, hB0⟩
    · obtain rfl : k = n := by omega
      have := HS.out
      rw [List.take_of_length_le (Nat.le_of_eq HL.out)] at this
      exact absurd this hl

set_option maxRecDepth 100000 in
set_option maxHeartbeats 2000000 in
theorem deals_no (A : Option Addr) (n c : Nat) (R : List RowT) (P : Int) (w : World) (hx : Tab w w.heap.size A n R) (hn : n ≤ 30) (hrn : ∀ r ∈ R, r.n ≤ 9223372036854775807) (hsz : ∀ r ∈ R, ∀ s ∈ r.xs, s.size ≤ 9223372036854775807) (hl : ∀ r ∈ R, longB r.xs = false) (he : listsE n P (allN R) ≠ 0) :
    Calls Try.prog 5 #[.slice A n c, .int .i64 P] w (RetV w (.bool true)) := by
  have hss : Short R := fun r hr => by
    have h1 := long_no (hl r hr)
    obtain ⟨i, hi⟩ := List.mem_iff_getElem?.1 hr
    have hlen := (hx.2 r hr).len1
    exact ⟨by omega, h1.2⟩
  have HSS := hide hss
  have HS := hide hl
  clear hl hss
  have HN := hide hrn
  have HZ := hide hsz
  have HL := hide hx.len
  clear hrn hsz
  go_enter Try.func5, Try.ntmps5
  go_wp2_with fail
  refine (awake_any _).mono ?_
  rintro e w0 ⟨rfl, hB0⟩
  have hx0 := hx.up hB0
  clear hx
  go_wp2_with fail
  obtain ⟨q, hq⟩ : ∃ q, listsE n P (allN R) = q := ⟨_, rfl⟩
  have c1 := fun W hx => Deal_no A n c R P W hx hn HSS.out he
  have c2 := fun W hx => RDeal_no A n c R P W hx hn HSS.out he
  have c3 := fun W hx => Union_no A n c R P W hx hn HSS.out he
  have c4 := fun W hx => RUnion_no A n c R P W hx hn HSS.out he
  rw [hq] at he
  simp only [hq] at c1 c2 c3 c4
  clear hq
  have C1 := hide c1
  have C2 := hide c2
  have C3 := hide c3
  have C4 := hide c4
  clear c1 c2 c3 c4
  go_loopw [5] (fun i wr => ∃ k : Nat, k ≤ n ∧ i = .int .i64 k ∧ wr = w0) (fun i _ => n - (intOf i).toNat)
  case atStart => exact ⟨0, Nat.zero_le _, rfl, rfl⟩
  case round =>
    obtain ⟨k, hk, rfl, rfl⟩ := hrel
    by_cases hlt : k < n
    · obtain ⟨b, off, r, rfl, hb, hrk, hc, hr⟩ := hx0.row hlt
      have h1 := HN.out r (List.mem_of_getElem? hrk)
      have H2 := hide (HZ.out r (List.mem_of_getElem? hrk))
      have hq := HS.out r (List.mem_of_getElem? hrk)
      clear hrk
      go_wp2_with (go_at_call 22; refine (long_any _ _ _ _ r.xs _ hr h1 H2.out).mono ?_; rintro e w' ⟨rfl, rfl⟩)
      go_roundw
      case rel => exact ⟨k + 1, by omega, by go_num, by trivial⟩
      case measure => simp [intOf]; omega
    · obtain rfl : k = n := by omega
      go_wp2_with fail
      refine (C1.out _ hx0).mono ?_
      rintro e w1 ⟨rfl, hB1⟩
      have hx1 := hx0.up hB1
      go_wp2_with fail
      refine (C2.out _ hx1).mono ?_
      rintro e w2 ⟨rfl, rfl⟩
      go_wp2_with fail
      refine (C3.out _ hx1).mono ?_
      rintro e w3 ⟨rfl, hB3⟩
      have hx3 := hx1.up hB3
      go_wp2_with fail
      refine (C4.out _ hx3).mono ?_
      rintro e w4 ⟨rfl, rfl⟩
      have hN : ∀ W : World, Tab W W.heap.size none 0 [] := fun W => ⟨Reads.none_, fun r hr => by cases hr⟩
      have HN0 := hide hN
      clear hN
      go_wp2_with (go_at_call 27; refine (sameLists_any none none 0 0 0 0 _ _ [] [] _ (HN0.out _) (HN0.out _) (by omega) (by omega) (fun r hr => by cases hr) (fun r hr => by cases hr)).mono ?_; rintro e w' ⟨rfl, nd, rfl⟩)
      have hBf := bstep (bstep hB0 hB1) hB3
      go_loopw [14] (fun i wr' => i = .int .i64 0 ∧ Below w.heap.size w wr') (fun i _ => 0)
      case atStart => exact ⟨rfl, below_drewN hBf _⟩
      case round =>
        obtain ⟨rfl, hBr⟩ := hrel
        go_wp2
        go_ret
        exact ⟨rfl, hBr⟩

theorem lists_eq {R S : List RowT} {L : List (List ByteArray)} (h1 : lists R = L) (h2 : lists S = L) : decide (lists R = lists S) = true := by rw [h1, h2]; simp

set_option maxRecDepth 100000 in
set_option maxHeartbeats 4000000 in
theorem deals_yes (A : Option Addr) (n c : Nat) (R : List RowT) (P : Nat) (w : World) (hx : Tab w w.heap.size A n R) (hn : n ≤ 30) (hrn : ∀ r ∈ R, r.n ≤ 9223372036854775807) (hsz : ∀ r ∈ R, ∀ s ∈ r.xs, s.size ≤ 9223372036854775807) (hl : ∀ r ∈ R, longB r.xs = false) (hn1 : 1 ≤ n) (hn16 : n ≤ 16) (hP1 : 1 ≤ P) (hP : P ≤ 16) (ht : allN R ≤ 400) :
    Calls Try.prog 5 #[.slice A n c, .int .i64 (P : Int)] w (RetV w (.bool true)) := by
  have hss : Short R := fun r hr => by
    have h1 := long_no (hl r hr)
    obtain ⟨i, hi⟩ := List.mem_iff_getElem?.1 hr
    have hlen := (hx.2 r hr).len1
    exact ⟨by omega, h1.2⟩
  have HSS := hide hss
  have HS := hide hl
  have hfl := flat_len R w _ n A hx n
  rw [List.take_of_length_le (Nat.le_of_eq hx.len)] at hfl
  rw [← hfl] at ht
  have C1 := hide (fun W hx => Deal_yes A n c R P W hx hn1 hn16 hss hP1 hP (hfl ▸ ht))
  have C2 := hide (fun W hx => RDeal_yes A n c R P W hx hn1 hn16 hss hP1 hP (hfl ▸ ht))
  have C3 := hide (fun W hx => Union_yes A n c R P W hx hn1 hn16 hss hP1 hP (hfl ▸ ht))
  have C4 := hide (fun W hx => RUnion_yes A n c R P W hx hn1 hn16 hss hP1 hP (hfl ▸ ht))
  have hd := fun p => dealS_le P (flat R) p
  have hdl := fun p hp => dealS_len P (by omega) p hp (flat R)
  have hdn := fun p hp => dealN_near P (flat R).length p (by omega) hp
  clear hfl hl hss
  obtain ⟨F, hF⟩ : ∃ F, flat R = F := ⟨_, rfl⟩
  simp only [hF] at C1 C2 C3 C4 hd hdl hdn ht
  clear hF
  obtain ⟨Z, hZ⟩ : ∃ Z, F.length = Z := ⟨_, rfl⟩
  simp only [hZ] at hd hdl hdn ht
  have HFZ := hide hZ
  clear hZ
  have HD := hide hd
  have HDL := hide hdl
  have HDN := hide hdn
  clear hd hdl hdn
  have HN := hide hrn
  have HZ := hide hsz
  have HL := hide hx.len
  clear hrn hsz
  go_enter Try.func5, Try.ntmps5
  go_wp2_with fail
  refine (awake_any _).mono ?_
  rintro e w0 ⟨rfl, hB0⟩
  have hx0 := hx.up hB0
  clear hx
  go_wp2_with fail
  go_loopw [5] (fun i wr => ∃ k : Nat, k ≤ n ∧ i = .int .i64 k ∧ wr = w0) (fun i _ => n - (intOf i).toNat)
  case atStart => exact ⟨0, Nat.zero_le _, rfl, rfl⟩
  case round =>
    obtain ⟨k, hk, rfl, rfl⟩ := hrel
    by_cases hlt : k < n
    · obtain ⟨b, off, r, rfl, hb, hrk, hc, hr⟩ := hx0.row hlt
      have h1 := HN.out r (List.mem_of_getElem? hrk)
      have H2 := hide (HZ.out r (List.mem_of_getElem? hrk))
      have hq := HS.out r (List.mem_of_getElem? hrk)
      clear hrk
      go_wp2_with (go_at_call 22; refine (long_any _ _ _ _ r.xs _ hr h1 H2.out).mono ?_; rintro e w' ⟨rfl, rfl⟩)
      go_roundw
      case rel => exact ⟨k + 1, by omega, by go_num, by trivial⟩
      case measure => simp [intOf]; omega
    · obtain rfl : k = n := by omega
      go_wp2_with fail
      refine (C1.out _ hx0).mono ?_
      rintro e w1 ⟨b1, V1, rfl, hG1, hB1⟩
      have hx1 := hx0.up hB1
      go_wp2_with fail
      refine (C2.out _ hx1).mono ?_
      rintro e w2 ⟨b2, V2, rfl, hG2, hB2⟩
      have hx2 := hx1.up hB2
      go_wp2_with fail
      refine (C3.out _ hx2).mono ?_
      rintro e w3 ⟨b3, V3, rfl, hG3, hB3⟩
      have hx3 := hx2.up hB3
      go_wp2_with fail
      refine (C4.out _ hx3).mono ?_
      rintro e w4 ⟨b4, V4, rfl, hG4, hB4⟩
      have t1 : Tab w4 w4.heap.size (some ⟨b1, 0, none⟩) P (rowsOf P V1 (dealS P F)) := ((hG1.tab.up hB2).up hB3).up hB4
      have t2 : Tab w4 w4.heap.size (some ⟨b2, 0, none⟩) P (rowsOf P V2 (dealS P F)) := (hG2.tab.up hB3).up hB4
      have t3 : Tab w4 w4.heap.size (some ⟨b3, 0, none⟩) P (rowsOf P V3 (fun _ => F)) := hG3.tab.up hB4
      have t4 : Tab w4 w4.heap.size (some ⟨b4, 0, none⟩) P (rowsOf P V4 (fun _ => F)) := hG4.tab
      have e1 := lists_eq hG1.lists hG2.lists
      have e2 := lists_eq hG3.lists hG4.lists
      have m1 := hG1.le (m := 9223372036854775807) (fun p _ => Nat.le_trans (HD.out p) (by omega))
      have m2 := hG2.le (m := 9223372036854775807) (fun p _ => Nat.le_trans (HD.out p) (by omega))
      have m3 := hG3.le (m := 9223372036854775807) (fun p _ => by rw [HFZ.out]; omega)
      have m4 := hG4.le (m := 9223372036854775807) (fun p _ => by rw [HFZ.out]; omega)
      have hrow1 : ∀ p, p < P → ∃ a c, w4.cell? ⟨b1, p, none⟩ = some (.slice a (dealN P Z p) c) := by
        intro p hp
        obtain ⟨a, c, hv, _, _⟩ := rowOf_eq hG1 hp
        have hlt1 := hG1.lt
        have hc := hG1.cell hp
        rw [hv, HDL.out p hp] at hc
        refine ⟨a, c, ?_⟩
        have s1 := hB2.size
        have s2 := hB3.size
        rw [hB4.cell (p := ⟨b1, p, none⟩) (by show b1 < _; omega), hB3.cell (p := ⟨b1, p, none⟩) (by show b1 < _; omega), hB2.cell (p := ⟨b1, p, none⟩) hlt1]
        exact hc
      have HR1 := hide hrow1
      have hBf := bstep (bstep (bstep (bstep hB0 hB1) hB2) hB3) hB4
      clear hrow1 hG1 hG2 hG3 hG4 hx0 hx1 hx2 hx3 hB0 hB1 hB2 hB3 hB4
      have M1 := hide m1
      have M2 := hide m2
      have M3 := hide m3
      have M4 := hide m4
      clear m1 m2 m3 m4
      have T1 := hide t1
      have T2 := hide t2
      have T3 := hide t3
      have T4 := hide t4
      clear t1 t2 t3 t4
      go_wp2_with fail
      refine (sameLists_any _ _ P P _ _ _ _ _ _ _ T1.out T2.out (by omega) (by omega) M1.out M2.out).mono ?_
      rintro e w' ⟨rfl, nd, rfl⟩
      rw [e1]
      go_wp2_with fail
      refine (sameLists_any _ _ P P _ _ w4.heap.size w4.heap.size _ _ _ (T3.out.drewN nd) (T4.out.drewN nd) (by omega) (by omega) M3.out M4.out).mono ?_
      rintro e w' ⟨rfl, nd2, rfl⟩
      rw [e2]
      go_wp2_with fail
      go_loopw [14] (fun i wr' => ∃ p q : Nat, p ≤ P ∧ i = .int .i64 p ∧ wr' = w4.drewN q) (fun i _ => P - (intOf i).toNat)
      case atStart => exact ⟨0, _, Nat.zero_le _, rfl, by first | rfl | exact World.drewN_drewN _ _ _⟩
      case round =>
        obtain ⟨p, q, hp, rfl, hw⟩ := hrel
        have HW := hide hw
        clear hw
        by_cases hlt3 : p < P
        · obtain ⟨a0, c0, hc0⟩ := HR1.out 0 (by omega)
          obtain ⟨a1, c1, hc1⟩ := HR1.out p hlt3
          obtain ⟨n1, n2⟩ := HDN.out p hlt3
          have n3 : dealN P Z 0 ≤ 400 := by rw [← HDL.out 0 (by omega)]; exact Nat.le_trans (HD.out 0) ht
          obtain ⟨d0, hd0⟩ : ∃ d, dealN P Z 0 = d := ⟨_, rfl⟩
          obtain ⟨d1, hd1⟩ : ∃ d, dealN P Z p = d := ⟨_, rfl⟩
          rw [hd0] at hc0 n1 n2 n3
          rw [hd1] at hc1 n1 n2
          clear hd0 hd1
          have hc0' : wr.cell? ⟨b1, 0, none⟩ = some (.slice a0 d0 c0) := by rw [HW.out]; exact hc0
          have hc1' : wr.cell? ⟨b1, p, none⟩ = some (.slice a1 d1 c1) := by rw [HW.out]; exact hc1
          clear hc0 hc1
          have hw1 : IntKind.i64.wrap ((d0 : Int) - (d1 : Int)) = (d0 : Int) - (d1 : Int) := by rw [IntKind.wrap_i64]; omega
          go_wp2_with fail
          go_quiet (fail)
          go_wp2
          go_roundw
          case rel => exact ⟨p + 1, _, by omega, by go_num, by rw [HW.out]; first | rfl | exact World.drewN_drewN _ _ _⟩
          case measure => simp [intOf]; omega
        · obtain rfl : p = P := by omega
          go_wp2
          go_ret
          exact ⟨rfl, by rw [HW.out]; exact below_drewN hBf _⟩

theorem deals_all (A : Option Addr) (n c : Nat) (R : List RowT) (P : Int) (w : World) (hx : Tab w w.heap.size A n R) (hn : n ≤ 9223372036854775807) (hrn : ∀ r ∈ R, r.n ≤ 9223372036854775807) (hsz : ∀ r ∈ R, ∀ s ∈ r.xs, s.size ≤ 9223372036854775807) :
    Calls Try.prog 5 #[.slice A n c, .int .i64 P] w (RetV w (.bool true)) := by
  by_cases h30 : n ≤ 30
  · by_cases hl : ∀ r ∈ R, longB r.xs = false
    · by_cases he : listsE n P (allN R) = 0
      · have h1 : 1 ≤ n ∧ n ≤ 16 := by
          apply Classical.byContradiction; intro h
          unfold listsE at he
          rw [if_neg (by simpa using h)] at he; cases he
        have h2 : 1 ≤ P ∧ P ≤ 16 := by
          apply Classical.byContradiction; intro h
          unfold listsE at he
          rw [if_pos (by simpa using h1), if_neg (by simpa using h)] at he; cases he
        have h3 : allN R ≤ 400 := by
          apply Classical.byContradiction; intro h
          unfold listsE at he
          rw [if_pos (by simpa using h1), if_pos (by simpa using h2), if_pos (by simp; omega)] at he; cases he
        obtain ⟨N, rfl⟩ := Int.eq_ofNat_of_zero_le (show 0 ≤ P by omega)
        exact deals_yes A n c R N w hx h30 hrn hsz hl h1.1 h1.2 (by omega) (by omega) h3
      · exact deals_no A n c R P w hx h30 hrn hsz hl he
    · exact deals_long A n c R P w hx h30 hrn hsz hl
  · exact deals_big A n c P w hn (by omega)
end Go.Proofs.Ythngjbhamgmcgaa
