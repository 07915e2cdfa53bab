/-
  The walks of beyond, within and Clone over entries, and of Dealt's closure.
-/
import Derived.Test.YthngjbhamgmcgaaEoM
import Derived.Test.YthngjbhamgmcgaaApp
import Derived.Lib.LazyBuf
namespace Go.Proofs.Ythngjbhamgmcgaa
open Go.RowKit
attribute [local go_sem] Oper.semAt_some
set_option linter.unusedVariables false

theorem inG_next {G : Int} {l : List En} {k : Nat} {x : En} (hx : l[k]? = some x) (h : inG G (l.take k) = true) (hv : x.g < G) : inG G (l.take (k + 1)) = true := by
  unfold inG at *
  rw [take_snoc' hx, List.all_append, h]
  simpa using hv
theorem inG_bad {G : Int} {l : List En} {k : Nat} {x : En} (hx : l[k]? = some x) (hv : ¬ x.g < G) : inG G l = false := by
  cases ho : inG G l
  · rfl
  · exact absurd (inG_of ho x (List.mem_of_getElem? hx)) hv
theorem beyond1_any (x : En) (G : Int) (bx : Nat) (w : World) (hb : bx < w.heap.size) (hc : w.cell? ⟨bx, 0, none⟩ = some (.int .i64 G)) :
    Calls Try.prog 89 #[.agg #[.int .i64 x.g, .string x.nm, .string x.ky, .string x.vl], .pointer (some ⟨bx, 0, none⟩)] w (RetV w (.bool (decide (G ≤ x.g)))) := by
  have hB := below_val (w := w) #[.int .i64 x.g, .string x.nm, .string x.ky, .string x.vl] 57
  have hc2 : (w.alloc (.cells #[.int .i64 x.g, .string x.nm, .string x.ky, .string x.vl] 57)).cell? ⟨bx, 0, none⟩ = some (.int .i64 G) := by
    rw [World.cell?_alloc_lt _ _ _ (show bx < _ by omega)]; exact hc
  go_enter Try.func89, Try.ntmps89
  go_wp2
  go_ret
  exact ⟨rfl, hB⟩
set_option maxRecDepth 100000 in
set_option maxHeartbeats 2000000 in
theorem idx_bey (A : Option Addr) (n c : Nat) (l : List En) (G : Int) (bx : Nat) (w : World) (hl : Reads w w.heap.size 4 A n (flatE l)) (hn : n ≤ 9223372036854775807) (hb0 : bx < w.heap.size) (hcx : w.cell? ⟨bx, 0, none⟩ = some (.int .i64 G)) :
    Calls Try.prog 94 #[.slice A n c, .func (Fn.func 89) #[] #[.pointer (some ⟨bx, 0, none⟩)]] w fun e w' => (∃ i : Int, e = .returned (.int .i64 i) ∧ decide (0 ≤ i) = !inG G l) ∧ Below w.heap.size w w' := by
  have HL := hide (show l.length = n from hl.len (enc := encE) encE_len (by omega))
  go_enter Try.func94, Try.ntmps94
  go_wp2_with fail
  go_loopw [8] (fun i wr => ∃ k : Nat, k ≤ n ∧ i = .int .i64 k ∧ inG G (l.take k) = true ∧ Below w.heap.size w wr) (fun i _ => n - (intOf i).toNat)
  case atStart => exact ⟨0, Nat.zero_le _, rfl, rfl, Below.refl _ _⟩
  case round =>
    obtain ⟨k, hk, rfl, hany, hBw⟩ := hrel
    have HA := hide hany
    clear hany
    by_cases hlt : k < n
    · obtain ⟨b, off, x, rfl, hb, hxk, hc⟩ := (hl.up hBw).elem (enc := encE) encE_len HL.out hlt
      have HE := hide hxk
      have c0 : wr.cell? ⟨b, off + k * 4, none⟩ = some (.int .i64 x.g) := by simpa using hc 0 _ rfl
      have c1 : wr.cell? ⟨b, off + k * 4 + 1, none⟩ = some (.string x.nm) := by simpa [← Nat.add_assoc] using hc 1 _ rfl
      have c2 : wr.cell? ⟨b, off + k * 4 + 2, none⟩ = some (.string x.ky) := by simpa [← Nat.add_assoc] using hc 2 _ rfl
      have c3 : wr.cell? ⟨b, off + k * 4 + 3, none⟩ = some (.string x.vl) := by simpa [← Nat.add_assoc] using hc 3 _ rfl
      clear hxk hc
      have hcw : wr.cell? ⟨bx, 0, none⟩ = some (.int .i64 G) := (hBw.cell (p := ⟨bx, 0, none⟩) hb0).trans hcx
      have hbw : bx < wr.heap.size := Nat.lt_of_lt_of_le hb0 hBw.size
      have HC := hide (beyond1_any x G bx wr hbw hcw)
      have q1 : (0 : Int) ≤ (k : Int) := by omega
      have q2 : (k : Int) < (n : Int) := by omega
      clear hcw hbw
      by_cases hq : x.g < G
      · have hd : decide (G ≤ x.g) = false := by simpa using hq
        rw [hd] at HC
        have HX := hide (inG_next HE.out HA.out hq)
        clear hq hd
        go_wp2_with fail
        refine HC.out.mono ?_
        rintro ee w1 ⟨rfl, hB1⟩
        have hB2 := bstep hBw hB1
        clear hB1 hBw c0 c1 c2 c3
        go_wp2
        go_roundw
        case rel => exact ⟨k + 1, by omega, by go_num, HX.out, hB2⟩
        case measure => simp [intOf]; omega
      · have hd : decide (G ≤ x.g) = true := by simpa using hq
        rw [hd] at HC
        have HX := hide (inG_bad HE.out hq)
        clear hq hd
        go_wp2_with fail
        refine HC.out.mono ?_
        rintro ee w1 ⟨rfl, hB1⟩
        have hB2 := bstep hBw hB1
        clear hB1 hBw c0 c1 c2 c3
        go_wp2
        go_ret
        exact ⟨⟨_, rfl, by rw [HX.out]; simp⟩, hB2⟩
    · obtain rfl : k = n := by omega
      go_wp2
      go_ret
      exact ⟨⟨_, rfl, by
        have := HA.out
        rw [take_all HL.out] at this
        rw [this]; rfl⟩, hBw⟩
theorem con_bey (A : Option Addr) (n c : Nat) (l : List En) (G : Int) (bx : Nat) (w : World) (hl : Reads w w.heap.size 4 A n (flatE l)) (hn : n ≤ 9223372036854775807) (hb0 : bx < w.heap.size) (hcx : w.cell? ⟨bx, 0, none⟩ = some (.int .i64 G)) :
    Calls Try.prog 76 #[.slice A n c, .func (Fn.func 89) #[] #[.pointer (some ⟨bx, 0, none⟩)]] w (RetV w (.bool (!inG G l))) := by
  go_enter Try.func76, Try.ntmps76
  go_wp2_with (go_at_call 94; refine (idx_bey A n c l G bx w hl hn hb0 hcx).mono ?_; rintro e w' ⟨⟨i, rfl, hi⟩, hB1⟩)
  go_ret
  exact ⟨rfl, hB1⟩
theorem beyond_any (A : Option Addr) (n c : Nat) (l : List En) (G : Int) (w : World) (hl : Reads w w.heap.size 4 A n (flatE l)) (hn : n ≤ 9223372036854775807) :
    Calls Try.prog 66 #[.slice A n c, .int .i64 G] w (RetV w (.bool (!inG G l))) := by
  have hB := below_val (w := w) #[.int .i64 G] 3
  have HC := hide (con_bey A n c l G w.heap.size (w.alloc (.cells #[.int .i64 G] 3)) (hl.up hB) hn (by simp) (by simp))
  go_enter Try.func66, Try.ntmps66
  go_wp2_with fail
  refine HC.out.mono ?_
  rintro e w' ⟨rfl, hB1⟩
  have HB := hide (bstep hB hB1)
  clear hB hB1
  go_wp2
  go_ret
  exact ⟨rfl, HB.out⟩
set_option maxRecDepth 100000 in
set_option maxHeartbeats 2000000 in
theorem within_any (A : Option Addr) (n c : Nat) (l : List En) (G : Int) (w : World) (hl : Reads w w.heap.size 4 A n (flatE l)) (hn : n ≤ 9223372036854775807) :
    Calls Try.prog 67 #[.slice A n c, .int .i64 G] w (RetV w (.bool (inG G l))) := by
  have HL := hide (show l.length = n from hl.len (enc := encE) encE_len (by omega))
  obtain ⟨p, hp⟩ : ∃ p, inG G l = p := ⟨_, rfl⟩
  have HP := hide hp
  rw [hp]
  clear hp
  go_enter Try.func67, Try.ntmps67
  go_wp2_with fail
  go_loopw [5] (fun i wr => ∃ k : Nat, k ≤ n ∧ i = .int .i64 k ∧ inG G (l.take k) = true ∧ Below w.heap.size w wr) (fun i _ => n - (intOf i).toNat)
  case atStart => exact ⟨0, Nat.zero_le _, rfl, rfl, Below.refl _ _⟩
  case round =>
    obtain ⟨k, hk, rfl, hany, hBw⟩ := hrel
    have HA := hide hany
    clear hany
    by_cases hlt : k < n
    · obtain ⟨b, off, x, rfl, hb, hxk, hc⟩ := (hl.up hBw).elem (enc := encE) encE_len HL.out hlt
      have HE := hide hxk
      have c0 : wr.cell? ⟨b, off + k * 4, none⟩ = some (.int .i64 x.g) := by simpa using hc 0 _ rfl
      clear hxk hc
      have q1 : (0 : Int) ≤ (k : Int) := by omega
      have q2 : (k : Int) < (n : Int) := by omega
      by_cases hq : x.g < G
      · have hd : decide (G ≤ x.g) = false := by simpa using hq
        have HX := hide (inG_next HE.out HA.out hq)
        clear hq
        go_wp2
        go_roundw
        case rel => exact ⟨k + 1, by omega, by go_num, HX.out, hBw⟩
        case measure => simp [intOf]; omega
      · have hd : decide (G ≤ x.g) = true := by simpa using hq
        have HX := hide (inG_bad HE.out hq)
        clear hq
        go_wp2
        go_ret
        exact ⟨ret_bool (by rw [← HP.out, HX.out]), hBw⟩
    · obtain rfl : k = n := by omega
      go_wp2
      go_ret
      exact ⟨ret_bool (by
        have := HA.out
        rw [take_all HL.out, HP.out] at this
        exact this.symm), hBw⟩
set_option maxRecDepth 100000 in
set_option maxHeartbeats 2000000 in
theorem CloneE_any (A : Option Addr) (n c : Nat) (l : List En) (w : World) (hr : Reads w w.heap.size 4 A n (flatE l)) (hn : n ≤ 100000) :
    Calls Try.prog 68 #[.slice A n c] w (RetOwn w 57 4 n (flatE l)) := by
  obtain ⟨i0, hi, hz0, hz1, hz2⟩ := info_parts4 infoE
  cases A with
  | none =>
    have hn0 : n = 0 := by
      rcases Nat.eq_zero_or_pos n with h | h
      · exact h
      · obtain ⟨b, off, e, _⟩ := hr.2 h
        cases e
    subst hn0
    have hl0 : l = [] := by
      have := hr.len (enc := encE) encE_len (by omega)
      exact List.length_eq_zero_iff.1 this
    subst hl0
    have hq := fun w => run_eql_slice_nil (P := Try.prog) w 50 57 none 0 c Try.underlying50
    go_enter Try.func68, Try.ntmps68
    go_wp2
    go_ret
    exact ⟨_, _, rfl, World.ownsRow_nil _ _ _ _, Below.refl _ _⟩
  | some a =>
    have hlit := own_lit w 57 4 0 #[] rfl (by unfold maxLen; omega) (Nat.le_refl w.heap.size)
    have hB0 := below_val (w := w) #[] 57
    have hrd := hr.alloc (Nat.le_refl _) (.cells #[] 57)
    clear hr
    have hq := fun w => run_eql_slice_nil (P := Try.prog) w 50 57 (some a) n c Try.underlying50
    have one := one_cellE l
    go_enter Try.func68, Try.ntmps68
    go_wp2_with (at_builtin; refine wpList_append_any _ rfl _ _ 50 rfl w.heap.size 57 i0 _ 4 56 Try.underlying50 hi hz0 hz1 hz2 rfl (by decide) (.slice (some ⟨w.heap.size, 0, none⟩) 0 0) 0 [] rfl hlit w.heap.size (some a) n c (flatE l) rfl hrd one (by unfold maxLen; omega) (by omega) (by simp) ?_; intro v' W1 hown hgrow _; rw [Nat.zero_add, List.nil_append] at hown)
    have hB1 : Below w.heap.size w W1 := below_append hB0 hlit (by simp) hgrow
    obtain ⟨A', c', rfl, _⟩ := own_form hown
    go_ret
    exact ⟨_, _, rfl, hown, hB1⟩
/-- The group of an entry times parts, divided by groups. -/
theorem part_int {P G : Nat} {x : En} (h0 : 0 ≤ x.g) (h1 : x.g < G) (hG : G ≤ 128) (hP : P ≤ 16) : IntKind.i64.wrap (x.g * (P : Int)) = ((x.g.toNat * P : Nat) : Int) ∧ IntKind.i64.wrap (((x.g.toNat * P : Nat) : Int).tdiv (G : Int)) = (pN P G x : Int) := by
  have hg : ((x.g.toNat : Nat) : Int) = x.g := by omega
  obtain ⟨d1, d2⟩ := div_part x.g.toNat P G (by omega) hG hP
  constructor
  · rw [Int.natCast_mul, hg, IntKind.wrap_i64]
    have e : x.g * (P : Int) = ((x.g.toNat * P : Nat) : Int) := by rw [Int.natCast_mul, hg]
    rw [e]; omega
  · have e : ((x.g.toNat * P : Nat) : Int).tdiv (G : Int) = ((pN P G x : Nat) : Int) := by
      rw [Int.tdiv_eq_ediv_of_nonneg (by omega)]
      rfl
    have hq : pN P G x ≤ 16 := d1
    obtain ⟨q, hq2⟩ : ∃ q, pN P G x = q := ⟨_, rfl⟩
    rw [hq2] at hq e ⊢
    rw [e, IntKind.wrap_i64]
    omega
theorem Dealt1_any (m P G ba bp bg p : Nat) (A : Option Addr) (n c : Nat) (s : List En) (x : En) (w : World) (hs : Reads w w.heap.size 4 A n (flatE s)) (hls : s.length = n) (hx : s[m]? = some x) (hp : pN P G x = p) (h0 : 0 ≤ x.g) (h1 : x.g < G) (hG : G ≤ 128) (hP : P ≤ 16) (hn : n ≤ 40000)
    (hca : w.cell? ⟨ba, 0, none⟩ = some (.slice A n c)) (hcp : w.cell? ⟨bp, 0, none⟩ = some (.int .i64 (P : Int))) (hcg : w.cell? ⟨bg, 0, none⟩ = some (.int .i64 (G : Int))) :
    Calls Try.prog 70 #[.int .i64 (m : Int), .pointer (some ⟨ba, 0, none⟩), .pointer (some ⟨bp, 0, none⟩), .pointer (some ⟨bg, 0, none⟩)] w fun e w' => ∃ g, e = .returned (.slice (some ⟨g, 0, none⟩) 1 1) ∧ Blk w' g 3 #[.int .i64 (p : Int)] ∧ w.heap.size ≤ g ∧ Below w.heap.size w w' := by
  have hmn : m < n := by have := (List.getElem?_eq_some_iff.1 hx).1; omega
  obtain ⟨b, off, y, rfl, hb, hxk, hc⟩ := hs.elem (enc := encE) encE_len hls hmn
  rw [hx] at hxk
  injection hxk with hxk
  subst hxk
  have c0 : w.cell? ⟨b, off + m * 4, none⟩ = some (.int .i64 x.g) := by simpa using hc 0 _ rfl
  obtain ⟨w1, w2⟩ := part_int h0 h1 hG hP
  rw [hp] at w2
  have hG0 : ((G : Int) = 0) = False := eq_false (by omega)
  have hG0' : G ≠ 0 := by omega
  have q1 : (0 : Int) ≤ (m : Int) := by omega
  have q2 : (m : Int) < (n : Int) := by omega
  obtain ⟨gp, hgp⟩ : ∃ gp : Int, IntKind.i64.wrap (x.g * (P : Int)) = gp := ⟨_, rfl⟩
  rw [← w1, hgp] at w2
  clear w1 hc hx hp hs
  go_enter Try.func70, Try.ntmps70
  go_wp2_with fail
  go_region
  go_wp2
  go_ret
  exact ⟨w.heap.size, rfl, Blk.new _ _ _, Nat.le_refl _, (below_val _ _).drew⟩
end Go.Proofs.Ythngjbhamgmcgaa
