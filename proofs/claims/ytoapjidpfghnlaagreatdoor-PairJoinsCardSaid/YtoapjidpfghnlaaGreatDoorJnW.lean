/-
  The law PairJoins, for all inputs that read. (Printed by gen_jnW.)
-/
import Derived.Test.YtoapjidpfghnlaaGreatDoorJnJ
import Derived.Test.YtoapjidpfghnlaaGreatDoorJnW0
namespace Go.Proofs.YtoapjidpfghnlaaGreatDoor
open Go.RowKit
attribute [local go_sem] Oper.semAt_some wide_fn wide_depth
set_option linter.unusedVariables false
set_option linter.unusedSimpArgs false

set_option maxRecDepth 100000 in
set_option maxHeartbeats 32000000 in
theorem pairJoins_all (A1 : Option Addr) (n1 c1 : Nat) (on : List Int) (A2 : Option Addr) (n2 c2 : Nat) (others : List Int) (wide width kind lo hi : Int) (A3 : Option Addr) (n3 c3 : Nat) (la : List Ac) (w : World)
    (h1 : Reads w w.heap.size 1 A1 n1 (on.map (Value.int .i64))) (h2 : Reads w w.heap.size 1 A2 n2 (others.map (Value.int .i64))) (h3 : AcR w w.heap.size A3 n3 la) (ht : Tab w) :
    Calls Tryz.prog 9 #[.agg #[.slice A1 n1 c1, .slice A2 n2 c2, .int .i64 wide, .int .i64 width, .int .i64 kind, .int .i64 lo, .int .i64 hi], .slice A3 n3 c3] w (RetV w (.bool true)) := by
  have hB0 := below_val (w := w) #[.slice A1 n1 c1, .slice A2 n2 c2, .int .i64 wide, .int .i64 width, .int .i64 kind, .int .i64 lo, .int .i64 hi] 24
  have k1 := Blk.new w 24 #[.slice A1 n1 c1, .slice A2 n2 c2, .int .i64 wide, .int .i64 width, .int .i64 kind, .int .i64 lo, .int .i64 hi]
  have hn3 := h3.le
  have hbs : KJs _ w.heap.size #[.slice A1 n1 c1, .slice A2 n2 c2, .int .i64 wide, .int .i64 width, .int .i64 kind, .int .i64 lo, .int .i64 hi] A1 n1 on A2 n2 others A3 n3 la := ⟨k1, h1.up hB0, h2.up hB0, (h3.below hB0).mono hB0.size, ht.below hB0⟩
  clear h1 h2 h3 ht k1
  go_enter Tryz.func9, Tryz.ntmps9
  go_wp2_with fail
  obtain ⟨W0, hW0⟩ : ∃ W0, w.alloc (.cells #[.slice A1 n1 c1, .slice A2 n2 c2, .int .i64 wide, .int .i64 width, .int .i64 kind, .int .i64 lo, .int .i64 hi] 24) = W0 := ⟨_, rfl⟩
  rw [hW0] at hB0 hbs ⊢
  obtain ⟨kb, hkb⟩ : ∃ kb, w.heap.size = kb := ⟨_, rfl⟩
  rw [hkb] at hbs ⊢
  have HKB := hide hkb
  clear hW0 hkb
  refine (klong_any A1 n1 c1 A2 n2 c2 wide width kind lo hi W0).mono ?_
  rintro e W1 hres
  obtain ⟨b1, rfl, hb1, hb⟩ := hres
  have hB1 := bstep hB0 hb
  have hbs1 := hbs.below hb
  clear hb hB0 hbs
  cases b1
  case true =>
    clear hb1
    go_wp2_with fail
    refine (awake9_any W1 hbs1.tab).mono ?_
    rintro e W2 ⟨rfl, hb⟩
    have HB := hide (bstep hB1 hb)
    clear hb hB1 hbs1
    go_wp2
    go_ret
    exact ⟨rfl, HB.out⟩
  case false =>
  obtain ⟨hn1, hn2⟩ := hb1 rfl
  clear hb1
  go_wp2_with fail
  refine (fewA_any A3 n3 c3 la W1 hbs1.ac).mono ?_
  rintro e W2 hres
  obtain ⟨b3, rfl, hb3, hb⟩ := hres
  have hB2 := bstep hB1 hb
  have hbs2 := hbs1.below hb
  clear hb hB1 hbs1
  cases b3
  case false =>
    clear hb3
    go_wp2_with fail
    refine (awake9_any W2 hbs2.tab).mono ?_
    rintro e W3 ⟨rfl, hb⟩
    have HB := hide (bstep hB2 hb)
    clear hb hB2 hbs2
    go_wp2
    go_ret
    exact ⟨rfl, HB.out⟩
  case true =>
  have hn40 := hb3 rfl
  clear hb3
  have d0 : W2.cell? ⟨kb, 0, none⟩ = some (.slice A1 n1 c1) := by simpa using hbs2.ky.cell 0
  have d1 : W2.cell? ⟨kb, 1, none⟩ = some (.slice A2 n2 c2) := by simpa using hbs2.ky.cell 1
  have d5 : W2.cell? ⟨kb, 5, none⟩ = some (.int .i64 lo) := by simpa using hbs2.ky.cell 5
  have d6 : W2.cell? ⟨kb, 6, none⟩ = some (.int .i64 hi) := by simpa using hbs2.ky.cell 6
  have HNK := hide (new_both A1 n1 c1 on A2 n2 c2 others lo hi W2 hbs2.on hbs2.ot (by omega) (by omega))
  have HAC := hide hbs2.ac
  have HTAB := hide hbs2.tab
  have HKY := hide hbs2.ky
  have HB2 := hide hB2
  clear hbs2 hB2
  go_wp2_with fail
  refine HNK.out.mono ?_
  rintro e W3 ⟨px, E, rfl, hb, hres⟩
  have ky3 := HKY.out.below hb HKY.out.lt
  clear d0 d1 d5 d6 HNK hb
  have d0 : W3.cell? ⟨kb, 0, none⟩ = some (.slice A1 n1 c1) := by simpa using ky3.cell 0
  have d1 : W3.cell? ⟨kb, 1, none⟩ = some (.slice A2 n2 c2) := by simpa using ky3.cell 1
  have d5 : W3.cell? ⟨kb, 5, none⟩ = some (.int .i64 lo) := by simpa using ky3.cell 5
  have d6 : W3.cell? ⟨kb, 6, none⟩ = some (.int .i64 hi) := by simpa using ky3.cell 6
  have HRK := hide hres
  clear ky3 hres
  go_wp2_with fail
  refine HRK.out.mono ?_
  rintro e W4 ⟨py, rfl, hb, hst⟩
  have HBL4 := hide hb
  have HST4 := hide hst
  have zE : (E != E) = false := by simp
  clear d0 d1 d5 d6 HRK HKY hb hst
  go_wp2_with fail
  have hK0 : StJ W2.heap.size 0 px py W4 := HST4.out
  have hL0 : Below W2.heap.size W2 W4 := HBL4.out
  go_loopw [9] (fun i wr => ∃ (i1 : Nat), i1 ≤ n3 ∧ i = .int .i64 i1 ∧ StJ W2.heap.size i1 px py wr ∧ Below W2.heap.size W2 wr) (fun i _ => n3 - (intOf i).toNat)
  case atStart => exact ⟨0, Nat.zero_le _, rfl, hK0, hL0⟩
  case round =>
    clear hK0 hL0 HBL4 HST4 zE
    obtain ⟨i1, hi1, rfl, hK, hL⟩ := hrel
    by_cases hlt : i1 < n3
    · have q1 : (0 : Int) ≤ (i1 : Int) := by omega
      have q2 : (i1 : Int) < (n3 : Int) := by omega
      obtain ⟨ba, oa, a, rfl, hba, hak, z0, z1, z2, z3, z4, hrow0, hcap⟩ := HAC.out.at_ hlt
      have e0 := (hL.cell (p := ⟨ba, oa + i1 * 5, none⟩) hba).trans z0
      have e1 := (hL.cell (p := ⟨ba, oa + i1 * 5 + 1, none⟩) hba).trans z1
      have e2 := (hL.cell (p := ⟨ba, oa + i1 * 5 + 2, none⟩) hba).trans z2
      have e3 := (hL.cell (p := ⟨ba, oa + i1 * 5 + 3, none⟩) hba).trans z3
      have e4 := (hL.cell (p := ⟨ba, oa + i1 * 5 + 4, none⟩) hba).trans z4
      have hrow := hrow0.below hL
      have hblw : ba < wr.heap.size := Nat.lt_of_lt_of_le hba hL.size
      have HZ0 := hide z0
      have HZ1 := hide z1
      clear z0 z1 z2 z3 z4 hrow0
      have hbv := below_val (w := wr) #[.int .i64 a.t, .slice a.A a.m a.c, .int .i64 a.q] 57
      have kc := Blk.new wr 57 #[.int .i64 a.t, .slice a.A a.m a.c, .int .i64 a.q]
      clear hak
      have HK := hide hK
      have HL := hide hL
      have HROW := hide hrow
      have HKC := hide kc
      have HBV := hide hbv
      clear hK hL hrow kc hbv
      go_upto_region 10 with fail
      first
      | (iterate 11 (first | go_values | go_skip | go_guarded | go_step | go_upon | go_back)); go_cut [10] from 52 to 161 (fun s10 wx => s10 = .pointer (some ⟨wr.heap.size, 0, none⟩) ∧ Blk wx wr.heap.size 57 #[.int .i64 a.t, .slice a.A a.m a.c, .int .i64 (redJ a.q)] ∧ Below wr.heap.size wr wx)
      | (iterate 12 (first | go_values | go_skip | go_guarded | go_step | go_upon | go_back)); go_cut [10] from 52 to 161 (fun s10 wx => s10 = .pointer (some ⟨wr.heap.size, 0, none⟩) ∧ Blk wx wr.heap.size 57 #[.int .i64 a.t, .slice a.A a.m a.c, .int .i64 (redJ a.q)] ∧ Below wr.heap.size wr wx)
      | (iterate 13 (first | go_values | go_skip | go_guarded | go_step | go_upon | go_back)); go_cut [10] from 52 to 161 (fun s10 wx => s10 = .pointer (some ⟨wr.heap.size, 0, none⟩) ∧ Blk wx wr.heap.size 57 #[.int .i64 a.t, .slice a.A a.m a.c, .int .i64 (redJ a.q)] ∧ Below wr.heap.size wr wx)
      | (iterate 14 (first | go_values | go_skip | go_guarded | go_step | go_upon | go_back)); go_cut [10] from 52 to 161 (fun s10 wx => s10 = .pointer (some ⟨wr.heap.size, 0, none⟩) ∧ Blk wx wr.heap.size 57 #[.int .i64 a.t, .slice a.A a.m a.c, .int .i64 (redJ a.q)] ∧ Below wr.heap.size wr wx)
      | (iterate 15 (first | go_values | go_skip | go_guarded | go_step | go_upon | go_back)); go_cut [10] from 52 to 161 (fun s10 wx => s10 = .pointer (some ⟨wr.heap.size, 0, none⟩) ∧ Blk wx wr.heap.size 57 #[.int .i64 a.t, .slice a.A a.m a.c, .int .i64 (redJ a.q)] ∧ Below wr.heap.size wr wx)
      | (iterate 16 (first | go_values | go_skip | go_guarded | go_step | go_upon | go_back)); go_cut [10] from 52 to 161 (fun s10 wx => s10 = .pointer (some ⟨wr.heap.size, 0, none⟩) ∧ Blk wx wr.heap.size 57 #[.int .i64 a.t, .slice a.A a.m a.c, .int .i64 (redJ a.q)] ∧ Below wr.heap.size wr wx)
      | (iterate 17 (first | go_values | go_skip | go_guarded | go_step | go_upon | go_back)); go_cut [10] from 52 to 161 (fun s10 wx => s10 = .pointer (some ⟨wr.heap.size, 0, none⟩) ∧ Blk wx wr.heap.size 57 #[.int .i64 a.t, .slice a.A a.m a.c, .int .i64 (redJ a.q)] ∧ Below wr.heap.size wr wx)
      | (iterate 18 (first | go_values | go_skip | go_guarded | go_step | go_upon | go_back)); go_cut [10] from 52 to 161 (fun s10 wx => s10 = .pointer (some ⟨wr.heap.size, 0, none⟩) ∧ Blk wx wr.heap.size 57 #[.int .i64 a.t, .slice a.A a.m a.c, .int .i64 (redJ a.q)] ∧ Below wr.heap.size wr wx)
      | (iterate 19 (first | go_values | go_skip | go_guarded | go_step | go_upon | go_back)); go_cut [10] from 52 to 161 (fun s10 wx => s10 = .pointer (some ⟨wr.heap.size, 0, none⟩) ∧ Blk wx wr.heap.size 57 #[.int .i64 a.t, .slice a.A a.m a.c, .int .i64 (redJ a.q)] ∧ Below wr.heap.size wr wx)
      | (iterate 20 (first | go_values | go_skip | go_guarded | go_step | go_upon | go_back)); go_cut [10] from 52 to 161 (fun s10 wx => s10 = .pointer (some ⟨wr.heap.size, 0, none⟩) ∧ Blk wx wr.heap.size 57 #[.int .i64 a.t, .slice a.A a.m a.c, .int .i64 (redJ a.q)] ∧ Below wr.heap.size wr wx)
      | (iterate 21 (first | go_values | go_skip | go_guarded | go_step | go_upon | go_back)); go_cut [10] from 52 to 161 (fun s10 wx => s10 = .pointer (some ⟨wr.heap.size, 0, none⟩) ∧ Blk wx wr.heap.size 57 #[.int .i64 a.t, .slice a.A a.m a.c, .int .i64 (redJ a.q)] ∧ Below wr.heap.size wr wx)
      | (iterate 22 (first | go_values | go_skip | go_guarded | go_step | go_upon | go_back)); go_cut [10] from 52 to 161 (fun s10 wx => s10 = .pointer (some ⟨wr.heap.size, 0, none⟩) ∧ Blk wx wr.heap.size 57 #[.int .i64 a.t, .slice a.A a.m a.c, .int .i64 (redJ a.q)] ∧ Below wr.heap.size wr wx)
      | (iterate 23 (first | go_values | go_skip | go_guarded | go_step | go_upon | go_back)); go_cut [10] from 52 to 161 (fun s10 wx => s10 = .pointer (some ⟨wr.heap.size, 0, none⟩) ∧ Blk wx wr.heap.size 57 #[.int .i64 a.t, .slice a.A a.m a.c, .int .i64 (redJ a.q)] ∧ Below wr.heap.size wr wx)
      | (iterate 24 (first | go_values | go_skip | go_guarded | go_step | go_upon | go_back)); go_cut [10] from 52 to 161 (fun s10 wx => s10 = .pointer (some ⟨wr.heap.size, 0, none⟩) ∧ Blk wx wr.heap.size 57 #[.int .i64 a.t, .slice a.A a.m a.c, .int .i64 (redJ a.q)] ∧ Below wr.heap.size wr wx)
      | (iterate 25 (first | go_values | go_skip | go_guarded | go_step | go_upon | go_back)); go_cut [10] from 52 to 161 (fun s10 wx => s10 = .pointer (some ⟨wr.heap.size, 0, none⟩) ∧ Blk wx wr.heap.size 57 #[.int .i64 a.t, .slice a.A a.m a.c, .int .i64 (redJ a.q)] ∧ Below wr.heap.size wr wx)
      | (iterate 26 (first | go_values | go_skip | go_guarded | go_step | go_upon | go_back)); go_cut [10] from 52 to 161 (fun s10 wx => s10 = .pointer (some ⟨wr.heap.size, 0, none⟩) ∧ Blk wx wr.heap.size 57 #[.int .i64 a.t, .slice a.A a.m a.c, .int .i64 (redJ a.q)] ∧ Below wr.heap.size wr wx)
      | (iterate 27 (first | go_values | go_skip | go_guarded | go_step | go_upon | go_back)); go_cut [10] from 52 to 161 (fun s10 wx => s10 = .pointer (some ⟨wr.heap.size, 0, none⟩) ∧ Blk wx wr.heap.size 57 #[.int .i64 a.t, .slice a.A a.m a.c, .int .i64 (redJ a.q)] ∧ Below wr.heap.size wr wx)
      | (iterate 28 (first | go_values | go_skip | go_guarded | go_step | go_upon | go_back)); go_cut [10] from 52 to 161 (fun s10 wx => s10 = .pointer (some ⟨wr.heap.size, 0, none⟩) ∧ Blk wx wr.heap.size 57 #[.int .i64 a.t, .slice a.A a.m a.c, .int .i64 (redJ a.q)] ∧ Below wr.heap.size wr wx)
      | (iterate 29 (first | go_values | go_skip | go_guarded | go_step | go_upon | go_back)); go_cut [10] from 52 to 161 (fun s10 wx => s10 = .pointer (some ⟨wr.heap.size, 0, none⟩) ∧ Blk wx wr.heap.size 57 #[.int .i64 a.t, .slice a.A a.m a.c, .int .i64 (redJ a.q)] ∧ Below wr.heap.size wr wx)
      | (iterate 30 (first | go_values | go_skip | go_guarded | go_step | go_upon | go_back)); go_cut [10] from 52 to 161 (fun s10 wx => s10 = .pointer (some ⟨wr.heap.size, 0, none⟩) ∧ Blk wx wr.heap.size 57 #[.int .i64 a.t, .slice a.A a.m a.c, .int .i64 (redJ a.q)] ∧ Below wr.heap.size wr wx)
      | (iterate 31 (first | go_values | go_skip | go_guarded | go_step | go_upon | go_back)); go_cut [10] from 52 to 161 (fun s10 wx => s10 = .pointer (some ⟨wr.heap.size, 0, none⟩) ∧ Blk wx wr.heap.size 57 #[.int .i64 a.t, .slice a.A a.m a.c, .int .i64 (redJ a.q)] ∧ Below wr.heap.size wr wx)
      | (iterate 32 (first | go_values | go_skip | go_guarded | go_step | go_upon | go_back)); go_cut [10] from 52 to 161 (fun s10 wx => s10 = .pointer (some ⟨wr.heap.size, 0, none⟩) ∧ Blk wx wr.heap.size 57 #[.int .i64 a.t, .slice a.A a.m a.c, .int .i64 (redJ a.q)] ∧ Below wr.heap.size wr wx)
      | (iterate 33 (first | go_values | go_skip | go_guarded | go_step | go_upon | go_back)); go_cut [10] from 52 to 161 (fun s10 wx => s10 = .pointer (some ⟨wr.heap.size, 0, none⟩) ∧ Blk wx wr.heap.size 57 #[.int .i64 a.t, .slice a.A a.m a.c, .int .i64 (redJ a.q)] ∧ Below wr.heap.size wr wx)
      | (iterate 34 (first | go_values | go_skip | go_guarded | go_step | go_upon | go_back)); go_cut [10] from 52 to 161 (fun s10 wx => s10 = .pointer (some ⟨wr.heap.size, 0, none⟩) ∧ Blk wx wr.heap.size 57 #[.int .i64 a.t, .slice a.A a.m a.c, .int .i64 (redJ a.q)] ∧ Below wr.heap.size wr wx)
      | (iterate 35 (first | go_values | go_skip | go_guarded | go_step | go_upon | go_back)); go_cut [10] from 52 to 161 (fun s10 wx => s10 = .pointer (some ⟨wr.heap.size, 0, none⟩) ∧ Blk wx wr.heap.size 57 #[.int .i64 a.t, .slice a.A a.m a.c, .int .i64 (redJ a.q)] ∧ Below wr.heap.size wr wx)
      | (iterate 36 (first | go_values | go_skip | go_guarded | go_step | go_upon | go_back)); go_cut [10] from 52 to 161 (fun s10 wx => s10 = .pointer (some ⟨wr.heap.size, 0, none⟩) ∧ Blk wx wr.heap.size 57 #[.int .i64 a.t, .slice a.A a.m a.c, .int .i64 (redJ a.q)] ∧ Below wr.heap.size wr wx)
      | (iterate 37 (first | go_values | go_skip | go_guarded | go_step | go_upon | go_back)); go_cut [10] from 52 to 161 (fun s10 wx => s10 = .pointer (some ⟨wr.heap.size, 0, none⟩) ∧ Blk wx wr.heap.size 57 #[.int .i64 a.t, .slice a.A a.m a.c, .int .i64 (redJ a.q)] ∧ Below wr.heap.size wr wx)
      | (iterate 38 (first | go_values | go_skip | go_guarded | go_step | go_upon | go_back)); go_cut [10] from 52 to 161 (fun s10 wx => s10 = .pointer (some ⟨wr.heap.size, 0, none⟩) ∧ Blk wx wr.heap.size 57 #[.int .i64 a.t, .slice a.A a.m a.c, .int .i64 (redJ a.q)] ∧ Below wr.heap.size wr wx)
      | (iterate 39 (first | go_values | go_skip | go_guarded | go_step | go_upon | go_back)); go_cut [10] from 52 to 161 (fun s10 wx => s10 = .pointer (some ⟨wr.heap.size, 0, none⟩) ∧ Blk wx wr.heap.size 57 #[.int .i64 a.t, .slice a.A a.m a.c, .int .i64 (redJ a.q)] ∧ Below wr.heap.size wr wx)
      | (iterate 40 (first | go_values | go_skip | go_guarded | go_step | go_upon | go_back)); go_cut [10] from 52 to 161 (fun s10 wx => s10 = .pointer (some ⟨wr.heap.size, 0, none⟩) ∧ Blk wx wr.heap.size 57 #[.int .i64 a.t, .slice a.A a.m a.c, .int .i64 (redJ a.q)] ∧ Below wr.heap.size wr wx)
      | (iterate 41 (first | go_values | go_skip | go_guarded | go_step | go_upon | go_back)); go_cut [10] from 52 to 161 (fun s10 wx => s10 = .pointer (some ⟨wr.heap.size, 0, none⟩) ∧ Blk wx wr.heap.size 57 #[.int .i64 a.t, .slice a.A a.m a.c, .int .i64 (redJ a.q)] ∧ Below wr.heap.size wr wx)
      | (iterate 42 (first | go_values | go_skip | go_guarded | go_step | go_upon | go_back)); go_cut [10] from 52 to 161 (fun s10 wx => s10 = .pointer (some ⟨wr.heap.size, 0, none⟩) ∧ Blk wx wr.heap.size 57 #[.int .i64 a.t, .slice a.A a.m a.c, .int .i64 (redJ a.q)] ∧ Below wr.heap.size wr wx)
      | (iterate 43 (first | go_values | go_skip | go_guarded | go_step | go_upon | go_back)); go_cut [10] from 52 to 161 (fun s10 wx => s10 = .pointer (some ⟨wr.heap.size, 0, none⟩) ∧ Blk wx wr.heap.size 57 #[.int .i64 a.t, .slice a.A a.m a.c, .int .i64 (redJ a.q)] ∧ Below wr.heap.size wr wx)
      | (iterate 44 (first | go_values | go_skip | go_guarded | go_step | go_upon | go_back)); go_cut [10] from 52 to 161 (fun s10 wx => s10 = .pointer (some ⟨wr.heap.size, 0, none⟩) ∧ Blk wx wr.heap.size 57 #[.int .i64 a.t, .slice a.A a.m a.c, .int .i64 (redJ a.q)] ∧ Below wr.heap.size wr wx)
      | (iterate 45 (first | go_values | go_skip | go_guarded | go_step | go_upon | go_back)); go_cut [10] from 52 to 161 (fun s10 wx => s10 = .pointer (some ⟨wr.heap.size, 0, none⟩) ∧ Blk wx wr.heap.size 57 #[.int .i64 a.t, .slice a.A a.m a.c, .int .i64 (redJ a.q)] ∧ Below wr.heap.size wr wx)
      case first =>
        have kc := HKC.out
        have hbv := HBV.out
        clear e0 e1 e2 e3 e4 hblw HKC HBV
        obtain ⟨W5, hW5⟩ : ∃ W5, wr.alloc (.cells #[.int .i64 a.t, .slice a.A a.m a.c, .int .i64 a.q] 57) = W5 := ⟨_, rfl⟩
        obtain ⟨cb, hcb⟩ : ∃ cb, wr.heap.size = cb := ⟨_, rfl⟩
        rw [hW5] at kc hbv ⊢
        try rw [hcb]
        rw [hcb] at kc hbv
        have HWR := hide hcb
        have g2 : W5.cell? ⟨cb, 2, none⟩ = some (.int .i64 a.q) := by simpa using kc.cell 2
        have f2 := kc.frozen 2
        have HKC := hide kc
        have HBV := hide hbv
        clear hW5 hcb kc hbv
        have hcs : (100 < a.q ∧ redJ a.q = a.q % 100) ∨ (¬ 100 < a.q ∧ a.q < -100 ∧ redJ a.q = a.q.tmod 100) ∨ (¬ 100 < a.q ∧ ¬ a.q < -100 ∧ redJ a.q = a.q) := by
          unfold redJ
          by_cases h1 : 100 < a.q
          · exact .inl ⟨h1, by rw [if_pos (.inl h1), Int.tmod_eq_emod_of_nonneg (by omega)]⟩
          · by_cases h2 : a.q < -100
            · exact .inr (.inl ⟨h1, h2, if_pos (.inr h2)⟩)
            · exact .inr (.inr ⟨h1, h2, if_neg (by omega)⟩)
        rcases hcs with ⟨hq1, hr⟩ | ⟨hq1, hq2, hr⟩ | ⟨hq1, hq2, hr⟩
        · have HR := hide hr
          have hT := And.intro (Int.emod_nonneg a.q (show (100 : Int) ≠ 0 by omega)) (Int.emod_lt_of_pos a.q (show (0 : Int) < 100 by omega))
          have hw9 : IntKind.i64.wrap (a.q % 100) = a.q % 100 := by rw [IntKind.wrap_i64]; omega
          clear hr
          go_wp2_with fail
          go_meet
          case rel =>
            have h9 := HWR.out
            rw [h9, HR.out]
            exact ⟨rfl, HKC.out.set_ 2 (.int .i64 (a.q % 100)), HBV.out.setCell (Nat.le_refl _) _⟩
        · have HR := hide hr
          have hT := tmod_100 a.q
          have hw9 : IntKind.i64.wrap (a.q.tmod 100) = a.q.tmod 100 := by rw [IntKind.wrap_i64]; omega
          clear hr
          go_wp2_with fail
          go_meet
          case rel =>
            have h9 := HWR.out
            rw [h9, HR.out]
            exact ⟨rfl, HKC.out.set_ 2 (.int .i64 (a.q.tmod 100)), HBV.out.setCell (Nat.le_refl _) _⟩
        · have HR := hide hr
          clear hr
          go_wp2_with fail
          go_meet
          case rel =>
            have h9 := HWR.out
            rw [h9, HR.out]
            exact ⟨rfl, HKC.out, HBV.out⟩
      case rest =>
      obtain ⟨rfl, hkc, hbv⟩ := hcut
      obtain ⟨cb, hcb⟩ : ∃ cb, wr.heap.size = cb := ⟨_, rfl⟩
      rw [hcb] at hkc
      try rw [hcb]
      have HWR := hide hcb
      clear hcb e0 e1 e2 e3 e4 hblw
      obtain ⟨W6, hW6⟩ : ∃ V : World, V = wc := ⟨_, rfl⟩
      subst hW6
      clear HKC HBV
      obtain ⟨m, hm⟩ : ∃ m, redJ a.q = m := ⟨_, rfl⟩
      have hmi := redJ_in a.q
      rw [hm] at hkc hmi
      clear hm
      have g0 : W6.cell? ⟨cb, 0, none⟩ = some (.int .i64 a.t) := by simpa using hkc.cell 0
      have g1 : W6.cell? ⟨cb, 1, none⟩ = some (.slice a.A a.m a.c) := by simpa using hkc.cell 1
      have g2 : W6.cell? ⟨cb, 2, none⟩ = some (.int .i64 m) := by simpa using hkc.cell 2
      have hK6 := HK.out.below hbv
      have hbase : W2.heap.size ≤ W6.heap.size := Nat.le_trans HL.out.size hbv.size
      have hL6 : Below W2.heap.size W2 W6 := bstep HL.out hbv
      have k0 := (hL6.cell (p := ⟨ba, oa + i1 * 5, none⟩) hba).trans HZ0.out
      have k1 := (hL6.cell (p := ⟨ba, oa + i1 * 5 + 1, none⟩) hba).trans HZ1.out
      have hblw : ba < W6.heap.size := Nat.lt_of_lt_of_le hba hL6.size
      have HROW6 := hide (HROW.out.below hbv)
      have HLT := hide (show i1 < 40 from by omega)
      have HLB := hide (show i1 < n3 ∧ 0 ≤ (i1 : Int) from by omega)
      have HKC := hide hkc
      clear HROW HK HL hbv hkc HWR
      go_upto_region 14 with fail
      first
      | (iterate 11 (first | go_values | go_skip | go_guarded | go_step | go_upon | go_back)); go_cut [6, 8, 11, 12] from 52 to 161 (fun s6 s8 s11 s12 wx => ∃ A n c A' n' c' E, s6 = .int .i64 E ∧ s8 = .int .i64 E ∧ s11 = .slice A n c ∧ s12 = .slice A' n' c' ∧ RetJ W6 wx W2.heap.size i1 px py A n A' n')
      | (iterate 12 (first | go_values | go_skip | go_guarded | go_step | go_upon | go_back)); go_cut [6, 8, 11, 12] from 52 to 161 (fun s6 s8 s11 s12 wx => ∃ A n c A' n' c' E, s6 = .int .i64 E ∧ s8 = .int .i64 E ∧ s11 = .slice A n c ∧ s12 = .slice A' n' c' ∧ RetJ W6 wx W2.heap.size i1 px py A n A' n')
      | (iterate 13 (first | go_values | go_skip | go_guarded | go_step | go_upon | go_back)); go_cut [6, 8, 11, 12] from 52 to 161 (fun s6 s8 s11 s12 wx => ∃ A n c A' n' c' E, s6 = .int .i64 E ∧ s8 = .int .i64 E ∧ s11 = .slice A n c ∧ s12 = .slice A' n' c' ∧ RetJ W6 wx W2.heap.size i1 px py A n A' n')
      | (iterate 14 (first | go_values | go_skip | go_guarded | go_step | go_upon | go_back)); go_cut [6, 8, 11, 12] from 52 to 161 (fun s6 s8 s11 s12 wx => ∃ A n c A' n' c' E, s6 = .int .i64 E ∧ s8 = .int .i64 E ∧ s11 = .slice A n c ∧ s12 = .slice A' n' c' ∧ RetJ W6 wx W2.heap.size i1 px py A n A' n')
      | (iterate 15 (first | go_values | go_skip | go_guarded | go_step | go_upon | go_back)); go_cut [6, 8, 11, 12] from 52 to 161 (fun s6 s8 s11 s12 wx => ∃ A n c A' n' c' E, s6 = .int .i64 E ∧ s8 = .int .i64 E ∧ s11 = .slice A n c ∧ s12 = .slice A' n' c' ∧ RetJ W6 wx W2.heap.size i1 px py A n A' n')
      | (iterate 16 (first | go_values | go_skip | go_guarded | go_step | go_upon | go_back)); go_cut [6, 8, 11, 12] from 52 to 161 (fun s6 s8 s11 s12 wx => ∃ A n c A' n' c' E, s6 = .int .i64 E ∧ s8 = .int .i64 E ∧ s11 = .slice A n c ∧ s12 = .slice A' n' c' ∧ RetJ W6 wx W2.heap.size i1 px py A n A' n')
      | (iterate 17 (first | go_values | go_skip | go_guarded | go_step | go_upon | go_back)); go_cut [6, 8, 11, 12] from 52 to 161 (fun s6 s8 s11 s12 wx => ∃ A n c A' n' c' E, s6 = .int .i64 E ∧ s8 = .int .i64 E ∧ s11 = .slice A n c ∧ s12 = .slice A' n' c' ∧ RetJ W6 wx W2.heap.size i1 px py A n A' n')
      | (iterate 18 (first | go_values | go_skip | go_guarded | go_step | go_upon | go_back)); go_cut [6, 8, 11, 12] from 52 to 161 (fun s6 s8 s11 s12 wx => ∃ A n c A' n' c' E, s6 = .int .i64 E ∧ s8 = .int .i64 E ∧ s11 = .slice A n c ∧ s12 = .slice A' n' c' ∧ RetJ W6 wx W2.heap.size i1 px py A n A' n')
      | (iterate 19 (first | go_values | go_skip | go_guarded | go_step | go_upon | go_back)); go_cut [6, 8, 11, 12] from 52 to 161 (fun s6 s8 s11 s12 wx => ∃ A n c A' n' c' E, s6 = .int .i64 E ∧ s8 = .int .i64 E ∧ s11 = .slice A n c ∧ s12 = .slice A' n' c' ∧ RetJ W6 wx W2.heap.size i1 px py A n A' n')
      | (iterate 20 (first | go_values | go_skip | go_guarded | go_step | go_upon | go_back)); go_cut [6, 8, 11, 12] from 52 to 161 (fun s6 s8 s11 s12 wx => ∃ A n c A' n' c' E, s6 = .int .i64 E ∧ s8 = .int .i64 E ∧ s11 = .slice A n c ∧ s12 = .slice A' n' c' ∧ RetJ W6 wx W2.heap.size i1 px py A n A' n')
      | (iterate 21 (first | go_values | go_skip | go_guarded | go_step | go_upon | go_back)); go_cut [6, 8, 11, 12] from 52 to 161 (fun s6 s8 s11 s12 wx => ∃ A n c A' n' c' E, s6 = .int .i64 E ∧ s8 = .int .i64 E ∧ s11 = .slice A n c ∧ s12 = .slice A' n' c' ∧ RetJ W6 wx W2.heap.size i1 px py A n A' n')
      | (iterate 22 (first | go_values | go_skip | go_guarded | go_step | go_upon | go_back)); go_cut [6, 8, 11, 12] from 52 to 161 (fun s6 s8 s11 s12 wx => ∃ A n c A' n' c' E, s6 = .int .i64 E ∧ s8 = .int .i64 E ∧ s11 = .slice A n c ∧ s12 = .slice A' n' c' ∧ RetJ W6 wx W2.heap.size i1 px py A n A' n')
      | (iterate 23 (first | go_values | go_skip | go_guarded | go_step | go_upon | go_back)); go_cut [6, 8, 11, 12] from 52 to 161 (fun s6 s8 s11 s12 wx => ∃ A n c A' n' c' E, s6 = .int .i64 E ∧ s8 = .int .i64 E ∧ s11 = .slice A n c ∧ s12 = .slice A' n' c' ∧ RetJ W6 wx W2.heap.size i1 px py A n A' n')
      | (iterate 24 (first | go_values | go_skip | go_guarded | go_step | go_upon | go_back)); go_cut [6, 8, 11, 12] from 52 to 161 (fun s6 s8 s11 s12 wx => ∃ A n c A' n' c' E, s6 = .int .i64 E ∧ s8 = .int .i64 E ∧ s11 = .slice A n c ∧ s12 = .slice A' n' c' ∧ RetJ W6 wx W2.heap.size i1 px py A n A' n')
      | (iterate 25 (first | go_values | go_skip | go_guarded | go_step | go_upon | go_back)); go_cut [6, 8, 11, 12] from 52 to 161 (fun s6 s8 s11 s12 wx => ∃ A n c A' n' c' E, s6 = .int .i64 E ∧ s8 = .int .i64 E ∧ s11 = .slice A n c ∧ s12 = .slice A' n' c' ∧ RetJ W6 wx W2.heap.size i1 px py A n A' n')
      | (iterate 26 (first | go_values | go_skip | go_guarded | go_step | go_upon | go_back)); go_cut [6, 8, 11, 12] from 52 to 161 (fun s6 s8 s11 s12 wx => ∃ A n c A' n' c' E, s6 = .int .i64 E ∧ s8 = .int .i64 E ∧ s11 = .slice A n c ∧ s12 = .slice A' n' c' ∧ RetJ W6 wx W2.heap.size i1 px py A n A' n')
      | (iterate 27 (first | go_values | go_skip | go_guarded | go_step | go_upon | go_back)); go_cut [6, 8, 11, 12] from 52 to 161 (fun s6 s8 s11 s12 wx => ∃ A n c A' n' c' E, s6 = .int .i64 E ∧ s8 = .int .i64 E ∧ s11 = .slice A n c ∧ s12 = .slice A' n' c' ∧ RetJ W6 wx W2.heap.size i1 px py A n A' n')
      | (iterate 28 (first | go_values | go_skip | go_guarded | go_step | go_upon | go_back)); go_cut [6, 8, 11, 12] from 52 to 161 (fun s6 s8 s11 s12 wx => ∃ A n c A' n' c' E, s6 = .int .i64 E ∧ s8 = .int .i64 E ∧ s11 = .slice A n c ∧ s12 = .slice A' n' c' ∧ RetJ W6 wx W2.heap.size i1 px py A n A' n')
      | (iterate 29 (first | go_values | go_skip | go_guarded | go_step | go_upon | go_back)); go_cut [6, 8, 11, 12] from 52 to 161 (fun s6 s8 s11 s12 wx => ∃ A n c A' n' c' E, s6 = .int .i64 E ∧ s8 = .int .i64 E ∧ s11 = .slice A n c ∧ s12 = .slice A' n' c' ∧ RetJ W6 wx W2.heap.size i1 px py A n A' n')
      | (iterate 30 (first | go_values | go_skip | go_guarded | go_step | go_upon | go_back)); go_cut [6, 8, 11, 12] from 52 to 161 (fun s6 s8 s11 s12 wx => ∃ A n c A' n' c' E, s6 = .int .i64 E ∧ s8 = .int .i64 E ∧ s11 = .slice A n c ∧ s12 = .slice A' n' c' ∧ RetJ W6 wx W2.heap.size i1 px py A n A' n')
      | (iterate 31 (first | go_values | go_skip | go_guarded | go_step | go_upon | go_back)); go_cut [6, 8, 11, 12] from 52 to 161 (fun s6 s8 s11 s12 wx => ∃ A n c A' n' c' E, s6 = .int .i64 E ∧ s8 = .int .i64 E ∧ s11 = .slice A n c ∧ s12 = .slice A' n' c' ∧ RetJ W6 wx W2.heap.size i1 px py A n A' n')
      | (iterate 32 (first | go_values | go_skip | go_guarded | go_step | go_upon | go_back)); go_cut [6, 8, 11, 12] from 52 to 161 (fun s6 s8 s11 s12 wx => ∃ A n c A' n' c' E, s6 = .int .i64 E ∧ s8 = .int .i64 E ∧ s11 = .slice A n c ∧ s12 = .slice A' n' c' ∧ RetJ W6 wx W2.heap.size i1 px py A n A' n')
      | (iterate 33 (first | go_values | go_skip | go_guarded | go_step | go_upon | go_back)); go_cut [6, 8, 11, 12] from 52 to 161 (fun s6 s8 s11 s12 wx => ∃ A n c A' n' c' E, s6 = .int .i64 E ∧ s8 = .int .i64 E ∧ s11 = .slice A n c ∧ s12 = .slice A' n' c' ∧ RetJ W6 wx W2.heap.size i1 px py A n A' n')
      | (iterate 34 (first | go_values | go_skip | go_guarded | go_step | go_upon | go_back)); go_cut [6, 8, 11, 12] from 52 to 161 (fun s6 s8 s11 s12 wx => ∃ A n c A' n' c' E, s6 = .int .i64 E ∧ s8 = .int .i64 E ∧ s11 = .slice A n c ∧ s12 = .slice A' n' c' ∧ RetJ W6 wx W2.heap.size i1 px py A n A' n')
      | (iterate 35 (first | go_values | go_skip | go_guarded | go_step | go_upon | go_back)); go_cut [6, 8, 11, 12] from 52 to 161 (fun s6 s8 s11 s12 wx => ∃ A n c A' n' c' E, s6 = .int .i64 E ∧ s8 = .int .i64 E ∧ s11 = .slice A n c ∧ s12 = .slice A' n' c' ∧ RetJ W6 wx W2.heap.size i1 px py A n A' n')
      | (iterate 36 (first | go_values | go_skip | go_guarded | go_step | go_upon | go_back)); go_cut [6, 8, 11, 12] from 52 to 161 (fun s6 s8 s11 s12 wx => ∃ A n c A' n' c' E, s6 = .int .i64 E ∧ s8 = .int .i64 E ∧ s11 = .slice A n c ∧ s12 = .slice A' n' c' ∧ RetJ W6 wx W2.heap.size i1 px py A n A' n')
      | (iterate 37 (first | go_values | go_skip | go_guarded | go_step | go_upon | go_back)); go_cut [6, 8, 11, 12] from 52 to 161 (fun s6 s8 s11 s12 wx => ∃ A n c A' n' c' E, s6 = .int .i64 E ∧ s8 = .int .i64 E ∧ s11 = .slice A n c ∧ s12 = .slice A' n' c' ∧ RetJ W6 wx W2.heap.size i1 px py A n A' n')
      | (iterate 38 (first | go_values | go_skip | go_guarded | go_step | go_upon | go_back)); go_cut [6, 8, 11, 12] from 52 to 161 (fun s6 s8 s11 s12 wx => ∃ A n c A' n' c' E, s6 = .int .i64 E ∧ s8 = .int .i64 E ∧ s11 = .slice A n c ∧ s12 = .slice A' n' c' ∧ RetJ W6 wx W2.heap.size i1 px py A n A' n')
      | (iterate 39 (first | go_values | go_skip | go_guarded | go_step | go_upon | go_back)); go_cut [6, 8, 11, 12] from 52 to 161 (fun s6 s8 s11 s12 wx => ∃ A n c A' n' c' E, s6 = .int .i64 E ∧ s8 = .int .i64 E ∧ s11 = .slice A n c ∧ s12 = .slice A' n' c' ∧ RetJ W6 wx W2.heap.size i1 px py A n A' n')
      | (iterate 40 (first | go_values | go_skip | go_guarded | go_step | go_upon | go_back)); go_cut [6, 8, 11, 12] from 52 to 161 (fun s6 s8 s11 s12 wx => ∃ A n c A' n' c' E, s6 = .int .i64 E ∧ s8 = .int .i64 E ∧ s11 = .slice A n c ∧ s12 = .slice A' n' c' ∧ RetJ W6 wx W2.heap.size i1 px py A n A' n')
      | (iterate 41 (first | go_values | go_skip | go_guarded | go_step | go_upon | go_back)); go_cut [6, 8, 11, 12] from 52 to 161 (fun s6 s8 s11 s12 wx => ∃ A n c A' n' c' E, s6 = .int .i64 E ∧ s8 = .int .i64 E ∧ s11 = .slice A n c ∧ s12 = .slice A' n' c' ∧ RetJ W6 wx W2.heap.size i1 px py A n A' n')
      | (iterate 42 (first | go_values | go_skip | go_guarded | go_step | go_upon | go_back)); go_cut [6, 8, 11, 12] from 52 to 161 (fun s6 s8 s11 s12 wx => ∃ A n c A' n' c' E, s6 = .int .i64 E ∧ s8 = .int .i64 E ∧ s11 = .slice A n c ∧ s12 = .slice A' n' c' ∧ RetJ W6 wx W2.heap.size i1 px py A n A' n')
      | (iterate 43 (first | go_values | go_skip | go_guarded | go_step | go_upon | go_back)); go_cut [6, 8, 11, 12] from 52 to 161 (fun s6 s8 s11 s12 wx => ∃ A n c A' n' c' E, s6 = .int .i64 E ∧ s8 = .int .i64 E ∧ s11 = .slice A n c ∧ s12 = .slice A' n' c' ∧ RetJ W6 wx W2.heap.size i1 px py A n A' n')
      | (iterate 44 (first | go_values | go_skip | go_guarded | go_step | go_upon | go_back)); go_cut [6, 8, 11, 12] from 52 to 161 (fun s6 s8 s11 s12 wx => ∃ A n c A' n' c' E, s6 = .int .i64 E ∧ s8 = .int .i64 E ∧ s11 = .slice A n c ∧ s12 = .slice A' n' c' ∧ RetJ W6 wx W2.heap.size i1 px py A n A' n')
      | (iterate 45 (first | go_values | go_skip | go_guarded | go_step | go_upon | go_back)); go_cut [6, 8, 11, 12] from 52 to 161 (fun s6 s8 s11 s12 wx => ∃ A n c A' n' c' E, s6 = .int .i64 E ∧ s8 = .int .i64 E ∧ s11 = .slice A n c ∧ s12 = .slice A' n' c' ∧ RetJ W6 wx W2.heap.size i1 px py A n A' n')
      case first =>
        by_cases hk0 : a.k = 0
        case pos =>
          have zk : (a.k == 0) = true := by simpa using hk0
          have HC := hide (left_both a.t a.A a.m a.c a.r m W6 hK6 HLT.out hbase HROW6.out hcap (HTAB.out.below hL6) hmi)
          clear hk0 hK6 hmi hbase hL6 k1
          go_wp2_with fail
          refine HC.out.mono ?_
          rintro e W7 ⟨A, n, c, E2, rfl, hb, hkp, hres⟩
          have HC2 := hide hres
          have kc7 := hkp _ _ HKC.out
          clear HC hres hb hkp g0 g1 g2 k0
          have g0 : W7.cell? ⟨cb, 0, none⟩ = some (.int .i64 a.t) := by simpa using kc7.cell 0
          have g1 : W7.cell? ⟨cb, 1, none⟩ = some (.slice a.A a.m a.c) := by simpa using kc7.cell 1
          have g2 : W7.cell? ⟨cb, 2, none⟩ = some (.int .i64 m) := by simpa using kc7.cell 2
          clear kc7
          go_wp2_with fail
          refine HC2.out.mono ?_
          rintro e W8 ⟨A', n', c', rfl, hres⟩
          have HRS := hide hres
          clear hres HC2 g0 g1 g2
          go_wp2_with fail
          go_meet
          case rel => exact ⟨A, n, c, A', n', c', E2, rfl, rfl, rfl, rfl, HRS.out⟩
        case neg =>
        have zk : (a.k == 0) = false := by simpa using hk0
        by_cases hk1 : a.k = 1
        case pos =>
          have zk1 : (a.k == 1) = true := by simpa using hk1
          have HC := hide (right_both a.t a.A a.m a.c a.r m W6 hK6 HLT.out hbase HROW6.out hcap (HTAB.out.below hL6) hmi)
          clear hk0 hk1 hK6 hmi hbase hL6 k1
          go_wp2_with fail
          refine HC.out.mono ?_
          rintro e W7 ⟨A, n, c, E2, rfl, hb, hkp, hres⟩
          have HC2 := hide hres
          have kc7 := hkp _ _ HKC.out
          clear HC hres hb hkp g0 g1 g2 k0
          have g0 : W7.cell? ⟨cb, 0, none⟩ = some (.int .i64 a.t) := by simpa using kc7.cell 0
          have g1 : W7.cell? ⟨cb, 1, none⟩ = some (.slice a.A a.m a.c) := by simpa using kc7.cell 1
          have g2 : W7.cell? ⟨cb, 2, none⟩ = some (.int .i64 m) := by simpa using kc7.cell 2
          clear kc7
          go_wp2_with fail
          refine HC2.out.mono ?_
          rintro e W8 ⟨A', n', c', rfl, hres⟩
          have HRS := hide hres
          clear hres HC2 g0 g1 g2
          go_wp2_with fail
          go_meet
          case rel => exact ⟨A, n, c, A', n', c', E2, rfl, rfl, rfl, rfl, HRS.out⟩
        case neg =>
          have zk1 : (a.k == 1) = false := by simpa using hk1
          have HC := hide (mark_both a.n W6 hK6 HLT.out hbase)
          have HL6 := hide hL6
          clear hk0 hk1 hK6 hmi hL6 g0 g1 g2
          go_wp2_with fail
          refine HC.out.mono ?_
          rintro e W7 ⟨E2, rfl, hb, hres⟩
          have HC2 := hide hres
          have k2 : W7.cell? ⟨ba, oa + i1 * 5 + 1, none⟩ = some (.int .i64 a.n) := (((HL6.out.trans hb).cell (p := ⟨ba, oa + i1 * 5 + 1, none⟩) hba).trans HZ1.out)
          have hbl7 : ba < W7.heap.size := Nat.lt_of_lt_of_le hba (HL6.out.trans hb).size
          clear HC hres hb k0 k1
          go_wp2_with fail
          refine HC2.out.mono ?_
          rintro e W8 ⟨rfl, hres⟩
          have HRS := hide hres
          clear hres HC2 k2
          go_wp2_with fail
          go_meet
          case rel => exact ⟨none, 0, 0, none, 0, 0, E2, rfl, rfl, rfl, rfl, HRS.out⟩
      case rest =>
      obtain ⟨A, n, c, A', n', c', E2, rfl, rfl, rfl, rfl, hres⟩ := hcut
      obtain ⟨V, hV⟩ : ∃ V : World, V = wc := ⟨_, rfl⟩
      subst hV
      obtain ⟨lst, lst', hc1, hc2, hn4, hn5, hs1, hs2, hrise, hsum, hst, hbV⟩ := hres
      have hLV : Below W2.heap.size W2 V := hL6.trans hbV
      have zE : (E2 != E2) = false := by simp
      have HRI := hide (rising_any A n c lst V hc1 (by omega) hrise)
      have HC1 := hide hc1
      have HC2 := hide hc2
      have HS1 := hide hs1
      have HS2 := hide hs2
      have HSUM := hide hsum
      have HST := hide hst
      have HLV := hide hLV
      clear hc1 hc2 hs1 hs2 hrise hsum hst hLV hbV hmi hL6 g0 g1 g2 k0 k1 hbase hK6 HROW6 HKC hcap hba hblw
      go_wp2_with fail
      refine HRI.out.mono ?_
      rintro e V1 ⟨rfl, hb1⟩
      have HSM := hide (summed_any A n c lst V1 (HC1.out.keepB hb1) (by omega) 20000000 (by omega) (by omega) (by omega) (fun y hy => (HS1.out y hy).1) (fun y hy => (HS1.out y hy).2))
      have HB1 := hide hb1
      clear hb1 HRI
      go_wp2_with fail
      refine HSM.out.mono ?_
      rintro e V2 ⟨D1, x1, l1, rfl, hl1, hch1, hb2⟩
      have hb12 := bstep HB1.out hb2
      have HSM2 := hide (summed_any A' n' c' lst' V2 (HC2.out.keepB hb12) (by omega) 20000000 (by omega) (by omega) (by omega) (fun y hy => (HS2.out y hy).1) (fun y hy => (HS2.out y hy).2))
      have HB12 := hide hb12
      have HCH1 := hide hch1
      have HL1 := hide hl1
      clear hb2 hb12 HSM HB1 hch1 hl1
      go_wp2_with fail
      refine HSM2.out.mono ?_
      rintro e V3 ⟨D2, x2, l2, rfl, hl2, hch2, hb3⟩
      have HSC := hide (same_jn (c := x1) (c' := x2) (HCH1.out.keepB hb3) hch2 rfl rfl (HL1.out.trans (HSUM.out.trans hl2.symm)))
      have HB13 := hide (bstep HB12.out hb3)
      clear hl2 hch2 hb3 HSM2 HB12 HCH1 HL1
      go_wp2_with fail
      refine HSC.out.mono ?_
      rintro e V4 ⟨rfl, hb4⟩
      have hb14 := bstep HB13.out hb4
      obtain ⟨hl, hr, hh1, hh2⟩ := held_both V4 (HST.out.below hb14) (by omega)
      have HH1 := hide hh1
      have HH2 := hide hh2
      have HB14 := hide hb14
      clear hb4 hb14 hh1 hh2 HSC HB13
      go_wp2_with fail
      refine HH1.out.mono ?_
      rintro e V5 ⟨rfl, hb5⟩
      have HH3 := hide (HH2.out V5 hb5)
      have HB15 := hide (bstep HB14.out hb5)
      clear hb5 HH1 HH2
      go_wp2_with fail
      refine HH3.out.mono ?_
      rintro e V6 ⟨rfl, hb6⟩
      have hb16 := bstep HB15.out hb6
      have HSTF := hide (HST.out.below hb16)
      have HLF := hide (bstep HLV.out hb16)
      have zl : (hl != hl) = false := by simp
      have zr : (hr != hr) = false := by simp
      clear hb6 hb16 HH3 HB14 HB15
      go_wp2
      go_roundw
      case rel => exact ⟨i1 + 1, by omega, by go_num, HSTF.out, HLF.out⟩
      case measure => simp [intOf]; omega
    · obtain rfl : n3 = i1 := by omega
      have hBf := bstep HB2.out hL
      have htab := HTAB.out.below hL
      clear hK hL
      go_wp2_with fail
      refine (awake9_any wr htab).mono ?_
      rintro e W9 ⟨rfl, hb⟩
      have HB := hide (bstep hBf hb)
      clear hb hBf htab
      go_wp2
      go_ret
      exact ⟨rfl, HB.out⟩
end Go.Proofs.YtoapjidpfghnlaaGreatDoor
