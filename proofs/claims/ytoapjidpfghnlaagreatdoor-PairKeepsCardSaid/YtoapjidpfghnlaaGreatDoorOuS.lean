/-
  The walks of the reference's small functions of the version join: wide, Nulls, inside at any width, newest. No condition.
  The walks of the small functions of the outer join on both sides: widths, and whether they are too much together; the reference's setup. No condition.
  The walk of the reference's setup of an outer join. No condition.
-/
import Derived.Test.YtoapjidpfghnlaaGreatDoorOuM
import Derived.Test.YtoapjidpfghnlaaGreatDoorPrR5
import Derived.Test.YtoapjidpfghnlaaGreatDoorRngH
import Derived.Test.YtoapjidpfghnlaaGreatDoorBgT5
namespace Go.Proofs.YtoapjidpfghnlaaGreatDoor

section
open Go.RowKit
attribute [local go_sem] Oper.semAt_some wide_fn wide_depth
set_option linter.unusedVariables false
set_option linter.unusedSimpArgs false

theorem wide_any (A : Option Addr) (n c : Nat) (l : List Ev) (m : Int) (w : World) (hl : EvR w w.heap.size A n l) :
    Calls Tryz.prog 88 #[.slice A n c, .int .i64 m] w (RetV w (.bool (wideB (dE l) m))) := by
  have HL := hide hl.len
  have hle := hl.le
  go_enter Tryz.func88, Tryz.ntmps88
  go_wp2_with fail
  go_loopw [5] (fun i wr => ∃ k : Nat, k ≤ n ∧ i = .int .i64 k ∧ wideB (dE (l.take k)) m = true ∧ w = wr) (fun i _ => n - (intOf i).toNat)
  case atStart => exact ⟨0, Nat.zero_le _, rfl, rfl, rfl⟩
  case round =>
    obtain ⟨k, hk, rfl, hany, hw⟩ := hrel
    subst hw
    have HA := hide hany
    clear hany
    by_cases hlt : k < n
    · obtain ⟨b, off, x, rfl, hb, hxk, e0, e1, hrow⟩ := hl.at_ hlt
      have HXL := hide hrow.len
      have HE := hide hxk
      clear hxk hrow
      have q1 : (0 : Int) ≤ (k : Int) := by omega
      have q2 : (k : Int) < (n : Int) := by omega
      by_cases hm : (x.n : Int) = m
      · have z1 : ((x.n : Int) != m) = false := by simpa using hm
        have z2 : ((x.n : Int) == m) = true := by simpa using hm
        have HX := hide (show wideB (dE (l.take (k + 1))) m = true by
          rw [take_snoc' HE.out, dE_snoc]
          unfold wideB at *
          rw [List.all_append, HA.out]
          simp [HXL.out, hm])
        clear hm e0
        go_wp2
        go_roundw
        case rel => exact ⟨k + 1, by omega, by go_num, HX.out, trivial⟩
        case measure => simp [intOf]; omega
      · have z1 : ((x.n : Int) != m) = true := by simpa using hm
        have z2 : ((x.n : Int) == m) = false := by simpa using hm
        have HX := hide (show false = wideB (dE l) m by
          symm
          unfold wideB
          rw [List.all_eq_false]
          exact ⟨(x.t, x.r), List.mem_of_getElem? (dE_at HE.out), by simp [HXL.out, hm]⟩)
        clear hm e0
        go_wp2
        go_ret
        exact ⟨ret_bool HX.out, Below.refl _ _⟩
    · obtain rfl : k = n := by omega
      have HX := hide (show true = wideB (dE l) m by
        have := HA.out
        rw [take_all HL.out] at this
        exact this.symm)
      go_wp2
      go_ret
      exact ⟨ret_bool HX.out, Below.refl _ _⟩
set_option maxRecDepth 100000 in
set_option maxHeartbeats 4000000 in
theorem Nulls_any (n : Nat) (w : World) (hn : n ≤ 1000) :
    Calls Tryz.prog 138 #[.int .i64 (n : Int)] w (RetRowO w n (nullR n)) := by
  obtain ⟨i0, hi, hz0, hz1, hz2⟩ := info_parts3 infoVal
  go_enter Tryz.func138, Tryz.ntmps138
  go_wp2_with fail
  go_loopw [3, 4] (fun v i wr => ∃ k : Nat, k ≤ n ∧ i = .int .i64 k ∧ wr.ownsRow w.heap.size 102 3 v k ((nullR k).flatMap encV) ∧ Below w.heap.size w wr) (fun _ i _ => n - (intOf i).toNat)
  case atStart => exact ⟨0, Nat.zero_le _, rfl, World.ownsRow_nil _ _ _ _, Below.refl _ _⟩
  case round =>
    obtain ⟨k, hk, rfl, hown, hB⟩ := hrel
    by_cases hlt : k < n
    · have q1 : (k : Int) < (n : Int) := by omega
      have hsz := hB.size
      have kv := Blk.new wr 102 #[.int .i64 0, .int .i64 0, .string ⟨#[]⟩]
      have hBv := below_val (w := wr) #[.int .i64 0, .int .i64 0, .string ⟨#[]⟩] 102
      have hrd : Reads (wr.alloc (.cells #[.int .i64 0, .int .i64 0, .string ⟨#[]⟩] 102)) (wr.heap.size + 1) 3 (some ⟨wr.heap.size, 0, none⟩) 1 [.int .i64 0, .int .i64 0, .string ⟨#[]⟩] :=
        ⟨rfl, fun _ => ⟨wr.heap.size, 0, rfl, by omega, fun j u hu => by rw [Nat.zero_add, kv.cell j]; simpa using hu⟩⟩
      have hown1 := hown.alloc (.cells #[.int .i64 0, .int .i64 0, .string ⟨#[]⟩] 102)
      have HNX := hide (show (nullR (k + 1)).flatMap encV = (nullR k).flatMap encV ++ [.int .i64 0, .int .i64 0, .string ⟨#[]⟩] by
        unfold nullR
        rw [List.replicate_succ', List.flatMap_append]
        rfl)
      have HB1 := hide (hB.trans (hBv.mono hsz))
      clear kv hBv hown
      go_wp2_with (at_builtin; refine wpList_append_any _ rfl _ _ 34 rfl w.heap.size 102 i0 _ 3 32 Tryz.underlying34 hi hz0 hz1 hz2 rfl (by decide) _ k _ rfl hown1 (wr.heap.size + 1) (some ⟨wr.heap.size, 0, none⟩) 1 1 [.int .i64 0, .int .i64 0, .string ⟨#[]⟩] rfl hrd (by simp [Value.oneCell']) (by unfold maxLen; omega) (by omega) (by simp; omega) ?_; intro v3 w3 hown3 hgrow _; have hB3 : Below w.heap.size w w3 := below_append HB1.out hown1 (by simp; omega) hgrow; clear hgrow)
      clear hB hrd hown1
      go_wp2
      go_roundw
      case rel => exact ⟨k + 1, by omega, by go_num, by rw [HNX.out]; exact hown3, hB3⟩
      case measure => simp [intOf]; omega
    · obtain rfl : k = n := by omega
      obtain ⟨A5, c5, rfl, _⟩ := own_form hown
      go_wp2
      go_ret
      exact ⟨A5, c5, rfl, hown, hB⟩
/-- What inside answers, whatever it is. -/
def RetAnyB (w : World) (e : Ending) (w' : World) : Prop := ∃ b : Bool, e = .returned (.bool b) ∧ Below w.heap.size w w'
end

section
open Go.RowKit
attribute [local go_sem] Oper.semAt_some wide_fn wide_depth
set_option linter.unusedVariables false
set_option linter.unusedSimpArgs false

theorem con_itemsO (A : Option Addr) (n c : Nat) (l : List It) (w : World) (hr : Reads w w.heap.size 2 A n (l.flatMap encIt)) (hn : n ≤ 100000) (pf : Nat) (caps : Array Value) (p : It → Bool) (eg : ∀ args w, (callFunc pf args).run Tryz.prog w = .ok (.enter pf args) w)
    (hp : ∀ x ∈ l, ∀ W, Below w.heap.size w W → Calls Tryz.prog pf (#[.agg #[.slice x.A x.n x.c, .int .i64 x.m]] ++ caps) W (RetV W (.bool (p x)))) :
    Calls Tryz.prog 140 #[.slice A n c, .func (Fn.func pf) #[] caps] w (RetV w (.bool (l.any p))) := by
  have HI := hide (idxI_any A n c l w hr hn pf caps p eg hp)
  clear hp hr
  go_enter Tryz.func140, Tryz.ntmps140
  go_wp2_with fail
  refine HI.out.mono ?_
  rintro e W1 ⟨⟨i, rfl, hfi⟩, hB1⟩
  have HX := hide (show decide (0 ≤ i) = l.any p by
    rcases hfi with ⟨h, rfl⟩ | ⟨k, rfl, _, x, hx, h⟩
    · have : l.any p = false := List.any_eq_false.2 fun x hx => by rw [h x hx]; simp
      rw [this]; rfl
    · have : l.any p = true := List.any_eq_true.2 ⟨x, List.mem_of_getElem? hx, h⟩
      rw [this]; simp)
  clear hfi
  go_wp2_with fail
  go_ret
  exact ⟨ret_bool HX.out, hB1⟩
theorem wrongWidth1_any (x : It) (b : Nat) (m : Int) (w : World) (h : w.cell? ⟨b, 0, none⟩ = some (.int .i64 m)) (hl : x.r.length = x.n) :
    Calls Tryz.prog 141 #[.agg #[.slice x.A x.n x.c, .int .i64 x.m], .pointer (some ⟨b, 0, none⟩)] w (RetV w (.bool (!decide ((x.r.length : Int) = m)))) := by
  have hB := below_val (w := w) #[.slice x.A x.n x.c, .int .i64 x.m] 119
  have k1 := Blk.new w 119 #[.slice x.A x.n x.c, .int .i64 x.m]
  have hb := (hB.cell (p := ⟨b, 0, none⟩) (World.block_lt_of_cell? _ _ h)).trans h
  rw [hl]
  clear h hl
  by_cases hm : (x.n : Int) = m
  · have z1 : ((x.n : Int) != m) = false := by simpa using hm
    have z2 : ((x.n : Int) == m) = true := by simpa using hm
    have HX := hide (show false = !decide ((x.n : Int) = m) by simp [hm])
    clear hm
    go_enter Tryz.func141, Tryz.ntmps141
    go_upto_region 1 with fail
    obtain ⟨W, hW⟩ : ∃ W, w.alloc (.cells #[.slice x.A x.n x.c, .int .i64 x.m] 119) = W := ⟨_, rfl⟩
    rw [hW] at hB k1 hb ⊢
    clear hW
    have c1 : W.cell? ⟨w.heap.size, 0, none⟩ = some (.slice x.A x.n x.c) := by simpa using k1.cell 0
    clear k1
    go_wp2
    go_ret
    exact ⟨ret_bool HX.out, hB⟩
  · have z1 : ((x.n : Int) != m) = true := by simpa using hm
    have z2 : ((x.n : Int) == m) = false := by simpa using hm
    have HX := hide (show true = !decide ((x.n : Int) = m) by simp [hm])
    clear hm
    go_enter Tryz.func141, Tryz.ntmps141
    go_upto_region 1 with fail
    obtain ⟨W, hW⟩ : ∃ W, w.alloc (.cells #[.slice x.A x.n x.c, .int .i64 x.m] 119) = W := ⟨_, rfl⟩
    rw [hW] at hB k1 hb ⊢
    clear hW
    have c1 : W.cell? ⟨w.heap.size, 0, none⟩ = some (.slice x.A x.n x.c) := by simpa using k1.cell 0
    clear k1
    go_wp2
    go_ret
    exact ⟨ret_bool HX.out, hB⟩
theorem wrongWidth_any (A : Option Addr) (n c : Nat) (l : List It) (m : Int) (w : World) (hx : BagR w w.heap.size A n l) (hn : n ≤ 100000) :
    Calls Tryz.prog 91 #[.slice A n c, .int .i64 m] w (RetV w (.bool (!wideG (dat l) m))) := by
  have hB := below_val (w := w) #[.int .i64 m] 3
  have k1 := Blk.new w 3 #[.int .i64 m]
  have hx1 := (hx.below hB).mono hB.size
  have hw : (l.any fun i => !decide ((i.r.length : Int) = m)) = !wideG (dat l) m := by
    unfold wideG dat
    rw [List.all_map, ← any_all_not, Bool.not_not]
    rfl
  obtain ⟨v, hv⟩ : ∃ v, (!wideG (dat l) m) = v := ⟨_, rfl⟩
  rw [hv]
  rw [hv] at hw
  clear hx hv
  go_enter Tryz.func91, Tryz.ntmps91
  go_upto_region 1 with fail
  obtain ⟨W, hW⟩ : ∃ W, w.alloc (.cells #[.int .i64 m] 3) = W := ⟨_, rfl⟩
  rw [hW] at hB k1 hx1 ⊢
  clear hW
  have HC := hide (hw ▸ con_itemsO A n c l W hx1.rd hn 141 #[.pointer (some ⟨w.heap.size, 0, none⟩)] (fun i => !decide ((i.r.length : Int) = m)) (enters_of Tryz.func141 (by kernel_rfl) rfl)
    (fun x hx X hX => wrongWidth1_any x w.heap.size m X (by simpa using (k1.below hX k1.lt).cell 0) (hx1.rows x hx).len))
  clear hw hx1 k1
  go_wp2_with fail
  refine HC.out.mono ?_
  rintro e W1 ⟨rfl, hB1⟩
  have HE := hide (bstep hB hB1)
  clear hB hB1
  go_wp2
  go_ret
  exact ⟨rfl, HE.out⟩
theorem Width_any (A : Option Addr) (n c : Nat) (l : List It) (m : Int) (w : World) (hl : BagR w w.heap.size A n l) :
    Calls Tryz.prog 147 #[.slice A n c, .int .i64 m] w (RetV w (.bool (wideG (dat l) m))) := by
  have HL := hide hl.len
  have hle := hl.le
  go_enter Tryz.func147, Tryz.ntmps147
  go_wp2_with fail
  go_loopw [5] (fun i wr => ∃ k : Nat, k ≤ n ∧ i = .int .i64 k ∧ wideG (dat (l.take k)) m = true ∧ w = wr) (fun i _ => n - (intOf i).toNat)
  case atStart => exact ⟨0, Nat.zero_le _, rfl, rfl, rfl⟩
  case round =>
    obtain ⟨k, hk, rfl, hany, hw⟩ := hrel
    subst hw
    have HA := hide hany
    clear hany
    by_cases hlt : k < n
    · obtain ⟨b, off, x, rfl, hb, hxk, e0, e1, hrow⟩ := hl.at_ hlt
      have HXL := hide hrow.len
      have HE := hide hxk
      clear hxk hrow
      have q1 : (0 : Int) ≤ (k : Int) := by omega
      have q2 : (k : Int) < (n : Int) := by omega
      by_cases hm : (x.n : Int) = m
      · have z1 : ((x.n : Int) != m) = false := by simpa using hm
        have z2 : ((x.n : Int) == m) = true := by simpa using hm
        have HX := hide (show wideG (dat (l.take (k + 1))) m = true by
          rw [take_snoc' HE.out, dat_snoc]
          unfold wideG at *
          rw [List.all_append, HA.out]
          simp [HXL.out, hm])
        clear hm e1
        go_wp2
        go_roundw
        case rel => exact ⟨k + 1, by omega, by go_num, HX.out, trivial⟩
        case measure => simp [intOf]; omega
      · have z1 : ((x.n : Int) != m) = true := by simpa using hm
        have z2 : ((x.n : Int) == m) = false := by simpa using hm
        have HX := hide (show false = wideG (dat l) m by
          symm
          unfold wideG
          rw [List.all_eq_false]
          exact ⟨(x.r, x.m), List.mem_of_getElem? (dat_at HE.out), by simp [HXL.out, hm]⟩)
        clear hm e1
        go_wp2
        go_ret
        exact ⟨ret_bool HX.out, Below.refl _ _⟩
    · obtain rfl : k = n := by omega
      have HX := hide (show true = wideG (dat l) m by
        have := HA.out
        rw [take_all HL.out] at this
        exact this.symm)
      go_wp2
      go_ret
      exact ⟨ret_bool HX.out, Below.refl _ _⟩
/-- The two ways to ask whether two widths are too much. -/
theorem wider_any (a b : Int) (w : World) : Calls Tryz.prog 92 #[.int .i64 a, .int .i64 b] w fun e w' => e = .returned (.bool (widerB a b)) ∧ w = w' := by
  obtain ⟨v, hv⟩ : ∃ v, widerB a b = v := ⟨_, rfl⟩
  rw [hv]
  have HV := hide hv
  clear hv
  by_cases a0 : 0 < a
  · have da : decide (0 < a) = true := decide_eq_true a0
    have da2 : decide (a < 0) = false := decide_eq_false (by omega)
    by_cases b0 : 0 < b
    · have db : decide (0 < b) = true := decide_eq_true b0
      have db2 : decide (b < 0) = false := decide_eq_false (by omega)
      by_cases a8 : 8 < a
      · have d8 : decide (8 < a) = true := decide_eq_true a8
        have HX := hide (show true = v by rw [← HV.out]; unfold widerB; rw [if_pos ⟨a0, b0⟩, d8]; rfl)
        clear HV
        go_enter Tryz.func92, Tryz.ntmps92
        go_wp2
        go_ret
        exact ⟨ret_bool HX.out, rfl⟩
      · have d8 : decide (8 < a) = false := decide_eq_false a8
        by_cases b8 : 8 < b
        · have e8 : decide (8 < b) = true := decide_eq_true b8
          have HX := hide (show true = v by rw [← HV.out]; unfold widerB; rw [if_pos ⟨a0, b0⟩, d8, e8]; rfl)
          clear HV
          go_enter Tryz.func92, Tryz.ntmps92
          go_wp2
          go_ret
          exact ⟨ret_bool HX.out, rfl⟩
        · have e8 : decide (8 < b) = false := decide_eq_false b8
          have w1 : IntKind.i64.wrap (a + b) = a + b := by rw [IntKind.wrap_i64]; omega
          obtain ⟨q, hq⟩ : ∃ q, decide (8 < a + b) = q := ⟨_, rfl⟩
          have HX := hide (show q = v by rw [← HV.out]; unfold widerB; rw [if_pos ⟨a0, b0⟩, d8, e8, hq]; rfl)
          clear HV
          go_enter Tryz.func92, Tryz.ntmps92
          go_wp2
          go_ret
          exact ⟨ret_bool HX.out, rfl⟩
    · have db : decide (0 < b) = false := decide_eq_false b0
      obtain ⟨s, hs⟩ : ∃ s, IntKind.i64.wrap (a + b) = s := ⟨_, rfl⟩
      obtain ⟨q, hq⟩ : ∃ q, decide (8 < s) = q := ⟨_, rfl⟩
      have HX := hide (show q = v by rw [← HV.out]; unfold widerB; rw [if_neg (fun h => b0 h.2), if_neg (fun h => by omega), hs, hq])
      clear HV
      go_enter Tryz.func92, Tryz.ntmps92
      go_wp2
      go_ret
      exact ⟨ret_bool HX.out, rfl⟩
  · have da : decide (0 < a) = false := decide_eq_false a0
    by_cases a1 : a < 0
    · have da2 : decide (a < 0) = true := decide_eq_true a1
      by_cases b1 : b < 0
      · have db2 : decide (b < 0) = true := decide_eq_true b1
        have HX := hide (show false = v by rw [← HV.out]; unfold widerB; rw [if_neg (fun h => a0 h.1), if_pos ⟨a1, b1⟩])
        clear HV
        go_enter Tryz.func92, Tryz.ntmps92
        go_wp2
        go_ret
        exact ⟨ret_bool HX.out, rfl⟩
      · have db2 : decide (b < 0) = false := decide_eq_false b1
        obtain ⟨s, hs⟩ : ∃ s, IntKind.i64.wrap (a + b) = s := ⟨_, rfl⟩
        obtain ⟨q, hq⟩ : ∃ q, decide (8 < s) = q := ⟨_, rfl⟩
        have HX := hide (show q = v by rw [← HV.out]; unfold widerB; rw [if_neg (fun h => a0 h.1), if_neg (fun h => b1 h.2), hs, hq])
        clear HV
        go_enter Tryz.func92, Tryz.ntmps92
        go_wp2
        go_ret
        exact ⟨ret_bool HX.out, rfl⟩
    · have da2 : decide (a < 0) = false := decide_eq_false a1
      obtain ⟨s, hs⟩ : ∃ s, IntKind.i64.wrap (a + b) = s := ⟨_, rfl⟩
      obtain ⟨q, hq⟩ : ∃ q, decide (8 < s) = q := ⟨_, rfl⟩
      have HX := hide (show q = v by rw [← HV.out]; unfold widerB; rw [if_neg (fun h => a0 h.1), if_neg (fun h => a1 h.1), hs, hq])
      clear HV
      go_enter Tryz.func92, Tryz.ntmps92
      go_wp2
      go_ret
      exact ⟨ret_bool HX.out, rfl⟩
theorem over_any (a b : Int) (w : World) : Calls Tryz.prog 148 #[.int .i64 a, .int .i64 b] w fun e w' => e = .returned (.bool (widerB a b)) ∧ w = w' := by
  obtain ⟨v, hv⟩ : ∃ v, widerB a b = v := ⟨_, rfl⟩
  rw [hv]
  have HV := hide hv
  clear hv
  by_cases a0 : 0 < a
  · have da : decide (0 < a) = true := decide_eq_true a0
    have da2 : decide (a < 0) = false := decide_eq_false (by omega)
    by_cases b0 : 0 < b
    · have db : decide (0 < b) = true := decide_eq_true b0
      have db2 : decide (b < 0) = false := decide_eq_false (by omega)
      by_cases a8 : 8 < a
      · have d8 : decide (8 < a) = true := decide_eq_true a8
        have HX := hide (show true = v by rw [← HV.out]; unfold widerB; rw [if_pos ⟨a0, b0⟩, d8]; rfl)
        clear HV
        go_enter Tryz.func148, Tryz.ntmps148
        go_wp2
        go_ret
        exact ⟨ret_bool HX.out, rfl⟩
      · have d8 : decide (8 < a) = false := decide_eq_false a8
        by_cases b8 : 8 < b
        · have e8 : decide (8 < b) = true := decide_eq_true b8
          have HX := hide (show true = v by rw [← HV.out]; unfold widerB; rw [if_pos ⟨a0, b0⟩, d8, e8]; rfl)
          clear HV
          go_enter Tryz.func148, Tryz.ntmps148
          go_wp2
          go_ret
          exact ⟨ret_bool HX.out, rfl⟩
        · have e8 : decide (8 < b) = false := decide_eq_false b8
          have w1 : IntKind.i64.wrap (a + b) = a + b := by rw [IntKind.wrap_i64]; omega
          obtain ⟨q, hq⟩ : ∃ q, decide (8 < a + b) = q := ⟨_, rfl⟩
          have HX := hide (show q = v by rw [← HV.out]; unfold widerB; rw [if_pos ⟨a0, b0⟩, d8, e8, hq]; rfl)
          clear HV
          go_enter Tryz.func148, Tryz.ntmps148
          go_wp2
          go_ret
          exact ⟨ret_bool HX.out, rfl⟩
    · have db : decide (0 < b) = false := decide_eq_false b0
      obtain ⟨s, hs⟩ : ∃ s, IntKind.i64.wrap (a + b) = s := ⟨_, rfl⟩
      obtain ⟨q, hq⟩ : ∃ q, decide (8 < s) = q := ⟨_, rfl⟩
      have HX := hide (show q = v by rw [← HV.out]; unfold widerB; rw [if_neg (fun h => b0 h.2), if_neg (fun h => by omega), hs, hq])
      clear HV
      go_enter Tryz.func148, Tryz.ntmps148
      go_wp2
      go_ret
      exact ⟨ret_bool HX.out, rfl⟩
  · have da : decide (0 < a) = false := decide_eq_false a0
    by_cases a1 : a < 0
    · have da2 : decide (a < 0) = true := decide_eq_true a1
      by_cases b1 : b < 0
      · have db2 : decide (b < 0) = true := decide_eq_true b1
        have HX := hide (show false = v by rw [← HV.out]; unfold widerB; rw [if_neg (fun h => a0 h.1), if_pos ⟨a1, b1⟩])
        clear HV
        go_enter Tryz.func148, Tryz.ntmps148
        go_wp2
        go_ret
        exact ⟨ret_bool HX.out, rfl⟩
      · have db2 : decide (b < 0) = false := decide_eq_false b1
        obtain ⟨s, hs⟩ : ∃ s, IntKind.i64.wrap (a + b) = s := ⟨_, rfl⟩
        obtain ⟨q, hq⟩ : ∃ q, decide (8 < s) = q := ⟨_, rfl⟩
        have HX := hide (show q = v by rw [← HV.out]; unfold widerB; rw [if_neg (fun h => a0 h.1), if_neg (fun h => b1 h.2), hs, hq])
        clear HV
        go_enter Tryz.func148, Tryz.ntmps148
        go_wp2
        go_ret
        exact ⟨ret_bool HX.out, rfl⟩
    · have da2 : decide (a < 0) = false := decide_eq_false a1
      obtain ⟨s, hs⟩ : ∃ s, IntKind.i64.wrap (a + b) = s := ⟨_, rfl⟩
      obtain ⟨q, hq⟩ : ∃ q, decide (8 < s) = q := ⟨_, rfl⟩
      have HX := hide (show q = v by rw [← HV.out]; unfold widerB; rw [if_neg (fun h => a0 h.1), if_neg (fun h => a1 h.1), hs, hq])
      clear HV
      go_enter Tryz.func148, Tryz.ntmps148
      go_wp2
      go_ret
      exact ⟨ret_bool HX.out, rfl⟩
end

section
open Go.RowKit
attribute [local go_sem] Oper.semAt_some wide_fn wide_depth
set_option linter.unusedVariables false
set_option linter.unusedSimpArgs false

def setE (kind : Int) (on others : List Int) (wide width : Int) (l r : Bg) : Int := if fitK on others && (wideG l wide && (wideG r width && !widerB wide width)) then (if btw wide 0 8 && (btw width 0 8 && (btw kind 0 3 && (insK on wide && insK others width))) then 0 else 7) else 9
set_option maxHeartbeats 4000000 in
theorem RSetup_any (kind : Int) (A1 : Option Addr) (n1 c1 : Nat) (on : List Int) (A2 : Option Addr) (n2 c2 : Nat) (others : List Int) (wide width : Int) (A3 : Option Addr) (n3 c3 : Nat) (ll : List It) (A4 : Option Addr) (n4 c4 : Nat) (lr : List It) (w : World)
    (h1 : Reads w w.heap.size 1 A1 n1 (on.map (Value.int .i64))) (h2 : Reads w w.heap.size 1 A2 n2 (others.map (Value.int .i64))) (hn1 : n1 ≤ 1000) (hn2 : n2 ≤ 1000) (h3 : BagR w w.heap.size A3 n3 ll) (h4 : BagR w w.heap.size A4 n4 lr) :
    Calls Tryz.prog 96 #[.int .i64 kind, .slice A1 n1 c1, .slice A2 n2 c2, .int .i64 wide, .int .i64 width, .slice A3 n3 c3, .slice A4 n4 c4] w (RetV w (.int .i64 (setE kind on others wide width (dat ll) (dat lr)))) := by
  obtain ⟨p, hp⟩ : ∃ p, setE kind on others wide width (dat ll) (dat lr) = p := ⟨_, rfl⟩
  rw [hp]
  have HL1 := hide h1.len1
  have HL2 := hide h2.len1
  unfold setE at hp
  obtain ⟨o1, r1⟩ : ∃ b, fitK on others = b := ⟨_, rfl⟩
  obtain ⟨o2, r2⟩ : ∃ b, wideG (dat ll) wide = b := ⟨_, rfl⟩
  obtain ⟨o3, r3⟩ : ∃ b, wideG (dat lr) width = b := ⟨_, rfl⟩
  obtain ⟨o4, r4⟩ : ∃ b, widerB wide width = b := ⟨_, rfl⟩
  obtain ⟨o5, r5⟩ : ∃ b, btw wide 0 8 = b := ⟨_, rfl⟩
  obtain ⟨o6, r6⟩ : ∃ b, btw width 0 8 = b := ⟨_, rfl⟩
  obtain ⟨o7, r7⟩ : ∃ b, insK on wide = b := ⟨_, rfl⟩
  obtain ⟨o8, r8⟩ : ∃ b, insK others width = b := ⟨_, rfl⟩
  obtain ⟨o9, r9⟩ : ∃ b, btw kind 0 3 = b := ⟨_, rfl⟩
  rw [r1, r2, r3, r4, r5, r6, r7, r8, r9] at hp
  have HP := hide hp
  have R1 := hide r1
  have R2 := hide r2
  have R3 := hide r3
  have R4 := hide r4
  have R5 := hide r5
  have R6 := hide r6
  have R7 := hide r7
  have R8 := hide r8
  have R9 := hide r9
  clear hp r1 r2 r3 r4 r5 r6 r7 r8 r9
  go_enter Tryz.func96, Tryz.ntmps96
  have hB0 : Below w.heap.size w w := Below.refl _ _
  go_wp2_with fail
  refine (fit_any A1 n1 c1 A2 n2 c2 on others w HL1.out HL2.out).mono ?_
  rintro e w' ⟨rfl, rfl⟩
  rw [R1.out]
  cases o1
  · have HB := hide hB0
    have HX := hide (show 9 = p from (HP.out.symm.trans (by first | rfl | simp)).symm)
    clear hB0
    go_wp2
    go_ret
    exact ⟨ret_int HX.out, HB.out⟩
  · skip
    go_wp2_with fail
    refine (Width_any A3 n3 c3 ll wide w ((h3.below hB0).mono hB0.size)).mono ?_
    rintro e W1 ⟨rfl, hb⟩
    have hB1 := bstep hB0 hb
    clear hb hB0
    rw [R2.out]
    cases o2
    · have HB := hide hB1
      have HX := hide (show 9 = p from (HP.out.symm.trans (by first | rfl | simp)).symm)
      clear hB1
      go_wp2
      go_ret
      exact ⟨ret_int HX.out, HB.out⟩
    · skip
      go_wp2_with fail
      refine (Width_any A4 n4 c4 lr width W1 ((h4.below hB1).mono hB1.size)).mono ?_
      rintro e W2 ⟨rfl, hb⟩
      have hB2 := bstep hB1 hb
      clear hb hB1
      rw [R3.out]
      cases o3
      · have HB := hide hB2
        have HX := hide (show 9 = p from (HP.out.symm.trans (by first | rfl | simp)).symm)
        clear hB2
        go_wp2
        go_ret
        exact ⟨ret_int HX.out, HB.out⟩
      · skip
        go_wp2_with fail
        refine (over_any wide width W2).mono ?_
        rintro e w' ⟨rfl, rfl⟩
        rw [R4.out]
        cases o4
        case true =>
          have HB := hide hB2
          have HX := hide (show 9 = p from (HP.out.symm.trans (by first | rfl | simp)).symm)
          clear hB2
          go_wp2
          go_ret
          exact ⟨ret_int HX.out, HB.out⟩
        case false =>
          go_wp2_with fail
          refine (R9within_any wide 0 8 W2).mono ?_
          rintro e w' ⟨rfl, rfl⟩
          rw [R5.out]
          cases o5
          · have HB := hide hB2
            have HX := hide (show 7 = p from (HP.out.symm.trans (by first | rfl | simp)).symm)
            clear hB2
            go_wp2
            go_ret
            exact ⟨ret_int HX.out, HB.out⟩
          · skip
            go_wp2_with fail
            refine (R9within_any width 0 8 W2).mono ?_
            rintro e w' ⟨rfl, rfl⟩
            rw [R6.out]
            cases o6
            · have HB := hide hB2
              have HX := hide (show 7 = p from (HP.out.symm.trans (by first | rfl | simp)).symm)
              clear hB2
              go_wp2
              go_ret
              exact ⟨ret_int HX.out, HB.out⟩
            · skip
              have b5 := btw_iff.1 R5.out
              have b6 := btw_iff.1 R6.out
              go_wp2_with fail
              refine (inside_any A1 n1 c1 on wide W2 (h1.up hB2) (by omega) (by omega)).mono ?_
              rintro e W3 ⟨rfl, hb⟩
              have hB3 := bstep hB2 hb
              clear hb hB2
              rw [R7.out]
              cases o7
              · have HB := hide hB3
                have HX := hide (show 7 = p from (HP.out.symm.trans (by first | rfl | simp)).symm)
                clear hB3
                go_wp2
                go_ret
                exact ⟨ret_int HX.out, HB.out⟩
              · skip
                go_wp2_with fail
                refine (inside_any A2 n2 c2 others width W3 (h2.up hB3) (by omega) (by omega)).mono ?_
                rintro e W4 ⟨rfl, hb⟩
                have hB4 := bstep hB3 hb
                clear hb hB3
                rw [R8.out]
                cases o8
                · have HB := hide hB4
                  have HX := hide (show 7 = p from (HP.out.symm.trans (by first | rfl | simp)).symm)
                  clear hB4
                  go_wp2
                  go_ret
                  exact ⟨ret_int HX.out, HB.out⟩
                · skip
                  go_wp2_with fail
                  refine (R9within_any kind 0 3 W4).mono ?_
                  rintro e w' ⟨rfl, rfl⟩
                  rw [R9.out]
                  cases o9
                  · have HB := hide hB4
                    have HX := hide (show 7 = p from (HP.out.symm.trans (by first | rfl | simp)).symm)
                    clear hB4
                    go_wp2
                    go_ret
                    exact ⟨ret_int HX.out, HB.out⟩
                  · skip
                    have HB := hide hB4
                    have HX := hide (show 0 = p from (HP.out.symm.trans (by first | rfl | simp)).symm)
                    clear hB4 b5 b6
                    go_wp2
                    go_ret
                    exact ⟨ret_int HX.out, HB.out⟩
end

end Go.Proofs.YtoapjidpfghnlaaGreatDoor
