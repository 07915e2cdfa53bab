/-
  The walks of SameEntries at entries that are one, of heavy, and of valid on both sides.
-/
import Derived.Test.YthngjbhamgmcgaaEnV
namespace Go.Proofs.Ythngjbhamgmcgaa
open Go.RowKit
attribute [local go_sem] Oper.semAt_some
set_option linter.unusedVariables false

theorem neEn (x : En) (w : World) : (binOp .neq 57 (.agg #[.int .i64 x.g, .string x.nm, .string x.ky, .string x.vl]) (.agg #[.int .i64 x.g, .string x.nm, .string x.ky, .string x.vl])).run Try.prog w = .ok (.bool false) w := by
  have u3 := Try.underlying3
  have a3 := Try.isAgg3
  have z3 := Try.sizeOf3
  have u9 := Try.underlying9
  have a9 := Try.isAgg9
  have z9 := Try.sizeOf9
  have hS : Try.prog.underlying 57 = some (.struct (Try.prog.fieldsOf 57)) := by kernel_rfl
  have hp : Try.prog.stoodInHeld 57 = false := by kernel_rfl
  rw [run_neq_struct, show (10000 : Nat) = 9999 + 1 from rfl, run_equalIn_agg w 9999 57 _ _ hS hp]
  simp only [Program.fieldsOf, Try.underlying57]
  go_simp
set_option maxRecDepth 100000 in
set_option maxHeartbeats 2000000 in
theorem SameE_one (A : Option Addr) (n c : Nat) (A' : Option Addr) (c' : Nat) (l : List En) (w : World) (hx : Reads w w.heap.size 4 A n (flatE l)) (hy : Reads w w.heap.size 4 A' n (flatE l)) (hn : n ≤ 9223372036854775807) :
    Calls Try.prog 31 #[.slice A n c, .slice A' n c'] w (RetV w (.bool true)) := by
  have HL := hide (show l.length = n from hx.len (enc := encE) encE_len (by omega))
  have hm : Try.prog.eqGuardType Try.prog.depth 57 = false := by kernel_rfl
  have n1 : ((n : Int) != (n : Int)) = false := by simp
  go_enter Try.func31, Try.ntmps31
  go_wp2_with fail
  go_loopw [5] (fun i wr => ∃ k : Nat, k ≤ n ∧ i = .int .i64 k ∧ Below w.heap.size w wr) (fun i _ => n - (intOf i).toNat)
  case atStart => exact ⟨0, Nat.zero_le _, rfl, Below.refl _ _⟩
  case round =>
    obtain ⟨k, hk, rfl, hB⟩ := hrel
    by_cases hlt : k < n
    · obtain ⟨b, off, x, rfl, hb, hxk, hc⟩ := (hx.up hB).elem (enc := encE) encE_len HL.out hlt
      obtain ⟨b', off', x', rfl, hb', hxk', hc'⟩ := (hy.up hB).elem (enc := encE) encE_len HL.out hlt
      obtain rfl : x = x' := by rw [hxk] at hxk'; injection hxk'
      have c0 : wr.cell? ⟨b, off + k * 4, none⟩ = some (.int .i64 x.g) := by simpa using hc 0 _ rfl
      have c1 : wr.cell? ⟨b, off + k * 4 + 1, none⟩ = some (.string x.nm) := by simpa [← Nat.add_assoc] using hc 1 _ rfl
      have c2 : wr.cell? ⟨b, off + k * 4 + 2, none⟩ = some (.string x.ky) := by simpa [← Nat.add_assoc] using hc 2 _ rfl
      have c3 : wr.cell? ⟨b, off + k * 4 + 3, none⟩ = some (.string x.vl) := by simpa [← Nat.add_assoc] using hc 3 _ rfl
      have d0 : wr.cell? ⟨b', off' + k * 4, none⟩ = some (.int .i64 x.g) := by simpa using hc' 0 _ rfl
      have d1 : wr.cell? ⟨b', off' + k * 4 + 1, none⟩ = some (.string x.nm) := by simpa [← Nat.add_assoc] using hc' 1 _ rfl
      have d2 : wr.cell? ⟨b', off' + k * 4 + 2, none⟩ = some (.string x.ky) := by simpa [← Nat.add_assoc] using hc' 2 _ rfl
      have d3 : wr.cell? ⟨b', off' + k * 4 + 3, none⟩ = some (.string x.vl) := by simpa [← Nat.add_assoc] using hc' 3 _ rfl
      have hne := fun W => neEn x W
      clear hc hc' hxk hxk'
      have q1 : (0 : Int) ≤ (k : Int) := by omega
      have q2 : (k : Int) < (n : Int) := by omega
      go_wp2_with fail
      go_quiet (fail)
      go_wp2
      go_roundw
      case rel => exact ⟨k + 1, by omega, by go_num, below_drewN hB _⟩
      case measure => simp [intOf]; omega
    · obtain rfl : k = n := by omega
      go_wp2
      go_ret
      exact ⟨rfl, hB⟩
/-- heavy answers; what is not heavy has at most 60 entries. -/
def RetHv (w : World) (n : Nat) (e : Ending) (w' : World) : Prop := ∃ b : Bool, e = .returned (.bool b) ∧ (b = false → n ≤ 60) ∧ Below w.heap.size w w'
set_option maxRecDepth 100000 in
set_option maxHeartbeats 2000000 in
theorem heavy_any (A : Option Addr) (n c : Nat) (l : List En) (w : World) (hx : Reads w w.heap.size 4 A n (flatE l)) (hn : n ≤ 9223372036854775807) :
    Calls Try.prog 28 #[.slice A n c] w (RetHv w n) := by
  have HL := hide (show l.length = n from hx.len (enc := encE) encE_len (by omega))
  go_enter Try.func28, Try.ntmps28
  go_wp2_with fail
  go_loopw [3] (fun i wr => ∃ k : Nat, k ≤ n ∧ i = .int .i64 k ∧ Below w.heap.size w wr) (fun i _ => n - (intOf i).toNat)
  case atStart => exact ⟨0, Nat.zero_le _, rfl, Below.refl _ _⟩
  case round =>
    obtain ⟨k, hk, rfl, hB⟩ := hrel
    by_cases hlt : k < n
    · obtain ⟨b, off, x, rfl, hb, hxk, hc⟩ := (hx.up hB).elem (enc := encE) encE_len HL.out hlt
      have c0 : wr.cell? ⟨b, off + k * 4, none⟩ = some (.int .i64 x.g) := by simpa using hc 0 _ rfl
      have c1 : wr.cell? ⟨b, off + k * 4 + 1, none⟩ = some (.string x.nm) := by simpa [← Nat.add_assoc] using hc 1 _ rfl
      have c2 : wr.cell? ⟨b, off + k * 4 + 2, none⟩ = some (.string x.ky) := by simpa [← Nat.add_assoc] using hc 2 _ rfl
      have c3 : wr.cell? ⟨b, off + k * 4 + 3, none⟩ = some (.string x.vl) := by simpa [← Nat.add_assoc] using hc 3 _ rfl
      clear hc hxk
      have q1 : (0 : Int) ≤ (k : Int) := by omega
      have q2 : (k : Int) < (n : Int) := by omega
      obtain ⟨t, ht⟩ : ∃ t, decide ((200 : Int) < wrap64 (wrap64 ((x.nm.size : Int) + (x.ky.size : Int)) + (x.vl.size : Int))) = t := ⟨_, rfl⟩
      cases t
      · go_wp2_with fail
        go_quiet (fail)
        go_wp2
        go_roundw
        case rel => exact ⟨k + 1, by omega, by go_num, below_drewN hB _⟩
        case measure => simp [intOf]; omega
      · go_wp2_with fail
        go_quiet (fail)
        go_wp2
        go_ret
        exact ⟨true, rfl, (fun h => by cases h), below_drewN hB _⟩
    · obtain rfl : k = n := by omega
      by_cases h60 : (60 : Int) < (k : Int)
      · go_wp2
        go_ret
        exact ⟨true, rfl, (fun h => by cases h), hB⟩
      · go_wp2
        go_ret
        exact ⟨false, rfl, (fun _ => by omega), hB⟩
def allE (l : List En) : Bool := l.all okE
def AllSz (l : List En) : Prop := ∀ x ∈ l, SzE x
theorem allE_next {l : List En} {k : Nat} {x : En} (hx : l[k]? = some x) (h : allE (l.take k) = true) (hv : okE x = true) : allE (l.take (k + 1)) = true := by
  unfold allE at *
  rw [take_snoc' hx, List.all_append, h]
  simpa using hv
theorem allE_bad {l : List En} {k : Nat} {x : En} (hx : l[k]? = some x) (hv : okE x = false) : allE l = false := by
  unfold allE
  rw [Bool.eq_false_iff]
  intro h
  have := List.all_eq_true.1 h x (List.mem_of_getElem? hx)
  rw [hv] at this
  cases this
theorem valid1_any (x : En) (w : World) (hs : SzE x) : Calls Try.prog 77 #[.agg #[.int .i64 x.g, .string x.nm, .string x.ky, .string x.vl]] w (RetV w (.bool (!okE x))) := by
  have hB := below_val (w := w) #[.int .i64 x.g, .string x.nm, .string x.ky, .string x.vl] 57
  go_enter Try.func77, Try.ntmps77
  go_wp2_with fail
  refine (ValidE_any x _ hs).mono ?_
  rintro e w' ⟨rfl, hG1⟩
  have HB := hide (bstep hB hG1.below)
  clear hB hG1
  go_wp2
  go_ret
  exact ⟨rfl, HB.out⟩
set_option maxRecDepth 100000 in
set_option maxHeartbeats 2000000 in
theorem idx_en (A : Option Addr) (n c : Nat) (l : List En) (w : World) (hl : Reads w w.heap.size 4 A n (flatE l)) (hn : n ≤ 9223372036854775807) (hs : AllSz l) :
    Calls Try.prog 94 #[.slice A n c, .func (Fn.func 77) #[] #[]] w fun e w' => (∃ i : Int, e = .returned (.int .i64 i) ∧ decide (0 ≤ i) = !allE l) ∧ Below w.heap.size w w' := by
  have HL := hide (show l.length = n from hl.len (enc := encE) encE_len (by omega))
  go_enter Try.func94, Try.ntmps94
  go_wp2_with fail
  go_loopw [8] (fun i wr => ∃ k : Nat, k ≤ n ∧ i = .int .i64 k ∧ allE (l.take k) = true ∧ Below w.heap.size w wr) (fun i _ => n - (intOf i).toNat)
  case atStart => exact ⟨0, Nat.zero_le _, rfl, rfl, Below.refl _ _⟩
  case round =>
    obtain ⟨k, hk, rfl, hany, hBw⟩ := hrel
    have HA := hide hany
    clear hany
    by_cases hlt : k < n
    · obtain ⟨b, off, x, rfl, hb, hxk, hc⟩ := (hl.up hBw).elem (enc := encE) encE_len HL.out hlt
      have HE := hide hxk
      have c0 : wr.cell? ⟨b, off + k * 4, none⟩ = some (.int .i64 x.g) := by simpa using hc 0 _ rfl
      have c1 : wr.cell? ⟨b, off + k * 4 + 1, none⟩ = some (.string x.nm) := by simpa [← Nat.add_assoc] using hc 1 _ rfl
      have c2 : wr.cell? ⟨b, off + k * 4 + 2, none⟩ = some (.string x.ky) := by simpa [← Nat.add_assoc] using hc 2 _ rfl
      have c3 : wr.cell? ⟨b, off + k * 4 + 3, none⟩ = some (.string x.vl) := by simpa [← Nat.add_assoc] using hc 3 _ rfl
      have hsz := hs x (List.mem_of_getElem? hxk)
      clear hxk hc
      have q1 : (0 : Int) ≤ (k : Int) := by omega
      have q2 : (k : Int) < (n : Int) := by omega
      go_wp2_with fail
      refine (valid1_any x wr hsz).mono ?_
      rintro ee w1 ⟨rfl, hB1⟩
      have hB2 := bstep hBw hB1
      cases hq : okE x
      · have HX := hide (allE_bad HE.out hq)
        clear hq hB1 hBw c0 c1 c2 c3
        go_wp2
        go_ret
        exact ⟨⟨_, rfl, by rw [HX.out]; simp⟩, hB2⟩
      · have HX := hide (allE_next HE.out HA.out hq)
        clear hq hB1 hBw c0 c1 c2 c3
        go_wp2
        go_roundw
        case rel => exact ⟨k + 1, by omega, by go_num, HX.out, hB2⟩
        case measure => simp [intOf]; omega
    · obtain rfl : k = n := by omega
      go_wp2
      go_ret
      exact ⟨⟨_, rfl, by
        have := HA.out
        rw [take_all HL.out] at this
        rw [this]; rfl⟩, hBw⟩
theorem con_en (A : Option Addr) (n c : Nat) (l : List En) (w : World) (hl : Reads w w.heap.size 4 A n (flatE l)) (hn : n ≤ 9223372036854775807) (hs : AllSz l) :
    Calls Try.prog 76 #[.slice A n c, .func (Fn.func 77) #[] #[]] w (RetV w (.bool (!allE l))) := by
  go_enter Try.func76, Try.ntmps76
  go_wp2_with (go_at_call 94; refine (idx_en A n c l w hl hn hs).mono ?_; rintro e w' ⟨⟨i, rfl, hi⟩, hB1⟩)
  go_ret
  exact ⟨rfl, hB1⟩
theorem valid_any (A : Option Addr) (n c : Nat) (l : List En) (w : World) (hl : Reads w w.heap.size 4 A n (flatE l)) (hn : n ≤ 40000) (hs : AllSz l) :
    Calls Try.prog 55 #[.slice A n c] w (RetV w (.bool (allE l))) := by
  obtain ⟨p, hp⟩ : ∃ p, allE l = p := ⟨_, rfl⟩
  have HC := hide (con_en A n c l w hl (by omega) hs)
  rw [hp] at HC ⊢
  clear hp
  go_enter Try.func55, Try.ntmps55
  go_wp2_with fail
  refine HC.out.mono ?_
  rintro e w' ⟨rfl, hB1⟩
  cases p
  · go_wp2
    go_ret
    exact ⟨rfl, hB1⟩
  · go_wp2
    go_ret
    exact ⟨rfl, hB1⟩
set_option maxRecDepth 100000 in
set_option maxHeartbeats 2000000 in
theorem RvalidE_any (A : Option Addr) (n c : Nat) (l : List En) (w : World) (hl : Reads w w.heap.size 4 A n (flatE l)) (hn : n ≤ 40000) (hs : AllSz l) :
    Calls Try.prog 58 #[.slice A n c, .int .i64 40000] w (RetV w (.bool (allE l))) := by
  have HL := hide (show l.length = n from hl.len (enc := encE) encE_len (by omega))
  obtain ⟨p, hp⟩ : ∃ p, allE l = p := ⟨_, rfl⟩
  have HP := hide hp
  rw [hp]
  clear hp
  go_enter Try.func58, Try.ntmps58
  go_wp2_with fail
  go_loopw [5] (fun i wr => ∃ k : Nat, k ≤ n ∧ i = .int .i64 k ∧ allE (l.take k) = true ∧ Below w.heap.size w wr) (fun i _ => n - (intOf i).toNat)
  case atStart => exact ⟨0, Nat.zero_le _, rfl, rfl, Below.refl _ _⟩
  case round =>
    obtain ⟨k, hk, rfl, hany, hBw⟩ := hrel
    have HA := hide hany
    clear hany
    by_cases hlt : k < n
    · obtain ⟨b, off, x, rfl, hb, hxk, hc⟩ := (hl.up hBw).elem (enc := encE) encE_len HL.out hlt
      have HE := hide hxk
      have c0 : wr.cell? ⟨b, off + k * 4, none⟩ = some (.int .i64 x.g) := by simpa using hc 0 _ rfl
      have c1 : wr.cell? ⟨b, off + k * 4 + 1, none⟩ = some (.string x.nm) := by simpa [← Nat.add_assoc] using hc 1 _ rfl
      have c2 : wr.cell? ⟨b, off + k * 4 + 2, none⟩ = some (.string x.ky) := by simpa [← Nat.add_assoc] using hc 2 _ rfl
      have c3 : wr.cell? ⟨b, off + k * 4 + 3, none⟩ = some (.string x.vl) := by simpa [← Nat.add_assoc] using hc 3 _ rfl
      have hsz := hs x (List.mem_of_getElem? hxk)
      clear hxk hc
      have q1 : (0 : Int) ≤ (k : Int) := by omega
      have q2 : (k : Int) < (n : Int) := by omega
      go_wp2_with fail
      refine (RValidE_any x wr hsz).mono ?_
      rintro ee w1 ⟨rfl, hG1⟩
      have hB2 := bstep hBw hG1.below
      cases hq : okE x
      · have HX := hide (show false = p by rw [← HP.out, allE_bad HE.out hq])
        clear hq hG1 hBw c0 c1 c2 c3
        go_wp2
        go_ret
        exact ⟨ret_bool HX.out, hB2⟩
      · have HX := hide (allE_next HE.out HA.out hq)
        clear hq hG1 hBw c0 c1 c2 c3
        go_wp2
        go_roundw
        case rel => exact ⟨k + 1, by omega, by go_num, HX.out, hB2⟩
        case measure => simp [intOf]; omega
    · obtain rfl : k = n := by omega
      have HX := hide (show true = p by
        have := HA.out
        rw [take_all HL.out] at this
        rw [← HP.out, this])
      have z : decide ((k : Int) ≤ 40000) = true := by simp; omega
      go_wp2
      go_ret
      exact ⟨ret_bool HX.out, hBw⟩
end Go.Proofs.Ythngjbhamgmcgaa
