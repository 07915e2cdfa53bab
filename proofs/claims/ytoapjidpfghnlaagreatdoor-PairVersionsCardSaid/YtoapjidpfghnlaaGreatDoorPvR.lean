/-
  The walks of the reference's small functions of the version join: wide, Nulls, inside at any width, newest. No condition.
-/
import Derived.Test.YtoapjidpfghnlaaGreatDoorPvM
import Derived.Test.YtoapjidpfghnlaaGreatDoorPrR5
namespace Go.Proofs.YtoapjidpfghnlaaGreatDoor
open Go.RowKit
attribute [local go_sem] Oper.semAt_some wide_fn wide_depth
set_option linter.unusedVariables false
set_option linter.unusedSimpArgs false

theorem wide_any (A : Option Addr) (n c : Nat) (l : List Ev) (m : Int) (w : World) (hl : EvR w w.heap.size A n l) :
    Calls Tryz.prog 88 #[.slice A n c, .int .i64 m] w (RetV w (.bool (wideB (dE l) m))) := by
  have HL := hide hl.len
  have hle := hl.le
  go_enter Tryz.func88, Tryz.ntmps88
  go_wp2_with fail
  go_loopw [5] (fun i wr => ∃ k : Nat, k ≤ n ∧ i = .int .i64 k ∧ wideB (dE (l.take k)) m = true ∧ w = wr) (fun i _ => n - (intOf i).toNat)
  case atStart => exact ⟨0, Nat.zero_le _, rfl, rfl, rfl⟩
  case round =>
    obtain ⟨k, hk, rfl, hany, hw⟩ := hrel
    subst hw
    have HA := hide hany
    clear hany
    by_cases hlt : k < n
    · obtain ⟨b, off, x, rfl, hb, hxk, e0, e1, hrow⟩ := hl.at_ hlt
      have HXL := hide hrow.len
      have HE := hide hxk
      clear hxk hrow
      have q1 : (0 : Int) ≤ (k : Int) := by omega
      have q2 : (k : Int) < (n : Int) := by omega
      by_cases hm : (x.n : Int) = m
      · have z1 : ((x.n : Int) != m) = false := by simpa using hm
        have z2 : ((x.n : Int) == m) = true := by simpa using hm
        have HX := hide (show wideB (dE (l.take (k + 1))) m = true by
          rw [take_snoc' HE.out, dE_snoc]
          unfold wideB at *
          rw [List.all_append, HA.out]
          simp [HXL.out, hm])
        clear hm e0
        go_wp2
        go_roundw
        case rel => exact ⟨k + 1, by omega, by go_num, HX.out, trivial⟩
        case measure => simp [intOf]; omega
      · have z1 : ((x.n : Int) != m) = true := by simpa using hm
        have z2 : ((x.n : Int) == m) = false := by simpa using hm
        have HX := hide (show false = wideB (dE l) m by
          symm
          unfold wideB
          rw [List.all_eq_false]
          exact ⟨(x.t, x.r), List.mem_of_getElem? (dE_at HE.out), by simp [HXL.out, hm]⟩)
        clear hm e0
        go_wp2
        go_ret
        exact ⟨ret_bool HX.out, Below.refl _ _⟩
    · obtain rfl : k = n := by omega
      have HX := hide (show true = wideB (dE l) m by
        have := HA.out
        rw [take_all HL.out] at this
        exact this.symm)
      go_wp2
      go_ret
      exact ⟨ret_bool HX.out, Below.refl _ _⟩
set_option maxRecDepth 100000 in
set_option maxHeartbeats 4000000 in
theorem Nulls_any (n : Nat) (w : World) (hn : n ≤ 1000) :
    Calls Tryz.prog 138 #[.int .i64 (n : Int)] w (RetRowO w n (nullR n)) := by
  obtain ⟨i0, hi, hz0, hz1, hz2⟩ := info_parts3 infoVal
  go_enter Tryz.func138, Tryz.ntmps138
  go_wp2_with fail
  go_loopw [3, 4] (fun v i wr => ∃ k : Nat, k ≤ n ∧ i = .int .i64 k ∧ wr.ownsRow w.heap.size 102 3 v k ((nullR k).flatMap encV) ∧ Below w.heap.size w wr) (fun _ i _ => n - (intOf i).toNat)
  case atStart => exact ⟨0, Nat.zero_le _, rfl, World.ownsRow_nil _ _ _ _, Below.refl _ _⟩
  case round =>
    obtain ⟨k, hk, rfl, hown, hB⟩ := hrel
    by_cases hlt : k < n
    · have q1 : (k : Int) < (n : Int) := by omega
      have hsz := hB.size
      have kv := Blk.new wr 102 #[.int .i64 0, .int .i64 0, .string ⟨#[]⟩]
      have hBv := below_val (w := wr) #[.int .i64 0, .int .i64 0, .string ⟨#[]⟩] 102
      have hrd : Reads (wr.alloc (.cells #[.int .i64 0, .int .i64 0, .string ⟨#[]⟩] 102)) (wr.heap.size + 1) 3 (some ⟨wr.heap.size, 0, none⟩) 1 [.int .i64 0, .int .i64 0, .string ⟨#[]⟩] :=
        ⟨rfl, fun _ => ⟨wr.heap.size, 0, rfl, by omega, fun j u hu => by rw [Nat.zero_add, kv.cell j]; simpa using hu⟩⟩
      have hown1 := hown.alloc (.cells #[.int .i64 0, .int .i64 0, .string ⟨#[]⟩] 102)
      have HNX := hide (show (nullR (k + 1)).flatMap encV = (nullR k).flatMap encV ++ [.int .i64 0, .int .i64 0, .string ⟨#[]⟩] by
        unfold nullR
        rw [List.replicate_succ', List.flatMap_append]
        rfl)
      have HB1 := hide (hB.trans (hBv.mono hsz))
      clear kv hBv hown
      go_wp2_with (at_builtin; refine wpList_append_any _ rfl _ _ 34 rfl w.heap.size 102 i0 _ 3 32 Tryz.underlying34 hi hz0 hz1 hz2 rfl (by decide) _ k _ rfl hown1 (wr.heap.size + 1) (some ⟨wr.heap.size, 0, none⟩) 1 1 [.int .i64 0, .int .i64 0, .string ⟨#[]⟩] rfl hrd (by simp [Value.oneCell']) (by unfold maxLen; omega) (by omega) (by simp; omega) ?_; intro v3 w3 hown3 hgrow _; have hB3 : Below w.heap.size w w3 := below_append HB1.out hown1 (by simp; omega) hgrow; clear hgrow)
      clear hB hrd hown1
      go_wp2
      go_roundw
      case rel => exact ⟨k + 1, by omega, by go_num, by rw [HNX.out]; exact hown3, hB3⟩
      case measure => simp [intOf]; omega
    · obtain rfl : k = n := by omega
      obtain ⟨A5, c5, rfl, _⟩ := own_form hown
      go_wp2
      go_ret
      exact ⟨A5, c5, rfl, hown, hB⟩
/-- What inside answers, whatever it is. -/
def RetAnyB (w : World) (e : Ending) (w' : World) : Prop := ∃ b : Bool, e = .returned (.bool b) ∧ Below w.heap.size w w'
theorem inside_some (A : Option Addr) (n c : Nat) (cols : List Int) (m : Int) (w : World) (hx : Reads w w.heap.size 1 A n (cols.map (Value.int .i64))) (hn : n ≤ 9223372036854775807) :
    Calls Tryz.prog 74 #[.slice A n c, .int .i64 m] w (RetAnyB w) := by
  have HL := hide hx.len1
  go_enter Tryz.func74, Tryz.ntmps74
  go_wp2_with fail
  go_loopw [5] (fun i wr => ∃ k : Nat, k ≤ n ∧ i = .int .i64 k ∧ w = wr) (fun i _ => n - (intOf i).toNat)
  case atStart => exact ⟨0, Nat.zero_le _, rfl, rfl⟩
  case round =>
    obtain ⟨k, hk, rfl, hw⟩ := hrel
    subst hw
    by_cases hlt : k < n
    · obtain ⟨b, off, x, rfl, hb, hxk, hc⟩ := hx.at1 hlt
      clear hxk
      have q1 : (0 : Int) ≤ (k : Int) := by omega
      have q2 : (k : Int) < (n : Int) := by omega
      obtain ⟨mm, hmm⟩ : ∃ mm, IntKind.i64.wrap (m - 1) = mm := ⟨_, rfl⟩
      go_wp2_with fail
      try rw [hmm]
      refine (R9within_any x 0 mm _).mono ?_
      rintro ee w1 ⟨rfl, rfl⟩
      clear hmm
      cases hv : btw x 0 mm
      · clear hv hc
        go_wp2
        go_ret
        exact ⟨false, rfl, Below.refl _ _⟩
      · clear hv hc
        go_wp2
        go_roundw
        case rel => exact ⟨k + 1, by omega, by go_num, trivial⟩
        case measure => simp [intOf]; omega
    · obtain rfl : k = n := by omega
      go_wp2
      go_ret
      exact ⟨true, rfl, Below.refl _ _⟩
end Go.Proofs.YtoapjidpfghnlaaGreatDoor
