/-
  The walks of share.loads, Load and Least.
-/
import Derived.Test.YthngjbhamgmcgaaDoorLdM
import Derived.Test.YthngjbhamgmcgaaDoorLong
import Derived.Test.YthngjbhamgmcgaaDoorApp
import Derived.Laws.ResultCell
import Derived.Laws.NewBlocks
import Derived.Laws.Tables
import Derived.Laws.CopyOwn
import Derived.Lib.LazyBuf
import Derived.Deep.CutRange
import Derived.Deep.CutBlock
namespace Go.Proofs.YthngjbhamgmcgaaDoor
open Go.RowKit Go.Shelf Go.Deep
attribute [local go_sem] Oper.semAt_some
set_option linter.unusedVariables false
set_option linter.unusedSimpArgs false

theorem zeros16 : (#[Value.int .i64 0, Value.int .i64 0, Value.int .i64 0, Value.int .i64 0, Value.int .i64 0, Value.int .i64 0, Value.int .i64 0, Value.int .i64 0, Value.int .i64 0, Value.int .i64 0, Value.int .i64 0, Value.int .i64 0, Value.int .i64 0, Value.int .i64 0, Value.int .i64 0, Value.int .i64 0] : Array Value) = Array.replicate 16 (.int .i64 0) := by rfl
theorem row16 (w : World) : (w.alloc (.cells #[.int .i64 0, .int .i64 0, .int .i64 0, .int .i64 0, .int .i64 0, .int .i64 0, .int .i64 0, .int .i64 0, .int .i64 0, .int .i64 0, .int .i64 0, .int .i64 0, .int .i64 0, .int .i64 0, .int .i64 0, .int .i64 0] 49)).rowIs w.heap.size 49 16 (fun _ => .int .i64 0) := by
  rw [zeros16]
  have h := World.rowIs_alloc w (Array.replicate 16 (.int .i64 0)) 49 (fun _ => .int .i64 0) (fun i hi => by
    rw [Array.getElem?_eq_getElem hi, Array.getElem_replicate])
  rwa [Array.size_replicate] at h
/-- The row of numbers. -/
def numsL (g : Nat → Nat) (n : Nat) : List Int := (List.range n).map fun j => ((g j : Nat) : Int)
theorem numsL_len (g : Nat → Nat) (n : Nat) : (numsL g n).length = n := by simp [numsL]
theorem numsL_at {g : Nat → Nat} {n j : Nat} {x : Int} (h : (numsL g n)[j]? = some x) : x = ((g j : Nat) : Int) := by
  unfold numsL at h
  rw [List.getElem?_map] at h
  cases hr : (List.range n)[j]? with
  | none => rw [hr] at h; cases h
  | some y =>
    rw [hr] at h
    have := List.getElem?_eq_some_iff.1 hr
    obtain ⟨h1, h2⟩ := this
    rw [List.getElem_range] at h2
    subst h2
    injection h with h; exact h.symm
theorem one16 {cs : Array Value} {g : Nat → Nat} (hsz : cs.size = 16) (hget : ∀ j, j < 16 → cs[j]? = some (.int .i64 ((g j : Nat) : Int))) : cs.all (·.oneCell') = true := by
  rw [Array.all_eq_true_iff_forall_mem]
  intro v hv
  obtain ⟨i, hi⟩ := Array.mem_iff_getElem?.1 hv
  have hlt2 := (Array.getElem?_eq_some_iff.1 hi).1
  rw [hget i (by omega)] at hi
  injection hi with hi
  rw [← hi]; rfl
set_option maxRecDepth 100000 in
set_option maxHeartbeats 8000000 in
theorem loads_any (A : Option Addr) (n c : Nat) (xs : List ByteArray) (p G : Int) (w : World) (hx : Reads w w.heap.size 1 A n (xs.map Value.string)) (hk : Kok xs) (hr : rightB p G = true) :
    Calls Tryd.prog 21 #[.slice A n c, .int .i64 p, .int .i64 G] w fun e w' => ∃ cs : Array Value, e = .returned (.agg cs) ∧ cs.size = 16 ∧ (∀ j, j < 16 → cs[j]? = some (.int .i64 ((ldN (ofN p G) xs j : Nat) : Int))) ∧ Below w.heap.size w w' := by
  have r1 := (row16 w).alloc (.cells #[.int .i64 0, .int .i64 0, .int .i64 0, .int .i64 0, .int .i64 0, .int .i64 0, .int .i64 0, .int .i64 0, .int .i64 0, .int .i64 0, .int .i64 0, .int .i64 0, .int .i64 0, .int .i64 0, .int .i64 0, .int .i64 0] 49)
  have r2 := row16 (w.alloc (.cells #[.int .i64 0, .int .i64 0, .int .i64 0, .int .i64 0, .int .i64 0, .int .i64 0, .int .i64 0, .int .i64 0, .int .i64 0, .int .i64 0, .int .i64 0, .int .i64 0, .int .i64 0, .int .i64 0, .int .i64 0, .int .i64 0] 49))
  have hB0 := ((Below.refl w.heap.size w).alloc (Nat.le_refl _) (.cells #[.int .i64 0, .int .i64 0, .int .i64 0, .int .i64 0, .int .i64 0, .int .i64 0, .int .i64 0, .int .i64 0, .int .i64 0, .int .i64 0, .int .i64 0, .int .i64 0, .int .i64 0, .int .i64 0, .int .i64 0, .int .i64 0] 49)).alloc (by simp) (.cells #[.int .i64 0, .int .i64 0, .int .i64 0, .int .i64 0, .int .i64 0, .int .i64 0, .int .i64 0, .int .i64 0, .int .i64 0, .int .i64 0, .int .i64 0, .int .i64 0, .int .i64 0, .int .i64 0, .int .i64 0, .int .i64 0] 49)
  simp only [World.size_alloc] at r2
  have HL := hide hx.len1
  have h60 : n ≤ 60 := by rw [← HL.out]; exact hk.1
  have HO := hide (fun s => ofN_spec hr s)
  have HE := hide (fun s => ofE_yes hr s)
  have HP := hide ((rightB_iff p G).1 hr)
  have HS := hide (fun s hs => Nat.le_trans (hk.2 s hs) (show 200 ≤ 65536 by omega))
  clear hk hr
  go_enter Tryd.func21, Tryd.ntmps21
  go_upto_region 2 with fail
  obtain ⟨W, hW⟩ : ∃ W, (w.alloc (.cells #[.int .i64 0, .int .i64 0, .int .i64 0, .int .i64 0, .int .i64 0, .int .i64 0, .int .i64 0, .int .i64 0, .int .i64 0, .int .i64 0, .int .i64 0, .int .i64 0, .int .i64 0, .int .i64 0, .int .i64 0, .int .i64 0] 49)).alloc (.cells #[.int .i64 0, .int .i64 0, .int .i64 0, .int .i64 0, .int .i64 0, .int .i64 0, .int .i64 0, .int .i64 0, .int .i64 0, .int .i64 0, .int .i64 0, .int .i64 0, .int .i64 0, .int .i64 0, .int .i64 0, .int .i64 0] 49) = W := ⟨_, rfl⟩
  rw [hW] at r1 r2 hB0 ⊢
  clear hW
  obtain ⟨bR, hbR⟩ : ∃ bR, w.heap.size = bR := ⟨_, rfl⟩
  obtain ⟨bO, hbO⟩ : ∃ bO, w.heap.size + 1 = bO := ⟨_, rfl⟩
  rw [hbO] at r2 ⊢
  have x1 : w.heap.size ≤ bO := by omega
  have x2 : w.heap.size ≤ w.heap.size := Nat.le_refl _
  have x3 : w.heap.size ≠ bO := by omega
  clear hbO hbR bR
  go_wp2_with fail
  go_loopw [9, 10, 11, 14] (fun _ _ _ i wr => ∃ k : Nat, k ≤ n ∧ i = .int .i64 k ∧ wr.rowIs w.heap.size 49 16 (fun _ => .int .i64 0) ∧ wr.rowIs bO 49 16 (fun j => .int .i64 ((ldN (ofN p G) (xs.take k) j : Nat) : Int)) ∧ Below w.heap.size w wr) (fun _ _ _ i _ => n - (intOf i).toNat)
  case atStart => exact ⟨0, Nat.zero_le _, rfl, r1, r2, hB0⟩
  case round =>
    clear r1 r2 hB0
    obtain ⟨k, hkk, rfl, rR, rO, hB⟩ := hrel
    by_cases hlt : k < n
    · obtain ⟨b, off, x, hA, hb, hxk, hc⟩ := (hx.below hB).at1 hlt
      have HT := hide (take_snoc' hxk)
      have hs := HS.out x (List.mem_of_getElem? hxk)
      obtain ⟨_, ho2⟩ := HO.out x
      have hpp := HP.out
      have hoe := HE.out x
      obtain ⟨o, hoo⟩ : ∃ o, ofN p G x = o := ⟨_, rfl⟩
      rw [hoo] at ho2 hoe
      have HOO := hide hoo
      have hcl : ldN (ofN p G) (xs.take k) o ≤ 60 := Nat.le_trans (ldN_le _ _ _) (by rw [List.length_take]; omega)
      have hol : o < 16 := by omega
      have eO := rO.cell hol
      have fO := rO.frozen o
      obtain ⟨cv, hcv⟩ : ∃ cv, ldN (ofN p G) (xs.take k) o = cv := ⟨_, rfl⟩
      rw [hcv] at hcl
      simp only [hcv] at eO
      have rO2 : (wr.setCell ⟨bO, o, none⟩ (.int .i64 ((cv : Int) + 1))).rowIs bO 49 16 (fun j => .int .i64 ((ldN (ofN p G) (xs.take (k + 1)) j : Nat) : Int)) := (rO.set o _).congr fun i _ => by
        rw [HT.out, ldN_snoc, HOO.out]
        by_cases e : i = o
        · rw [if_pos e, if_pos e, e, hcv]; simp
        · rw [if_neg e, if_neg e]
      have rR2 : (wr.setCell ⟨bO, o, none⟩ (.int .i64 ((cv : Int) + 1))).rowIs w.heap.size 49 16 (fun _ => .int .i64 0) := rR.of_block (blk_setCell_other _ _ _ _ x3)
      have hB2 := hB.setCell (p := ⟨bO, o, none⟩) x1 (.int .i64 ((cv : Int) + 1))
      have HC := hide (Of_any x hs p G wr)
      rw [hoe] at HC
      have HRO := hide rO2
      have HRR := hide rR2
      clear hxk hoo hoe hcv rO rR rO2 rR2 hpp
      rw [hA]
      have HA := hide hA
      clear hA
      have q1 : (0 : Int) ≤ (k : Int) := by omega
      have q2 : (k : Int) < (n : Int) := by omega
      have q3 : (0 : Int) ≤ (o : Int) := by omega
      have q5 : (o : Int) < 16 := by omega
      go_wp2_with fail
      refine HC.out.mono ?_
      rintro e w' ⟨rfl, rfl⟩
      go_wp2_with fail
      go_roundw
      case rel => exact ⟨k + 1, by omega, by go_num, HRR.out, HRO.out, hB2⟩
      case measure => simp [intOf]; omega
    · obtain rfl : k = n := by omega
      rw [take_all HL.out] at rO
      obtain ⟨cs, hcs, hsz, hget⟩ := rO
      obtain ⟨rs, hrs, hrsz, _⟩ := rR
      have hi : (Tryd.prog.info? 49).map (·.size) = some cs.size := by rw [hsz]; kernel_rfl
      have hone := one16 hsz hget
      have hld := run_loadVar_row (P := Tryd.prog) wr bO 49 49 cs (0, 0) _ hcs Tryd.underlying49 rfl hi
      have hst := run_storeVar_row (P := Tryd.prog) wr w.heap.size 49 49 rs cs hrs hi (by rw [hrsz, hsz]) hone
      have hrow := setRow_heap wr w.heap.size rs cs _ _ hrs
      have hBe := below_setRow hB x2 cs
      have HG := hide hget
      have HCS := hide hsz
      clear hget hB
      go_wp2_with (first | (refine wpList_load_row rfl 49 _ rfl bO rfl 49 cs (0, 0) _ hcs Tryd.underlying49 rfl hi ?_) | (refine wpList_store_row rfl 49 _ _ rfl w.heap.size cs rfl rfl 49 rs hrs hi (by rw [hrsz, hsz]) hone ?_))
      refine bodyPost_ret_by (results_cell_row rfl _ _ w.heap.size 49 cs (0, 0) _ rfl hrow Tryd.underlying49 rfl hi) rfl ?_
      exact ⟨cs, rfl, HCS.out, HG.out, hBe⟩
theorem keyed1_any (s : ByteArray) (hs : s.size ≤ 65536) (w : World) : Calls Tryd.prog 41 #[.string s] w fun e w' => e = .returned (.bool false) ∧ w = w' := by
  go_enter Tryd.func41, Tryd.ntmps41
  go_wp2_with (go_at_call 42; refine (fits_any s hs _).mono ?_; rintro e w' ⟨rfl, rfl⟩)
  go_ret
  exact ⟨rfl, rfl⟩
set_option maxHeartbeats 1000000 in
theorem idx_keys (A : Option Addr) (n c B : Nat) (xs : List ByteArray) (w : World) (hx : Reads w B 1 A n (xs.map Value.string)) (hn : n ≤ 9223372036854775807) (hss : ∀ s ∈ xs, s.size ≤ 65536) :
    Calls Tryd.prog 58 #[.slice A n c, .func (Fn.func 41) #[] #[]] w fun e w' => e = .returned (.int .i64 (-1)) ∧ w = w' := by
  have HS := hide hss
  clear hss
  go_enter Tryd.func58, Tryd.ntmps58
  go_wp2
  go_loop [8] (fun i => ∃ k : Nat, k ≤ n ∧ i = .int .i64 k) (fun i => n - (intOf i).toNat)
  case atStart => exact ⟨0, Nat.zero_le _, rfl⟩
  case round =>
    obtain ⟨k, hk, rfl⟩ := hrel
    by_cases hlt : k < n
    · obtain ⟨b, off, x, rfl, hb, hxk, hc⟩ := hx.at1 hlt
      have hsz := HS.out x (List.mem_of_getElem? hxk)
      clear hxk
      go_wp2_with (go_at_call 41; refine (keyed1_any x hsz _).mono ?_; rintro e w' ⟨rfl, rfl⟩)
      go_round
      case rel => exact ⟨k + 1, by omega, by go_num⟩
      case measure => simp [intOf]; omega
    · go_wp2
      go_ret
      exact ⟨rfl, rfl⟩
theorem con_keys (A : Option Addr) (n c B : Nat) (xs : List ByteArray) (w : World) (hx : Reads w B 1 A n (xs.map Value.string)) (hn : n ≤ 9223372036854775807) (hss : ∀ s ∈ xs, s.size ≤ 65536) :
    Calls Tryd.prog 40 #[.slice A n c, .func (Fn.func 41) #[] #[]] w fun e w' => e = .returned (.bool false) ∧ w = w' := by
  go_enter Tryd.func40, Tryd.ntmps40
  go_wp2_with (go_at_call 58; refine (idx_keys A n c B xs _ hx hn hss).mono ?_; rintro e w' ⟨rfl, rfl⟩)
  go_ret
  exact ⟨rfl, rfl⟩
theorem keyed_any (A : Option Addr) (n c B : Nat) (xs : List ByteArray) (w : World) (hx : Reads w B 1 A n (xs.map Value.string)) (hk : Kok xs) :
    Calls Tryd.prog 19 #[.slice A n c] w fun e w' => e = .returned (.bool true) ∧ w = w' := by
  have h60 : n ≤ 60 := by rw [← hx.len1]; exact hk.1
  have h65 : ∀ s ∈ xs, s.size ≤ 65536 := fun s hs => Nat.le_trans (hk.2 s hs) (by omega)
  have HC := hide (con_keys A n c B xs w hx (by omega) h65)
  clear hk h65 hx
  go_enter Tryd.func19, Tryd.ntmps19
  go_wp2_with fail
  refine HC.out.mono ?_
  rintro e w' ⟨rfl, rfl⟩
  go_wp2_with fail
  go_ret
  exact ⟨rfl, rfl⟩
set_option maxHeartbeats 1000000 in
theorem Clone_ints (a : Addr) (n c B : Nat) (xs : List Int) (w : World) (hx : Reads w w.heap.size 1 (some a) n (xs.map (Value.int .i64))) (hn : n ≤ 1000) :
    Calls Tryd.prog 22 #[.slice (some a) n c] w (RetSl w 1 n (xs.map (Value.int .i64))) := by
  obtain ⟨i0, hi, hz0, hz1, hz2⟩ := info_parts Tryd.infoInt
  have hlit := own_lit w 3 1 0 #[] rfl (by unfold maxLen; omega) (Nat.le_refl w.heap.size)
  have hB0 : Below w.heap.size w (w.alloc (.cells #[] 3)) := (Below.refl _ _).alloc (Nat.le_refl _) _
  have hrd := hx.alloc (Nat.le_refl _) (.cells #[] 3)
  clear hx
  have hq := fun w => run_eql_slice_nil (P := Tryd.prog) w 24 3 (some a) n c Tryd.underlying24
  go_enter Tryd.func22, Tryd.ntmps22
  go_wp2_with (at_builtin; refine wpList_append_any _ rfl _ _ 24 rfl w.heap.size 3 i0 _ 1 8 Tryd.underlying24 hi hz0 hz1 hz2 rfl (by decide) (.slice (some ⟨w.heap.size, 0, none⟩) 0 0) 0 [] rfl hlit w.heap.size (some a) n c (xs.map (Value.int .i64)) rfl hrd (by intro u hu; obtain ⟨y, _, rfl⟩ := List.mem_map.1 hu; rfl) (by unfold maxLen; omega) (by omega) (by simp) ?_; intro v' W1 hown hgrow _; rw [Nat.zero_add, List.nil_append] at hown)
  have hB1 : Below w.heap.size w W1 := below_append hB0 hlit (by simp) hgrow
  obtain ⟨A', c', rfl, hR⟩ := own_form hown
  go_ret
  exact ⟨A', c', rfl, hR, hB1⟩
set_option maxHeartbeats 1000000 in
theorem Max_any (A : Option Addr) (n c B : Nat) (g : Nat → Nat) (w : World) (hx : Reads w B 1 A n ((numsL g n).map (Value.int .i64))) (h1 : 1 ≤ n) (hn : n ≤ 1000) :
    Calls Tryd.prog 26 #[.slice A n c] w fun e w' => e = .returned (.int .i64 ((mxF g n : Nat) : Int)) ∧ w = w' := by
  have HL := hide hx.len1
  obtain ⟨b0, off0, x0, hA0, hb0, hx0, hc0⟩ := hx.at1 (show 0 < n by omega)
  have v0 := numsL_at hx0
  have c0 : w.cell? ⟨b0, off0, none⟩ = some (.int .i64 x0) := by simpa using hc0
  have HM1 := hide (show x0 = ((mxF g 1 : Nat) : Int) by rw [mxF_succ, v0]; show ((g 0 : Nat) : Int) = ((max 0 (g 0) : Nat) : Int); omega)
  subst hA0
  have q0 : (0 : Int) < (n : Int) := by omega
  clear hc0 hx0 v0
  go_enter Tryd.func26, Tryd.ntmps26
  go_wp2_with fail
  go_loop [3, 4] (fun v i => ∃ k : Nat, 1 ≤ k ∧ k ≤ n ∧ i = .int .i64 k ∧ v = .int .i64 ((mxF g k : Nat) : Int)) (fun _ i => n - (intOf i).toNat)
  case atStart => exact ⟨1, by omega, h1, rfl, by rw [← HM1.out]⟩
  case round =>
    obtain ⟨k, hk1, hk, rfl, rfl⟩ := hrel
    by_cases hlt : k < n
    · obtain ⟨b, off, x, hA, hb, hxk, hc⟩ := hx.at1 hlt
      injection hA with hA
      injection hA with hA1 hA2
      subst hA1 hA2
      have v1 := numsL_at hxk
      have HS := hide (show max ((mxF g k : Nat) : Int) x = ((mxF g (k + 1) : Nat) : Int) by rw [mxF_succ, v1]; omega)
      clear hxk v1
      have q1 : (0 : Int) ≤ (k : Int) := by omega
      have q2 : (k : Int) < (n : Int) := by omega
      obtain ⟨mk, hmk⟩ : ∃ mk : Int, ((mxF g k : Nat) : Int) = mk := ⟨_, rfl⟩
      rw [hmk] at HS ⊢
      clear hmk
      go_wp2
      go_round
      case rel => exact ⟨k + 1, by omega, by omega, by go_num, by rw [← HS.out]; simp only [Value.int.injEq, true_and]; omega⟩
      case measure => simp [intOf]; omega
    · obtain rfl : k = n := by omega
      go_wp2
      go_ret
      exact ⟨rfl, rfl⟩
end Go.Proofs.YthngjbhamgmcgaaDoor
