/-
  The walks of the program's row.within, ValidValue, Valid.
-/
import Derived.Test.YthngjbhamgmcgaaDoorBgA
import Derived.Test.YthngjbhamgmcgaaDoorProg
import Derived.WalkKit
import Derived.Deep.QuietTactic
import Derived.BigQuiet
import Derived.Outline
import Derived.Sort.Walk0
import Derived.Laws.Cover1
namespace Go.Proofs.YthngjbhamgmcgaaDoor
open Go.RowKit Go.Proofs
attribute [local go_sem] Oper.semAt_some
set_option linter.unusedVariables false

def Val.v (v : Val) : Value := .agg #[.int .i64 v.k, .int .i64 v.n, .string v.s]
def encV (v : Val) : List Value := [.int .i64 v.k, .int .i64 v.n, .string v.s]
theorem encV_len (v : Val) : (encV v).length = 3 := rfl
def btw (n lo hi : Int) : Bool := decide (lo ≤ n) && decide (n ≤ hi)
theorem btw_yes {n lo hi : Int} (h1 : lo ≤ n) (h2 : n ≤ hi) : btw n lo hi = true := by simp [btw, h1, h2]
theorem btw_lo {n lo hi : Int} (h1 : n < lo) : btw n lo hi = false := by simp [btw]; omega
theorem btw_hi {n lo hi : Int} (h1 : hi < n) : btw n lo hi = false := by simp [btw]; omega
theorem str_eq0 (x y : ByteArray) : (x.toList == y.toList) = decide (x = y) := by
  rw [ByteArray.toList_eq, ByteArray.toList_eq, Bool.eq_iff_iff, decide_eq_true_eq, beq_iff_eq]
  exact ⟨fun h => Go.WideShapes.bytes_inj h, fun h => by rw [h]⟩

theorem within_any (n lo hi : Int) (w : World) : Calls Tryd.prog 32 #[.int .i64 n, .int .i64 lo, .int .i64 hi] w fun e w' => e = .returned (.bool (btw n lo hi)) ∧ w = w' := by
  by_cases h1 : n < lo
  · rw [btw_lo h1]
    go_enter Tryd.func32, Tryd.ntmps32
    go_wp2
    go_ret
    exact ⟨rfl, rfl⟩
  · rw [show btw n lo hi = decide (n ≤ hi) from by simp [btw, show lo ≤ n by omega]]
    go_enter Tryd.func32, Tryd.ntmps32
    go_wp2
    go_ret
    exact ⟨rfl, rfl⟩
theorem eqVal (a b : Int) (s : ByteArray) (a' b' : Int) (s' : ByteArray) (w : World) : (binOp .eql 29 (.agg #[.int .i64 a, .int .i64 b, .string s]) (.agg #[.int .i64 a', .int .i64 b', .string s'])).run Tryd.prog w = .ok (.bool (decide (a = a' ∧ b = b' ∧ s = s'))) w := by
  have u3 := Tryd.underlying3
  have a3 := Tryd.isAgg3
  have z3 := Tryd.sizeOf3
  have u9 := Tryd.underlying9
  have a9 := Tryd.isAgg9
  have z9 := Tryd.sizeOf9
  have hS : Tryd.prog.underlying 29 = some (.struct (Tryd.prog.fieldsOf 29)) := by kernel_rfl
  have hp : Tryd.prog.stoodInHeld 29 = false := by kernel_rfl
  have hs := str_eq0 s s'
  rw [run_eql_struct, show (10000 : Nat) = 9999 + 1 from rfl, run_equalIn_agg w 9999 29 _ _ hS hp]
  simp only [Program.fieldsOf, Tryd.underlying29]
  go_simp
  by_cases h1 : a = a' <;> by_cases h2 : b = b' <;> by_cases h3 : s = s' <;> simp [h1, h2, h3] at hs ⊢

theorem empty_size (s : ByteArray) : s.toList.isEmpty = (s.size == 0) := by
  rw [ByteArray.toList_eq, Bool.eq_iff_iff, List.isEmpty_iff, beq_iff_eq, Array.toList_eq_nil_iff]
  exact ⟨fun h => by show s.data.size = 0; rw [h]; rfl, fun h => Array.eq_empty_of_size_eq_zero h⟩
theorem below_val {w : World} (cs : Array Value) (t : TypeId) : Below w.heap.size w (w.alloc (.cells cs t)) := (Below.refl _ _).alloc (Nat.le_refl _) _

set_option maxRecDepth 100000 in
set_option maxHeartbeats 2000000 in
theorem ValidValue_any (v : Val) (w : World) : Calls Tryd.prog 49 #[.agg #[.int .i64 v.k, .int .i64 v.n, .string v.s]] w (RetV w (.bool (okV v))) := by
  have hB := below_val (w := w) #[.int .i64 v.k, .int .i64 v.n, .string v.s] 29
  have hm : Tryd.prog.eqGuardType Tryd.prog.depth 29 = false := by kernel_rfl
  have he := eqVal
  obtain ⟨k, n, s⟩ := v
  simp only at hB ⊢
  have hd : okV ⟨k, n, s⟩ = ((k == 0 && n == 0 && s.size == 0) || (k == 1 && s.size == 0 && decide (-1000000000000000 ≤ n) && decide (n ≤ 1000000000000000)) || (k == 2 && n == 0 && decide (s.size ≤ 200))) := rfl
  have hse : (s = ByteArray.empty) ↔ s.size = 0 := ⟨fun h => by rw [h]; rfl, empty_of_size⟩
  by_cases h0 : k = 0
  · subst h0
    have HD := hide (show okV ⟨0, n, s⟩ = decide ((0 : Int) = 0 ∧ n = 0 ∧ s = ByteArray.empty) from by
      rw [hd, Bool.eq_iff_iff, decide_eq_true_eq, hse]; simp)
    rw [HD.out]
    clear hd hse
    go_enter Tryd.func49, Tryd.ntmps49
    go_wp2
    go_ret
    exact ⟨rfl, hB⟩
  · have n0 : (k == 0) = false := by simpa using h0
    by_cases h1 : k = 1
    · subst h1
      have HD := hide (show okV ⟨1, n, s⟩ = (btw n (-1000000000000000) 1000000000000000 && s.toList.isEmpty) from by
        rw [hd, empty_size s]
        unfold btw
        cases s.size == 0 <;> cases decide (-1000000000000000 ≤ n) <;> cases decide (n ≤ 1000000000000000) <;> rfl)
      rw [HD.out]
      clear hd hse n0 h0
      obtain ⟨bb, hbb⟩ : ∃ bb, btw n (-1000000000000000) 1000000000000000 = bb := ⟨_, rfl⟩
      have HBB := hide hbb
      rw [hbb]
      clear hbb
      cases bb
      · go_enter Tryd.func49, Tryd.ntmps49
        go_wp2_with (go_at_call 32; refine (within_any _ _ _ _).mono ?_; rintro e w' ⟨rfl, rfl⟩; rw [HBB.out])
        go_ret
        exact ⟨rfl, hB⟩
      · go_enter Tryd.func49, Tryd.ntmps49
        go_wp2_with (go_at_call 32; refine (within_any _ _ _ _).mono ?_; rintro e w' ⟨rfl, rfl⟩; rw [HBB.out])
        go_ret
        exact ⟨rfl, hB⟩
    · have n1 : (k == 1) = false := by simpa using h1
      by_cases h2 : k = 2
      · subst h2
        by_cases hn : n = 0
        · subst hn
          have HD := hide (show okV ⟨2, 0, s⟩ = decide ((s.size : Int) ≤ 200) from by
            rw [hd, Bool.eq_iff_iff, decide_eq_true_eq]
            simp
            omega)
          rw [HD.out]
          clear hd hse n0 h0 n1 h1
          go_enter Tryd.func49, Tryd.ntmps49
          go_wp2
          go_ret
          exact ⟨rfl, hB⟩
        · have n2 : (n == 0) = false := by simpa using hn
          have HD := hide (show okV ⟨2, n, s⟩ = false from by rw [hd]; simp [hn])
          rw [HD.out]
          clear hd hse n0 h0 n1 h1
          go_enter Tryd.func49, Tryd.ntmps49
          go_wp2
          go_ret
          exact ⟨rfl, hB⟩
      · have n2 : (k == 2) = false := by simpa using h2
        have HD := hide (show okV ⟨k, n, s⟩ = false from by rw [hd]; simp [h0, h1, h2])
        rw [HD.out]
        clear hd hse
        go_enter Tryd.func49, Tryd.ntmps49
        go_wp2
        go_ret
        exact ⟨rfl, hB⟩

theorem valid1_any (v : Val) (w : World) : Calls Tryd.prog 48 #[.agg #[.int .i64 v.k, .int .i64 v.n, .string v.s]] w (RetV w (.bool (!okV v))) := by
  have hB := below_val (w := w) #[.int .i64 v.k, .int .i64 v.n, .string v.s] 29
  go_enter Tryd.func48, Tryd.ntmps48
  go_wp2_with fail
  refine (ValidValue_any v _).mono ?_
  rintro e w' ⟨rfl, hB1⟩
  have HB := hide (bstep hB hB1)
  clear hB hB1
  go_wp2
  go_ret
  exact ⟨rfl, HB.out⟩

theorem any_take' {α : Type} {l : List α} {k : Nat} {x : α} {p : α → Bool} (h : l[k]? = some x) (hp : p x = false) (ha : (l.take k).any p = false) : (l.take (k + 1)).any p = false := by
  rw [take_snoc' h, List.any_append, ha]; simp [hp]

set_option maxRecDepth 100000 in
set_option maxHeartbeats 2000000 in
theorem idx_row (A : Option Addr) (n c B : Nat) (r : Rw) (w : World) (hr : Reads w B 3 A n (r.flatMap encV)) (hB : B ≤ w.heap.size) (hn : n ≤ 9223372036854775807) :
    Calls Tryd.prog 62 #[.slice A n c, .func (Fn.func 48) #[] #[]] w fun e w' => (∃ i : Int, e = .returned (.int .i64 i) ∧ decide (0 ≤ i) = r.any (fun v => !okV v)) ∧ Below w.heap.size w w' := by
  have HL := hide (hr.len encV_len (by omega))
  go_enter Tryd.func62, Tryd.ntmps62
  go_wp2_with fail
  go_loopw [8] (fun i wr => ∃ k : Nat, k ≤ n ∧ i = .int .i64 k ∧ (r.take k).any (fun v => !okV v) = false ∧ Below w.heap.size w wr) (fun i _ => n - (intOf i).toNat)
  case atStart => exact ⟨0, Nat.zero_le _, rfl, rfl, Below.refl _ _⟩
  case round =>
    obtain ⟨k, hk, rfl, hany, hBw⟩ := hrel
    have HA := hide hany
    clear hany
    by_cases hlt : k < n
    · obtain ⟨b, off, e, rfl, hb, hek, hce⟩ := (hr.more hB).below hBw |>.elem encV_len HL.out hlt
      have HEK := hide hek
      have e0 : wr.cell? ⟨b, off + k * 3, none⟩ = some (.int .i64 e.k) := by simpa using hce 0 _ rfl
      have e1 : wr.cell? ⟨b, off + k * 3 + 1, none⟩ = some (.int .i64 e.n) := by simpa [← Nat.add_assoc] using hce 1 _ rfl
      have e2 : wr.cell? ⟨b, off + k * 3 + 2, none⟩ = some (.string e.s) := by simpa [← Nat.add_assoc] using hce 2 _ rfl
      clear hce hek
      have q1 : (0 : Int) ≤ (k : Int) := by omega
      have q2 : (k : Int) < (n : Int) := by omega
      go_wp2_with fail
      refine (valid1_any e wr).mono ?_
      rintro ee w1 ⟨rfl, hB1⟩
      have hB2 := bstep hBw hB1
      cases hq : okV e
      · have HX := hide (show r.any (fun v => !okV v) = true from List.any_eq_true.2 ⟨e, List.mem_of_getElem? HEK.out, by rw [hq]; rfl⟩)
        clear hq hB1 hBw e0 e1 e2
        go_wp2
        go_ret
        exact ⟨⟨_, rfl, by rw [HX.out]; simp⟩, hB2⟩
      · have HX := hide (any_take' (p := fun v => !okV v) HEK.out (by rw [hq]; rfl) HA.out)
        clear hq hB1 hBw e0 e1 e2
        go_wp2
        go_roundw
        case rel => exact ⟨k + 1, by omega, by go_num, HX.out, hB2⟩
        case measure => simp [intOf]; omega
    · obtain rfl : k = n := by omega
      go_wp2
      go_ret
      exact ⟨⟨_, rfl, by
        have := HA.out
        rw [take_all HL.out] at this
        rw [this]; rfl⟩, hBw⟩
theorem con_row (A : Option Addr) (n c B : Nat) (r : Rw) (w : World) (hr : Reads w B 3 A n (r.flatMap encV)) (hB : B ≤ w.heap.size) (hn : n ≤ 9223372036854775807) :
    Calls Tryd.prog 47 #[.slice A n c, .func (Fn.func 48) #[] #[]] w (RetV w (.bool (r.any (fun v => !okV v)))) := by
  go_enter Tryd.func47, Tryd.ntmps47
  go_wp2_with (go_at_call 62; refine (idx_row A n c B r w hr hB hn).mono ?_; rintro e w' ⟨⟨i, rfl, hi⟩, hB1⟩)
  go_ret
  exact ⟨rfl, hB1⟩
theorem okR_any (r : Rw) : okR r = (decide (r.length ≤ 8) && !r.any (fun v => !okV v)) := by
  unfold okR
  rw [Bool.and_comm]
  congr 1
  rw [Bool.eq_iff_iff]
  simp
theorem RowValid_any (A : Option Addr) (n c B : Nat) (r : Rw) (w : World) (hr : Reads w B 3 A n (r.flatMap encV)) (hB : B ≤ w.heap.size) (hn : n ≤ 9223372036854775807) :
    Calls Tryd.prog 29 #[.slice A n c] w (RetV w (.bool (okR r))) := by
  have hl := hr.len encV_len (by omega)
  have ho := okR_any r
  rw [hl] at ho
  by_cases h8 : n ≤ 8
  · have HO := hide (show okR r = !r.any (fun v => !okV v) from by rw [ho, decide_eq_true h8]; rfl)
    clear ho hl
    go_enter Tryd.func29, Tryd.ntmps29
    go_wp2_with fail
    refine (con_row A n c B r w hr hB hn).mono ?_
    rintro e w' ⟨rfl, hB1⟩
    go_wp2
    go_ret
    exact ⟨ret_bool HO.out.symm, hB1⟩
  · have HO := hide (show okR r = false from by rw [ho, decide_eq_false h8]; rfl)
    rw [HO.out]
    clear ho hl
    go_enter Tryd.func29, Tryd.ntmps29
    go_wp2
    go_ret
    exact ⟨ret_bool (by simp <;> omega), Below.refl _ _⟩
end Go.Proofs.YthngjbhamgmcgaaDoor
