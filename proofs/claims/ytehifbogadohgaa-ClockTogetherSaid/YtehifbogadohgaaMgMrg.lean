/-
  The walks of Merge on both sides, for every list of windows.
-/
import Derived.Test.YtehifbogadohgaaMgPm
import Derived.Test.YtehifbogadohgaaMgMd
namespace Go.Proofs.Ytehifbogadohgaa
open Go.RowKit
attribute [local go_sem] Oper.semAt_some

def okWs (l : List Wd) : Bool := l.all fun x => vwin x.1 x.2
def okMg (l : List Wd) : Bool := decide (l.length ≤ 400) && okWs l
theorem okWs_all {l : List Wd} (h : okWs l = true) : AllV l := fun x hx => List.all_eq_true.1 h x hx
theorem okWs_next {l : List Wd} {k : Nat} {x : Wd} (hx : l[k]? = some x) (h : okWs (l.take k) = true) (hv : vwin x.1 x.2 = true) : okWs (l.take (k + 1)) = true := by
  unfold okWs at *
  rw [take_snoc' hx, List.all_append, h]
  simpa using hv
theorem okWs_bad {l : List Wd} {k : Nat} {x : Wd} (hx : l[k]? = some x) (hv : vwin x.1 x.2 = false) : okWs l = false := by
  unfold okWs
  rw [Bool.eq_false_iff]
  intro h
  have := List.all_eq_true.1 h x (List.mem_of_getElem? hx)
  rw [hv] at this
  cases this
/-- What Merge tells. -/
def MgE (l out : List Wd) (E : Int) : Prop := match okMg l with
  | true => E = 0 ∧ Mg l out
  | false => E = 1 ∧ out = []
theorem MgE.one {l a b : List Wd} {E F : Int} (h : MgE l a E) (k : MgE l b F) : a = b ∧ E = F := by
  unfold MgE at *
  cases ho : okMg l <;> rw [ho] at h k
  · exact ⟨h.2.trans k.2.symm, h.1.trans k.1.symm⟩
  · exact ⟨h.2.one k.2, h.1.trans k.1.symm⟩
theorem MgE.ok {l out : List Wd} {E : Int} (ho : okMg l = true) (h : Mg l out) (hE : E = 0) : MgE l out E := by unfold MgE; rw [ho]; exact ⟨hE, h⟩
theorem MgE.bad {l : List Wd} {E : Int} (ho : okMg l = false) (hE : E = 1) : MgE l [] E := by unfold MgE; rw [ho]; exact ⟨hE, rfl⟩
/-- Windows and an error, handed back. -/
def RetMgE (w : World) (l : List Wd) (e : Ending) (w' : World) : Prop := ∃ out A n c E, MgE l out E ∧ e = .returned (.tuple #[.slice A n c, .int .i64 E]) ∧ n ≤ l.length ∧ Reads w' w'.heap.size 2 A n (flatW out) ∧ Below w.heap.size w w'
theorem merge1_any (a b : Int) (w : World) : Calls Try.prog 54 #[.agg #[.int .i64 a, .int .i64 b]] w (RetV w (.bool (!vwin a b))) := by
  have hB := below_val (w := w) #[.int .i64 a, .int .i64 b] 35
  go_enter Try.func54, Try.ntmps54
  go_wp2_with fail
  refine (ValidWindow_any a b _).mono ?_
  rintro e w' ⟨rfl, hB1⟩
  have HB := hide (bstep hB hB1)
  clear hB hB1
  go_wp2
  go_ret
  exact ⟨rfl, HB.out⟩
set_option maxRecDepth 100000 in
set_option maxHeartbeats 2000000 in
theorem idx_win (A : Option Addr) (n c : Nat) (l : List Wd) (w : World) (hl : Reads w w.heap.size 2 A n (flatW l)) (hn : n ≤ 9223372036854775807) :
    Calls Try.prog 63 #[.slice A n c, .func (Fn.func 54) #[] #[]] w fun e w' => (∃ i : Int, e = .returned (.int .i64 i) ∧ decide (0 ≤ i) = !okWs l) ∧ Below w.heap.size w w' := by
  have HL := hide (show l.length = n from hl.len (enc := encW) encW_len (by omega))
  go_enter Try.func63, Try.ntmps63
  go_wp2_with fail
  go_loopw [8] (fun i wr => ∃ k : Nat, k ≤ n ∧ i = .int .i64 k ∧ okWs (l.take k) = true ∧ Below w.heap.size w wr) (fun i _ => n - (intOf i).toNat)
  case atStart => exact ⟨0, Nat.zero_le _, rfl, rfl, Below.refl _ _⟩
  case round =>
    obtain ⟨k, hk, rfl, hany, hBw⟩ := hrel
    have HA := hide hany
    clear hany
    by_cases hlt : k < n
    · obtain ⟨b, off, x, rfl, hb, hxk, hc⟩ := (hl.up hBw).elem (enc := encW) encW_len HL.out hlt
      have HE := hide hxk
      have c0 : wr.cell? ⟨b, off + k * 2, none⟩ = some (.int .i64 x.1) := by simpa using hc 0 _ rfl
      have c1 : wr.cell? ⟨b, off + k * 2 + 1, none⟩ = some (.int .i64 x.2) := by simpa [← Nat.add_assoc] using hc 1 _ rfl
      clear hxk hc
      have q1 : (0 : Int) ≤ (k : Int) := by omega
      have q2 : (k : Int) < (n : Int) := by omega
      go_wp2_with fail
      refine (merge1_any x.1 x.2 wr).mono ?_
      rintro ee w1 ⟨rfl, hB1⟩
      have hB2 := bstep hBw hB1
      cases hq : vwin x.1 x.2
      · have HX := hide (okWs_bad HE.out hq)
        clear hq hB1 hBw c0 c1
        go_wp2
        go_ret
        exact ⟨⟨_, rfl, by rw [HX.out]; simp⟩, hB2⟩
      · have HX := hide (okWs_next HE.out HA.out hq)
        clear hq hB1 hBw c0 c1
        go_wp2
        go_roundw
        case rel => exact ⟨k + 1, by omega, by go_num, HX.out, hB2⟩
        case measure => simp [intOf]; omega
    · obtain rfl : k = n := by omega
      go_wp2
      go_ret
      exact ⟨⟨_, rfl, by
        have := HA.out
        rw [take_all HL.out] at this
        rw [this]; rfl⟩, hBw⟩
theorem con_win (A : Option Addr) (n c : Nat) (l : List Wd) (w : World) (hl : Reads w w.heap.size 2 A n (flatW l)) (hn : n ≤ 9223372036854775807) :
    Calls Try.prog 53 #[.slice A n c, .func (Fn.func 54) #[] #[]] w (RetV w (.bool (!okWs l))) := by
  go_enter Try.func53, Try.ntmps53
  go_wp2_with (go_at_call 63; refine (idx_win A n c l w hl hn).mono ?_; rintro e w' ⟨⟨i, rfl, hi⟩, hB1⟩)
  go_ret
  exact ⟨rfl, hB1⟩
set_option maxRecDepth 100000 in
set_option maxHeartbeats 2000000 in
theorem Merge_any (A : Option Addr) (n c : Nat) (l : List Wd) (w : World) (hl : Reads w w.heap.size 2 A n (flatW l)) (hn : n ≤ 9223372036854775807) :
    Calls Try.prog 33 #[.slice A n c] w (RetMgE w l) := by
  have HL := hide (show l.length = n from hl.len (enc := encW) encW_len (by omega))
  by_cases h4 : n ≤ 400
  · have z : decide ((400 : Int) < (n : Int)) = false := by simp; omega
    go_enter Try.func33, Try.ntmps33
    go_wp2_with fail
    refine (con_win A n c l w hl hn).mono ?_
    rintro e W1 ⟨rfl, hB1⟩
    cases ho : okWs l
    · have HX := hide (show okMg l = false by unfold okMg; rw [ho]; simp)
      clear ho
      go_wp2
      go_ret2
      exact ⟨[], none, 0, 0, 1, MgE.bad HX.out rfl, rfl, Nat.zero_le _, Reads.none_, hB1⟩
    · have HX := hide (show okMg l = true by unfold okMg; rw [ho, HL.out]; simpa using h4)
      have HO := hide ho
      clear ho
      go_wp2_with fail
      refine (merged_any A n c l W1 (hl.up hB1) (by omega) (fun x hx => vwin_pos (okWs_all HO.out x hx))).mono ?_
      rintro e W2 ⟨out, A2, n2, c2, hmg, rfl, hn2, hc2, hR, hB2⟩
      have HM := hide (MgE.ok HX.out hmg rfl)
      have HB := hide (bstep hB1 hB2)
      clear hmg hB1 hB2
      go_wp2
      go_ret2
      exact ⟨out, A2, n2, c2, 0, HM.out, rfl, hn2, hR, HB.out⟩
  · have z : decide ((400 : Int) < (n : Int)) = true := by simp; omega
    have HX := hide (show okMg l = false by unfold okMg; rw [HL.out, decide_eq_false h4]; rfl)
    go_enter Try.func33, Try.ntmps33
    go_wp2
    go_ret2
    exact ⟨[], none, 0, 0, 1, MgE.bad HX.out rfl, rfl, Nat.zero_le _, Reads.none_, Below.refl _ _⟩
set_option maxRecDepth 100000 in
set_option maxHeartbeats 2000000 in
theorem RMerge_any (A : Option Addr) (n c : Nat) (l : List Wd) (w : World) (hl : Reads w w.heap.size 2 A n (flatW l)) (hn : n ≤ 9223372036854775807) :
    Calls Try.prog 34 #[.slice A n c] w (RetMgE w l) := by
  have HL := hide (show l.length = n from hl.len (enc := encW) encW_len (by omega))
  by_cases h4 : n ≤ 400
  · have z : decide ((400 : Int) < (n : Int)) = false := by simp; omega
    go_enter Try.func34, Try.ntmps34
    go_wp2_with fail
    go_loopw [4] (fun i wr => ∃ k : Nat, k ≤ n ∧ i = .int .i64 k ∧ okWs (l.take k) = true ∧ Below w.heap.size w wr) (fun i _ => n - (intOf i).toNat)
    case atStart => exact ⟨0, Nat.zero_le _, rfl, rfl, Below.refl _ _⟩
    case round =>
      obtain ⟨k, hk, rfl, hany, hBw⟩ := hrel
      have HA := hide hany
      clear hany
      by_cases hlt : k < n
      · obtain ⟨b, off, x, rfl, hb, hxk, hc⟩ := (hl.up hBw).elem (enc := encW) encW_len HL.out hlt
        have HE := hide hxk
        have c0 : wr.cell? ⟨b, off + k * 2, none⟩ = some (.int .i64 x.1) := by simpa using hc 0 _ rfl
        have c1 : wr.cell? ⟨b, off + k * 2 + 1, none⟩ = some (.int .i64 x.2) := by simpa [← Nat.add_assoc] using hc 1 _ rfl
        clear hxk hc
        have q1 : (0 : Int) ≤ (k : Int) := by omega
        have q2 : (k : Int) < (n : Int) := by omega
        go_wp2_with fail
        refine (RValidWindow_any x.1 x.2 wr).mono ?_
        rintro ee w1 ⟨rfl, hB1⟩
        have hB2 := bstep hBw hB1
        cases hq : vwin x.1 x.2
        · have HX := hide (show okMg l = false by unfold okMg; rw [okWs_bad HE.out hq]; simp)
          clear hq hB1 hBw c0 c1
          go_wp2
          go_ret2
          exact ⟨[], none, 0, 0, 1, MgE.bad HX.out rfl, rfl, Nat.zero_le _, Reads.none_, hB2⟩
        · have HX := hide (okWs_next HE.out HA.out hq)
          clear hq hB1 hBw c0 c1
          go_wp2
          go_roundw
          case rel => exact ⟨k + 1, by omega, by go_num, HX.out, hB2⟩
          case measure => simp [intOf]; omega
      · obtain rfl : k = n := by omega
        have HO := hide (show okWs l = true by have := HA.out; rwa [take_all HL.out] at this)
        have HX := hide (show okMg l = true by unfold okMg; rw [HO.out, HL.out]; simpa using h4)
        have hle := HL.out
        go_wp2_with fail
        refine (RMerged_any A k c l wr (hl.up hBw) (by omega) (okWs_all HO.out)).mono ?_
        rintro e W2 ⟨out, A2, n2, c2, hmg, rfl, hn2, hR, hB2⟩
        have HM := hide (MgE.ok HX.out hmg rfl)
        have HB := hide (bstep hBw hB2)
        clear hmg hBw hB2
        go_wp2
        go_ret2
        exact ⟨out, A2, n2, c2, 0, HM.out, rfl, by omega, hR, HB.out⟩
  · have z : decide ((400 : Int) < (n : Int)) = true := by simp; omega
    have HX := hide (show okMg l = false by unfold okMg; rw [HL.out, decide_eq_false h4]; rfl)
    go_enter Try.func34, Try.ntmps34
    go_wp2
    go_ret2
    exact ⟨[], none, 0, 0, 1, MgE.bad HX.out rfl, rfl, Nat.zero_le _, Reads.none_, Below.refl _ _⟩
end Go.Proofs.Ytehifbogadohgaa
