/-
  The walks of the comparison of values, with the draws counted.
  The walk of the comparison of rows, with the draws counted.
  slices.SortFunc over the items of a bag that the call made, by whatever comparison.
  DeleteFunc and SortFunc over the items of a bag that the call made, nil or not; the two functions that gathered hands over.
  The texts of values and rows, in plain words.
  A valid row's text tells the row.
  What bag.gathered computes, in plain words.
  A map that a call makes, told as a function from keys to the values it holds, whatever the values are. Plain theorems over any program.
  A store into a map of the call's own, inside a fence.
  As Rng, where an element's arguments are told by a relation that the round's world meets. Plain theorems over any program; no condition.
  A region that draws its order and whose last operation writes a cell that the region loads: one condition S on the world, asked of every operation but that last one, s. Own theorems over the kit's 'wpOp'; no condition.
  A region that draws its order, walked outside a round, may stand inside a round of a range over a function. Plain theorems over any program; no condition.
-/
import Derived.Test.YtoapjidpfghnlaaGreatDoorBgP2
import Derived.Test.YtoapjidpfghnlaaGreatDoorGb
import Derived.Test.YtoapjidpfghnlaaGreatDoorQbw
import Derived.Lib.Join
import Derived.Lib.ItoaLen
import Derived.Maps.Own
import Derived.Maps.OwnSet
import Derived.MapViews
import Derived.Maps.OwnIn
import Derived.OrdersHeld
import Derived.Deep.RegionHeld
import Derived.OrdersIn
import Derived.TacticsIn
import Derived.RangeFuncCalls
namespace Go.Proofs.YtoapjidpfghnlaaGreatDoor

section
open Go.RowKit
attribute [local go_sem] Oper.semAt_some
set_option linter.unusedVariables false

theorem kind_g (v : Val) (w : World) : Calls Tryz.prog 220 #[.agg #[.int .i64 v.k, .int .i64 v.n, .string v.s]] w (RetG w (.int .i64 (cls v))) := by
  have hB := gb_val (w := w) #[.int .i64 v.k, .int .i64 v.n, .string v.s] 102
  obtain ⟨bb, hbb⟩ : ∃ bb, btw v.k 1 2 = bb := ⟨_, rfl⟩
  have HC := hide (show cls v = if bb then v.k else 0 from by
    rw [← hbb]
    unfold cls btw
    by_cases h : v.k = 1 ∨ v.k = 2
    · rw [if_pos h, if_pos (by simp; omega)]
    · rw [if_neg h, if_neg (by simp; omega)])
  have HBB := hide hbb
  rw [HC.out]
  clear hbb
  obtain ⟨k, n, s⟩ := v
  simp only at HBB hB ⊢
  cases bb
  · go_enter Tryz.func220, Tryz.ntmps220
    go_wp2_with (go_at_call 185; refine (within_any _ _ _ _).mono ?_; rintro e w' ⟨rfl, rfl⟩; rw [HBB.out])
    go_ret
    exact ⟨rfl, hB⟩
  · go_enter Tryz.func220, Tryz.ntmps220
    go_wp2_with (go_at_call 185; refine (within_any _ _ _ _).mono ?_; rintro e w' ⟨rfl, rfl⟩; rw [HBB.out])
    go_ret
    exact ⟨rfl, hB⟩

theorem cv1_g (a b : Val) (w : World) : Calls Tryz.prog 221 #[.agg #[.int .i64 a.k, .int .i64 a.n, .string a.s], .agg #[.int .i64 b.k, .int .i64 b.n, .string b.s]] w (RetG w (.int .i64 0)) := by
  have hB := gb_two (w := w) (.cells #[.int .i64 a.k, .int .i64 a.n, .string a.s] 102) (.cells #[.int .i64 b.k, .int .i64 b.n, .string b.s] 102)
  go_enter Tryz.func221, Tryz.ntmps221
  go_wp2
  go_ret
  exact ⟨rfl, hB⟩
theorem cv2_g (a b : Val) (w : World) : Calls Tryz.prog 222 #[.agg #[.int .i64 a.k, .int .i64 a.n, .string a.s], .agg #[.int .i64 b.k, .int .i64 b.n, .string b.s]] w (RetG w (.int .i64 (cmpI a.n b.n))) := by
  have hB := gb_two (w := w) (.cells #[.int .i64 a.k, .int .i64 a.n, .string a.s] 102) (.cells #[.int .i64 b.k, .int .i64 b.n, .string b.s] 102)
  go_enter Tryz.func222, Tryz.ntmps222
  go_wp2_with (go_at_call 129; refine (cmpi_any _ _ _).mono ?_; rintro e w' ⟨rfl, rfl⟩)
  go_ret
  exact ⟨rfl, hB⟩
theorem cv3_g (a b : Val) (w : World) : Calls Tryz.prog 223 #[.agg #[.int .i64 a.k, .int .i64 a.n, .string a.s], .agg #[.int .i64 b.k, .int .i64 b.n, .string b.s]] w (RetG w (.int .i64 (cmpS a.s b.s))) := by
  have hB := gb_two (w := w) (.cells #[.int .i64 a.k, .int .i64 a.n, .string a.s] 102) (.cells #[.int .i64 b.k, .int .i64 b.n, .string b.s] 102)
  go_enter Tryz.func223, Tryz.ntmps223
  go_wp2_with (go_at_call 224; refine (cmps_any _ _ _).mono ?_; rintro e w' ⟨rfl, rfl⟩)
  go_ret
  exact ⟨rfl, hB⟩

set_option maxRecDepth 100000 in
set_option maxHeartbeats 4000000 in
theorem CompareValues_g (a b : Val) (w : World) : Calls Tryz.prog 182 #[.agg #[.int .i64 a.k, .int .i64 a.n, .string a.s], .agg #[.int .i64 b.k, .int .i64 b.n, .string b.s]] w (RetG w (.int .i64 (cmpV a b))) := by
  have hB := gb_two (w := w) (.cells #[.int .i64 a.k, .int .i64 a.n, .string a.s] 102) (.cells #[.int .i64 b.k, .int .i64 b.n, .string b.s] 102)
  have x1 := (Blk.new w 102 #[.int .i64 a.k, .int .i64 a.n, .string a.s]).alloc (.cells #[.int .i64 b.k, .int .i64 b.n, .string b.s] 102)
  have x2 := Blk.new (w.alloc (.cells #[.int .i64 a.k, .int .i64 a.n, .string a.s] 102)) 102 #[.int .i64 b.k, .int .i64 b.n, .string b.s]
  rw [World.size_alloc] at x2
  go_enter Tryz.func182, Tryz.ntmps182
  go_wp2_with fail
  obtain ⟨W0, hW0⟩ : ∃ W0, (w.alloc (.cells #[.int .i64 a.k, .int .i64 a.n, .string a.s] 102)).alloc (.cells #[.int .i64 b.k, .int .i64 b.n, .string b.s] 102) = W0 := ⟨_, rfl⟩
  rw [hW0] at hB x1 x2 ⊢
  clear hW0
  have l1 := x1.lt
  have l2 := x2.lt
  refine (kind_g a W0).mono ?_
  rintro e W1 ⟨rfl, hB1⟩
  have y1 := x1.below hB1.b l1
  have y2 := x2.below hB1.b l2
  have hB01 := gstep hB hB1
  have c0 := y2.cell 0
  have c1 := y2.cell 1
  have c2 := y2.cell 2
  simp at c0 c1 c2
  have l3 := hB1.size
  clear x1 x2 hB hB1
  go_wp2_with fail
  refine (kind_g b W1).mono ?_
  rintro e W2 ⟨rfl, hB2⟩
  have z1 := y1.below hB2.b (by omega)
  have z2 := y2.below hB2.b (by omega)
  have hB02 := gstep hB01 hB2
  have l4 := hB2.size
  clear y1 y2 hB01 hB2 c0 c1 c2
  go_wp2_with fail
  refine (cmpi_any (cls a) (cls b) W2).mono ?_
  rintro e w' ⟨rfl, rfl⟩
  by_cases h0 : cmpI (cls a) (cls b) = 0
  · have HV0 := hide (fun h => cmpV_0 (a := a) (b := b) h h0)
    have HV1 := hide (fun h => cmpV_1 (a := a) (b := b) h h0)
    have HV2 := hide (fun h => cmpV_2 (a := a) (b := b) h h0)
    rw [h0]
    clear h0
    have p0 := fun (p : GBW W2) => GBW.cell (a := ⟨w.heap.size, 0, none⟩) (by show w.heap.size < _; omega) (z1.cell 0) p
    have p1 := fun (p : GBW W2) => GBW.cell (a := ⟨w.heap.size, 1, none⟩) (by show w.heap.size < _; omega) (z1.cell 1) p
    have p2 := fun (p : GBW W2) => GBW.cell (a := ⟨w.heap.size, 2, none⟩) (by show w.heap.size < _; omega) (z1.cell 2) p
    have q0 := fun (p : GBW W2) => GBW.cell (a := ⟨w.heap.size + 1, 0, none⟩) (by show w.heap.size + 1 < _; omega) (z2.cell 0) p
    have q1 := fun (p : GBW W2) => GBW.cell (a := ⟨w.heap.size + 1, 1, none⟩) (by show w.heap.size + 1 < _; omega) (z2.cell 1) p
    have q2 := fun (p : GBW W2) => GBW.cell (a := ⟨w.heap.size + 1, 2, none⟩) (by show w.heap.size + 1 < _; omega) (z2.cell 2) p
    simp at p0 p1 p2 q0 q1 q2
    have C1 := hide (fun (p : GBW W2) => calls_gbw (p := p) (cv1_g a b p.x))
    have C2 := hide (fun (p : GBW W2) => calls_gbw (p := p) (cv2_g a b p.x))
    have C3 := hide (fun (p : GBW W2) => calls_gbw (p := p) (cv3_g a b p.x))
    obtain ⟨x, hx⟩ : ∃ x, cls a = x := ⟨_, rfl⟩
    have hc := cls_cases a
    rw [hx] at hc HV0 HV1 HV2 ⊢
    clear hx l1 l2 l3 l4 z1 z2
    rcases hc with rfl | rfl | rfl
    · have hI := fun W => hix 0 _ rfl (by omega) (by omega) W
      go_wp2_with fail
      (refine wp_region_quiet_gbw (by kernel_rfl) (by kernel_rfl) ?_
       repeat (first | go_big_quiet_step (((go_at_call 221; exact C1.out _))) | quiet_step (((go_at_call 221; exact C1.out _))))
       refine wpQuiet_nil ?_
       intro wq hw'
       obtain ⟨⟨_, hbq⟩, hw''⟩ := hw'
       subst hw'')
      have HE := hide (gstep hB02 hbq)
      clear hbq p0 p1 p2 q0 q1 q2 hB02
      go_wp2
      go_ret
      exact ⟨ret_int (HV0.out (by first | rfl | trivial)).symm, HE.out⟩
    · have hI := fun W => hix 1 _ rfl (by omega) (by omega) W
      go_wp2_with fail
      (refine wp_region_quiet_gbw (by kernel_rfl) (by kernel_rfl) ?_
       repeat (first | go_big_quiet_step (((go_at_call 222; exact C2.out _))) | quiet_step (((go_at_call 222; exact C2.out _))))
       refine wpQuiet_nil ?_
       intro wq hw'
       obtain ⟨⟨_, hbq⟩, hw''⟩ := hw'
       subst hw'')
      have HE := hide (gstep hB02 hbq)
      clear hbq p0 p1 p2 q0 q1 q2 hB02
      go_wp2
      go_ret
      exact ⟨ret_int (HV1.out (by first | rfl | trivial)).symm, HE.out⟩
    · have hI := fun W => hix 2 _ rfl (by omega) (by omega) W
      go_wp2_with fail
      (refine wp_region_quiet_gbw (by kernel_rfl) (by kernel_rfl) ?_
       repeat (first | go_big_quiet_step (((go_at_call 223; exact C3.out _))) | quiet_step (((go_at_call 223; exact C3.out _))))
       refine wpQuiet_nil ?_
       intro wq hw'
       obtain ⟨⟨_, hbq⟩, hw''⟩ := hw'
       subst hw'')
      have HE := hide (gstep hB02 hbq)
      clear hbq p0 p1 p2 q0 q1 q2 hB02
      go_wp2
      go_ret
      exact ⟨ret_int (HV2.out (by first | rfl | trivial)).symm, HE.out⟩
  · have HV := hide (cmpV_ne h0)
    obtain ⟨x, hx⟩ : ∃ x, cmpI (cls a) (cls b) = x := ⟨_, rfl⟩
    rw [hx] at h0 HV ⊢
    have n1 : (x != 0) = true := by simpa using h0
    clear h0 hx z1 z2
    go_wp2
    go_ret
    exact ⟨ret_int HV.out.symm, hB02⟩
end

section
open Go.RowKit
attribute [local go_sem] Oper.semAt_some
set_option linter.unusedVariables false

set_option maxRecDepth 100000 in
set_option maxHeartbeats 4000000 in
theorem cmpf_g (A : Option Addr) (n c : Nat) (x : Rw) (A' : Option Addr) (n' c' : Nat) (y : Rw) (w : World) (hx : Reads w w.heap.size 3 A n (x.flatMap encV)) (hy : Reads w w.heap.size 3 A' n' (y.flatMap encV)) (hn : n ≤ 9223372036854775807) :
    Calls Tryz.prog 181 #[.slice A n c, .slice A' n' c', .func (Fn.func 182) #[] #[]] w (RetG w (.int .i64 (cmpR x y))) := by
  have HL := hide (hx.len encV_len (by omega))
  have HL' := hide (hy.len encV_len (by omega))
  go_enter Tryz.func181, Tryz.ntmps181
  go_wp2_with fail
  go_loopw [13] (fun i wr => ∃ k : Nat, k ≤ n ∧ i = .int .i64 k ∧ (∀ i, i < k → ∃ a b, x[i]? = some a ∧ y[i]? = some b ∧ cmpV a b = 0) ∧ GB w.heap.size w wr) (fun i _ => n - (intOf i).toNat)
  case atStart => exact ⟨0, Nat.zero_le _, rfl, fun i hi => absurd hi (Nat.not_lt_zero _), GB.refl _ _⟩
  case round =>
    obtain ⟨k, hk, rfl, heq, hBw⟩ := hrel
    have HE := hide heq
    clear heq
    by_cases hlt : k < n
    · obtain ⟨b, off, e, rfl, hb, hek, hce⟩ := hx.below hBw.b |>.elem encV_len HL.out hlt
      have HEK := hide hek
      have e0 : wr.cell? ⟨b, off + k * 3, none⟩ = some (.int .i64 e.k) := by simpa using hce 0 _ rfl
      have e1 : wr.cell? ⟨b, off + k * 3 + 1, none⟩ = some (.int .i64 e.n) := by simpa [← Nat.add_assoc] using hce 1 _ rfl
      have e2 : wr.cell? ⟨b, off + k * 3 + 2, none⟩ = some (.string e.s) := by simpa [← Nat.add_assoc] using hce 2 _ rfl
      clear hce hek
      have q1 : (0 : Int) ≤ (k : Int) := by omega
      have q2 : (k : Int) < (n : Int) := by omega
      by_cases hlt' : k < n'
      · obtain ⟨b', off', e', rfl, hb', hek', hce'⟩ := hy.below hBw.b |>.elem encV_len HL'.out hlt'
        have HEK' := hide hek'
        have f0 : wr.cell? ⟨b', off' + k * 3, none⟩ = some (.int .i64 e'.k) := by simpa using hce' 0 _ rfl
        have f1 : wr.cell? ⟨b', off' + k * 3 + 1, none⟩ = some (.int .i64 e'.n) := by simpa [← Nat.add_assoc] using hce' 1 _ rfl
        have f2 : wr.cell? ⟨b', off' + k * 3 + 2, none⟩ = some (.string e'.s) := by simpa [← Nat.add_assoc] using hce' 2 _ rfl
        clear hce' hek'
        have q3 : (k : Int) < (n' : Int) := by omega
        have hws := hBw.size
        have g0 := (World.cell?_alloc_lt wr (.cells #[.int .i64 e.k, .int .i64 e.n, .string e.s] 102) ⟨b', off' + k * 3, none⟩ (by show b' < _; omega)).trans f0
        have g1 := (World.cell?_alloc_lt wr (.cells #[.int .i64 e.k, .int .i64 e.n, .string e.s] 102) ⟨b', off' + k * 3 + 1, none⟩ (by show b' < _; omega)).trans f1
        have g2 := (World.cell?_alloc_lt wr (.cells #[.int .i64 e.k, .int .i64 e.n, .string e.s] 102) ⟨b', off' + k * 3 + 2, none⟩ (by show b' < _; omega)).trans f2
        have hBa := hBw.trans ((gb_two (w := wr) (.cells #[.int .i64 e.k, .int .i64 e.n, .string e.s] 102) (.cells #[.int .i64 e'.k, .int .i64 e'.n, .string e'.s] 102)).mono hws)
        go_wp2_with fail
        refine (CompareValues_g e e' _).mono ?_
        rintro ee w1 ⟨rfl, hB1⟩
        have hB2 := gstep hBa hB1
        by_cases hc : cmpV e e' = 0
        · have HX := hide (show ∀ i, i < k + 1 → ∃ a b, x[i]? = some a ∧ y[i]? = some b ∧ cmpV a b = 0 from fun i hi => by
            by_cases h : i = k
            · subst h; exact ⟨e, e', HEK.out, HEK'.out, hc⟩
            · exact HE.out i (by omega))
          rw [hc]
          clear hc hB1 hBa hBw e0 e1 e2 f0 f1 f2 g0 g1 g2
          go_wp2
          go_roundw
          case rel => exact ⟨k + 1, by omega, by go_num, HX.out, hB2⟩
          case measure => simp [intOf]; omega
        · have HX := hide (cmpR_at HE.out HEK.out HEK'.out hc)
          obtain ⟨z, hz⟩ : ∃ z, cmpV e e' = z := ⟨_, rfl⟩
          rw [hz] at hc HX ⊢
          have n1 : (z != 0) = true := by simpa using hc
          clear hc hz hB1 hBa hBw e0 e1 e2 f0 f1 f2 g0 g1 g2
          go_wp2
          go_ret
          exact ⟨ret_int HX.out.symm, hB2⟩
      · have HX := hide (cmpR_gt HE.out (by rw [HL.out]; exact hlt) (by rw [HL'.out]; omega))
        have hB2 := hBw.trans ((gb_val (w := wr) #[.int .i64 e.k, .int .i64 e.n, .string e.s] 102).mono hBw.size)
        go_wp2
        go_ret
        exact ⟨ret_int HX.out.symm, hB2⟩
    · obtain rfl : k = n := by omega
      have HX := hide (cmpR_end HE.out (by rw [HL.out]; exact Nat.le_refl _))
      by_cases h : k < n'
      · have HY := hide (show cmpR x y = -1 from by rw [HX.out, if_pos (by rw [HL'.out]; exact h)])
        go_wp2
        go_ret
        exact ⟨ret_int HY.out.symm, hBw⟩
      · have HY := hide (show cmpR x y = 0 from by rw [HX.out, if_neg (by rw [HL'.out]; exact h)])
        go_wp2
        go_ret
        exact ⟨ret_int HY.out.symm, hBw⟩
theorem Compare_g (A : Option Addr) (n c : Nat) (x : Rw) (A' : Option Addr) (n' c' : Nat) (y : Rw) (w : World) (hx : Reads w w.heap.size 3 A n (x.flatMap encV)) (hy : Reads w w.heap.size 3 A' n' (y.flatMap encV)) (hn : n ≤ 9223372036854775807) :
    Calls Tryz.prog 130 #[.slice A n c, .slice A' n' c'] w (RetG w (.int .i64 (cmpR x y))) := by
  go_enter Tryz.func130, Tryz.ntmps130
  go_wp2_with fail
  refine (cmpf_g A n c x A' n' c' y w hx hy hn).mono ?_
  rintro ee w1 ⟨rfl, hB1⟩
  go_wp2
  go_ret
  exact ⟨rfl, hB1⟩
end

section
open Go.Shelf Go.Lib Go.Sort
open Go.RowKit (Below)
attribute [local go_sem] Oper.semAt_some
set_option linter.unusedVariables false
set_option linter.unusedSimpArgs false

theorem swo_tot {α : Type} {f : α → α → Int} (h : Tot f) : SWO (ltOf f) where
  irrefl x := by show decide (f x x < 0) = false; rw [h.self]; rfl
  trans x y z h1 h2 := by
    have h1' : decide (f x y < 0) = true := h1
    have h2' : decide (f y z < 0) = true := h2
    show decide (f x z < 0) = true
    rw [decide_eq_true_iff] at *
    exact h.lt1 _ _ _ h1' (Int.le_of_lt h2')
  ntrans x y z h1 h2 := by
    have h1' : decide (f x y < 0) = false := h1
    have h2' : decide (f y z < 0) = false := h2
    show decide (f x z < 0) = false
    rw [decide_eq_false_iff_not] at *
    have a1 := h.anti x y
    have a2 := h.anti y z
    have a3 := h.anti x z
    have := h.le z y x (by omega) (by omega)
    omega
/-- What the sort leaves. -/
def RetSortI (w : World) (g n B : Nat) (l : List It) (cf : It → It → Int) (e : Ending) (w' : World) : Prop := e = .returned (.tuple #[]) ∧ ∃ l' : List It, l'.Perm l ∧ l'.Pairwise (fun x y => ¬ cf y x < 0) ∧ Reads w' w'.heap.size 2 (some ⟨g, 0, none⟩) n (l'.flatMap encIt) ∧ Rows_ w' B l' ∧ Bar w.heap.size [g] w w'
end

section
open Go.RowKit
attribute [local go_sem] Oper.semAt_some
set_option linter.unusedVariables false
set_option linter.unusedSimpArgs false

/-- The block of a row. -/
def obl (v : Value) : List Nat := v.ownBlock.toList
def RetDelV (w : World) (base : Nat) (v : Value) (l : List It) (e : Ending) (w' : World) : Prop := ∃ v', e = .returned v' ∧ w'.ownsRow base 119 2 v' l.length (l.flatMap encIt) ∧ v'.ownBlock = v.ownBlock ∧ Bar w.heap.size (obl v) w w'
def RetSortV (w : World) (B : Nat) (v : Value) (l : List It) (cf : It → It → Int) (e : Ending) (w' : World) : Prop := e = .returned (.tuple #[]) ∧ ∃ (l' : List It) (A : Option Addr) (n c : Nat), v = .slice A n c ∧ n ≤ c ∧ l'.Perm l ∧ l'.Pairwise (fun x y => ¬ cf y x < 0) ∧ Reads w' w'.heap.size 2 A n (l'.flatMap encIt) ∧ Rows_ w' B l' ∧ Bar w.heap.size (obl v) w w'
end

section
/-- The digits at base 16. -/
def hexL : List UInt8 := [48, 49, 50, 51, 52, 53, 54, 55, 56, 57, 97, 98, 99, 100, 101, 102]
def hexB (d : Nat) : UInt8 := hexL.getD d 0
/-- A byte within quotes. -/
def qB (c : UInt8) : List UInt8 := if c.toNat = 34 ∨ c.toNat = 92 then [92, c] else if c.toNat = 10 then [92, 110] else if c.toNat < 32 ∨ 126 < c.toNat then [92, 120, hexB (c.toNat / 16), hexB (c.toNat % 16)] else [c]
def quoB (l : List UInt8) : List UInt8 := 34 :: (l.flatMap qB ++ [34])
/-- A value's text; a row's. -/
def valT (v : Val) : List UInt8 := if v.k = 1 then Lib.itoa v.n else if v.k = 2 then quoB v.s.data.toList else [126]
def rowT (r : Rw) : List UInt8 := if okR r = true then Lib.join (r.map valT) [44] else []
theorem qB_len (c : UInt8) : (qB c).length ≤ 4 := by
  unfold qB
  split
  · simp
  · split
    · simp
    · split <;> simp
theorem flat_qB_len (l : List UInt8) : (l.flatMap qB).length ≤ 4 * l.length := by
  induction l with
  | nil => simp
  | cons c l ih =>
    have := qB_len c
    simp only [List.flatMap_cons, List.length_append, List.length_cons]
    omega
theorem quoB_len (l : List UInt8) : (quoB l).length ≤ 4 * l.length + 2 := by
  have := flat_qB_len l
  unfold quoB
  simp only [List.length_cons, List.length_append, List.length_nil]
  omega
theorem okV_cases {v : Val} (h : okV v = true) : (v.k = 0 ∧ v.n = 0 ∧ v.s.size = 0) ∨ (v.k = 1 ∧ v.s.size = 0 ∧ -1000000000000000 ≤ v.n ∧ v.n ≤ 1000000000000000) ∨ (v.k = 2 ∧ v.n = 0 ∧ v.s.size ≤ 200) := by
  unfold okV at h
  simp only [Bool.or_eq_true, Bool.and_eq_true, beq_iff_eq, decide_eq_true_eq] at h
  rcases h with (h | h) | h
  · exact .inl ⟨h.1.1, h.1.2, h.2⟩
  · exact .inr (.inl ⟨h.1.1.1, h.1.1.2, h.1.2, h.2⟩)
  · exact .inr (.inr ⟨h.1.1, h.1.2, h.2⟩)
theorem valT_len {v : Val} (h : okV v = true) : (valT v).length ≤ 802 := by
  unfold valT
  rcases okV_cases h with ⟨h0, _, _⟩ | ⟨h1, _, h2, h3⟩ | ⟨h1, _, h2⟩
  · simp [h0]
  · rw [if_pos h1]
    exact Nat.le_trans (Lib.itoa_length_le v.n (by omega) (by omega)) (by omega)
  · rw [if_neg (by omega), if_pos h1]
    have h3 := quoB_len v.s.data.toList
    have h4 : v.s.data.toList.length = v.s.size := rfl
    omega
theorem join_len_le {l : List (List UInt8)} {M : Nat} (h : ∀ x ∈ l, x.length ≤ M) : (Lib.join l [44]).length ≤ l.length * (M + 1) := by
  cases l with
  | nil => simp [Lib.join_nil]
  | cons x l =>
    rw [Lib.join_length]
    have h2 : Lib.lens (x :: l) ≤ (x :: l).length * M := by
      revert h
      generalize x :: l = m
      intro h
      induction m with
      | nil => simp [Lib.lens]
      | cons y m ih =>
        have h1 := h y List.mem_cons_self
        have h3 := ih fun z hz => h z (List.mem_cons_of_mem _ hz)
        simp only [Lib.lens, List.map_cons, List.sum_cons, List.length_cons] at h3 ⊢
        rw [Nat.add_mul]
        omega
    simp only [List.length_cons, List.length_nil] at h2 ⊢
    have h4 : (l.length + 1) * (M + 1) = (l.length + 1) * M + (l.length + 1) := by rw [Nat.mul_add, Nat.mul_one]
    omega
theorem okR_len {r : Rw} (h : okR r = true) : r.length ≤ 8 := by
  unfold okR at h
  rw [Bool.and_eq_true, decide_eq_true_eq] at h
  exact h.2
theorem okR_mem {r : Rw} (h : okR r = true) {v : Val} (hv : v ∈ r) : okV v = true := List.all_eq_true.1 (okR_all h) v hv
theorem part_len {r : Rw} (h : okR r = true) (k : Nat) : (Lib.join ((r.take k).map valT) [44]).length ≤ 6424 := by
  have h1 := join_len_le (l := (r.take k).map valT) (M := 802) fun x hx => by
    rw [List.mem_map] at hx
    obtain ⟨v, hv, rfl⟩ := hx
    exact valT_len (okR_mem h (List.mem_of_mem_take hv))
  have h2 := okR_len h
  rw [List.length_map, List.length_take] at h1
  have h3 : min k r.length ≤ 8 := by omega
  have h4 := Nat.mul_le_mul_right 803 h3
  exact Nat.le_trans h1 h4
end

section
set_option linter.unusedSimpArgs false

/-- The number that digits tell. -/
def dval (l : List UInt8) : Nat := l.foldl (fun a c => 10 * a + (c.toNat - 48)) 0
theorem dval_snoc (l : List UInt8) (c : UInt8) : dval (l ++ [c]) = 10 * dval l + (c.toNat - 48) := by simp [dval]
theorem dig_nat {d : Nat} (h : d < 10) : (UInt8.ofNat (48 + d)).toNat = 48 + d := by
  rw [UInt8.toNat_ofNat']
  omega
theorem dec_all (u : Nat) : (∀ c ∈ Lib.decDigits u, 48 ≤ c.toNat ∧ c.toNat ≤ 57) ∧ dval (Lib.decDigits u) = u ∧ Lib.decDigits u ≠ [] := by
  induction u using Nat.strongRecOn with
  | _ u ih =>
    rw [Lib.decDigits]
    split
    · rename_i h
      refine ⟨fun c hc => ?_, ?_, by simp⟩
      · rw [List.mem_singleton] at hc
        subst hc
        rw [dig_nat h]; omega
      · show 10 * 0 + ((UInt8.ofNat (48 + u)).toNat - 48) = u
        rw [dig_nat h]; omega
    · rename_i h
      obtain ⟨h1, h2, h3⟩ := ih (u / 10) (by omega)
      have hm : u % 10 < 10 := Nat.mod_lt _ (by omega)
      refine ⟨fun c hc => ?_, ?_, by simp⟩
      · rcases List.mem_append.1 hc with hc | hc
        · exact h1 c hc
        · rw [List.mem_singleton] at hc
          subst hc
          rw [dig_nat hm]; omega
      · rw [dval_snoc, h2, dig_nat hm]; omega
theorem itoa_all (n : Int) : ∃ c l, Lib.itoa n = c :: l ∧ (c.toNat = 45 ∨ (48 ≤ c.toNat ∧ c.toNat ≤ 57)) ∧ ∀ x ∈ Lib.itoa n, x.toNat ≠ 44 := by
  unfold Lib.itoa
  split
  · obtain ⟨h1, _, _⟩ := dec_all n.natAbs
    refine ⟨45, _, rfl, .inl rfl, fun x hx => ?_⟩
    rcases List.mem_cons.1 hx with rfl | hx
    · decide
    · have := h1 x hx; omega
  · obtain ⟨h1, _, h3⟩ := dec_all n.toNat
    cases hd : Lib.decDigits n.toNat with
    | nil => exact absurd hd h3
    | cons c l =>
      rw [hd] at h1
      exact ⟨c, l, rfl, .inr (h1 c List.mem_cons_self), fun x hx => by have := h1 x hx; omega⟩
theorem itoa_inj {a b : Int} (h : Lib.itoa a = Lib.itoa b) : a = b := by
  unfold Lib.itoa at h
  obtain ⟨h1, h2, h3⟩ := dec_all a.natAbs
  obtain ⟨k1, k2, k3⟩ := dec_all b.natAbs
  obtain ⟨h1', h2', h3'⟩ := dec_all a.toNat
  obtain ⟨k1', k2', k3'⟩ := dec_all b.toNat
  split at h
  · split at h
    · have := congrArg dval (List.cons.inj h).2
      rw [h2, k2] at this
      omega
    · exfalso
      have := k1' 45 (by rw [← h]; exact List.mem_cons_self)
      simp at this
  · split at h
    · exfalso
      have := h1' 45 (by rw [h]; exact List.mem_cons_self)
      simp at this
    · have := congrArg dval h
      rw [h2', k2'] at this
      omega

/-- A text that stands in front of nothing or of a comma. -/
def Fin_ (s : List UInt8) : Prop := s = [] ∨ ∃ r, s = 44 :: r
theorem pre_inj {x y s t : List UInt8} (hx : ∀ c ∈ x, c.toNat ≠ 44) (hy : ∀ c ∈ y, c.toNat ≠ 44) (hs : Fin_ s) (ht : Fin_ t) (h : x ++ s = y ++ t) : x = y ∧ s = t := by
  induction x generalizing y with
  | nil =>
    cases y with
    | nil => exact ⟨rfl, h⟩
    | cons c y =>
      exfalso
      rcases hs with rfl | ⟨r, rfl⟩
      · simp at h
      · simp at h
        have := hy c List.mem_cons_self
        rw [← h.1] at this
        exact this rfl
  | cons c x ih =>
    cases y with
    | nil =>
      exfalso
      rcases ht with rfl | ⟨r, rfl⟩
      · simp at h
      · simp at h
        have := hx c List.mem_cons_self
        rw [h.1] at this
        exact this rfl
    | cons d y =>
      simp at h
      obtain ⟨rfl, h⟩ := h
      obtain ⟨h1, h2⟩ := ih (fun c hc => hx c (List.mem_cons_of_mem _ hc)) (fun c hc => hy c (List.mem_cons_of_mem _ hc)) h
      exact ⟨by rw [h1], h2⟩

/-- A byte within quotes, read again. -/
def hexV (c : UInt8) : Nat := if c.toNat < 58 then c.toNat - 48 else c.toNat - 87
theorem hexV_B : ∀ d : Fin 16, hexV (hexB d.val) = d.val := by decide
def deq : List UInt8 → Option (UInt8 × List UInt8)
  | [] => none
  | c :: r => if c = 92 then (match r with
      | [] => none
      | d :: r => if d = 120 then (match r with
          | a :: b :: r => some (UInt8.ofNat (16 * hexV a + hexV b), r)
          | _ => none) else if d = 110 then some (10, r) else some (d, r)) else some (c, r)
theorem u8_of {c : UInt8} {n : Nat} (hn : n < 256) (h : c.toNat = n) : c = UInt8.ofNat n := by
  apply UInt8.toNat_inj.1
  rw [h, UInt8.toNat_ofNat']
  omega
theorem deq_qB (c : UInt8) (x : List UInt8) : deq (qB c ++ x) = some (c, x) := by
  have hc := c.toNat_lt
  unfold qB
  split
  · rename_i h
    rcases h with h | h
    · obtain rfl : c = 34 := u8_of (n := 34) (by decide) h
      rfl
    · obtain rfl : c = 92 := u8_of (n := 92) (by decide) h
      rfl
  · rename_i h
    split
    · rename_i h2
      obtain rfl : c = 10 := u8_of (n := 10) (by decide) h2
      rfl
    · split
      · have h1 := hexV_B ⟨c.toNat / 16, by omega⟩
        have h2 := hexV_B ⟨c.toNat % 16, by omega⟩
        show deq (92 :: 120 :: hexB (c.toNat / 16) :: hexB (c.toNat % 16) :: x) = _
        simp only [deq, if_true]
        rw [h1, h2]
        have h3 : 16 * (c.toNat / 16) + c.toNat % 16 = c.toNat := by omega
        show some (UInt8.ofNat (16 * (c.toNat / 16) + c.toNat % 16), x) = _
        rw [h3, ← u8_of hc rfl]
      · have h3 : c ≠ 92 := fun e => by subst e; exact h (.inr rfl)
        show deq (c :: x) = _
        simp only [deq, if_neg h3]
theorem qB_head (c : UInt8) : ∃ d r, qB c = d :: r ∧ d ≠ 34 := by
  unfold qB
  split
  · exact ⟨92, [c], rfl, by decide⟩
  · rename_i h
    split
    · exact ⟨92, [110], rfl, by decide⟩
    · split
      · exact ⟨92, _, rfl, by decide⟩
      · exact ⟨c, [], rfl, fun e => by subst e; exact h (.inl rfl)⟩
theorem quo_inj : ∀ {l m s t : List UInt8}, l.flatMap qB ++ 34 :: s = m.flatMap qB ++ 34 :: t → l = m ∧ s = t
  | [], [], s, t, h => by simpa using h
  | [], c :: m, s, t, h => by
    obtain ⟨d, r, h1, h2⟩ := qB_head c
    rw [List.flatMap_cons, h1] at h
    simp at h
    exact absurd h.1.symm h2
  | c :: l, [], s, t, h => by
    obtain ⟨d, r, h1, h2⟩ := qB_head c
    rw [List.flatMap_cons, h1] at h
    simp at h
    exact absurd h.1 h2
  | c :: l, d :: m, s, t, h => by
    rw [List.flatMap_cons, List.flatMap_cons, List.append_assoc, List.append_assoc] at h
    have h1 := congrArg deq h
    rw [deq_qB, deq_qB] at h1
    injection h1 with h1
    injection h1 with h1 h2
    obtain ⟨h3, h4⟩ := quo_inj h2
    exact ⟨by rw [h1, h3], h4⟩

theorem valT_inj {a b : Val} (ha : okV a = true) (hb : okV b = true) {s t : List UInt8} (hs : Fin_ s) (ht : Fin_ t) (h : valT a ++ s = valT b ++ t) : a = b ∧ s = t := by
  obtain ⟨ak, an, aS⟩ := a
  obtain ⟨bk, bn, bs⟩ := b
  obtain ⟨c, l, e1, e2, e3⟩ := itoa_all an
  obtain ⟨d, m, f1, f2, f3⟩ := itoa_all bn
  rcases okV_cases ha with ⟨h0, h1, h2⟩ | ⟨h0, h1, _⟩ | ⟨h0, h1, _⟩ <;> rcases okV_cases hb with ⟨k0, k1, k2⟩ | ⟨k0, k1, _⟩ | ⟨k0, k1, _⟩ <;> simp only at h0 h1 k0 k1 <;> subst h0 k0 <;> simp only [valT] at h
  · simp at h
    simp only at h2 k2
    rw [h1, k1, empty_of_size h2, empty_of_size k2]
    exact ⟨rfl, h⟩
  · exfalso
    rw [f1] at h
    simp at h
    rw [← h.1] at f2
    simp at f2
  · exfalso
    simp [quoB] at h
  · exfalso
    rw [e1] at h
    simp at h
    rw [h.1] at e2
    simp at e2
  · simp at h
    obtain ⟨h3, h4⟩ := pre_inj e3 f3 hs ht h
    have := itoa_inj h3
    rw [this, empty_of_size h1, empty_of_size k1]
    exact ⟨rfl, h4⟩
  · exfalso
    rw [e1] at h
    simp [quoB] at h
    rw [h.1] at e2
    simp at e2
  · exfalso
    simp [quoB] at h
  · exfalso
    rw [f1] at h
    simp [quoB] at h
    rw [← h.1] at f2
    simp at f2
  · simp only [quoB, List.cons_append, List.append_assoc, List.singleton_append] at h
    simp at h
    obtain ⟨h3, h4⟩ := quo_inj (s := s) (t := t) (by simpa using h)
    have : aS = bs := by
      obtain ⟨⟨aS⟩⟩ := aS
      obtain ⟨⟨bs⟩⟩ := bs
      simpa using h3
    rw [h1, k1, this]
    exact ⟨rfl, h4⟩
theorem valT_ne {v : Val} : ∃ c l, valT v = c :: l := by
  unfold valT
  split
  · obtain ⟨c, l, h, _⟩ := itoa_all v.n
    exact ⟨c, l, h⟩
  · split
    · exact ⟨_, _, rfl⟩
    · exact ⟨_, _, rfl⟩
end

section
/-- The place of a text among the rows. -/
def gidx (d : Bg) (t : List UInt8) : Option Nat := d.findIdx? fun x => decide (rowT x.1 = t)
/-- One row more, so many times. -/
def gstepB (d : Bg) (x : Rw × Int) : Bg := match gidx d (rowT x.1) with
  | some i => d.set i (x.1, (d.getD i ([], 0)).2 + x.2)
  | none => d ++ [x]
def gat (xs : Bg) : Bg := xs.foldl gstepB []
/-- How often a row is told. -/
def sumG : Bg → Rw → Int
  | [], _ => 0
  | x :: xs, r => (if x.1 = r then x.2 else 0) + sumG xs r
/-- What is known of the rows that are gathered. -/
structure GatOk (xs d : Bg) : Prop where
  ok : ∀ x ∈ d, okR x.1 = true
  apart : d.Pairwise fun x y => x.1 ≠ y.1
  sum : ∀ r, look d r = sumG xs r
/-- A bag that tells how often rows were told. -/
structure Net (xs d : Bg) : Prop where
  asc : Asc d
  ne : ∀ x ∈ d, x.2 ≠ 0
  sum : ∀ r, look d r = sumG xs r
/-- What the reference's After computes. -/
def aftB (b l : Bg) : Bg := l.foldl (fun o x => putB o x.1 x.2) b
end

section
open Go.RowKit Go.Maps

/-- A value as it lies in a map: a token for itself. -/
def Rv (v : Value) : Option (DataW Value × List MemPlace) := some (.held v, [])
/-- Block b of w is a map of at most n entries that holds F. -/
def MapF (w : World) (P : Program) (k : TypeId) (b n : Nat) (F : Lit → Option Value) : Prop :=
  ∃ D : DataW Value, w.ownsMap P k Rv b n D ∧ IsMap D ∧ (∀ kl, Maps.has D kl = (F kl).isSome) ∧ ∀ kl z, D.atKey kl z = match F kl with | some v => .held v | none => z

section
variable {P : Program} {w w' : World} {k : TypeId} {b n : Nat} {F : Lit → Option Value}
theorem MapF.made (w : World) (P : Program) (k : TypeId) : MapF (w.alloc (.map #[] 0)) P k w.heap.size 0 (fun _ => none) :=
  ⟨.map [], World.ownsMap_made _ _ _ _, isMap_empty, fun _ => rfl, fun _ _ => rfl⟩
theorem MapF.kept {row : Option Nat} (h : MapF w P k b n F) (hg : w.grownBy w' row) (hne : some b ≠ row) : MapF w' P k b n F := by
  obtain ⟨D, h1, h2⟩ := h
  exact ⟨D, h1.kept hg hne, h2⟩
theorem MapF.mono (h : MapF w P k b n F) {m : Nat} (hm : n ≤ m) : MapF w P k b m F := by
  obtain ⟨D, h1, h2⟩ := h
  exact ⟨D, h1.mono hm, h2⟩
theorem MapF.lt (h : MapF w P k b n F) : b < w.heap.size := by
  obtain ⟨D, h1, _⟩ := h
  exact h1.lt
theorem MapF.block (h : MapF w P k b n F) (hk : w'.heap[b]? = w.heap[b]?) : MapF w' P k b n F := by
  obtain ⟨D, ⟨es, clock, h1, h2⟩, h3⟩ := h
  exact ⟨D, ⟨es, clock, hk.trans h1, h2⟩, h3⟩
theorem MapF.look {t e : TypeId} (h : MapF w P k b n F) (K : Keyed P k) (ht : P.underlying t = some (.map k e)) {z : Value} (hz : (zeroValue e).run P w = .ok z w) {key : Value} {kl : Lit} (hkey : keyOf P k key = some kl) :
    (Instr.lookup t (.map (some b)) key false).run P w = .ok ((F kl).getD z) w := by
  obtain ⟨D, h1, h2, h3, h4⟩ := h
  obtain ⟨v, ps, hrun, hv⟩ := h1.lookup K ht hz (show Rv z = some (.held z, []) from rfl) hkey
  rw [h4] at hv
  rw [hrun]
  congr 1
  unfold Rv at hv
  cases hF : F kl with
  | none => rw [hF] at hv; simp at hv; exact hv.1
  | some u => rw [hF] at hv; simp at hv; exact hv.1
theorem MapF.look_ok {t e : TypeId} (h : MapF w P k b n F) (K : Keyed P k) (ht : P.underlying t = some (.map k e)) {z : Value} (hz : (zeroValue e).run P w = .ok z w) {key : Value} {kl : Lit} (hkey : keyOf P k key = some kl) :
    (Instr.lookup t (.map (some b)) key true).run P w = .ok (.tuple #[(F kl).getD z, .bool (F kl).isSome]) w := by
  obtain ⟨D, h1, h2, h3, h4⟩ := h
  obtain ⟨v, ps, hrun, hv⟩ := h1.look_ok K ht hz (show Rv z = some (.held z, []) from rfl) hkey
  rw [h4] at hv
  rw [hrun, h3]
  congr 2
  unfold Rv at hv
  cases hF : F kl with
  | none => rw [hF] at hv; simp at hv; rw [hv.1]; rfl
  | some u => rw [hF] at hv; simp at hv; rw [hv.1]; rfl
open Classical in
/-- One entry more. -/
noncomputable def putF (F : Lit → Option Value) (kl : Lit) (v : Value) : Lit → Option Value := fun x => if x = kl then some v else F x
end
end

section
open Go.RowKit Go.Maps
end

section
open Go.RowKit

section
variable {F : Fence} {n : Nat} {P : Program} {α : Type}

/-- The iterator g over the list xs: Wr is what it does to memory between two rounds; Kp is what a round must keep. -/
def IterG (F : Fence) (n : Nat) (P : Program) (g : Nat) (lb : Array Value) (Arg : α → Array Value → World → Prop) (xs : List α) (Wr Kp : World → World → Prop) (W : World) : Prop :=
  ∀ (l : Nat) (J Jx : List α → World → Prop), (∀ s X Y, J s X → Wr X Y → J s Y) → (∀ s X Y, Jx s X → Wr X Y → Jx s Y) →
    (∀ pre x ag W1, pre ++ [x] <+: xs → J pre W1 → Arg x ag W1 → YieldAt F (n - 1) P l ag W1 fun e W' =>
      (e = .returned (.bool true) ∧ J (pre ++ [x]) W' ∧ Kp W1 W') ∨ (e = .returned (.bool false) ∧ Jx (pre ++ [x]) W' ∧ Kp W1 W')) →
    J [] W → CallsIn F n P g (#[.func (.yield l) #[] #[]] ++ lb) W fun e W' => (∃ v, e = .returned v) ∧ (J xs W' ∨ ∃ pre, pre <+: xs ∧ Jx pre W')

/-- .. of which is known, too, what holds of memory when all elements came. -/
def IterGF (F : Fence) (n : Nat) (P : Program) (g : Nat) (lb : Array Value) (Arg : α → Array Value → World → Prop) (xs : List α) (Wr Kp : World → World → Prop) (Fin : World → Prop) (W : World) : Prop :=
  ∀ (l : Nat) (J Jx : List α → World → Prop), (∀ s X Y, J s X → Wr X Y → J s Y) → (∀ s X Y, Jx s X → Wr X Y → Jx s Y) →
    (∀ pre x ag W1, pre ++ [x] <+: xs → J pre W1 → Arg x ag W1 → YieldAt F (n - 1) P l ag W1 fun e W' =>
      (e = .returned (.bool true) ∧ J (pre ++ [x]) W' ∧ Kp W1 W') ∨ (e = .returned (.bool false) ∧ Jx (pre ++ [x]) W' ∧ Kp W1 W')) →
    J [] W → CallsIn F n P g (#[.func (.yield l) #[] #[]] ++ lb) W fun e W' => (∃ v, e = .returned v) ∧ ((J xs W' ∧ Fin W') ∨ ∃ pre, pre <+: xs ∧ Jx pre W')
theorem IterG.f {g : Nat} {lb : Array Value} {Arg : α → Array Value → World → Prop} {xs : List α} {Wr Kp : World → World → Prop} {W : World} (h : IterG F n P g lb Arg xs Wr Kp W) : IterGF F n P g lb Arg xs Wr Kp (fun _ => True) W :=
  fun l J Jx h1 h2 h3 h4 => (h l J Jx h1 h2 h3 h4).mono fun _ _ h => ⟨h.1, h.2.imp (fun h => ⟨h, trivial⟩) id⟩
/-- How a round's body is left; what a round must keep is kept on each way. -/
def rndPostG (B : Nat) (Kp : World → World → Prop) (I : List α → World → Prop) (Ix : Code → List α → World → Prop) (s : List α) (W : World) : Exit → Act → World → Prop
  | .normal, _, W' => KeepsFrom B W W' ∧ Kp W W' ∧ I s W'
  | .ret, _, W' => KeepsFrom B W W' ∧ Kp W W' ∧ Ix .ret s W'
  | .exit id, _, W' => KeepsFrom B W W' ∧ Kp W W' ∧ Ix (.exit id) s W'
  | _, _, _ => False

end
end

section
open Go

section
variable {P : Program} {ops : Array Oper} {Q : Exit → Act → World → Prop} {md : Region.Mode} {S : World → Prop} {s : Nat}

/-- Every order from here on is good; behind each operation but s the world meets S. -/
def Held (P : Program) (md : Region.Mode) (ops : Array Oper) (Q : Exit → Act → World → Prop) (S : World → Prop) (s : Nat) : Nat → Array Bool → Act → World → Prop
  | 0, l, a, w => Region.ready md ops l = [] ∧ Q .normal a w
  | n + 1, l, a, w => (Region.ready md ops l = [] → Q .normal a w) ∧
      ∀ i ∈ Region.ready md ops l, wpOp P ops Q i (fun b x => (i ≠ s → S x) ∧ Held P md ops Q S s n (l.setIfInBounds i true) b x) a w

theorem Held.any : ∀ (n : Nat) (l : Array Bool) (a : Act) (w : World), Held P md ops Q S s n l a w → wpAny P md ops Q n l a w := by
  intro n
  induction n with
  | zero => intro l a w h; exact h
  | succ n ih => intro l a w h; exact ⟨h.1, fun i hi => wpOp_mono (fun b x hx => ih _ b x hx.2) (h.2 i hi)⟩

/-- An operation that s waits for, and that yields v wherever S holds, may go first. -/
theorem Held.first {i : Nat} {o : Oper} {v : Value} (hi : ops[i]? = some o) (hsel : ∀ (j : Nat) (o : Oper) cs b, ops[j]? = some o → o.op ≠ .select cs b)
    (hQ : ∀ c a w, Q (.panic c) (a.put o.dst v) w → Q (.panic c) a w) (hs : ∀ os, ops[s]? = some os → ∃ e ∈ os.after, Region.binds md e = true ∧ e.on = i) (n : Nat) :
    ∀ (l : Array Bool) (a : Act) (w : World),
      (∀ j oj, ops[j]? = some oj → j ≠ i → l.getD j true = false → (∀ e ∈ oj.after, Region.binds md e = true → e.on ≠ i) → o.apart ops oj = true) →
      i ∈ Region.ready md ops l → YieldsIf P ops S o v a → S w → Held P md ops Q S s n (l.setIfInBounds i true) (a.put o.dst v) w → Held P md ops Q S s (n + 1) l a w := by
  induction n with
  | zero =>
    intro l a w _ hr hy hS H
    constructor
    · intro h; rw [h] at hr; cases hr
    · intro j hj
      by_cases e : j = i
      · subst e; exact hy.wpOp hi hS ⟨fun _ => hS, H⟩
      · have h0 := ready_mono hj e
        rw [H.1] at h0; cases h0
  | succ n ih =>
    intro l a w hf hr hy hS H
    constructor
    · intro h; rw [h] at hr; cases hr
    · intro j hj
      by_cases e : j = i
      · subst e; exact hy.wpOp hi hS ⟨fun _ => hS, H⟩
      · obtain ⟨hun, oj, hoj, hall⟩ := mem_ready.1 hj
        have hno : ∀ e ∈ oj.after, Region.binds md e = true → e.on ≠ i := by
          intro x hx hb heq
          have g1 := hall x hx hb
          have g0 := (mem_ready.1 hr).1
          rw [heq] at g1
          by_cases hlt : i < l.size
          · simp [hlt] at g0 g1; rw [g0] at g1; cases g1
          · simp [Array.getElem?_eq_none (Nat.le_of_not_lt hlt)] at g1
        have hjs : j ≠ s := by
          rintro rfl
          obtain ⟨x, hx, hb, heq⟩ := hs oj hoj
          exact hno x hx hb heq
        have key := wpOp_putIf hoj (hf j oj hoj e hun hno) (fun cs b => hsel i o cs b hi) (fun cs b => hsel j oj cs b hoj) hQ hy (H.2 j (ready_mono hj e))
        refine wpOp_mono (fun b x hx => ⟨hx.2.1, ih _ b x ?_ (ready_mono hr (Ne.symm e)) hx.1 (hx.2.1 hjs) ?_⟩) key
        · intro k ok hk hki hu hn
          refine hf k ok hk hki ?_ hn
          by_cases ek : j = k
          · subst ek; exact hun
          · rwa [getD_set_ne true ek] at hu
        · rw [Array.setIfInBounds_comm _ _ e]; exact hx.2.2

/-- s waits for i: as a Bool that the kernel reckons. -/
def waitsB (md : Region.Mode) (ops : Array Oper) (s i : Nat) : Bool := match ops[s]? with
  | some o => o.after.any fun e => Region.binds md e && e.on == i
  | none => true
theorem waitsB_spec {s i : Nat} (h : waitsB md ops s i = true) : ∀ os, ops[s]? = some os → ∃ e ∈ os.after, Region.binds md e = true ∧ e.on = i := by
  intro os ho
  unfold waitsB at h
  rw [ho] at h
  obtain ⟨e, he, hb⟩ := Array.any_eq_true'.1 h
  simp only [Bool.and_eq_true, beq_iff_eq] at hb
  exact ⟨e, he, hb.1, hb.2⟩
theorem Held.take {i : Nat} {o : Oper} (v : Value) {n : Nat} {l : Array Bool} {a : Act} {w : World} (hi : ops[i]? = some o) (hS : S w)
    (hse : Region.noSelect ops = true) (hf : Region.free md ops l i = true) (hr : (Region.ready md ops l).contains i = true) (hw : waitsB md ops s i = true)
    (hQ : ∀ c a w, Q (.panic c) (a.put o.dst v) w → Q (.panic c) a w) (hg : o.guard = none) (hy : ∀ x, S x → (execOp a.eval o).run P x = .ok (.value v) x)
    (h : Held P md ops Q S s n (l.setIfInBounds i true) (a.put o.dst v) w) : Held P md ops Q S s (n + 1) l a w :=
  Held.first hi (Region.noSelect_spec hse) hQ (waitsB_spec hw) n l a w (Region.free_spec hi hf) (by simpa using hr) (.inl ⟨by simp [Region.wanted, hg], hy⟩) hS h
/-- One operation alone may come up: it is carried out where it stands. -/
theorem Held.one {i : Nat} {o : Oper} {n : Nat} {l : Array Bool} {a : Act} {w : World} (ho : ops[i]? = some o) (hr : Region.ready md ops l = [i]) (hg : o.guard = none)
    (h : ∀ K : Act → World → Prop, (∀ b x, (i ≠ s → S x) → Held P md ops Q S s n (l.setIfInBounds i true) b x → K b x) → Oper.wp P o a w K Q) : Held P md ops Q S s (n + 1) l a w := by
  constructor
  · intro h0; rw [hr] at h0; cases h0
  · intro j hj
    rw [hr] at hj
    obtain rfl : j = i := by simpa using hj
    refine wpOp_step ho (fun K hK => ?_)
    rw [if_pos (by simp [Region.wanted, hg])]
    exact h K (fun b x h1 h2 => hK b x ⟨h1, h2⟩)
theorem Held.done {n : Nat} {l : Array Bool} {a : Act} {w : World} (hr : Region.ready md ops l = []) (h : Q .normal a w) : Held P md ops Q S s n l a w := by
  cases n with
  | zero => exact ⟨hr, h⟩
  | succ n => exact ⟨fun _ => h, by rw [hr]; simp⟩
theorem Held.begin {id : Nat} {a : Act} {w : World} (S : World → Prop) (s : Nat) (hm : P.follows .mixedOrders = true)
    (h : Held P .any ops Q S s ops.size (Array.replicate ops.size false) a w.drew) : (Code.region id ops true).wp P Q a w :=
  wp_region_any hm (Held.any _ _ _ _ h)
end
end

section
open Go

section
variable {P : Program} {ops : Array Oper} {Q : Exit → Act → World → Prop} {md : Region.Mode} {n l : Nat}
theorem rowsIn_of {row : String} {args : Array Value} {w : World} {R : Value → World → Prop} (h : Rows P row args w R) : RowsIn (Fence.wide.inRound l) n P row args w R :=
  fun c cs _ => let ⟨v, w', r, s⟩ := h c cs; ⟨v, w', r, (stepsIn_wide (P := P)).2 s⟩
theorem opIn_of {o : Oper} {a : Act} {w : World} {K : Act → World → Prop} (hd : ∀ c, o.op ≠ .defer c) (h : o.wp P a w K Q) : o.wpIn (Fence.wide.inRound l) n P a w K Q := by
  unfold Oper.wpIn
  refine ⟨fun _ _ => trivial, ?_⟩
  rw [Oper.semAt_eq _ _ _ hd]
  unfold Oper.wp at h
  generalize (execOp a.eval o).run P w = r at *
  cases r with
  | ok x w' =>
    cases x <;> simp only [Oper.upon, Oper.uponIn] at h ⊢ <;>
      first
        | exact h
        | exact ⟨fun hc => (by have hc' : (none : Option Nat).isSome = true := hc; cases hc'), CallsIn.mono ((callsIn_wide.2 h).inRound l) (fun e _ he => by cases e <;> exact he)⟩
        | exact ⟨fun hc => (by have hc' : (none : Option Nat).isSome = true := hc; cases hc'), rowsIn_of h⟩
        | exact h.elim
  | halt x w' => cases x <;> simp only [Oper.upon, Oper.uponIn] at h ⊢ <;> exact h
def noDefer (ops : Array Oper) : Bool := ops.all fun o => match o.op with
  | .defer _ => false
  | _ => true
theorem noDefer_spec (h : noDefer ops = true) : ∀ (i : Nat) (o : Oper), ops[i]? = some o → ∀ c, o.op ≠ .defer c := by
  intro i o ho c hc
  unfold noDefer at h
  rw [Array.all_eq_true'] at h
  have := h o (Array.mem_of_getElem? ho)
  rw [hc] at this
  cases this
theorem anyIn_of (hd : noDefer ops = true) (hQ : ¬ LetsOut Q) : ∀ (k : Nat) (s : Array Bool) (a : Act) (w : World), wpAny P md ops Q k s a w → wpAnyIn (Fence.wide.inRound l) n P md ops Q k s a w := by
  have hop : ∀ (i : Nat) (a : Act) (w : World) (K : Act → World → Prop), wpOp P ops Q i K a w → wpOpIn (Fence.wide.inRound l) n P ops Q i K a w := fun i a w K h => by
    unfold wpOp at h
    unfold wpOpIn
    split
    · rename_i hn
      simpa [hn] using h
    · rename_i o ho
      simp only [ho] at h
      split
      · rename_i hw
        simp only [hw, if_true] at h
        exact opIn_of (noDefer_spec hd i o ho) (h.resolve_right fun e => hQ e.2)
      · rename_i hw
        simp only [hw] at h
        exact ⟨fun _ _ => trivial, h⟩
  intro k
  induction k with
  | zero => intro s a w h; exact h
  | succ k ih =>
    intro s a w h
    exact ⟨h.1, fun i hi => wpOpIn_mono (fun b x hx => ih _ b x hx) (hop i a w _ (h.2 i hi))⟩
/-- A region inside a round, by 'Held'. -/
theorem Held.beginR {id : Nat} {a : Act} {w : World} (S : World → Prop) (s : Nat) (hm : P.follows .mixedOrders = true) (hd : noDefer ops = true) (hQ : ¬ LetsOut Q)
    (h : Held P .any ops Q S s ops.size (Array.replicate ops.size false) a w.drew) : (Code.region id ops true).wpIn (Fence.wide.inRound l) n P Q a w :=
  wpIn_region_any hm (anyIn_of hd hQ _ _ _ _ (Held.any _ _ _ _ h))
end
end

end Go.Proofs.YtoapjidpfghnlaaGreatDoor
