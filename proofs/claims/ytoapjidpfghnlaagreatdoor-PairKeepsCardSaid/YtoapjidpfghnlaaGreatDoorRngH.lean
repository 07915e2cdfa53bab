/-
  The walks of the comparison of values, with the draws counted.
  The walk of the comparison of rows, with the draws counted.
  slices.SortFunc over the items of a bag that the call made, by whatever comparison.
  DeleteFunc and SortFunc over the items of a bag that the call made, nil or not; the two functions that gathered hands over.
  The texts of values and rows, in plain words.
  A valid row's text tells the row.
  What bag.gathered computes, in plain words.
  A map that a call makes, told as a function from keys to the values it holds, whatever the values are. Plain theorems over any program.
  A store into a map of the call's own, inside a fence.
  As Rng, where an element's arguments are told by a relation that the round's world meets. Plain theorems over any program; no condition.
  A region that draws its order and whose last operation writes a cell that the region loads: one condition S on the world, asked of every operation but that last one, s. Own theorems over the kit's 'wpOp'; no condition.
  A region that draws its order, walked outside a round, may stand inside a round of a range over a function. Plain theorems over any program; no condition.
-/
import Derived.Test.YtoapjidpfghnlaaGreatDoorBgP1
import Derived.Test.YtoapjidpfghnlaaGreatDoorGb
import Derived.Test.YtoapjidpfghnlaaGreatDoorQbw
import Derived.Lib.Join
import Derived.Lib.ItoaLen
import Derived.Maps.Own
import Derived.Maps.OwnSet
import Derived.MapViews
import Derived.Maps.OwnIn
import Derived.OrdersHeld
import Derived.Deep.RegionHeld
import Derived.OrdersIn
import Derived.TacticsIn
import Derived.RangeFuncCalls
namespace Go.Proofs.YtoapjidpfghnlaaGreatDoor

section
open Go.RowKit
attribute [local go_sem] Oper.semAt_some
set_option linter.unusedVariables false

theorem kind_g (v : Val) (w : World) : Calls Tryz.prog 220 #[.agg #[.int .i64 v.k, .int .i64 v.n, .string v.s]] w (RetG w (.int .i64 (cls v))) := by
  have hB := gb_val (w := w) #[.int .i64 v.k, .int .i64 v.n, .string v.s] 102
  obtain ⟨bb, hbb⟩ : ∃ bb, btw v.k 1 2 = bb := ⟨_, rfl⟩
  have HC := hide (show cls v = if bb then v.k else 0 from by
    rw [← hbb]
    unfold cls btw
    by_cases h : v.k = 1 ∨ v.k = 2
    · rw [if_pos h, if_pos (by simp; omega)]
    · rw [if_neg h, if_neg (by simp; omega)])
  have HBB := hide hbb
  rw [HC.out]
  clear hbb
  obtain ⟨k, n, s⟩ := v
  simp only at HBB hB ⊢
  cases bb
  · go_enter Tryz.func220, Tryz.ntmps220
    go_wp2_with (go_at_call 185; refine (within_any _ _ _ _).mono ?_; rintro e w' ⟨rfl, rfl⟩; rw [HBB.out])
    go_ret
    exact ⟨rfl, hB⟩
  · go_enter Tryz.func220, Tryz.ntmps220
    go_wp2_with (go_at_call 185; refine (within_any _ _ _ _).mono ?_; rintro e w' ⟨rfl, rfl⟩; rw [HBB.out])
    go_ret
    exact ⟨rfl, hB⟩

theorem cv1_g (a b : Val) (w : World) : Calls Tryz.prog 221 #[.agg #[.int .i64 a.k, .int .i64 a.n, .string a.s], .agg #[.int .i64 b.k, .int .i64 b.n, .string b.s]] w (RetG w (.int .i64 0)) := by
  have hB := gb_two (w := w) (.cells #[.int .i64 a.k, .int .i64 a.n, .string a.s] 102) (.cells #[.int .i64 b.k, .int .i64 b.n, .string b.s] 102)
  go_enter Tryz.func221, Tryz.ntmps221
  go_wp2
  go_ret
  exact ⟨rfl, hB⟩
theorem cv2_g (a b : Val) (w : World) : Calls Tryz.prog 222 #[.agg #[.int .i64 a.k, .int .i64 a.n, .string a.s], .agg #[.int .i64 b.k, .int .i64 b.n, .string b.s]] w (RetG w (.int .i64 (cmpI a.n b.n))) := by
  have hB := gb_two (w := w) (.cells #[.int .i64 a.k, .int .i64 a.n, .string a.s] 102) (.cells #[.int .i64 b.k, .int .i64 b.n, .string b.s] 102)
  go_enter Tryz.func222, Tryz.ntmps222
  go_wp2_with (go_at_call 129; refine (cmpi_any _ _ _).mono ?_; rintro e w' ⟨rfl, rfl⟩)
  go_ret
  exact ⟨rfl, hB⟩
theorem cv3_g (a b : Val) (w : World) : Calls Tryz.prog 223 #[.agg #[.int .i64 a.k, .int .i64 a.n, .string a.s], .agg #[.int .i64 b.k, .int .i64 b.n, .string b.s]] w (RetG w (.int .i64 (cmpS a.s b.s))) := by
  have hB := gb_two (w := w) (.cells #[.int .i64 a.k, .int .i64 a.n, .string a.s] 102) (.cells #[.int .i64 b.k, .int .i64 b.n, .string b.s] 102)
  go_enter Tryz.func223, Tryz.ntmps223
  go_wp2_with (go_at_call 224; refine (cmps_any _ _ _).mono ?_; rintro e w' ⟨rfl, rfl⟩)
  go_ret
  exact ⟨rfl, hB⟩

set_option maxRecDepth 100000 in
set_option maxHeartbeats 4000000 in
theorem CompareValues_g (a b : Val) (w : World) : Calls Tryz.prog 182 #[.agg #[.int .i64 a.k, .int .i64 a.n, .string a.s], .agg #[.int .i64 b.k, .int .i64 b.n, .string b.s]] w (RetG w (.int .i64 (cmpV a b))) := by
  have hB := gb_two (w := w) (.cells #[.int .i64 a.k, .int .i64 a.n, .string a.s] 102) (.cells #[.int .i64 b.k, .int .i64 b.n, .string b.s] 102)
  have x1 := (Blk.new w 102 #[.int .i64 a.k, .int .i64 a.n, .string a.s]).alloc (.cells #[.int .i64 b.k, .int .i64 b.n, .string b.s] 102)
  have x2 := Blk.new (w.alloc (.cells #[.int .i64 a.k, .int .i64 a.n, .string a.s] 102)) 102 #[.int .i64 b.k, .int .i64 b.n, .string b.s]
  rw [World.size_alloc] at x2
  go_enter Tryz.func182, Tryz.ntmps182
  go_wp2_with fail
  obtain ⟨W0, hW0⟩ : ∃ W0, (w.alloc (.cells #[.int .i64 a.k, .int .i64 a.n, .string a.s] 102)).alloc (.cells #[.int .i64 b.k, .int .i64 b.n, .string b.s] 102) = W0 := ⟨_, rfl⟩
  rw [hW0] at hB x1 x2 ⊢
  clear hW0
  have l1 := x1.lt
  have l2 := x2.lt
  refine (kind_g a W0).mono ?_
  rintro e W1 ⟨rfl, hB1⟩
  have y1 := x1.below hB1.b l1
  have y2 := x2.below hB1.b l2
  have hB01 := gstep hB hB1
  have c0 := y2.cell 0
  have c1 := y2.cell 1
  have c2 := y2.cell 2
  simp at c0 c1 c2
  have l3 := hB1.size
  clear x1 x2 hB hB1
  go_wp2_with fail
  refine (kind_g b W1).mono ?_
  rintro e W2 ⟨rfl, hB2⟩
  have z1 := y1.below hB2.b (by omega)
  have z2 := y2.below hB2.b (by omega)
  have hB02 := gstep hB01 hB2
  have l4 := hB2.size
  clear y1 y2 hB01 hB2 c0 c1 c2
  go_wp2_with fail
  refine (cmpi_any (cls a) (cls b) W2).mono ?_
  rintro e w' ⟨rfl, rfl⟩
  by_cases h0 : cmpI (cls a) (cls b) = 0
  · have HV0 := hide (fun h => cmpV_0 (a := a) (b := b) h h0)
    have HV1 := hide (fun h => cmpV_1 (a := a) (b := b) h h0)
    have HV2 := hide (fun h => cmpV_2 (a := a) (b := b) h h0)
    rw [h0]
    clear h0
    have p0 := fun (p : GBW W2) => GBW.cell (a := ⟨w.heap.size, 0, none⟩) (by show w.heap.size < _; omega) (z1.cell 0) p
    have p1 := fun (p : GBW W2) => GBW.cell (a := ⟨w.heap.size, 1, none⟩) (by show w.heap.size < _; omega) (z1.cell 1) p
    have p2 := fun (p : GBW W2) => GBW.cell (a := ⟨w.heap.size, 2, none⟩) (by show w.heap.size < _; omega) (z1.cell 2) p
    have q0 := fun (p : GBW W2) => GBW.cell (a := ⟨w.heap.size + 1, 0, none⟩) (by show w.heap.size + 1 < _; omega) (z2.cell 0) p
    have q1 := fun (p : GBW W2) => GBW.cell (a := ⟨w.heap.size + 1, 1, none⟩) (by show w.heap.size + 1 < _; omega) (z2.cell 1) p
    have q2 := fun (p : GBW W2) => GBW.cell (a := ⟨w.heap.size + 1, 2, none⟩) (by show w.heap.size + 1 < _; omega) (z2.cell 2) p
    simp at p0 p1 p2 q0 q1 q2
    have C1 := hide (fun (p : GBW W2) => calls_gbw (p := p) (cv1_g a b p.x))
    have C2 := hide (fun (p : GBW W2) => calls_gbw (p := p) (cv2_g a b p.x))
    have C3 := hide (fun (p : GBW W2) => calls_gbw (p := p) (cv3_g a b p.x))
    obtain ⟨x, hx⟩ : ∃ x, cls a = x := ⟨_, rfl⟩
    have hc := cls_cases a
    rw [hx] at hc HV0 HV1 HV2 ⊢
    clear hx l1 l2 l3 l4 z1 z2
    rcases hc with rfl | rfl | rfl
    · have hI := fun W => hix 0 _ rfl (by omega) (by omega) W
      go_wp2_with fail
      (refine wp_region_quiet_gbw (by kernel_rfl) (by kernel_rfl) ?_
       repeat (first | go_big_quiet_step (((go_at_call 221; exact C1.out _))) | quiet_step (((go_at_call 221; exact C1.out _))))
       refine wpQuiet_nil ?_
       intro wq hw'
       obtain ⟨⟨_, hbq⟩, hw''⟩ := hw'
       subst hw'')
      have HE := hide (gstep hB02 hbq)
      clear hbq p0 p1 p2 q0 q1 q2 hB02
      go_wp2
      go_ret
      exact ⟨ret_int (HV0.out (by first | rfl | trivial)).symm, HE.out⟩
    · have hI := fun W => hix 1 _ rfl (by omega) (by omega) W
      go_wp2_with fail
      (refine wp_region_quiet_gbw (by kernel_rfl) (by kernel_rfl) ?_
       repeat (first | go_big_quiet_step (((go_at_call 222; exact C2.out _))) | quiet_step (((go_at_call 222; exact C2.out _))))
       refine wpQuiet_nil ?_
       intro wq hw'
       obtain ⟨⟨_, hbq⟩, hw''⟩ := hw'
       subst hw'')
      have HE := hide (gstep hB02 hbq)
      clear hbq p0 p1 p2 q0 q1 q2 hB02
      go_wp2
      go_ret
      exact ⟨ret_int (HV1.out (by first | rfl | trivial)).symm, HE.out⟩
    · have hI := fun W => hix 2 _ rfl (by omega) (by omega) W
      go_wp2_with fail
      (refine wp_region_quiet_gbw (by kernel_rfl) (by kernel_rfl) ?_
       repeat (first | go_big_quiet_step (((go_at_call 223; exact C3.out _))) | quiet_step (((go_at_call 223; exact C3.out _))))
       refine wpQuiet_nil ?_
       intro wq hw'
       obtain ⟨⟨_, hbq⟩, hw''⟩ := hw'
       subst hw'')
      have HE := hide (gstep hB02 hbq)
      clear hbq p0 p1 p2 q0 q1 q2 hB02
      go_wp2
      go_ret
      exact ⟨ret_int (HV2.out (by first | rfl | trivial)).symm, HE.out⟩
  · have HV := hide (cmpV_ne h0)
    obtain ⟨x, hx⟩ : ∃ x, cmpI (cls a) (cls b) = x := ⟨_, rfl⟩
    rw [hx] at h0 HV ⊢
    have n1 : (x != 0) = true := by simpa using h0
    clear h0 hx z1 z2
    go_wp2
    go_ret
    exact ⟨ret_int HV.out.symm, hB02⟩
end

section
open Go.RowKit
attribute [local go_sem] Oper.semAt_some
set_option linter.unusedVariables false

set_option maxRecDepth 100000 in
set_option maxHeartbeats 4000000 in
theorem cmpf_g (A : Option Addr) (n c : Nat) (x : Rw) (A' : Option Addr) (n' c' : Nat) (y : Rw) (w : World) (hx : Reads w w.heap.size 3 A n (x.flatMap encV)) (hy : Reads w w.heap.size 3 A' n' (y.flatMap encV)) (hn : n ≤ 9223372036854775807) :
    Calls Tryz.prog 181 #[.slice A n c, .slice A' n' c', .func (Fn.func 182) #[] #[]] w (RetG w (.int .i64 (cmpR x y))) := by
  have HL := hide (hx.len encV_len (by omega))
  have HL' := hide (hy.len encV_len (by omega))
  go_enter Tryz.func181, Tryz.ntmps181
  go_wp2_with fail
  go_loopw [13] (fun i wr => ∃ k : Nat, k ≤ n ∧ i = .int .i64 k ∧ (∀ i, i < k → ∃ a b, x[i]? = some a ∧ y[i]? = some b ∧ cmpV a b = 0) ∧ GB w.heap.size w wr) (fun i _ => n - (intOf i).toNat)
  case atStart => exact ⟨0, Nat.zero_le _, rfl, fun i hi => absurd hi (Nat.not_lt_zero _), GB.refl _ _⟩
  case round =>
    obtain ⟨k, hk, rfl, heq, hBw⟩ := hrel
    have HE := hide heq
    clear heq
    by_cases hlt : k < n
    · obtain ⟨b, off, e, rfl, hb, hek, hce⟩ := hx.below hBw.b |>.elem encV_len HL.out hlt
      have HEK := hide hek
      have e0 : wr.cell? ⟨b, off + k * 3, none⟩ = some (.int .i64 e.k) := by simpa using hce 0 _ rfl
      have e1 : wr.cell? ⟨b, off + k * 3 + 1, none⟩ = some (.int .i64 e.n) := by simpa [← Nat.add_assoc] using hce 1 _ rfl
      have e2 : wr.cell? ⟨b, off + k * 3 + 2, none⟩ = some (.string e.s) := by simpa [← Nat.add_assoc] using hce 2 _ rfl
      clear hce hek
      have q1 : (0 : Int) ≤ (k : Int) := by omega
      have q2 : (k : Int) < (n : Int) := by omega
      by_cases hlt' : k < n'
      · obtain ⟨b', off', e', rfl, hb', hek', hce'⟩ := hy.below hBw.b |>.elem encV_len HL'.out hlt'
        have HEK' := hide hek'
        have f0 : wr.cell? ⟨b', off' + k * 3, none⟩ = some (.int .i64 e'.k) := by simpa using hce' 0 _ rfl
        have f1 : wr.cell? ⟨b', off' + k * 3 + 1, none⟩ = some (.int .i64 e'.n) := by simpa [← Nat.add_assoc] using hce' 1 _ rfl
        have f2 : wr.cell? ⟨b', off' + k * 3 + 2, none⟩ = some (.string e'.s) := by simpa [← Nat.add_assoc] using hce' 2 _ rfl
        clear hce' hek'
        have q3 : (k : Int) < (n' : Int) := by omega
        have hws := hBw.size
        have g0 := (World.cell?_alloc_lt wr (.cells #[.int .i64 e.k, .int .i64 e.n, .string e.s] 102) ⟨b', off' + k * 3, none⟩ (by show b' < _; omega)).trans f0
        have g1 := (World.cell?_alloc_lt wr (.cells #[.int .i64 e.k, .int .i64 e.n, .string e.s] 102) ⟨b', off' + k * 3 + 1, none⟩ (by show b' < _; omega)).trans f1
        have g2 := (World.cell?_alloc_lt wr (.cells #[.int .i64 e.k, .int .i64 e.n, .string e.s] 102) ⟨b', off' + k * 3 + 2, none⟩ (by show b' < _; omega)).trans f2
        have hBa := hBw.trans ((gb_two (w := wr) (.cells #[.int .i64 e.k, .int .i64 e.n, .string e.s] 102) (.cells #[.int .i64 e'.k, .int .i64 e'.n, .string e'.s] 102)).mono hws)
        go_wp2_with fail
        refine (CompareValues_g e e' _).mono ?_
        rintro ee w1 ⟨rfl, hB1⟩
        have hB2 := gstep hBa hB1
        by_cases hc : cmpV e e' = 0
        · have HX := hide (show ∀ i, i < k + 1 → ∃ a b, x[i]? = some a ∧ y[i]? = some b ∧ cmpV a b = 0 from fun i hi => by
            by_cases h : i = k
            · subst h; exact ⟨e, e', HEK.out, HEK'.out, hc⟩
            · exact HE.out i (by omega))
          rw [hc]
          clear hc hB1 hBa hBw e0 e1 e2 f0 f1 f2 g0 g1 g2
          go_wp2
          go_roundw
          case rel => exact ⟨k + 1, by omega, by go_num, HX.out, hB2⟩
          case measure => simp [intOf]; omega
        · have HX := hide (cmpR_at HE.out HEK.out HEK'.out hc)
          obtain ⟨z, hz⟩ : ∃ z, cmpV e e' = z := ⟨_, rfl⟩
          rw [hz] at hc HX ⊢
          have n1 : (z != 0) = true := by simpa using hc
          clear hc hz hB1 hBa hBw e0 e1 e2 f0 f1 f2 g0 g1 g2
          go_wp2
          go_ret
          exact ⟨ret_int HX.out.symm, hB2⟩
      · have HX := hide (cmpR_gt HE.out (by rw [HL.out]; exact hlt) (by rw [HL'.out]; omega))
        have hB2 := hBw.trans ((gb_val (w := wr) #[.int .i64 e.k, .int .i64 e.n, .string e.s] 102).mono hBw.size)
        go_wp2
        go_ret
        exact ⟨ret_int HX.out.symm, hB2⟩
    · obtain rfl : k = n := by omega
      have HX := hide (cmpR_end HE.out (by rw [HL.out]; exact Nat.le_refl _))
      by_cases h : k < n'
      · have HY := hide (show cmpR x y = -1 from by rw [HX.out, if_pos (by rw [HL'.out]; exact h)])
        go_wp2
        go_ret
        exact ⟨ret_int HY.out.symm, hBw⟩
      · have HY := hide (show cmpR x y = 0 from by rw [HX.out, if_neg (by rw [HL'.out]; exact h)])
        go_wp2
        go_ret
        exact ⟨ret_int HY.out.symm, hBw⟩
theorem Compare_g (A : Option Addr) (n c : Nat) (x : Rw) (A' : Option Addr) (n' c' : Nat) (y : Rw) (w : World) (hx : Reads w w.heap.size 3 A n (x.flatMap encV)) (hy : Reads w w.heap.size 3 A' n' (y.flatMap encV)) (hn : n ≤ 9223372036854775807) :
    Calls Tryz.prog 130 #[.slice A n c, .slice A' n' c'] w (RetG w (.int .i64 (cmpR x y))) := by
  go_enter Tryz.func130, Tryz.ntmps130
  go_wp2_with fail
  refine (cmpf_g A n c x A' n' c' y w hx hy hn).mono ?_
  rintro ee w1 ⟨rfl, hB1⟩
  go_wp2
  go_ret
  exact ⟨rfl, hB1⟩
end

section
open Go.Shelf Go.Lib Go.Sort
open Go.RowKit (Below)
attribute [local go_sem] Oper.semAt_some
set_option linter.unusedVariables false
set_option linter.unusedSimpArgs false

theorem swo_tot {α : Type} {f : α → α → Int} (h : Tot f) : SWO (ltOf f) where
  irrefl x := by show decide (f x x < 0) = false; rw [h.self]; rfl
  trans x y z h1 h2 := by
    have h1' : decide (f x y < 0) = true := h1
    have h2' : decide (f y z < 0) = true := h2
    show decide (f x z < 0) = true
    rw [decide_eq_true_iff] at *
    exact h.lt1 _ _ _ h1' (Int.le_of_lt h2')
  ntrans x y z h1 h2 := by
    have h1' : decide (f x y < 0) = false := h1
    have h2' : decide (f y z < 0) = false := h2
    show decide (f x z < 0) = false
    rw [decide_eq_false_iff_not] at *
    have a1 := h.anti x y
    have a2 := h.anti y z
    have a3 := h.anti x z
    have := h.le z y x (by omega) (by omega)
    omega
theorem rows_bar {w W : World} {B g : Nat} {A : Option Addr} {n : Nat} {r : Rw} {e : TypeId} {c : Array Value} {fz : Nat × Nat} (h : RowK w B A n r) (hb : Bar w.heap.size [g] w W) (hB : B ≤ g) (hg : w.heap[g]? = some (.cells c e fz)) (he : e ≠ 102) : RowK W B A n r :=
  h.keep (p := fun k => k = g) (fun k hk hp => hb.block k hk (by simpa using hp)) hb.size fun k hk => by
    subst hk
    refine ⟨hB, fun c' fz' h2 => ?_⟩
    rw [hg] at h2
    injection h2 with h2
    injection h2 with _ h3
    exact he h3
/-- What the sort leaves. -/
def RetSortI (w : World) (g n B : Nat) (l : List It) (cf : It → It → Int) (e : Ending) (w' : World) : Prop := e = .returned (.tuple #[]) ∧ ∃ l' : List It, l'.Perm l ∧ l'.Pairwise (fun x y => ¬ cf y x < 0) ∧ Reads w' w'.heap.size 2 (some ⟨g, 0, none⟩) n (l'.flatMap encIt) ∧ Rows_ w' B l' ∧ Bar w.heap.size [g] w w'
set_option maxHeartbeats 1000000 in
theorem SortI_any (base g n c B : Nat) (l : List It) (w : World) (h : w.ownsRow base 119 2 (.slice (some ⟨g, 0, none⟩) n c) n (l.flatMap encIt)) (hn : n ≤ 100000) (hr : Rows_ w B l) (hB : B ≤ g) (pf : Nat) (caps : Array Value)
    (eg : ∀ args w, (callFunc pf args).run Tryz.prog w = .ok (.enter pf args) w) (cf : It → It → Int) (hO : SWO (ltOf cf))
    (hc : ∀ (x y : It) (W : World), x ∈ l → y ∈ l → RowK W B x.A x.n x.r → RowK W B y.A y.n y.r → Bar w.heap.size [g] w W → Calls Tryz.prog pf (#[.agg #[.slice x.A x.n x.c, .int .i64 x.m], .agg #[.slice y.A y.n y.c, .int .i64 y.m]] ++ caps) W (RetG W (.int .i64 (cf x y)))) :
    Calls Tryz.prog 193 #[.slice (some ⟨g, 0, none⟩) n c, .func (Fn.func pf) #[] caps] w (RetSortI w g n B l cf) := by
  have hlen : l.length = n := by
    have := h.1
    rw [flat_length encIt_len] at this
    omega
  obtain ⟨cc, fz, hcells⟩ := own_cells h (g := g) rfl
  have hg : g < w.heap.size := (Array.getElem?_eq_some_iff.1 hcells).1
  rcases Nat.eq_zero_or_pos n with hn0 | hn0
  · subst hn0
    obtain rfl : l = [] := List.eq_nil_of_length_eq_zero hlen
    have hl : Calls Tryz.prog 127 #[.int .u64 0] w fun e w' => e = .returned (.int .i64 0) ∧ w' = w := Any.bits_Len lays125 0 w (by omega) (by omega)
    have hp : Calls Tryz.prog 225 #[.slice (some ⟨g, 0, none⟩) 0 c, .int .i64 0, .int .i64 0, .int .i64 0, .func (Fn.func pf) #[] caps] w fun e w' => e = .returned (.tuple #[]) ∧ w' = w := AnyF.pdqsortCmpFunc_none (P := Tryz.prog) (ρ := sortI_ren) sortI _ c 0 _ w
    clear hc h hr hcells
    go_enter Tryz.func193, Tryz.ntmps193
    go_wp2_with (first | (go_at_call 127; refine hl.mono ?_; rintro e w' ⟨rfl, rfl⟩) | (go_at_call 225; refine hp.mono ?_; rintro e w' ⟨rfl, rfl⟩))
    go_end0
    exact ⟨rfl, [], List.Perm.refl _, List.Pairwise.nil, ⟨rfl, fun h => absurd h (by omega)⟩, (fun i hi => by cases hi), Bar.refl _ _ _⟩
  · obtain ⟨x0, hx0⟩ : ∃ x, x ∈ l := by
      cases l with
      | nil => simp at hlen; omega
      | cons x l => exact ⟨x, List.mem_cons_self⟩
    haveI : Inhabited {x : It // x ∈ l} := ⟨⟨x0, hx0⟩⟩
    let enc : {x : It // x ∈ l} → List Value := fun x => encIt x.1
    let ls : List {x : It // x ∈ l} := l.attach
    have hls : ls.map (·.1) = l := List.attach_map_subtype_val l
    have hfl : ls.flatMap enc = l.flatMap encIt := by
      have : l.flatMap encIt = (ls.map (·.1)).flatMap encIt := by rw [hls]
      rw [this, List.flatMap_map]
    have hlsn : ls.length = n := by rw [← hlen]; exact List.length_attach
    have h' : w.ownsRow base 119 2 (.slice (some ⟨g, 0, none⟩) n c) n (ls.flatMap enc) := by rw [hfl]; exact h
    obtain ⟨hH, _, hb⟩ := holds_ownG (enc := enc) (fun x => encIt_len x.1) (by omega) h'
    have hsz : ls.toArray.size = n := by simpa using hlsn
    have hO' : SWO (ltOf fun x y : {x : It // x ∈ l} => cf x.1 y.1) := ⟨fun x => hO.irrefl x.1, fun x y z => hO.trans x.1 y.1 z.1, fun x y z => hO.ntrans x.1 y.1 z.1⟩
    have h1 : ∀ x : {x : It // x ∈ l}, ∀ v ∈ enc x, v.oneCell' = true := fun x v hv => by
      have hv' : v ∈ encIt x.1 := hv
      unfold encIt at hv'
      simp only [List.mem_cons, List.not_mem_nil, or_false] at hv'
      rcases hv' with rfl | rfl <;> rfl
    have hcmp : CmpLays Tryz.prog pf caps enc 2 (fun x y : {x : It // x ∈ l} => cf x.1 y.1) g 0 ls.toArray.size w := by
      intro m os dk hdk x y
      have hbar := below_sortG (enc := enc) (k := 2) (w := w) (g := g) (m := m) (d := dk) (os := os)
      refine (hc x.1 y.1 _ x.2 y.2 (rows_bar (hr _ x.2) hbar hB hcells (by decide)) (rows_bar (hr _ y.2) hbar hB hcells (by decide)) hbar).mono ?_
      rintro e w' ⟨he, hgb⟩
      exact ⟨he, hgb.grow⟩
    have hlim : Lib.bitLen ls.toArray.size < 4611686018427387904 := Nat.lt_of_le_of_lt (Lib.bitLen_le ls.toArray.size 62 (by omega) (by omega)) (by omega)
    have hp := AnyQ.pdqsortCmpFunc_all (P := Tryz.prog) (ρ := sortI_ren) sortI 2 Tryz.isAgg119 Tryz.sizeOf119 enc (fun x y : {x : It // x ∈ l} => cf x.1 y.1) pf caps hO' g 0 c ls.toArray w eg hcmp ⟨fun x => encIt_len x.1, h1, hH, hg⟩ (ls.toArray.size + 1) 0 ls.toArray.size (Lib.bitLen ls.toArray.size) ls.toArray w (by omega) rfl (SWK.start hH) (Nat.zero_le _) (Nat.le_refl _) (by rw [hsz]; omega) hlim (Or.inl rfl)
    rw [hsz] at hp
    have hl : Calls Tryz.prog 127 #[.int .u64 (n : Int)] w fun e w' => e = .returned (.int .i64 (Lib.bitLen n : Nat)) ∧ w' = w := by
      have h := Any.bits_Len lays125 (n : Int) w (by omega) (by omega)
      rwa [Int.toNat_natCast] at h
    have wr : IntKind.u64.wrap (n : Int) = n := by simp [IntKind.wrap, IntKind.bits, IntKind.signed]; omega
    change Calls Tryz.prog 225 _ _ _ at hp
    have HP := hide hp
    have HS := hide (pdq_sorts (ltOf fun x y : {x : It // x ∈ l} => cf x.1 y.1) hO' ls.toArray 0 n (Lib.bitLen n) true true (Nat.zero_le _) (by rw [hsz]; exact Nat.le_refl _) (Or.inl rfl))
    obtain ⟨bl, hbl⟩ : ∃ bl, Lib.bitLen n = bl := ⟨_, rfl⟩
    rw [hbl] at HP HS hl
    clear hp hcmp hH hbl hlim h'
    go_enter Tryz.func193, Tryz.ntmps193
    go_wp2_with (first | (go_at_call 127; refine hl.mono ?_; rintro e w' ⟨rfl, hw⟩; obtain rfl := hw.symm) | (go_at_call 225; refine HP.out.mono ?_; rintro e w' ⟨rfl, m, os, rfl⟩))
    go_end0
    obtain ⟨hpm, hst⟩ := HS.out
    obtain ⟨d', hd'⟩ : ∃ d', pdq (ltOf fun x y : {x : It // x ∈ l} => cf x.1 y.1) ls.toArray 0 n bl true true = d' := ⟨_, rfl⟩
    rw [hd'] at hpm hst ⊢
    have hdn : d'.size = n := by rw [hpm.1, hsz]
    have hbar := below_sortG (enc := enc) (k := 2) (w := w) (g := g) (m := m) (d := d') (os := os)
    have hperm : d'.toList.Perm ls := by
      have := hpm.2.2
      rw [← hsz] at this
      simp only [Array.extract_size] at this
      rw [hsz, ← hdn, Array.extract_size] at this
      simpa using this
    have hl'p : (d'.toList.map (·.1)).Perm l := by
      have := hperm.map (·.1)
      rwa [hls] at this
    refine ⟨rfl, d'.toList.map (·.1), hl'p, ?_, ?_, fun i hi => rows_bar (hr i (hl'p.mem_iff.1 hi)) hbar hB hcells (by decide), hbar⟩
    · rw [List.pairwise_map, List.pairwise_iff_getElem]
      intro i j hi hj hij
      have hi' : i < d'.size := by simpa using hi
      have hj' : j < d'.size := by simpa using hj
      have := hst i j (Nat.zero_le _) hij (by omega)
      have h2 : decide (cf (d'[j]!).1 (d'[i]!).1 < 0) = false := this
      rw [decide_eq_false_iff_not, getElem!_pos d' i hi', getElem!_pos d' j hj'] at h2
      simpa using h2
    · have hH' := holdsK_sortWorldK_c enc 2 w g 0 ls.toArray d' m os (holds_ownG (enc := enc) (fun x => encIt_len x.1) (by omega) (by rw [hfl]; exact h)).1 hg (by rw [hdn, hsz])
      have := reads_holdsG (enc := enc) (fun x => encIt_len x.1) (by omega) hH' (Nat.lt_of_lt_of_le hg hbar.size)
      rw [hdn] at this
      rw [List.flatMap_map]
      exact this
end

section
open Go.RowKit
attribute [local go_sem] Oper.semAt_some
set_option linter.unusedVariables false
set_option linter.unusedSimpArgs false

/-- The block of a row. -/
def obl (v : Value) : List Nat := v.ownBlock.toList
def RetDelV (w : World) (base : Nat) (v : Value) (l : List It) (e : Ending) (w' : World) : Prop := ∃ v', e = .returned v' ∧ w'.ownsRow base 119 2 v' l.length (l.flatMap encIt) ∧ v'.ownBlock = v.ownBlock ∧ Bar w.heap.size (obl v) w w'
theorem DeleteV (base n : Nat) (v : Value) (l : List It) (w : World) (hown : w.ownsRow base 119 2 v n (l.flatMap encIt)) (hn : n ≤ 100000) (pf : Nat) (caps : Array Value) (p : It → Bool)
    (eg : ∀ args w, (callFunc pf args).run Tryz.prog w = .ok (.enter pf args) w)
    (hp : ∀ x ∈ l, ∀ W, Bar w.heap.size (obl v) w W → Calls Tryz.prog pf (#[.agg #[.slice x.A x.n x.c, .int .i64 x.m]] ++ caps) W (RetV W (.bool (p x)))) :
    Calls Tryz.prog 236 #[v, .func (Fn.func pf) #[] caps] w (RetDelV w base v (l.filter fun x => !p x)) := by
  have hlen : l.length = n := by
    have := hown.1
    rw [flat_length encIt_len] at this
    omega
  rcases hown.2 with ⟨he, hn0⟩ | ⟨g, cap, cur, he, _⟩
  · subst he
    obtain rfl : n = 0 := by
      have := hown.1
      rw [hn0] at this
      simp at this
      omega
    obtain rfl : l = [] := List.eq_nil_of_length_eq_zero hlen
    have HI := hide (idxI_any none 0 0 [] w Reads.none_ (by omega) pf caps p eg (fun x hx => by cases hx))
    clear hp hown
    go_enter Tryz.func236, Tryz.ntmps236
    go_wp2_with fail
    refine HI.out.mono ?_
    rintro e W1 ⟨⟨i, rfl, hfi⟩, hB1⟩
    obtain rfl : i = -1 := by
      rcases hfi with ⟨_, h⟩ | ⟨k, _, _, x0, hx0, _⟩
      · exact h
      · simp at hx0
    go_wp2_with fail
    go_ret
    exact ⟨_, rfl, World.ownsRow_nil _ _ _ _, rfl, Bar.of_below hB1 _⟩
  · subst he
    exact (Delete_any base g n cap l w hown hn pf caps p eg (fun x hx W hB => hp x hx W hB)).mono fun e w' ⟨h1, h2, h3⟩ => ⟨_, h1, h2, rfl, h3⟩
def RetSortV (w : World) (B : Nat) (v : Value) (l : List It) (cf : It → It → Int) (e : Ending) (w' : World) : Prop := e = .returned (.tuple #[]) ∧ ∃ (l' : List It) (A : Option Addr) (n c : Nat), v = .slice A n c ∧ n ≤ c ∧ l'.Perm l ∧ l'.Pairwise (fun x y => ¬ cf y x < 0) ∧ Reads w' w'.heap.size 2 A n (l'.flatMap encIt) ∧ Rows_ w' B l' ∧ Bar w.heap.size (obl v) w w'
set_option maxHeartbeats 1000000 in
theorem SortV (base n B : Nat) (v : Value) (l : List It) (w : World) (h : w.ownsRow base 119 2 v n (l.flatMap encIt)) (hn : n ≤ 100000) (hr : Rows_ w B l) (hB : B ≤ base) (pf : Nat) (caps : Array Value)
    (eg : ∀ args w, (callFunc pf args).run Tryz.prog w = .ok (.enter pf args) w) (cf : It → It → Int) (hO : Go.Sort.SWO (ltOf cf))
    (hc : ∀ (x y : It) (W : World), x ∈ l → y ∈ l → RowK W B x.A x.n x.r → RowK W B y.A y.n y.r → Bar w.heap.size (obl v) w W → Calls Tryz.prog pf (#[.agg #[.slice x.A x.n x.c, .int .i64 x.m], .agg #[.slice y.A y.n y.c, .int .i64 y.m]] ++ caps) W (RetG W (.int .i64 (cf x y)))) :
    Calls Tryz.prog 193 #[v, .func (Fn.func pf) #[] caps] w (RetSortV w B v l cf) := by
  have hlen : l.length = n := by
    have := h.1
    rw [flat_length encIt_len] at this
    omega
  rcases h.2 with ⟨he, hn0⟩ | ⟨g, cap, cur, he, hb, _, hcap, _⟩
  · subst he
    obtain rfl : n = 0 := by
      have := h.1
      rw [hn0] at this
      simp at this
      omega
    obtain rfl : l = [] := List.eq_nil_of_length_eq_zero hlen
    have hl : Calls Tryz.prog 127 #[.int .u64 0] w fun e w' => e = .returned (.int .i64 0) ∧ w' = w := Any.bits_Len lays125 0 w (by omega) (by omega)
    have hp : Calls Tryz.prog 225 #[.slice none 0 0, .int .i64 0, .int .i64 0, .int .i64 0, .func (Fn.func pf) #[] caps] w fun e w' => e = .returned (.tuple #[]) ∧ w' = w := AnyF.pdqsortCmpFunc_none (P := Tryz.prog) (ρ := sortI_ren) sortI _ 0 0 _ w
    have HR := hide (show RetSortV w B (.slice none 0 0) [] cf (.returned (.tuple #[])) w from ⟨rfl, [], none, 0, 0, rfl, Nat.le_refl _, List.Perm.refl _, List.Pairwise.nil, Reads.none_, (fun i hi => by cases hi), Bar.refl _ _ _⟩)
    clear hc h hr
    go_enter Tryz.func193, Tryz.ntmps193
    go_wp2_with (first | (go_at_call 127; refine hl.mono ?_; rintro e w' ⟨rfl, hw⟩; obtain rfl := hw.symm) | (go_at_call 225; refine hp.mono ?_; rintro e w' ⟨rfl, hw⟩; obtain rfl := hw.symm))
    go_end0
    exact HR.out
  · subst he
    exact (SortI_any base g n cap B l w h hn hr (by omega) pf caps eg cf hO (fun x y W hx hy h1 h2 h3 => hc x y W hx hy h1 h2 h3)).mono fun e w' ⟨h1, l', h2, h3, h4, h5, h6⟩ => ⟨h1, l', _, _, _, rfl, hcap, h2, h3, h4, h5, h6⟩
theorem gat1_any (A : Option Addr) (n c : Nat) (m : Int) (w : World) : Calls Tryz.prog 237 #[.agg #[.slice A n c, .int .i64 m]] w (RetV w (.bool (m == 0))) := by
  have hB := below_val (w := w) #[.slice A n c, .int .i64 m] 119
  go_enter Tryz.func237, Tryz.ntmps237
  go_wp2
  go_ret
  exact ⟨rfl, hB⟩
theorem gat2_any (x y : It) (B : Nat) (w : World) (hx : RowK w B x.A x.n x.r) (hy : RowK w B y.A y.n y.r) : Calls Tryz.prog 238 #[.agg #[.slice x.A x.n x.c, .int .i64 x.m], .agg #[.slice y.A y.n y.c, .int .i64 y.m]] w (RetG w (.int .i64 (cmpR x.r y.r))) := by
  have hB := gb_two (w := w) (.cells #[.slice x.A x.n x.c, .int .i64 x.m] 119) (.cells #[.slice y.A y.n y.c, .int .i64 y.m] 119)
  have k1 := (Blk.new w 119 #[.slice x.A x.n x.c, .int .i64 x.m]).alloc (.cells #[.slice y.A y.n y.c, .int .i64 y.m] 119)
  have k2 := Blk.new (w.alloc (.cells #[.slice x.A x.n x.c, .int .i64 x.m] 119)) 119 #[.slice y.A y.n y.c, .int .i64 y.m]
  rw [World.size_alloc] at k2
  have hx1 := hx.below hB.b
  have hy1 := hy.below hB.b
  go_enter Tryz.func238, Tryz.ntmps238
  go_upto_region 1 with fail
  obtain ⟨W, hW⟩ : ∃ W, (w.alloc (.cells #[.slice x.A x.n x.c, .int .i64 x.m] 119)).alloc (.cells #[.slice y.A y.n y.c, .int .i64 y.m] 119) = W := ⟨_, rfl⟩
  rw [hW] at hB k1 k2 hx1 hy1 ⊢
  clear hW
  have c1 := k1.cell 0
  have c2 := k2.cell 0
  simp at c1 c2
  have HC := hide (Compare_g x.A x.n x.c x.r y.A y.n y.c y.r W hx1.rd hy1.rd hx1.le)
  go_wp2_with fail
  refine HC.out.mono ?_
  rintro e W1 ⟨rfl, hB1⟩
  have HB := hide (gstep hB hB1)
  clear hB hB1
  go_wp2_with fail
  go_ret
  exact ⟨rfl, HB.out⟩
end

section
/-- The digits at base 16. -/
def hexL : List UInt8 := [48, 49, 50, 51, 52, 53, 54, 55, 56, 57, 97, 98, 99, 100, 101, 102]
def hexB (d : Nat) : UInt8 := hexL.getD d 0
/-- A byte within quotes. -/
def qB (c : UInt8) : List UInt8 := if c.toNat = 34 ∨ c.toNat = 92 then [92, c] else if c.toNat = 10 then [92, 110] else if c.toNat < 32 ∨ 126 < c.toNat then [92, 120, hexB (c.toNat / 16), hexB (c.toNat % 16)] else [c]
def quoB (l : List UInt8) : List UInt8 := 34 :: (l.flatMap qB ++ [34])
/-- A value's text; a row's. -/
def valT (v : Val) : List UInt8 := if v.k = 1 then Lib.itoa v.n else if v.k = 2 then quoB v.s.data.toList else [126]
def rowT (r : Rw) : List UInt8 := if okR r = true then Lib.join (r.map valT) [44] else []
theorem qB_len (c : UInt8) : (qB c).length ≤ 4 := by
  unfold qB
  split
  · simp
  · split
    · simp
    · split <;> simp
theorem flat_qB_len (l : List UInt8) : (l.flatMap qB).length ≤ 4 * l.length := by
  induction l with
  | nil => simp
  | cons c l ih =>
    have := qB_len c
    simp only [List.flatMap_cons, List.length_append, List.length_cons]
    omega
theorem quoB_len (l : List UInt8) : (quoB l).length ≤ 4 * l.length + 2 := by
  have := flat_qB_len l
  unfold quoB
  simp only [List.length_cons, List.length_append, List.length_nil]
  omega
theorem okV_cases {v : Val} (h : okV v = true) : (v.k = 0 ∧ v.n = 0 ∧ v.s.size = 0) ∨ (v.k = 1 ∧ v.s.size = 0 ∧ -1000000000000000 ≤ v.n ∧ v.n ≤ 1000000000000000) ∨ (v.k = 2 ∧ v.n = 0 ∧ v.s.size ≤ 200) := by
  unfold okV at h
  simp only [Bool.or_eq_true, Bool.and_eq_true, beq_iff_eq, decide_eq_true_eq] at h
  rcases h with (h | h) | h
  · exact .inl ⟨h.1.1, h.1.2, h.2⟩
  · exact .inr (.inl ⟨h.1.1.1, h.1.1.2, h.1.2, h.2⟩)
  · exact .inr (.inr ⟨h.1.1, h.1.2, h.2⟩)
theorem valT_len {v : Val} (h : okV v = true) : (valT v).length ≤ 802 := by
  unfold valT
  rcases okV_cases h with ⟨h0, _, _⟩ | ⟨h1, _, h2, h3⟩ | ⟨h1, _, h2⟩
  · simp [h0]
  · rw [if_pos h1]
    exact Nat.le_trans (Lib.itoa_length_le v.n (by omega) (by omega)) (by omega)
  · rw [if_neg (by omega), if_pos h1]
    have h3 := quoB_len v.s.data.toList
    have h4 : v.s.data.toList.length = v.s.size := rfl
    omega
theorem join_len_le {l : List (List UInt8)} {M : Nat} (h : ∀ x ∈ l, x.length ≤ M) : (Lib.join l [44]).length ≤ l.length * (M + 1) := by
  cases l with
  | nil => simp [Lib.join_nil]
  | cons x l =>
    rw [Lib.join_length]
    have h2 : Lib.lens (x :: l) ≤ (x :: l).length * M := by
      revert h
      generalize x :: l = m
      intro h
      induction m with
      | nil => simp [Lib.lens]
      | cons y m ih =>
        have h1 := h y List.mem_cons_self
        have h3 := ih fun z hz => h z (List.mem_cons_of_mem _ hz)
        simp only [Lib.lens, List.map_cons, List.sum_cons, List.length_cons] at h3 ⊢
        rw [Nat.add_mul]
        omega
    simp only [List.length_cons, List.length_nil] at h2 ⊢
    have h4 : (l.length + 1) * (M + 1) = (l.length + 1) * M + (l.length + 1) := by rw [Nat.mul_add, Nat.mul_one]
    omega
theorem okR_len {r : Rw} (h : okR r = true) : r.length ≤ 8 := by
  unfold okR at h
  rw [Bool.and_eq_true, decide_eq_true_eq] at h
  exact h.2
theorem okR_mem {r : Rw} (h : okR r = true) {v : Val} (hv : v ∈ r) : okV v = true := List.all_eq_true.1 (okR_all h) v hv
theorem part_len {r : Rw} (h : okR r = true) (k : Nat) : (Lib.join ((r.take k).map valT) [44]).length ≤ 6424 := by
  have h1 := join_len_le (l := (r.take k).map valT) (M := 802) fun x hx => by
    rw [List.mem_map] at hx
    obtain ⟨v, hv, rfl⟩ := hx
    exact valT_len (okR_mem h (List.mem_of_mem_take hv))
  have h2 := okR_len h
  rw [List.length_map, List.length_take] at h1
  have h3 : min k r.length ≤ 8 := by omega
  have h4 := Nat.mul_le_mul_right 803 h3
  exact Nat.le_trans h1 h4
theorem rowT_len (r : Rw) : (rowT r).length ≤ 6424 := by
  unfold rowT
  split
  · rename_i h
    have := part_len h r.length
    rwa [List.take_length] at this
  · simp
end

section
set_option linter.unusedSimpArgs false

/-- The number that digits tell. -/
def dval (l : List UInt8) : Nat := l.foldl (fun a c => 10 * a + (c.toNat - 48)) 0
theorem dval_snoc (l : List UInt8) (c : UInt8) : dval (l ++ [c]) = 10 * dval l + (c.toNat - 48) := by simp [dval]
theorem dig_nat {d : Nat} (h : d < 10) : (UInt8.ofNat (48 + d)).toNat = 48 + d := by
  rw [UInt8.toNat_ofNat']
  omega
theorem dec_all (u : Nat) : (∀ c ∈ Lib.decDigits u, 48 ≤ c.toNat ∧ c.toNat ≤ 57) ∧ dval (Lib.decDigits u) = u ∧ Lib.decDigits u ≠ [] := by
  induction u using Nat.strongRecOn with
  | _ u ih =>
    rw [Lib.decDigits]
    split
    · rename_i h
      refine ⟨fun c hc => ?_, ?_, by simp⟩
      · rw [List.mem_singleton] at hc
        subst hc
        rw [dig_nat h]; omega
      · show 10 * 0 + ((UInt8.ofNat (48 + u)).toNat - 48) = u
        rw [dig_nat h]; omega
    · rename_i h
      obtain ⟨h1, h2, h3⟩ := ih (u / 10) (by omega)
      have hm : u % 10 < 10 := Nat.mod_lt _ (by omega)
      refine ⟨fun c hc => ?_, ?_, by simp⟩
      · rcases List.mem_append.1 hc with hc | hc
        · exact h1 c hc
        · rw [List.mem_singleton] at hc
          subst hc
          rw [dig_nat hm]; omega
      · rw [dval_snoc, h2, dig_nat hm]; omega
theorem itoa_all (n : Int) : ∃ c l, Lib.itoa n = c :: l ∧ (c.toNat = 45 ∨ (48 ≤ c.toNat ∧ c.toNat ≤ 57)) ∧ ∀ x ∈ Lib.itoa n, x.toNat ≠ 44 := by
  unfold Lib.itoa
  split
  · obtain ⟨h1, _, _⟩ := dec_all n.natAbs
    refine ⟨45, _, rfl, .inl rfl, fun x hx => ?_⟩
    rcases List.mem_cons.1 hx with rfl | hx
    · decide
    · have := h1 x hx; omega
  · obtain ⟨h1, _, h3⟩ := dec_all n.toNat
    cases hd : Lib.decDigits n.toNat with
    | nil => exact absurd hd h3
    | cons c l =>
      rw [hd] at h1
      exact ⟨c, l, rfl, .inr (h1 c List.mem_cons_self), fun x hx => by have := h1 x hx; omega⟩
theorem itoa_inj {a b : Int} (h : Lib.itoa a = Lib.itoa b) : a = b := by
  unfold Lib.itoa at h
  obtain ⟨h1, h2, h3⟩ := dec_all a.natAbs
  obtain ⟨k1, k2, k3⟩ := dec_all b.natAbs
  obtain ⟨h1', h2', h3'⟩ := dec_all a.toNat
  obtain ⟨k1', k2', k3'⟩ := dec_all b.toNat
  split at h
  · split at h
    · have := congrArg dval (List.cons.inj h).2
      rw [h2, k2] at this
      omega
    · exfalso
      have := k1' 45 (by rw [← h]; exact List.mem_cons_self)
      simp at this
  · split at h
    · exfalso
      have := h1' 45 (by rw [h]; exact List.mem_cons_self)
      simp at this
    · have := congrArg dval h
      rw [h2', k2'] at this
      omega

/-- A text that stands in front of nothing or of a comma. -/
def Fin_ (s : List UInt8) : Prop := s = [] ∨ ∃ r, s = 44 :: r
theorem pre_inj {x y s t : List UInt8} (hx : ∀ c ∈ x, c.toNat ≠ 44) (hy : ∀ c ∈ y, c.toNat ≠ 44) (hs : Fin_ s) (ht : Fin_ t) (h : x ++ s = y ++ t) : x = y ∧ s = t := by
  induction x generalizing y with
  | nil =>
    cases y with
    | nil => exact ⟨rfl, h⟩
    | cons c y =>
      exfalso
      rcases hs with rfl | ⟨r, rfl⟩
      · simp at h
      · simp at h
        have := hy c List.mem_cons_self
        rw [← h.1] at this
        exact this rfl
  | cons c x ih =>
    cases y with
    | nil =>
      exfalso
      rcases ht with rfl | ⟨r, rfl⟩
      · simp at h
      · simp at h
        have := hx c List.mem_cons_self
        rw [h.1] at this
        exact this rfl
    | cons d y =>
      simp at h
      obtain ⟨rfl, h⟩ := h
      obtain ⟨h1, h2⟩ := ih (fun c hc => hx c (List.mem_cons_of_mem _ hc)) (fun c hc => hy c (List.mem_cons_of_mem _ hc)) h
      exact ⟨by rw [h1], h2⟩

/-- A byte within quotes, read again. -/
def hexV (c : UInt8) : Nat := if c.toNat < 58 then c.toNat - 48 else c.toNat - 87
theorem hexV_B : ∀ d : Fin 16, hexV (hexB d.val) = d.val := by decide
def deq : List UInt8 → Option (UInt8 × List UInt8)
  | [] => none
  | c :: r => if c = 92 then (match r with
      | [] => none
      | d :: r => if d = 120 then (match r with
          | a :: b :: r => some (UInt8.ofNat (16 * hexV a + hexV b), r)
          | _ => none) else if d = 110 then some (10, r) else some (d, r)) else some (c, r)
theorem u8_of {c : UInt8} {n : Nat} (hn : n < 256) (h : c.toNat = n) : c = UInt8.ofNat n := by
  apply UInt8.toNat_inj.1
  rw [h, UInt8.toNat_ofNat']
  omega
theorem deq_qB (c : UInt8) (x : List UInt8) : deq (qB c ++ x) = some (c, x) := by
  have hc := c.toNat_lt
  unfold qB
  split
  · rename_i h
    rcases h with h | h
    · obtain rfl : c = 34 := u8_of (n := 34) (by decide) h
      rfl
    · obtain rfl : c = 92 := u8_of (n := 92) (by decide) h
      rfl
  · rename_i h
    split
    · rename_i h2
      obtain rfl : c = 10 := u8_of (n := 10) (by decide) h2
      rfl
    · split
      · have h1 := hexV_B ⟨c.toNat / 16, by omega⟩
        have h2 := hexV_B ⟨c.toNat % 16, by omega⟩
        show deq (92 :: 120 :: hexB (c.toNat / 16) :: hexB (c.toNat % 16) :: x) = _
        simp only [deq, if_true]
        rw [h1, h2]
        have h3 : 16 * (c.toNat / 16) + c.toNat % 16 = c.toNat := by omega
        show some (UInt8.ofNat (16 * (c.toNat / 16) + c.toNat % 16), x) = _
        rw [h3, ← u8_of hc rfl]
      · have h3 : c ≠ 92 := fun e => by subst e; exact h (.inr rfl)
        show deq (c :: x) = _
        simp only [deq, if_neg h3]
theorem qB_head (c : UInt8) : ∃ d r, qB c = d :: r ∧ d ≠ 34 := by
  unfold qB
  split
  · exact ⟨92, [c], rfl, by decide⟩
  · rename_i h
    split
    · exact ⟨92, [110], rfl, by decide⟩
    · split
      · exact ⟨92, _, rfl, by decide⟩
      · exact ⟨c, [], rfl, fun e => by subst e; exact h (.inl rfl)⟩
theorem quo_inj : ∀ {l m s t : List UInt8}, l.flatMap qB ++ 34 :: s = m.flatMap qB ++ 34 :: t → l = m ∧ s = t
  | [], [], s, t, h => by simpa using h
  | [], c :: m, s, t, h => by
    obtain ⟨d, r, h1, h2⟩ := qB_head c
    rw [List.flatMap_cons, h1] at h
    simp at h
    exact absurd h.1.symm h2
  | c :: l, [], s, t, h => by
    obtain ⟨d, r, h1, h2⟩ := qB_head c
    rw [List.flatMap_cons, h1] at h
    simp at h
    exact absurd h.1 h2
  | c :: l, d :: m, s, t, h => by
    rw [List.flatMap_cons, List.flatMap_cons, List.append_assoc, List.append_assoc] at h
    have h1 := congrArg deq h
    rw [deq_qB, deq_qB] at h1
    injection h1 with h1
    injection h1 with h1 h2
    obtain ⟨h3, h4⟩ := quo_inj h2
    exact ⟨by rw [h1, h3], h4⟩

theorem valT_inj {a b : Val} (ha : okV a = true) (hb : okV b = true) {s t : List UInt8} (hs : Fin_ s) (ht : Fin_ t) (h : valT a ++ s = valT b ++ t) : a = b ∧ s = t := by
  obtain ⟨ak, an, aS⟩ := a
  obtain ⟨bk, bn, bs⟩ := b
  obtain ⟨c, l, e1, e2, e3⟩ := itoa_all an
  obtain ⟨d, m, f1, f2, f3⟩ := itoa_all bn
  rcases okV_cases ha with ⟨h0, h1, h2⟩ | ⟨h0, h1, _⟩ | ⟨h0, h1, _⟩ <;> rcases okV_cases hb with ⟨k0, k1, k2⟩ | ⟨k0, k1, _⟩ | ⟨k0, k1, _⟩ <;> simp only at h0 h1 k0 k1 <;> subst h0 k0 <;> simp only [valT] at h
  · simp at h
    simp only at h2 k2
    rw [h1, k1, empty_of_size h2, empty_of_size k2]
    exact ⟨rfl, h⟩
  · exfalso
    rw [f1] at h
    simp at h
    rw [← h.1] at f2
    simp at f2
  · exfalso
    simp [quoB] at h
  · exfalso
    rw [e1] at h
    simp at h
    rw [h.1] at e2
    simp at e2
  · simp at h
    obtain ⟨h3, h4⟩ := pre_inj e3 f3 hs ht h
    have := itoa_inj h3
    rw [this, empty_of_size h1, empty_of_size k1]
    exact ⟨rfl, h4⟩
  · exfalso
    rw [e1] at h
    simp [quoB] at h
    rw [h.1] at e2
    simp at e2
  · exfalso
    simp [quoB] at h
  · exfalso
    rw [f1] at h
    simp [quoB] at h
    rw [← h.1] at f2
    simp at f2
  · simp only [quoB, List.cons_append, List.append_assoc, List.singleton_append] at h
    simp at h
    obtain ⟨h3, h4⟩ := quo_inj (s := s) (t := t) (by simpa using h)
    have : aS = bs := by
      obtain ⟨⟨aS⟩⟩ := aS
      obtain ⟨⟨bs⟩⟩ := bs
      simpa using h3
    rw [h1, k1, this]
    exact ⟨rfl, h4⟩
theorem tail_fin (r : Rw) : Fin_ (Lib.joinTail [44] (r.map valT)) := by
  cases r with
  | nil => exact .inl rfl
  | cons v r => exact .inr ⟨_, rfl⟩
theorem valT_ne {v : Val} : ∃ c l, valT v = c :: l := by
  unfold valT
  split
  · obtain ⟨c, l, h, _⟩ := itoa_all v.n
    exact ⟨c, l, h⟩
  · split
    · exact ⟨_, _, rfl⟩
    · exact ⟨_, _, rfl⟩
theorem tail_inj : ∀ {x y : Rw}, x.all okV = true → y.all okV = true → Lib.joinTail [44] (x.map valT) = Lib.joinTail [44] (y.map valT) → x = y
  | [], [], _, _, _ => rfl
  | [], b :: y, _, _, h => by simp [Lib.joinTail] at h
  | a :: x, [], _, _, h => by simp [Lib.joinTail] at h
  | a :: x, b :: y, hx, hy, h => by
    rw [List.all_cons, Bool.and_eq_true] at hx hy
    have h1 : valT a ++ Lib.joinTail [44] (x.map valT) = valT b ++ Lib.joinTail [44] (y.map valT) := by simpa [Lib.joinTail] using h
    obtain ⟨h2, h3⟩ := valT_inj hx.1 hy.1 (tail_fin x) (tail_fin y) h1
    rw [h2, tail_inj hx.2 hy.2 h3]
/-- A valid row's text tells the row. -/
theorem rowT_inj {x y : Rw} (hx : okR x = true) (hy : okR y = true) (h : rowT x = rowT y) : x = y := by
  unfold rowT at h
  rw [if_pos hx, if_pos hy] at h
  have ax := okR_all hx
  have ay := okR_all hy
  cases x with
  | nil =>
    cases y with
    | nil => rfl
    | cons b y =>
      exfalso
      rw [List.map_cons, Lib.join_cons] at h
      obtain ⟨c, l, e⟩ := valT_ne (v := b)
      rw [e] at h
      simp [Lib.join_nil] at h
  | cons a x =>
    cases y with
    | nil =>
      exfalso
      rw [List.map_cons, Lib.join_cons] at h
      obtain ⟨c, l, e⟩ := valT_ne (v := a)
      rw [e] at h
      simp [Lib.join_nil] at h
    | cons b y =>
      rw [List.map_cons, List.map_cons, Lib.join_cons, Lib.join_cons] at h
      rw [List.all_cons, Bool.and_eq_true] at ax ay
      obtain ⟨h2, h3⟩ := valT_inj ax.1 ay.1 (tail_fin x) (tail_fin y) h
      rw [h2, tail_inj ax.2 ay.2 h3]
end

section
/-- The place of a text among the rows. -/
def gidx (d : Bg) (t : List UInt8) : Option Nat := d.findIdx? fun x => decide (rowT x.1 = t)
theorem gidx_some {d : Bg} {t : List UInt8} {i : Nat} (h : gidx d t = some i) : ∃ x, d[i]? = some x ∧ rowT x.1 = t := by
  unfold gidx at h
  rw [List.findIdx?_eq_some_iff_getElem] at h
  obtain ⟨h1, h2, _⟩ := h
  exact ⟨d[i], List.getElem?_eq_getElem h1, by simpa using h2⟩
theorem gidx_none {d : Bg} {t : List UInt8} (h : gidx d t = none) : ∀ x ∈ d, rowT x.1 ≠ t := by
  unfold gidx at h
  rw [List.findIdx?_eq_none_iff] at h
  intro x hx
  simpa using h x hx
theorem gidx_lt {d : Bg} {t : List UInt8} {i : Nat} (h : gidx d t = some i) : i < d.length := by
  obtain ⟨x, hx, _⟩ := gidx_some h
  exact (List.getElem?_eq_some_iff.1 hx).1
theorem gidx_snoc {d : Bg} {r : Rw} {n : Int} (h : gidx d (rowT r) = none) (t : List UInt8) : gidx (d ++ [(r, n)]) t = if t = rowT r then some d.length else gidx d t := by
  unfold gidx at h ⊢
  rw [List.findIdx?_append]
  by_cases e : t = rowT r
  · subst e
    rw [h, if_pos rfl]
    simp
  · rw [if_neg e]
    have : ([(r, n)] : Bg).findIdx? (fun x => decide (rowT x.1 = t)) = none := by
      rw [List.findIdx?_eq_none_iff]
      intro x hx
      rw [List.mem_singleton] at hx
      subst hx
      simpa using fun e2 => e e2.symm
    rw [this]
    simp
theorem gidx_keys {d d' : Bg} (h : d.map (·.1) = d'.map (·.1)) (t : List UInt8) : gidx d t = gidx d' t := by
  have h1 : ∀ e : Bg, gidx e t = (e.map (·.1)).findIdx? fun x => decide (rowT x = t) := by
    intro e
    unfold gidx
    rw [List.findIdx?_map]
    rfl
  rw [h1, h1, h]
theorem set_keys {d : Bg} {i : Nat} {r : Rw} {n m : Int} (h : d[i]? = some (r, n)) : (d.set i (r, m)).map (·.1) = d.map (·.1) := by
  rw [List.map_set]
  apply List.ext_getElem?
  intro j
  rw [List.getElem?_set]
  split
  · rename_i e
    subst e
    split
    · rw [List.getElem?_map, h]; rfl
    · rename_i hl
      rw [List.getElem?_eq_none (by omega)]
  · rfl
/-- One row more, so many times. -/
def gstepB (d : Bg) (x : Rw × Int) : Bg := match gidx d (rowT x.1) with
  | some i => d.set i (x.1, (d.getD i ([], 0)).2 + x.2)
  | none => d ++ [x]
def gat (xs : Bg) : Bg := xs.foldl gstepB []
theorem gat_snoc (xs : Bg) (x : Rw × Int) : gat (xs ++ [x]) = gstepB (gat xs) x := by simp [gat]
theorem gstep_some {d : Bg} {x : Rw × Int} {i : Nat} {y : Rw × Int} (h : gidx d (rowT x.1) = some i) (hy : d[i]? = some y) : gstepB d x = d.set i (x.1, y.2 + x.2) := by
  unfold gstepB
  rw [h]
  simp only [List.getD, hy, Option.getD_some]
theorem gstep_none {d : Bg} {x : Rw × Int} (h : gidx d (rowT x.1) = none) : gstepB d x = d ++ [x] := by
  unfold gstepB; rw [h]
/-- How often a row is told. -/
def sumG : Bg → Rw → Int
  | [], _ => 0
  | x :: xs, r => (if x.1 = r then x.2 else 0) + sumG xs r
theorem sumG_app (a b : Bg) (r : Rw) : sumG (a ++ b) r = sumG a r + sumG b r := by
  induction a with
  | nil => simp [sumG]
  | cons x a ih => simp only [List.cons_append, sumG, ih]; omega
theorem sumG_one (x : Rw × Int) (r : Rw) : sumG [x] r = if x.1 = r then x.2 else 0 := by simp [sumG]
theorem sumG_look {b : Bg} (h : b.Pairwise fun x y => x.1 ≠ y.1) (r : Rw) : sumG b r = look b r := by
  induction b with
  | nil => rfl
  | cons x b ih =>
    rw [List.pairwise_cons] at h
    rw [sumG, look, ih h.2]
    split
    · rename_i e
      rw [look_far fun y hy e2 => h.1 y hy (by rw [e, e2])]
      omega
    · omega
theorem asc_apart {b : Bg} (h : Asc b) : b.Pairwise fun x y => x.1 ≠ y.1 := h.up.imp fun h => cmp_ne h
theorem sumG_asc {b : Bg} (h : Asc b) (r : Rw) : sumG b r = look b r := sumG_look (asc_apart h) r
theorem look_in {b : Bg} (h : b.Pairwise fun x y => x.1 ≠ y.1) {x : Rw × Int} (hx : x ∈ b) : look b x.1 = x.2 := by
  induction b with
  | nil => cases hx
  | cons y b ih =>
    rw [List.pairwise_cons] at h
    rw [look]
    rcases List.mem_cons.1 hx with rfl | hx
    · rw [if_pos rfl]
    · rw [if_neg (h.1 x hx)]
      exact ih h.2 hx
/-- What is known of the rows that are gathered. -/
structure GatOk (xs d : Bg) : Prop where
  ok : ∀ x ∈ d, okR x.1 = true
  apart : d.Pairwise fun x y => x.1 ≠ y.1
  sum : ∀ r, look d r = sumG xs r
theorem look_snoc {d : Bg} {x : Rw × Int} (h : ∀ y ∈ d, y.1 ≠ x.1) (r : Rw) : look (d ++ [x]) r = if x.1 = r then x.2 else look d r := by
  induction d with
  | nil => simp [look]
  | cons y d ih =>
    have h1 := h y List.mem_cons_self
    rw [List.cons_append, look, ih fun z hz => h z (List.mem_cons_of_mem _ hz), look]
    by_cases e : y.1 = r
    · rw [if_pos e, if_pos e, if_neg (fun e2 => h1 (by rw [e, e2]))]
    · rw [if_neg e, if_neg e]
theorem look_set : ∀ {d : Bg} {i : Nat} {y : Rw × Int} {m : Int}, (d.Pairwise fun x y => x.1 ≠ y.1) → d[i]? = some y → ∀ r, look (d.set i (y.1, m)) r = if y.1 = r then m else look d r
  | [], i, y, m, _, hy, r => by simp at hy
  | x :: d, 0, y, m, h, hy, r => by
    simp at hy
    subst hy
    rw [List.set_cons_zero, look, look]
    split <;> rfl
  | x :: d, i + 1, y, m, h, hy, r => by
    rw [List.pairwise_cons] at h
    have hy' : d[i]? = some y := by simpa using hy
    have h1 := h.1 y (List.mem_of_getElem? hy')
    rw [List.set_cons_succ, look, look_set h.2 hy' r, look]
    by_cases e : x.1 = r
    · rw [if_pos e, if_pos e, if_neg (fun e2 => h1 (by rw [e, e2]))]
    · rw [if_neg e, if_neg e]
theorem gat_ok {xs : Bg} (h : ∀ x ∈ xs, okR x.1 = true) : GatOk xs (gat xs) := by
  have gen : ∀ (ys : Bg), (∀ x ∈ ys, okR x.1 = true) → GatOk ys (gat ys) := by
    intro ys
    induction hn : ys.length generalizing ys with
    | zero =>
      intro _
      obtain rfl : ys = [] := List.eq_nil_of_length_eq_zero hn
      exact ⟨by simp [gat], List.Pairwise.nil, fun _ => rfl⟩
    | succ n ih =>
      intro hy
      obtain ⟨zs, x, rfl⟩ : ∃ zs x, ys = zs ++ [x] := ⟨ys.dropLast, ys.getLast (by intro e; rw [e] at hn; cases hn), (List.dropLast_concat_getLast _).symm⟩
      have hz := ih zs (by simp at hn; omega) fun y hy2 => hy y (List.mem_append_left _ hy2)
      have hx := hy x (by simp)
      rw [gat_snoc]
      cases hg : gidx (gat zs) (rowT x.1) with
      | none =>
        rw [gstep_none hg]
        have hfar : ∀ y ∈ gat zs, y.1 ≠ x.1 := fun y hy2 e => gidx_none hg y hy2 (by rw [e])
        refine ⟨fun y hy2 => ?_, ?_, fun r => ?_⟩
        · rcases List.mem_append.1 hy2 with h1 | h1
          · exact hz.ok y h1
          · rw [List.mem_singleton.1 h1]; exact hx
        · rw [List.pairwise_append]
          exact ⟨hz.apart, List.pairwise_singleton _ _, fun a ha b hb => by rw [List.mem_singleton.1 hb]; exact hfar a ha⟩
        · rw [look_snoc hfar, sumG_app, sumG_one]
          split
          · rename_i e
            rw [← hz.sum, look_far fun y hy2 => by rw [← e]; exact hfar y hy2]
            omega
          · rw [hz.sum]; omega
      | some i =>
        obtain ⟨y, hy1, hy2⟩ := gidx_some hg
        have hky : y.1 = x.1 := rowT_inj (hz.ok y (List.mem_of_getElem? hy1)) hx hy2
        rw [gstep_some hg hy1, ← hky]
        have hkeys := set_keys (m := y.2 + x.2) (show (gat zs)[i]? = some (y.1, y.2) from hy1)
        refine ⟨fun z hz2 => ?_, ?_, fun r => ?_⟩
        · have h1 : z.1 ∈ ((gat zs).set i (y.1, y.2 + x.2)).map (·.1) := List.mem_map.2 ⟨z, hz2, rfl⟩
          rw [hkeys] at h1
          obtain ⟨u, hu, hu2⟩ := List.mem_map.1 h1
          rw [← hu2]; exact hz.ok u hu
        · have h1 : (((gat zs).set i (y.1, y.2 + x.2)).map (·.1)).Pairwise (· ≠ ·) := by rw [hkeys]; exact List.pairwise_map.2 hz.apart
          exact List.pairwise_map.1 h1
        · rw [look_set hz.apart hy1, sumG_app, sumG_one, ← hky]
          split
          · rename_i e
            have := look_in hz.apart (List.mem_of_getElem? hy1)
            rw [← e, ← hz.sum, this]
          · rw [hz.sum]; omega
  exact gen xs h
/-- A bag that tells how often rows were told. -/
structure Net (xs d : Bg) : Prop where
  asc : Asc d
  ne : ∀ x ∈ d, x.2 ≠ 0
  sum : ∀ r, look d r = sumG xs r
theorem Net.same {xs ys d e : Bg} (h : Net xs d) (k : Net ys e) (hs : ∀ r, sumG xs r = sumG ys r) : d = e :=
  Asc.ext h.asc k.asc h.ne k.ne fun r => by rw [h.sum, k.sum, hs]
theorem look_perm {a b : Bg} (hp : a.Perm b) (hb : b.Pairwise fun x y => x.1 ≠ y.1) (r : Rw) : look a r = look b r := by
  have ha : a.Pairwise fun x y => x.1 ≠ y.1 := (hp.pairwise_iff fun h => Ne.symm h).2 hb
  by_cases h : ∃ x ∈ a, x.1 = r
  · obtain ⟨x, hx, rfl⟩ := h
    rw [look_in ha hx, look_in hb (hp.mem_iff.1 hx)]
  · rw [look_far fun x hx e => h ⟨x, hx, e⟩, look_far fun x hx e => h ⟨x, hp.mem_iff.2 hx, e⟩]
theorem look_filter {b : Bg} (hb : b.Pairwise fun x y => x.1 ≠ y.1) (r : Rw) : look (b.filter fun x => decide (x.2 ≠ 0)) r = look b r := by
  have hf : (b.filter fun x => decide (x.2 ≠ 0)).Pairwise fun x y => x.1 ≠ y.1 := hb.sublist List.filter_sublist
  by_cases h : ∃ x ∈ b, x.1 = r
  · obtain ⟨x, hx, rfl⟩ := h
    rw [look_in hb hx]
    by_cases h0 : x.2 = 0
    · rw [h0]
      refine look_far fun y hy e => ?_
      rw [List.mem_filter] at hy
      have h1 := look_in hb hy.1
      rw [e, look_in hb hx, h0] at h1
      have h2 := hy.2
      simp at h2
      exact h2 h1.symm
    · exact look_in hf (List.mem_filter.2 ⟨hx, by simpa using h0⟩)
  · rw [look_far fun x hx e => h ⟨x, hx, e⟩, look_far fun x hx e => h ⟨x, (List.mem_filter.1 hx).1, e⟩]
theorem gat_done {xs d : Bg} (h : ∀ x ∈ xs, okR x.1 = true) (hp : d.Perm ((gat xs).filter fun x => decide (x.2 ≠ 0))) (hs : d.Pairwise fun x y => ¬ cmpR y.1 x.1 < 0) : Net xs d := by
  have g := gat_ok h
  have ha : ((gat xs).filter fun x => decide (x.2 ≠ 0)).Pairwise fun x y => x.1 ≠ y.1 := g.apart.sublist List.filter_sublist
  have hd : d.Pairwise fun x y => x.1 ≠ y.1 := (hp.pairwise_iff fun h => Ne.symm h).2 ha
  have hm : ∀ x ∈ d, x ∈ gat xs ∧ x.2 ≠ 0 := fun x hx => by
    have := List.mem_filter.1 (hp.mem_iff.1 hx)
    exact ⟨this.1, by simpa using this.2⟩
  refine ⟨⟨fun x hx => g.ok x (hm x hx).1, ?_⟩, fun x hx => (hm x hx).2, fun r => by rw [look_perm hp ha, look_filter g.apart, g.sum]⟩
  have h3 := List.pairwise_and_iff.2 ⟨hs, hd⟩
  refine List.Pairwise.imp_of_mem (fun {x y} hx hy hxy => ?_) h3
  obtain ⟨h4, h5⟩ := hxy
  have h6 := Tot.row.anti x.1 y.1
  rcases Int.lt_trichotomy (cmpR x.1 y.1) 0 with h7 | h7 | h7
  · exact h7
  · exact absurd (okR_eq (g.ok x (hm x hx).1) (g.ok y (hm y hy).1) h7) h5
  · omega
/-- What the reference's After computes. -/
def aftB (b l : Bg) : Bg := l.foldl (fun o x => putB o x.1 x.2) b
theorem aft_snoc (b l : Bg) (x : Rw × Int) : aftB b (l ++ [x]) = putB (aftB b l) x.1 x.2 := by simp [aftB]
theorem aft_ok {b l : Bg} (hl : ∀ x ∈ l, okR x.1 = true) (hb : Asc b) (hn : ∀ x ∈ b, x.2 ≠ 0) : Net (b ++ l) (aftB b l) := by
  have gen : ∀ (n : Nat) (l : Bg), l.length = n → (∀ x ∈ l, okR x.1 = true) → Net (b ++ l) (aftB b l) := by
    intro n
    induction n with
    | zero =>
      intro l hl _
      obtain rfl : l = [] := List.eq_nil_of_length_eq_zero hl
      exact ⟨hb, hn, fun r => by rw [List.append_nil, sumG_asc hb]; rfl⟩
    | succ n ih =>
      intro l hl hk
      obtain ⟨zs, x, rfl⟩ : ∃ zs x, l = zs ++ [x] := ⟨l.dropLast, l.getLast (by intro e; rw [e] at hl; cases hl), (List.dropLast_concat_getLast _).symm⟩
      have hz := ih zs (by simp at hl; omega) fun y hy => hk y (List.mem_append_left _ hy)
      have hx := hk x (by simp)
      rw [aft_snoc, putB_ins hz.asc.up]
      obtain ⟨h1, h2, h3⟩ := ins_ok hx x.2 hz.asc hz.ne
      refine ⟨h1, h2, fun r => ?_⟩
      rw [h3, ← List.append_assoc, sumG_app, sumG_one, ← hz.sum]
      split
      · rename_i e; rw [e]
      · omega
  exact gen l.length l rfl hl
end

section
open Go.RowKit Go.Maps

/-- A value as it lies in a map: a token for itself. -/
def Rv (v : Value) : Option (DataW Value × List MemPlace) := some (.held v, [])
/-- Block b of w is a map of at most n entries that holds F. -/
def MapF (w : World) (P : Program) (k : TypeId) (b n : Nat) (F : Lit → Option Value) : Prop :=
  ∃ D : DataW Value, w.ownsMap P k Rv b n D ∧ IsMap D ∧ (∀ kl, Maps.has D kl = (F kl).isSome) ∧ ∀ kl z, D.atKey kl z = match F kl with | some v => .held v | none => z

section
variable {P : Program} {w w' : World} {k : TypeId} {b n : Nat} {F : Lit → Option Value}
theorem MapF.made (w : World) (P : Program) (k : TypeId) : MapF (w.alloc (.map #[] 0)) P k w.heap.size 0 (fun _ => none) :=
  ⟨.map [], World.ownsMap_made _ _ _ _, isMap_empty, fun _ => rfl, fun _ _ => rfl⟩
theorem MapF.kept {row : Option Nat} (h : MapF w P k b n F) (hg : w.grownBy w' row) (hne : some b ≠ row) : MapF w' P k b n F := by
  obtain ⟨D, h1, h2⟩ := h
  exact ⟨D, h1.kept hg hne, h2⟩
theorem MapF.alloc (h : MapF w P k b n F) (o : Obj) : MapF (w.alloc o) P k b n F := by
  obtain ⟨D, h1, h2⟩ := h
  exact ⟨D, h1.alloc o, h2⟩
theorem MapF.drew (h : MapF w P k b n F) : MapF w.drew P k b n F := h
theorem MapF.mono (h : MapF w P k b n F) {m : Nat} (hm : n ≤ m) : MapF w P k b m F := by
  obtain ⟨D, h1, h2⟩ := h
  exact ⟨D, h1.mono hm, h2⟩
theorem MapF.lt (h : MapF w P k b n F) : b < w.heap.size := by
  obtain ⟨D, h1, _⟩ := h
  exact h1.lt
theorem MapF.setCell (h : MapF w P k b n F) {a : Addr} (ha : b ≠ a.block) (u : Value) : MapF (w.setCell a u) P k b n F := by
  obtain ⟨D, h1, h2⟩ := h
  exact ⟨D, h1.setCell ha u, h2⟩
theorem MapF.block (h : MapF w P k b n F) (hk : w'.heap[b]? = w.heap[b]?) : MapF w' P k b n F := by
  obtain ⟨D, ⟨es, clock, h1, h2⟩, h3⟩ := h
  exact ⟨D, ⟨es, clock, hk.trans h1, h2⟩, h3⟩
theorem MapF.below {B : Nat} (h : MapF w P k b n F) (hb : Below B w w') (hlt : b < B) : MapF w' P k b n F := h.block (hb.block b hlt)
theorem MapF.look {t e : TypeId} (h : MapF w P k b n F) (K : Keyed P k) (ht : P.underlying t = some (.map k e)) {z : Value} (hz : (zeroValue e).run P w = .ok z w) {key : Value} {kl : Lit} (hkey : keyOf P k key = some kl) :
    (Instr.lookup t (.map (some b)) key false).run P w = .ok ((F kl).getD z) w := by
  obtain ⟨D, h1, h2, h3, h4⟩ := h
  obtain ⟨v, ps, hrun, hv⟩ := h1.lookup K ht hz (show Rv z = some (.held z, []) from rfl) hkey
  rw [h4] at hv
  rw [hrun]
  congr 1
  unfold Rv at hv
  cases hF : F kl with
  | none => rw [hF] at hv; simp at hv; exact hv.1
  | some u => rw [hF] at hv; simp at hv; exact hv.1
theorem MapF.look_ok {t e : TypeId} (h : MapF w P k b n F) (K : Keyed P k) (ht : P.underlying t = some (.map k e)) {z : Value} (hz : (zeroValue e).run P w = .ok z w) {key : Value} {kl : Lit} (hkey : keyOf P k key = some kl) :
    (Instr.lookup t (.map (some b)) key true).run P w = .ok (.tuple #[(F kl).getD z, .bool (F kl).isSome]) w := by
  obtain ⟨D, h1, h2, h3, h4⟩ := h
  obtain ⟨v, ps, hrun, hv⟩ := h1.look_ok K ht hz (show Rv z = some (.held z, []) from rfl) hkey
  rw [h4] at hv
  rw [hrun, h3]
  congr 2
  unfold Rv at hv
  cases hF : F kl with
  | none => rw [hF] at hv; simp at hv; rw [hv.1]; rfl
  | some u => rw [hF] at hv; simp at hv; rw [hv.1]; rfl
open Classical in
/-- One entry more. -/
noncomputable def putF (F : Lit → Option Value) (kl : Lit) (v : Value) : Lit → Option Value := fun x => if x = kl then some v else F x
end
end

section
open Go.RowKit Go.Maps
theorem wpListIn_putF {Fn : Fence} {dn : Nat} {P : Program} (w : World) {ops : Array Oper} {rest : List Oper} {o : Oper} {a : Act} {Q : Exit → Act → World → Prop} {b n : Nat} {F : Lit → Option Value} (hg : o.guard = none) (m x v : Operand) (t : TypeId) (hop : o.op = Op.mapUpdate t m x v) (k e : TypeId) (K : Keyed P k) (ht : P.underlying t = some (.map k e))
    (h : MapF w P k b n F) (hn : n < maxLen) (key val : Value) (kl : Lit) (hm : a.eval m = .map (some b)) (hx : a.eval x = key) (hv : a.eval v = val) (hkey : keyOf P k key = some kl)
    (hK : ∀ w', MapF w' P k b (n + 1) (putF F kl val) → w.grownBy w' (some b) → wpListIn Fn dn P ops Q rest (a.put o.dst undef) w') : wpListIn Fn dn P ops Q (o :: rest) a w := by
  obtain ⟨D, h1, h2, h3, h4⟩ := h
  refine wpListIn_mapUpdate_own w hg m x v t hop k e K ht Rv b n D hm h1 hn key val kl hx hv hkey (.held val) [] rfl ?_
  intro w' ho hgr
  refine hK w' ⟨_, ho, h2.put _ _, ?_, ?_⟩ hgr
  · intro y
    unfold putF
    by_cases e : y = kl
    · subst e
      rw [if_pos rfl, has_put_same h2 (K.key hkey)]
      rfl
    · rw [if_neg e, has_put_other e, h3]
  · intro y z
    unfold putF
    by_cases e : y = kl
    · subst e
      rw [if_pos rfl, atKey_put_same h2 (K.key hkey)]
    · rw [if_neg e, atKey_put_other e, h4]
end

section
open Go.RowKit

section
variable {F : Fence} {n : Nat} {P : Program} {α : Type}

/-- The iterator g over the list xs: Wr is what it does to memory between two rounds; Kp is what a round must keep. -/
def IterG (F : Fence) (n : Nat) (P : Program) (g : Nat) (lb : Array Value) (Arg : α → Array Value → World → Prop) (xs : List α) (Wr Kp : World → World → Prop) (W : World) : Prop :=
  ∀ (l : Nat) (J Jx : List α → World → Prop), (∀ s X Y, J s X → Wr X Y → J s Y) → (∀ s X Y, Jx s X → Wr X Y → Jx s Y) →
    (∀ pre x ag W1, pre ++ [x] <+: xs → J pre W1 → Arg x ag W1 → YieldAt F (n - 1) P l ag W1 fun e W' =>
      (e = .returned (.bool true) ∧ J (pre ++ [x]) W' ∧ Kp W1 W') ∨ (e = .returned (.bool false) ∧ Jx (pre ++ [x]) W' ∧ Kp W1 W')) →
    J [] W → CallsIn F n P g (#[.func (.yield l) #[] #[]] ++ lb) W fun e W' => (∃ v, e = .returned v) ∧ (J xs W' ∨ ∃ pre, pre <+: xs ∧ Jx pre W')

/-- .. of which is known, too, what holds of memory when all elements came. -/
def IterGF (F : Fence) (n : Nat) (P : Program) (g : Nat) (lb : Array Value) (Arg : α → Array Value → World → Prop) (xs : List α) (Wr Kp : World → World → Prop) (Fin : World → Prop) (W : World) : Prop :=
  ∀ (l : Nat) (J Jx : List α → World → Prop), (∀ s X Y, J s X → Wr X Y → J s Y) → (∀ s X Y, Jx s X → Wr X Y → Jx s Y) →
    (∀ pre x ag W1, pre ++ [x] <+: xs → J pre W1 → Arg x ag W1 → YieldAt F (n - 1) P l ag W1 fun e W' =>
      (e = .returned (.bool true) ∧ J (pre ++ [x]) W' ∧ Kp W1 W') ∨ (e = .returned (.bool false) ∧ Jx (pre ++ [x]) W' ∧ Kp W1 W')) →
    J [] W → CallsIn F n P g (#[.func (.yield l) #[] #[]] ++ lb) W fun e W' => (∃ v, e = .returned v) ∧ ((J xs W' ∧ Fin W') ∨ ∃ pre, pre <+: xs ∧ Jx pre W')
theorem IterG.f {g : Nat} {lb : Array Value} {Arg : α → Array Value → World → Prop} {xs : List α} {Wr Kp : World → World → Prop} {W : World} (h : IterG F n P g lb Arg xs Wr Kp W) : IterGF F n P g lb Arg xs Wr Kp (fun _ => True) W :=
  fun l J Jx h1 h2 h3 h4 => (h l J Jx h1 h2 h3 h4).mono fun _ _ h => ⟨h.1, h.2.imp (fun h => ⟨h, trivial⟩) id⟩
/-- How a round's body is left; what a round must keep is kept on each way. -/
def rndPostG (B : Nat) (Kp : World → World → Prop) (I : List α → World → Prop) (Ix : Code → List α → World → Prop) (s : List α) (W : World) : Exit → Act → World → Prop
  | .normal, _, W' => KeepsFrom B W W' ∧ Kp W W' ∧ I s W'
  | .ret, _, W' => KeepsFrom B W W' ∧ Kp W W' ∧ Ix .ret s W'
  | .exit id, _, W' => KeepsFrom B W W' ∧ Kp W W' ∧ Ix (.exit id) s W'
  | _, _, _ => False

theorem wpIn_iterGF {g : Operand} {ps : Array Tmp} {assign body : Code} {Q : Exit → Act → World → Prop} {a : Act} {w : World} (hro : F.round = none) (h1 : 1 ≤ n) {gf : Nat} {lb : Array Value}
    (hg : a.eval g = .func (.func gf) #[] lb) (hFg : F.fn gf) (eg : ∀ args w, (callFunc gf args).run P w = .ok (.enter gf args) w)
    {Arg : α → Array Value → World → Prop} {xs : List α} {Wr Kp : World → World → Prop} {Fin : World → Prop} (hFin : OwnFrom w.heap.size (fun (_ : Unit) W => Fin W)) (hit : ∀ W, Below w.heap.size w W → W.heap.size = w.heap.size + 2 → IterGF F (n - 1) P gf lb Arg xs Wr Kp Fin W) (hps : ∀ x ag W, Arg x ag W → ag.size = ps.size)
    (hWr : ∀ X Y, Wr X Y → ∀ k o, w.heap.size ≤ k → k < w.heap.size + 2 → X.heap[k]? = some o → o.isCells = false → Y.heap[k]? = some o) (hKt : ∀ {A B C : World}, Kp A B → Kp B C → Kp A C)
    (hKb : ∀ (W : World) (l : Nat) (o o' : Obj), w.heap.size ≤ l → l < w.heap.size + 2 → W.heap[l]? = some o → o.isCells = false → o.isWalk = false → Kp W (W.putObj l o'))
    (I : List α → World → Prop) (Ix : Code → List α → World → Prop) (hI : OwnFrom w.heap.size I) (hIx : ∀ c, OwnFrom w.heap.size (Ix c)) (hIw : ∀ s X Y, I s X → Wr X Y → I s Y) (hIxw : ∀ c s X Y, Ix c s X → Wr X Y → Ix c s Y) (h0 : I [] w)
    (Ax : List α → α → Act → World → Prop) (hAx : ∀ pre x a', OwnFrom w.heap.size (fun (_ : Unit) W => Ax pre x a' W))
    (hassign : ∀ (l : Nat) (pre : List α) (x : α) (ag : Array Value) (W : World) (K : Act → World → Prop), pre ++ [x] <+: xs → I pre W → Arg x ag W → (∀ a' W', KeepsFrom w.heap.size W W' → Kp W W' → I pre W' → Ax pre x a' W' → K a' W') →
      assign.wpIn (F.inRound l) (n - 1 - 1) P (Exit.then K (fun _ _ _ => False)) { tmps := (ps.zip ag).foldl (fun t (p, v) => t.setIfInBounds p v) a.tmps, defers := [] } W)
    (hbody : ∀ (l : Nat) (pre : List α) (x : α) (a' : Act) (W : World), pre ++ [x] <+: xs → I pre W → Ax pre x a' W → body.wpIn (F.inRound l) (n - 1 - 1) P (rndPostG w.heap.size Kp I Ix (pre ++ [x]) W) a' W)
    (hdone : ∀ (D : Nat) (W : World), w.heap.size ≤ D → I xs W → Fin W → W.heap[D]? = some (.deferred (some [])) → Q .normal { a with defers := { target := .collected D, args := #[] } :: a.defers } W)
    (hstop : ∀ (D : Nat) (c : Code) (pre : List α) (W : World), w.heap.size ≤ D → pre <+: xs → Ix c pre W → W.heap[D]? = some (.deferred (some [])) → c.wpIn F n P Q { a with defers := { target := .collected D, args := #[] } :: a.defers } W) :
    (Code.rangeFunc g ps assign body).wpIn F n P Q a w := by
  refine wpIn_rangeFunc fun fn hfn => ?_
  rw [hro]
  obtain ⟨N, hN⟩ : ∃ N, w.heap.size = N := ⟨_, rfl⟩
  let rc : LoopState → Option Code → Loop := fun st pe => { state := st, pending := pe, fn, tmps := a.tmps, params := ps, assign, body, defers := w.heap.size }
  let W1 := (w.alloc (.deferred (some []))).alloc (.loop (rc .ready none))
  have lL : W1.heap[N + 1]? = some (.loop (rc .ready none)) := by
    have h := World.alloc_heap_new (w.alloc (.deferred (some []))) (.loop (rc .ready none))
    rw [World.size_alloc, hN] at h; exact h
  have lD : W1.heap[N]? = some (.deferred (some [])) := by
    have h := World.alloc_heap_new w (.deferred (some []))
    rw [hN] at h
    exact (Below.heap_alloc _ _ _ (by rw [World.size_alloc, hN]; omega)).trans h
  have hB1 : Below w.heap.size w W1 := ((Below.refl _ w).alloc (Nat.le_refl _) _).alloc (by simp) _
  refine ⟨w.heap.size + 1, [{ target := .collected w.heap.size, args := #[] }], W1, { target := .fn (.func gf) lb, args := #[.func (.yield (w.heap.size + 1)) #[] #[]] }, W1, gf, #[.func (.yield (w.heap.size + 1)) #[] #[]] ++ lb, W1,
    run_enterLoop_outer _ _ _ _ _, by simp only [resolve, hg]; simp [go_sem], fun f' hf' => by simp [Target.leads] at hf'; subst hf'; exact hFg, by simp [invoke, go_sem, eg], fun _ => h1, ?_⟩
  -- both blocks of book-keeping, whatever the record says
  let Bk : Loop → World → Prop := fun r W => W.heap[N + 1]? = some (.loop r) ∧ W.heap[N]? = some (.deferred (some []))
  have bkF : ∀ {r : Loop} {X Y : World}, KeepsFrom N X Y → Bk r X → Bk r Y := fun h k => ⟨h.same _ _ (by omega) k.1 rfl, h.same _ _ (Nat.le_refl _) k.2 rfl⟩
  have bkW : ∀ {r : Loop} {X Y : World}, Wr X Y → Bk r X → Bk r Y := fun h k => ⟨hWr _ _ h (N + 1) _ (by omega) (by omega) k.1 rfl, hWr _ _ h N _ (by omega) (by omega) k.2 rfl⟩
  have bkP : ∀ {r r' : Loop} {X : World}, Bk r X → Bk r' (X.putObj (N + 1) (.loop r')) := fun k => ⟨World.putObj_heap_same (Array.getElem?_eq_some_iff.1 k.1).1, (World.putObj_heap_other (by omega)).trans k.2⟩
  have bkI : ∀ {β : Type} {J : β → World → Prop} {s : β} {r : Loop} {X : World} (r' : Loop), OwnFrom N J → J s X → Bk r X → J s (X.putObj (N + 1) (.loop r')) := fun r' hJ hs k => hJ.putObj _ hs (by omega) k.1 rfl
  have bkK : ∀ {r : Loop} {X : World} (r' : Loop), Bk r X → Kp X (X.putObj (N + 1) (.loop r')) := fun {r X} r' k => hKb X (N + 1) _ _ (by omega) (by omega) k.1 rfl rfl
  have bkE : ∀ {r : Loop} {X : World} (j : Option Code), Bk r X → (Instr.endRound (N + 1) j).run P X = .ok (.bool j.isNone) (X.putObj (N + 1) (.loop { r with state := if j.isNone then .ready else .done, pending := j })) := fun j k => run_endRound j k.1
  rw [hN] at hI hFin hassign hbody hdone hstop
  have hIx' : ∀ c, OwnFrom N (Ix c) := fun c => hN ▸ hIx c
  have hAx' : ∀ pre x a', OwnFrom N (fun (_ : Unit) W => Ax pre x a' W) := fun pre x a' => hN ▸ hAx pre x a'
  have hI1 : I [] W1 := hI.alloc _ (hI.alloc _ h0)
  have hc := hit W1 hB1 (by show (((w.alloc (.deferred (some []))).alloc (.loop (rc .ready none))).heap.size) = _; simp) (N + 1) (fun pre W => I pre W ∧ Bk (rc .ready none) W) (fun pre W => ∃ c, Ix c pre W ∧ Bk (rc .done (some c)) W)
    (fun s X Y h k => ⟨hIw s X Y h.1 k, bkW k h.2⟩) (fun s X Y ⟨c, h1, h2⟩ k => ⟨c, hIxw c s X Y h1 k, bkW k h2⟩) ?_ ⟨hI1, lL, lD⟩
  · rw [hN]
    refine hc.mono ?_
    rintro e W2 ⟨⟨v, rfl⟩, (⟨⟨hi, hk⟩, hf⟩ | ⟨pre, hp, c, hi, hk⟩)⟩
    · exact ⟨none, _, run_endLoop hk.1 (by simp [rc]), hdone N _ (Nat.le_refl _) (bkI _ hI hi hk) (bkI (s := ()) _ hFin hf hk) (bkP (r' := _) hk).2⟩
    · exact ⟨some c, _, run_endLoop hk.1 (by simp [rc]), hstop N c pre _ (Nat.le_refl _) hp (bkI _ (hIx' c) hi hk) (bkP (r' := _) hk).2⟩
  · rintro pre x ag W hpx ⟨hi, hk⟩ hag
    refine ⟨fn, _, assign, body, run_yield (args := ag) hk.1 (hps x ag W hag), roundIn_of_wpIn hfn (hassign _ pre x ag W _ hpx hi hag fun a' Wa hkf hkp hia hax => ?_)⟩
    have hka := bkF hkf hk
    refine ⟨_, run_beginRound hka.1 rfl, ?_⟩
    have hkb := bkP (r' := { rc .ready none with state := .busy }) hka
    have fin : ∀ {W3 : World} (j : Option Code), KeepsFrom N (Wa.putObj (N + 1) (.loop { rc .ready none with state := .busy })) W3 →
        (Instr.endRound (N + 1) j).run P W3 = .ok (.bool j.isNone) (W3.putObj (N + 1) (.loop (rc (if j.isNone then .ready else .done) j))) ∧ Bk { rc .ready none with state := .busy } W3 := fun j h => ⟨bkE j (bkF h hkb), bkF h hkb⟩
    refine wpIn_mono (hbody _ pre x a' _ hpx (bkI _ hI hia hka) (bkI (s := ()) _ (hAx' pre x a') hax hka)) ?_
    rintro e a3 W3 hp
    cases e with
    | normal =>
      obtain ⟨h3, hp3, hi3⟩ := hp
      obtain ⟨hr, hb3⟩ := fin none h3
      exact ⟨_, _, hr, .inl ⟨rfl, ⟨bkI _ hI hi3 hb3, bkP hb3⟩, hKt hkp (hKt (bkK _ hka) (hKt hp3 (bkK _ hb3)))⟩⟩
    | ret =>
      obtain ⟨h3, hp3, hi3⟩ := hp
      obtain ⟨hr, hb3⟩ := fin (some .ret) h3
      exact ⟨_, _, hr, .inr ⟨rfl, ⟨.ret, bkI _ (hIx' _) hi3 hb3, bkP hb3⟩, hKt hkp (hKt (bkK _ hka) (hKt hp3 (bkK _ hb3)))⟩⟩
    | exit id =>
      obtain ⟨h3, hp3, hi3⟩ := hp
      obtain ⟨hr, hb3⟩ := fin (some (.exit id)) h3
      exact ⟨_, _, hr, .inr ⟨rfl, ⟨.exit id, bkI _ (hIx' _) hi3 hb3, bkP hb3⟩, hKt hkp (hKt (bkK _ hka) (hKt hp3 (bkK _ hb3)))⟩⟩
    | goto t => exact hp.elim
    | panic ch => exact hp.elim
    | outgrown => exact hp.elim
theorem wpIn_iterG {g : Operand} {ps : Array Tmp} {assign body : Code} {Q : Exit → Act → World → Prop} {a : Act} {w : World} (hro : F.round = none) (h1 : 1 ≤ n) {gf : Nat} {lb : Array Value}
    (hg : a.eval g = .func (.func gf) #[] lb) (hFg : F.fn gf) (eg : ∀ args w, (callFunc gf args).run P w = .ok (.enter gf args) w)
    {Arg : α → Array Value → World → Prop} {xs : List α} {Wr Kp : World → World → Prop} (hit : ∀ W, Below w.heap.size w W → W.heap.size = w.heap.size + 2 → IterG F (n - 1) P gf lb Arg xs Wr Kp W) (hps : ∀ x ag W, Arg x ag W → ag.size = ps.size)
    (hWr : ∀ X Y, Wr X Y → ∀ k o, w.heap.size ≤ k → k < w.heap.size + 2 → X.heap[k]? = some o → o.isCells = false → Y.heap[k]? = some o) (hKt : ∀ {A B C : World}, Kp A B → Kp B C → Kp A C)
    (hKb : ∀ (W : World) (l : Nat) (o o' : Obj), w.heap.size ≤ l → l < w.heap.size + 2 → W.heap[l]? = some o → o.isCells = false → o.isWalk = false → Kp W (W.putObj l o'))
    (I : List α → World → Prop) (Ix : Code → List α → World → Prop) (hI : OwnFrom w.heap.size I) (hIx : ∀ c, OwnFrom w.heap.size (Ix c)) (hIw : ∀ s X Y, I s X → Wr X Y → I s Y) (hIxw : ∀ c s X Y, Ix c s X → Wr X Y → Ix c s Y) (h0 : I [] w)
    (Ax : List α → α → Act → World → Prop) (hAx : ∀ pre x a', OwnFrom w.heap.size (fun (_ : Unit) W => Ax pre x a' W))
    (hassign : ∀ (l : Nat) (pre : List α) (x : α) (ag : Array Value) (W : World) (K : Act → World → Prop), pre ++ [x] <+: xs → I pre W → Arg x ag W → (∀ a' W', KeepsFrom w.heap.size W W' → Kp W W' → I pre W' → Ax pre x a' W' → K a' W') →
      assign.wpIn (F.inRound l) (n - 1 - 1) P (Exit.then K (fun _ _ _ => False)) { tmps := (ps.zip ag).foldl (fun t (p, v) => t.setIfInBounds p v) a.tmps, defers := [] } W)
    (hbody : ∀ (l : Nat) (pre : List α) (x : α) (a' : Act) (W : World), pre ++ [x] <+: xs → I pre W → Ax pre x a' W → body.wpIn (F.inRound l) (n - 1 - 1) P (rndPostG w.heap.size Kp I Ix (pre ++ [x]) W) a' W)
    (hdone : ∀ (D : Nat) (W : World), w.heap.size ≤ D → I xs W → W.heap[D]? = some (.deferred (some [])) → Q .normal { a with defers := { target := .collected D, args := #[] } :: a.defers } W)
    (hstop : ∀ (D : Nat) (c : Code) (pre : List α) (W : World), w.heap.size ≤ D → pre <+: xs → Ix c pre W → W.heap[D]? = some (.deferred (some [])) → c.wpIn F n P Q { a with defers := { target := .collected D, args := #[] } :: a.defers } W) :
    (Code.rangeFunc g ps assign body).wpIn F n P Q a w :=
  wpIn_iterGF hro h1 hg hFg eg (Fin := fun _ => True) (fun _ _ _ _ _ _ _ => trivial) (fun W a b => (hit W a b).f) hps hWr hKt hKb I Ix hI hIx hIw hIxw h0 Ax hAx hassign hbody (fun D W a b _ c => hdone D W a b c) hstop
end
end

section
open Go

section
variable {P : Program} {ops : Array Oper} {Q : Exit → Act → World → Prop} {md : Region.Mode} {S : World → Prop} {s : Nat}

/-- Every order from here on is good; behind each operation but s the world meets S. -/
def Held (P : Program) (md : Region.Mode) (ops : Array Oper) (Q : Exit → Act → World → Prop) (S : World → Prop) (s : Nat) : Nat → Array Bool → Act → World → Prop
  | 0, l, a, w => Region.ready md ops l = [] ∧ Q .normal a w
  | n + 1, l, a, w => (Region.ready md ops l = [] → Q .normal a w) ∧
      ∀ i ∈ Region.ready md ops l, wpOp P ops Q i (fun b x => (i ≠ s → S x) ∧ Held P md ops Q S s n (l.setIfInBounds i true) b x) a w

theorem Held.any : ∀ (n : Nat) (l : Array Bool) (a : Act) (w : World), Held P md ops Q S s n l a w → wpAny P md ops Q n l a w := by
  intro n
  induction n with
  | zero => intro l a w h; exact h
  | succ n ih => intro l a w h; exact ⟨h.1, fun i hi => wpOp_mono (fun b x hx => ih _ b x hx.2) (h.2 i hi)⟩

/-- An operation that s waits for, and that yields v wherever S holds, may go first. -/
theorem Held.first {i : Nat} {o : Oper} {v : Value} (hi : ops[i]? = some o) (hsel : ∀ (j : Nat) (o : Oper) cs b, ops[j]? = some o → o.op ≠ .select cs b)
    (hQ : ∀ c a w, Q (.panic c) (a.put o.dst v) w → Q (.panic c) a w) (hs : ∀ os, ops[s]? = some os → ∃ e ∈ os.after, Region.binds md e = true ∧ e.on = i) (n : Nat) :
    ∀ (l : Array Bool) (a : Act) (w : World),
      (∀ j oj, ops[j]? = some oj → j ≠ i → l.getD j true = false → (∀ e ∈ oj.after, Region.binds md e = true → e.on ≠ i) → o.apart ops oj = true) →
      i ∈ Region.ready md ops l → YieldsIf P ops S o v a → S w → Held P md ops Q S s n (l.setIfInBounds i true) (a.put o.dst v) w → Held P md ops Q S s (n + 1) l a w := by
  induction n with
  | zero =>
    intro l a w _ hr hy hS H
    constructor
    · intro h; rw [h] at hr; cases hr
    · intro j hj
      by_cases e : j = i
      · subst e; exact hy.wpOp hi hS ⟨fun _ => hS, H⟩
      · have h0 := ready_mono hj e
        rw [H.1] at h0; cases h0
  | succ n ih =>
    intro l a w hf hr hy hS H
    constructor
    · intro h; rw [h] at hr; cases hr
    · intro j hj
      by_cases e : j = i
      · subst e; exact hy.wpOp hi hS ⟨fun _ => hS, H⟩
      · obtain ⟨hun, oj, hoj, hall⟩ := mem_ready.1 hj
        have hno : ∀ e ∈ oj.after, Region.binds md e = true → e.on ≠ i := by
          intro x hx hb heq
          have g1 := hall x hx hb
          have g0 := (mem_ready.1 hr).1
          rw [heq] at g1
          by_cases hlt : i < l.size
          · simp [hlt] at g0 g1; rw [g0] at g1; cases g1
          · simp [Array.getElem?_eq_none (Nat.le_of_not_lt hlt)] at g1
        have hjs : j ≠ s := by
          rintro rfl
          obtain ⟨x, hx, hb, heq⟩ := hs oj hoj
          exact hno x hx hb heq
        have key := wpOp_putIf hoj (hf j oj hoj e hun hno) (fun cs b => hsel i o cs b hi) (fun cs b => hsel j oj cs b hoj) hQ hy (H.2 j (ready_mono hj e))
        refine wpOp_mono (fun b x hx => ⟨hx.2.1, ih _ b x ?_ (ready_mono hr (Ne.symm e)) hx.1 (hx.2.1 hjs) ?_⟩) key
        · intro k ok hk hki hu hn
          refine hf k ok hk hki ?_ hn
          by_cases ek : j = k
          · subst ek; exact hun
          · rwa [getD_set_ne true ek] at hu
        · rw [Array.setIfInBounds_comm _ _ e]; exact hx.2.2

/-- s waits for i: as a Bool that the kernel reckons. -/
def waitsB (md : Region.Mode) (ops : Array Oper) (s i : Nat) : Bool := match ops[s]? with
  | some o => o.after.any fun e => Region.binds md e && e.on == i
  | none => true
theorem waitsB_spec {s i : Nat} (h : waitsB md ops s i = true) : ∀ os, ops[s]? = some os → ∃ e ∈ os.after, Region.binds md e = true ∧ e.on = i := by
  intro os ho
  unfold waitsB at h
  rw [ho] at h
  obtain ⟨e, he, hb⟩ := Array.any_eq_true'.1 h
  simp only [Bool.and_eq_true, beq_iff_eq] at hb
  exact ⟨e, he, hb.1, hb.2⟩
theorem Held.take {i : Nat} {o : Oper} (v : Value) {n : Nat} {l : Array Bool} {a : Act} {w : World} (hi : ops[i]? = some o) (hS : S w)
    (hse : Region.noSelect ops = true) (hf : Region.free md ops l i = true) (hr : (Region.ready md ops l).contains i = true) (hw : waitsB md ops s i = true)
    (hQ : ∀ c a w, Q (.panic c) (a.put o.dst v) w → Q (.panic c) a w) (hg : o.guard = none) (hy : ∀ x, S x → (execOp a.eval o).run P x = .ok (.value v) x)
    (h : Held P md ops Q S s n (l.setIfInBounds i true) (a.put o.dst v) w) : Held P md ops Q S s (n + 1) l a w :=
  Held.first hi (Region.noSelect_spec hse) hQ (waitsB_spec hw) n l a w (Region.free_spec hi hf) (by simpa using hr) (.inl ⟨by simp [Region.wanted, hg], hy⟩) hS h
/-- One operation alone may come up: it is carried out where it stands. -/
theorem Held.one {i : Nat} {o : Oper} {n : Nat} {l : Array Bool} {a : Act} {w : World} (ho : ops[i]? = some o) (hr : Region.ready md ops l = [i]) (hg : o.guard = none)
    (h : ∀ K : Act → World → Prop, (∀ b x, (i ≠ s → S x) → Held P md ops Q S s n (l.setIfInBounds i true) b x → K b x) → Oper.wp P o a w K Q) : Held P md ops Q S s (n + 1) l a w := by
  constructor
  · intro h0; rw [hr] at h0; cases h0
  · intro j hj
    rw [hr] at hj
    obtain rfl : j = i := by simpa using hj
    refine wpOp_step ho (fun K hK => ?_)
    rw [if_pos (by simp [Region.wanted, hg])]
    exact h K (fun b x h1 h2 => hK b x ⟨h1, h2⟩)
theorem Held.done {n : Nat} {l : Array Bool} {a : Act} {w : World} (hr : Region.ready md ops l = []) (h : Q .normal a w) : Held P md ops Q S s n l a w := by
  cases n with
  | zero => exact ⟨hr, h⟩
  | succ n => exact ⟨fun _ => h, by rw [hr]; simp⟩
theorem Held.begin {id : Nat} {a : Act} {w : World} (S : World → Prop) (s : Nat) (hm : P.follows .mixedOrders = true)
    (h : Held P .any ops Q S s ops.size (Array.replicate ops.size false) a w.drew) : (Code.region id ops true).wp P Q a w :=
  wp_region_any hm (Held.any _ _ _ _ h)
end
end

section
open Go

section
variable {P : Program} {ops : Array Oper} {Q : Exit → Act → World → Prop} {md : Region.Mode} {n l : Nat}
theorem rowsIn_of {row : String} {args : Array Value} {w : World} {R : Value → World → Prop} (h : Rows P row args w R) : RowsIn (Fence.wide.inRound l) n P row args w R :=
  fun c cs _ => let ⟨v, w', r, s⟩ := h c cs; ⟨v, w', r, (stepsIn_wide (P := P)).2 s⟩
theorem opIn_of {o : Oper} {a : Act} {w : World} {K : Act → World → Prop} (hd : ∀ c, o.op ≠ .defer c) (h : o.wp P a w K Q) : o.wpIn (Fence.wide.inRound l) n P a w K Q := by
  unfold Oper.wpIn
  refine ⟨fun _ _ => trivial, ?_⟩
  rw [Oper.semAt_eq _ _ _ hd]
  unfold Oper.wp at h
  generalize (execOp a.eval o).run P w = r at *
  cases r with
  | ok x w' =>
    cases x <;> simp only [Oper.upon, Oper.uponIn] at h ⊢ <;>
      first
        | exact h
        | exact ⟨fun hc => (by have hc' : (none : Option Nat).isSome = true := hc; cases hc'), CallsIn.mono ((callsIn_wide.2 h).inRound l) (fun e _ he => by cases e <;> exact he)⟩
        | exact ⟨fun hc => (by have hc' : (none : Option Nat).isSome = true := hc; cases hc'), rowsIn_of h⟩
        | exact h.elim
  | halt x w' => cases x <;> simp only [Oper.upon, Oper.uponIn] at h ⊢ <;> exact h
def noDefer (ops : Array Oper) : Bool := ops.all fun o => match o.op with
  | .defer _ => false
  | _ => true
theorem noDefer_spec (h : noDefer ops = true) : ∀ (i : Nat) (o : Oper), ops[i]? = some o → ∀ c, o.op ≠ .defer c := by
  intro i o ho c hc
  unfold noDefer at h
  rw [Array.all_eq_true'] at h
  have := h o (Array.mem_of_getElem? ho)
  rw [hc] at this
  cases this
theorem anyIn_of (hd : noDefer ops = true) (hQ : ¬ LetsOut Q) : ∀ (k : Nat) (s : Array Bool) (a : Act) (w : World), wpAny P md ops Q k s a w → wpAnyIn (Fence.wide.inRound l) n P md ops Q k s a w := by
  have hop : ∀ (i : Nat) (a : Act) (w : World) (K : Act → World → Prop), wpOp P ops Q i K a w → wpOpIn (Fence.wide.inRound l) n P ops Q i K a w := fun i a w K h => by
    unfold wpOp at h
    unfold wpOpIn
    split
    · rename_i hn
      simpa [hn] using h
    · rename_i o ho
      simp only [ho] at h
      split
      · rename_i hw
        simp only [hw, if_true] at h
        exact opIn_of (noDefer_spec hd i o ho) (h.resolve_right fun e => hQ e.2)
      · rename_i hw
        simp only [hw] at h
        exact ⟨fun _ _ => trivial, h⟩
  intro k
  induction k with
  | zero => intro s a w h; exact h
  | succ k ih =>
    intro s a w h
    exact ⟨h.1, fun i hi => wpOpIn_mono (fun b x hx => ih _ b x hx) (hop i a w _ (h.2 i hi))⟩
/-- A region inside a round, by 'Held'. -/
theorem Held.beginR {id : Nat} {a : Act} {w : World} (S : World → Prop) (s : Nat) (hm : P.follows .mixedOrders = true) (hd : noDefer ops = true) (hQ : ¬ LetsOut Q)
    (h : Held P .any ops Q S s ops.size (Array.replicate ops.size false) a w.drew) : (Code.region id ops true).wpIn (Fence.wide.inRound l) n P Q a w :=
  wpIn_region_any hm (anyIn_of hd hQ _ _ _ _ (Held.any _ _ _ _ h))
end
end

end Go.Proofs.YtoapjidpfghnlaaGreatDoor
