/-
  The walks of clock.Windows for every spec and time, of tidewrightref01.Same, and of the chapter's example (awake).
-/
import Derived.Test.YtehifbogadohgaaDoorCkC
import Derived.Test.YtehifbogadohgaaDoorSameW
namespace Go.Proofs.YtehifbogadohgaaDoor
open Go.RowKit Go.Shelf
attribute [local go_sem] Oper.semAt_some wide_fn wide_depth

theorem wins_len (k z p g h t : Int) (hv : vspec k z p g h = true) : (wins k z p g h t).length ≤ 50 := by
  by_cases h3 : k = 3
  · simp [wins, h3]
  by_cases h4 : k = 4
  · simp [wins, h4]
  have hs := stp_of k z p g h hv (by unfold vspec at hv; rw [decide_eq_true_eq] at hv; omega)
  simp only [wins, h3, h4, if_false, winsFrom_length]
  obtain ⟨f1, f2⟩ := from0_bd (t := t) hs
  have := hs.zb; have := hs.bz
  exact count_small hs.b1 (by omega) (by omega)

theorem windows_stops (n : Nat) (hn : 1 ≤ n) (N : Nat) (X : List Nat) (Bs Bt : Nat) (k z p g h t : Int) (hv : vspec k z p g h = true) (ht : vtime t = true) (w : World) (hBs : Bs < N) (hBt : Bt < N) (hXs : Bs ∉ X) (hXt : Bt ∉ X)
    (bs : Blk w Bs 23 #[.int .i64 k, .int .i64 z, .int .i64 p, .int .i64 g, .int .i64 h]) (bt : Blk w Bt 3 #[.int .i64 t]) :
    SeqStopsK Fence.wide n Tryd.prog 33 #[.pointer (some ⟨Bs, 0, none⟩), .pointer (some ⟨Bt, 0, none⟩)] encWv (Bar N X) (fun ys => ys = wins k z p g h t) (fun pre => pre <+: wins k z p g h t) (wins k z p g h t).length w := fun l J Jx W hW hJ _ hY h0 => by
  have hs := (hW.block Bs bs.lt).trans bs
  have h_t := (hW.block Bt bt.lt).trans bt
  have b1 : Blk W Bs 23 #[.int .i64 k, .int .i64 z, .int .i64 p, .int .i64 g, .int .i64 h] := hs
  have b2 : Blk W Bt 3 #[.int .i64 t] := h_t
  exact windows1_in n hn l N X Bs Bt k z p g h t hv ht hBs hBt hXs hXt J Jx W hJ b1.lt b2.lt hY (b1.cell 0) (b1.cell 1) (b1.cell 2) (b1.cell 3) (b1.cell 4) (b2.cell 0) h0

set_option maxHeartbeats 1000000 in
theorem Windows_ok (k z p g h t : Int) (hv : vspec k z p g h = true) (ht : vtime t = true) (w : World) :
    Calls Tryd.prog 10 #[.agg #[.int .i64 k, .int .i64 z, .int .i64 p, .int .i64 g, .int .i64 h], .int .i64 t] w (RetSlE w 2 (wins k z p g h t).length (flatW (wins k z p g h t)) 0) := by
  have HV := hide hv
  have HT := hide ht
  go_enter Tryd.func10, Tryd.ntmps10
  go_wp2_with fail
  refine (ValidSpec_any _ _ _ _ _ _).mono ?_
  rintro e w1 ⟨rfl, hB1⟩
  rw [HV.out]
  have bs1 := (Blk.new w 23 #[.int .i64 k, .int .i64 z, .int .i64 p, .int .i64 g, .int .i64 h]).below hB1 (by simp)
  have e0 := bs1.cell 0
  have e1 := bs1.cell 1
  have e2 := bs1.cell 2
  have e3 := bs1.cell 3
  have e4 := bs1.cell 4
  simp at e0 e1 e2 e3 e4
  go_wp2_with fail
  refine (Valid_any _ _).mono ?_
  rintro e w' ⟨rfl, rfl⟩
  rw [HT.out]
  go_wp2_with fail
  refine (windows_any _ _ _ _ _ _ _).mono ?_
  rintro e w2 ⟨rfl, rfl⟩
  go_wp2_with fail
  refine ((callsIn_wide (n := 3)).1 (Collect_in 3 (by omega) 33 _ (enters_of Tryd.func33 (by kernel_rfl) rfl) (wins k z p g h t) _ _ (Nat.le_trans (wins_len k z p g h t HV.out) (by omega)) _
    (windows_stops 1 (by omega) _ _ _ _ k z p g h t HV.out HT.out _ ?_ ?_ ?_ ?_ ?_ ?_))).mono ?_
  · first | (simp; done) | (simp; omega)
  · first | (simp; done) | (simp; omega)
  · first | (simp; done) | (simp; omega)
  · first | (simp; done) | (simp; omega)
  · exact (Blk.new w1 _ _).alloc _
  · have := Blk.new (w1.alloc (.cells #[.int .i64 k, .int .i64 z, .int .i64 p, .int .i64 g, .int .i64 h] 23)) 3 #[.int .i64 t]
    rwa [World.size_alloc] at this
  rintro e w3 ⟨A, c, rfl, hR, hB⟩
  go_wp2
  go_ret2
  refine ⟨A, c, rfl, hR, bstep (bstep ((Below.refl _ w).alloc (Nat.le_refl _) _) hB1) (bstep (((Below.refl _ w1).alloc (Nat.le_refl _) _).alloc (by simp) _) hB)⟩

theorem Windows_bad (k z p g h t : Int) (hv : vspec k z p g h = false) (w : World) :
    Calls Tryd.prog 10 #[.agg #[.int .i64 k, .int .i64 z, .int .i64 p, .int .i64 g, .int .i64 h], .int .i64 t] w (RetSlE w 2 0 [] 1) := by
  have HV := hide hv
  clear hv
  go_enter Tryd.func10, Tryd.ntmps10
  go_wp2_with fail
  refine (ValidSpec_any _ _ _ _ _ _).mono ?_
  rintro e w1 ⟨rfl, hB1⟩
  rw [HV.out]
  go_wp2
  go_ret2
  exact ⟨none, 0, rfl, Reads.none_, bstep ((Below.refl _ w).alloc (Nat.le_refl _) _) hB1⟩

theorem Windows_range (k z p g h t : Int) (hv : vspec k z p g h = true) (ht : vtime t = false) (w : World) :
    Calls Tryd.prog 10 #[.agg #[.int .i64 k, .int .i64 z, .int .i64 p, .int .i64 g, .int .i64 h], .int .i64 t] w (RetSlE w 2 0 [] 7) := by
  have HV := hide hv
  have HT := hide ht
  clear hv ht
  go_enter Tryd.func10, Tryd.ntmps10
  go_wp2_with fail
  refine (ValidSpec_any _ _ _ _ _ _).mono ?_
  rintro e w1 ⟨rfl, hB1⟩
  rw [HV.out]
  go_wp2_with fail
  refine (Valid_any _ _).mono ?_
  rintro e w' ⟨rfl, rfl⟩
  rw [HT.out]
  go_wp2
  go_ret2
  exact ⟨none, 0, rfl, Reads.none_, bstep ((Below.refl _ w).alloc (Nat.le_refl _) _) hB1⟩

/-- The chapter's example holds. -/
theorem awake_any (w : World) : Calls Tryd.prog 4 #[] w (RetV w (.bool true)) := by
  have hv : vspec 2 10 5 0 0 = true := by decide
  have ht : vtime 12 = true := by decide
  have ew : wins 2 10 5 0 0 12 = [(5, 15), (10, 20)] := by decide
  have cW := fun W => Windows_ok 2 10 5 0 0 12 hv ht W
  rw [ew] at cW
  have CW := hide cW
  clear cW hv ht ew
  go_enter Tryd.func4, Tryd.ntmps4
  go_wp2_with fail
  refine (CW.out _).mono ?_
  rintro e w1 ⟨A, c, rfl, hR, hB⟩
  go_wp2_with fail
  refine (SameW_any _ _ _ _ _ _ w1.heap.size (w1.heap.size + 1) [(5, 15), (10, 20)] [(5, 15), (10, 20)] _ (hR.alloc (Nat.le_refl _) _) ?_ (by simp) (by omega)).mono ?_
  · refine ⟨rfl, fun _ => ⟨w1.heap.size, 0, rfl, by omega, ?_⟩⟩
    intro j u hu
    rw [(Blk.new w1 _ _).cell]
    simpa [flatW, encW] using hu
  rintro e w3 ⟨rfl, n3, rfl⟩
  go_wp2
  go_ret
  exact ⟨rfl, bstep hB (below_drewN ((Below.refl _ _).alloc (Nat.le_refl _) _) n3)⟩

/-- What Windows hands back: the windows, and the error. -/
def winsE (k z p g h t : Int) : List (Int × Int) × Int := if vspec k z p g h then (if vtime t then (wins k z p g h t, 0) else ([], 7)) else ([], 1)
theorem Windows_any (k z p g h t : Int) (w : World) :
    Calls Tryd.prog 10 #[.agg #[.int .i64 k, .int .i64 z, .int .i64 p, .int .i64 g, .int .i64 h], .int .i64 t] w (RetSlE w 2 (winsE k z p g h t).1.length (flatW (winsE k z p g h t).1) (winsE k z p g h t).2) := by
  unfold winsE
  by_cases hv : vspec k z p g h = true
  · by_cases ht : vtime t = true
    · simp only [hv, ht, if_true]; exact Windows_ok k z p g h t hv ht w
    · simp only [hv, ht, if_true]; exact Windows_range k z p g h t hv (by simpa using ht) w
  · simp only [hv]; exact Windows_bad k z p g h t (by simpa using hv) w
end Go.Proofs.YtehifbogadohgaaDoor
