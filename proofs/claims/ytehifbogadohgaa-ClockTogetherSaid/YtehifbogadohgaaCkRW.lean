/-
  The walk of tidewrightref01.Windows, for every spec and time.
-/
import Derived.Test.YtehifbogadohgaaCkAtW
import Derived.Test.YtehifbogadohgaaCkRV
namespace Go.Proofs.Ytehifbogadohgaa
open Go.RowKit Go.Shelf

theorem RWindows_any (k z p g h t : Int) (w : World) :
    Calls Try.prog 17 #[.agg #[.int .i64 k, .int .i64 z, .int .i64 p, .int .i64 g, .int .i64 h], .int .i64 t] w (RetSlE w 2 (winsE k z p g h t).1.length (flatW (winsE k z p g h t).1) (winsE k z p g h t).2) := by
  unfold winsE
  by_cases hv : vspec k z p g h = true
  · by_cases ht : vtime t = true
    · simp only [hv, ht, if_true]
      have CA := hide (fun W => (At_any k z p g h t hv ht W).mono fun _ _ h => h.sl)
      have HV := hide hv
      have HT := hide ht
      clear hv ht
      go_enter Try.func17, Try.ntmps17
      go_wp2_with fail
      refine (RValidSpec_any _ _ _ _ _ _).mono ?_
      rintro e w1 ⟨rfl, hB1⟩
      rw [HV.out]
      have bs1 := (Blk.new w 27 #[.int .i64 k, .int .i64 z, .int .i64 p, .int .i64 g, .int .i64 h]).below hB1 (by simp)
      have e0 := bs1.cell 0
      have e1 := bs1.cell 1
      have e2 := bs1.cell 2
      have e3 := bs1.cell 3
      have e4 := bs1.cell 4
      simp at e0 e1 e2 e3 e4
      go_wp2_with fail
      refine (RValid_any _ _).mono ?_
      rintro e w' ⟨rfl, rfl⟩
      rw [HT.out]
      go_wp2_with fail
      refine (CA.out _).mono ?_
      rintro e w3 ⟨A, c, rfl, hR, hB⟩
      go_wp2
      go_ret2
      exact ⟨A, c, rfl, hR, bstep (bstep ((Below.refl _ w).alloc (Nat.le_refl _) _) hB1) hB⟩
    · simp only [hv, ht, if_true]
      have HV := hide hv
      have HT : Hid (vtime t = false) := hide (by simpa using ht)
      clear hv ht
      go_enter Try.func17, Try.ntmps17
      go_wp2_with fail
      refine (RValidSpec_any _ _ _ _ _ _).mono ?_
      rintro e w1 ⟨rfl, hB1⟩
      rw [HV.out]
      go_wp2_with fail
      refine (RValid_any _ _).mono ?_
      rintro e w' ⟨rfl, rfl⟩
      rw [HT.out]
      go_wp2
      go_ret2
      exact ⟨none, 0, rfl, Reads.none_, bstep ((Below.refl _ w).alloc (Nat.le_refl _) _) hB1⟩
  · have HV : Hid (vspec k z p g h = false) := hide (by simpa using hv)
    simp only [hv]
    clear hv
    go_enter Try.func17, Try.ntmps17
    go_wp2_with fail
    refine (RValidSpec_any _ _ _ _ _ _).mono ?_
    rintro e w1 ⟨rfl, hB1⟩
    rw [HV.out]
    go_wp2
    go_ret2
    exact ⟨none, 0, rfl, Reads.none_, bstep ((Below.refl _ w).alloc (Nat.le_refl _) _) hB1⟩
end Go.Proofs.Ytehifbogadohgaa
