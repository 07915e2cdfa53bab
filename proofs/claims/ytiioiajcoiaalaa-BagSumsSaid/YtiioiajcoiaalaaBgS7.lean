/-
  The walk of bag.Times, for every bag and number.
-/
import Derived.Test.YtiioiajcoiaalaaBgE
import Derived.Test.YtiioiajcoiaalaaBgS6
namespace Go.Proofs.Ytiioiajcoiaalaa
open Go.RowKit
attribute [local go_sem] Oper.semAt_some

theorem mul_bound {m n : Int} (h1 : -1000000 ≤ m ∧ m ≤ 1000000) (h2 : -1000000 ≤ n ∧ n ≤ 1000000) : -1000000000000 ≤ m * n ∧ m * n ≤ 1000000000000 := by
  have ha : (m * n).natAbs ≤ 1000000 * 1000000 := by
    rw [Int.natAbs_mul]
    exact Nat.mul_le_mul (by omega) (by omega)
  omega
theorem times1_any (m k n : Int) (g : Nat) (w : World) (h1 : -1000000 ≤ m ∧ m ≤ 1000000) (h2 : -1000000 ≤ n ∧ n ≤ 1000000) (hc : w.cell? ⟨g, 0, none⟩ = some (.int .i64 n)) : Calls Try.prog 37 #[.int .i64 m, .int .i64 k, .pointer (some ⟨g, 0, none⟩)] w fun e w' => e = .returned (.int .i64 (m * n)) ∧ w = w' := by
  have hb := mul_bound h1 h2
  have hw : IntKind.i64.wrap (m * n) = m * n := by rw [IntKind.wrap_i64]; omega
  go_enter Try.func37, Try.ntmps37
  go_wp2
  go_ret
  exact ⟨ret_int (by first | rfl | exact hw), rfl⟩
/-- What Times tells. -/
def timesB (b : Bg) (n : Int) : Bg × Int := if okBag b then (if btw n (-1000000) 1000000 then comb (fun m _ => m * n) b [] else ([], 7)) else ([], 1)
set_option maxRecDepth 100000 in
set_option maxHeartbeats 1000000 in
theorem Times_any (A : Option Addr) (n c : Nat) (l : List It) (x : Int) (w : World) (hb : BagR w w.heap.size A n l) (hc : n ≤ c) :
    Calls Try.prog 13 #[.slice A n c, .int .i64 x] w (RetC w (timesB (dat l) x)) := by
  have hB0 := below_val (w := w) #[.int .i64 x] 3
  have b0 := Blk.new w 3 #[.int .i64 x]
  obtain ⟨d, E, hp⟩ : ∃ d E, timesB (dat l) x = (d, E) := ⟨_, _, rfl⟩
  rw [hp]
  show Calls _ _ _ _ (RetBag w d E)
  have HP := hide hp
  clear hp
  go_enter Try.func13, Try.ntmps13
  go_wp2_with fail
  obtain ⟨W0, hW0⟩ : ∃ W0, w.alloc (.cells #[.int .i64 x] 3) = W0 := ⟨_, rfl⟩
  rw [hW0] at hB0 b0 ⊢
  clear hW0
  refine (BagValid_any A n c _ l W0 (hb.below hB0)).mono ?_
  rintro e W1 ⟨rfl, hB1⟩
  have b1 := b0.below hB1 b0.lt
  have hB01 := bstep hB0 hB1
  have c1 := b1.cell 0
  simp at c1
  clear hB0 hB1 b0
  cases ho : okBag (dat l)
  · obtain ⟨rfl, rfl⟩ : [] = d ∧ (1 : Int) = E := by
      have := HP.out
      unfold timesB at this
      rw [ho] at this
      simpa using this
    clear ho
    go_wp2
    go_ret2
    exact ⟨none, 0, 0, [], rfl, rfl, BagR.nil _ _, Nat.le_refl _, hB01⟩
  · have HO := hide ho
    clear ho
    go_wp2_with fail
    refine (bwithin_any x _ _ W1).mono ?_
    rintro e w' ⟨rfl, rfl⟩
    cases hw : btw x (-1000000) 1000000
    · obtain ⟨rfl, rfl⟩ : [] = d ∧ (7 : Int) = E := by
        have := HP.out
        unfold timesB at this
        rw [HO.out, hw] at this
        simpa using this
      clear hw
      go_wp2
      go_ret2
      exact ⟨none, 0, 0, [], rfl, rfl, BagR.nil _ _, Nat.le_refl _, hB01⟩
    · have hx : -1000000 ≤ x ∧ x ≤ 1000000 := by unfold btw at hw; simpa using hw
      have hcm : comb (fun m _ => m * x) (dat l) [] = (d, E) := by
        have := HP.out
        unfold timesB at this
        rw [HO.out, hw] at this
        exact this
      have H := both_any (fun m _ => m * x) 37 #[.pointer (some ⟨w.heap.size, 0, none⟩)] (enters_of Try.func37 (by kernel_rfl) rfl) A n c l none 0 0 [] W1 ((hb.below hB01).mono hB01.size) (BagR.nil _ _) hc (Nat.le_refl _) (fun m k W h1 h2 _ _ hW => times1_any m k x w.heap.size W ⟨h1, h2⟩ hx ((hW.cell (p := ⟨w.heap.size, 0, none⟩) b1.lt).trans c1))
      rw [show dat [] = ([] : Bg) from rfl, hcm] at H
      have HH := hide H
      clear H hw hcm
      go_wp2_with fail
      refine HH.out.mono ?_
      rintro e W2 ⟨Ar, nr, cr, lr, rfl, hd, hbr, hcr, hB⟩
      have HE := hide (bstep hB01 hB)
      clear hB hB01 c1 b1
      go_wp2
      go_ret2
      exact ⟨Ar, nr, cr, lr, rfl, hd, hbr, hcr, HE.out⟩
end Go.Proofs.Ytiioiajcoiaalaa
