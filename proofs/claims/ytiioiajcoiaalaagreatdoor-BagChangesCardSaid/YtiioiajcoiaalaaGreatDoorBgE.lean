/-
  The walks of bag.Sum and bag.Minus, for every two bags.
-/
import Derived.Test.YtiioiajcoiaalaaGreatDoorBgD
namespace Go.Proofs.YtiioiajcoiaalaaGreatDoor
open Go.RowKit Go.Shelf
attribute [local go_sem] Oper.semAt_some wide_fn wide_depth

/-- What two bags put together are, with the error. -/
def comb (f : Int → Int → Int) (a b : Bg) : Bg × Int := if okBag a && okBag b then (if okBag (both f (prs a b)) then (both f (prs a b), 0) else ([], 4)) else ([], 1)
def RetC (w : World) (p : Bg × Int) : Ending → World → Prop := RetBag w p.1 p.2
theorem both_bad (g : Nat) (A : Option Addr) (n c : Nat) (la : List It) (A' : Option Addr) (n' c' : Nat) (lb : List It) (w : World) (ha : BagR w w.heap.size A n la) (hb : BagR w w.heap.size A' n' lb) (caps : Array Value)
    (hv : (okBag (dat la) && okBag (dat lb)) = false) : CallsIn Fence.wide 4 Tryz.prog 66 #[.slice A n c, .slice A' n' c', .func (Fn.func g) #[] caps] w (RetBag w [] 1) := by
  have hB0 := below_val (w := w) #[.func (Fn.func g) #[] caps] 87
  refine callsIn_of_wp_marks Tryz.func66 rfl trivial ?_ rfl
  simp only [Tryz.ntmps66, List.size_toArray, List.length_cons, List.length_nil, Nat.reduceAdd, Nat.reduceSub, Array.replicate_succ, Array.replicate_zero, List.push_toArray, List.append_toArray, List.nil_append, List.cons_append]
  gi_wp2_with fail
  obtain ⟨W0, hW0⟩ : ∃ W0, w.alloc (.cells #[.func (Fn.func g) #[] caps] 87) = W0 := ⟨_, rfl⟩
  rw [hW0] at hB0 ⊢
  clear hW0
  refine (callsIn_wide.2 (BagValid_any A n c _ la W0 (ha.below hB0))).mono ?_
  rintro e W1 ⟨rfl, hB1⟩
  have hB01 := bstep hB0 hB1
  clear hB0 hB1
  cases hva : okBag (dat la)
  · have HE := hide hB01
    clear hB01 ha hb hva hv
    gi_wp2
    exact ⟨_, results_tmp2 rfl _ _ _, none, 0, 0, [], rfl, rfl, BagR.nil _ _, Nat.le_refl _, HE.out⟩
  · have HVB := hide (show okBag (dat lb) = false from by rw [hva, Bool.true_and] at hv; exact hv)
    clear hva hv
    gi_wp2_with fail
    refine (callsIn_wide.2 (BagValid_any A' n' c' _ lb W1 (hb.below hB01))).mono ?_
    rintro e W2 ⟨rfl, hB2⟩
    rw [HVB.out]
    have HE := hide (bstep hB01 hB2)
    clear hB01 hB2 ha hb
    gi_wp2
    exact ⟨_, results_tmp2 rfl _ _ _, none, 0, 0, [], rfl, rfl, BagR.nil _ _, Nat.le_refl _, HE.out⟩
theorem both_any (f : Int → Int → Int) (g : Nat) (caps : Array Value) (eg : ∀ args w, (callFunc g args).run Tryz.prog w = .ok (.enter g args) w)
    (A : Option Addr) (n c : Nat) (la : List It) (A' : Option Addr) (n' c' : Nat) (lb : List It) (w : World) (ha : BagR w w.heap.size A n la) (hb : BagR w w.heap.size A' n' lb) (hc : n ≤ c) (hc' : n' ≤ c')
    (hf : ∀ (m k : Int) (W : World), -1000000 ≤ m → m ≤ 1000000 → -1000000 ≤ k → k ≤ 1000000 → Below w.heap.size w W → Calls Tryz.prog g (#[.int .i64 m, .int .i64 k] ++ caps) W fun e W' => e = .returned (.int .i64 (f m k)) ∧ W = W') :
    Calls Tryz.prog 66 #[.slice A n c, .slice A' n' c', .func (Fn.func g) #[] caps] w (RetC w (comb f (dat la) (dat lb))) := by
  refine (callsIn_wide (n := 4)).1 ?_
  cases hv : okBag (dat la) && okBag (dat lb)
  · have : comb f (dat la) (dat lb) = ([], 1) := by unfold comb; rw [hv]; rfl
    rw [this]
    exact both_bad g A n c la A' n' c' lb w ha hb caps hv
  · rw [Bool.and_eq_true] at hv
    refine (both_in f g caps eg A n c la A' n' c' lb w ha hb hc hc' hf hv.1 hv.2).mono fun e W' h => ?_
    unfold RetPut at h
    unfold RetC comb
    rw [hv.1, hv.2]
    cases ho : okBag (both f (prs (dat la) (dat lb))) <;> rw [ho] at h <;> exact h

end Go.Proofs.YtiioiajcoiaalaaGreatDoor
