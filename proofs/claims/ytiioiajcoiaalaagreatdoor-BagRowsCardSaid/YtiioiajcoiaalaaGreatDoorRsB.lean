/-
  bag.Project and the reference's Project of a bag.
-/
import Derived.Test.YtiioiajcoiaalaaGreatDoorRsA
import Derived.Test.YtiioiajcoiaalaaGreatDoorPjB
import Derived.Test.YtiioiajcoiaalaaGreatDoorNetM
namespace Go.Proofs.YtiioiajcoiaalaaGreatDoor
open Go.RowKit
attribute [local go_sem] Oper.semAt_some
set_option linter.unusedVariables false
set_option linter.unusedSimpArgs false

theorem pj1_any (x : Int) (w : World) : Calls Tryz.prog 86 #[.int .i64 x] w fun e w' => e = .returned (.bool (!btw x 0 7)) ∧ w = w' := by
  obtain ⟨b, hb⟩ : ∃ b, btw x 0 7 = b := ⟨_, rfl⟩
  have HB := hide (hb ▸ bwithin_any x 0 7 w)
  rw [hb]
  clear hb
  go_enter Tryz.func86, Tryz.ntmps86
  go_wp2_with fail
  refine HB.out.mono ?_
  rintro e w' ⟨rfl, rfl⟩
  go_wp2
  go_ret
  exact ⟨rfl, rfl⟩
set_option maxRecDepth 100000 in
set_option maxHeartbeats 2000000 in
theorem idx_c8 (A' : Option Addr) (n' c' B : Nat) (xs : List Int) (w : World) (hx : Reads w B 1 A' n' (xs.map (Value.int .i64))) (hn : n' ≤ 9223372036854775807) :
    Calls Tryz.prog 116 #[.slice A' n' c', .func (Fn.func 86) #[] #[]] w fun e w' => (∃ i : Int, e = .returned (.int .i64 i) ∧ decide (0 ≤ i) = xs.any (fun c => !btw c 0 7)) ∧ w = w' := by
  have HL := hide hx.len1
  go_enter Tryz.func116, Tryz.ntmps116
  go_wp2_with fail
  go_loopw [8] (fun i wr => ∃ k : Nat, k ≤ n' ∧ i = .int .i64 k ∧ (xs.take k).any (fun c => !btw c 0 7) = false ∧ wr = w) (fun i _ => n' - (intOf i).toNat)
  case atStart => exact ⟨0, Nat.zero_le _, rfl, rfl, rfl⟩
  case round =>
    obtain ⟨k, hk, rfl, hany, rfl⟩ := hrel
    have HA := hide hany
    clear hany
    by_cases hlt : k < n'
    · obtain ⟨b, off, x, rfl, hb, hxk, c0⟩ := hx.at1 hlt
      have HE := hide hxk
      clear hxk
      have q1 : (0 : Int) ≤ (k : Int) := by omega
      have q2 : (k : Int) < (n' : Int) := by omega
      go_wp2_with fail
      refine (pj1_any x wr).mono ?_
      rintro ee w1 ⟨rfl, rfl⟩
      cases hq : btw x 0 7
      · have HX := hide (show xs.any (fun c => !btw c 0 7) = true from List.any_eq_true.2 ⟨x, List.mem_of_getElem? HE.out, by rw [hq]; rfl⟩)
        clear hq c0
        go_wp2
        go_ret
        exact ⟨⟨_, rfl, by rw [HX.out]; simp⟩, rfl⟩
      · have HX := hide (show (xs.take (k + 1)).any (fun c => !btw c 0 7) = false by rw [take_snoc' HE.out, List.any_append, HA.out]; simp [hq])
        clear hq c0
        go_wp2
        go_roundw
        case rel => exact ⟨k + 1, by omega, by go_num, HX.out, trivial⟩
        case measure => simp [intOf]; omega
    · obtain rfl : k = n' := by omega
      go_wp2
      go_ret
      exact ⟨⟨_, rfl, by
        have := HA.out
        rw [take_all HL.out] at this
        rw [this]; rfl⟩, rfl⟩
theorem con_c8 (A' : Option Addr) (n' c' B : Nat) (xs : List Int) (w : World) (hx : Reads w B 1 A' n' (xs.map (Value.int .i64))) (hn : n' ≤ 9223372036854775807) :
    Calls Tryz.prog 70 #[.slice A' n' c', .func (Fn.func 86) #[] #[]] w fun e w' => e = .returned (.bool (xs.any (fun c => !btw c 0 7))) ∧ w = w' := by
  go_enter Tryz.func70, Tryz.ntmps70
  go_wp2_with (go_at_call 116; refine (idx_c8 A' n' c' B xs w hx hn).mono ?_; rintro e w' ⟨⟨i, rfl, hi⟩, rfl⟩)
  go_ret
  exact ⟨rfl, rfl⟩
theorem WrB.of_bar {B S : Nat} {Xs : List Nat} {X Y : World} (h : Bar X.heap.size Xs X Y) (low : ∀ k ∈ Xs, B ≤ k ∧ ∀ c fz, X.heap[k]? ≠ some (.cells c 64 fz)) : WrB B S Xs X Y :=
  ⟨h.os, h.tape, h.output, h.size, fun k o hk hx _ => (h.block k (Array.getElem?_eq_some_iff.1 hk).1 hx).trans hk, low⟩
theorem Bar.mono {N N' : Nat} {Xs : List Nat} {X Y : World} (h : Bar N Xs X Y) (hN : N' ≤ N) : Bar N' Xs X Y := ⟨h.os, h.tape, h.output, h.size, fun k hk hx => h.block k (by omega) hx⟩
set_option maxRecDepth 100000 in
set_option maxHeartbeats 4000000 in
/-- The closure that Project hands to made. -/
theorem pj2_any (x : It) (Bc Bw : Nat) (A' : Option Addr) (n' c' : Nat) (cols : List Int) (v : Int) (B : Nat) (w : World) (hrow : RowK w B x.A x.n x.r) (hc : Boxed w Bc 38 (.slice A' n' c')) (hcr : Reads w w.heap.size 1 A' n' (cols.map (Value.int .i64))) (hn' : n' ≤ 9223372036854775807)
    (hw : Boxed w Bw 28 (.int .i64 v)) (hne : Bc ≠ Bw) (hBB : B ≤ Bw) :
    Calls Tryz.prog 87 #[.agg #[.slice x.A x.n x.c, .int .i64 x.m], .pointer (some ⟨Bc, 0, none⟩), .pointer (some ⟨Bw, 0, none⟩)] w fun e w' =>
      (∃ A n c, e = .returned (.tuple #[.slice A n c, .int .i64 x.m]) ∧ RowK w' B A n (prL x.r cols)) ∧ Boxed w' Bw 28 (.int .i64 (worstS cols v (x.r, x.m))) ∧ Bar w.heap.size [Bw] w w' := by
  have hB0 := below_val (w := w) #[.slice x.A x.n x.c, .int .i64 x.m] 62
  have b0 := Blk.new w 62 #[.slice x.A x.n x.c, .int .i64 x.m]
  have c0 := hc.alloc (.cells #[.slice x.A x.n x.c, .int .i64 x.m] 62)
  have w0 := hw.alloc (.cells #[.slice x.A x.n x.c, .int .i64 x.m] 62)
  have hr0 := hrow.below hB0
  have hcr0 := hcr.up hB0
  have hltw := hw.lt
  have hltc := hc.lt
  obtain ⟨E, hE⟩ : ∃ E, prE x.r cols = E := ⟨_, rfl⟩
  obtain ⟨L, hL⟩ : ∃ L, prL x.r cols = L := ⟨_, rfl⟩
  rw [hL]
  go_enter Tryz.func87, Tryz.ntmps87
  go_upto_region 1 with fail
  obtain ⟨W, hW⟩ : ∃ W, w.alloc (.cells #[.slice x.A x.n x.c, .int .i64 x.m] 62) = W := ⟨_, rfl⟩
  obtain ⟨bx, hbx⟩ : ∃ bx, w.heap.size = bx := ⟨_, rfl⟩
  have HBX := hide hbx
  rw [hW] at hB0 b0 c0 w0 hr0 hcr0 ⊢
  rw [hbx] at b0 ⊢
  have k0 := b0.cell 0
  have kc := c0.cell
  have HP := hide (Project_own x.A x.n x.c x.r A' n' c' cols W hr0.rd hr0.le hcr0 hn')
  rw [hE, hL] at HP
  have HE := hide hE
  clear hW hbx hE hL hr0 hcr0 hc hw hcr hrow
  go_wp2_with fail
  refine HP.out.mono ?_
  rintro e W1 ⟨A1, c1, rfl, hown, hB1⟩
  have b1 : Blk W1 bx 62 #[.slice x.A x.n x.c, .int .i64 x.m] := (hB1.block _ b0.lt).trans b0
  have w1 : Boxed W1 Bw 28 (.int .i64 v) := (hB1.block _ w0.lt).trans w0
  have hB := bstep hB0 hB1
  have HR := hide (show ∀ W2, Bar W1.heap.size [Bw] W1 W2 → RowK W2 B A1 L.length L from fun W2 h2 => by
    have hr : RowK W1 B A1 L.length L := RowK.of_own hown (by
      rcases hown.2 with ⟨_, h⟩ | ⟨g, cap, cur, _, _, _, h1, h2, _⟩
      · omega
      · unfold maxLen at h2; omega)
    exact hr.keep (p := fun k => k = Bw) (fun k hk hp => h2.block k hk (by simpa using hp)) h2.size fun k hk => by
      subst hk
      refine ⟨hBB, fun c fz e => ?_⟩
      rw [show W1.heap[k]? = _ from w1] at e
      injection e with e
      injection e with _ e
      exact absurd e (by decide))
  clear HP k0 kc b0 c0 w0 hB0 hB1 hown
  by_cases hs : E = 7 ∨ (E ≠ 0 ∧ v = 0)
  · have HV := hide (show worstS cols v (x.r, x.m) = E by unfold worstS; simp only [HE.out]; rw [if_pos hs])
    have kw := w1.cell
    have fw := w1.frozen
    have k1 := b1.cell 1
    have w2 := w1.set (.int .i64 E)
    have HBR := hide (show Bar w.heap.size [Bw] w (W1.setCell ⟨Bw, 0, none⟩ (.int .i64 E)) from (Bar.of_below hB [Bw]).setCell (.inr (by simp)) _)
    have HR2 := hide (HR.out (W1.setCell ⟨Bw, 0, none⟩ (.int .i64 E)) ((Bar.refl _ _ _).setCell (.inr (by simp)) _))
    have kx : (W1.setCell ⟨Bw, 0, none⟩ (.int .i64 E)).cell? ⟨bx, 1, none⟩ = some (.int .i64 x.m) := by
      rw [World.cell?_setCell_other _ _ _ _ (by intro e; injection e with e; have := HBX.out; omega)]
      simpa using k1
    have HW2 := hide w2
    have key : (E == 7) = true ∨ ((E == 7) = false ∧ (E != 0) = true ∧ (v == 0) = true) := by
      rcases hs with h | ⟨h1, h2⟩
      · exact .inl (by simpa using h)
      · by_cases h7 : E = 7
        · exact .inl (by simpa using h7)
        · exact .inr ⟨by simpa using h7, by simpa using h1, by simpa using h2⟩
    clear hs w1 b1 w2 hB HR
    rcases key with z1 | ⟨z1, z2, z3⟩
    · go_wp2_with fail
      go_quiet (fail)
      go_wp2
      go_ret2
      exact ⟨⟨_, _, _, rfl, HR2.out.drewN _⟩, by rw [HV.out]; exact HW2.out, HBR.out.drewN _⟩
    · go_wp2_with fail
      go_quiet (fail)
      go_wp2
      go_ret2
      exact ⟨⟨_, _, _, rfl, HR2.out.drewN _⟩, by rw [HV.out]; exact HW2.out, HBR.out.drewN _⟩
  · have HV := hide (show worstS cols v (x.r, x.m) = v by unfold worstS; simp only [HE.out]; rw [if_neg hs])
    have kw := w1.cell
    have k1 : W1.cell? ⟨bx, 1, none⟩ = some (.int .i64 x.m) := by simpa using b1.cell 1
    have HBR := hide (show Bar w.heap.size [Bw] w W1 from Bar.of_below hB [Bw])
    have HR2 := hide (HR.out W1 (Bar.refl _ _ _))
    have HW2 := hide w1
    have z0 : (E == 7) = false := by have : E ≠ 7 := fun h => hs (.inl h); simpa using this
    by_cases h0 : E = 0
    · have z1 : (E != 0) = false := by simpa using h0
      clear hs w1 b1 hB HR h0
      go_wp2_with fail
      go_quiet (fail)
      go_wp2
      go_ret2
      exact ⟨⟨_, _, _, rfl, HR2.out.drewN _⟩, by rw [HV.out]; exact HW2.out, HBR.out.drewN _⟩
    · have z1 : (E != 0) = true := by simpa using h0
      have z2 : (v == 0) = false := by have : v ≠ 0 := fun h => hs (.inr ⟨h0, h⟩); simpa using this
      clear hs w1 b1 hB HR h0
      go_wp2_with fail
      go_quiet (fail)
      go_wp2
      go_ret2
      exact ⟨⟨_, _, _, rfl, HR2.out.drewN _⟩, by rw [HV.out]; exact HW2.out, HBR.out.drewN _⟩
end Go.Proofs.YtiioiajcoiaalaaGreatDoor
