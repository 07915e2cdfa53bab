/-
  The walk of the reference's Plus, for every two valid bags and a number in range. (Printed by gen_bgs8.)
-/
import Derived.Test.YtiioiajcoiaalaaGreatDoorBgS5
import Derived.Test.YtiioiajcoiaalaaGreatDoorBgS8a
namespace Go.Proofs.YtiioiajcoiaalaaGreatDoor
open Go.RowKit
attribute [local go_sem] Oper.semAt_some

theorem one_cellI {l : List It} : ∀ u ∈ l.flatMap encIt, u.oneCell' = true := by
  intro u hu
  obtain ⟨v, _, hv⟩ := List.mem_flatMap.1 hu
  unfold encIt at hv
  simp only [List.mem_cons, List.not_mem_nil, or_false] at hv
  rcases hv with rfl | rfl <;> rfl
set_option maxRecDepth 100000 in
set_option maxHeartbeats 1000000 in
theorem RPlus_any (A1 : Option Addr) (n1 c1 : Nat) (la : List It) (A2 : Option Addr) (n2 c2 : Nat) (lb : List It) (x : Int) (w : World) (ha : BagR w w.heap.size A1 n1 la) (hb : BagR w w.heap.size A2 n2 lb)
    (oa : okBag (dat la) = true) (ob : okBag (dat lb) = true) (hx : -1000000 ≤ x ∧ x ≤ 1000000) :
    Calls Tryz.prog 59 #[.slice A1 n1 c1, .slice A2 n2 c2, .int .i64 x] w (RetB w (plusB (dat la) (dat lb) x)) := by
  obtain ⟨i0, hi, hz0, hz1, hz2⟩ := info_parts3 infoItem
  have hla : n1 ≤ 400 := by have := (okBag_asc oa).2.2; rw [dat_len, ha.len] at this; exact this
  have hlb : n2 ≤ 400 := by have := (okBag_asc ob).2.2; rw [dat_len, hb.len] at this; exact this
  have OA := hide oa
  have OB := hide ob
  clear oa ob
  go_enter Tryz.func59, Tryz.ntmps59
  go_wp2_with (at_builtin; refine wpList_append_any _ rfl _ _ 23 rfl w.heap.size 62 i0 _ 2 32 Tryz.underlying23 hi hz0 hz1 hz2 rfl (by decide) (.slice none 0 0) 0 [] rfl (World.ownsRow_nil _ _ _ _) w.heap.size A1 n1 c1 (la.flatMap encIt) rfl ha.rd one_cellI (by unfold maxLen; omega) (by omega) (by simp) ?_; intro v' W1 hown hgrow _; rw [Nat.zero_add, List.nil_append] at hown)
  have hB1 : Below w.heap.size w W1 := below_append (Below.refl _ _) (World.ownsRow_nil w w.heap.size 62 2) (Nat.le_refl _) hgrow
  obtain ⟨A', c', rfl, hR⟩ := own_form hown
  have hbag : BagR W1 W1.heap.size A' n1 la := ⟨Reads.of_own hown, (ha.rows.below hB1).mono hB1.size, ha.le⟩
  have hcap := own_cap hown
  clear hR hown hgrow
  go_wp2_with fail
  go_loopw [7, 8] (fun v i wr => ∃ (k : Nat) (A : Option Addr) (n c : Nat) (l : List It), k ≤ n2 ∧ i = .int .i64 k ∧ .slice A n c = v ∧ BagR wr wr.heap.size A n l ∧ n ≤ c ∧ dat l = plusB (dat la) ((dat lb).take k) x ∧ Below w.heap.size w wr) (fun _ i _ => n2 - (intOf i).toNat)
  case atStart => exact ⟨0, _, _, _, la, Nat.zero_le _, rfl, rfl, hbag, hcap, rfl, hB1⟩
  case round =>
    clear hbag hcap hB1
    obtain ⟨k, A, n, c, l, hk, rfl, rfl, hbg, hcp, hdl, hBw⟩ := hrel
    by_cases hlt : k < n2
    · obtain ⟨b, off, y0, rfl, hbl, hyk, e0, e1, hy⟩ := (hb.below hBw).at_ hlt
      have hyd := dat_at hyk
      have hmem := List.mem_of_getElem? hyd
      have hym := numB_ne ((okBag_asc OB.out).2.1 _ hmem)
      have hyr := (okBag_asc OB.out).1.ok _ hmem
      have hy8 : y0.n ≤ 1000 := by
        have h1 : y0.r.length ≤ 8 := by unfold okR at hyr; rw [Bool.and_eq_true, decide_eq_true_eq] at hyr; exact hyr.2
        rw [hy.len] at h1
        omega
      have hmul : -1000000000000 ≤ x * y0.m ∧ x * y0.m ≤ 1000000000000 := mul_bound hx ⟨hym.2.1, hym.2.2⟩
      have hw1 : IntKind.i64.wrap (x * y0.m) = x * y0.m := by rw [IntKind.wrap_i64]; omega
      have hp := plus_ok (n := x) (okBag_asc OA.out).1 (fun z hz => (numB_ne ((okBag_asc OA.out).2.1 z hz)).1) (asc_take (okBag_asc OB.out).1 k)
      have hpl := plus_len OA.out OB.out x k (by rw [dat_len, hb.len]; exact hk)
      have HN := hide (show plusB (dat la) ((dat lb).take (k + 1)) x = putB (dat l) y0.r (x * y0.m) from by rw [take_snoc' hyd, plus_snoc, hdl])
      have hnl : n ≤ 2000 := by rw [← hdl, dat_len, dat_len, hbg.len, ha.len] at hpl; omega
      have HR := hide (show ∀ z ∈ dat l, z.1.length ≤ 1000 from fun z hz => by
        rw [hdl] at hz
        have h1 := hp.1.ok z hz
        unfold okR at h1
        rw [Bool.and_eq_true, decide_eq_true_eq] at h1
        omega)
      have HM := hide (show ∀ z ∈ dat l, -4000000000000 ≤ z.2 ∧ z.2 ≤ 4000000000000 from fun z hz => by rw [hdl] at hz; exact plus_num OA.out OB.out hx k hz)
      have q1 : (0 : Int) ≤ (k : Int) := by omega
      have q2 : (k : Int) < (n2 : Int) := by omega
      clear hp hpl hyd hmem hyr hdl
      go_wp2_with fail
      refine Held.begin (fun y => y.cell? ⟨b, off + k * 2, none⟩ = some (.slice y0.A y0.n y0.c) ∧ y.cell? ⟨b, off + k * 2 + 1, none⟩ = some (.int .i64 y0.m)) 100 (by kernel_rfl) ?_
      obtain ⟨X1, hX1⟩ : ∃ X1, wr.drew = X1 := ⟨_, rfl⟩
      have hD : Below wr.heap.size wr X1 := by rw [← hX1]; exact (Below.refl _ _).drew
      have hS : X1.cell? ⟨b, off + k * 2, none⟩ = some (.slice y0.A y0.n y0.c) ∧ X1.cell? ⟨b, off + k * 2 + 1, none⟩ = some (.int .i64 y0.m) := by rw [← hX1]; exact ⟨e0, e1⟩
      rw [hX1]
      clear hX1 e0 e1
      refine Held.take (i := 0) (.slice A n c) rfl hS (by kernel_rfl) (by kernel_rfl) (by kernel_rfl) (by kernel_rfl) (fun _ _ _ h => h) rfl (fun y hy => by obtain ⟨x1, x2⟩ := hy; go_simp) ?_
      try simp only [Act.put]
      refine Held.take (i := 1) (.slice (some ⟨b, off, none⟩) n2 c2) rfl hS (by kernel_rfl) (by kernel_rfl) (by kernel_rfl) (by kernel_rfl) (fun _ _ _ h => h) rfl (fun y hy => by obtain ⟨x1, x2⟩ := hy; go_simp) ?_
      try simp only [Act.put]
      refine Held.take (i := 2) (.int .i64 (k : Int)) rfl hS (by kernel_rfl) (by kernel_rfl) (by kernel_rfl) (by kernel_rfl) (fun _ _ _ h => h) rfl (fun y hy => by obtain ⟨x1, x2⟩ := hy; go_simp) ?_
      try simp only [Act.put]
      refine Held.take (i := 3) (.pointer (some ⟨b, off + k * 2, none⟩)) rfl hS (by kernel_rfl) (by kernel_rfl) (by kernel_rfl) (by kernel_rfl) (fun _ _ _ h => h) rfl (fun y hy => by obtain ⟨x1, x2⟩ := hy; go_simp) ?_
      try simp only [Act.put]
      refine Held.take (i := 4) (.pointer (some ⟨b, off + k * 2, none⟩)) rfl hS (by kernel_rfl) (by kernel_rfl) (by kernel_rfl) (by kernel_rfl) (fun _ _ _ h => h) rfl (fun y hy => by obtain ⟨x1, x2⟩ := hy; go_simp) ?_
      try simp only [Act.put]
      refine Held.take (i := 5) (.slice y0.A y0.n y0.c) rfl hS (by kernel_rfl) (by kernel_rfl) (by kernel_rfl) (by kernel_rfl) (fun _ _ _ h => h) rfl (fun y hy => by obtain ⟨x1, x2⟩ := hy; go_simp) ?_
      try simp only [Act.put]
      refine Held.take (i := 6) (.int .i64 x) rfl hS (by kernel_rfl) (by kernel_rfl) (by kernel_rfl) (by kernel_rfl) (fun _ _ _ h => h) rfl (fun y hy => by obtain ⟨x1, x2⟩ := hy; go_simp) ?_
      try simp only [Act.put]
      refine Held.take (i := 7) (.slice (some ⟨b, off, none⟩) n2 c2) rfl hS (by kernel_rfl) (by kernel_rfl) (by kernel_rfl) (by kernel_rfl) (fun _ _ _ h => h) rfl (fun y hy => by obtain ⟨x1, x2⟩ := hy; go_simp) ?_
      try simp only [Act.put]
      refine Held.take (i := 8) (.int .i64 (k : Int)) rfl hS (by kernel_rfl) (by kernel_rfl) (by kernel_rfl) (by kernel_rfl) (fun _ _ _ h => h) rfl (fun y hy => by obtain ⟨x1, x2⟩ := hy; go_simp) ?_
      try simp only [Act.put]
      refine Held.take (i := 9) (.pointer (some ⟨b, off + k * 2, none⟩)) rfl hS (by kernel_rfl) (by kernel_rfl) (by kernel_rfl) (by kernel_rfl) (fun _ _ _ h => h) rfl (fun y hy => by obtain ⟨x1, x2⟩ := hy; go_simp) ?_
      try simp only [Act.put]
      refine Held.take (i := 10) (.pointer (some ⟨b, off + k * 2 + 1, none⟩)) rfl hS (by kernel_rfl) (by kernel_rfl) (by kernel_rfl) (by kernel_rfl) (fun _ _ _ h => h) rfl (fun y hy => by obtain ⟨x1, x2⟩ := hy; go_simp) ?_
      try simp only [Act.put]
      refine Held.take (i := 11) (.int .i64 y0.m) rfl hS (by kernel_rfl) (by kernel_rfl) (by kernel_rfl) (by kernel_rfl) (fun _ _ _ h => h) rfl (fun y hy => by obtain ⟨x1, x2⟩ := hy; go_simp) ?_
      try simp only [Act.put]
      refine Held.take (i := 12) (.int .i64 (x * y0.m)) rfl hS (by kernel_rfl) (by kernel_rfl) (by kernel_rfl) (by kernel_rfl) (fun _ _ _ h => h) rfl (fun y hy => by obtain ⟨x1, x2⟩ := hy; go_simp) ?_
      try simp only [Act.put]
      refine Held.one (i := 13) rfl (by kernel_rfl) rfl (fun K hK => ?_)
      unfold Oper.wp
      go_simp
      refine (RPut_any A n c l y0.A y0.n y0.c y0.r (x * y0.m) X1 ((hbg.below hD).mono hD.size) hnl ((hy.below hD).mono (Nat.le_trans hBw.size hD.size)) hy8 HR.out HM.out (by omega)).mono ?_
      rintro e X2 ⟨A2', n2', c2', l2', rfl, hd2, hb2, hc2, hB2⟩
      have hS2 : X2.cell? ⟨b, off + k * 2, none⟩ = some (.slice y0.A y0.n y0.c) ∧ X2.cell? ⟨b, off + k * 2 + 1, none⟩ = some (.int .i64 y0.m) := ⟨(hB2.cell (World.block_lt_of_cell? _ _ hS.1)).trans hS.1, (hB2.cell (World.block_lt_of_cell? _ _ hS.2)).trans hS.2⟩
      refine hK _ _ (fun _ => hS2) ?_
      try simp only [Act.put]
      have hBf := bstep (bstep hBw hD) hB2
      clear hK K hS hB2 hD hBw hbg
      refine Held.one (i := 14) rfl (by kernel_rfl) rfl (fun K hK => ?_)
      unfold Oper.wp
      go_simp
      refine hK _ _ (fun _ => hS2) ?_
      try simp only [Act.put]
      clear hK K hS2
      refine Held.done (by kernel_rfl) ?_
      go_wp2
      go_roundw
      case rel => exact ⟨k + 1, _, _, _, l2', by omega, by go_num, rfl, hb2, hc2, by rw [HN.out]; exact hd2, hBf⟩
      case measure => simp [intOf]; omega
    · obtain rfl : k = n2 := by omega
      have HX := hide (show dat l = plusB (dat la) (dat lb) x from by rw [hdl, take_all (by rw [dat_len, hb.len])])
      clear hdl
      go_wp2
      go_ret
      exact ⟨A, n, c, l, rfl, HX.out, hbg, hcp, hBw⟩
end Go.Proofs.YtiioiajcoiaalaaGreatDoor
