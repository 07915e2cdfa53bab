/-
  The walk of tidewrightref01.At, for every valid spec and time.
-/
import Derived.Test.YtehifbogadohgaaCkAt
namespace Go.Proofs.Ytehifbogadohgaa
open Go.RowKit Go.Shelf

theorem At_session (z p g h t : Int) (hv : vspec 3 z p g h = true) (ht : vtime t = true) (w : World) :
    Calls Try.prog 44 #[.agg #[.int .i64 3, .int .i64 z, .int .i64 p, .int .i64 g, .int .i64 h], .int .i64 t] w (RetOwn w 35 2 1 (flatW [(t, t + g)])) := by
  have htb : -1000000000000 ≤ t ∧ t ≤ 1000000000000 := by simpa [vtime] using ht
  obtain ⟨ht1, ht2⟩ := htb
  have hg : 1 ≤ g ∧ g ≤ 1000000000 := by unfold vspec at hv; rw [decide_eq_true_eq] at hv; omega
  obtain ⟨hg1, hg2⟩ := hg
  clear hv ht
  go_enter Try.func44, Try.ntmps44
  go_wp2
  go_ret
  refine ⟨_, _, rfl, ?_, by go_grown⟩
  have hh := own_lit (base := w.heap.size) (w.alloc (.cells #[.int .i64 3, .int .i64 z, .int .i64 p, .int .i64 g, .int .i64 h] 27)) 35 2 1 #[.int .i64 t, .int .i64 (t + g)] rfl (by unfold maxLen; omega) (by rw [World.size_alloc]; omega)
  simpa [flatW, encW] using hh

theorem At_global (z p g h t : Int) (w : World) :
    Calls Try.prog 44 #[.agg #[.int .i64 4, .int .i64 z, .int .i64 p, .int .i64 g, .int .i64 h], .int .i64 t] w (RetOwn w 35 2 1 (flatW [(-1000000000000, 1000000000001)])) := by
  go_enter Try.func44, Try.ntmps44
  go_wp2
  go_ret
  refine ⟨_, _, rfl, ?_, by go_grown⟩
  have hh := own_lit (base := w.heap.size) (w.alloc (.cells #[.int .i64 4, .int .i64 z, .int .i64 p, .int .i64 g, .int .i64 h] 27)) 35 2 1 #[.int .i64 (-1000000000000), .int .i64 1000000000001] rfl (by unfold maxLen; omega) (by rw [World.size_alloc]; omega)
  simpa [flatW, encW] using hh

set_option maxRecDepth 100000 in
set_option maxHeartbeats 4000000 in
theorem At_stepped (k z p g h t : Int) (hv : vspec k z p g h = true) (hk : k = 1 ∨ k = 2) (ht : vtime t = true) (w : World) :
    Calls Try.prog 44 #[.agg #[.int .i64 k, .int .i64 z, .int .i64 p, .int .i64 g, .int .i64 h], .int .i64 t] w (RetOwn w 35 2 (wins k z p g h t).length (flatW (wins k z p g h t))) := by
  obtain ⟨i0, hi, hz0, hz1, hz2⟩ := info_parts Try.infoWin
  have htb : -1000000000000 ≤ t ∧ t ≤ 1000000000000 := by simpa [vtime] using ht
  obtain ⟨ht1, ht2⟩ := htb
  have hs := stp_of k z p g h hv hk
  have ew : wins k z p g h t = winsFrom (from0 z (stepOf k z p) h t) (stepOf k z p) z (count (from0 z (stepOf k z p) h t) (stepOf k z p) t) := by
    unfold wins; rw [if_neg (by omega), if_neg (by omega)]
  have hcn := wins_len k z p g h t hv
  rw [ew, winsFrom_length] at hcn
  rw [ew]
  have hk3 : (k == 3) = false := by simp; omega
  have hk4 : (k == 4) = false := by simp; omega
  clear ew hv hk ht
  have hfi := fun W => first_any k z p g h t hs (by omega) (by omega) W
  have hev := fun W => every_any k z p g h W
  have hmore := fun m hm => back_more (t := t) hs m hm
  have hff := first_from (t := t) hs
  have hrev := fun n => back_rev (from0 z (stepOf k z p) h t) (stepOf k z p) z n
  obtain ⟨b, hb⟩ : ∃ b, stepOf k z p = b := ⟨_, rfl⟩
  rw [hb] at hs hcn hff ⊢
  simp only [hb] at hfi hev hmore hrev
  clear hb
  have hf0 := from0_bd (t := t) hs
  obtain ⟨a, ha⟩ : ∃ a, from0 z b h t = a := ⟨_, rfl⟩
  rw [ha] at hcn hff hf0 ⊢
  simp only [ha] at hmore hrev
  clear ha
  obtain ⟨c, hc⟩ : ∃ c, count a b t = c := ⟨_, rfl⟩
  rw [hc] at hcn hff ⊢
  simp only [hc] at hmore
  clear hc
  obtain ⟨f, hf⟩ : ∃ f, firstOf b h t = f := ⟨_, rfl⟩
  rw [hf] at hff
  simp only [hf] at hfi hmore
  have hrev := hrev c
  rw [← hff] at hrev
  have hfb : -3000000000000 ≤ f ∧ f ≤ 3000000000000 := by
    have h0 : 0 ≤ (c : Int) * b := Int.mul_nonneg (by omega) (by have := hs.b1; omega)
    have h1 : (c : Int) * b ≤ 50 * b := Int.mul_le_mul_of_nonneg_right (by omega) (by have := hs.b1; omega)
    have := hs.b1; have := hs.bz; have := hs.z1
    omega
  clear hf hff hf0
  obtain ⟨hf1, hf2⟩ := hfb
  obtain ⟨s1, s2, s3, s4, s5, s6⟩ := hs
  have HFI := hide hfi
  have HEV := hide hev
  have HMORE := hide hmore
  have HREV := hide hrev
  clear hfi hev hmore hrev s4 s5 s6
  rw [winsFrom_length]
  go_enter Try.func44, Try.ntmps44
  go_wp2_with fail
  refine (HFI.out _).mono ?_
  rintro e w1 ⟨rfl, hB1⟩
  obtain ⟨W1, hW1⟩ : ∃ W1, w.alloc (.cells #[.int .i64 k, .int .i64 z, .int .i64 p, .int .i64 g, .int .i64 h] 27) = W1 := ⟨_, rfl⟩
  have bs1 : Blk W1 w.heap.size 27 #[.int .i64 k, .int .i64 z, .int .i64 p, .int .i64 g, .int .i64 h] := by rw [← hW1]; exact Blk.new w _ _
  have hB0 : Below w.heap.size w W1 := by rw [← hW1]; exact (Below.refl _ _).alloc (Nat.le_refl _) _
  have hlt1 := bs1.lt
  rw [hW1] at hB1
  clear hW1
  go_wp2_with fail
  go_loopw [5, 6] (fun v i wr => ∃ m : Nat, m ≤ c ∧ i = .int .i64 (f - (m : Int) * b) ∧ wr.ownsRow W1.heap.size 35 2 v m (flatW (backFrom f b z m)) ∧ Below W1.heap.size W1 wr) (fun _ i _ => (intOf i - f + 1000000000 * 60).toNat)
  case atStart => exact ⟨0, Nat.zero_le _, by simp, World.ownsRow_nil _ _ _ _, hB1⟩
  case round =>
    obtain ⟨m, hm, rfl, hrow, hB⟩ := hrel
    have bs := bs1.below hB hlt1
    have e0 := bs.cell 0
    have e1 := bs.cell 1
    have e2 := bs.cell 2
    have e3 := bs.cell 3
    have e4 := bs.cell 4
    simp at e0 e1 e2 e3 e4
    have hmb : 0 ≤ (m : Int) * b := Int.mul_nonneg (by omega) (by omega)
    have hmb2 : (m : Int) * b ≤ 50 * b := Int.mul_le_mul_of_nonneg_right (by omega) (by omega)
    have hx1 : f - (m : Int) * b - b = f - ((m + 1 : Nat) : Int) * b := by rw [Int.natCast_add, Int.add_mul]; omega
    have HX1 := hide hx1
    clear hx1
    have HMM := hide (HMORE.out m hm)
    have HSN := hide (backFrom_snoc f b z m)
    obtain ⟨x, hx⟩ : ∃ x, f - (m : Int) * b = x := ⟨_, rfl⟩
    rw [hx] at HX1 HMM ⊢
    simp only [hx] at HSN
    have hxb : -4000000000000 ≤ x ∧ x ≤ 4000000000000 := by omega
    have hxf : f - 50000000000 ≤ x := by omega
    obtain ⟨hxb1, hxb2⟩ := hxb
    clear hx hmb hmb2
    have hWs := hB.size
    by_cases hlt : m < c
    · have hgt : t < x + z := HMM.out.2 hlt
      clear HMM
      go_wp2_with (at_builtin; refine wpList_append_own _ rfl _ _ 22 rfl W1.heap.size 35 i0 _ 2 16 Try.underlying22 hi hz0 hz1 hz2 rfl (by decide) _ _ _ rfl (hrow.alloc _) ⟨wr.heap.size, 0, none⟩ 1 1 [.int .i64 x, .int .i64 (x + z)] rfl rfl (cells_new _ _ _) (by simp [Value.oneCell']) (by unfold maxLen; omega) (by omega) (by simp; omega) ?_; intro v' w2 hown' hgrow _; have hB2 : Below W1.heap.size W1 w2 := below_append (hB.alloc hWs _) (hrow.alloc _) (by simp; omega) hgrow; have bs' := bs1.below hB2 hlt1; have e0' := bs'.cell 0; have e1' := bs'.cell 1; have e2' := bs'.cell 2; have e3' := bs'.cell 3; have e4' := bs'.cell 4; simp at e0' e1' e2' e3' e4'; clear e0 e1 e2 e3 e4)
      refine (HEV.out _).mono ?_
      rintro e w3 ⟨rfl, hB3⟩
      have hown3 : w3.ownsRow W1.heap.size 35 2 v' (m + 1) (flatW (backFrom f b z (m + 1))) := by
        rw [HSN.out, flatW_snoc]
        exact hown'.kept (row := none) ⟨hB3.os, hB3.tape, hB3.output, hB3.size, fun k hk _ => hB3.block k hk⟩ (by cases v'.ownBlock <;> simp)
      go_wp2
      go_roundw
      case rel => exact ⟨m + 1, by omega, by rw [← HX1.out], hown3, hB2.trans (hB3.mono hB2.size)⟩
      case measure => simp [intOf]; omega
    · have hle : x + z ≤ t := by
        have := mt HMM.out.1 hlt; omega
      obtain rfl : m = c := by omega
      clear HMM HSN HX1
      obtain ⟨A5, c5, rfl, hR5⟩ := own_form hrow
      clear hrow
      have hbl := backFrom_length f b z m
      have HBL := hide hbl
      clear hbl
      obtain ⟨L, hL⟩ : ∃ L, backFrom f b z m = L := ⟨_, rfl⟩
      rw [hL] at hR5 HREV HBL
      clear hL
      obtain ⟨wb, hwb⟩ : ∃ wb : World, wb = wr := ⟨_, rfl⟩
      subst hwb
      go_wp2_with fail
      go_loopw [7, 8] (fun v i wr => ∃ j : Nat, j ≤ m ∧ i = .int .i64 ((m : Int) - 1 - j) ∧ wr.ownsRow wb.heap.size 35 2 v j (flatW (L.reverse.take j)) ∧ Below wb.heap.size wb wr) (fun _ i _ => (intOf i + 1).toNat)
      case atStart => exact ⟨0, Nat.zero_le _, by simp, by simpa [flatW] using World.ownsRow_nil _ _ _ _, Below.refl _ _⟩
      case round =>
        obtain ⟨j, hj, rfl, hrow, hB9⟩ := hrel
        have hWs9 := hB9.size
        by_cases hjl : j < m
        · obtain ⟨q, hq⟩ : ∃ q : Nat, (m : Int) - 1 - j = q := ⟨m - 1 - j, by omega⟩
          have hqm : q < m := by omega
          have HJ1 : Hid ((m : Int) - 1 - ((j + 1 : Nat) : Int) = (q : Int) - 1) := hide (by omega)
          obtain ⟨bb, oo, y, rfl, hbb, hy, hcy⟩ := hR5.elem encW_len HBL.out hqm
          have hcy0 : wr.cell? ⟨bb, oo + q * 2, none⟩ = some (.int .i64 y.1) := (hB9.cell (p := ⟨bb, oo + q * 2, none⟩) hbb).trans (hcy 0 _ rfl)
          have hcy1 : wr.cell? ⟨bb, oo + q * 2 + 1, none⟩ = some (.int .i64 y.2) := (hB9.cell (p := ⟨bb, oo + q * 2 + 1, none⟩) hbb).trans (hcy 1 _ rfl)
          have hrv : L.reverse[j]? = some y := by
            rw [List.getElem?_reverse (by rw [HBL.out]; exact hjl), HBL.out]
            have : m - 1 - j = q := by omega
            rw [this]; exact hy
          have HRV : Hid (flatW (L.reverse.take (j + 1)) = flatW (L.reverse.take j) ++ [.int .i64 y.1, .int .i64 y.2]) := hide (by rw [take_snoc' hrv, flatW_snoc])
          clear hcy hy hrv
          rw [hq]
          clear hq
          go_wp2_with (at_builtin; refine wpList_append_own _ rfl _ _ 22 rfl wb.heap.size 35 i0 _ 2 16 Try.underlying22 hi hz0 hz1 hz2 rfl (by decide) _ _ _ rfl (hrow.alloc _) ⟨wr.heap.size, 0, none⟩ 1 1 [.int .i64 y.1, .int .i64 y.2] rfl rfl (cells_new _ _ _) (by simp [Value.oneCell']) (by unfold maxLen; omega) (by omega) (by simp; omega) ?_; intro v' w2 hown' hgrow _)
          go_roundw
          case rel => exact ⟨j + 1, by omega, by rw [HJ1.out], by rw [HRV.out]; exact hown', below_append (hB9.alloc hWs9 _) (hrow.alloc _) (by simp; omega) hgrow⟩
          case measure => simp [intOf] <;> omega
        · obtain rfl : j = m := by omega
          have hneg : (j : Int) - 1 - j < 0 := by omega
          rw [List.take_of_length_le (by rw [List.length_reverse, HBL.out]; omega), HREV.out] at hrow
          obtain ⟨A7, c7, rfl, _⟩ := own_form hrow
          have hsz7 : w.heap.size ≤ wb.heap.size := Nat.le_trans hB0.size hB.size
          go_wp2
          go_ret
          exact ⟨A7, c7, rfl, own_mono hrow hsz7, bstep (hB0.trans (hB.mono (by omega))) hB9⟩

theorem At_any (k z p g h t : Int) (hv : vspec k z p g h = true) (ht : vtime t = true) (w : World) :
    Calls Try.prog 44 #[.agg #[.int .i64 k, .int .i64 z, .int .i64 p, .int .i64 g, .int .i64 h], .int .i64 t] w (RetOwn w 35 2 (wins k z p g h t).length (flatW (wins k z p g h t))) := by
  by_cases h3 : k = 3
  · subst h3
    have e : wins 3 z p g h t = [(t, t + g)] := by simp [wins]
    rw [e]; exact At_session z p g h t hv ht w
  by_cases h4 : k = 4
  · subst h4
    have e : wins 4 z p g h t = [(-1000000000000, 1000000000001)] := by simp [wins]
    rw [e]; exact At_global z p g h t w
  exact At_stepped k z p g h t hv (by unfold vspec at hv; rw [decide_eq_true_eq] at hv; omega) ht w
end Go.Proofs.Ytehifbogadohgaa
