/-
  The walk of deck.regions.
-/
import Derived.Test.YtmpoaegdejhbeaaDoorDkNM
import Derived.Maps.OwnSet
namespace Go.Proofs.YtmpoaegdejhbeaaDoor
open Go.RowKit Go.Shelf Go.Deep Go.Maps
attribute [local go_sem] Oper.semAt_some

theorem ok_edge {g : Gr} (hv : validB g = true) {k : Nat} {e : Ed} (h : g.es[k]? = some e) : 0 ≤ e.f ∧ e.f < e.t ∧ e.t < (g.n1 : Int) ∧ g.n1 ≤ 200 ∧ g.n2 ≤ 400 := by
  unfold validB at hv
  simp only [Bool.and_eq_true, decide_eq_true_eq] at hv
  have h1 := hv.2
  unfold esB at h1
  have hk : k < g.es.length := (List.getElem?_eq_some_iff.1 h).1
  have h2 := List.all_eq_true.1 h1 k (List.mem_range.2 hk)
  unfold okAt at h2
  rw [h] at h2
  simp only [Bool.and_eq_true, Bool.not_eq_true', badE, Bool.or_eq_false_iff, decide_eq_false_iff_not] at h2
  have h3 := hv.1.1.1
  have h4 := hv.1.1.2
  omega

theorem ok_ops {g : Gr} (hv : validB g = true) : 1 ≤ g.n1 ∧ g.n1 ≤ 200 := by
  unfold validB at hv
  simp only [Bool.and_eq_true, decide_eq_true_eq] at hv
  exact hv.1.1.1

theorem infoInt_dk : (Tryd.prog.info? 3).map (fun i => (i.zero, i.size, i.bytes)) = some (some (.int .i64 0), 1, 8) := by kernel_rfl
theorem zeros200 : Tryd.zeroCells80 = Array.replicate 200 (.int .i64 0) := by kernel_rfl
theorem rowIs_kept {w w' : World} {b n : Nat} {t : TypeId} {f : Nat → Value} {row : Option Nat} (h : w.rowIs b t n f) (hg : w.grownBy w' row) (hne : some b ≠ row) : w'.rowIs b t n f := h.of_block (hg.block b h.lt hne)
theorem roots_new (w : World) : (w.alloc (.cells Tryd.zeroCells80 80)).rowIs w.heap.size 80 200 (fun _ => .int .i64 0) := by
  rw [zeros200]
  have h := World.rowIs_alloc w (Array.replicate 200 (.int .i64 0)) 80 (fun _ => .int .i64 0) (fun i hi => by
    rw [Array.getElem?_eq_getElem hi, Array.getElem_replicate])
  rwa [Array.size_replicate] at h

set_option maxRecDepth 100000 in
set_option maxHeartbeats 4000000 in
theorem regions_any (g : Gr) (w : World) (hg : g.Ok w w.heap.size) (hv : validB g = true) :
    Calls Tryd.prog 26 #[.agg #[g.v1, g.v2]] w (RetSl w 1 g.n1 ((nums (labs g.es) g.n1).map (Value.int .i64))) := by
  obtain ⟨i0, hi, hz0, hz1, hz2⟩ := info_parts infoInt_dk
  have hB0 : Below w.heap.size w (w.alloc (.cells #[g.v1, g.v2] 31)) := (Below.refl _ _).alloc (Nat.le_refl _) _
  have hc1 : (w.alloc (.cells #[g.v1, g.v2] 31)).cell? ⟨w.heap.size, 0, none⟩ = some (.slice g.a1 g.n1 g.c1) := by simp [Gr.v1]
  have hc2 : (w.alloc (.cells #[g.v1, g.v2] 31)).cell? ⟨w.heap.size, 1, none⟩ = some (.slice g.a2 g.n2 g.c2) := by simp [Gr.v2]
  have hg0 := hg.up hB0
  have hsz0 : (w.alloc (.cells #[g.v1, g.v2] 31)).heap.size = w.heap.size + 1 := World.size_alloc _ _
  have hr0 := roots_new (w.alloc (.cells #[g.v1, g.v2] 31))
  have hmm := @run_makeMap Tryd.prog
  go_enter Tryd.func26, Tryd.ntmps26
  go_wp2_with fail
  obtain ⟨W, hW⟩ : ∃ W, w.alloc (.cells #[g.v1, g.v2] 31) = W := ⟨_, rfl⟩
  rw [hW] at hB0 hc1 hc2 hg0 hsz0 hr0 ⊢
  rw [hsz0] at hr0
  clear hW
  go_loopw [4, 16] (fun _ i wr => ∃ k : Nat, k ≤ 200 ∧ i = .int .i64 k ∧ wr.rowIs (w.heap.size + 1) 80 200 (fun j => .int .i64 ((if j < k then j else 0 : Nat) : Int)) ∧ Below W.heap.size W wr) (fun _ i _ => 200 - (intOf i).toNat)
  case atStart => exact ⟨0, Nat.zero_le _, rfl, hr0.congr (fun i _ => by simp), (Below.refl _ _).alloc (Nat.le_refl _) _⟩
  case round =>
    clear hr0
    obtain ⟨k, hk, rfl, hrow, hB⟩ := hrel
    by_cases hlt : k < 200
    · have hck := hrow.cell hlt
      have hfk := hrow.frozen k
      have hset := hrow.set k (.int .i64 (k : Int))
      go_wp2
      go_roundw
      case rel => exact ⟨k + 1, by omega, by go_num, hset.congr (fun i _ => by
        by_cases e : i = k
        · subst e; simp
        · rw [if_neg e]
          by_cases h : i < k
          · rw [if_pos h, if_pos (by omega)]
          · rw [if_neg h, if_neg (by omega)]), hB.setCell (by show W.heap.size ≤ w.heap.size + 1; omega) _⟩
      case measure => simp [intOf]; omega
    · obtain rfl : k = 200 := by omega
      have hrow1 : wr.rowIs (w.heap.size + 1) 80 200 (fun j => .int .i64 (((fun k => k) j : Nat) : Int)) := hrow.congr (fun i hi => by rw [if_pos hi])
      clear hrow
      have hd2 : wr.cell? ⟨w.heap.size, 1, none⟩ = some (.slice g.a2 g.n2 g.c2) := (hB.cell (p := ⟨w.heap.size, 1, none⟩) (by show w.heap.size < _; omega)).trans hc2
      have hd1 : wr.cell? ⟨w.heap.size, 0, none⟩ = some (.slice g.a1 g.n1 g.c1) := (hB.cell (p := ⟨w.heap.size, 0, none⟩) (by show w.heap.size < _; omega)).trans hc1
      have HV := hide hv
      have HL2 := hide (hg.r2.len encEd_len (by omega))
      go_wp2_with fail
      clear hd1 hd2
      have hR0 : Roots 200 (fun k => k) (labs (g.es.take 0)) := Roots.id 200
      go_loopw [7, 8, 9, 27] (fun _ _ _ i wr => ∃ (k : Nat) (R : Nat → Nat), k ≤ g.n2 ∧ i = .int .i64 k ∧ wr.rowIs (w.heap.size + 1) 80 200 (fun j => .int .i64 ((R j : Nat) : Int)) ∧ Roots 200 R (labs (g.es.take k)) ∧ Below W.heap.size W wr) (fun _ _ _ i _ => g.n2 - (intOf i).toNat)
      case atStart => exact ⟨0, _, Nat.zero_le _, rfl, hrow1, hR0, hB⟩
      case round =>
        clear hrow1 hR0 hB
        obtain ⟨k, R, hk, rfl, hrow, hRo, hB⟩ := hrel
        have hgr := hg0.below hB
        by_cases hlt2 : k < g.n2
        · obtain ⟨b, off, e, ha, hb, hek, hce⟩ := hgr.r2.elem encEd_len HL2.out hlt2
          obtain ⟨v1, v2, v3, v4, v5⟩ := ok_edge HV.out hek
          have hbw : b < wr.heap.size := by have := hB.size; omega
          have HEK := hide hek
          clear hek
          have e0 : wr.cell? ⟨b, off + k * 3, none⟩ = some (.int .i64 e.f) := by simpa using hce 0 _ rfl
          have e1 : wr.cell? ⟨b, off + k * 3 + 1, none⟩ = some (.int .i64 e.t) := by simpa [← Nat.add_assoc] using hce 1 _ rfl
          have e2 : wr.cell? ⟨b, off + k * 3 + 2, none⟩ = some (.bool e.s) := by simpa [← Nat.add_assoc] using hce 2 _ rfl
          clear hce
          rw [ha]
          have HA0 := hide ha
          clear ha
          have hrow2 := hrow.alloc (.cells #[.int .i64 e.f, .int .i64 e.t, .bool e.s] 43)
          have hB2 := hB.alloc hB.size (.cells #[.int .i64 e.f, .int .i64 e.t, .bool e.s] 43)
          obtain ⟨f, hf⟩ := Int.eq_ofNat_of_zero_le v1
          obtain ⟨t, ht⟩ := Int.eq_ofNat_of_zero_le (show 0 ≤ e.t by omega)
          have HST := hide (show relab (labs (g.es.take k)) e = if e.s then labs (g.es.take k) else fun j => if labs (g.es.take k) j = max (labs (g.es.take k) f) (labs (g.es.take k) t) then min (labs (g.es.take k) f) (labs (g.es.take k) t) else labs (g.es.take k) j by unfold relab; rw [hf, ht]; rfl)
          rw [hf] at e0 hrow2 hB2 v2
          rw [ht] at e1 hrow2 hB2 v2 v3
          have HSN := hide (show labs (g.es.take (k + 1)) = relab (labs (g.es.take k)) e by rw [take_snoc' HEK.out, labs_snoc])
          obtain ⟨L, hL⟩ : ∃ L, labs (g.es.take k) = L := ⟨_, rfl⟩
          have hLab : Lab L := by rw [← hL]; exact Lab.labs _
          rw [hL] at hRo HST HSN
          clear hL
          have HRo := hide hRo
          have hfl := hLab.le f
          have htl := hLab.le t
          clear hRo
          have ef : IntKind.i64.wrap (f : Int) = (f : Int) := by rw [IntKind.wrap_i64]; omega
          go_wp2_with fail
          obtain ⟨W2, hW2⟩ : ∃ W2, wr.alloc (.cells #[.int .i64 (f : Int), .int .i64 (t : Int), .bool e.s] 43) = W2 := ⟨_, rfl⟩
          have f0 : W2.cell? ⟨wr.heap.size, 0, none⟩ = some (.int .i64 (f : Int)) := by rw [← hW2]; simp
          have f1 : W2.cell? ⟨wr.heap.size, 1, none⟩ = some (.int .i64 (t : Int)) := by rw [← hW2]; simp
          have f2 : W2.cell? ⟨wr.heap.size, 2, none⟩ = some (.bool e.s) := by rw [← hW2]; simp
          have s1 : wr.heap.size < W2.heap.size := by rw [← hW2, World.size_alloc]; omega
          rw [hW2]
          rw [hW2] at hrow2 hB2
          clear hW2 hrow hB e0 e1 e2
          obtain ⟨be, hbe⟩ : ∃ be, wr.heap.size = be := ⟨_, rfl⟩
          rw [hbe] at f0 f1 f2 s1 hbw ⊢
          clear hbe hgr
          go_quiet ((go_at_call 42; exact Calls.quiet_of_same ((root_any _ _ _ R L HRo.out (by omega) _ (show (W2.drewN _).rowIs _ _ _ _ from hrow2)).mono fun _ _ h => ⟨h.1, h.2.symm⟩)))
          have HNq := hide (rfl : W2.drewN nq = W2.drewN nq)
          obtain ⟨W3, hW3⟩ : ∃ W3, W2.drewN nq = W3 := ⟨_, rfl⟩
          have g2 : W3.cell? ⟨be, 2, none⟩ = some (.bool e.s) := by rw [← hW3]; exact f2
          have hrow3 : W3.rowIs (w.heap.size + 1) 80 200 (fun j => .int .i64 ((R j : Nat) : Int)) := by rw [← hW3]; exact hrow2
          have hB3 : Below W.heap.size W W3 := by rw [← hW3]; exact below_drewN hB2 nq
          rw [hW3]
          clear hW3 HNq hrow2 hB2 f0 f1 f2
          cases hs : e.s
          · rw [hs] at g2 HST
            obtain ⟨a, hla⟩ : ∃ a, L f = a := ⟨_, rfl⟩
            obtain ⟨c, hlc⟩ : ∃ c, L t = c := ⟨_, rfl⟩
            rw [hla] at hfl HST ⊢
            rw [hlc] at htl HST ⊢
            have HRS := hide (Roots.step HRo.out hLab e hs)
            by_cases hac : a < c
            · have m1 := hrow3.cell (show c < 200 by omega)
              have m2 := hrow3.frozen c
              have m3 := hrow3.set c (.int .i64 (a : Int))
              go_wp2
              go_roundw
              case rel => exact ⟨k + 1, _, by omega, by go_num, m3.congr (g := fun j => .int .i64 (((if j = max a c then min a c else R j : Nat)) : Int)) (fun j _ => by
                  rw [Nat.max_eq_right (by omega), Nat.min_eq_left (by omega)]
                  by_cases ej : j = c
                  · rw [if_pos ej, if_pos ej]
                  · rw [if_neg ej, if_neg ej]), by rw [HSN.out]; have := HRS.out; rw [hf, ht] at this; simpa [hla, hlc] using this, hB3.setCell (by show W.heap.size ≤ w.heap.size + 1; omega) _⟩
              case measure => simp [intOf]; omega
            · have m1 := hrow3.cell (show a < 200 by omega)
              have m2 := hrow3.frozen a
              have m3 := hrow3.set a (.int .i64 (if c < a then (c : Int) else (a : Int)))
              go_wp2
              go_roundw
              case rel => exact ⟨k + 1, _, by omega, by go_num, m3.congr (g := fun j => .int .i64 (((if j = max a c then min a c else R j : Nat)) : Int)) (fun j _ => by
                  rw [Nat.max_eq_left (by omega), Nat.min_eq_right (by omega)]
                  by_cases ej : j = a
                  · rw [if_pos ej, if_pos ej]
                    by_cases hca : c < a
                    · rw [if_pos hca]
                    · rw [if_neg hca, show a = c by omega]
                  · rw [if_neg ej, if_neg ej]), by rw [HSN.out]; have := HRS.out; rw [hf, ht] at this; simpa [hla, hlc] using this, hB3.setCell (by show W.heap.size ≤ w.heap.size + 1; omega) _⟩
              case measure => simp [intOf]; omega
          · rw [hs] at g2 HST
            go_wp2
            go_roundw
            case rel => exact ⟨k + 1, R, by omega, by go_num, hrow3, by rw [HSN.out, HST.out]; exact HRo.out, hB3⟩
            case measure => simp [intOf]; omega
        · obtain rfl : k = g.n2 := by omega
          rw [List.take_of_length_le (Nat.le_of_eq HL2.out)] at hRo
          have hLab : Lab (labs g.es) := Lab.labs _
          obtain ⟨L, hL⟩ : ∃ L, labs g.es = L := ⟨_, rfl⟩
          rw [hL] at hRo hLab
          have HLL := hide hL
          clear hL
          have hd1 : wr.cell? ⟨w.heap.size, 0, none⟩ = some (.slice g.a1 g.n1 g.c1) := (hB.cell (p := ⟨w.heap.size, 0, none⟩) (by show w.heap.size < _; omega)).trans hc1
          have hd1' : (wr.alloc (.map #[] 0)).cell? ⟨w.heap.size, 0, none⟩ = some (.slice g.a1 g.n1 g.c1) := by rw [World.cell?_alloc_lt _ _ _ (by have := hB.size; show w.heap.size < _; omega)]; exact hd1
          go_wp2_with fail
          have hN0 : NMap (wr.alloc (.map #[] 0)) wr.heap.size L 0 := NMap.made wr L
          have hBm := hB.alloc hB.size (.map #[] 0)
          have hrm := hrow.alloc (.map #[] 0)
          obtain ⟨bm, hbm⟩ : ∃ bm, wr.heap.size = bm := ⟨_, rfl⟩
          have hsz1 : (wr.alloc (.map #[] 0)).heap.size = bm + 1 := by rw [World.size_alloc, hbm]
          have hWb : W.heap.size ≤ bm := by rw [← hbm]; exact hB.size
          have hWb2 : w.heap.size + 1 < bm := by rw [← hbm]; exact hrow.lt
          rw [hbm] at hN0 ⊢
          obtain ⟨W4, hW4⟩ : ∃ W4, wr.alloc (.map #[] 0) = W4 := ⟨_, rfl⟩
          rw [hW4] at hN0 hBm hrm hsz1 hd1' ⊢
          clear hW4 hB hrow hd1
          have HRo := hide hRo
          have hbd := ok_ops HV.out
          go_loopw [11, 12, 13, 14, 15, 54] (fun v _ _ _ _ i wr => ∃ k : Nat, k ≤ g.n1 ∧ i = .int .i64 k ∧ NMap wr bm L k ∧ wr.ownsRow (bm + 1) 3 1 v k ((nums L k).map (Value.int .i64)) ∧ wr.rowIs (w.heap.size + 1) 80 200 (fun j => .int .i64 ((R j : Nat) : Int)) ∧ Below W.heap.size W wr) (fun _ _ _ _ _ i _ => g.n1 - (intOf i).toNat)
          case atStart => exact ⟨0, Nat.zero_le _, rfl, hN0, World.ownsRow_nil _ _ _ _, hrm, hBm⟩
          case round =>
            clear hN0 hrm hBm hd1'
            obtain ⟨k, hk, rfl, hN, hrow, hrr, hB⟩ := hrel
            have hWs := hB.size
            have hbl := hN.lt
            have hne1 : some bm ≠ u11.ownBlock := fun e => by have := (hrow.lt _ e.symm).1; omega
            have hne2 : some (w.heap.size + 1) ≠ u11.ownBlock := fun e => by have := (hrow.lt _ e.symm).1; omega
            by_cases hlt3 : k < g.n1
            · have hle := hLab.le k
              have hid := hLab.idem k
              have hh := hasN_root hLab k
              obtain ⟨c, hlk⟩ := hN.look_ok (L k) (by omega)
              rw [hh] at hlk
              have HNS := hide (nums_succ L k)
              have hnb := numb_le L (L k)
              by_cases hroot : L k = k
              · have hdr : (!decide (L k = k)) = false := by simp [hroot]
                rw [hdr] at hlk
                clear hdr hh
                have hlen := hN.len 3
                rw [hroot] at hlk HNS hnb
                have HRT := hide hroot
                clear hid hle hroot
                go_wp2_with fail
                refine (root_any _ k _ R L HRo.out (by omega) _ hrr).mono ?_
                rintro e w' ⟨rfl, rfl⟩
                rw [HRT.out]
                have hnk := numb_le L k
                go_wp2_with (first | (at_mapUpdate; refine wpList_nput _ hN (by omega) HRT.out rfl _ _ _ rfl rfl rfl rfl ?_; intro w1 hN1 hgr1; have hlk2 := hN1.look k (by omega) (by rw [hasN_succ]; simp [HRT.out]); have hrow1 := hrow.kept hgr1 (.inr (fun e => by have := (hrow.lt _ e).1; omega)); have hs1 := hgr1.size) | (at_builtin; refine wpList_append_own _ rfl _ _ 22 rfl (bm + 1) 3 i0 _ 1 8 Tryd.underlying22 hi hz0 hz1 hz2 rfl (by decide) _ _ _ rfl (hrow1.alloc _) ⟨w1.heap.size, 0, none⟩ 1 1 [.int .i64 (numb L k : Int)] rfl rfl (cells_new _ _ _) (by simp [Value.oneCell']) (by unfold maxLen; omega) (by omega) (by simp; omega) ?_; intro v' w2 hown' hgrow _))
                go_roundw
                case rel => exact ⟨k + 1, by omega, by go_num, (hN1.alloc _).kept hgrow hne1, by rw [HNS.out, List.map_append]; exact hown', rowIs_kept ((rowIs_kept hrr hgr1 (fun e => by injection e; omega)).alloc _) hgrow hne2, below_append ((hB.grown hgr1 hWs (fun x e => by injection e; omega)).alloc (by omega) _) (own_mono (hrow1.alloc _) (by omega)) (by simp; omega) hgrow⟩
                case measure => simp [intOf]; omega
              · have hdr : (!decide (L k = k)) = true := by simp [hroot]
                rw [hdr] at hlk
                have hlk2 := hN.look (L k) (by omega) (by rw [hh]; exact hdr)
                clear hdr hh
                obtain ⟨r, hr⟩ : ∃ r, L k = r := ⟨_, rfl⟩
                rw [hr] at hlk hlk2 hle HNS hnb
                obtain ⟨m, hm⟩ : ∃ m, numb L r = m := ⟨_, rfl⟩
                rw [hm] at hlk2 HNS hnb
                have HN := hide (hN.skip hroot)
                have HRT := hide hr
                clear hid hr hm hroot
                go_wp2_with fail
                refine (root_any _ k _ R L HRo.out (by omega) _ hrr).mono ?_
                rintro e w' ⟨rfl, rfl⟩
                rw [HRT.out]
                go_wp2_with (at_builtin; refine wpList_append_own _ rfl _ _ 22 rfl (bm + 1) 3 i0 _ 1 8 Tryd.underlying22 hi hz0 hz1 hz2 rfl (by decide) _ _ _ rfl (hrow.alloc _) ⟨wr.heap.size, 0, none⟩ 1 1 [.int .i64 (m : Int)] rfl rfl (cells_new _ _ _) (by simp [Value.oneCell']) (by unfold maxLen; omega) (by omega) (by simp; omega) ?_; intro v' w1 hown' hgrow _)
                go_roundw
                case rel => exact ⟨k + 1, by omega, by go_num, (HN.out.alloc _).kept hgrow hne1, by rw [HNS.out, List.map_append]; exact hown', rowIs_kept (hrr.alloc _) hgrow hne2, below_append (hB.alloc hB.size _) (own_mono (hrow.alloc _) (by omega)) (by simp; omega) hgrow⟩
                case measure => simp [intOf]; omega
            · obtain rfl : k = g.n1 := by omega
              obtain ⟨A', c', rfl, hR⟩ := own_form hrow
              go_wp2
              go_ret
              exact ⟨A', c', rfl, by rw [HLL.out]; exact hR, bstep hB0 hB⟩
end Go.Proofs.YtmpoaegdejhbeaaDoor
