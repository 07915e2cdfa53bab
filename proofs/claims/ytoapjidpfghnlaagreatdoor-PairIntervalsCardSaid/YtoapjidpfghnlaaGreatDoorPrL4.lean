/-
  The law PairIntervals, for all inputs that read.
-/
import Derived.Test.YtoapjidpfghnlaaGreatDoorPrL3
namespace Go.Proofs.YtoapjidpfghnlaaGreatDoor
open Go.RowKit
attribute [local go_sem] Oper.semAt_some wide_fn wide_depth
set_option linter.unusedVariables false
set_option linter.unusedSimpArgs false

set_option maxRecDepth 100000 in
set_option maxHeartbeats 16000000 in
theorem pairIntervals_all (A1 : Option Addr) (n1 c1 : Nat) (on : List Int) (A2 : Option Addr) (n2 c2 : Nat) (others : List Int) (v2 v3 v4 lo hi : Int) (A3 : Option Addr) (n3 c3 : Nat) (ll : List Ev) (A4 : Option Addr) (n4 c4 : Nat) (lr : List Ev) (w : World)
    (h1 : Reads w w.heap.size 1 A1 n1 (on.map (Value.int .i64))) (h2 : Reads w w.heap.size 1 A2 n2 (others.map (Value.int .i64))) (h3 : EvR w w.heap.size A3 n3 ll) (h4 : EvR w w.heap.size A4 n4 lr)
    (hc3 : ∀ x ∈ ll, x.n ≤ x.c) (hc4 : ∀ x ∈ lr, x.n ≤ x.c) (ht : Tab w) :
    Calls Tryz.prog 3 #[.agg #[.slice A1 n1 c1, .slice A2 n2 c2, .int .i64 v2, .int .i64 v3, .int .i64 v4, .int .i64 lo, .int .i64 hi], .slice A3 n3 c3, .slice A4 n4 c4] w (RetV w (.bool true)) := by
  have hB0 := below_val (w := w) #[.slice A1 n1 c1, .slice A2 n2 c2, .int .i64 v2, .int .i64 v3, .int .i64 v4, .int .i64 lo, .int .i64 hi] 24
  have k1 := Blk.new w 24 #[.slice A1 n1 c1, .slice A2 n2 c2, .int .i64 v2, .int .i64 v3, .int .i64 v4, .int .i64 lo, .int .i64 hi]
  have HT := hide ht
  have PA := hide h1
  have PB := hide h2
  have PC := hide h3
  have PD := hide h4
  have HC3 := hide hc3
  have HC4 := hide hc4
  clear h1 h2 h3 h4 hc3 hc4 ht
  go_enter Tryz.func3, Tryz.ntmps3
  go_wp2_with fail
  obtain ⟨W0, hW0⟩ : ∃ W0, w.alloc (.cells #[.slice A1 n1 c1, .slice A2 n2 c2, .int .i64 v2, .int .i64 v3, .int .i64 v4, .int .i64 lo, .int .i64 hi] 24) = W0 := ⟨_, rfl⟩
  rw [hW0] at hB0 k1 ⊢
  clear hW0
  refine (klong_any A1 n1 c1 A2 n2 c2 v2 v3 v4 lo hi W0).mono ?_
  rintro e W1 hres
  obtain ⟨b1, rfl, hb1, hb⟩ := hres
  have hB1 := bstep hB0 hb
  have k2 := k1.below hb k1.lt
  clear hb hB0 k1
  cases b1
  case true =>
    clear hb1 k2
    go_wp2_with fail
    refine (awake9_any W1 (HT.out.below hB1)).mono ?_
    rintro e W2 ⟨rfl, hb⟩
    have HB := hide (bstep hB1 hb)
    clear hb hB1
    go_wp2
    go_ret
    exact ⟨rfl, HB.out⟩
  case false =>
    obtain ⟨hn1, hn2⟩ := hb1 rfl
    clear hb1
    go_wp2_with fail
    refine (LongE_any A3 n3 c3 ll W1 (PC.out.step' hB1)).mono ?_
    rintro e W2 hres
    obtain ⟨b2, rfl, hb2, hb⟩ := hres
    have hB2 := bstep hB1 hb
    have k3 := k2.below hb k2.lt
    clear hb hB1 k2
    cases b2
    case true =>
      clear hb2 k3
      go_wp2_with fail
      refine (awake9_any W2 (HT.out.below hB2)).mono ?_
      rintro e W3 ⟨rfl, hb⟩
      have HB := hide (bstep hB2 hb)
      clear hb hB2
      go_wp2
      go_ret
      exact ⟨rfl, HB.out⟩
    case false =>
      have hm3 := hb2 rfl
      clear hb2
      go_wp2_with fail
      refine (LongE_any A4 n4 c4 lr W2 (PD.out.step' hB2)).mono ?_
      rintro e W3 hres
      obtain ⟨b3, rfl, hb3, hb⟩ := hres
      have hB3 := bstep hB2 hb
      have k4 := k3.below hb k3.lt
      clear hb hB2 k3
      cases b3
      case true =>
        clear hb3 k4
        go_wp2_with fail
        refine (awake9_any W3 (HT.out.below hB3)).mono ?_
        rintro e W4 ⟨rfl, hb⟩
        have HB := hide (bstep hB3 hb)
        clear hb hB3
        go_wp2
        go_ret
        exact ⟨rfl, HB.out⟩
      case false =>
        have hm4 := hb3 rfl
        clear hb3
        have d0 : W3.cell? ⟨w.heap.size, 0, none⟩ = some (.slice A1 n1 c1) := by simpa using k4.cell 0
        have d1 : W3.cell? ⟨w.heap.size, 1, none⟩ = some (.slice A2 n2 c2) := by simpa using k4.cell 1
        have d5 : W3.cell? ⟨w.heap.size, 5, none⟩ = some (.int .i64 lo) := by simpa using k4.cell 5
        have d6 : W3.cell? ⟨w.heap.size, 6, none⟩ = some (.int .i64 hi) := by simpa using k4.cell 6
        obtain ⟨p, hp⟩ : ∃ p, intB on others lo hi (dE ll) (dE lr) = p := ⟨_, rfl⟩
        have HP := hide hp
        clear hp
        go_wp2_with fail
        refine (Intervals_any A1 n1 c1 on A2 n2 c2 others lo hi A3 n3 c3 ll A4 n4 c4 lr W3 (PA.out.up hB3) (PB.out.up hB3) (by omega) (by omega) (PC.out.step' hB3) (PD.out.step' hB3) (by omega) (by omega) HC3.out HC4.out (HT.out.below hB3)).mono ?_
        rw [HP.out]
        rintro e W4 ⟨Ax, nx, cx, lx, rfl, hdx, hrx, _, hb⟩
        have hB4 := bstep hB3 hb
        have k5 := k4.below hb k4.lt
        clear hb hB3 k4 d0 d1 d5 d6
        have d0 : W4.cell? ⟨w.heap.size, 0, none⟩ = some (.slice A1 n1 c1) := by simpa using k5.cell 0
        have d1 : W4.cell? ⟨w.heap.size, 1, none⟩ = some (.slice A2 n2 c2) := by simpa using k5.cell 1
        have d5 : W4.cell? ⟨w.heap.size, 5, none⟩ = some (.int .i64 lo) := by simpa using k5.cell 5
        have d6 : W4.cell? ⟨w.heap.size, 6, none⟩ = some (.int .i64 hi) := by simpa using k5.cell 6
        go_wp2_with fail
        refine (RIntervals_any A1 n1 c1 on A2 n2 c2 others lo hi A3 n3 c3 ll A4 n4 c4 lr W4 (PA.out.up hB4) (PB.out.up hB4) (by omega) (by omega) (PC.out.step' hB4) (PD.out.step' hB4) (by omega) (by omega)).mono ?_
        rw [HP.out]
        rintro e W5 ⟨Ay, ny, cy, ly, rfl, hdy, hry, _, hb⟩
        have hB5 := bstep hB4 hb
        have k6 := k5.below hb k5.lt
        have hrx5 := hrx.step hb
        clear hb hB4 k5 d0 d1 d5 d6 hrx
        have hnxy : nx = ny := by rw [← hrx5.len, ← hry.len, ← dE_len lx, ← dE_len ly, hdx, hdy]
        subst hnxy
        have nq : (p.2 != p.2) = false := by simp
        have hdd : dE lx = dE ly := by rw [hdx, hdy]
        have HDD := hide hdd
        clear hdd hdx hdy
        go_wp2_with fail
        refine (EvSame_one Ax nx cx Ay cy _ _ lx ly W5 hrx5 hry HDD.out).mono ?_
        rintro e W6 ⟨rfl, hb⟩
        have hB6 := bstep hB5 hb
        have k7 := k6.below hb k6.lt
        clear hb hB5 k6 hrx5 hry
        go_wp2_with fail
        have HB6 := hide hB6
        have HK7 := hide k7
        clear hB6 k7 nq
        go_loopw [11] (fun i wr => ∃ k : Nat, k ≤ n3 ∧ i = .int .i64 k ∧ Below W6.heap.size W6 wr) (fun i _ => n3 - (intOf i).toNat)
        case atStart => exact ⟨0, Nat.zero_le _, rfl, Below.refl _ _⟩
        case round =>
          obtain ⟨k, hk, rfl, hBk⟩ := hrel
          have hBr := bstep HB6.out hBk
          by_cases hlt : k < n3
          · have q1 : (0 : Int) ≤ (k : Int) := by omega
            have q2 : (k : Int) < (n3 : Int) := by omega
            by_cases hlt2 : k < n4
            · have q3 : (k : Int) < (n4 : Int) := by omega
              obtain ⟨bx, ox, x, rfl, hbx, hxk, e0, e1, hrx⟩ := (PC.out.step' hBr).at_ hlt
              obtain ⟨by_, oy, y, rfl, hby, hyk, f0, f1, hry⟩ := (PD.out.step' hBr).at_ hlt2
              have hcx := HC3.out x (List.mem_of_getElem? hxk)
              have hcy := HC4.out y (List.mem_of_getElem? hyk)
              have k8 := HK7.out.below hBk HK7.out.lt
              have d0 : wr.cell? ⟨w.heap.size, 0, none⟩ = some (.slice A1 n1 c1) := by simpa using k8.cell 0
              have d1 : wr.cell? ⟨w.heap.size, 1, none⟩ = some (.slice A2 n2 c2) := by simpa using k8.cell 1
              have p0 := fun (p : BW wr) => BW.cell (a := ⟨bx, ox + k * 2 + 1, none⟩) hbx e1 p
              have p1 := fun (p : BW wr) => BW.cell (a := ⟨by_, oy + k * 2 + 1, none⟩) hby f1 p
              have p2 := fun (p : BW wr) => BW.cell (a := ⟨w.heap.size, 0, none⟩) k8.lt d0 p
              have p3 := fun (p : BW wr) => BW.cell (a := ⟨w.heap.size, 1, none⟩) k8.lt d1 p
              have C1 := hide (fun (p : BW wr) => calls_bw (p := p) (PSameKey_any A1 n1 c1 on A2 n2 c2 others x.A x.n x.c x.r y.A y.n y.c y.r p.x (PA.out.up (bstep hBr p.h)) (PB.out.up (bstep hBr p.h)) (by omega) (by omega) ((hrx.below p.h).mono p.h.size) ((hry.below p.h).mono p.h.size) hcx hcy (HT.out.below (bstep hBr p.h))))
              have C2 := hide (fun (p : BW wr) => calls_bw (p := p) (RSameKey_any A1 n1 c1 on A2 n2 c2 others x.A x.n x.c x.r y.A y.n y.c y.r p.x (PA.out.up (bstep hBr p.h)) (PB.out.up (bstep hBr p.h)) (by omega) (by omega) ((hrx.below p.h).mono p.h.size) ((hry.below p.h).mono p.h.size)))
              obtain ⟨z, hz⟩ : ∃ z, sameK on others x.r y.r = z := ⟨_, rfl⟩
              rw [hz] at C1 C2
              have nz : (z != z) = false := by simp
              clear hz e0 e1 f0 f1 hxk hyk hrx hry d0 d1 k8 hcx hcy
              go_wp2_with fail
              (refine wp_region_quiet_bw (by kernel_rfl) (by kernel_rfl) ?_
               repeat (first | go_big_quiet_step ((first | (go_at_call 17; with_reducible exact C1.out _) | (go_at_call 18; with_reducible exact C2.out _))) | quiet_step ((first | (go_at_call 17; with_reducible exact C1.out _) | (go_at_call 18; with_reducible exact C2.out _))))
               refine wpQuiet_nil ?_
               intro wq hw'
               obtain ⟨⟨_, hbq⟩, hw''⟩ := hw'
               subst hw'')
              have HB2 := hide (bstep hBk hbq)
              clear hbq hBk hBr p0 p1 p2 p3 C1 C2
              go_wp2
              go_roundw
              case rel => exact ⟨k + 1, by omega, by go_num, HB2.out⟩
              case measure => simp [intOf]; omega
            · have q3 : ¬ ((k : Int) < (n4 : Int)) := by omega
              go_wp2_with fail
              refine (awake9_any wr (HT.out.below hBr)).mono ?_
              rintro e W8 ⟨rfl, hb⟩
              have HB := hide (bstep hBr hb)
              clear hb hBr hBk
              go_wp2
              go_ret
              exact ⟨rfl, HB.out⟩
          · have q2 : ¬ ((k : Int) < (n3 : Int)) := by omega
            go_wp2_with fail
            refine (awake9_any wr (HT.out.below hBr)).mono ?_
            rintro e W8 ⟨rfl, hb⟩
            have HB := hide (bstep hBr hb)
            clear hb hBr hBk
            go_wp2
            go_ret
            exact ⟨rfl, HB.out⟩
end Go.Proofs.YtoapjidpfghnlaaGreatDoor
