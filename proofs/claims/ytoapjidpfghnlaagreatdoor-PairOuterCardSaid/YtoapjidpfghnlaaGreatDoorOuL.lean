/-
  The law PairOuter, for all inputs that read.
-/
import Derived.Test.YtoapjidpfghnlaaGreatDoorPrL3
import Derived.Test.YtoapjidpfghnlaaGreatDoorOuH
import Derived.Test.YtoapjidpfghnlaaGreatDoorOuW
import Derived.Test.YtoapjidpfghnlaaGreatDoorBgL
namespace Go.Proofs.YtoapjidpfghnlaaGreatDoor
open Go.RowKit
attribute [local go_sem] Oper.semAt_some wide_fn wide_depth
set_option linter.unusedVariables false
set_option linter.unusedSimpArgs false

set_option maxRecDepth 100000 in
set_option maxHeartbeats 16000000 in
theorem pairOuter_all (A1 : Option Addr) (n1 c1 : Nat) (on : List Int) (A2 : Option Addr) (n2 c2 : Nat) (others : List Int) (wide width kind lo hi : Int) (A3 : Option Addr) (n3 c3 : Nat) (ll : List It) (A4 : Option Addr) (n4 c4 : Nat) (lr : List It) (w : World)
    (h1 : Reads w w.heap.size 1 A1 n1 (on.map (Value.int .i64))) (h2 : Reads w w.heap.size 1 A2 n2 (others.map (Value.int .i64))) (h3 : BagR w w.heap.size A3 n3 ll) (h4 : BagR w w.heap.size A4 n4 lr)
    (hc3 : ∀ x ∈ ll, x.n ≤ x.c) (hc4 : ∀ x ∈ lr, x.n ≤ x.c) (ht : Tab w) :
    Calls Tryz.prog 5 #[.agg #[.slice A1 n1 c1, .slice A2 n2 c2, .int .i64 wide, .int .i64 width, .int .i64 kind, .int .i64 lo, .int .i64 hi], .slice A3 n3 c3, .slice A4 n4 c4] w (RetV w (.bool true)) := by
  have hB0 := below_val (w := w) #[.slice A1 n1 c1, .slice A2 n2 c2, .int .i64 wide, .int .i64 width, .int .i64 kind, .int .i64 lo, .int .i64 hi] 24
  have k1 := Blk.new w 24 #[.slice A1 n1 c1, .slice A2 n2 c2, .int .i64 wide, .int .i64 width, .int .i64 kind, .int .i64 lo, .int .i64 hi]
  have HT := hide ht
  have PA := hide h1
  have PB := hide h2
  have PC := hide h3
  have PD := hide h4
  have HC3 := hide hc3
  have HC4 := hide hc4
  clear h1 h2 h3 h4 hc3 hc4 ht
  go_enter Tryz.func5, Tryz.ntmps5
  go_wp2_with fail
  obtain ⟨W0, hW0⟩ : ∃ W0, w.alloc (.cells #[.slice A1 n1 c1, .slice A2 n2 c2, .int .i64 wide, .int .i64 width, .int .i64 kind, .int .i64 lo, .int .i64 hi] 24) = W0 := ⟨_, rfl⟩
  rw [hW0] at hB0 k1 ⊢
  clear hW0
  refine (klong_any A1 n1 c1 A2 n2 c2 wide width kind lo hi W0).mono ?_
  rintro e W1 hres
  obtain ⟨b1, rfl, hb1, hb⟩ := hres
  have hB1 := bstep hB0 hb
  have k2 := k1.below hb k1.lt
  clear hb hB0 k1
  cases b1
  case true =>
    clear hb1 k2
    go_wp2_with fail
    refine (awake9_any W1 (HT.out.below hB1)).mono ?_
    rintro e W2 ⟨rfl, hb⟩
    have HB := hide (bstep hB1 hb)
    clear hb hB1
    go_wp2
    go_ret
    exact ⟨rfl, HB.out⟩
  case false =>
    obtain ⟨hn1, hn2⟩ := hb1 rfl
    clear hb1
    have hBb := below_val (w := W1) #[.slice A3 n3 c3, .slice A4 n4 c4] 40
    have b0 := Blk.new W1 40 #[.slice A3 n3 c3, .slice A4 n4 c4]
    have hB2 := bstep hB1 hBb
    have k3 := k2.below hBb k2.lt
    have g1 := PC.out.stepO hB2
    have g2 := PD.out.stepO hB2
    have HF := hide (Few_any [⟨A3, n3, c3, ll⟩, ⟨A4, n4, c4, lr⟩] 2 W1.heap.size _ rfl (by omega) (fun i x hx => by
      have hi := (List.getElem?_eq_some_iff.1 hx).1
      simp only [List.length_cons, List.length_nil] at hi
      match i, hi, hx with
      | 0, _, hx => injection hx with hx; subst hx; exact ⟨by rw [b0.cell]; rfl, g1⟩
      | 1, _, hx => injection hx with hx; subst hx; exact ⟨by rw [b0.cell]; rfl, g2⟩))
    clear b0 g1 g2 hBb hB1 k2
    have H2 := hide hB2
    have K3 := hide k3
    clear hB2 k3
    go_wp2_with fail
    refine HF.out.mono ?_
    rintro e W3 hres
    obtain ⟨b3, rfl, hb3, hb⟩ := hres
    have hB3 := bstep H2.out hb
    have k4 := K3.out.below hb K3.out.lt
    clear hb H2 K3 HF
    cases b3
    case false =>
      clear hb3 k4
      go_wp2_with fail
      refine (awake9_any W3 (HT.out.below hB3)).mono ?_
      rintro e W4 ⟨rfl, hb⟩
      have HB := hide (bstep hB3 hb)
      clear hb hB3
      go_wp2
      go_ret
      exact ⟨rfl, HB.out⟩
    case true =>
      have hm3 : n3 ≤ 60 := hb3 rfl ⟨A3, n3, c3, ll⟩ (by simp)
      have hm4 : n4 ≤ 60 := hb3 rfl ⟨A4, n4, c4, lr⟩ (by simp)
      clear hb3
      have d0 : W3.cell? ⟨w.heap.size, 0, none⟩ = some (.slice A1 n1 c1) := by simpa using k4.cell 0
      have d1 : W3.cell? ⟨w.heap.size, 1, none⟩ = some (.slice A2 n2 c2) := by simpa using k4.cell 1
      have d2 : W3.cell? ⟨w.heap.size, 2, none⟩ = some (.int .i64 wide) := by simpa using k4.cell 2
      have d3 : W3.cell? ⟨w.heap.size, 3, none⟩ = some (.int .i64 width) := by simpa using k4.cell 3
      have d4 : W3.cell? ⟨w.heap.size, 4, none⟩ = some (.int .i64 kind) := by simpa using k4.cell 4
      obtain ⟨p, hp⟩ : ∃ p, outB kind on others wide width (dat ll) (dat lr) = p := ⟨_, rfl⟩
      have HP := hide hp
      clear hp
      go_wp2_with fail
      refine (Outer_any kind A1 n1 c1 on A2 n2 c2 others wide width A3 n3 c3 ll A4 n4 c4 lr W3 (PA.out.up hB3) (PB.out.up hB3) (by omega) (by omega) (PC.out.stepO hB3) (PD.out.stepO hB3) hm3 hm4 HC3.out HC4.out (HT.out.below hB3)).mono ?_
      rw [HP.out]
      rintro e W4 ⟨Ax, nx, cx, lx, rfl, hdx, hrx, _, _, hb⟩
      have hrx := hrx.mono (Nat.zero_le W4.heap.size)
      have hB4 := bstep hB3 hb
      have k5 := k4.below hb k4.lt
      clear hb hB3 k4 d0 d1 d2 d3 d4
      have d0 : W4.cell? ⟨w.heap.size, 0, none⟩ = some (.slice A1 n1 c1) := by simpa using k5.cell 0
      have d1 : W4.cell? ⟨w.heap.size, 1, none⟩ = some (.slice A2 n2 c2) := by simpa using k5.cell 1
      have d2 : W4.cell? ⟨w.heap.size, 2, none⟩ = some (.int .i64 wide) := by simpa using k5.cell 2
      have d3 : W4.cell? ⟨w.heap.size, 3, none⟩ = some (.int .i64 width) := by simpa using k5.cell 3
      have d4 : W4.cell? ⟨w.heap.size, 4, none⟩ = some (.int .i64 kind) := by simpa using k5.cell 4
      go_wp2_with fail
      refine (ROuter_any kind A1 n1 c1 on A2 n2 c2 others wide width A3 n3 c3 ll A4 n4 c4 lr W4 (PA.out.up hB4) (PB.out.up hB4) (by omega) (by omega) (PC.out.stepO hB4) (PD.out.stepO hB4)).mono ?_
      rw [HP.out]
      rintro e W5 ⟨Ay, ny, cy, ly, rfl, hdy, hry, _, hb⟩
      have hB5 := bstep hB4 hb
      have hrx5 := hrx.stepO hb
      clear hb hB4 k5 d0 d1 d2 d3 d4 hrx
      have nq : (p.2 == p.2) = true := by simp
      have hnxy : nx = ny := by rw [← hrx5.len, ← hry.len, ← dat_len lx, ← dat_len ly, hdx, hdy]
      subst hnxy
      have HDD := hide (show dat lx = dat ly from by rw [hdx, hdy])
      clear hdx hdy
      go_wp2_with fail
      refine (BagSame_one Ax nx cx Ay cy _ _ lx ly W5 hrx5 hry HDD.out).mono ?_
      rintro e W6 ⟨rfl, hb⟩
      have hB6 := bstep hB5 hb
      clear hb hB5 hrx5 hry
      go_wp2_with fail
      refine (awake9_any W6 (HT.out.below hB6)).mono ?_
      rintro e W7 ⟨rfl, hb⟩
      have HB := hide (bstep hB6 hb)
      clear hb hB6 nq
      go_wp2
      go_ret
      exact ⟨rfl, HB.out⟩
end Go.Proofs.YtoapjidpfghnlaaGreatDoor
