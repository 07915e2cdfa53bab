/-
  The law PairKinds, for all inputs that read. (Printed by gen_okL.)
-/
import Derived.Test.YtoapjidpfghnlaaGreatDoorPrL3
import Derived.Test.YtoapjidpfghnlaaGreatDoorOuH
import Derived.Test.YtoapjidpfghnlaaGreatDoorOkG
import Derived.Test.YtoapjidpfghnlaaGreatDoorLatB
import Derived.Test.YtoapjidpfghnlaaGreatDoorOrdG
import Derived.Test.YtoapjidpfghnlaaGreatDoorBgL
namespace Go.Proofs.YtoapjidpfghnlaaGreatDoor
open Go.RowKit
attribute [local go_sem] Oper.semAt_some wide_fn wide_depth
set_option linter.unusedVariables false
set_option linter.unusedSimpArgs false

theorem infoBag_ok : (Tryz.prog.info? 40).map (fun i => (i.zero, i.size, i.bytes)) = some (some (.slice none 0 0), 1, 24) := by kernel_rfl
set_option maxRecDepth 100000 in
set_option maxHeartbeats 16000000 in
theorem pairKinds_all (A1 : Option Addr) (n1 c1 : Nat) (on : List Int) (A2 : Option Addr) (n2 c2 : Nat) (others : List Int) (wide width kind lo hi : Int) (A3 : Option Addr) (n3 c3 : Nat) (ll : List It) (A4 : Option Addr) (n4 c4 : Nat) (lr : List It) (w : World)
    (h1 : Reads w w.heap.size 1 A1 n1 (on.map (Value.int .i64))) (h2 : Reads w w.heap.size 1 A2 n2 (others.map (Value.int .i64))) (h3 : BagR w w.heap.size A3 n3 ll) (h4 : BagR w w.heap.size A4 n4 lr)
    (hc3 : ∀ x ∈ ll, x.n ≤ x.c) (hc4 : ∀ x ∈ lr, x.n ≤ x.c) (ht : Tab w) :
    Calls Tryz.prog 6 #[.agg #[.slice A1 n1 c1, .slice A2 n2 c2, .int .i64 wide, .int .i64 width, .int .i64 kind, .int .i64 lo, .int .i64 hi], .slice A3 n3 c3, .slice A4 n4 c4] w (RetV w (.bool true)) := by
  obtain ⟨i0, hi0, hz0, hz1, hz2⟩ := info_parts3 infoBag_ok
  have hB0 := below_val (w := w) #[.slice A1 n1 c1, .slice A2 n2 c2, .int .i64 wide, .int .i64 width, .int .i64 kind, .int .i64 lo, .int .i64 hi] 24
  have k1 := Blk.new w 24 #[.slice A1 n1 c1, .slice A2 n2 c2, .int .i64 wide, .int .i64 width, .int .i64 kind, .int .i64 lo, .int .i64 hi]
  have HT := hide ht
  have PA := hide h1
  have PB := hide h2
  have PC := hide h3
  have PD := hide h4
  have HC3 := hide hc3
  have HC4 := hide hc4
  clear h1 h2 h3 h4 hc3 hc4 ht
  go_enter Tryz.func6, Tryz.ntmps6
  go_wp2_with fail
  obtain ⟨W0, hW0⟩ : ∃ W0, w.alloc (.cells #[.slice A1 n1 c1, .slice A2 n2 c2, .int .i64 wide, .int .i64 width, .int .i64 kind, .int .i64 lo, .int .i64 hi] 24) = W0 := ⟨_, rfl⟩
  rw [hW0] at hB0 k1 ⊢
  clear hW0
  refine (klong_any A1 n1 c1 A2 n2 c2 wide width kind lo hi W0).mono ?_
  rintro e W1 hres
  obtain ⟨b1, rfl, hb1, hb⟩ := hres
  have hB1 := bstep hB0 hb
  have k2 := k1.below hb k1.lt
  clear hb hB0 k1
  cases b1
  case true =>
    clear hb1 k2
    go_wp2_with fail
    refine (awake9_any W1 (HT.out.below hB1)).mono ?_
    rintro e W2 ⟨rfl, hb⟩
    have HB := hide (bstep hB1 hb)
    clear hb hB1
    go_wp2
    go_ret
    exact ⟨rfl, HB.out⟩
  case false =>
    obtain ⟨hn1, hn2⟩ := hb1 rfl
    clear hb1
    have hBb := below_val (w := W1) #[.slice A3 n3 c3, .slice A4 n4 c4] 40
    have b0 := Blk.new W1 40 #[.slice A3 n3 c3, .slice A4 n4 c4]
    have hB2 := bstep hB1 hBb
    have k3 := k2.below hBb k2.lt
    have g1 := PC.out.stepO hB2
    have g2 := PD.out.stepO hB2
    have HF := hide (Few_any [⟨A3, n3, c3, ll⟩, ⟨A4, n4, c4, lr⟩] 2 W1.heap.size _ rfl (by omega) (fun i x hx => by
      have hi := (List.getElem?_eq_some_iff.1 hx).1
      simp only [List.length_cons, List.length_nil] at hi
      match i, hi, hx with
      | 0, _, hx => injection hx with hx; subst hx; exact ⟨by rw [b0.cell]; rfl, g1⟩
      | 1, _, hx => injection hx with hx; subst hx; exact ⟨by rw [b0.cell]; rfl, g2⟩))
    clear b0 g1 g2 hBb hB1 k2
    have H2 := hide hB2
    have K3 := hide k3
    clear hB2 k3
    go_wp2_with fail
    refine HF.out.mono ?_
    rintro e W3 hres
    obtain ⟨b3, rfl, hb3, hb⟩ := hres
    have hB3 := bstep H2.out hb
    have k4 := K3.out.below hb K3.out.lt
    clear hb H2 K3 HF
    cases b3
    case false =>
      clear hb3 k4
      go_wp2_with fail
      refine (awake9_any W3 (HT.out.below hB3)).mono ?_
      rintro e W4 ⟨rfl, hb⟩
      have HB := hide (bstep hB3 hb)
      clear hb hB3
      go_wp2
      go_ret
      exact ⟨rfl, HB.out⟩
    case true =>
      have hm3 : n3 ≤ 60 := hb3 rfl ⟨A3, n3, c3, ll⟩ (by simp)
      have hm4 : n4 ≤ 60 := hb3 rfl ⟨A4, n4, c4, lr⟩ (by simp)
      clear hb3
      have hs0 := k4.lt
      obtain ⟨kd, hkd⟩ : ∃ kd : Nat → Bg × Int, (fun j : Nat => outB (j : Int) on others wide width (dat ll) (dat lr)) = kd := ⟨_, rfl⟩
      have HKD := hide (fun j => congrFun hkd j)
      clear hkd
      have HOU := hide (fun (k : Nat) W (hB : Below w.heap.size w W) => Outer_any (k : Int) A1 n1 c1 on A2 n2 c2 others wide width A3 n3 c3 ll A4 n4 c4 lr W (PA.out.up hB) (PB.out.up hB) (by omega) (by omega) (PC.out.stepO hB) (PD.out.stepO hB) hm3 hm4 HC3.out HC4.out (HT.out.below hB))
      simp only [HKD.out] at HOU
      have HB3 := hide hB3
      have K4 := hide k4
      have hI0 := KdI.nil W3
      clear hB3 k4
      go_wp2_with fail
      go_loopw [7, 8] (fun v i wr => ∃ (k : Nat) (v0 : Value), k ≤ 4 ∧ i = .int .i64 k ∧ v0 = v ∧ KdI W3 ((List.range k).map fun j => (kd j).1) v0 wr ∧ ∀ j, j < k → (kd j).2 = 0) (fun _ i _ => 4 - (intOf i).toNat)
      case atStart => exact ⟨0, _, Nat.zero_le _, rfl, rfl, hI0, fun j h => absurd h (by omega)⟩
      case round =>
        clear hI0
        obtain ⟨k, v, hk, rfl, rfl, hI, hE⟩ := hrel
        have HE := hide hE
        clear hE
        have hB4 := HB3.out.trans (hI.bel.mono HB3.out.size)
        by_cases hlt : k < 4
        · have q1 : (0 : Int) ≤ (k : Int) := by omega
          have q2 : (k : Int) < (4 : Int) := by omega
          have k4 : Blk wr w.heap.size 24 #[.slice A1 n1 c1, .slice A2 n2 c2, .int .i64 wide, .int .i64 width, .int .i64 kind, .int .i64 lo, .int .i64 hi] := (hI.bel.block _ hs0).trans K4.out
          have d0 : wr.cell? ⟨w.heap.size, 0, none⟩ = some (.slice A1 n1 c1) := by simpa using k4.cell 0
          have d1 : wr.cell? ⟨w.heap.size, 1, none⟩ = some (.slice A2 n2 c2) := by simpa using k4.cell 1
          have d2 : wr.cell? ⟨w.heap.size, 2, none⟩ = some (.int .i64 wide) := by simpa using k4.cell 2
          have d3 : wr.cell? ⟨w.heap.size, 3, none⟩ = some (.int .i64 width) := by simpa using k4.cell 3
          have HO := hide (HOU.out k wr hB4)
          obtain ⟨p, hp⟩ : ∃ p, kd k = p := ⟨_, rfl⟩
          rw [hp] at HO
          have HP := hide hp
          clear hp k4
          go_wp2_with fail
          refine HO.out.mono ?_
          rintro e W4 ⟨Ax, nx, cx, lx, rfl, hdx, hgx, hcx, hfr, hb⟩
          have hB5 := bstep hB4 hb
          clear hB4 HO d0 d1 d2 d3
          by_cases hz : p.2 = 0
          · have HZ := hide hz
            rw [hz]
            obtain ⟨gl, hown, hgn, hpush⟩ := hI.push hb ⟨Ax, nx, cx, lx⟩ hgx hcx hfr
            rw [List.length_map, List.length_range] at hgn
            have HPU := hide hpush
            have hrow := hown.alloc (.cells #[.slice Ax nx cx] 40)
            have hba := below_val (w := W4) #[.slice Ax nx cx] 40
            have hrd : Reads (W4.alloc (.cells #[.slice Ax nx cx] 40)) (W4.heap.size + 1) 1 (some ⟨W4.heap.size, 0, none⟩) 1 [.slice Ax nx cx] :=
              ⟨rfl, fun _ => ⟨W4.heap.size, 0, rfl, by omega, fun j u hu => by rw [Nat.zero_add]; exact ((Blk.new W4 40 #[.slice Ax nx cx]).cell j).trans (by simpa using hu)⟩⟩
            have hsz : W3.heap.size ≤ (W4.alloc (.cells #[.slice Ax nx cx] 40)).heap.size := Nat.le_trans (Nat.le_trans hI.bel.size hb.size) hba.size
            rw [hgn] at hrow HPU
            obtain ⟨GC, hGC⟩ : ∃ GC, gl.map encBn = GC := ⟨_, rfl⟩
            rw [hGC] at hrow HPU
            obtain ⟨Av, cv, rfl, _⟩ := own_form hrow
            clear hz hI hown hpush hb hba hGC hgx hcx hfr
            go_wp2_with (at_builtin; go_loud (refine wpList_append_any _ rfl _ _ 46 rfl W3.heap.size 40 i0 _ 1 24 Tryz.underlying46 hi0 hz0 hz1 hz2 rfl (by decide) (.slice Av k cv) k GC rfl hrow (W4.heap.size + 1) (some ⟨W4.heap.size, 0, none⟩) 1 1 [.slice Ax nx cx] rfl hrd (by simp [Value.oneCell']) (by unfold maxLen; omega) (by omega) hsz ?_; intro v' X3 hown6 hgrow6 hat6; have HN := hide (HPU.out v' X3 hown6 hgrow6 hat6)))
            have HN2 := hide (show KdI W3 ((List.range (k + 1)).map fun j => (kd j).1) v' X3 from by
              have h1 := HN.out
              rw [hdx] at h1
              rw [List.range_succ, List.map_append, List.map_cons, List.map_nil, HP.out]
              exact h1)
            have HE2 := hide (show ∀ j, j < k + 1 → (kd j).2 = 0 from fun j hj => by
              by_cases e : j = k
              · subst e; rw [HP.out]; exact HZ.out
              · exact HE.out j (by omega))
            clear HN hown6 hgrow6 hat6 hrow hrd hsz HPU hgn hdx
            go_wp2
            go_roundw
            case rel => exact ⟨k + 1, _, by omega, by go_num, rfl, HN2.out, HE2.out⟩
            case measure => simp [intOf]; omega
          · have z1 : (p.2 != 0) = true := by simpa using hz
            clear hz hgx hcx hfr hb hI hdx
            go_wp2_with fail
            refine (awake9_any W4 (HT.out.below hB5)).mono ?_
            rintro e W5 ⟨rfl, hb⟩
            have HB := hide (bstep hB5 hb)
            clear hb hB5 z1
            go_wp2
            go_ret
            exact ⟨rfl, HB.out⟩
        · obtain rfl : k = 4 := by omega
          obtain ⟨_, gl, hown, hd, hgl⟩ := hI
          have hln : gl.length = 4 := by
            have := congrArg List.length hd
            simpa using this
          obtain ⟨g0, g1, g2, g3, rfl⟩ : ∃ g0 g1 g2 g3, gl = [g0, g1, g2, g3] := by
            match gl, hln with
            | [a, b, c, d], _ => exact ⟨a, b, c, d, rfl⟩
          obtain ⟨r0, c0, _⟩ := hgl g0 (by simp)
          obtain ⟨r1, c1', _⟩ := hgl g1 (by simp)
          obtain ⟨r2, c2', _⟩ := hgl g2 (by simp)
          obtain ⟨r3, c3', _⟩ := hgl g3 (by simp)
          have hd : [dat g0.l, dat g1.l, dat g2.l, dat g3.l] = [(kd 0).1, (kd 1).1, (kd 2).1, (kd 3).1] := hd
          injection hd with t0 hd
          injection hd with t1 hd
          injection hd with t2 hd
          injection hd with t3 hd
          obtain ⟨f0, o0, SL, SR, hw8⟩ := outB_ok (by have := HE.out 0 (by omega); rwa [← HKD.out 0] at this)
          obtain ⟨f1, o1, _⟩ := outB_ok (by have := HE.out 1 (by omega); rwa [← HKD.out 1] at this)
          obtain ⟨f2, o2, _⟩ := outB_ok (by have := HE.out 2 (by omega); rwa [← HKD.out 2] at this)
          obtain ⟨f3, o3, _⟩ := outB_ok (by have := HE.out 3 (by omega); rwa [← HKD.out 3] at this)
          have e0 : dat g0.l = kndB on others wide.toNat width.toNat (dat ll) (dat lr) false false := by rw [t0, ← HKD.out 0]; exact f0
          have e1 : dat g1.l = kndB on others wide.toNat width.toNat (dat ll) (dat lr) true false := by rw [t1, ← HKD.out 1]; exact f1
          have e2 : dat g2.l = kndB on others wide.toNat width.toNat (dat ll) (dat lr) false true := by rw [t2, ← HKD.out 2]; exact f2
          have e3 : dat g3.l = kndB on others wide.toNat width.toNat (dat ll) (dat lr) true true := by rw [t3, ← HKD.out 3]; exact f3
          have p0 : okBag (dat g0.l) = true := by rw [e0]; exact o0
          have p1 : okBag (dat g1.l) = true := by rw [e1]; exact o1
          have p2 : okBag (dat g2.l) = true := by rw [e2]; exact o2
          have HPL := hide (show plusB (plusB (dat g1.l) (dat g2.l) 1) (dat g0.l) (-1) = dat g3.l from by rw [e0, e1, e2, e3]; exact kinds_plus SL SR hw8)
          have hle := kinds_le SL SR hw8 o0 o1 o2
          rw [← e0, ← e1, ← e2] at hle
          have HLE := hide hle
          have HP0 := hide p0
          have HP1 := hide p1
          have HP2 := hide p2
          obtain ⟨g, cap, rfl, hg1, hg2⟩ := hown.form (by simp)
          have hcs : ∀ j u, ([g0, g1, g2, g3].map encBn)[j]? = some u → wr.cell? ⟨g, j, none⟩ = some u := fun j u hu => by
            rw [← Nat.zero_add j, ← add_plain]
            exact hown.cells (g := g) rfl j u hu
          have m0 : wr.cell? ⟨g, 0, none⟩ = some (.slice g0.A g0.n g0.c) := hcs 0 _ rfl
          have m1 : wr.cell? ⟨g, 1, none⟩ = some (.slice g1.A g1.n g1.c) := hcs 1 _ rfl
          have m2 : wr.cell? ⟨g, 2, none⟩ = some (.slice g2.A g2.n g2.c) := hcs 2 _ rfl
          have m3 : wr.cell? ⟨g, 3, none⟩ = some (.slice g3.A g3.n g3.c) := hcs 3 _ rfl
          have HLN := hide hln
          simp only [List.length_cons, List.length_nil, Nat.zero_add, Nat.reduceAdd]
          clear hown hgl hln hd t0 t1 t2 t3 f0 f1 f2 f3 o0 o1 o2 o3 SL SR hw8 e0 e1 e2 e3 p0 p1 p2 hcs hle HE HOU HKD hg1
          go_wp2_with fail
          refine Held.begin (fun z => z.cell? ⟨g, 0, none⟩ = some (.slice g0.A g0.n g0.c) ∧ z.cell? ⟨g, 1, none⟩ = some (.slice g1.A g1.n g1.c) ∧ z.cell? ⟨g, 2, none⟩ = some (.slice g2.A g2.n g2.c) ∧ z.cell? ⟨g, 3, none⟩ = some (.slice g3.A g3.n g3.c)) 100 (by kernel_rfl) ?_
          have hdr : Below wr.heap.size wr wr.drew := (Below.refl _ _).drew
          have hS : wr.drew.cell? ⟨g, 0, none⟩ = some (.slice g0.A g0.n g0.c) ∧ wr.drew.cell? ⟨g, 1, none⟩ = some (.slice g1.A g1.n g1.c) ∧ wr.drew.cell? ⟨g, 2, none⟩ = some (.slice g2.A g2.n g2.c) ∧ wr.drew.cell? ⟨g, 3, none⟩ = some (.slice g3.A g3.n g3.c) := ⟨m0, m1, m2, m3⟩
          have r0 := (r0.below hdr)
          have r1 := (r1.below hdr)
          have r2 := (r2.below hdr)
          have r3 := (r3.below hdr)
          have hBX := bstep hB4 hdr
          have hg2 := Nat.lt_of_lt_of_le hg2 hdr.size
          obtain ⟨X1, hX1⟩ : ∃ X1, wr.drew = X1 := ⟨_, rfl⟩
          rw [hX1] at hS r0 r1 r2 r3 hBX hg2 ⊢
          clear hX1 hdr hB4 m0 m1 m2 m3
          refine Held.take (i := 0) (.slice (some ⟨g, 0, none⟩) 4 cap) rfl hS (by kernel_rfl) (by kernel_rfl) (by kernel_rfl) (by kernel_rfl) (fun _ _ _ h => h) rfl (fun y hy => by obtain ⟨x1, x2, x3, x4⟩ := hy; go_simp) ?_
          try simp only [Act.put]
          refine Held.take (i := 1) (.pointer (some ⟨g, 1, none⟩)) rfl hS (by kernel_rfl) (by kernel_rfl) (by kernel_rfl) (by kernel_rfl) (fun _ _ _ h => h) rfl (fun y hy => by obtain ⟨x1, x2, x3, x4⟩ := hy; go_simp) ?_
          try simp only [Act.put]
          refine Held.take (i := 2) (.slice g1.A g1.n g1.c) rfl hS (by kernel_rfl) (by kernel_rfl) (by kernel_rfl) (by kernel_rfl) (fun _ _ _ h => h) rfl (fun y hy => by obtain ⟨x1, x2, x3, x4⟩ := hy; go_simp) ?_
          try simp only [Act.put]
          refine Held.take (i := 3) (.slice (some ⟨g, 0, none⟩) 4 cap) rfl hS (by kernel_rfl) (by kernel_rfl) (by kernel_rfl) (by kernel_rfl) (fun _ _ _ h => h) rfl (fun y hy => by obtain ⟨x1, x2, x3, x4⟩ := hy; go_simp) ?_
          try simp only [Act.put]
          refine Held.take (i := 4) (.pointer (some ⟨g, 2, none⟩)) rfl hS (by kernel_rfl) (by kernel_rfl) (by kernel_rfl) (by kernel_rfl) (fun _ _ _ h => h) rfl (fun y hy => by obtain ⟨x1, x2, x3, x4⟩ := hy; go_simp) ?_
          try simp only [Act.put]
          refine Held.take (i := 5) (.slice g2.A g2.n g2.c) rfl hS (by kernel_rfl) (by kernel_rfl) (by kernel_rfl) (by kernel_rfl) (fun _ _ _ h => h) rfl (fun y hy => by obtain ⟨x1, x2, x3, x4⟩ := hy; go_simp) ?_
          try simp only [Act.put]
          refine Held.take (i := 7) (.slice (some ⟨g, 0, none⟩) 4 cap) rfl hS (by kernel_rfl) (by kernel_rfl) (by kernel_rfl) (by kernel_rfl) (fun _ _ _ h => h) rfl (fun y hy => by obtain ⟨x1, x2, x3, x4⟩ := hy; go_simp) ?_
          try simp only [Act.put]
          refine Held.take (i := 8) (.pointer (some ⟨g, 0, none⟩)) rfl hS (by kernel_rfl) (by kernel_rfl) (by kernel_rfl) (by kernel_rfl) (fun _ _ _ h => h) rfl (fun y hy => by obtain ⟨x1, x2, x3, x4⟩ := hy; go_simp) ?_
          try simp only [Act.put]
          refine Held.take (i := 9) (.slice g0.A g0.n g0.c) rfl hS (by kernel_rfl) (by kernel_rfl) (by kernel_rfl) (by kernel_rfl) (fun _ _ _ h => h) rfl (fun y hy => by obtain ⟨x1, x2, x3, x4⟩ := hy; go_simp) ?_
          try simp only [Act.put]
          refine Held.take (i := 11) (.slice (some ⟨g, 0, none⟩) 4 cap) rfl hS (by kernel_rfl) (by kernel_rfl) (by kernel_rfl) (by kernel_rfl) (fun _ _ _ h => h) rfl (fun y hy => by obtain ⟨x1, x2, x3, x4⟩ := hy; go_simp) ?_
          try simp only [Act.put]
          refine Held.take (i := 12) (.pointer (some ⟨g, 3, none⟩)) rfl hS (by kernel_rfl) (by kernel_rfl) (by kernel_rfl) (by kernel_rfl) (fun _ _ _ h => h) rfl (fun y hy => by obtain ⟨x1, x2, x3, x4⟩ := hy; go_simp) ?_
          try simp only [Act.put]
          refine Held.take (i := 13) (.slice g3.A g3.n g3.c) rfl hS (by kernel_rfl) (by kernel_rfl) (by kernel_rfl) (by kernel_rfl) (fun _ _ _ h => h) rfl (fun y hy => by obtain ⟨x1, x2, x3, x4⟩ := hy; go_simp) ?_
          try simp only [Act.put]
          refine Held.one (i := 6) rfl (by kernel_rfl) rfl (fun K hK => ?_)
          unfold Oper.wp
          go_simp
          refine (RPlusL_any g1.A g1.n g1.c g1.l g2.A g2.n g2.c g2.l 1 X1 (r1.mono (Nat.zero_le _)) (r2.mono (Nat.zero_le _)) (bigL_of HP1.out) (bigL_of HP2.out) (by omega)).mono ?_
          rintro e X2 ⟨As, ns, cs, ls, rfl, hds, hrs, _, hb⟩
          have hS2 : X2.cell? ⟨g, 0, none⟩ = some (.slice g0.A g0.n g0.c) ∧ X2.cell? ⟨g, 1, none⟩ = some (.slice g1.A g1.n g1.c) ∧ X2.cell? ⟨g, 2, none⟩ = some (.slice g2.A g2.n g2.c) ∧ X2.cell? ⟨g, 3, none⟩ = some (.slice g3.A g3.n g3.c) := ⟨(hb.cell hg2).trans hS.1, (hb.cell hg2).trans hS.2.1, (hb.cell hg2).trans hS.2.2.1, (hb.cell hg2).trans hS.2.2.2⟩
          have hBX2 := bstep hBX hb
          have r0 := (r0.below hb)
          have r1 := (r1.below hb)
          have r2 := (r2.below hb)
          have r3 := (r3.below hb)
          have hg2 := Nat.lt_of_lt_of_le hg2 hb.size
          refine hK _ _ (fun _ => hS2) ?_
          try simp only [Act.put]
          clear hK K hS hBX hb
          have hS := hS2
          have hBX := hBX2
          clear hS2 hBX2
          refine Held.one (i := 10) rfl (by kernel_rfl) rfl (fun K hK => ?_)
          unfold Oper.wp
          go_simp
          refine (RPlusL_any As ns cs ls g0.A g0.n g0.c g0.l (-1) X2 hrs (r0.mono (Nat.zero_le _)) (by rw [hds]; exact bigL_plus HP1.out HP2.out) (bigL_of HP0.out) (by omega)).mono ?_
          rintro e X3 ⟨At, nt, ct, lt, rfl, hdt, hrt, _, hb⟩
          have hS2 : X3.cell? ⟨g, 0, none⟩ = some (.slice g0.A g0.n g0.c) ∧ X3.cell? ⟨g, 1, none⟩ = some (.slice g1.A g1.n g1.c) ∧ X3.cell? ⟨g, 2, none⟩ = some (.slice g2.A g2.n g2.c) ∧ X3.cell? ⟨g, 3, none⟩ = some (.slice g3.A g3.n g3.c) := ⟨(hb.cell hg2).trans hS.1, (hb.cell hg2).trans hS.2.1, (hb.cell hg2).trans hS.2.2.1, (hb.cell hg2).trans hS.2.2.2⟩
          have hBX2 := bstep hBX hb
          have r0 := (r0.below hb)
          have r1 := (r1.below hb)
          have r2 := (r2.below hb)
          have r3 := (r3.below hb)
          rw [hds, HPL.out] at hdt
          clear hrs hds
          have hg2 := Nat.lt_of_lt_of_le hg2 hb.size
          refine hK _ _ (fun _ => hS2) ?_
          try simp only [Act.put]
          clear hK K hS hBX hb
          have hS := hS2
          have hBX := hBX2
          clear hS2 hBX2
          refine Held.one (i := 14) rfl (by kernel_rfl) rfl (fun K hK => ?_)
          unfold Oper.wp
          go_simp
          refine (Same_datK (c := ct) (c' := g3.c) hrt r3 hdt).mono ?_
          rintro e X4 ⟨rfl, hb⟩
          have hS2 : X4.cell? ⟨g, 0, none⟩ = some (.slice g0.A g0.n g0.c) ∧ X4.cell? ⟨g, 1, none⟩ = some (.slice g1.A g1.n g1.c) ∧ X4.cell? ⟨g, 2, none⟩ = some (.slice g2.A g2.n g2.c) ∧ X4.cell? ⟨g, 3, none⟩ = some (.slice g3.A g3.n g3.c) := ⟨(hb.cell hg2).trans hS.1, (hb.cell hg2).trans hS.2.1, (hb.cell hg2).trans hS.2.2.1, (hb.cell hg2).trans hS.2.2.2⟩
          have hBX2 := bstep hBX hb
          have r0 := (r0.below hb)
          have r1 := (r1.below hb)
          have r2 := (r2.below hb)
          have r3 := (r3.below hb)
          clear hrt hdt
          have hg2 := Nat.lt_of_lt_of_le hg2 hb.size
          refine hK _ _ (fun _ => hS2) ?_
          try simp only [Act.put]
          clear hK K hS hBX hb
          have hS := hS2
          have hBX := hBX2
          clear hS2 hBX2
          refine Held.take (i := 15) (.bool true) rfl hS (by kernel_rfl) (by kernel_rfl) (by kernel_rfl) (by kernel_rfl) (fun _ _ _ h => h) rfl (fun y hy => by obtain ⟨x1, x2, x3, x4⟩ := hy; go_simp) ?_
          try simp only [Act.put]
          refine Held.takeG (i := 16) (.slice (some ⟨g, 0, none⟩) 4 cap) rfl hS (by kernel_rfl) (by kernel_rfl) (by kernel_rfl) (by kernel_rfl) (fun _ _ _ h => h) (by kernel_rfl) (fun y hy => by obtain ⟨x1, x2, x3, x4⟩ := hy; go_simp) ?_
          try simp only [Act.put]
          refine Held.takeG (i := 17) (.pointer (some ⟨g, 0, none⟩)) rfl hS (by kernel_rfl) (by kernel_rfl) (by kernel_rfl) (by kernel_rfl) (fun _ _ _ h => h) (by kernel_rfl) (fun y hy => by obtain ⟨x1, x2, x3, x4⟩ := hy; go_simp) ?_
          try simp only [Act.put]
          refine Held.takeG (i := 18) (.slice g0.A g0.n g0.c) rfl hS (by kernel_rfl) (by kernel_rfl) (by kernel_rfl) (by kernel_rfl) (fun _ _ _ h => h) (by kernel_rfl) (fun y hy => by obtain ⟨x1, x2, x3, x4⟩ := hy; go_simp) ?_
          try simp only [Act.put]
          refine Held.takeG (i := 19) (.slice (some ⟨g, 0, none⟩) 4 cap) rfl hS (by kernel_rfl) (by kernel_rfl) (by kernel_rfl) (by kernel_rfl) (fun _ _ _ h => h) (by kernel_rfl) (fun y hy => by obtain ⟨x1, x2, x3, x4⟩ := hy; go_simp) ?_
          try simp only [Act.put]
          refine Held.takeG (i := 20) (.pointer (some ⟨g, 1, none⟩)) rfl hS (by kernel_rfl) (by kernel_rfl) (by kernel_rfl) (by kernel_rfl) (fun _ _ _ h => h) (by kernel_rfl) (fun y hy => by obtain ⟨x1, x2, x3, x4⟩ := hy; go_simp) ?_
          try simp only [Act.put]
          refine Held.takeG (i := 21) (.slice g1.A g1.n g1.c) rfl hS (by kernel_rfl) (by kernel_rfl) (by kernel_rfl) (by kernel_rfl) (fun _ _ _ h => h) (by kernel_rfl) (fun y hy => by obtain ⟨x1, x2, x3, x4⟩ := hy; go_simp) ?_
          try simp only [Act.put]
          refine Held.oneG (i := 22) rfl (by kernel_rfl) (by kernel_rfl) (fun K hK => ?_)
          unfold Oper.wp
          go_simp
          refine (RWithin_any g0.A g0.n g0.c g0.l g1.A g1.n g1.c g1.l X4 (r0.mono (Nat.zero_le _)) (r1.mono (Nat.zero_le _))).mono ?_
          rintro e X5 ⟨rfl, hb⟩
          have hS2 : X5.cell? ⟨g, 0, none⟩ = some (.slice g0.A g0.n g0.c) ∧ X5.cell? ⟨g, 1, none⟩ = some (.slice g1.A g1.n g1.c) ∧ X5.cell? ⟨g, 2, none⟩ = some (.slice g2.A g2.n g2.c) ∧ X5.cell? ⟨g, 3, none⟩ = some (.slice g3.A g3.n g3.c) := ⟨(hb.cell hg2).trans hS.1, (hb.cell hg2).trans hS.2.1, (hb.cell hg2).trans hS.2.2.1, (hb.cell hg2).trans hS.2.2.2⟩
          have hBX2 := bstep hBX hb
          have r0 := (r0.below hb)
          have r1 := (r1.below hb)
          have r2 := (r2.below hb)
          have r3 := (r3.below hb)
          rw [HLE.out.1]
          have hg2 := Nat.lt_of_lt_of_le hg2 hb.size
          refine hK _ _ (fun _ => hS2) ?_
          try simp only [Act.put]
          clear hK K hS hBX hb
          have hS := hS2
          have hBX := hBX2
          clear hS2 hBX2
          refine Held.take (i := 23) (.bool true) rfl hS (by kernel_rfl) (by kernel_rfl) (by kernel_rfl) (by kernel_rfl) (fun _ _ _ h => h) rfl (fun y hy => by obtain ⟨x1, x2, x3, x4⟩ := hy; go_simp) ?_
          try simp only [Act.put]
          refine Held.take (i := 24) (.bool true) rfl hS (by kernel_rfl) (by kernel_rfl) (by kernel_rfl) (by kernel_rfl) (fun _ _ _ h => h) rfl (fun y hy => by obtain ⟨x1, x2, x3, x4⟩ := hy; go_simp) ?_
          try simp only [Act.put]
          refine Held.takeG (i := 25) (.slice (some ⟨g, 0, none⟩) 4 cap) rfl hS (by kernel_rfl) (by kernel_rfl) (by kernel_rfl) (by kernel_rfl) (fun _ _ _ h => h) (by kernel_rfl) (fun y hy => by obtain ⟨x1, x2, x3, x4⟩ := hy; go_simp) ?_
          try simp only [Act.put]
          refine Held.takeG (i := 26) (.pointer (some ⟨g, 0, none⟩)) rfl hS (by kernel_rfl) (by kernel_rfl) (by kernel_rfl) (by kernel_rfl) (fun _ _ _ h => h) (by kernel_rfl) (fun y hy => by obtain ⟨x1, x2, x3, x4⟩ := hy; go_simp) ?_
          try simp only [Act.put]
          refine Held.takeG (i := 27) (.slice g0.A g0.n g0.c) rfl hS (by kernel_rfl) (by kernel_rfl) (by kernel_rfl) (by kernel_rfl) (fun _ _ _ h => h) (by kernel_rfl) (fun y hy => by obtain ⟨x1, x2, x3, x4⟩ := hy; go_simp) ?_
          try simp only [Act.put]
          refine Held.takeG (i := 28) (.slice (some ⟨g, 0, none⟩) 4 cap) rfl hS (by kernel_rfl) (by kernel_rfl) (by kernel_rfl) (by kernel_rfl) (fun _ _ _ h => h) (by kernel_rfl) (fun y hy => by obtain ⟨x1, x2, x3, x4⟩ := hy; go_simp) ?_
          try simp only [Act.put]
          refine Held.takeG (i := 29) (.pointer (some ⟨g, 2, none⟩)) rfl hS (by kernel_rfl) (by kernel_rfl) (by kernel_rfl) (by kernel_rfl) (fun _ _ _ h => h) (by kernel_rfl) (fun y hy => by obtain ⟨x1, x2, x3, x4⟩ := hy; go_simp) ?_
          try simp only [Act.put]
          refine Held.takeG (i := 30) (.slice g2.A g2.n g2.c) rfl hS (by kernel_rfl) (by kernel_rfl) (by kernel_rfl) (by kernel_rfl) (fun _ _ _ h => h) (by kernel_rfl) (fun y hy => by obtain ⟨x1, x2, x3, x4⟩ := hy; go_simp) ?_
          try simp only [Act.put]
          refine Held.oneG (i := 31) rfl (by kernel_rfl) (by kernel_rfl) (fun K hK => ?_)
          unfold Oper.wp
          go_simp
          refine (RWithin_any g0.A g0.n g0.c g0.l g2.A g2.n g2.c g2.l X5 (r0.mono (Nat.zero_le _)) (r2.mono (Nat.zero_le _))).mono ?_
          rintro e X6 ⟨rfl, hb⟩
          have hS2 : X6.cell? ⟨g, 0, none⟩ = some (.slice g0.A g0.n g0.c) ∧ X6.cell? ⟨g, 1, none⟩ = some (.slice g1.A g1.n g1.c) ∧ X6.cell? ⟨g, 2, none⟩ = some (.slice g2.A g2.n g2.c) ∧ X6.cell? ⟨g, 3, none⟩ = some (.slice g3.A g3.n g3.c) := ⟨(hb.cell hg2).trans hS.1, (hb.cell hg2).trans hS.2.1, (hb.cell hg2).trans hS.2.2.1, (hb.cell hg2).trans hS.2.2.2⟩
          have hBX2 := bstep hBX hb
          have r0 := (r0.below hb)
          have r1 := (r1.below hb)
          have r2 := (r2.below hb)
          have r3 := (r3.below hb)
          rw [HLE.out.2]
          have hg2 := Nat.lt_of_lt_of_le hg2 hb.size
          refine hK _ _ (fun _ => hS2) ?_
          try simp only [Act.put]
          clear hK K hS hBX hb
          have hS := hS2
          have hBX := hBX2
          clear hS2 hBX2
          refine Held.take (i := 32) (.bool true) rfl hS (by kernel_rfl) (by kernel_rfl) (by kernel_rfl) (by kernel_rfl) (fun _ _ _ h => h) rfl (fun y hy => by obtain ⟨x1, x2, x3, x4⟩ := hy; go_simp) ?_
          try simp only [Act.put]
          refine Held.take (i := 33) (.bool true) rfl hS (by kernel_rfl) (by kernel_rfl) (by kernel_rfl) (by kernel_rfl) (fun _ _ _ h => h) rfl (fun y hy => by obtain ⟨x1, x2, x3, x4⟩ := hy; go_simp) ?_
          try simp only [Act.put]
          refine Held.oneG (i := 34) rfl (by kernel_rfl) (by kernel_rfl) (fun K hK => ?_)
          unfold Oper.wp
          go_simp
          refine (awake9_any X6 (HT.out.below hBX)).mono ?_
          rintro e X7 ⟨rfl, hb⟩
          have hS2 : X7.cell? ⟨g, 0, none⟩ = some (.slice g0.A g0.n g0.c) ∧ X7.cell? ⟨g, 1, none⟩ = some (.slice g1.A g1.n g1.c) ∧ X7.cell? ⟨g, 2, none⟩ = some (.slice g2.A g2.n g2.c) ∧ X7.cell? ⟨g, 3, none⟩ = some (.slice g3.A g3.n g3.c) := ⟨(hb.cell hg2).trans hS.1, (hb.cell hg2).trans hS.2.1, (hb.cell hg2).trans hS.2.2.1, (hb.cell hg2).trans hS.2.2.2⟩
          have hBX2 := bstep hBX hb
          have r0 := (r0.below hb)
          have r1 := (r1.below hb)
          have r2 := (r2.below hb)
          have r3 := (r3.below hb)
          have hg2 := Nat.lt_of_lt_of_le hg2 hb.size
          refine hK _ _ (fun _ => hS2) ?_
          try simp only [Act.put]
          clear hK K hS hBX hb
          have hS := hS2
          have hBX := hBX2
          clear hS2 hBX2
          have HB := hide hBX
          refine Held.take (i := 35) (.bool true) rfl hS (by kernel_rfl) (by kernel_rfl) (by kernel_rfl) (by kernel_rfl) (fun _ _ _ h => h) rfl (fun y hy => by obtain ⟨x1, x2, x3, x4⟩ := hy; go_simp) ?_
          try simp only [Act.put]
          refine Held.one (i := 36) rfl (by kernel_rfl) rfl (fun K hK => ?_)
          unfold Oper.wp
          go_simp
          refine hK _ _ (fun _ => hS) ?_
          try simp only [Act.put]
          clear hK K hBX hS r0 r1 r2 r3
          refine Held.done (by kernel_rfl) ?_
          go_wp2
          go_ret
          exact ⟨rfl, HB.out⟩
end Go.Proofs.YtoapjidpfghnlaaGreatDoor
