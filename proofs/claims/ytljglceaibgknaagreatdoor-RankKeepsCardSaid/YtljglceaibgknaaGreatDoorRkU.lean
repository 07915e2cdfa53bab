/-
  The walk of the reference's lines, first part: all items in their order.
-/
import Derived.Test.YtljglceaibgknaaGreatDoorRkV
namespace Go.Proofs.YtljglceaibgknaaGreatDoor
open Go.RowKit
attribute [local go_sem] Oper.semAt_some
set_option linter.unusedVariables false
set_option linter.unusedSimpArgs false

set_option maxRecDepth 100000 in
set_option maxHeartbeats 16000000 in
theorem lines_any (k : Sk) (s : Stp) (A : Option Addr) (n c : Nat) (l : List It) (w : World) (hs : SetK w w.heap.size k s) (hb : BagR w w.heap.size A n l) (hn : n ≤ 1000) (hp : ∀ x ∈ dat l, has x.1 s.per = true) (hby : ∀ x ∈ dat l, has x.1 s.by_ = true) (hm : ∀ x ∈ dat l, 0 < x.2 ∧ x.2 ≤ 1000000) :
    Calls Tryz.prog 56 #[k.v s, .slice A n c] w (RetLns w s (dat l)) := by
  obtain ⟨i0, hi, hz0, hz1, hz2⟩ := info_parts3 infoLn
  have HL := hide (dat_len l)
  have HLN := hide hb.len
  have HP := hide hp
  have HBY := hide hby
  have HM := hide hm
  clear hp hby hm
  unfold Sk.v
  have k1 := Blk.new w 34 #[.slice k.A k.n k.c, .slice k.A' k.n' k.c', .bool s.dn, .int .i64 s.n]
  have hB1 := below_val (w := w) #[.slice k.A k.n k.c, .slice k.A' k.n' k.c', .bool s.dn, .int .i64 s.n] 34
  go_enter Tryz.func56, Tryz.ntmps56
  go_upto_region 1 with fail
  obtain ⟨W0, hW0⟩ : ∃ W0, w.alloc (.cells #[.slice k.A k.n k.c, .slice k.A' k.n' k.c', .bool s.dn, .int .i64 s.n] 34) = W0 := ⟨_, rfl⟩
  have hsz0 : w.heap.size + 1 ≤ W0.heap.size := by rw [← hW0]; simp
  rw [hW0] at k1 hB1 ⊢
  clear hW0
  have hI0 : LnI w s k [] (.slice none 0 0) W0 := ⟨hB1, ⟨by simpa using k1.cell 0, by simpa using k1.cell 1, by simpa using k1.cell 2, by simpa using k1.cell 3⟩, ⟨[], World.ownsRow_nil _ _ _ _, rfl, nofun⟩⟩
  clear k1 hB1
  go_wp2_with fail
  go_loopw [5, 6, 7, 8, 9, 10] (fun v i _ _ _ _ wr => ∃ (m : Nat) (u : Value), m ≤ n ∧ i = .int .i64 m ∧ u = v ∧ LnI w s k (lnsB s ((dat l).take m)) u wr) (fun _ i _ _ _ _ _ => n - (intOf i).toNat)
  case atStart => exact ⟨0, _, Nat.zero_le _, rfl, rfl, hI0⟩
  case round =>
    clear hI0 hsz0
    obtain ⟨m, v, hm, rfl, rfl, hI⟩ := hrel
    by_cases hlt : m < n
    · obtain ⟨b, off, x, rfl, hbb, hxl, c0, c1, hrow⟩ := (hb.below hI.bel).at_ hlt
      have hxd := dat_at hxl
      have hxm := List.mem_of_getElem? hxd
      have HPX := hide (HP.out _ hxm)
      have HBX := hide (HBY.out _ hxm)
      have HSN := hide (show lnsB s ((dat l).take (m + 1)) = stepL s (lnsB s ((dat l).take m)) (x.r, x.m) by rw [take_snoc' hxd, lns_snoc])
      have HMD := hide (show ∀ y ∈ lnsB s ((dat l).take m), y ∈ dat l from fun y hy => List.mem_of_mem_take ((lns_all s _).1.mem_iff.1 hy))
      have hdl : (lnsB s ((dat l).take m)).length = m := by rw [lns_len, List.length_take, HL.out, HLN.out]; omega
      have HDL := hide hdl
      obtain ⟨D, hD⟩ : ∃ D, lnsB s ((dat l).take m) = D := ⟨_, rfl⟩
      rw [hD] at hI HSN HMD HDL
      have e0 := hI.box.c0
      have HKY := hide (fun (X : World) (hX : Below wr.heap.size wr X) => PicksR_any x.A x.n x.c x.r k.A k.n k.c s.per X (hrow.below hX).rd hrow.le (hs.up (hI.bel.trans (hX.mono hI.bel.size))).p hs.np HPX.out)
      have HI0 := hide hI
      have HROW := hide hrow
      have q1 : (0 : Int) ≤ (m : Int) := by omega
      have q2 : (m : Int) < (n : Int) := by omega
      have hsz := hI.bel.size
      have hbw : w.heap.size < wr.heap.size := World.block_lt_of_cell? _ _ e0
      clear hxl hxd hxm hdl hD hI hrow
      go_upto_region 5 with fail
      go_cut [7] from 12 to 80 (fun s7 wx => ∃ (xb : Nat) (Ag : Option Addr) (cg : Nat), s7 = .pointer (some ⟨xb, 0, none⟩) ∧ Blk wx xb 97 #[.slice x.A x.n x.c, .int .i64 x.m, .slice Ag k.n cg, .int .i64 0] ∧ Below wr.heap.size wr wx ∧ RowK wx w.heap.size Ag k.n (gk s x.r))
      case first =>
        refine Held.begin (fun z => z.cell? ⟨b, off + m * 2, none⟩ = some (.slice x.A x.n x.c) ∧ z.cell? ⟨b, off + m * 2 + 1, none⟩ = some (.int .i64 x.m) ∧ z.cell? ⟨w.heap.size, 0, none⟩ = some (.slice k.A k.n k.c)) 100 (by kernel_rfl) ?_
        have hG : Below wr.heap.size wr wr.drew := (Below.refl _ _).drew
        obtain ⟨X1, hX1⟩ : ∃ X1, wr.drew = X1 := ⟨_, rfl⟩
        have hS : X1.cell? ⟨b, off + m * 2, none⟩ = some (.slice x.A x.n x.c) ∧ X1.cell? ⟨b, off + m * 2 + 1, none⟩ = some (.int .i64 x.m) ∧ X1.cell? ⟨w.heap.size, 0, none⟩ = some (.slice k.A k.n k.c) := by rw [← hX1]; exact ⟨c0, c1, e0⟩
        rw [hX1] at hG ⊢
        clear hX1 c0 c1 e0
        refine Held.take (i := 0) (.slice (some ⟨b, off, none⟩) n c) rfl hS (by kernel_rfl) (by kernel_rfl) (by kernel_rfl) (by kernel_rfl) (fun _ _ _ h => h) rfl (fun y hy => by obtain ⟨x1, x2, x3⟩ := hy; go_simp) ?_
        try simp only [Act.put]
        refine Held.take (i := 1) (.int .i64 (m : Int)) rfl hS (by kernel_rfl) (by kernel_rfl) (by kernel_rfl) (by kernel_rfl) (fun _ _ _ h => h) rfl (fun y hy => by obtain ⟨x1, x2, x3⟩ := hy; go_simp) ?_
        try simp only [Act.put]
        refine Held.take (i := 2) (.pointer (some ⟨b, off + m * 2, none⟩)) rfl hS (by kernel_rfl) (by kernel_rfl) (by kernel_rfl) (by kernel_rfl) (fun _ _ _ h => h) rfl (fun y hy => by obtain ⟨x1, x2, x3⟩ := hy; go_simp) ?_
        try simp only [Act.put]
        refine Held.take (i := 3) (.agg #[.slice x.A x.n x.c, .int .i64 x.m]) rfl hS (by kernel_rfl) (by kernel_rfl) (by kernel_rfl) (by kernel_rfl) (fun _ _ _ h => h) rfl (fun y hy => by obtain ⟨x1, x2, x3⟩ := hy; go_simp) ?_
        try simp only [Act.put]
        refine Held.take (i := 4) (.slice (some ⟨b, off, none⟩) n c) rfl hS (by kernel_rfl) (by kernel_rfl) (by kernel_rfl) (by kernel_rfl) (fun _ _ _ h => h) rfl (fun y hy => by obtain ⟨x1, x2, x3⟩ := hy; go_simp) ?_
        try simp only [Act.put]
        refine Held.take (i := 5) (.int .i64 (m : Int)) rfl hS (by kernel_rfl) (by kernel_rfl) (by kernel_rfl) (by kernel_rfl) (fun _ _ _ h => h) rfl (fun y hy => by obtain ⟨x1, x2, x3⟩ := hy; go_simp) ?_
        try simp only [Act.put]
        refine Held.take (i := 6) (.pointer (some ⟨b, off + m * 2, none⟩)) rfl hS (by kernel_rfl) (by kernel_rfl) (by kernel_rfl) (by kernel_rfl) (fun _ _ _ h => h) rfl (fun y hy => by obtain ⟨x1, x2, x3⟩ := hy; go_simp) ?_
        try simp only [Act.put]
        refine Held.take (i := 7) (.pointer (some ⟨b, off + m * 2, none⟩)) rfl hS (by kernel_rfl) (by kernel_rfl) (by kernel_rfl) (by kernel_rfl) (fun _ _ _ h => h) rfl (fun y hy => by obtain ⟨x1, x2, x3⟩ := hy; go_simp) ?_
        try simp only [Act.put]
        refine Held.take (i := 8) (.slice x.A x.n x.c) rfl hS (by kernel_rfl) (by kernel_rfl) (by kernel_rfl) (by kernel_rfl) (fun _ _ _ h => h) rfl (fun y hy => by obtain ⟨x1, x2, x3⟩ := hy; go_simp) ?_
        try simp only [Act.put]
        refine Held.take (i := 9) (.pointer (some ⟨w.heap.size, 0, none⟩)) rfl hS (by kernel_rfl) (by kernel_rfl) (by kernel_rfl) (by kernel_rfl) (fun _ _ _ h => h) rfl (fun y hy => by obtain ⟨x1, x2, x3⟩ := hy; go_simp) ?_
        try simp only [Act.put]
        refine Held.take (i := 10) (.slice k.A k.n k.c) rfl hS (by kernel_rfl) (by kernel_rfl) (by kernel_rfl) (by kernel_rfl) (fun _ _ _ h => h) rfl (fun y hy => by obtain ⟨x1, x2, x3⟩ := hy; go_simp) ?_
        try simp only [Act.put]
        refine Held.two (i := 11) (j := 13) rfl rfl (by kernel_rfl) rfl rfl (fun K hK => ?_) (fun K hK => ?_)
        · unfold Oper.wp
          go_simp
          refine (HKY.out X1 hG).mono ?_
          rintro e X2 ⟨Ag, cg, rfl, hrg, hB2⟩
          have hG2 := bstep hG hB2
          have hS2 : X2.cell? ⟨b, off + m * 2, none⟩ = some (.slice x.A x.n x.c) ∧ X2.cell? ⟨b, off + m * 2 + 1, none⟩ = some (.int .i64 x.m) ∧ X2.cell? ⟨w.heap.size, 0, none⟩ = some (.slice k.A k.n k.c) := ⟨(hB2.cell (World.block_lt_of_cell? _ _ hS.1)).trans hS.1, (hB2.cell (World.block_lt_of_cell? _ _ hS.2.1)).trans hS.2.1, (hB2.cell (World.block_lt_of_cell? _ _ hS.2.2)).trans hS.2.2⟩
          refine hK _ _ (fun _ => hS2) ?_
          try simp only [Act.put]
          have hS := hS2
          clear hK K hS2 hB2 hG
          refine Held.take (i := 12) (.agg #[.slice x.A x.n x.c, .int .i64 x.m, .slice Ag k.n cg, .int .i64 0]) rfl hS (by kernel_rfl) (by kernel_rfl) (by kernel_rfl) (by kernel_rfl) (fun _ _ _ h => h) rfl (fun y hy => by obtain ⟨x1, x2, x3⟩ := hy; go_simp) ?_
          try simp only [Act.put]
          refine Held.one (i := 13) rfl (by kernel_rfl) rfl (fun K hK => ?_)
          have hBa := below_val (w := X2) #[.slice none 0 0, .int .i64 0, .slice none 0 0, .int .i64 0] 97
          have HS3 := hide (show (X2.alloc (.cells #[.slice none 0 0, .int .i64 0, .slice none 0 0, .int .i64 0] 97)).cell? ⟨b, off + m * 2, none⟩ = some (.slice x.A x.n x.c) ∧ (X2.alloc (.cells #[.slice none 0 0, .int .i64 0, .slice none 0 0, .int .i64 0] 97)).cell? ⟨b, off + m * 2 + 1, none⟩ = some (.int .i64 x.m) ∧ (X2.alloc (.cells #[.slice none 0 0, .int .i64 0, .slice none 0 0, .int .i64 0] 97)).cell? ⟨w.heap.size, 0, none⟩ = some (.slice k.A k.n k.c) from ⟨(hBa.cell (World.block_lt_of_cell? _ _ hS.1)).trans hS.1, (hBa.cell (World.block_lt_of_cell? _ _ hS.2.1)).trans hS.2.1, (hBa.cell (World.block_lt_of_cell? _ _ hS.2.2)).trans hS.2.2⟩)
          unfold Oper.wp
          go_simp
          refine hK _ _ (fun _ => HS3.out) ?_
          try simp only [Act.put]
          clear hK K hBa
          refine Held.one (i := 14) rfl (by kernel_rfl) rfl (fun K hK => ?_)
          unfold Oper.wp
          go_simp
          have M1 := Blk.new X2 97 #[.slice x.A x.n x.c, .int .i64 x.m, .slice Ag k.n cg, .int .i64 0]
          have M2 := bstep hG2 (below_val (w := X2) #[.slice x.A x.n x.c, .int .i64 x.m, .slice Ag k.n cg, .int .i64 0] 97)
          have M3 := hrg w.heap.size
          refine hK _ _ (fun _ => ?_) ?_
          · exact ⟨((below_val (w := X2) #[.slice x.A x.n x.c, .int .i64 x.m, .slice Ag k.n cg, .int .i64 0] 97).cell (World.block_lt_of_cell? _ _ hS.1)).trans hS.1, ((below_val (w := X2) #[.slice x.A x.n x.c, .int .i64 x.m, .slice Ag k.n cg, .int .i64 0] 97).cell (World.block_lt_of_cell? _ _ hS.2.1)).trans hS.2.1, ((below_val (w := X2) #[.slice x.A x.n x.c, .int .i64 x.m, .slice Ag k.n cg, .int .i64 0] 97).cell (World.block_lt_of_cell? _ _ hS.2.2)).trans hS.2.2⟩
          try simp only [Act.put]
          clear hK K HS3
          refine Held.done (by kernel_rfl) ?_
          go_wp2_with fail
          go_meet
          case rel => exact ⟨_, _, _, rfl, M1, M2, M3.below (below_val _ _)⟩
        · unfold Oper.wp
          go_simp
          have hBa := below_val (w := X1) #[.slice none 0 0, .int .i64 0, .slice none 0 0, .int .i64 0] 97
          have kz := Blk.new X1 97 #[.slice none 0 0, .int .i64 0, .slice none 0 0, .int .i64 0]
          have hG1 := bstep hG hBa
          have hSa : (X1.alloc (.cells #[.slice none 0 0, .int .i64 0, .slice none 0 0, .int .i64 0] 97)).cell? ⟨b, off + m * 2, none⟩ = some (.slice x.A x.n x.c) ∧ (X1.alloc (.cells #[.slice none 0 0, .int .i64 0, .slice none 0 0, .int .i64 0] 97)).cell? ⟨b, off + m * 2 + 1, none⟩ = some (.int .i64 x.m) ∧ (X1.alloc (.cells #[.slice none 0 0, .int .i64 0, .slice none 0 0, .int .i64 0] 97)).cell? ⟨w.heap.size, 0, none⟩ = some (.slice k.A k.n k.c) := ⟨(hBa.cell (World.block_lt_of_cell? _ _ hS.1)).trans hS.1, (hBa.cell (World.block_lt_of_cell? _ _ hS.2.1)).trans hS.2.1, (hBa.cell (World.block_lt_of_cell? _ _ hS.2.2)).trans hS.2.2⟩
          refine hK _ _ (fun _ => hSa) ?_
          try simp only [Act.put]
          clear hK K
          obtain ⟨Xa, hXa⟩ : ∃ Xa, X1.alloc (.cells #[.slice none 0 0, .int .i64 0, .slice none 0 0, .int .i64 0] 97) = Xa := ⟨_, rfl⟩
          obtain ⟨zb, hzb⟩ : ∃ zb, X1.heap.size = zb := ⟨_, rfl⟩
          have hzw : wr.heap.size ≤ zb := by rw [← hzb]; exact hG.size
          rw [hXa, hzb] at kz
          rw [hXa] at hG1 hSa
          rw [hXa, hzb]
          clear hXa hBa hG hS hzb
          refine Held.one (i := 11) rfl (by kernel_rfl) rfl (fun K hK => ?_)
          unfold Oper.wp
          go_simp
          refine (HKY.out Xa hG1).mono ?_
          rintro e X2 ⟨Ag, cg, rfl, hrg, hB2⟩
          have hG2 := bstep hG1 hB2
          have kz2 := kz.below hB2 kz.lt
          have hS2 : X2.cell? ⟨b, off + m * 2, none⟩ = some (.slice x.A x.n x.c) ∧ X2.cell? ⟨b, off + m * 2 + 1, none⟩ = some (.int .i64 x.m) ∧ X2.cell? ⟨w.heap.size, 0, none⟩ = some (.slice k.A k.n k.c) := ⟨(hB2.cell (World.block_lt_of_cell? _ _ hSa.1)).trans hSa.1, (hB2.cell (World.block_lt_of_cell? _ _ hSa.2.1)).trans hSa.2.1, (hB2.cell (World.block_lt_of_cell? _ _ hSa.2.2)).trans hSa.2.2⟩
          refine hK _ _ (fun _ => hS2) ?_
          try simp only [Act.put]
          have hS := hS2
          clear hK K hS2 hB2 hG1 hSa kz
          refine Held.take (i := 12) (.agg #[.slice x.A x.n x.c, .int .i64 x.m, .slice Ag k.n cg, .int .i64 0]) rfl hS (by kernel_rfl) (by kernel_rfl) (by kernel_rfl) (by kernel_rfl) (fun _ _ _ h => h) rfl (fun y hy => by obtain ⟨x1, x2, x3⟩ := hy; go_simp) ?_
          try simp only [Act.put]
          refine Held.one (i := 14) rfl (by kernel_rfl) rfl (fun K hK => ?_)
          have z0 := kz2.cell 0
          have z1 := kz2.cell 1
          have z2 := kz2.cell 2
          have z3 := kz2.cell 3
          have y0 := kz2.frozen 0
          have y1 := kz2.frozen 1
          have y2 := kz2.frozen 2
          have y3 := kz2.frozen 3
          simp at z0 z1 z2 z3
          unfold Oper.wp
          go_simp
          obtain ⟨M1, M2, M3⟩ := line_set (a := .slice x.A x.n x.c) (b := .int .i64 x.m) (c := .slice Ag k.n cg) (d := .int .i64 0) kz2
          have M2 := M2 _ _ hG2 hzw
          have M3 := M3 w.heap.size Ag k.n (gk s x.r) (by omega) (hrg w.heap.size)
          obtain ⟨Y, hY⟩ : ∃ Y, (((X2.setCell ⟨zb, 0, none⟩ (.slice x.A x.n x.c)).setCell ⟨zb, 1, none⟩ (.int .i64 x.m)).setCell ⟨zb, 2, none⟩ (.slice Ag k.n cg)).setCell ⟨zb, 3, none⟩ (.int .i64 0) = Y := ⟨_, rfl⟩
          have hne : ∀ (q : Addr), q.block < zb → Y.cell? q = X2.cell? q := fun q hq => by
            rw [← hY, World.cell?_setCell_other _ _ _ _ (fun e => by subst e; exact Nat.lt_irrefl _ hq), World.cell?_setCell_other _ _ _ _ (fun e => by subst e; exact Nat.lt_irrefl _ hq), World.cell?_setCell_other _ _ _ _ (fun e => by subst e; exact Nat.lt_irrefl _ hq), World.cell?_setCell_other _ _ _ _ (fun e => by subst e; exact Nat.lt_irrefl _ hq)]
          rw [hY] at M1 M2 M3 ⊢
          refine hK _ _ (fun _ => ?_) ?_
          · exact ⟨(hne _ (by show b < zb; omega)).trans hS.1, (hne _ (by show b < zb; omega)).trans hS.2.1, (hne _ (by show w.heap.size < zb; omega)).trans hS.2.2⟩
          try simp only [Act.put]
          clear hK K hY hne z0 z1 z2 z3 y0 y1 y2 y3 hG2 kz2
          refine Held.done (by kernel_rfl) ?_
          go_wp2_with fail
          go_meet
          case rel => exact ⟨_, _, _, rfl, M1, M2, M3⟩
      case rest =>
        obtain ⟨xb, Ag, cg, rfl, kx, hBx, hrg⟩ := hcut
        have hI := HI0.out.below hBx
        have hrowx := HROW.out.below hBx
        obtain ⟨hbel, hbox, ⟨l', h1, h2, h3⟩⟩ := hI
        have hlm : l'.length = m := by rw [← HDL.out, ← h2, List.length_map]
        rw [hlm] at h1
        obtain ⟨A2, c2, rfl, hR⟩ := own_form h1
        have hcap := own_capC h1
        have HLM := hide hlm
        have H2 := hide h2
        have HKS := hide (fun (X : World) (hX : Below wc.heap.size wc X) => hs.up (hbel.trans (hX.mono hbel.size)))
        obtain ⟨wy, hwy⟩ : ∃ wy : World, wy = wc := ⟨_, rfl⟩
        subst hwy
        clear HI0 HROW HKY h1 c0 c1 e0 hlm
        go_upto_region 6 with fail
        iterate 14 (first | go_values | go_skip | go_guarded | go_step | go_upon | go_back)
        go_cut [8] from 12 to 80 (fun s8 wx => ∃ j : Nat, s8 = .int .i64 (j : Int) ∧ j ≤ m ∧ atL s (x.r, x.m) D D.length = j ∧ Below wy.heap.size wy wx)
        case first =>
          go_wp2_with fail
          go_loopw [8, 9] (fun i _ wz => ∃ j : Nat, j ≤ m ∧ i = .int .i64 (j : Int) ∧ atL s (x.r, x.m) D D.length = atL s (x.r, x.m) D j ∧ Below wy.heap.size wy wz) (fun i _ _ => (intOf i).toNat)
          case atStart => exact ⟨m, Nat.le_refl _, rfl, by rw [HDL.out], Below.refl _ _⟩
          case round =>
            obtain ⟨j, hj, rfl, hat, hBr⟩ := hrel
            have HAT := hide hat
            clear hat
            by_cases hj0 : j = 0
            · have z : ¬ ((0 : Int) < (j : Int)) := by omega
              have HX := hide (show atL s (x.r, x.m) D D.length = j by rw [HAT.out, hj0]; rfl)
              clear hj0
              go_wp2_with fail
              go_meet
              case rel => exact ⟨j, rfl, hj, HX.out, hBr⟩
            · obtain ⟨t, rfl⟩ : ∃ t, j = t + 1 := ⟨j - 1, by omega⟩
              clear hj0
              obtain ⟨bq, oq, y, rfl, hbl0, hyl, hcq⟩ := (hR.below hBr).elem encLn_len HLM.out (show t < m by omega)
              have hbl := Nat.lt_of_lt_of_le hbl0 hBr.size
              have hyd : D[t]? = some (y.i.r, y.i.m) := by rw [← H2.out, List.getElem?_map, hyl]; rfl
              have HYD := hide hyd
              have HYB := hide (HBY.out _ (HMD.out _ (List.mem_of_getElem? hyd)))
              have hyk := h3 y (List.mem_of_getElem? hyl)
              have HYK1 := hide (hyk.1.below hBr)
              have HYK2 := hide (hyk.2.below hBr)
              have HXK1 := hide (hrowx.below hBr)
              have HXK2 := hide (hrg.below hBr)
              have r0 : wr.cell? ⟨bq, oq + t * 4, none⟩ = some (.slice y.i.A y.i.n y.i.c) := by simpa using hcq 0 _ rfl
              have r2 : wr.cell? ⟨bq, oq + t * 4 + 2, none⟩ = some (.slice y.A y.n y.c) := by simpa [← Nat.add_assoc] using hcq 2 _ rfl
              have kxr := kx.below hBr kx.lt
              have b0 := kxr.cell 0
              have b2 := kxr.cell 2
              simp at b0 b2
              have hboxr := hbox.below hBr
              have HCELL := hide (show ∀ X : World, Below wr.heap.size wr X → X.cell? ⟨bq, oq + t * 4, none⟩ = some (.slice y.i.A y.i.n y.i.c) ∧ X.cell? ⟨xb, 0, none⟩ = some (.slice x.A x.n x.c) ∧ BoxS X w.heap.size k s from fun X hX => ⟨(hX.cell hbl).trans r0, (hX.cell (World.block_lt_of_cell? _ _ b0)).trans b0, hboxr.below hX⟩)
              have p2 := fun (p : BW wr) => BW.cell (a := ⟨bq, oq + t * 4 + 2, none⟩) hbl r2 p
              have p4 := fun (p : BW wr) => BW.cell (a := ⟨xb, 2, none⟩) kxr.lt b2 p
              have w1 : IntKind.i64.wrap ((t : Int) + 1 - 1) = (t : Int) := by rw [IntKind.wrap_i64]; omega
              have w2 : IntKind.i64.wrap (((t + 1 : Nat) : Int) - 1) = (t : Int) := by rw [IntKind.wrap_i64]; omega
              have q3 : (0 : Int) ≤ (t : Int) := by omega
              have q4 : (t : Int) < (m : Int) := by omega
              have q5 : (0 : Int) < (t : Int) + 1 := by omega
              have HC1 := hide (fun (p : BW wr) => calls_bw (p := p) (R2Compare_any y.A y.n y.c (gk s y.i.r) Ag k.n cg (gk s x.r) p.x (HYK2.out.below p.h).rd (HXK2.out.below p.h).rd HYK2.out.le))
              have HXC := hide hboxr
              obtain ⟨cc, hcc⟩ : ∃ cc, cmpR (gk s y.i.r) (gk s x.r) = cc := ⟨_, rfl⟩
              have HNG := hide (show (lnC s (x.r, x.m) (y.i.r, y.i.m) < 0) ↔ (0 < cc ∨ (cc = 0 ∧ aheadB s x.r y.i.r = true)) by rw [← hcc]; exact lnC_neg HBX.out HYB.out)
              rw [hcc] at HC1
              clear hcq hyl hyd hyk hcc r0 r2 kxr b0 b2 hboxr
              go_wp2_with fail
              (refine wp_region_quiet_bw (by kernel_rfl) (by kernel_rfl) ?_
               repeat (first | go_big_quiet_step (((go_at_call 26; exact HC1.out _))) | quiet_step (((go_at_call 26; exact HC1.out _))))
               refine wpQuiet_nil ?_
               intro wq hw'
               obtain ⟨⟨_, hbq⟩, hw''⟩ := hw'
               subst hw'')
              obtain ⟨wv, hwv⟩ : ∃ wv : World, wv = wq := ⟨_, rfl⟩
              subst hwv
              obtain ⟨r0, b0, hbx⟩ := HCELL.out wv hbq
              have hB2 := bstep hBr hbq
              have HYV := hide (HYK1.out.below hbq)
              have HXV := hide (HXK1.out.below hbq)
              clear HCELL p2 p4 HC1 HYK1 HYK2 HXK1 HXK2 HXC
              have p0 := fun (p : BW wv) => BW.cell (a := ⟨bq, oq + t * 4, none⟩) (World.block_lt_of_cell? _ _ r0) r0 p
              have p3 := fun (p : BW wv) => BW.cell (a := ⟨xb, 0, none⟩) (World.block_lt_of_cell? _ _ b0) b0 p
              have g0 := fun (p : BW wv) => BW.cell (a := ⟨w.heap.size, 0, none⟩) hbx.lt hbx.c0 p
              have g1 := fun (p : BW wv) => BW.cell (a := ⟨w.heap.size, 1, none⟩) hbx.lt hbx.c1 p
              have g2 := fun (p : BW wv) => BW.cell (a := ⟨w.heap.size, 2, none⟩) hbx.lt hbx.c2 p
              have g3 := fun (p : BW wv) => BW.cell (a := ⟨w.heap.size, 3, none⟩) hbx.lt hbx.c3 p
              have HAH := hide (fun (p : BW wv) => calls_bw (p := p) (ahead_any k s x.A x.n x.c x.r y.i.A y.i.n y.i.c y.i.r p.x (HKS.out p.x (hB2.trans (p.h.mono hB2.size))) (HXV.out.below p.h).rd (HYV.out.below p.h).rd HXV.out.le HYV.out.le HBX.out HYB.out))
              unfold Sk.v at HAH
              obtain ⟨ab, hab⟩ : ∃ ab, aheadB s x.r y.i.r = ab := ⟨_, rfl⟩
              rw [hab] at HAH HNG
              clear hbq hab r0 b0 hbx HYV HXV hBr
              rcases Int.lt_trichotomy cc 0 with c1 | c1 | c1
              · have d1 : decide (cc < 0) = true := decide_eq_true c1
                go_wp2_with fail
                (refine wp_region_quiet_bw (by kernel_rfl) (by kernel_rfl) ?_
                 repeat (first | go_big_quiet_step ((fail)) | quiet_step ((fail)))
                 refine wpQuiet_nil ?_
                 intro wq hw'
                 obtain ⟨⟨_, hbq⟩, hw''⟩ := hw'
                 subst hw'')
                have hB3 := bstep hB2 hbq
                clear hB2 hbq p0 p3 g0 g1 g2 g3 HAH
                have HX := hide (show atL s (x.r, x.m) D D.length = t + 1 from HAT.out.trans (atL_stop HYD.out (fun h => by have := HNG.out.1 h; omega)))
                clear HNG HAT
                go_wp2_with fail
                go_meet
                case rel => exact ⟨t + 1, by first | rfl | go_num, hj, HX.out, hB3⟩
              · have d1 : decide (cc < 0) = false := decide_eq_false (by omega)
                have d2 : (cc == 0) = true := by simpa using c1
                cases ab
                · have z := 0
                  clear z
                  go_wp2_with fail
                  (refine wp_region_quiet_bw (by kernel_rfl) (by kernel_rfl) ?_
                   repeat (first | go_big_quiet_step (((go_at_call 69; exact HAH.out _))) | quiet_step (((go_at_call 69; exact HAH.out _))))
                   refine wpQuiet_nil ?_
                   intro wq hw'
                   obtain ⟨⟨_, hbq⟩, hw''⟩ := hw'
                   subst hw'')
                  have hB3 := bstep hB2 hbq
                  clear hB2 hbq p0 p3 g0 g1 g2 g3 HAH
                  have HX := hide (show atL s (x.r, x.m) D D.length = t + 1 from HAT.out.trans (atL_stop HYD.out (fun h => by have := HNG.out.1 h; rcases this with h | ⟨_, h⟩; omega; cases h)))
                  clear HNG HAT
                  go_wp2_with fail
                  go_meet
                  case rel => exact ⟨t + 1, by first | rfl | go_num, hj, HX.out, hB3⟩
                · have z := 0
                  clear z
                  go_wp2_with fail
                  (refine wp_region_quiet_bw (by kernel_rfl) (by kernel_rfl) ?_
                   repeat (first | go_big_quiet_step (((go_at_call 69; exact HAH.out _))) | quiet_step (((go_at_call 69; exact HAH.out _))))
                   refine wpQuiet_nil ?_
                   intro wq hw'
                   obtain ⟨⟨_, hbq⟩, hw''⟩ := hw'
                   subst hw'')
                  have hB3 := bstep hB2 hbq
                  clear hB2 hbq p0 p3 g0 g1 g2 g3 HAH
                  have HX := hide (show atL s (x.r, x.m) D D.length = atL s (x.r, x.m) D t from HAT.out.trans (atL_go HYD.out (HNG.out.2 (.inr ⟨c1, by first | rfl | trivial⟩))))
                  clear HNG HAT
                  go_wp2_with fail
                  go_roundw
                  case rel => exact ⟨t, by omega, by go_num, HX.out, hB3⟩
                  case measure => first | (simp [intOf]; done) | (simp [intOf]; omega)
              · have d1 : decide (cc < 0) = false := decide_eq_false (by omega)
                have d2 : (cc == 0) = false := by simp; omega
                go_wp2_with fail
                (refine wp_region_quiet_bw (by kernel_rfl) (by kernel_rfl) ?_
                 repeat (first | go_big_quiet_step ((fail)) | quiet_step ((fail)))
                 refine wpQuiet_nil ?_
                 intro wq hw'
                 obtain ⟨⟨_, hbq⟩, hw''⟩ := hw'
                 subst hw'')
                have hB3 := bstep hB2 hbq
                clear hB2 hbq p0 p3 g0 g1 g2 g3 HAH
                have HX := hide (show atL s (x.r, x.m) D D.length = atL s (x.r, x.m) D t from HAT.out.trans (atL_go HYD.out (HNG.out.2 (.inl c1))))
                clear HNG HAT
                go_wp2_with fail
                go_roundw
                case rel => exact ⟨t, by omega, by go_num, HX.out, hB3⟩
                case measure => first | (simp [intOf]; done) | (simp [intOf]; omega)
        case rest =>
          obtain ⟨j, rfl, hjm, hat, hBz⟩ := hcut
          have HAT := hide hat
          have hR3 := (hR.below hBz).more hBz.size
          have kx3 := kx.below hBz kx.lt
          have b0 := kx3.cell 0
          have b1 := kx3.cell 1
          have b2 := kx3.cell 2
          have b3 := kx3.cell 3
          simp at b0 b1 b2 b3
          have hsl1 := take_runL A2 m c2 j hjm hcap
          have hsl2 := drop_runL A2 m c2 j hjm hcap
          have hlit := own_lit wc 97 4 0 #[] rfl (by unfold maxLen; omega) (Nat.le_refl wc.heap.size)
          have hBa := below_val (w := wc) #[] 97
          have hrdA := (hR3.takeL hjm).below hBa
          have hrdB := hR3.dropL hjm hcap
          have hxl := kx3.lt
          have hszc : w.heap.size + 1 ≤ wc.heap.size := by have := hBz.size; have := hbox.lt; omega
          have hbelc := bstep hbel hBz
          have hboxc := hbox.below hBz
          have hkc := h3.below hBz
          have hxc1 := hrowx.below hBz
          have hxc2 := hrg.below hBz
          have HLEN := hide (show (j + 1) + (m - j) = (l'.take j ++ [(⟨x, Ag, k.n, cg, 0⟩ : Ln)] ++ l'.drop j).length by simp [HLM.out]; omega)
          obtain ⟨LT, hLT⟩ : ∃ LT, (l'.take j).flatMap encLn = LT := ⟨_, rfl⟩
          obtain ⟨LD, hLD⟩ : ∃ LD, (l'.drop j).flatMap encLn = LD := ⟨_, rfl⟩
          have one1 : ∀ u ∈ LT, u.oneCell' = true := by rw [← hLT]; exact one_encLns _
          have one2 : ∀ u ∈ LD, u.oneCell' = true := by rw [← hLD]; exact one_encLns _
          rw [hLT] at hrdA
          rw [hLD] at hrdB
          have HINS := hide (show ∀ (v3 : Value) (X3 : World), Below wc.heap.size wc X3 → X3.ownsRow wc.heap.size 97 4 v3 ((j + 1) + (m - j)) (LT ++ encLn ⟨x, Ag, k.n, cg, 0⟩ ++ LD) → LnI w s k (lnsB s ((dat l).take (m + 1))) v3 X3 from fun v3 X3 hB3 ho => by
            rw [HSN.out]
            exact LnI.ins ⟨x, Ag, k.n, cg, 0⟩ hbelc hboxc hkc H2.out hxc1 hxc2 HAT.out hszc hB3 (by rw [hLT, hLD]; exact ho) HLEN.out)
          have q3 : (0 : Int) ≤ (j : Int) := by omega
          have q4 : (j : Int) ≤ (m : Int) := by omega
          clear hbel hBz hR hR3 kx hbox h3 hrowx hrg hbelc hboxc hkc hxc1 hxc2 hLT hLD hat kx3
          have HRD2 := hide (show ∀ X1 : World, Reads (X1.alloc (.cells #[.slice x.A x.n x.c, .int .i64 x.m, .slice Ag k.n cg, .int .i64 0] 97)) (X1.heap.size + 1) 4 (some ⟨X1.heap.size, 0, none⟩) 1 (encLn ⟨x, Ag, k.n, cg, 0⟩) from fun X1 =>
            ⟨rfl, fun _ => ⟨X1.heap.size, 0, rfl, by omega, fun i u hu => by
              have := (Blk.new X1 97 #[.slice x.A x.n x.c, .int .i64 x.m, .slice Ag k.n cg, .int .i64 0]).cell i
              rw [Nat.zero_add, this]; simpa [encLn] using hu⟩⟩)
          go_wp2_with (first | (at_builtin; refine wpList_append_any _ rfl _ _ 94 rfl wc.heap.size 97 i0 _ 4 64 Tryz.underlying94 hi hz0 hz1 hz2 rfl (by decide) (.slice (some ⟨wc.heap.size, 0, none⟩) 0 0) 0 [] rfl hlit wc.heap.size A2 j c2 LT rfl hrdA one1 (by unfold maxLen; omega) (by omega) (by simp) ?_; intro v1 X1 own1 grow1 _; rw [Nat.zero_add, List.nil_append] at own1; have hB1 := below_append hBa hlit (by simp) grow1; have e0 := (hB1.cell (p := ⟨xb, 0, none⟩) hxl).trans b0; have e1 := (hB1.cell (p := ⟨xb, 1, none⟩) hxl).trans b1; have e2 := (hB1.cell (p := ⟨xb, 2, none⟩) hxl).trans b2; have e3 := (hB1.cell (p := ⟨xb, 3, none⟩) hxl).trans b3; have own1a := own1.alloc (.cells #[.slice x.A x.n x.c, .int .i64 x.m, .slice Ag k.n cg, .int .i64 0] 97); have hB1a := hB1.alloc hB1.size (.cells #[.slice x.A x.n x.c, .int .i64 x.m, .slice Ag k.n cg, .int .i64 0] 97); have hrd2 := HRD2.out X1; have hsz1 := hB1a.size) | (at_builtin; refine wpList_append_any _ rfl _ _ 94 rfl wc.heap.size 97 i0 _ 4 64 Tryz.underlying94 hi hz0 hz1 hz2 rfl (by decide) v1 j LT rfl own1a (X1.heap.size + 1) (some ⟨X1.heap.size, 0, none⟩) 1 1 (encLn ⟨x, Ag, k.n, cg, 0⟩) rfl hrd2 (one_encLn _) (by unfold maxLen; omega) (by omega) hsz1 ?_; intro v2 X2 own2 grow2 _; have hB2 := below_append hB1a own1a hsz1 grow2; have hrd3 := hrdB.below hB2; have hsz2 := hB2.size) | (at_builtin; refine wpList_append_any _ rfl _ _ 94 rfl wc.heap.size 97 i0 _ 4 64 Tryz.underlying94 hi hz0 hz1 hz2 rfl (by decide) v2 (j + 1) _ rfl own2 wc.heap.size (dropA A2 j c2) (m - j) (c2 - j) LD rfl hrd3 one2 (by unfold maxLen; omega) (by omega) hsz2 ?_; intro v3 X3 own3 grow3 _; have hB3 := below_append hB2 own2 hsz2 grow3))
          have HEND := hide (HINS.out v3 X3 hB3 own3)
          clear HINS own3 hB3 grow3
          go_roundw
          case rel => exact ⟨m + 1, v3, by omega, by go_num, rfl, HEND.out⟩
          case measure => simp [intOf]; omega
    · obtain rfl : m = n := by omega
      have hta : (dat l).take m = dat l := List.take_of_length_le (by rw [HL.out, HLN.out]; exact Nat.le_refl _)
      rw [hta] at hI
      obtain ⟨hbel, hbox, ⟨l0, h1, h2, h3⟩⟩ := hI
      have hl0 : l0.length = m := by
        have := congrArg List.length h2
        rw [List.length_map, lns_len, HL.out, HLN.out] at this
        exact this
      rw [hl0] at h1
      obtain ⟨A2, c2, rfl, hR⟩ := own_form h1
      have hJ0 : LnF w s (dat l) 0 l0 (.slice A2 m c2) wr := ⟨hbel, by rw [hl0]; exact h1, h3, h2, fun j y t hj => absurd hj (by omega)⟩
      have HBND := hide (lnF_bound (s := s) (b := dat l) HM.out)
      have HL0 := hide hl0
      clear hbel hbox h1 h2 h3 hR hta hl0
      go_wp2_with fail
      go_loopw [11] (fun i wz => ∃ (q : Nat) (ls : List Ln), q ≤ m ∧ i = .int .i64 q ∧ ls.length = m ∧ LnF w s (dat l) q ls (.slice A2 m c2) wz) (fun i _ => m - (intOf i).toNat)
      case atStart => exact ⟨0, l0, Nat.zero_le _, rfl, HL0.out, hJ0⟩
      case round =>
        clear hJ0
        obtain ⟨q, ls, hq, rfl, hlen, hJ⟩ := hrel
        have HLEN := hide hlen
        by_cases hlq : q < m
        · obtain ⟨y, hy⟩ : ∃ y, ls[q]? = some y := ⟨_, List.getElem?_eq_getElem (by omega)⟩
          have how := hJ.ow
          rw [hlen] at how
          obtain ⟨g, cap, hv, _, hglt⟩ := how.form (by omega)
          injection hv with e1 e2 e3
          subst e1 e3
          obtain ⟨t, ht, hte⟩ := hJ.at_ hy
          have hfr := World.ownsRow.frozenAt how (q * 4 + 3)
          have hc3 : wr.cell? ⟨g, q * 4 + 3, none⟩ = some (.int .i64 y.f) := by
            have := how.cells (g := g) rfl (q * 4 + 3) (.int .i64 y.f) (by rw [flat_get encLn_len ls q 3 y hy (by omega)]; rfl)
            rw [add_plain, Nat.zero_add] at this
            exact this
          have hJ1 := hJ.store HLEN.out hy (Nat.le_refl q) 1
          have hy1 : (ls.set q { y with f := 1 })[q]? = some { y with f := 1 } := by rw [List.getElem?_set, if_pos rfl, if_pos (by omega)]
          have HY1 := hide hy1
          have HTT := hide ht
          have q1 : (0 : Int) ≤ (q : Int) := by omega
          have q2 : (q : Int) < (m : Int) := by omega
          have HJ := hide hJ
          have HYY := hide hy
          have HTE := hide hte
          clear how hlen hy1 hJ hy ht hte
          go_upto_region 18 with fail
          obtain ⟨W1, hW1⟩ : ∃ W1, wr.setCell ⟨g, q * 4 + 3, none⟩ (.int .i64 1) = W1 := ⟨_, rfl⟩
          rw [hW1] at hJ1 ⊢
          clear hW1 hfr hc3
          by_cases hq0 : q = 0
          · have z : decide ((0 : Int) < (q : Int)) = false := by simp; omega
            have z2 : decide (0 < q) = false := by simp; omega
            have HT2 := hide (show (1 : Int) = t.2 from (lnF_zero (by rw [← hq0]; exact HTT.out)).symm)
            clear hq0
            go_wp2_with fail
            (refine wp_region_quiet_bw (by kernel_rfl) (by kernel_rfl) ?_
             repeat (first | go_big_quiet_step ((fail)) | quiet_step ((fail)))
             refine wpQuiet_nil ?_
             intro wq hw'
             obtain ⟨⟨_, hbq⟩, hw''⟩ := hw'
             subst hw'')
            have HN := hide ((hJ1.below hbq).next HY1.out HTT.out HT2.out)
            clear hJ1 hbq
            go_wp2_with fail
            go_roundw
            case rel => exact ⟨q + 1, _, by omega, by go_num, by rw [List.length_set]; exact HLEN.out, HN.out⟩
            case measure => simp [intOf]; omega
          · obtain ⟨p, hp⟩ : ∃ p, q = p + 1 := ⟨q - 1, by omega⟩
            obtain ⟨yp, hyp⟩ : ∃ yp, ls[p]? = some yp := ⟨_, List.getElem?_eq_getElem (by have := HLEN.out; omega)⟩
            have hyp1 : (ls.set q { y with f := 1 })[p]? = some yp := by rw [List.getElem?_set, if_neg (by omega)]; exact hyp
            obtain ⟨tp, htp, hpe⟩ := HJ.out.at_ hyp
            have hpf : yp.f = tp.2 := HJ.out.fs p yp tp (by omega) hyp htp
            have hb1 := HBND.out p tp htp
            have hb2 := HM.out (yp.i.r, yp.i.m) ((lns_all s (dat l)).1.mem_iff.1 (by rw [← HJ.out.dt]; exact List.mem_map.2 ⟨yp, List.mem_of_getElem? hyp, rfl⟩))
            have HTP := hide (show t.2 = if cmpR (gk s yp.i.r) (gk s y.i.r) = 0 then yp.f + yp.i.m else 1 by
              have := lnF_succ htp (by rw [← hp]; exact HTT.out)
              rw [hpe, HTE.out, ← hpf] at this
              exact this)
            simp only at hb2
            rw [← hpf] at hb1
            have how1 := hJ1.ow
            have HCEL := hide (show ∀ (X : World), Below W1.heap.size W1 X → ∀ (j i : Nat) (z : Ln) (u : Value), (ls.set q { y with f := 1 })[j]? = some z → i < 4 → (encLn z)[i]? = some u → X.cell? ⟨g, j * 4 + i, none⟩ = some u from fun X hX j i z u hz hi hu => by
              have h1 := (hJ1.below hX).ow.cells (g := g) rfl (j * 4 + i) u (by rw [flat_get encLn_len _ j i z hz hi]; exact hu)
              rw [add_plain, Nat.zero_add] at h1
              exact h1)
            have r2 := HCEL.out W1 (Below.refl _ _) p 2 yp (.slice yp.A yp.n yp.c) hyp1 (by omega) rfl
            have s2 := HCEL.out W1 (Below.refl _ _) q 2 _ (.slice y.A y.n y.c) HY1.out (by omega) rfl
            have hg1 : g < W1.heap.size := World.block_lt_of_cell? _ _ r2
            have kp := hJ1.kk yp (List.mem_of_getElem? hyp1)
            have kq := hJ1.kk _ (List.mem_of_getElem? HY1.out)
            have HC1 := hide (fun (z : BW W1) => calls_bw (p := z) (R2Compare_any yp.A yp.n yp.c (gk s yp.i.r) y.A y.n y.c (gk s y.i.r) z.x (kp.2.below z.h).rd (kq.2.below z.h).rd kp.2.le))
            have p2 := fun (z : BW W1) => BW.cell (a := ⟨g, p * 4 + 2, none⟩) hg1 r2 z
            have p4 := fun (z : BW W1) => BW.cell (a := ⟨g, q * 4 + 2, none⟩) hg1 s2 z
            obtain ⟨cc, hcc⟩ : ∃ cc, cmpR (gk s yp.i.r) (gk s y.i.r) = cc := ⟨_, rfl⟩
            rw [hcc] at HC1 HTP
            have HYP1 := hide hyp1
            have w1 : IntKind.i64.wrap ((q : Int) - 1) = (p : Int) := by rw [IntKind.wrap_i64]; omega
            have q3 : (0 : Int) ≤ (p : Int) := by omega
            have q4 : (p : Int) < (m : Int) := by omega
            have q5 : (0 : Int) < (q : Int) := by omega
            have q6 : 0 < q := by omega
            have w3 : IntKind.i64.wrap (yp.f + yp.i.m) = yp.f + yp.i.m := by rw [IntKind.wrap_i64]; omega
            clear hcc hyp hyp1 htp hpe hpf hb1 hb2 how1 r2 s2 kp kq hp hq0
            go_wp2_with fail
            (refine wp_region_quiet_bw (by kernel_rfl) (by kernel_rfl) ?_
             repeat (first | go_big_quiet_step (((go_at_call 26; exact HC1.out _))) | quiet_step (((go_at_call 26; exact HC1.out _))))
             refine wpQuiet_nil ?_
             intro wq hw'
             obtain ⟨⟨_, hbq⟩, hw''⟩ := hw'
             subst hw'')
            have hJ2 := hJ1.below hbq
            obtain ⟨W2, hW2⟩ : ∃ W2 : World, W2 = wq := ⟨_, rfl⟩
            subst hW2
            by_cases hc0 : cc = 0
            · have d : (cc == 0) = true := by simpa using hc0
              have HE := hide (show yp.f + yp.i.m = t.2 by rw [HTP.out, if_pos hc0])
              have rf := HCEL.out W2 hbq p 3 yp (.int .i64 yp.f) HYP1.out (by omega) rfl
              have rm := HCEL.out W2 hbq p 1 yp (.int .i64 yp.i.m) HYP1.out (by omega) rfl
              have r3 := HCEL.out W2 hbq q 3 _ (.int .i64 1) HY1.out (by omega) rfl
              clear hJ1 hbq p2 p4 HC1 HCEL hc0
              go_wp2_with fail
              refine Held.begin (fun z => z.cell? ⟨g, p * 4 + 3, none⟩ = some (.int .i64 yp.f) ∧ z.cell? ⟨g, p * 4 + 1, none⟩ = some (.int .i64 yp.i.m)) 18 (by kernel_rfl) ?_
              have hJ3 := hJ2.below (Below.refl W2.heap.size W2).drew
              obtain ⟨X1, hX1⟩ : ∃ X1, W2.drew = X1 := ⟨_, rfl⟩
              have hS : X1.cell? ⟨g, p * 4 + 3, none⟩ = some (.int .i64 yp.f) ∧ X1.cell? ⟨g, p * 4 + 1, none⟩ = some (.int .i64 yp.i.m) := by rw [← hX1]; exact ⟨rf, rm⟩
              have r3 : X1.cell? ⟨g, q * 4 + 3, none⟩ = some (.int .i64 1) := by rw [← hX1]; exact r3
              rw [hX1] at hJ3 ⊢
              clear hX1 hJ2 rf rm
              have how3 := hJ3.ow
              rw [List.length_set, HLEN.out] at how3
              have hfr := World.ownsRow.frozenAt how3 (q * 4 + 3)
              refine Held.take (i := 0) (.slice (some ⟨g, 0, none⟩) m c2) rfl hS (by kernel_rfl) (by kernel_rfl) (by kernel_rfl) (by kernel_rfl) (fun _ _ _ h => h) rfl (fun y hy => by obtain ⟨x1, x2⟩ := hy; go_simp) ?_
              try simp only [Act.put]
              refine Held.take (i := 1) (.int .i64 (q : Int)) rfl hS (by kernel_rfl) (by kernel_rfl) (by kernel_rfl) (by kernel_rfl) (fun _ _ _ h => h) rfl (fun y hy => by obtain ⟨x1, x2⟩ := hy; go_simp) ?_
              try simp only [Act.put]
              refine Held.take (i := 2) (.slice (some ⟨g, 0, none⟩) m c2) rfl hS (by kernel_rfl) (by kernel_rfl) (by kernel_rfl) (by kernel_rfl) (fun _ _ _ h => h) rfl (fun y hy => by obtain ⟨x1, x2⟩ := hy; go_simp) ?_
              try simp only [Act.put]
              refine Held.take (i := 3) (.int .i64 (q : Int)) rfl hS (by kernel_rfl) (by kernel_rfl) (by kernel_rfl) (by kernel_rfl) (fun _ _ _ h => h) rfl (fun y hy => by obtain ⟨x1, x2⟩ := hy; go_simp) ?_
              try simp only [Act.put]
              refine Held.take (i := 4) (.int .i64 (p : Int)) rfl hS (by kernel_rfl) (by kernel_rfl) (by kernel_rfl) (by kernel_rfl) (fun _ _ _ h => h) rfl (fun y hy => by obtain ⟨x1, x2⟩ := hy; go_simp) ?_
              try simp only [Act.put]
              refine Held.take (i := 5) (.pointer (some ⟨g, p * 4, none⟩)) rfl hS (by kernel_rfl) (by kernel_rfl) (by kernel_rfl) (by kernel_rfl) (fun _ _ _ h => h) rfl (fun y hy => by obtain ⟨x1, x2⟩ := hy; go_simp) ?_
              try simp only [Act.put]
              refine Held.take (i := 6) (.pointer (some ⟨g, p * 4 + 3, none⟩)) rfl hS (by kernel_rfl) (by kernel_rfl) (by kernel_rfl) (by kernel_rfl) (fun _ _ _ h => h) rfl (fun y hy => by obtain ⟨x1, x2⟩ := hy; go_simp) ?_
              try simp only [Act.put]
              refine Held.take (i := 7) (.int .i64 yp.f) rfl hS (by kernel_rfl) (by kernel_rfl) (by kernel_rfl) (by kernel_rfl) (fun _ _ _ h => h) rfl (fun y hy => by obtain ⟨x1, x2⟩ := hy; go_simp) ?_
              try simp only [Act.put]
              refine Held.take (i := 8) (.slice (some ⟨g, 0, none⟩) m c2) rfl hS (by kernel_rfl) (by kernel_rfl) (by kernel_rfl) (by kernel_rfl) (fun _ _ _ h => h) rfl (fun y hy => by obtain ⟨x1, x2⟩ := hy; go_simp) ?_
              try simp only [Act.put]
              refine Held.take (i := 9) (.int .i64 (q : Int)) rfl hS (by kernel_rfl) (by kernel_rfl) (by kernel_rfl) (by kernel_rfl) (fun _ _ _ h => h) rfl (fun y hy => by obtain ⟨x1, x2⟩ := hy; go_simp) ?_
              try simp only [Act.put]
              refine Held.take (i := 10) (.int .i64 (p : Int)) rfl hS (by kernel_rfl) (by kernel_rfl) (by kernel_rfl) (by kernel_rfl) (fun _ _ _ h => h) rfl (fun y hy => by obtain ⟨x1, x2⟩ := hy; go_simp) ?_
              try simp only [Act.put]
              refine Held.take (i := 11) (.pointer (some ⟨g, p * 4, none⟩)) rfl hS (by kernel_rfl) (by kernel_rfl) (by kernel_rfl) (by kernel_rfl) (fun _ _ _ h => h) rfl (fun y hy => by obtain ⟨x1, x2⟩ := hy; go_simp) ?_
              try simp only [Act.put]
              refine Held.take (i := 12) (.pointer (some ⟨g, p * 4, none⟩)) rfl hS (by kernel_rfl) (by kernel_rfl) (by kernel_rfl) (by kernel_rfl) (fun _ _ _ h => h) rfl (fun y hy => by obtain ⟨x1, x2⟩ := hy; go_simp) ?_
              try simp only [Act.put]
              refine Held.take (i := 13) (.pointer (some ⟨g, p * 4 + 1, none⟩)) rfl hS (by kernel_rfl) (by kernel_rfl) (by kernel_rfl) (by kernel_rfl) (fun _ _ _ h => h) rfl (fun y hy => by obtain ⟨x1, x2⟩ := hy; go_simp) ?_
              try simp only [Act.put]
              refine Held.take (i := 14) (.int .i64 yp.i.m) rfl hS (by kernel_rfl) (by kernel_rfl) (by kernel_rfl) (by kernel_rfl) (fun _ _ _ h => h) rfl (fun y hy => by obtain ⟨x1, x2⟩ := hy; go_simp) ?_
              try simp only [Act.put]
              refine Held.take (i := 15) (.int .i64 (yp.f + yp.i.m)) rfl hS (by kernel_rfl) (by kernel_rfl) (by kernel_rfl) (by kernel_rfl) (fun _ _ _ h => h) rfl (fun y hy => by obtain ⟨x1, x2⟩ := hy; go_simp) ?_
              try simp only [Act.put]
              refine Held.one (i := 16) rfl (by kernel_rfl) rfl (fun K hK => ?_)
              unfold Oper.wp
              go_simp
              refine hK _ _ (fun _ => hS) ?_
              try simp only [Act.put]
              clear hK K
              refine Held.one (i := 17) rfl (by kernel_rfl) rfl (fun K hK => ?_)
              unfold Oper.wp
              go_simp
              refine hK _ _ (fun _ => hS) ?_
              try simp only [Act.put]
              clear hK K
              refine Held.one (i := 18) rfl (by kernel_rfl) rfl (fun K hK => ?_)
              unfold Oper.wp
              go_simp
              refine hK _ _ (fun h => absurd rfl h) ?_
              try simp only [Act.put]
              clear hK K
              refine Held.done (by kernel_rfl) ?_
              have HN := hide ((hJ3.store (by rw [List.length_set]; exact HLEN.out) HY1.out (Nat.le_refl q) (yp.f + yp.i.m)).next (y := { y with f := yp.f + yp.i.m }) (by rw [List.getElem?_set, if_pos rfl, if_pos (by rw [List.length_set, HLEN.out]; exact hlq)]) HTT.out HE.out)
              clear hJ3 hS r3 how3 hfr
              go_wp2_with fail
              go_roundw
              case rel => exact ⟨q + 1, _, by omega, by go_num, by rw [List.length_set, List.length_set]; exact HLEN.out, HN.out⟩
              case measure => simp [intOf]; omega
            · have d : (cc == 0) = false := by simpa using hc0
              have HT2 := hide (show (1 : Int) = t.2 by rw [HTP.out, if_neg hc0])
              have HN := hide (hJ2.next HY1.out HTT.out HT2.out)
              clear hJ1 hJ2 hbq p2 p4 HC1 HCEL hc0
              go_wp2_with fail
              go_roundw
              case rel => exact ⟨q + 1, _, by omega, by go_num, by rw [List.length_set]; exact HLEN.out, HN.out⟩
              case measure => simp [intOf]; omega
        · obtain rfl : q = m := by omega
          have HE := hide (show RetLns w s (dat l) (.returned (.slice A2 q c2)) wr from LnF.done (by rw [hlen]; exact hJ))
          clear hJ
          go_wp2_with fail
          go_ret
          exact HE.out
end Go.Proofs.YtljglceaibgknaaGreatDoor
