/-
  The walk of the reference's Groups. (Printed by gen_rgr.)
-/
import Derived.Test.YtljglceaibgknaaGreatDoorRgN
import Derived.Test.YtljglceaibgknaaGreatDoorRPo
namespace Go.Proofs.YtljglceaibgknaaGreatDoor
open Go.RowKit
attribute [local go_sem] Oper.semAt_some
set_option linter.unusedVariables false
set_option linter.unusedSimpArgs false

set_option maxRecDepth 100000 in
set_option maxHeartbeats 16000000 in
theorem RGroups_any (k : Sk) (s : Stp) (width : Int) (A : Option Addr) (n c : Nat) (l : List It) (w : World) (hs : SetK w w.heap.size k s) (hb : BagR w w.heap.size A n l) (hn : n ≤ 1000) :
    Calls Tryz.prog 13 #[k.v s, .int .i64 width, .slice A n c] w (RetGs w (grpE s width (dat l))) := by
  obtain ⟨i1, hi', hz0', hz1', hz2'⟩ := info_parts3 infoBag1
  have HLN := hide hb.len
  obtain ⟨ans, hans⟩ : ∃ ans, grpE s width (dat l) = ans := ⟨_, rfl⟩
  rw [hans]
  unfold grpE at hans
  have HA := hide hans
  have hB1 := below_val (w := w) #[.slice k.A k.n k.c, .slice k.A' k.n' k.c', .bool s.dn, .int .i64 s.n] 34
  have k1 := Blk.new w 34 #[.slice k.A k.n k.c, .slice k.A' k.n' k.c', .bool s.dn, .int .i64 s.n]
  have hs1 := hs.up hB1
  have hb1 := (hb.below hB1).mono hB1.size
  clear hs hb hans
  unfold Sk.v
  go_enter Tryz.func13, Tryz.ntmps13
  go_upto_region 1 with fail
  obtain ⟨W0, hW0⟩ : ∃ W0, w.alloc (.cells #[.slice k.A k.n k.c, .slice k.A' k.n' k.c', .bool s.dn, .int .i64 s.n] 34) = W0 := ⟨_, rfl⟩
  obtain ⟨bs, hbs⟩ : ∃ bs, w.heap.size = bs := ⟨_, rfl⟩
  rw [hW0] at hB1 k1 hs1 hb1 ⊢
  rw [hbs] at k1 ⊢
  clear hW0 hbs
  have hbx : BoxS W0 bs k s := ⟨by simpa using k1.cell 0, by simpa using k1.cell 1, by simpa using k1.cell 2, by simpa using k1.cell 3⟩
  have c0 := hbx.c0
  have c1 := hbx.c1
  have c2 := hbx.c2
  have c3 := hbx.c3
  have hQ := judged_any k s width A n c l W0 hs1 hb1
  unfold Sk.v at hQ
  have HQ := hide hQ
  obtain ⟨er, her⟩ : ∃ er, askE s width (dat l) = er := ⟨_, rfl⟩
  rw [her] at HQ HA
  clear hQ k1
  go_wp2_with fail
  refine HQ.out.mono ?_
  rintro e Wa ⟨rfl, hB2⟩
  have hBa := bstep hB1 hB2
  by_cases h0 : er ≠ 0
  · have z : (er != 0) = true := by simpa using h0
    have HX := hide (show ([], er) = ans by rw [← HA.out, if_neg h0])
    clear h0 her HA hs1 hb1 hB2 hB1 HQ c0 c1 c2 c3 hbx
    go_wp2_with fail
    go_ret2
    rw [← HX.out]
    exact ⟨none, 0, 0, [], rfl, rfl, Reads.none_, nofun, by omega, hBa⟩
  have z : (er != 0) = false := by simpa using h0
  have her0 : askE s width (dat l) = 0 := by rw [her]; simpa using h0
  have ho := ask_ok her0
  have HO := hide ho
  have HX := hide (show (grpF s (dat l), 0) = ans by rw [← HA.out, if_pos (by simpa using h0)])
  have hbx2 := hbx.below hB2
  have hG := lines_any k s A n c l Wa (hs1.up hB2) ((hb1.below hB2).mono hB2.size) hn ho.p ho.b ho.num
  unfold Sk.v at hG
  have HG := hide hG
  clear hG ho her0 h0 her HA hs1 hb1 hB2 hB1 HQ c0 c1 c2 c3 hbx
  have c0 := hbx2.c0
  have c1 := hbx2.c1
  have c2 := hbx2.c2
  have c3 := hbx2.c3
  go_wp2_with fail
  refine HG.out.mono ?_
  rintro e W1 ⟨A1, n1, c1', ls, rfl, hls, hrd, hrows, hB3⟩
  have HBW := hide (bstep hBa hB3)
  have HW01 := hide hB3.size
  have hl1 : ls.length = n1 := hrd.len encLn_len (by omega)
  have HL1 := hide hl1
  have HRD := hide hrd
  have HRW := hide hrows
  have HLS := hide hls
  obtain ⟨F, hF⟩ : ∃ F, lnF s (dat l) = F := ⟨_, rfl⟩
  have HF := hide hF
  have hFl : F.length = n1 := by rw [← hF, ← hls, List.length_map, hl1]
  have hn1 : n1 ≤ 1000 := by
    rw [← hFl, ← hF, lnF_len, dat_len, HLN.out]
    exact hn
  have HFL := hide hFl
  have HPART := hide (show ∀ (q : Nat) (t : (Rw × Int) × Int), ∀ d ∈ preG ((F.take q).foldl grpS []) t, d.length ≤ 1000 ∧ (∀ z ∈ d, z.1.length ≤ 1000) ∧ ∀ z ∈ d, -4000000000000 ≤ z.2 ∧ z.2 ≤ 4000000000000 from fun q t d hd => by
    have key : d = [] ∨ d ∈ (F.take q).foldl grpS [] := by
      unfold preG at hd
      split at hd
      · rcases List.mem_append.1 hd with hd | hd
        · exact .inr hd
        · exact .inl (List.mem_singleton.1 hd)
      · exact .inr hd
    rcases key with rfl | hd
    · exact ⟨by simp, nofun, nofun⟩
    · obtain ⟨xs, h1, h2⟩ := grp_part q d hd
      have h3 : xs.Sublist (lnsB s (dat l)) := by
        rw [← lnF_fst, hF]
        exact h1.trans ((List.take_sublist q F).map _)
      have hln := (lns_all s (dat l)).1
      have hi0 := HO.out.its.perm hln
      have hi : Its xs := ⟨fun x hx => hi0.ok x (h3.subset hx), hi0.apart.sublist h3, fun x hx => hi0.ne x (h3.subset hx)⟩
      have hp := its_put (b := []) hi (fun x hx => by
        have := HO.out.num x (hln.mem_iff.1 (h3.subset hx))
        omega) h2
      refine ⟨?_, hp.2⟩
      rw [hp.1]
      have := h3.length_le
      rw [lns_len, dat_len, HLN.out] at this
      omega)
  have HNE := hide (show ∀ (q : Nat) (t : (Rw × Int) × Int), F[q]? = some t → preG ((F.take q).foldl grpS []) t ≠ [] from fun q t ht => by rw [← hF] at ht ⊢; exact grp_ne ht)
  have HGL := hide (show ∀ (q : Nat) (t : (Rw × Int) × Int), (preG ((F.take q).foldl grpS []) t).length ≤ q + 1 from fun q t => by
    have := grp_len (F := F) q
    unfold preG
    split
    · rw [List.length_append]; simp; omega
    · omega)
  have hP : GoI W1 [] (.slice none 0 0) W1 := ⟨Below.refl _ _, ⟨[], World.ownsRow_nil _ _ _ _, rfl, nofun⟩⟩
  clear hls hrd hrows hl1 hF hFl hB3 hBa c0 c1 c2 c3 HG hbx2
  go_wp2_with fail
  go_loopw [9, 11] (fun v i wr => ∃ (q : Nat) (v0 : Value), q ≤ n1 ∧ i = .int .i64 q ∧ v0 = v ∧ GoI W1 ((F.take q).foldl grpS []) v0 wr) (fun _ i _ => n1 - (intOf i).toNat)
  case atStart => exact ⟨0, _, Nat.zero_le _, rfl, rfl, hP⟩
  case round =>
    clear hP
    obtain ⟨q, v, hq, rfl, rfl, hI⟩ := hrel
    by_cases hlt : q < n1
    · obtain ⟨b, off, y, rfl, hbb, hyq, hcq⟩ := (HRD.out.below hI.bel).elem encLn_len HL1.out hlt
      have hbb := Nat.lt_of_lt_of_le hbb hI.bel.size
      have htq : F[q]? = some ((y.i.r, y.i.m), y.f) := by rw [← HF.out, ← HLS.out, List.getElem?_map, hyq]; rfl
      have hmem : (y.i.r, y.i.m) ∈ dat l := lnF_mem (s := s) (t := ((y.i.r, y.i.m), y.f)) (List.mem_of_getElem? (by rw [HF.out]; exact htq))
      have hnum := HO.out.num _ hmem
      have hy8 := HO.out.row _ hmem
      simp only at hnum hy8
      have hrow := (HRW.out y (List.mem_of_getElem? hyq)).below hI.bel
      have hyl := hrow.len
      have HTK := hide (show (F.take (q + 1)).foldl grpS [] = (preG ((F.take q).foldl grpS []) ((y.i.r, y.i.m), y.f)).dropLast ++ [putB ((preG ((F.take q).foldl grpS []) ((y.i.r, y.i.m), y.f)).getLastD []) y.i.r y.i.m] by
        rw [take_snoc' htq, List.foldl_append]
        exact grpS_pre _ _)
      have HP1 := hide (HPART.out q ((y.i.r, y.i.m), y.f))
      have HN1 := hide (HNE.out q _ htq)
      have HG1 := hide (HGL.out q ((y.i.r, y.i.m), y.f))
      obtain ⟨D, hD⟩ : ∃ D, (F.take q).foldl grpS [] = D := ⟨_, rfl⟩
      rw [hD] at hI HTK HP1 HN1 HG1
      have e0 : wr.cell? ⟨b, off + q * 4, none⟩ = some (.slice y.i.A y.i.n y.i.c) := by simpa using hcq 0 _ rfl
      have e1 : wr.cell? ⟨b, off + q * 4 + 1, none⟩ = some (.int .i64 y.i.m) := by simpa [← Nat.add_assoc] using hcq 1 _ rfl
      have e3 : wr.cell? ⟨b, off + q * 4 + 3, none⟩ = some (.int .i64 y.f) := by simpa [← Nat.add_assoc] using hcq 3 _ rfl
      have q1 : (0 : Int) ≤ (q : Int) := by omega
      have q2 : (q : Int) < (n1 : Int) := by omega
      have HROW := hide hrow
      have hW1r := hI.bel.size
      have HDn := hide (show D.length ≤ q by rw [← hD]; exact grp_len q)
      clear hcq hyq htq hmem hrow hD
      by_cases hf : y.f = 1
      · have z1 : (y.f == 1) = true := by simpa using hf
        have hpre : preG D ((y.i.r, y.i.m), y.f) = D ++ [[]] := by unfold preG; rw [if_pos hf]
        rw [hpre] at HTK HP1 HN1 HG1
        obtain ⟨gbel, ⟨gl0, o1, o2, o3⟩⟩ := hI
        have hgl0 : gl0.length ≤ 1000 := by
          have h1 := congrArg List.length o2
          rw [List.length_map] at h1
          have := HDn.out
          omega
        have hown5 := o1.alloc (.cells #[.slice none 0 0] 26)
        have hrd5 : Reads (wr.alloc (.cells #[.slice none 0 0] 26)) (wr.heap.size + 1) 1 (some ⟨wr.heap.size, 0, none⟩) 1 [.slice none 0 0] :=
          ⟨rfl, fun _ => ⟨wr.heap.size, 0, rfl, by omega, fun j u hu => by
            have := (Blk.new wr 26 #[.slice none 0 0]).cell j
            rw [Nat.zero_add, this]; simpa using hu⟩⟩
        have hsz5 : W1.heap.size ≤ (wr.alloc (.cells #[.slice none 0 0] 26)).heap.size := by simp; omega
        have hBa5 := below_val (w := wr) #[.slice none 0 0] 26
        have hbv : ∀ z : Nat, z < wr.heap.size → (some z ≠ v.ownBlock) → ∀ X3 : World, (wr.alloc (.cells #[.slice none 0 0] 26)).grownBy X3 v.ownBlock → X3.heap[z]? = wr.heap[z]? := fun z hz hne X3 hg => (hg.block z (by simp; omega) hne).trans (hBa5.block z hz)
        have hne : ∀ z : Nat, z < W1.heap.size → some z ≠ v.ownBlock := fun z hz e => by have := (o1.lt z e.symm).1; omega
        have hb1 : b < W1.heap.size := by
          obtain ⟨b', o', e4, h4, _⟩ := HRD.out.2 (show 0 < n1 by omega)
          obtain rfl : b = b' := by injection e4 with e4; injection e4
          exact h4
        have HBV := hide hbv
        have HNEV := hide hne
        have HROWG := hide (fun (X3 : World) (hg : (wr.alloc (.cells #[.slice none 0 0] 26)).grownBy X3 v.ownBlock) => (HROW.out.below hBa5).grown hown5 (by decide) (by have := HW01.out; omega) hg)
        clear hf hpre hbv hne hBa5
        go_wp2_with (at_builtin; refine wpList_append_any _ rfl _ _ 29 rfl W1.heap.size 26 i1 _ 1 24 Tryz.underlying29 hi' hz0' hz1' hz2' rfl (by decide) v gl0.length _ rfl hown5 (wr.heap.size + 1) (some ⟨wr.heap.size, 0, none⟩) 1 1 [.slice none 0 0] rfl hrd5 (by simp [Value.oneCell']) (by unfold maxLen; omega) (by omega) hsz5 ?_; intro v2 Z hown6 hgrow6 hat6; have hGo := GoI.push ⟨none, 0, 0, []⟩ gbel o1 o2 o3 (BagR.nil _ _) (Nat.le_refl _) (fun b o h => absurd h (by simp)) hown6 hgrow6 hat6; have f0 := (World.cell?_of_block (HBV.out b hbb (HNEV.out b hb1) Z hgrow6)).trans e0; have f1 := (World.cell?_of_block (HBV.out b hbb (HNEV.out b hb1) Z hgrow6)).trans e1; have hrz := HROWG.out Z hgrow6; clear hown6 hgrow6 hat6)
        replace hGo : GoI W1 (D ++ [[]]) v2 Z := hGo
        clear gbel o1 o2 o3 hown5 hrd5 hsz5 HBV HNEV HROWG e0 e1 e3
        go_wp2_with fail
        have hb1 : b < Z.heap.size := World.block_lt_of_cell? _ _ f0
        have hD0 := (Below.refl Z.heap.size Z).drew
        have hGo := hGo.below hD0
        have hrz := hrz.below hD0
        obtain ⟨X1, hX1⟩ : ∃ X1, Z.drew = X1 := ⟨_, rfl⟩
        have f0 : X1.cell? ⟨b, off + q * 4, none⟩ = some (.slice y.i.A y.i.n y.i.c) := by rw [← hX1]; exact f0
        have f1 : X1.cell? ⟨b, off + q * 4 + 1, none⟩ = some (.int .i64 y.i.m) := by rw [← hX1]; exact f1
        rw [hX1] at hGo hrz
        obtain ⟨gbel, ⟨gl2, o1, o2, o3⟩⟩ := hGo
        obtain ⟨N, hN⟩ : ∃ N, gl2.length = N := ⟨_, rfl⟩
        have hlen2 := congrArg List.length o2
        rw [List.length_map, hN] at hlen2
        have hN1 : 0 < N := by
          have h2 := List.length_pos_iff.2 HN1.out
          omega
        have hN2 : N ≤ 2000 := by
          have h2 := HG1.out
          omega
        obtain ⟨m, hm⟩ : ∃ m, N = m + 1 := ⟨N - 1, by omega⟩
        have o1N := o1
        rw [hN] at o1N
        obtain ⟨go, co, rfl, _, hgolt⟩ := o1N.form hN1
        obtain ⟨gL, hgL⟩ : ∃ gL, gl2[m]? = some gL := ⟨_, List.getElem?_eq_getElem (by omega)⟩
        have hgLm := List.mem_of_getElem? hgL
        have hlast : (D ++ [[]]).getLastD [] = dat gL.l := by
          rw [List.getLastD_eq_getLast?, ← o2, List.getLast?_map, List.getLast?_eq_getElem?, hN, hm, Nat.add_sub_cancel, hgL]
          rfl
        have hdm : dat gL.l ∈ (D ++ [[]]) := by rw [← o2]; exact List.mem_map.2 ⟨gL, hgLm, rfl⟩
        have hpc := HP1.out _ hdm
        obtain ⟨hbL, hcL, _⟩ := o3 gL hgLm
        have hbLn : gL.n ≤ 1000 := by
          have := hpc.1
          rw [dat_len, hbL.len] at this
          exact this
        have hgc : X1.cell? ⟨go, m, none⟩ = some (.slice gL.A gL.n gL.c) := by
          have := o1N.cells (g := go) rfl m (.slice gL.A gL.n gL.c) (by
            have h2 := flat_get encGp_len gl2 m 0 gL hgL (by omega)
            rw [Nat.mul_one, Nat.add_zero] at h2
            rw [h2]; rfl)
          rw [add_plain, Nat.zero_add] at this
          exact this
        have hfr := World.ownsRow.frozenAt o1N m
        have HPUT := hide (RPutO_any gL.A gL.n gL.c gL.l y.i.A y.i.n y.i.c y.i.r y.i.m X1 (hbL.mono gbel.size) (by omega) (hrz.mono (by have := HW01.out; have := gbel.size; omega)) (by omega) hpc.2.1 hpc.2.2 (by omega))
        have HLAST := hide (fun (X' : World) (g' : Gp) (a5 : Below X1.heap.size X1 X') (a6 : X'.ownsRow X1.heap.size 52 2 (.slice g'.A g'.n g'.c) g'.n (g'.l.flatMap encIt)) (a7 : Rows_ X' W1.heap.size g'.l) (a8 : g'.n ≤ g'.c) (a9 : g'.n ≤ 9223372036854775807) => GoI.lastN (W := X1) (m := m) (g' := g') hm gbel o1N hN o2 (fun g hg => ⟨(o3 g hg).1, (o3 g hg).2.1, fun b o h0 e e2 => (o3 g hg).2.2 b o h0 e (by rw [e2]; rfl)⟩) a5 a6 a7 a8 a9)
        have hgoX : go < X1.heap.size := World.block_lt_of_cell? _ _ hgc
        have w1 : IntKind.i64.wrap ((N : Int) - 1) = (m : Int) := by rw [IntKind.wrap_i64]; omega
        have q3 : (0 : Int) ≤ (m : Int) := by omega
        have q4 : (m : Int) < (N : Int) := by omega
        rw [hlast] at HTK
        obtain ⟨DL, hDL⟩ : ∃ DL, (D ++ [[]]).dropLast = DL := ⟨_, rfl⟩
        rw [hDL] at HTK HLAST
        have hS : X1.cell? ⟨go, m, none⟩ = some (.slice gL.A gL.n gL.c) ∧ X1.cell? ⟨b, off + q * 4, none⟩ = some (.slice y.i.A y.i.n y.i.c) ∧ X1.cell? ⟨b, off + q * 4 + 1, none⟩ = some (.int .i64 y.i.m) := ⟨hgc, f0, f1⟩
        refine Held.begin (fun z => z.cell? ⟨go, m, none⟩ = some (.slice gL.A gL.n gL.c) ∧ z.cell? ⟨b, off + q * 4, none⟩ = some (.slice y.i.A y.i.n y.i.c) ∧ z.cell? ⟨b, off + q * 4 + 1, none⟩ = some (.int .i64 y.i.m)) 24 (by kernel_rfl) ?_
        rw [hX1]
        clear hX1 hD0 o1 o1N o2 o3 gbel hgL hgLm hlast hdm hpc hbL hcL hgc f0 f1 hrz hlen2 hDL hm hN1
        refine Held.take (i := 0) (.slice (some ⟨go, 0, none⟩) N co) rfl hS (by kernel_rfl) (by kernel_rfl) (by kernel_rfl) (by kernel_rfl) (fun _ _ _ h => h) rfl (fun y hy => by obtain ⟨x1, x2, x3⟩ := hy; go_simp) ?_
        try simp only [Act.put]
        refine Held.take (i := 1) (.slice (some ⟨go, 0, none⟩) N co) rfl hS (by kernel_rfl) (by kernel_rfl) (by kernel_rfl) (by kernel_rfl) (fun _ _ _ h => h) rfl (fun y hy => by obtain ⟨x1, x2, x3⟩ := hy; go_simp) ?_
        try simp only [Act.put]
        refine Held.take (i := 2) (.int .i64 (N : Int)) rfl hS (by kernel_rfl) (by kernel_rfl) (by kernel_rfl) (by kernel_rfl) (fun _ _ _ h => h) rfl (fun y hy => by obtain ⟨x1, x2, x3⟩ := hy; go_simp) ?_
        try simp only [Act.put]
        refine Held.take (i := 3) (.int .i64 (m : Int)) rfl hS (by kernel_rfl) (by kernel_rfl) (by kernel_rfl) (by kernel_rfl) (fun _ _ _ h => h) rfl (fun y hy => by obtain ⟨x1, x2, x3⟩ := hy; go_simp) ?_
        try simp only [Act.put]
        refine Held.take (i := 4) (.slice (some ⟨go, 0, none⟩) N co) rfl hS (by kernel_rfl) (by kernel_rfl) (by kernel_rfl) (by kernel_rfl) (fun _ _ _ h => h) rfl (fun y hy => by obtain ⟨x1, x2, x3⟩ := hy; go_simp) ?_
        try simp only [Act.put]
        refine Held.take (i := 5) (.slice (some ⟨go, 0, none⟩) N co) rfl hS (by kernel_rfl) (by kernel_rfl) (by kernel_rfl) (by kernel_rfl) (fun _ _ _ h => h) rfl (fun y hy => by obtain ⟨x1, x2, x3⟩ := hy; go_simp) ?_
        try simp only [Act.put]
        refine Held.take (i := 6) (.int .i64 (N : Int)) rfl hS (by kernel_rfl) (by kernel_rfl) (by kernel_rfl) (by kernel_rfl) (fun _ _ _ h => h) rfl (fun y hy => by obtain ⟨x1, x2, x3⟩ := hy; go_simp) ?_
        try simp only [Act.put]
        refine Held.take (i := 7) (.int .i64 (m : Int)) rfl hS (by kernel_rfl) (by kernel_rfl) (by kernel_rfl) (by kernel_rfl) (fun _ _ _ h => h) rfl (fun y hy => by obtain ⟨x1, x2, x3⟩ := hy; go_simp) ?_
        try simp only [Act.put]
        refine Held.take (i := 8) (.pointer (some ⟨go, m, none⟩)) rfl hS (by kernel_rfl) (by kernel_rfl) (by kernel_rfl) (by kernel_rfl) (fun _ _ _ h => h) rfl (fun y hy => by obtain ⟨x1, x2, x3⟩ := hy; go_simp) ?_
        try simp only [Act.put]
        refine Held.take (i := 9) (.slice gL.A gL.n gL.c) rfl hS (by kernel_rfl) (by kernel_rfl) (by kernel_rfl) (by kernel_rfl) (fun _ _ _ h => h) rfl (fun y hy => by obtain ⟨x1, x2, x3⟩ := hy; go_simp) ?_
        try simp only [Act.put]
        refine Held.take (i := 10) (.slice (some ⟨b, off, none⟩) n1 c1') rfl hS (by kernel_rfl) (by kernel_rfl) (by kernel_rfl) (by kernel_rfl) (fun _ _ _ h => h) rfl (fun y hy => by obtain ⟨x1, x2, x3⟩ := hy; go_simp) ?_
        try simp only [Act.put]
        refine Held.take (i := 11) (.int .i64 (q : Int)) rfl hS (by kernel_rfl) (by kernel_rfl) (by kernel_rfl) (by kernel_rfl) (fun _ _ _ h => h) rfl (fun y hy => by obtain ⟨x1, x2, x3⟩ := hy; go_simp) ?_
        try simp only [Act.put]
        refine Held.take (i := 12) (.pointer (some ⟨b, off + q * 4, none⟩)) rfl hS (by kernel_rfl) (by kernel_rfl) (by kernel_rfl) (by kernel_rfl) (fun _ _ _ h => h) rfl (fun y hy => by obtain ⟨x1, x2, x3⟩ := hy; go_simp) ?_
        try simp only [Act.put]
        refine Held.take (i := 13) (.pointer (some ⟨b, off + q * 4, none⟩)) rfl hS (by kernel_rfl) (by kernel_rfl) (by kernel_rfl) (by kernel_rfl) (fun _ _ _ h => h) rfl (fun y hy => by obtain ⟨x1, x2, x3⟩ := hy; go_simp) ?_
        try simp only [Act.put]
        refine Held.take (i := 14) (.pointer (some ⟨b, off + q * 4, none⟩)) rfl hS (by kernel_rfl) (by kernel_rfl) (by kernel_rfl) (by kernel_rfl) (fun _ _ _ h => h) rfl (fun y hy => by obtain ⟨x1, x2, x3⟩ := hy; go_simp) ?_
        try simp only [Act.put]
        refine Held.take (i := 15) (.slice y.i.A y.i.n y.i.c) rfl hS (by kernel_rfl) (by kernel_rfl) (by kernel_rfl) (by kernel_rfl) (fun _ _ _ h => h) rfl (fun y hy => by obtain ⟨x1, x2, x3⟩ := hy; go_simp) ?_
        try simp only [Act.put]
        refine Held.take (i := 16) (.slice (some ⟨b, off, none⟩) n1 c1') rfl hS (by kernel_rfl) (by kernel_rfl) (by kernel_rfl) (by kernel_rfl) (fun _ _ _ h => h) rfl (fun y hy => by obtain ⟨x1, x2, x3⟩ := hy; go_simp) ?_
        try simp only [Act.put]
        refine Held.take (i := 17) (.int .i64 (q : Int)) rfl hS (by kernel_rfl) (by kernel_rfl) (by kernel_rfl) (by kernel_rfl) (fun _ _ _ h => h) rfl (fun y hy => by obtain ⟨x1, x2, x3⟩ := hy; go_simp) ?_
        try simp only [Act.put]
        refine Held.take (i := 18) (.pointer (some ⟨b, off + q * 4, none⟩)) rfl hS (by kernel_rfl) (by kernel_rfl) (by kernel_rfl) (by kernel_rfl) (fun _ _ _ h => h) rfl (fun y hy => by obtain ⟨x1, x2, x3⟩ := hy; go_simp) ?_
        try simp only [Act.put]
        refine Held.take (i := 19) (.pointer (some ⟨b, off + q * 4, none⟩)) rfl hS (by kernel_rfl) (by kernel_rfl) (by kernel_rfl) (by kernel_rfl) (fun _ _ _ h => h) rfl (fun y hy => by obtain ⟨x1, x2, x3⟩ := hy; go_simp) ?_
        try simp only [Act.put]
        refine Held.take (i := 20) (.pointer (some ⟨b, off + q * 4 + 1, none⟩)) rfl hS (by kernel_rfl) (by kernel_rfl) (by kernel_rfl) (by kernel_rfl) (fun _ _ _ h => h) rfl (fun y hy => by obtain ⟨x1, x2, x3⟩ := hy; go_simp) ?_
        try simp only [Act.put]
        refine Held.take (i := 21) (.int .i64 y.i.m) rfl hS (by kernel_rfl) (by kernel_rfl) (by kernel_rfl) (by kernel_rfl) (fun _ _ _ h => h) rfl (fun y hy => by obtain ⟨x1, x2, x3⟩ := hy; go_simp) ?_
        try simp only [Act.put]
        refine Held.one (i := 22) rfl (by kernel_rfl) rfl (fun K hK => ?_)
        unfold Oper.wp
        go_simp
        refine HPUT.out.mono ?_
        rintro e X2 ⟨A3, n3, c3, l3, rfl, hd3, ⟨ho3, hr3⟩, hc3, hB4⟩
        have hS2 : X2.cell? ⟨go, m, none⟩ = some (.slice gL.A gL.n gL.c) ∧ X2.cell? ⟨b, off + q * 4, none⟩ = some (.slice y.i.A y.i.n y.i.c) ∧ X2.cell? ⟨b, off + q * 4 + 1, none⟩ = some (.int .i64 y.i.m) := ⟨(hB4.cell (World.block_lt_of_cell? _ _ hS.1)).trans hS.1, (hB4.cell (World.block_lt_of_cell? _ _ hS.2.1)).trans hS.2.1, (hB4.cell (World.block_lt_of_cell? _ _ hS.2.2)).trans hS.2.2⟩
        have hfr2 : X2.frozen? ⟨go, m, none⟩ = false := (hB4.frozen (p := ⟨go, m, none⟩) hgoX).trans hfr
        have hl3 : l3.length = n3 := by
          have := ho3.1
          rw [flat_length encIt_len] at this
          omega
        have hn3 : n3 ≤ 9223372036854775807 := by
          rcases ho3.2 with ⟨he, _⟩ | ⟨_, cap, _, he, _, _, h4, h5, _⟩
          · injection he with _ he _
            omega
          · unfold maxLen at h5
            omega
        have HGN := hide (HLAST.out X2 ⟨A3, n3, c3, l3⟩ hB4 ho3 (hr3.mono (Nat.zero_le _)) hc3 hn3)
        refine hK _ _ (fun _ => hS2) ?_
        try simp only [Act.put]
        have hS := hS2
        clear hK K hS2 hB4 ho3 hr3 HPUT HLAST hfr hl3
        refine Held.one (i := 23) rfl (by kernel_rfl) rfl (fun K hK => ?_)
        unfold Oper.wp
        go_simp
        refine hK _ _ (fun _ => hS) ?_
        try simp only [Act.put]
        clear hK K
        have hgc2 := hS.1
        refine Held.one (i := 24) rfl (by kernel_rfl) rfl (fun K hK => ?_)
        unfold Oper.wp
        go_simp
        refine hK _ _ (fun h => absurd rfl h) ?_
        try simp only [Act.put]
        clear hK K
        refine Held.done (by kernel_rfl) ?_
        have HEND := hide (show GoI W1 ((F.take (q + 1)).foldl grpS []) (.slice (some ⟨go, 0, none⟩) N co) (X2.setCell ⟨go, m, none⟩ (.slice A3 n3 c3)) by
          rw [HTK.out, ← hd3]
          exact HGN.out)
        clear hS hfr2 hgc2 HGN hd3
        go_wp2_with fail
        go_roundw
        case rel => exact ⟨q + 1, _, by omega, by go_num, rfl, HEND.out⟩
        case measure => simp [intOf]; omega
      · have z1 : (y.f == 1) = false := by simpa using hf
        have hpre : preG D ((y.i.r, y.i.m), y.f) = D := by unfold preG; rw [if_neg hf]
        rw [hpre] at HTK HP1 HN1 HG1
        have hrz := HROW.out
        have hGo := hI
        obtain ⟨Z, hZ⟩ : ∃ Z : World, Z = wr := ⟨_, rfl⟩
        subst hZ
        have f0 := e0
        have f1 := e1
        clear hf hpre hI e0 e1
        go_wp2_with fail
        have hb1 : b < Z.heap.size := World.block_lt_of_cell? _ _ f0
        have hD0 := (Below.refl Z.heap.size Z).drew
        have hGo := hGo.below hD0
        have hrz := hrz.below hD0
        obtain ⟨X1, hX1⟩ : ∃ X1, Z.drew = X1 := ⟨_, rfl⟩
        have f0 : X1.cell? ⟨b, off + q * 4, none⟩ = some (.slice y.i.A y.i.n y.i.c) := by rw [← hX1]; exact f0
        have f1 : X1.cell? ⟨b, off + q * 4 + 1, none⟩ = some (.int .i64 y.i.m) := by rw [← hX1]; exact f1
        rw [hX1] at hGo hrz
        obtain ⟨gbel, ⟨gl2, o1, o2, o3⟩⟩ := hGo
        obtain ⟨N, hN⟩ : ∃ N, gl2.length = N := ⟨_, rfl⟩
        have hlen2 := congrArg List.length o2
        rw [List.length_map, hN] at hlen2
        have hN1 : 0 < N := by
          have h2 := List.length_pos_iff.2 HN1.out
          omega
        have hN2 : N ≤ 2000 := by
          have h2 := HG1.out
          omega
        obtain ⟨m, hm⟩ : ∃ m, N = m + 1 := ⟨N - 1, by omega⟩
        have o1N := o1
        rw [hN] at o1N
        obtain ⟨go, co, rfl, _, hgolt⟩ := o1N.form hN1
        obtain ⟨gL, hgL⟩ : ∃ gL, gl2[m]? = some gL := ⟨_, List.getElem?_eq_getElem (by omega)⟩
        have hgLm := List.mem_of_getElem? hgL
        have hlast : D.getLastD [] = dat gL.l := by
          rw [List.getLastD_eq_getLast?, ← o2, List.getLast?_map, List.getLast?_eq_getElem?, hN, hm, Nat.add_sub_cancel, hgL]
          rfl
        have hdm : dat gL.l ∈ D := by rw [← o2]; exact List.mem_map.2 ⟨gL, hgLm, rfl⟩
        have hpc := HP1.out _ hdm
        obtain ⟨hbL, hcL, _⟩ := o3 gL hgLm
        have hbLn : gL.n ≤ 1000 := by
          have := hpc.1
          rw [dat_len, hbL.len] at this
          exact this
        have hgc : X1.cell? ⟨go, m, none⟩ = some (.slice gL.A gL.n gL.c) := by
          have := o1N.cells (g := go) rfl m (.slice gL.A gL.n gL.c) (by
            have h2 := flat_get encGp_len gl2 m 0 gL hgL (by omega)
            rw [Nat.mul_one, Nat.add_zero] at h2
            rw [h2]; rfl)
          rw [add_plain, Nat.zero_add] at this
          exact this
        have hfr := World.ownsRow.frozenAt o1N m
        have HPUT := hide (RPutO_any gL.A gL.n gL.c gL.l y.i.A y.i.n y.i.c y.i.r y.i.m X1 (hbL.mono gbel.size) (by omega) (hrz.mono (by have := HW01.out; have := gbel.size; omega)) (by omega) hpc.2.1 hpc.2.2 (by omega))
        have HLAST := hide (fun (X' : World) (g' : Gp) (a5 : Below X1.heap.size X1 X') (a6 : X'.ownsRow X1.heap.size 52 2 (.slice g'.A g'.n g'.c) g'.n (g'.l.flatMap encIt)) (a7 : Rows_ X' W1.heap.size g'.l) (a8 : g'.n ≤ g'.c) (a9 : g'.n ≤ 9223372036854775807) => GoI.lastN (W := X1) (m := m) (g' := g') hm gbel o1N hN o2 (fun g hg => ⟨(o3 g hg).1, (o3 g hg).2.1, fun b o h0 e e2 => (o3 g hg).2.2 b o h0 e (by rw [e2]; rfl)⟩) a5 a6 a7 a8 a9)
        have hgoX : go < X1.heap.size := World.block_lt_of_cell? _ _ hgc
        have w1 : IntKind.i64.wrap ((N : Int) - 1) = (m : Int) := by rw [IntKind.wrap_i64]; omega
        have q3 : (0 : Int) ≤ (m : Int) := by omega
        have q4 : (m : Int) < (N : Int) := by omega
        rw [hlast] at HTK
        obtain ⟨DL, hDL⟩ : ∃ DL, D.dropLast = DL := ⟨_, rfl⟩
        rw [hDL] at HTK HLAST
        have hS : X1.cell? ⟨go, m, none⟩ = some (.slice gL.A gL.n gL.c) ∧ X1.cell? ⟨b, off + q * 4, none⟩ = some (.slice y.i.A y.i.n y.i.c) ∧ X1.cell? ⟨b, off + q * 4 + 1, none⟩ = some (.int .i64 y.i.m) := ⟨hgc, f0, f1⟩
        refine Held.begin (fun z => z.cell? ⟨go, m, none⟩ = some (.slice gL.A gL.n gL.c) ∧ z.cell? ⟨b, off + q * 4, none⟩ = some (.slice y.i.A y.i.n y.i.c) ∧ z.cell? ⟨b, off + q * 4 + 1, none⟩ = some (.int .i64 y.i.m)) 24 (by kernel_rfl) ?_
        rw [hX1]
        clear hX1 hD0 o1 o1N o2 o3 gbel hgL hgLm hlast hdm hpc hbL hcL hgc f0 f1 hrz hlen2 hDL hm hN1
        refine Held.take (i := 0) (.slice (some ⟨go, 0, none⟩) N co) rfl hS (by kernel_rfl) (by kernel_rfl) (by kernel_rfl) (by kernel_rfl) (fun _ _ _ h => h) rfl (fun y hy => by obtain ⟨x1, x2, x3⟩ := hy; go_simp) ?_
        try simp only [Act.put]
        refine Held.take (i := 1) (.slice (some ⟨go, 0, none⟩) N co) rfl hS (by kernel_rfl) (by kernel_rfl) (by kernel_rfl) (by kernel_rfl) (fun _ _ _ h => h) rfl (fun y hy => by obtain ⟨x1, x2, x3⟩ := hy; go_simp) ?_
        try simp only [Act.put]
        refine Held.take (i := 2) (.int .i64 (N : Int)) rfl hS (by kernel_rfl) (by kernel_rfl) (by kernel_rfl) (by kernel_rfl) (fun _ _ _ h => h) rfl (fun y hy => by obtain ⟨x1, x2, x3⟩ := hy; go_simp) ?_
        try simp only [Act.put]
        refine Held.take (i := 3) (.int .i64 (m : Int)) rfl hS (by kernel_rfl) (by kernel_rfl) (by kernel_rfl) (by kernel_rfl) (fun _ _ _ h => h) rfl (fun y hy => by obtain ⟨x1, x2, x3⟩ := hy; go_simp) ?_
        try simp only [Act.put]
        refine Held.take (i := 4) (.slice (some ⟨go, 0, none⟩) N co) rfl hS (by kernel_rfl) (by kernel_rfl) (by kernel_rfl) (by kernel_rfl) (fun _ _ _ h => h) rfl (fun y hy => by obtain ⟨x1, x2, x3⟩ := hy; go_simp) ?_
        try simp only [Act.put]
        refine Held.take (i := 5) (.slice (some ⟨go, 0, none⟩) N co) rfl hS (by kernel_rfl) (by kernel_rfl) (by kernel_rfl) (by kernel_rfl) (fun _ _ _ h => h) rfl (fun y hy => by obtain ⟨x1, x2, x3⟩ := hy; go_simp) ?_
        try simp only [Act.put]
        refine Held.take (i := 6) (.int .i64 (N : Int)) rfl hS (by kernel_rfl) (by kernel_rfl) (by kernel_rfl) (by kernel_rfl) (fun _ _ _ h => h) rfl (fun y hy => by obtain ⟨x1, x2, x3⟩ := hy; go_simp) ?_
        try simp only [Act.put]
        refine Held.take (i := 7) (.int .i64 (m : Int)) rfl hS (by kernel_rfl) (by kernel_rfl) (by kernel_rfl) (by kernel_rfl) (fun _ _ _ h => h) rfl (fun y hy => by obtain ⟨x1, x2, x3⟩ := hy; go_simp) ?_
        try simp only [Act.put]
        refine Held.take (i := 8) (.pointer (some ⟨go, m, none⟩)) rfl hS (by kernel_rfl) (by kernel_rfl) (by kernel_rfl) (by kernel_rfl) (fun _ _ _ h => h) rfl (fun y hy => by obtain ⟨x1, x2, x3⟩ := hy; go_simp) ?_
        try simp only [Act.put]
        refine Held.take (i := 9) (.slice gL.A gL.n gL.c) rfl hS (by kernel_rfl) (by kernel_rfl) (by kernel_rfl) (by kernel_rfl) (fun _ _ _ h => h) rfl (fun y hy => by obtain ⟨x1, x2, x3⟩ := hy; go_simp) ?_
        try simp only [Act.put]
        refine Held.take (i := 10) (.slice (some ⟨b, off, none⟩) n1 c1') rfl hS (by kernel_rfl) (by kernel_rfl) (by kernel_rfl) (by kernel_rfl) (fun _ _ _ h => h) rfl (fun y hy => by obtain ⟨x1, x2, x3⟩ := hy; go_simp) ?_
        try simp only [Act.put]
        refine Held.take (i := 11) (.int .i64 (q : Int)) rfl hS (by kernel_rfl) (by kernel_rfl) (by kernel_rfl) (by kernel_rfl) (fun _ _ _ h => h) rfl (fun y hy => by obtain ⟨x1, x2, x3⟩ := hy; go_simp) ?_
        try simp only [Act.put]
        refine Held.take (i := 12) (.pointer (some ⟨b, off + q * 4, none⟩)) rfl hS (by kernel_rfl) (by kernel_rfl) (by kernel_rfl) (by kernel_rfl) (fun _ _ _ h => h) rfl (fun y hy => by obtain ⟨x1, x2, x3⟩ := hy; go_simp) ?_
        try simp only [Act.put]
        refine Held.take (i := 13) (.pointer (some ⟨b, off + q * 4, none⟩)) rfl hS (by kernel_rfl) (by kernel_rfl) (by kernel_rfl) (by kernel_rfl) (fun _ _ _ h => h) rfl (fun y hy => by obtain ⟨x1, x2, x3⟩ := hy; go_simp) ?_
        try simp only [Act.put]
        refine Held.take (i := 14) (.pointer (some ⟨b, off + q * 4, none⟩)) rfl hS (by kernel_rfl) (by kernel_rfl) (by kernel_rfl) (by kernel_rfl) (fun _ _ _ h => h) rfl (fun y hy => by obtain ⟨x1, x2, x3⟩ := hy; go_simp) ?_
        try simp only [Act.put]
        refine Held.take (i := 15) (.slice y.i.A y.i.n y.i.c) rfl hS (by kernel_rfl) (by kernel_rfl) (by kernel_rfl) (by kernel_rfl) (fun _ _ _ h => h) rfl (fun y hy => by obtain ⟨x1, x2, x3⟩ := hy; go_simp) ?_
        try simp only [Act.put]
        refine Held.take (i := 16) (.slice (some ⟨b, off, none⟩) n1 c1') rfl hS (by kernel_rfl) (by kernel_rfl) (by kernel_rfl) (by kernel_rfl) (fun _ _ _ h => h) rfl (fun y hy => by obtain ⟨x1, x2, x3⟩ := hy; go_simp) ?_
        try simp only [Act.put]
        refine Held.take (i := 17) (.int .i64 (q : Int)) rfl hS (by kernel_rfl) (by kernel_rfl) (by kernel_rfl) (by kernel_rfl) (fun _ _ _ h => h) rfl (fun y hy => by obtain ⟨x1, x2, x3⟩ := hy; go_simp) ?_
        try simp only [Act.put]
        refine Held.take (i := 18) (.pointer (some ⟨b, off + q * 4, none⟩)) rfl hS (by kernel_rfl) (by kernel_rfl) (by kernel_rfl) (by kernel_rfl) (fun _ _ _ h => h) rfl (fun y hy => by obtain ⟨x1, x2, x3⟩ := hy; go_simp) ?_
        try simp only [Act.put]
        refine Held.take (i := 19) (.pointer (some ⟨b, off + q * 4, none⟩)) rfl hS (by kernel_rfl) (by kernel_rfl) (by kernel_rfl) (by kernel_rfl) (fun _ _ _ h => h) rfl (fun y hy => by obtain ⟨x1, x2, x3⟩ := hy; go_simp) ?_
        try simp only [Act.put]
        refine Held.take (i := 20) (.pointer (some ⟨b, off + q * 4 + 1, none⟩)) rfl hS (by kernel_rfl) (by kernel_rfl) (by kernel_rfl) (by kernel_rfl) (fun _ _ _ h => h) rfl (fun y hy => by obtain ⟨x1, x2, x3⟩ := hy; go_simp) ?_
        try simp only [Act.put]
        refine Held.take (i := 21) (.int .i64 y.i.m) rfl hS (by kernel_rfl) (by kernel_rfl) (by kernel_rfl) (by kernel_rfl) (fun _ _ _ h => h) rfl (fun y hy => by obtain ⟨x1, x2, x3⟩ := hy; go_simp) ?_
        try simp only [Act.put]
        refine Held.one (i := 22) rfl (by kernel_rfl) rfl (fun K hK => ?_)
        unfold Oper.wp
        go_simp
        refine HPUT.out.mono ?_
        rintro e X2 ⟨A3, n3, c3, l3, rfl, hd3, ⟨ho3, hr3⟩, hc3, hB4⟩
        have hS2 : X2.cell? ⟨go, m, none⟩ = some (.slice gL.A gL.n gL.c) ∧ X2.cell? ⟨b, off + q * 4, none⟩ = some (.slice y.i.A y.i.n y.i.c) ∧ X2.cell? ⟨b, off + q * 4 + 1, none⟩ = some (.int .i64 y.i.m) := ⟨(hB4.cell (World.block_lt_of_cell? _ _ hS.1)).trans hS.1, (hB4.cell (World.block_lt_of_cell? _ _ hS.2.1)).trans hS.2.1, (hB4.cell (World.block_lt_of_cell? _ _ hS.2.2)).trans hS.2.2⟩
        have hfr2 : X2.frozen? ⟨go, m, none⟩ = false := (hB4.frozen (p := ⟨go, m, none⟩) hgoX).trans hfr
        have hl3 : l3.length = n3 := by
          have := ho3.1
          rw [flat_length encIt_len] at this
          omega
        have hn3 : n3 ≤ 9223372036854775807 := by
          rcases ho3.2 with ⟨he, _⟩ | ⟨_, cap, _, he, _, _, h4, h5, _⟩
          · injection he with _ he _
            omega
          · unfold maxLen at h5
            omega
        have HGN := hide (HLAST.out X2 ⟨A3, n3, c3, l3⟩ hB4 ho3 (hr3.mono (Nat.zero_le _)) hc3 hn3)
        refine hK _ _ (fun _ => hS2) ?_
        try simp only [Act.put]
        have hS := hS2
        clear hK K hS2 hB4 ho3 hr3 HPUT HLAST hfr hl3
        refine Held.one (i := 23) rfl (by kernel_rfl) rfl (fun K hK => ?_)
        unfold Oper.wp
        go_simp
        refine hK _ _ (fun _ => hS) ?_
        try simp only [Act.put]
        clear hK K
        have hgc2 := hS.1
        refine Held.one (i := 24) rfl (by kernel_rfl) rfl (fun K hK => ?_)
        unfold Oper.wp
        go_simp
        refine hK _ _ (fun h => absurd rfl h) ?_
        try simp only [Act.put]
        clear hK K
        refine Held.done (by kernel_rfl) ?_
        have HEND := hide (show GoI W1 ((F.take (q + 1)).foldl grpS []) (.slice (some ⟨go, 0, none⟩) N co) (X2.setCell ⟨go, m, none⟩ (.slice A3 n3 c3)) by
          rw [HTK.out, ← hd3]
          exact HGN.out)
        clear hS hfr2 hgc2 HGN hd3
        go_wp2_with fail
        go_roundw
        case rel => exact ⟨q + 1, _, by omega, by go_num, rfl, HEND.out⟩
        case measure => simp [intOf]; omega
    · obtain rfl : q = n1 := by omega
      rw [List.take_of_length_le (by rw [HFL.out]; exact Nat.le_refl _)] at hI
      obtain ⟨hbel, ⟨gl2, o1, o2, o3⟩⟩ := hI
      have hgl2 : gl2.length ≤ 1000 := by
        have h1 := congrArg List.length o2
        rw [List.length_map] at h1
        have h2 := grp_len (F := F) q
        rw [List.take_of_length_le (by rw [HFL.out]; exact Nat.le_refl _)] at h2
        omega
      obtain ⟨A9, c9, rfl, hR9⟩ := own_form o1
      have HE := hide (show RetGs w ans (.returned (.tuple #[.slice A9 gl2.length c9, .int .i64 ans.2])) wr from ⟨A9, gl2.length, c9, gl2, rfl, by rw [o2, ← HX.out]; unfold grpF; rw [HF.out], hR9, fun g hg => ⟨(o3 g hg).1.mono hbel.size, (o3 g hg).2.1⟩, hgl2, HBW.out.trans (hbel.mono (by have := HBW.out.size; omega))⟩)
      have HE2 := hide (show ans.2 = 0 by rw [← HX.out])
      clear hbel o1 o2 o3 hR9
      go_wp2_with fail
      go_ret2
      have := HE.out
      rw [HE2.out] at this
      exact this
end Go.Proofs.YtljglceaibgknaaGreatDoor
