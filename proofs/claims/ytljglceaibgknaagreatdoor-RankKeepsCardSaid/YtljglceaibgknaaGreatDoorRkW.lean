/-
  The walks of rank.top and rank.Top: the rows on the first places of each group, as a bag.
  The walks of the reference's top and Top.
-/
import Derived.Test.YtljglceaibgknaaGreatDoorRkF
import Derived.Test.YtljglceaibgknaaGreatDoorRkP
import Derived.Test.YtljglceaibgknaaGreatDoorBgS5
import Derived.Test.YtljglceaibgknaaGreatDoorRkU
namespace Go.Proofs.YtljglceaibgknaaGreatDoor

section
open Go.RowKit
attribute [local go_sem] Oper.semAt_some
set_option linter.unusedVariables false
set_option linter.unusedSimpArgs false

theorem capG_yes {L : Int} {x : Rw × Int} {g : Bg} (h : 0 < min x.2 L) : capG L (x :: g) = (x.1, min x.2 L) :: capG (L - min x.2 L) g := by rw [capG, if_pos h]
theorem capG_no {L : Int} {x : Rw × Int} {g : Bg} (h : ¬ 0 < min x.2 L) : capG L (x :: g) = capG L g := by rw [capG, if_neg h]
theorem drop_at {α : Type} {l : List α} {k : Nat} {x : α} (h : l[k]? = some x) : l.drop k = x :: l.drop (k + 1) := by
  obtain ⟨h1, h2⟩ := List.getElem?_eq_some_iff.1 h
  rw [List.drop_eq_getElem_cons h1, h2]
theorem FitS.of {s : Stp} {width : Int} {b : Bg} (h : Askd s width b) : FitS s b := ⟨fun x hx => (okBag_asc h.bag).1.ok x hx, h.p, h.b, h.n8⟩
/-- What Top answers. -/
def topE (s : Stp) (width : Int) (b : Bg) : Bg × Int := if askE s width b = 0 then (topB s b, 0) else ([], askE s width b)
/-- Where a group lies in the list. -/
theorem gl_at {W : World} {B n q : Nat} {A : Option Addr} {gl : List Gp} (h : Reads W B 1 A n (gl.flatMap encGp)) (hq : q < n) : ∃ b off g, A = some ⟨b, off, none⟩ ∧ gl[q]? = some g ∧ W.cell? ⟨b, off + q, none⟩ = some (.slice g.A g.n g.c) := by
  obtain ⟨b, off, g, e, _, hg, hc⟩ := h.elem encGp_len (h.len encGp_len (by omega)) hq
  exact ⟨b, off, g, e, hg, by simpa using hc 0 _ rfl⟩
set_option maxRecDepth 100000 in
set_option maxHeartbeats 8000000 in
theorem top_any (k : Sk) (s : Stp) (A : Option Addr) (n c : Nat) (l : List It) (w : World) (hs : SetK w w.heap.size k s) (hb : BagR w w.heap.size A n l) (hn : n ≤ 1000) (hf : FitS s (dat l)) (ht : Tab w) (hok : okBag (dat l) = true) (hpos : ∀ x ∈ dat l, 0 < x.2) (hs0 : 0 ≤ s.n) (hs4 : s.n ≤ 1000000) :
    Calls Tryz.prog 57 #[k.v s, .slice A n c] w (RetC w (topB s (dat l), 0)) := by
  obtain ⟨i0, hi, hz0, hz1, hz2⟩ := info_parts3 infoItem
  have HLN := hide hb.len
  have HOK := hide hok
  have HPOS := hide hpos
  have hB1 := below_val (w := w) #[.slice k.A k.n k.c, .slice k.A' k.n' k.c', .bool s.dn, .int .i64 s.n] 24
  have k1 := Blk.new w 24 #[.slice k.A k.n k.c, .slice k.A' k.n' k.c', .bool s.dn, .int .i64 s.n]
  have hs1 := hs.up hB1
  have hb1 := (hb.below hB1).mono hB1.size
  have ht1 := ht.below hB1
  clear hs hb ht hok hpos
  unfold Sk.v
  go_enter Tryz.func57, Tryz.ntmps57
  go_upto_region 2 with fail
  obtain ⟨W0, hW0⟩ : ∃ W0, w.alloc (.cells #[.slice k.A k.n k.c, .slice k.A' k.n' k.c', .bool s.dn, .int .i64 s.n] 24) = W0 := ⟨_, rfl⟩
  rw [hW0] at hB1 k1 hs1 hb1 ht1 ⊢
  clear hW0
  have c0 := k1.cell 0
  have c1 := k1.cell 1
  have c2 := k1.cell 2
  have c3 := k1.cell 3
  simp at c0 c1 c2 c3
  have hG := groups_any k s A n c l W0 hs1 hb1 hn hf ht1
  unfold Sk.v at hG
  have HG := hide hG
  have HF := hide hf
  clear hG k1 hf hs1 hb1 ht1
  go_wp2_with fail
  refine HG.out.mono ?_
  rintro e W1 ⟨A1, n1, c1', gl, rfl, hrd, hbag, hgrs, hB2⟩
  have C3 := hide ((hB2.cell (World.block_lt_of_cell? _ _ c3)).trans c3)
  have hbl : w.heap.size < W1.heap.size := World.block_lt_of_cell? _ _ C3.out
  have HBW := hide (bstep hB1 hB2)
  have HW01 := hide hB2.size
  have HGR := hide hgrs
  have hl1 : gl.length = n1 := hrd.len encGp_len (by omega)
  obtain ⟨GS, hGS⟩ : ∃ GS, (gl.map fun g => dat g.l) = GS := ⟨_, rfl⟩
  rw [hGS] at HGR
  have HGS := hide hGS
  obtain ⟨T, hT⟩ : ∃ T, GS.flatMap (capG s.n) = T := ⟨_, rfl⟩
  have HT := hide hT
  have hTl : T.length ≤ 1000 := by
    have h1 := caps_len s.n GS
    have h2 := HGR.out.perm.length_eq
    rw [dat_len, HLN.out] at h2
    rw [hT] at h1
    omega
  have HRL := hide (show ∀ g ∈ gl, ∀ x ∈ g.l, x.r.length ≤ 8 from fun g hg x hx => by
    have h1 := HGR.out.mem (g := dat g.l) (by rw [← HGS.out]; exact List.mem_map.2 ⟨g, hg, rfl⟩) (x := (x.r, x.m)) (List.mem_map.2 ⟨x, hx, rfl⟩)
    have h2 := HF.out.ok _ h1
    unfold okR at h2
    rw [Bool.and_eq_true, decide_eq_true_eq] at h2
    exact h2.2)
  have HXP := hide (show ∀ g ∈ gl, ∀ x ∈ g.l, 0 < x.m from fun g hg x hx => HPOS.out _ (HGR.out.mem (g := dat g.l) (by rw [← HGS.out]; exact List.mem_map.2 ⟨g, hg, rfl⟩) (x := (x.r, x.m)) (List.mem_map.2 ⟨x, hx, rfl⟩)))
  have hP : PutI W1 [] (.slice none 0 0) W1 := ⟨Below.refl _ _, ⟨[], World.ownsRow_nil _ _ _ _, rfl, by intro i hi; cases hi⟩, trivial⟩
  have HRD := hide hrd
  have HBG := hide hbag
  have HGL := hide hl1
  have hst : [] ++ (GS.drop 0).flatMap (capG s.n) = T := by rw [← hT]; rfl
  have HST0 := hide hst
  clear hrd hbag hgrs hB2 hB1 c0 c1 c2 c3 HG hGS hT hl1 hst
  have hbn : n1 ≤ 9223372036854775807 := by
    have := HGR.out.count
    rw [← HGS.out, List.length_map, HGL.out, dat_len, HLN.out] at this
    omega
  go_wp2_with fail
  go_loopw [6, 17] (fun v i wr => ∃ (q : Nat) (d : Bg) (v0 : Value), q ≤ n1 ∧ i = .int .i64 q ∧ v0 = v ∧ PutI W1 d v0 wr ∧ d ++ (GS.drop q).flatMap (capG s.n) = T) (fun _ i _ => n1 - (intOf i).toNat)
  case atStart => exact ⟨0, [], _, Nat.zero_le _, rfl, rfl, hP, HST0.out⟩
  case round =>
    clear hP
    obtain ⟨q, d, v, hq, rfl, rfl, hI, hst⟩ := hrel
    have HST := hide hst
    clear hst
    by_cases hlt : q < n1
    · obtain ⟨b, off, g, rfl, hgq, hcell⟩ := gl_at (HRD.out.below hI.bel) hlt
      have hgm := List.mem_of_getElem? hgq
      have hgd : GS[q]? = some (dat g.l) := by rw [← HGS.out, List.getElem?_map, hgq]; rfl
      obtain ⟨REST, hR⟩ : ∃ REST, (GS.drop (q + 1)).flatMap (capG s.n) = REST := ⟨_, rfl⟩
      have HR := hide hR
      have HS1 := hide (show d ++ (capG s.n ((dat g.l).drop 0) ++ REST) = T by
        have := HST.out
        rw [drop_at hgd, List.flatMap_cons, hR] at this
        rw [List.drop_zero]
        exact this)
      have HBG1 := hide (HBG.out g hgm)
      have HRL1 := hide (HRL.out g hgm)
      have HXP1 := hide (HXP.out g hgm)
      have hgn := HBG1.out.le
      have c3 := (hI.bel.cell (p := ⟨w.heap.size, 3, none⟩) hbl).trans C3.out
      obtain ⟨wk, hwk⟩ : ∃ wk : World, wk = wr := ⟨_, rfl⟩
      subst hwk
      have q1 : (0 : Int) ≤ (q : Int) := by omega
      have q2 : (q : Int) < (n1 : Int) := by omega
      clear hgq hgd hR HST
      go_wp2_with fail
      go_loopw [6, 9, 25] (fun v L i wr => ∃ (p : Nat) (d : Bg) (v0 : Value) (Lf : Int), p ≤ g.n ∧ i = .int .i64 p ∧ L = .int .i64 Lf ∧ v0 = v ∧ PutI W1 d v0 wr ∧ 0 ≤ Lf ∧ Lf ≤ s.n ∧ d ++ (capG Lf ((dat g.l).drop p) ++ REST) = T) (fun _ _ i _ => g.n - (intOf i).toNat)
      case atStart => exact ⟨0, d, _, _, Nat.zero_le _, rfl, rfl, rfl, hI, hs0, by omega, HS1.out⟩
      case round =>
        clear hI c3 hcell HS1
        obtain ⟨p, d, v, Lf, hp, rfl, rfl, rfl, hI, hL0, hL1, hst⟩ := hrel
        have HST := hide hst
        clear hst
        by_cases hlp : p < g.n
        · obtain ⟨bg, og, x, hgA, hbb, hxp, e0, e1, hrow⟩ := (HBG1.out.below hI.bel).at_ hlp
          have hxd := dat_at hxp
          have hxm := List.mem_of_getElem? hxp
          have hx8 := HRL1.out x hxm
          have hx0 := HXP1.out x hxm
          have hxn := hrow.len
          have HDR := hide (drop_at hxd)
          have hrowB := hrow.mono (B' := W1.heap.size) (by have := HW01.out; omega)
          have hB3 := below_val (w := wr) #[.slice x.A x.n x.c, .int .i64 x.m] 52
          have kx := Blk.new wr 52 #[.slice x.A x.n x.c, .int .i64 x.m]
          have hIa := hI.below hB3
          have hrowa := hrowB.below hB3
          have q3 : (0 : Int) ≤ (p : Int) := by omega
          have q4 : (p : Int) < (g.n : Int) := by omega
          rw [hgA]
          clear hxd hxm hxp hI hrow hrowB
          go_upto_region 9 with fail
          obtain ⟨W2, hW2⟩ : ∃ W2, wr.alloc (.cells #[.slice x.A x.n x.c, .int .i64 x.m] 52) = W2 := ⟨_, rfl⟩
          obtain ⟨xb, hxb⟩ : ∃ xb, wr.heap.size = xb := ⟨_, rfl⟩
          rw [hW2] at hIa hrowa kx hB3 ⊢
          rw [hxb] at kx ⊢
          clear hW2 hB3 e0 e1 hbb hxb hgA
          have d0 := kx.cell 0
          have d1 := kx.cell 1
          simp at d0 d1
          clear kx
          obtain ⟨mm, hmm⟩ : ∃ mm, min x.m Lf = mm := ⟨_, rfl⟩
          have hm1 : mm ≤ Lf := by omega
          have hm2 : 0 ≤ mm := by omega
          by_cases hm : 0 < mm
          · have HX := hide (show (d ++ [(x.r, mm)]) ++ (capG (Lf - mm) ((dat g.l).drop (p + 1)) ++ REST) = T by
              have := HST.out
              rw [HDR.out, capG_yes (by show 0 < min x.m Lf; omega)] at this
              simp only [hmm] at this
              rw [← this]; simp)
            have hdl : d.length ≤ 1000 := by
              have := congrArg List.length HX.out
              simp only [List.length_append] at this
              omega
            have HCL := hide (Clone_any x.A x.n x.c _ W1.heap.size x.r W2 hrowa (by omega))
            have hw1 : IntKind.i64.wrap (Lf - mm) = Lf - mm := by rw [IntKind.wrap_i64]; omega
            clear hrowa HDR HST
            go_wp2_with fail
            refine HCL.out.mono ?_
            rintro e X2 ⟨Ac, cc, rfl, hrow, hB4⟩
            have hI2 := hIa.below hB4
            clear hIa hB4 HCL d0 d1
            have hle := hI2.bel.size
            obtain ⟨hbel, ⟨l', h1, h2, h3⟩, hcap⟩ := hI2
            have hll : l'.length = d.length := by rw [← h2, dat_len]
            have hrd : Reads (X2.alloc (.cells #[.slice Ac x.n cc, .int .i64 mm] 52)) (X2.heap.size + 1) 2 (some ⟨X2.heap.size, 0, none⟩) 1 [.slice Ac x.n cc, .int .i64 mm] :=
              ⟨rfl, fun _ => ⟨X2.heap.size, 0, rfl, by omega, fun j u hu => by
                have := (Blk.new X2 52 #[.slice Ac x.n cc, .int .i64 mm]).cell j
                rw [Nat.zero_add, this]; simpa using hu⟩⟩
            go_wp2_with (at_builtin; refine wpList_append_any _ rfl _ _ 26 rfl W1.heap.size 52 i0 _ 2 32 Tryz.underlying26 hi hz0 hz1 hz2 rfl (by decide) v l'.length _ rfl (h1.alloc _) (X2.heap.size + 1) (some ⟨X2.heap.size, 0, none⟩) 1 1 [.slice Ac x.n cc, .int .i64 mm] rfl hrd (by simp [Value.oneCell']) (by unfold maxLen; omega) (by omega) (by simp; omega) ?_; intro v' X3 hown1 hgrow _; have hI := puti_app hbel h1 h2 h3 hrow hown1 hgrow; clear hrd hown1 hgrow hbel h1 h2 h3 hrow)
            go_roundw
            case rel => exact ⟨p + 1, _, _, Lf - mm, by omega, by go_num, rfl, rfl, hI, by omega, by omega, HX.out⟩
            case measure => simp [intOf]; omega
          · have HX := hide (show d ++ (capG Lf ((dat g.l).drop (p + 1)) ++ REST) = T by
              have := HST.out
              rw [HDR.out, capG_no (by show ¬ 0 < min x.m Lf; omega)] at this
              exact this)
            clear hrowa HDR HST
            go_wp2_with fail
            go_roundw
            case rel => exact ⟨p + 1, _, _, Lf, by omega, by go_num, rfl, rfl, hIa, hL0, hL1, HX.out⟩
            case measure => simp [intOf]; omega
        · obtain rfl : p = g.n := by omega
          have HX := hide (show d ++ (GS.drop (q + 1)).flatMap (capG s.n) = T by
            have := HST.out
            rw [List.drop_eq_nil_of_le (by rw [dat_len, HBG1.out.len]; exact Nat.le_refl _)] at this
            rw [HR.out]
            exact this)
          clear HST
          go_wp2_with fail
          go_roundw
          case rel => exact ⟨q + 1, _, _, by omega, by go_num, rfl, hI, HX.out⟩
          case measure => simp [intOf]; omega
    · obtain rfl : q = n1 := by omega
      have hdT : d = T := by
        have := HST.out
        rw [List.drop_eq_nil_of_le (by rw [← HGS.out, List.length_map, HGL.out]; exact Nat.le_refl _)] at this
        simpa using this
      subst hdT
      obtain ⟨hbel, ⟨l', h1, h2, h3⟩, _⟩ := hI
      have HD := hide (done_any W1.heap.size l'.length W1.heap.size v l' wr h1 (by rw [← dat_len, h2]; omega) h3 (Nat.le_refl _))
      have HOUT := hide (show ∀ (dd : Bg), dd.Perm (dat l') → (dd.Pairwise fun x y => ¬ cmpR y.1 x.1 < 0) → dd = topB s (dat l) ∧ doneB dd = (topB s (dat l), 0) from fun dd p1 p2 => by
        have a := okBag_asc HOK.out
        have hi := Its.of_asc a.1 fun x hx => (numB_ne (a.2.1 x hx)).1
        have ht := tops_its HGR.out hi s.n
        rw [HT.out] at ht
        rw [h2] at p1
        have h5 := (done_ok p1 ht.ok ht.apart ht.ne p2).2
        have h6 : dd = topB s (dat l) := by
          unfold topB
          rw [HGR.out.top a.1 HPOS.out hs0, HT.out]
          exact h5
        refine ⟨h6, ?_⟩
        unfold doneB
        rw [h6, (top_ok HGR.out HOK.out HPOS.out hs0).1]
        rfl)
      have HBL := hide (show ∀ W, Bar wr.heap.size (obl v) wr W → Below w.heap.size w W from fun W hb => (HBW.out.trans (hbel.mono (by have := HBW.out.size; omega))).trans (hb.below (by have := hbel.size; omega) fun x hx => by
        have := (h1.lt x (obl_mem hx)).1
        omega))
      have hsz := hbel.size
      clear hbel h1 h2 h3 HST
      go_wp2_with fail
      refine HD.out.mono ?_
      rintro e W5 ⟨dd, p1, p2, ⟨A5, n5, c5, l5, rfl, hd5, hb5, hc5⟩, hbar⟩
      obtain ⟨e1, e2⟩ := HOUT.out dd p1 (p2.imp fun h => by simpa using h)
      rw [e2] at hd5 ⊢
      have HR5 := hide (HBL.out W5 hbar)
      have HB5 := hide (hb5.mono (B' := W5.heap.size) (by have := hbar.size; omega))
      have HD5 := hide hd5
      clear p1 p2 e1 e2 hd5 hb5 hbar HD HOUT HBL
      go_wp2_with fail
      go_ret2
      exact ⟨A5, n5, c5, l5, rfl, HD5.out, HB5.out, hc5, HR5.out⟩
set_option maxRecDepth 100000 in
theorem Top_any (k : Sk) (s : Stp) (width : Int) (A : Option Addr) (n c : Nat) (l : List It) (w : World) (hs : SetK w w.heap.size k s) (hc : k.n ≤ k.c) (hc' : k.n' ≤ k.c') (hb : BagR w w.heap.size A n l) (hn : n ≤ 1000) (ht : Tab w) :
    Calls Tryz.prog 16 #[k.v s, .int .i64 width, .slice A n c] w (RetC w (topE s width (dat l))) := by
  obtain ⟨ans, hans⟩ : ∃ ans, topE s width (dat l) = ans := ⟨_, rfl⟩
  rw [hans]
  unfold topE at hans
  have HA := hide hans
  have hB1 := below_val (w := w) #[.slice k.A k.n k.c, .slice k.A' k.n' k.c', .bool s.dn, .int .i64 s.n] 24
  have k1 := Blk.new w 24 #[.slice k.A k.n k.c, .slice k.A' k.n' k.c', .bool s.dn, .int .i64 s.n]
  have hs1 := hs.up hB1
  have hb1 := (hb.below hB1).mono hB1.size
  have ht1 := ht.below hB1
  clear hs hb ht hans
  unfold Sk.v
  go_enter Tryz.func16, Tryz.ntmps16
  go_upto_region 1 with fail
  obtain ⟨W0, hW0⟩ : ∃ W0, w.alloc (.cells #[.slice k.A k.n k.c, .slice k.A' k.n' k.c', .bool s.dn, .int .i64 s.n] 24) = W0 := ⟨_, rfl⟩
  rw [hW0] at hB1 k1 hs1 hb1 ht1 ⊢
  clear hW0
  have c0 := k1.cell 0
  have c1 := k1.cell 1
  have c2 := k1.cell 2
  have c3 := k1.cell 3
  simp at c0 c1 c2 c3
  have hQ := asked_any k s width A n c l W0 hs1 hc hc' hb1 (by omega)
  unfold Sk.v at hQ
  have HQ := hide hQ
  clear hQ k1
  obtain ⟨er, her⟩ : ∃ er, askE s width (dat l) = er := ⟨_, rfl⟩
  rw [her] at HQ HA
  go_wp2_with fail
  refine HQ.out.mono ?_
  rintro e W1 ⟨rfl, hB2⟩
  have hB3 := bstep hB1 hB2
  by_cases h0 : er = 0
  · have z : (er != 0) = false := by simpa using h0
    rw [h0] at her
    have ho := ask_ok her
    have c0 := (hB2.cell (World.block_lt_of_cell? _ _ c0)).trans c0
    have c1 := (hB2.cell (World.block_lt_of_cell? _ _ c1)).trans c1
    have c2 := (hB2.cell (World.block_lt_of_cell? _ _ c2)).trans c2
    have c3 := (hB2.cell (World.block_lt_of_cell? _ _ c3)).trans c3
    have hT := top_any k s A n c l W1 (hs1.up hB2) ((hb1.below hB2).mono hB2.size) hn (FitS.of ho) (ht1.below hB2) ho.bag ho.pos (by have := ho.s0; omega) (by have := ho.sn; omega)
    unfold Sk.v at hT
    have HT := hide hT
    have HX := hide (show (topB s (dat l), 0) = ans by rw [← HA.out, h0]; rfl)
    clear hT ho hs1 hb1 ht1 hB2 hB1 HQ h0 her HA
    go_wp2_with fail
    refine HT.out.mono ?_
    rintro e W2 ⟨A2, n2, c2', l2, rfl, hd, hb2, hc2, hB4⟩
    have HB := hide (bstep hB3 hB4)
    have HBG := hide hb2
    have HD := hide (show dat l2 = ans.1 by rw [← HX.out]; exact hd)
    have HE := hide (show ans.2 = 0 by rw [← HX.out])
    clear hd hb2 hB4 hB3 HT
    go_wp2_with fail
    go_ret2
    unfold RetC
    rw [HE.out]
    exact ⟨A2, n2, c2', l2, rfl, HD.out, HBG.out, hc2, HB.out⟩
  · have z : (er != 0) = true := by simpa using h0
    have HX := hide (show ([], er) = ans by rw [← HA.out, if_neg h0])
    clear h0 her HA hs1 hb1 ht1 hB2 hB1 HQ
    go_wp2_with fail
    go_ret2
    unfold RetC
    rw [← HX.out]
    exact ⟨none, 0, 0, [], rfl, rfl, BagR.nil _ _, Nat.le_refl _, hB3⟩
end

section
open Go.RowKit
attribute [local go_sem] Oper.semAt_some
set_option linter.unusedVariables false
set_option linter.unusedSimpArgs false

theorem capF_some {n : Int} {t : (Rw × Int) × Int} {y : Rw × Int} (h : capF n t = some y) : y = (t.1.1, min t.1.2 (n + 1 - t.2)) ∧ 0 < min t.1.2 (n + 1 - t.2) := by
  unfold capF at h
  split at h
  · rename_i h0
    injection h with h
    exact ⟨h.symm, h0⟩
  · cases h
theorem lnF_apart {s : Stp} {b : Bg} (hb : Its b) : (lnF s b).Pairwise fun t u => t.1.1 ≠ u.1.1 := by
  have h1 := (hb.perm (lns_all s b).1).apart
  rw [← lnF_fst, List.pairwise_map] at h1
  exact h1
theorem caps_its {s : Stp} {b : Bg} (hb : Its b) {l : List ((Rw × Int) × Int)} (hl : l.Sublist (lnF s b)) (n : Int) : Its (l.filterMap (capF n)) := by
  refine ⟨fun y hy => ?_, ?_, fun y hy => ?_⟩
  · obtain ⟨t, ht, e⟩ := List.mem_filterMap.1 hy
    rw [(capF_some e).1]
    exact hb.ok t.1 (lnF_mem (hl.subset ht))
  · rw [List.pairwise_filterMap]
    refine ((lnF_apart hb).sublist hl).imp fun {t u} h x hx y hy => ?_
    rw [(capF_some hx).1, (capF_some hy).1]
    exact h
  · obtain ⟨t, ht, e⟩ := List.mem_filterMap.1 hy
    have := capF_some e
    rw [this.1]
    show min t.1.2 (n + 1 - t.2) ≠ 0
    omega
/-- What Put asks of a bag of the first items. -/
theorem its_put {xs b : Bg} (h : Its xs) (hb : ∀ x ∈ xs, -1000000 ≤ x.2 ∧ x.2 ≤ 1000000) {d : Bg} (hd : d = aftB [] xs) : d.length = xs.length ∧ (∀ z ∈ d, z.1.length ≤ 1000) ∧ ∀ z ∈ d, -4000000000000 ≤ z.2 ∧ z.2 ≤ 4000000000000 := by
  have hp := (aft_perm h).1
  rw [← hd] at hp
  refine ⟨hp.length_eq, fun z hz => ?_, fun z hz => ?_⟩
  · have h1 := h.ok z (hp.mem_iff.1 hz)
    unfold okR at h1
    rw [Bool.and_eq_true, decide_eq_true_eq] at h1
    omega
  · have := hb z (hp.mem_iff.1 hz)
    omega
theorem Askd.its {s : Stp} {width : Int} {b : Bg} (h : Askd s width b) : Its b := Its.of_asc (okBag_asc h.bag).1 fun x hx => (numB_ne ((okBag_asc h.bag).2.1 x hx)).1
theorem Askd.num {s : Stp} {width : Int} {b : Bg} (h : Askd s width b) : ∀ x ∈ b, 0 < x.2 ∧ x.2 ≤ 1000000 := fun x hx => ⟨h.pos x hx, (numB_ne ((okBag_asc h.bag).2.1 x hx)).2.2⟩
theorem Askd.row {s : Stp} {width : Int} {b : Bg} (h : Askd s width b) : ∀ x ∈ b, x.1.length ≤ 8 := fun x hx => by
  have := h.len x hx
  have := h.w8
  omega
set_option maxRecDepth 100000 in
set_option maxHeartbeats 8000000 in
theorem rtop_any (k : Sk) (s : Stp) (width : Int) (A : Option Addr) (n c : Nat) (l : List It) (w : World) (hs : SetK w w.heap.size k s) (hb : BagR w w.heap.size A n l) (hn : n ≤ 1000) (ho : Askd s width (dat l)) :
    Calls Tryz.prog 70 #[k.v s, .slice A n c] w (RetB w (topB s (dat l))) := by
  have HLN := hide hb.len
  have HO := hide ho
  have hB1 := below_val (w := w) #[.slice k.A k.n k.c, .slice k.A' k.n' k.c', .bool s.dn, .int .i64 s.n] 34
  have k1 := Blk.new w 34 #[.slice k.A k.n k.c, .slice k.A' k.n' k.c', .bool s.dn, .int .i64 s.n]
  have hs1 := hs.up hB1
  have hb1 := (hb.below hB1).mono hB1.size
  clear hs hb ho
  unfold Sk.v
  go_enter Tryz.func70, Tryz.ntmps70
  go_upto_region 2 with fail
  obtain ⟨W0, hW0⟩ : ∃ W0, w.alloc (.cells #[.slice k.A k.n k.c, .slice k.A' k.n' k.c', .bool s.dn, .int .i64 s.n] 34) = W0 := ⟨_, rfl⟩
  rw [hW0] at hB1 k1 hs1 hb1 ⊢
  clear hW0
  have c0 := k1.cell 0
  have c1 := k1.cell 1
  have c2 := k1.cell 2
  have c3 := k1.cell 3
  simp at c0 c1 c2 c3
  have hG := lines_any k s A n c l W0 hs1 hb1 hn HO.out.p HO.out.b HO.out.num
  unfold Sk.v at hG
  have HG := hide hG
  clear hG k1 hs1 hb1
  go_wp2_with fail
  refine HG.out.mono ?_
  rintro e W1 ⟨A1, n1, c1', ls, rfl, hls, hrd, hrows, hB2⟩
  have C3 := hide ((hB2.cell (World.block_lt_of_cell? _ _ c3)).trans c3)
  have hbl : w.heap.size < W1.heap.size := World.block_lt_of_cell? _ _ C3.out
  have HBW := hide (bstep hB1 hB2)
  have HW01 := hide hB2.size
  have hl1 : ls.length = n1 := hrd.len encLn_len (by omega)
  have HL1 := hide hl1
  have HRD := hide hrd
  have HRW := hide hrows
  have HLS := hide hls
  obtain ⟨F, hF⟩ : ∃ F, lnF s (dat l) = F := ⟨_, rfl⟩
  have HF := hide hF
  have HSUB := hide (show ∀ q : Nat, Its ((F.take q).filterMap (capF s.n)) from fun q => caps_its (s := s) HO.out.its (by rw [hF]; exact List.take_sublist q F) s.n)
  have hFl : F.length = n1 := by rw [← hF, ← hls, List.length_map, hl1]
  have hn1 : n1 ≤ 1000 := by
    rw [← hFl, ← hF, lnF_len, dat_len, HLN.out]
    exact hn
  have HFL := hide hFl
  have HBND := hide (show ∀ (j : Nat) (t : (Rw × Int) × Int), F[j]? = some t → 1 ≤ t.2 ∧ t.2 ≤ 1 + 1000000 * (j : Int) from by rw [← hF]; exact lnF_bound HO.out.num)
  have HMEM := hide (show ∀ t ∈ F, t.1 ∈ dat l from by rw [← hF]; exact fun t ht => lnF_mem ht)
  have hs0 := HO.out.s0
  have hs4 := HO.out.sn
  clear hls hrd hrows hl1 hF hFl hB2 hB1 c0 c1 c2 c3 HG
  go_wp2_with fail
  go_loopw [5, 7, 8] (fun v i _ wr => ∃ (q : Nat) (A2 : Option Addr) (n2 c2 : Nat) (lb : List It), q ≤ n1 ∧ i = .int .i64 q ∧ .slice A2 n2 c2 = v ∧ BagR wr wr.heap.size A2 n2 lb ∧ n2 ≤ c2 ∧ dat lb = aftB [] ((F.take q).filterMap (capF s.n)) ∧ Below W1.heap.size W1 wr) (fun _ i _ _ => n1 - (intOf i).toNat)
  case atStart => exact ⟨0, none, 0, 0, [], Nat.zero_le _, rfl, rfl, BagR.nil _ _, Nat.le_refl _, rfl, Below.refl _ _⟩
  case round =>
    obtain ⟨q, A2, n2, c2, lb, hq, rfl, rfl, hbg, hcp, hdl, hBw⟩ := hrel
    by_cases hlt : q < n1
    · obtain ⟨b, off, y, rfl, hbb, hyq, hcq⟩ := (HRD.out.below hBw).elem encLn_len HL1.out hlt
      have hbb := Nat.lt_of_lt_of_le hbb hBw.size
      have htq : F[q]? = some ((y.i.r, y.i.m), y.f) := by rw [← HF.out, ← HLS.out, List.getElem?_map, hyq]; rfl
      have hbd := HBND.out q _ htq
      have hmem := HMEM.out _ (List.mem_of_getElem? htq)
      have hnum := HO.out.num _ hmem
      have hy8 := HO.out.row _ hmem
      simp only at hbd hnum hy8
      have hrow := (HRW.out y (List.mem_of_getElem? hyq)).below hBw
      have hyl := hrow.len
      have hrowm := hrow.mono (B' := wr.heap.size) (by have := HW01.out; have := hBw.size; omega)
      have e0 : wr.cell? ⟨b, off + q * 4, none⟩ = some (.slice y.i.A y.i.n y.i.c) := by simpa using hcq 0 _ rfl
      have e1 : wr.cell? ⟨b, off + q * 4 + 1, none⟩ = some (.int .i64 y.i.m) := by simpa [← Nat.add_assoc] using hcq 1 _ rfl
      have e3 : wr.cell? ⟨b, off + q * 4 + 3, none⟩ = some (.int .i64 y.f) := by simpa [← Nat.add_assoc] using hcq 3 _ rfl
      have c3 := (hBw.cell (p := ⟨w.heap.size, 3, none⟩) hbl).trans C3.out
      have HTK := hide (show (F.take (q + 1)).filterMap (capF s.n) = (F.take q).filterMap (capF s.n) ++ (match capF s.n ((y.i.r, y.i.m), y.f) with | some z => [z] | none => []) by
        rw [take_snoc' htq, List.filterMap_append, List.filterMap_cons, List.filterMap_nil]
        cases capF s.n ((y.i.r, y.i.m), y.f) <;> rfl)
      have hip := its_put (b := []) (HSUB.out q) (fun x hx => by
        obtain ⟨t, ht, e⟩ := List.mem_filterMap.1 hx
        have h1 := capF_some e
        have h2 := HO.out.num _ (HMEM.out t (List.mem_of_mem_take ht))
        rw [h1.1]
        show -1000000 ≤ min t.1.2 (s.n + 1 - t.2) ∧ min t.1.2 (s.n + 1 - t.2) ≤ 1000000
        omega) hdl
      have hn2 : n2 ≤ 1000 := by
        have h1 := hip.1
        have h2 := List.length_filterMap_le (capF s.n) (F.take q)
        rw [List.length_take, HFL.out] at h2
        rw [dat_len, hbg.len] at h1
        omega
      have HPUT := hide hip.2
      obtain ⟨mm, hmm⟩ : ∃ mm, min y.i.m (s.n + 1 - y.f) = mm := ⟨_, rfl⟩
      have w1 : IntKind.i64.wrap (s.n + 1) = s.n + 1 := by rw [IntKind.wrap_i64]; omega
      have w2 : IntKind.i64.wrap (s.n + 1 - y.f) = s.n + 1 - y.f := by rw [IntKind.wrap_i64]; omega
      have q1 : (0 : Int) ≤ (q : Int) := by omega
      have q2 : (q : Int) < (n1 : Int) := by omega
      have HDL := hide hdl
      have hmb : mm ≤ 1000000 := by omega
      clear hcq hyq htq hbd hmem hnum hip hrow hdl
      go_wp2_with fail
      refine Held.begin (fun z => z.cell? ⟨b, off + q * 4 + 1, none⟩ = some (.int .i64 y.i.m) ∧ z.cell? ⟨b, off + q * 4 + 3, none⟩ = some (.int .i64 y.f) ∧ z.cell? ⟨w.heap.size, 3, none⟩ = some (.int .i64 s.n)) 100 (by kernel_rfl) ?_
      obtain ⟨X1, hX1⟩ : ∃ X1, wr.drew = X1 := ⟨_, rfl⟩
      have hD : Below wr.heap.size wr X1 := by rw [← hX1]; exact (Below.refl _ _).drew
      have hS : X1.cell? ⟨b, off + q * 4 + 1, none⟩ = some (.int .i64 y.i.m) ∧ X1.cell? ⟨b, off + q * 4 + 3, none⟩ = some (.int .i64 y.f) ∧ X1.cell? ⟨w.heap.size, 3, none⟩ = some (.int .i64 s.n) := by rw [← hX1]; exact ⟨e1, e3, c3⟩
      rw [hX1]
      clear hX1 e1 e3 c3
      refine Held.take (i := 0) (.slice (some ⟨b, off, none⟩) n1 c1') rfl hS (by kernel_rfl) (by kernel_rfl) (by kernel_rfl) (by kernel_rfl) (fun _ _ _ h => h) rfl (fun y hy => by obtain ⟨x1, x2, x3⟩ := hy; go_simp) ?_
      try simp only [Act.put]
      refine Held.take (i := 1) (.int .i64 (q : Int)) rfl hS (by kernel_rfl) (by kernel_rfl) (by kernel_rfl) (by kernel_rfl) (fun _ _ _ h => h) rfl (fun y hy => by obtain ⟨x1, x2, x3⟩ := hy; go_simp) ?_
      try simp only [Act.put]
      refine Held.take (i := 2) (.pointer (some ⟨b, off + q * 4, none⟩)) rfl hS (by kernel_rfl) (by kernel_rfl) (by kernel_rfl) (by kernel_rfl) (fun _ _ _ h => h) rfl (fun y hy => by obtain ⟨x1, x2, x3⟩ := hy; go_simp) ?_
      try simp only [Act.put]
      refine Held.take (i := 3) (.pointer (some ⟨b, off + q * 4, none⟩)) rfl hS (by kernel_rfl) (by kernel_rfl) (by kernel_rfl) (by kernel_rfl) (fun _ _ _ h => h) rfl (fun y hy => by obtain ⟨x1, x2, x3⟩ := hy; go_simp) ?_
      try simp only [Act.put]
      refine Held.take (i := 4) (.pointer (some ⟨b, off + q * 4 + 1, none⟩)) rfl hS (by kernel_rfl) (by kernel_rfl) (by kernel_rfl) (by kernel_rfl) (fun _ _ _ h => h) rfl (fun y hy => by obtain ⟨x1, x2, x3⟩ := hy; go_simp) ?_
      try simp only [Act.put]
      refine Held.take (i := 5) (.int .i64 y.i.m) rfl hS (by kernel_rfl) (by kernel_rfl) (by kernel_rfl) (by kernel_rfl) (fun _ _ _ h => h) rfl (fun y hy => by obtain ⟨x1, x2, x3⟩ := hy; go_simp) ?_
      try simp only [Act.put]
      refine Held.take (i := 6) (.pointer (some ⟨w.heap.size, 3, none⟩)) rfl hS (by kernel_rfl) (by kernel_rfl) (by kernel_rfl) (by kernel_rfl) (fun _ _ _ h => h) rfl (fun y hy => by obtain ⟨x1, x2, x3⟩ := hy; go_simp) ?_
      try simp only [Act.put]
      refine Held.take (i := 7) (.int .i64 s.n) rfl hS (by kernel_rfl) (by kernel_rfl) (by kernel_rfl) (by kernel_rfl) (fun _ _ _ h => h) rfl (fun y hy => by obtain ⟨x1, x2, x3⟩ := hy; go_simp) ?_
      try simp only [Act.put]
      refine Held.take (i := 8) (.int .i64 (s.n + 1)) rfl hS (by kernel_rfl) (by kernel_rfl) (by kernel_rfl) (by kernel_rfl) (fun _ _ _ h => h) rfl (fun y hy => by obtain ⟨x1, x2, x3⟩ := hy; go_simp) ?_
      try simp only [Act.put]
      refine Held.take (i := 9) (.slice (some ⟨b, off, none⟩) n1 c1') rfl hS (by kernel_rfl) (by kernel_rfl) (by kernel_rfl) (by kernel_rfl) (fun _ _ _ h => h) rfl (fun y hy => by obtain ⟨x1, x2, x3⟩ := hy; go_simp) ?_
      try simp only [Act.put]
      refine Held.take (i := 10) (.int .i64 (q : Int)) rfl hS (by kernel_rfl) (by kernel_rfl) (by kernel_rfl) (by kernel_rfl) (fun _ _ _ h => h) rfl (fun y hy => by obtain ⟨x1, x2, x3⟩ := hy; go_simp) ?_
      try simp only [Act.put]
      refine Held.take (i := 11) (.pointer (some ⟨b, off + q * 4, none⟩)) rfl hS (by kernel_rfl) (by kernel_rfl) (by kernel_rfl) (by kernel_rfl) (fun _ _ _ h => h) rfl (fun y hy => by obtain ⟨x1, x2, x3⟩ := hy; go_simp) ?_
      try simp only [Act.put]
      refine Held.take (i := 12) (.pointer (some ⟨b, off + q * 4 + 3, none⟩)) rfl hS (by kernel_rfl) (by kernel_rfl) (by kernel_rfl) (by kernel_rfl) (fun _ _ _ h => h) rfl (fun y hy => by obtain ⟨x1, x2, x3⟩ := hy; go_simp) ?_
      try simp only [Act.put]
      refine Held.take (i := 13) (.int .i64 y.f) rfl hS (by kernel_rfl) (by kernel_rfl) (by kernel_rfl) (by kernel_rfl) (fun _ _ _ h => h) rfl (fun y hy => by obtain ⟨x1, x2, x3⟩ := hy; go_simp) ?_
      try simp only [Act.put]
      refine Held.take (i := 14) (.int .i64 (s.n + 1 - y.f)) rfl hS (by kernel_rfl) (by kernel_rfl) (by kernel_rfl) (by kernel_rfl) (fun _ _ _ h => h) rfl (fun y hy => by obtain ⟨x1, x2, x3⟩ := hy; go_simp) ?_
      try simp only [Act.put]
      refine Held.take (i := 15) (.int .i64 mm) rfl hS (by kernel_rfl) (by kernel_rfl) (by kernel_rfl) (by kernel_rfl) (fun _ _ _ h => h) rfl (fun y hy => by obtain ⟨x1, x2, x3⟩ := hy; go_simp) ?_
      try simp only [Act.put]
      refine Held.one (i := 16) rfl (by kernel_rfl) rfl (fun K hK => ?_)
      unfold Oper.wp
      go_simp
      refine hK _ _ (fun _ => hS) ?_
      try simp only [Act.put]
      clear hK K
      refine Held.done (by kernel_rfl) ?_
      have hbg1 := (hbg.below hD).mono hD.size
      have hrow1 := (hrowm.below hD).mono hD.size
      have hBw1 := bstep hBw hD
      have e0 := (hD.cell hbb).trans e0
      clear hbg hrowm hBw hS hD
      by_cases hm : 0 < mm
      · have HE := hide (show aftB [] ((F.take (q + 1)).filterMap (capF s.n)) = putB (dat lb) y.i.r mm by
          have h1 : capF s.n ((y.i.r, y.i.m), y.f) = some (y.i.r, mm) := by
            unfold capF
            rw [if_pos (show 0 < min y.i.m (s.n + 1 - y.f) by omega)]
            show some (y.i.r, min y.i.m (s.n + 1 - y.f)) = _
            rw [hmm]
          rw [HTK.out, h1]
          show aftB [] (_ ++ [(y.i.r, mm)]) = _
          rw [aft_snoc, ← HDL.out])
        have HPC := hide (RPut_any A2 n2 c2 lb y.i.A y.i.n y.i.c y.i.r mm X1 hbg1 (by omega) hrow1 (by omega) HPUT.out.1 HPUT.out.2 (by omega))
        clear HTK hbg1 hrow1 hmm HDL
        go_wp2_with fail
        refine HPC.out.mono ?_
        rintro e X2 ⟨A3, n3, c3, l3, rfl, hd3, hb3, hc3, hB3⟩
        have hBf := bstep hBw1 hB3
        clear hB3 hBw1 HPC
        go_wp2_with fail
        go_roundw
        case rel => exact ⟨q + 1, _, _, _, l3, by omega, by go_num, rfl, hb3, hc3, by rw [HE.out]; exact hd3, hBf⟩
        case measure => simp [intOf]; omega
      · have HE := hide (show dat lb = aftB [] ((F.take (q + 1)).filterMap (capF s.n)) by
          have h1 : capF s.n ((y.i.r, y.i.m), y.f) = none := by
            unfold capF
            rw [if_neg (show ¬ 0 < min y.i.m (s.n + 1 - y.f) by omega)]
          rw [HTK.out, h1]
          show dat lb = aftB [] (_ ++ [])
          rw [List.append_nil]
          exact HDL.out)
        clear HTK hrow1 hmm HDL
        go_wp2_with fail
        go_roundw
        case rel => exact ⟨q + 1, _, _, _, lb, by omega, by go_num, rfl, hbg1, hcp, HE.out, hBw1⟩
        case measure => simp [intOf]; omega
    · obtain rfl : q = n1 := by omega
      have HX := hide (show dat lb = topB s (dat l) by
        rw [hdl, take_all HFL.out]
        unfold topB topL
        rw [HF.out])
      have HB := hide (HBW.out.trans (hBw.mono (by have := HBW.out.size; omega)))
      clear hdl
      go_wp2_with fail
      go_ret
      exact ⟨A2, n2, c2, lb, rfl, HX.out, hbg, hcp, HB.out⟩
set_option maxRecDepth 100000 in
theorem RTop_any (k : Sk) (s : Stp) (width : Int) (A : Option Addr) (n c : Nat) (l : List It) (w : World) (hs : SetK w w.heap.size k s) (hb : BagR w w.heap.size A n l) (hn : n ≤ 1000) :
    Calls Tryz.prog 23 #[k.v s, .int .i64 width, .slice A n c] w (RetC w (topE s width (dat l))) := by
  obtain ⟨ans, hans⟩ : ∃ ans, topE s width (dat l) = ans := ⟨_, rfl⟩
  rw [hans]
  unfold topE at hans
  have HA := hide hans
  have hB1 := below_val (w := w) #[.slice k.A k.n k.c, .slice k.A' k.n' k.c', .bool s.dn, .int .i64 s.n] 34
  have k1 := Blk.new w 34 #[.slice k.A k.n k.c, .slice k.A' k.n' k.c', .bool s.dn, .int .i64 s.n]
  have hs1 := hs.up hB1
  have hb1 := (hb.below hB1).mono hB1.size
  clear hs hb hans
  unfold Sk.v
  go_enter Tryz.func23, Tryz.ntmps23
  go_upto_region 1 with fail
  obtain ⟨W0, hW0⟩ : ∃ W0, w.alloc (.cells #[.slice k.A k.n k.c, .slice k.A' k.n' k.c', .bool s.dn, .int .i64 s.n] 34) = W0 := ⟨_, rfl⟩
  rw [hW0] at hB1 k1 hs1 hb1 ⊢
  clear hW0
  have c0 := k1.cell 0
  have c1 := k1.cell 1
  have c2 := k1.cell 2
  have c3 := k1.cell 3
  simp at c0 c1 c2 c3
  have hQ := judged_any k s width A n c l W0 hs1 hb1
  unfold Sk.v at hQ
  have HQ := hide hQ
  clear hQ k1
  obtain ⟨er, her⟩ : ∃ er, askE s width (dat l) = er := ⟨_, rfl⟩
  rw [her] at HQ HA
  go_wp2_with fail
  refine HQ.out.mono ?_
  rintro e W1 ⟨rfl, hB2⟩
  have hB3 := bstep hB1 hB2
  by_cases h0 : er = 0
  · have z : (er != 0) = false := by simpa using h0
    rw [h0] at her
    have ho := ask_ok her
    have c0 := (hB2.cell (World.block_lt_of_cell? _ _ c0)).trans c0
    have c1 := (hB2.cell (World.block_lt_of_cell? _ _ c1)).trans c1
    have c2 := (hB2.cell (World.block_lt_of_cell? _ _ c2)).trans c2
    have c3 := (hB2.cell (World.block_lt_of_cell? _ _ c3)).trans c3
    have hT := rtop_any k s width A n c l W1 (hs1.up hB2) ((hb1.below hB2).mono hB2.size) hn ho
    unfold Sk.v at hT
    have HT := hide hT
    have HX := hide (show (topB s (dat l), 0) = ans by rw [← HA.out, h0]; rfl)
    clear hT ho hs1 hb1 hB2 hB1 HQ h0 her HA
    go_wp2_with fail
    refine HT.out.mono ?_
    rintro e W2 ⟨A2, n2, c2', l2, rfl, hd, hb2, hc2, hB4⟩
    have HB := hide (bstep hB3 hB4)
    have HBG := hide hb2
    have HD := hide (show dat l2 = ans.1 by rw [← HX.out]; exact hd)
    have HE := hide (show ans.2 = 0 by rw [← HX.out])
    clear hd hb2 hB4 hB3 HT
    go_wp2_with fail
    go_ret2
    unfold RetC
    rw [HE.out]
    exact ⟨A2, n2, c2', l2, rfl, HD.out, HBG.out, hc2, HB.out⟩
  · have z : (er != 0) = true := by simpa using h0
    have HX := hide (show ([], er) = ans by rw [← HA.out, if_neg h0])
    clear h0 her HA hs1 hb1 hB2 hB1 HQ
    go_wp2_with fail
    go_ret2
    unfold RetC
    rw [← HX.out]
    exact ⟨none, 0, 0, [], rfl, rfl, BagR.nil _ _, Nat.le_refl _, hB3⟩
end

end Go.Proofs.YtljglceaibgknaaGreatDoor
