/-
  The walk of rank.Groups: the groups of a bag, each as a bag.
-/
import Derived.Test.YtljglceaibgknaaGreatDoorRgM
import Derived.Test.YtljglceaibgknaaGreatDoorRkW
namespace Go.Proofs.YtljglceaibgknaaGreatDoor
open Go.RowKit
attribute [local go_sem] Oper.semAt_some
set_option linter.unusedVariables false
set_option linter.unusedSimpArgs false

/-- What rank.done leaves; it is the row that was given, or none. -/
def RetDone2 (w : World) (B : Nat) (v : Value) (l : List It) (e : Ending) (w' : World) : Prop := ∃ d : Bg, d.Perm (dat l) ∧ d.Pairwise (fun x y => ¬ cmpR y.1 x.1 < 0) ∧ (∃ (A : Option Addr) (n c : Nat) (l' : List It), e = .returned (.tuple #[.slice A n c, .int .i64 (doneB d).2]) ∧ dat l' = (doneB d).1 ∧ BagR w' B A n l' ∧ n ≤ c ∧ ∀ b o, A = some ⟨b, o, none⟩ → v.ownBlock = some b) ∧ Bar w.heap.size (obl v) w w'
theorem done2_any (base n B : Nat) (v : Value) (l : List It) (w : World) (h : w.ownsRow base 52 2 v n (l.flatMap encIt)) (hn : n ≤ 100000) (hr : Rows_ w B l) (hB : B ≤ base) :
    Calls Tryz.prog 54 #[v] w (RetDone2 w B v l) := by
  have HS := hide (SortV base n B v l w h hn hr hB 117 #[] (enters_of Tryz.func117 (by kernel_rfl) rfl) (fun x y => cmpR x.r y.r) (swo_tot (Tot.row.comap It.r)) (fun x y W _ _ h1 h2 _ => done1_any x y B W h1 h2))
  have h0 := h.1
  clear h hr
  go_enter Tryz.func54, Tryz.ntmps54
  go_wp2_with fail
  refine HS.out.mono ?_
  rintro e W1 ⟨rfl, l', A, n1, c, rfl, hnc, hpm, hpw, hrd, hrows, hbar⟩
  clear HS
  have hl1 : l'.length = n1 := hrd.len encIt_len (by omega)
  have hl2 : l.length = n := by
    have := h0
    rw [flat_length encIt_len] at this
    omega
  have hl3 := hpm.length_eq
  have hbag : BagR W1 B A n1 l' := ⟨hrd, hrows, by omega⟩
  have HD1 := hide (show (dat l').Perm (dat l) from hpm.map _)
  have HD2 := hide (show (dat l').Pairwise (fun x y => ¬ cmpR y.1 x.1 < 0) from by
    unfold dat
    rw [List.pairwise_map]
    exact hpw)
  have HV := hide (BagValid_any A n1 c B l' W1 hbag)
  obtain ⟨d, hd⟩ : ∃ d, dat l' = d := ⟨_, rfl⟩
  rw [hd] at HV HD1 HD2
  clear hpm hpw hrd hrows
  cases ho : okBag d
  · rw [ho] at HV
    have HE := hide (show doneB d = ([], 4) by unfold doneB; rw [ho]; rfl)
    go_wp2_with fail
    refine HV.out.mono ?_
    rintro e W2 ⟨rfl, hB2⟩
    have HR := hide (hbar.trans (Bar.of_below (hB2.mono hbar.size) _))
    clear hbar hB2 HV hbag
    go_wp2
    go_ret2
    refine ⟨d, HD1.out, HD2.out.imp (fun h => by omega), ?_, HR.out⟩
    rw [HE.out]
    exact ⟨none, 0, 0, [], rfl, rfl, BagR.nil _ _, Nat.le_refl _, nofun⟩
  · rw [ho] at HV
    have HE := hide (show doneB d = (d, 0) by unfold doneB; rw [ho]; rfl)
    go_wp2_with fail
    refine HV.out.mono ?_
    rintro e W2 ⟨rfl, hB2⟩
    have HR := hide (hbar.trans (Bar.of_below (hB2.mono hbar.size) _))
    have HG := hide (hbag.below hB2)
    clear hbar hB2 HV hbag
    go_wp2
    go_ret2
    refine ⟨d, HD1.out, HD2.out.imp (fun h => by omega), ?_, HR.out⟩
    rw [HE.out]
    exact ⟨A, n1, c, l', rfl, hd, HG.out, hnc, fun b o e => by rw [e]; rfl⟩
/-- Items put together so far; their rows lie below B or in blocks of values. -/
structure PutB (w : World) (B : Nat) (d : Bg) (v : Value) (W : World) : Prop where
  bel : Below w.heap.size w W
  ow : ∃ l : List It, W.ownsRow w.heap.size 52 2 v l.length (l.flatMap encIt) ∧ dat l = d ∧ Rows_ W B l
theorem PutB.below {w W W' : World} {B : Nat} {d : Bg} {v : Value} (h : PutB w B d v W) (hb : Below W.heap.size W W') : PutB w B d v W' := by
  obtain ⟨h1, ⟨l, h2, h3, h4⟩⟩ := h
  exact ⟨bstep h1 hb, ⟨l, own_below h2 hb, h3, h4.below hb⟩⟩
theorem putb_app {w X2 X3 : World} {B : Nat} {d : Bg} {v v' : Value} {l : List It} {Ac : Option Addr} {n cc : Nat} {r : Rw} {m : Int} (hBw : B ≤ w.heap.size) (hB : Below w.heap.size w X2) (h1 : X2.ownsRow w.heap.size 52 2 v l.length (l.flatMap encIt)) (h2 : dat l = d) (h3 : Rows_ X2 B l)
    (hrow : RowK X2 B Ac n r) (hown : X3.ownsRow w.heap.size 52 2 v' (l.length + 1) (l.flatMap encIt ++ [.slice Ac n cc, .int .i64 m])) (hgrow : (X2.alloc (.cells #[.slice Ac n cc, .int .i64 m] 52)).grownBy X3 v.ownBlock) : PutB w B (d ++ [(r, m)]) v' X3 := by
  have hs := hB.size
  refine ⟨below_append (hB.alloc hs _) (h1.alloc _) (by simp; omega) hgrow, ⟨l ++ [⟨Ac, n, cc, r, m⟩], ?_, by rw [dat_snoc, h2], fun i hi => ?_⟩⟩
  · rw [List.length_append, List.flatMap_append]
    simpa [encIt] using hown
  · have key : RowK X2 B i.A i.n i.r := by
      rcases List.mem_append.1 hi with h | h
      · exact h3 i h
      · obtain rfl : i = ⟨Ac, n, cc, r, m⟩ := by simpa using h
        exact hrow
    exact (key.alloc _).grown (h1.alloc _) (by decide) hBw hgrow
/-- A list of bags that a call makes; none lies in the list's own block. -/
structure GoI (w : World) (d : List Bg) (v : Value) (W : World) : Prop where
  bel : Below w.heap.size w W
  ow : ∃ gl : List Gp, W.ownsRow w.heap.size 26 1 v gl.length (gl.flatMap encGp) ∧ gl.map (fun g => dat g.l) = d ∧ ∀ g ∈ gl, BagR W w.heap.size g.A g.n g.l ∧ g.n ≤ g.c ∧ ∀ b o, 0 < g.n → g.A = some ⟨b, o, none⟩ → v.ownBlock ≠ some b
theorem GoI.below {w W W' : World} {d : List Bg} {v : Value} (h : GoI w d v W) (hb : Below W.heap.size W W') : GoI w d v W' := by
  obtain ⟨h1, ⟨gl, h2, h3, h4⟩⟩ := h
  exact ⟨bstep h1 hb, ⟨gl, own_below h2 hb, h3, fun g hg => ⟨(h4 g hg).1.below hb, (h4 g hg).2⟩⟩⟩
theorem GoI.push {w W W' : World} {d : List Bg} {v v' : Value} {gl : List Gp} (g : Gp) (hbel : Below w.heap.size w W) (hown : W.ownsRow w.heap.size 26 1 v gl.length (gl.flatMap encGp)) (hd : gl.map (fun g => dat g.l) = d)
    (hgl : ∀ g ∈ gl, BagR W w.heap.size g.A g.n g.l ∧ g.n ≤ g.c ∧ ∀ b o, 0 < g.n → g.A = some ⟨b, o, none⟩ → v.ownBlock ≠ some b)
    (hg : BagR W w.heap.size g.A g.n g.l) (hc : g.n ≤ g.c) (hfar : ∀ b o, 0 < g.n → g.A = some ⟨b, o, none⟩ → v.ownBlock ≠ some b)
    (hown' : W'.ownsRow w.heap.size 26 1 v' (gl.length + 1) (gl.flatMap encGp ++ [.slice g.A g.n g.c])) (hgrow : (W.alloc (.cells #[.slice g.A g.n g.c] 26)).grownBy W' v.ownBlock)
    (hat : v'.ownBlock = v.ownBlock ∨ v'.ownBlock = some (W.alloc (.cells #[.slice g.A g.n g.c] 26)).heap.size) : GoI w (d ++ [dat g.l]) v' W' := by
  have hs := hbel.size
  have hBa := below_val (w := W) #[.slice g.A g.n g.c] 26
  have hbar : Bar (W.alloc (.cells #[.slice g.A g.n g.c] 26)).heap.size (obl v) (W.alloc (.cells #[.slice g.A g.n g.c] 26)) W' := (Bar.refl _ _ _).grown hgrow (Nat.le_refl _) fun q hq => .inr (mem_obl hq)
  have hkeep : ∀ k : Gp, BagR W w.heap.size k.A k.n k.l → (∀ b o, 0 < k.n → k.A = some ⟨b, o, none⟩ → v.ownBlock ≠ some b) → BagR W' w.heap.size k.A k.n k.l := fun k hk hf =>
    ⟨(hk.below hBa).rd.bar hbar fun h0 b o e hm => hf b o h0 e (obl_mem hm), (hk.below hBa).rows.grown (hown.alloc _) (by decide) (Nat.le_refl _) hgrow, hk.le⟩
  have hfar' : ∀ k : Gp, BagR W w.heap.size k.A k.n k.l → (∀ b o, 0 < k.n → k.A = some ⟨b, o, none⟩ → v.ownBlock ≠ some b) → ∀ b o, 0 < k.n → k.A = some ⟨b, o, none⟩ → v'.ownBlock ≠ some b := fun k hk hf b o h0 e => by
    rcases hat with e2 | e2
    · rw [e2]; exact hf b o h0 e
    · rw [e2]
      intro e3
      injection e3 with e3
      obtain ⟨b', o', e4, hlt, _⟩ := hk.rd.2 h0
      rw [e] at e4
      injection e4 with e4
      injection e4 with e5
      have := hBa.size
      omega
  refine ⟨below_append (hbel.alloc hs _) (hown.alloc _) (by simp; omega) hgrow, ⟨gl ++ [g], ?_, by rw [List.map_append, hd]; rfl, fun k hk => ?_⟩⟩
  · rw [List.length_append, List.flatMap_append]
    simpa [encGp] using hown'
  · rcases List.mem_append.1 hk with hk | hk
    · obtain ⟨a, b, c⟩ := hgl k hk
      exact ⟨hkeep k a c, b, hfar' k a c⟩
    · obtain rfl := List.mem_singleton.1 hk
      exact ⟨hkeep k hg hfar, hc, hfar' k hg hfar⟩
/-- A list of bags and an error, handed back. -/
def RetGs (w : World) (p : List Bg × Int) (e : Ending) (w' : World) : Prop := ∃ (A : Option Addr) (n c : Nat) (gl : List Gp), e = .returned (.tuple #[.slice A n c, .int .i64 p.2]) ∧ gl.map (fun g => dat g.l) = p.1 ∧ Reads w' w'.heap.size 1 A n (gl.flatMap encGp) ∧ (∀ g ∈ gl, BagR w' w'.heap.size g.A g.n g.l ∧ g.n ≤ g.c) ∧ n ≤ 1000 ∧ Below w.heap.size w w'
theorem infoBag1 : (Tryz.prog.info? 26).map (fun i => (i.zero, i.size, i.bytes)) = some (some (.slice none 0 0), 1, 24) := by kernel_rfl
set_option maxRecDepth 100000 in
set_option maxHeartbeats 16000000 in
theorem Groups_any (k : Sk) (s : Stp) (width : Int) (A : Option Addr) (n c : Nat) (l : List It) (w : World) (hs : SetK w w.heap.size k s) (hc : k.n ≤ k.c) (hc' : k.n' ≤ k.c') (hb : BagR w w.heap.size A n l) (hn : n ≤ 1000) (ht : Tab w) :
    Calls Tryz.prog 12 #[k.v s, .int .i64 width, .slice A n c] w (RetGs w (grpE s width (dat l))) := by
  obtain ⟨i0, hi, hz0, hz1, hz2⟩ := info_parts3 infoItem
  obtain ⟨i1, hi', hz0', hz1', hz2'⟩ := info_parts3 infoBag1
  have HLN := hide hb.len
  obtain ⟨ans, hans⟩ : ∃ ans, grpE s width (dat l) = ans := ⟨_, rfl⟩
  rw [hans]
  unfold grpE at hans
  have HA := hide hans
  have hB1 := below_val (w := w) #[.slice k.A k.n k.c, .slice k.A' k.n' k.c', .bool s.dn, .int .i64 s.n] 24
  have k1 := Blk.new w 24 #[.slice k.A k.n k.c, .slice k.A' k.n' k.c', .bool s.dn, .int .i64 s.n]
  have hs1 := hs.up hB1
  have hb1 := (hb.below hB1).mono hB1.size
  have ht1 := ht.below hB1
  clear hs hb ht hans
  unfold Sk.v
  go_enter Tryz.func12, Tryz.ntmps12
  go_upto_region 1 with fail
  obtain ⟨W0, hW0⟩ : ∃ W0, w.alloc (.cells #[.slice k.A k.n k.c, .slice k.A' k.n' k.c', .bool s.dn, .int .i64 s.n] 24) = W0 := ⟨_, rfl⟩
  obtain ⟨bs, hbs⟩ : ∃ bs, w.heap.size = bs := ⟨_, rfl⟩
  rw [hW0] at hB1 k1 hs1 hb1 ht1 ⊢
  rw [hbs] at k1 ⊢
  clear hW0 hbs
  have hbx : BoxS W0 bs k s := ⟨by simpa using k1.cell 0, by simpa using k1.cell 1, by simpa using k1.cell 2, by simpa using k1.cell 3⟩
  have c0 := hbx.c0
  have c1 := hbx.c1
  have c2 := hbx.c2
  have c3 := hbx.c3
  have hQ := asked_any k s width A n c l W0 hs1 hc hc' hb1 (by omega)
  unfold Sk.v at hQ
  have HQ := hide hQ
  obtain ⟨er, her⟩ : ∃ er, askE s width (dat l) = er := ⟨_, rfl⟩
  rw [her] at HQ HA
  clear hQ k1
  go_wp2_with fail
  refine HQ.out.mono ?_
  rintro e Wa ⟨rfl, hB2⟩
  have hBa := bstep hB1 hB2
  by_cases h0 : er ≠ 0
  · have z : (er != 0) = true := by simpa using h0
    have HX := hide (show ([], er) = ans by rw [← HA.out, if_neg h0])
    clear h0 her HA hs1 hb1 ht1 hB2 hB1 HQ c0 c1 c2 c3 hbx
    go_wp2_with fail
    go_ret2
    rw [← HX.out]
    exact ⟨none, 0, 0, [], rfl, rfl, Reads.none_, nofun, by omega, hBa⟩
  have z : (er != 0) = false := by simpa using h0
  have her0 : askE s width (dat l) = 0 := by rw [her]; simpa using h0
  have ho := ask_ok her0
  have HO := hide ho
  have HX := hide (show (grpF s (dat l), 0) = ans by rw [← HA.out, if_pos (by simpa using h0)])
  have hbx2 := hbx.below hB2
  have hG := groups_any k s A n c l Wa (hs1.up hB2) ((hb1.below hB2).mono hB2.size) hn (FitS.of ho) (ht1.below hB2)
  unfold Sk.v at hG
  have HG := hide hG
  clear hG ho her0 h0 her HA hs1 hb1 ht1 hB2 hB1 HQ c0 c1 c2 c3 hbx
  have c0 := hbx2.c0
  have c1 := hbx2.c1
  have c2 := hbx2.c2
  have c3 := hbx2.c3
  go_wp2_with fail
  refine HG.out.mono ?_
  rintro e W1 ⟨A1, n1, c1', gl, rfl, hrd, hbag, hgrs, hB3⟩
  have HBW := hide (bstep hBa hB3)
  have HW01 := hide hB3.size
  have hl1 : gl.length = n1 := hrd.len encGp_len (by omega)
  have HGL := hide hl1
  obtain ⟨GS, hGS⟩ : ∃ GS, (gl.map fun g => dat g.l) = GS := ⟨_, rfl⟩
  rw [hGS] at hgrs
  have HGS := hide hGS
  have HGR := hide hgrs
  have HFG := hide (show grpF s (dat l) = GS.map (aftB []) from hgrs.groups (okBag_asc HO.out.bag).1 HO.out.pos)
  have hn1 : n1 ≤ 1000 := by
    have := hgrs.count
    rw [← hGS, List.length_map, hl1, dat_len, HLN.out] at this
    omega
  have HRD := hide hrd
  have HBG := hide hbag
  have hP : GoI W1 [] (.slice none 0 0) W1 := ⟨Below.refl _ _, ⟨[], World.ownsRow_nil _ _ _ _, rfl, nofun⟩⟩
  clear hrd hbag hgrs hGS hl1 hB3 hBa c0 c1 c2 c3 HG hbx2
  go_wp2_with fail
  go_loopw [9, 26] (fun v i wr => ∃ (q : Nat) (v0 : Value), q ≤ n1 ∧ i = .int .i64 q ∧ v0 = v ∧ GoI W1 ((GS.take q).map (aftB [])) v0 wr) (fun _ i _ => n1 - (intOf i).toNat)
  case atStart => exact ⟨0, _, Nat.zero_le _, rfl, rfl, hP⟩
  case round =>
    clear hP
    obtain ⟨q, v, hq, rfl, rfl, hI⟩ := hrel
    by_cases hlt : q < n1
    · obtain ⟨b, off, g, rfl, hgq, hcell⟩ := gl_at (HRD.out.below hI.bel) hlt
      have hgm := List.mem_of_getElem? hgq
      have hgd : GS[q]? = some (dat g.l) := by rw [← HGS.out, List.getElem?_map, hgq]; rfl
      have hgd2 := List.mem_of_getElem? hgd
      have HTK := hide (show (GS.take (q + 1)).map (aftB []) = (GS.take q).map (aftB []) ++ [aftB [] (dat g.l)] by rw [take_snoc' hgd, List.map_append]; rfl)
      have hits := HGR.out.its HO.out.its hgd2
      have hgok := grp_ok HGR.out HO.out.bag hgd2
      have HITS := hide hits
      have HGOK := hide hgok
      have HDN := hide (show ∀ dd : Bg, dd.Perm (dat g.l) → (dd.Pairwise fun x y => ¬ cmpR y.1 x.1 < 0) → doneB dd = (aftB [] (dat g.l), 0) from fun dd p1 p2 => by
        have h5 := (done_ok p1 hits.ok hits.apart hits.ne p2).2
        unfold doneB
        rw [h5, hgok]
        rfl)
      have HBG1 := hide (HBG.out g hgm)
      have HRL1 := hide (show ∀ x ∈ g.l, x.r.length ≤ 8 from fun x hx => HO.out.row _ (HGR.out.mem hgd2 (x := (x.r, x.m)) (List.mem_map.2 ⟨x, hx, rfl⟩)))
      have hgn := HBG1.out.le
      have hgn2 : g.n ≤ 1000 := by
        have h1 := HGR.out.len hgd2
        rw [dat_len, dat_len, HLN.out, HBG1.out.len] at h1
        omega
      obtain ⟨wk, hwk⟩ : ∃ wk : World, wk = wr := ⟨_, rfl⟩
      subst hwk
      have hW1k := hI.bel.size
      have HGO := hide hI
      have hI0 : PutB wk W1.heap.size [] (.slice none 0 0) wk := ⟨Below.refl _ _, ⟨[], World.ownsRow_nil _ _ _ _, rfl, by intro i hi; cases hi⟩⟩
      have hbk := HBG1.out.below hI.bel
      have HBK := hide hbk
      have q1 : (0 : Int) ≤ (q : Int) := by omega
      have q2 : (q : Int) < (n1 : Int) := by omega
      clear hgq hgd hgd2 hits hgok hI hbk
      go_wp2_with fail
      go_loopw [12, 32] (fun v i wz => ∃ (p : Nat) (v0 : Value), p ≤ g.n ∧ i = .int .i64 p ∧ v0 = v ∧ PutB wk W1.heap.size ((dat g.l).take p) v0 wz) (fun _ i _ => g.n - (intOf i).toNat)
      case atStart => exact ⟨0, _, Nat.zero_le _, rfl, rfl, hI0⟩
      case round =>
        clear hI0 hcell
        obtain ⟨p, vl, hp, rfl, rfl, hI⟩ := hrel
        by_cases hlp : p < g.n
        · obtain ⟨bg, og, x, hgA, hbb, hxp, e0, e1, hrow⟩ := (HBK.out.below hI.bel).at_ hlp
          have hxd := dat_at hxp
          have hx8 := HRL1.out x (List.mem_of_getElem? hxp)
          have hxn := hrow.len
          have HTP := hide (show (dat g.l).take (p + 1) = (dat g.l).take p ++ [(x.r, x.m)] from take_snoc' hxd)
          have hB4 := below_val (w := wr) #[.slice x.A x.n x.c, .int .i64 x.m] 52
          have kx := Blk.new wr 52 #[.slice x.A x.n x.c, .int .i64 x.m]
          have hIa := hI.below hB4
          have hrowa := hrow.below hB4
          have q3 : (0 : Int) ≤ (p : Int) := by omega
          have q4 : (p : Int) < (g.n : Int) := by omega
          have hvx : ∀ q', vl.ownBlock = some q' → q' < wr.heap.size := fun q' hq' => by
            obtain ⟨_, ⟨l', h1, _, _⟩⟩ := hI
            exact (h1.lt q' hq').2
          rw [hgA]
          clear hxd hxp hI hrow
          go_upto_region 12 with fail
          obtain ⟨W2, hW2⟩ : ∃ W2, wr.alloc (.cells #[.slice x.A x.n x.c, .int .i64 x.m] 52) = W2 := ⟨_, rfl⟩
          obtain ⟨xb, hxb⟩ : ∃ xb, wr.heap.size = xb := ⟨_, rfl⟩
          rw [hW2] at hIa hrowa kx hB4 ⊢
          rw [hxb] at kx hvx ⊢
          have HVX := hide hvx
          clear hW2 hB4 e0 e1 hbb hxb hgA hvx
          have d0 := kx.cell 0
          have d1 := kx.cell 1
          simp at d0 d1
          clear kx
          refine Held.begin (fun z => z.cell? ⟨xb, 0, none⟩ = some (.slice x.A x.n x.c) ∧ z.cell? ⟨xb, 1, none⟩ = some (.int .i64 x.m)) 100 (by kernel_rfl) ?_
          have hD := (Below.refl W2.heap.size W2).drew
          have hIa := hIa.below hD
          have hrowa := hrowa.below hD
          obtain ⟨X1, hX1⟩ : ∃ X1, W2.drew = X1 := ⟨_, rfl⟩
          have hS : X1.cell? ⟨xb, 0, none⟩ = some (.slice x.A x.n x.c) ∧ X1.cell? ⟨xb, 1, none⟩ = some (.int .i64 x.m) := by rw [← hX1]; exact ⟨d0, d1⟩
          rw [hX1] at hIa hrowa ⊢
          clear hX1 d0 d1 hD
          refine Held.take (i := 0) (vl) rfl hS (by kernel_rfl) (by kernel_rfl) (by kernel_rfl) (by kernel_rfl) (fun _ _ _ h => h) rfl (fun y hy => by obtain ⟨x1, x2⟩ := hy; go_simp) ?_
          try simp only [Act.put]
          refine Held.take (i := 1) (.pointer (some ⟨xb, 0, none⟩)) rfl hS (by kernel_rfl) (by kernel_rfl) (by kernel_rfl) (by kernel_rfl) (fun _ _ _ h => h) rfl (fun y hy => by obtain ⟨x1, x2⟩ := hy; go_simp) ?_
          try simp only [Act.put]
          refine Held.take (i := 2) (.slice x.A x.n x.c) rfl hS (by kernel_rfl) (by kernel_rfl) (by kernel_rfl) (by kernel_rfl) (fun _ _ _ h => h) rfl (fun y hy => by obtain ⟨x1, x2⟩ := hy; go_simp) ?_
          try simp only [Act.put]
          refine Held.take (i := 4) (.pointer (some ⟨xb, 1, none⟩)) rfl hS (by kernel_rfl) (by kernel_rfl) (by kernel_rfl) (by kernel_rfl) (fun _ _ _ h => h) rfl (fun y hy => by obtain ⟨x1, x2⟩ := hy; go_simp) ?_
          try simp only [Act.put]
          refine Held.take (i := 5) (.int .i64 x.m) rfl hS (by kernel_rfl) (by kernel_rfl) (by kernel_rfl) (by kernel_rfl) (fun _ _ _ h => h) rfl (fun y hy => by obtain ⟨x1, x2⟩ := hy; go_simp) ?_
          try simp only [Act.put]
          refine Held.one (i := 3) rfl (by kernel_rfl) rfl (fun K hK => ?_)
          unfold Oper.wp
          go_simp
          refine (Clone_any x.A x.n x.c _ W1.heap.size x.r X1 hrowa (by omega)).mono ?_
          rintro e X2 ⟨Ac, cc, rfl, hrow, hB4⟩
          have hI2 := hIa.below hB4
          have hS2 : X2.cell? ⟨xb, 0, none⟩ = some (.slice x.A x.n x.c) ∧ X2.cell? ⟨xb, 1, none⟩ = some (.int .i64 x.m) := ⟨(hB4.cell (World.block_lt_of_cell? _ _ hS.1)).trans hS.1, (hB4.cell (World.block_lt_of_cell? _ _ hS.2)).trans hS.2⟩
          refine hK _ _ (fun _ => hS2) ?_
          try simp only [Act.put]
          have hS := hS2
          clear hK K hS2 hB4 hIa hrowa
          refine Held.take (i := 6) (.agg #[.slice Ac x.n cc, .int .i64 x.m]) rfl hS (by kernel_rfl) (by kernel_rfl) (by kernel_rfl) (by kernel_rfl) (fun _ _ _ h => h) rfl (fun y hy => by obtain ⟨x1, x2⟩ := hy; go_simp) ?_
          try simp only [Act.put]
          refine Held.one (i := 7) rfl (by kernel_rfl) rfl (fun K hK => ?_)
          have HS4 := hide (show (X2.alloc (.cells #[.slice Ac x.n cc, .int .i64 x.m] 52)).cell? ⟨xb, 0, none⟩ = some (.slice x.A x.n x.c) ∧ (X2.alloc (.cells #[.slice Ac x.n cc, .int .i64 x.m] 52)).cell? ⟨xb, 1, none⟩ = some (.int .i64 x.m) from
            ⟨(World.cell?_alloc_lt X2 _ ⟨xb, 0, none⟩ (World.block_lt_of_cell? _ _ hS.1)).trans hS.1, (World.cell?_alloc_lt X2 _ ⟨xb, 1, none⟩ (World.block_lt_of_cell? _ _ hS.2)).trans hS.2⟩)
          unfold Oper.wp
          go_simp
          refine hK _ _ (fun _ => HS4.out) ?_
          try simp only [Act.put]
          clear hK K hS
          have hle := hI2.bel.size
          obtain ⟨hbel, ⟨l', h1, h2, h3⟩⟩ := hI2
          have hll : l'.length = p := by rw [← dat_len, h2, List.length_take, dat_len, HBG1.out.len]; omega
          have hrd : Reads (X2.alloc (.cells #[.slice Ac x.n cc, .int .i64 x.m] 52)) (X2.heap.size + 1) 2 (some ⟨X2.heap.size, 0, none⟩) 1 [.slice Ac x.n cc, .int .i64 x.m] :=
            ⟨rfl, fun _ => ⟨X2.heap.size, 0, rfl, by omega, fun j u hu => by
              have := (Blk.new X2 52 #[.slice Ac x.n cc, .int .i64 x.m]).cell j
              rw [Nat.zero_add, this]; simpa using hu⟩⟩
          refine Held.one (i := 8) rfl (by kernel_rfl) rfl (fun K hK => ?_)
          refine wp_append_any _ _ _ 26 rfl wk.heap.size 52 i0 _ 2 32 Tryz.underlying26 hi hz0 hz1 hz2 rfl (by decide) vl l'.length _ rfl (h1.alloc _) (X2.heap.size + 1) (some ⟨X2.heap.size, 0, none⟩) 1 1 [.slice Ac x.n cc, .int .i64 x.m] rfl hrd (by simp [Value.oneCell']) (by unfold maxLen; omega) (by omega) (by simp; omega) ?_
          intro v' X3 hown1 hgrow _
          have hI := putb_app hW1k hbel h1 h2 h3 hrow hown1 hgrow
          have hxbv : some xb ≠ vl.ownBlock := fun e => by have := HVX.out xb e.symm; omega
          have hS5 : X3.cell? ⟨xb, 0, none⟩ = some (.slice x.A x.n x.c) ∧ X3.cell? ⟨xb, 1, none⟩ = some (.int .i64 x.m) := ⟨(World.cell?_of_block (hgrow.block xb (World.block_lt_of_cell? _ _ HS4.out.1) hxbv)).trans HS4.out.1, (World.cell?_of_block (hgrow.block xb (World.block_lt_of_cell? _ _ HS4.out.1) hxbv)).trans HS4.out.2⟩
          refine hK _ _ (fun _ => hS5) ?_
          try simp only [Act.put]
          clear hK K HS4 hrd hown1 hgrow hbel h1 h2 h3 hrow hxbv
          refine Held.one (i := 9) rfl (by kernel_rfl) rfl (fun K hK => ?_)
          unfold Oper.wp
          go_simp
          refine hK _ _ (fun _ => hS5) ?_
          try simp only [Act.put]
          clear hK K hS5
          refine Held.done (by kernel_rfl) ?_
          rw [← HTP.out] at hI
          go_wp2_with fail
          go_roundw
          case rel => exact ⟨p + 1, _, by omega, by go_num, rfl, hI⟩
          case measure => simp [intOf]; omega
        · obtain rfl : p = g.n := by omega
          rw [List.take_of_length_le (by rw [dat_len, HBG1.out.len]; exact Nat.le_refl _)] at hI
          obtain ⟨hbel, ⟨l', h1, h2, h3⟩⟩ := hI
          have hll : l'.length ≤ 100000 := by rw [← dat_len, h2, dat_len, HBG1.out.len]; omega
          have HD := hide (done2_any wk.heap.size l'.length W1.heap.size vl l' wr h1 hll h3 hW1k)
          have HH2 := hide h2
          have HBL := hide (show ∀ W, Bar wr.heap.size (obl vl) wr W → Below wk.heap.size wk W from fun W hb => hbel.trans (hb.below hbel.size fun x hx => (h1.lt x (obl_mem hx)).1))
          have HLOW := hide (show ∀ q', vl.ownBlock = some q' → wk.heap.size ≤ q' from fun q' hq' => (h1.lt q' hq').1)
          clear hbel h1 h2 h3 hll
          go_wp2_with fail
          refine HD.out.mono ?_
          rintro e W5 ⟨dd, p1, p2, ⟨A5, n5, c5, l5, rfl, hd5, hb5, hc5, hA5⟩, hbar⟩
          rw [HH2.out] at p1
          have hdn := HDN.out dd p1 (p2.imp fun h => by simpa using h)
          rw [hdn] at hd5 ⊢
          have hB5 := HBL.out W5 hbar
          have hGo := HGO.out.below hB5
          obtain ⟨gbel, ⟨gl2, o1, o2, o3⟩⟩ := hGo
          have hgl2 : gl2.length = q := by
            have := congrArg List.length o2
            rw [List.length_map, List.length_map, List.length_take, ← HGS.out, List.length_map, HGL.out] at this
            omega
          have hvb : ∀ q', v.ownBlock = some q' → q' < wk.heap.size := fun q' hq' => by
            obtain ⟨_, ⟨gl3, u1, _, _⟩⟩ := HGO.out
            exact (u1.lt q' hq').2
          have hfar : ∀ b o, 0 < n5 → A5 = some ⟨b, o, none⟩ → v.ownBlock ≠ some b := fun b o h0 e1 e2 => by
            have h3 := HLOW.out b (hA5 b o e1)
            have h4 := hvb b e2
            omega
          have hown5 := o1.alloc (.cells #[.slice A5 n5 c5] 26)
          have hrd5 : Reads (W5.alloc (.cells #[.slice A5 n5 c5] 26)) (W5.heap.size + 1) 1 (some ⟨W5.heap.size, 0, none⟩) 1 [.slice A5 n5 c5] :=
            ⟨rfl, fun _ => ⟨W5.heap.size, 0, rfl, by omega, fun j u hu => by
              have := (Blk.new W5 26 #[.slice A5 n5 c5]).cell j
              rw [Nat.zero_add, this]; simpa using hu⟩⟩
          have hsz5 : W1.heap.size ≤ (W5.alloc (.cells #[.slice A5 n5 c5] 26)).heap.size := by
            have := gbel.size
            simp
            omega
          clear p1 p2 hdn hbar HD HBL HLOW hvb hA5
          go_wp2_with (at_builtin; refine wpList_append_any _ rfl _ _ 29 rfl W1.heap.size 26 i1 _ 1 24 Tryz.underlying29 hi' hz0' hz1' hz2' rfl (by decide) v gl2.length _ rfl hown5 (W5.heap.size + 1) (some ⟨W5.heap.size, 0, none⟩) 1 1 [.slice A5 n5 c5] rfl hrd5 (by simp [Value.oneCell']) (by unfold maxLen; omega) (by omega) hsz5 ?_; intro v' X3 hown6 hgrow6 hat6; have hGN := GoI.push ⟨A5, n5, c5, l5⟩ gbel o1 o2 o3 hb5 hc5 hfar hown6 hgrow6 hat6; clear hown6 hgrow6 hat6)
          have HGN := hide (show GoI W1 ((GS.take (q + 1)).map (aftB [])) v' X3 by rw [HTK.out, ← hd5]; exact hGN)
          clear hGN gbel o1 o2 o3 hfar hown5 hrd5 hsz5 hb5 hd5
          go_roundw
          case rel => exact ⟨q + 1, _, by omega, by go_num, rfl, HGN.out⟩
          case measure => simp [intOf]; omega
    · obtain rfl : q = n1 := by omega
      rw [List.take_of_length_le (by rw [← HGS.out, List.length_map, HGL.out]; exact Nat.le_refl _)] at hI
      obtain ⟨hbel, ⟨gl2, o1, o2, o3⟩⟩ := hI
      have hgl2 : gl2.length = q := by
        have := congrArg List.length o2
        rw [List.length_map, List.length_map, ← HGS.out, List.length_map, HGL.out] at this
        exact this
      obtain ⟨A9, c9, rfl, hR9⟩ := own_form o1
      have HE := hide (show RetGs w ans (.returned (.tuple #[.slice A9 gl2.length c9, .int .i64 ans.2])) wr from ⟨A9, gl2.length, c9, gl2, rfl, by rw [o2, ← HX.out, HFG.out], hR9, fun g hg => ⟨(o3 g hg).1.mono hbel.size, (o3 g hg).2.1⟩, by omega, HBW.out.trans (hbel.mono (by have := HBW.out.size; omega))⟩)
      have HE2 := hide (show ans.2 = 0 by rw [← HX.out])
      clear hbel o1 o2 o3 hR9
      go_wp2_with fail
      go_ret2
      have := HE.out
      rw [HE2.out] at this
      exact this
end Go.Proofs.YtljglceaibgknaaGreatDoor
