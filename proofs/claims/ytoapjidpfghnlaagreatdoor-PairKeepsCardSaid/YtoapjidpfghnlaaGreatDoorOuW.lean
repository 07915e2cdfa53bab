/-
  The walk of pair.outer. No condition but the lists' lengths.
  The walk of pair.Outer. No condition but the lists' lengths. (Printed by gen_ouW.)
-/
import Derived.Test.YtoapjidpfghnlaaGreatDoorOuV
import Derived.Test.YtoapjidpfghnlaaGreatDoorOuD
import Derived.Test.YtoapjidpfghnlaaGreatDoorPrO
import Derived.Test.YtoapjidpfghnlaaGreatDoorPvN
import Derived.Test.YtoapjidpfghnlaaGreatDoorCcV
import Derived.Test.YtoapjidpfghnlaaGreatDoorPrB
import Derived.Test.YtoapjidpfghnlaaGreatDoorOuH
import Derived.Test.YtoapjidpfghnlaaGreatDoorBgT5
namespace Go.Proofs.YtoapjidpfghnlaaGreatDoor

section
open Go.RowKit Go.Maps
attribute [local go_sem] Oper.semAt_some wide_fn wide_depth
set_option linter.unusedVariables false
set_option linter.unusedSimpArgs false

/-- A bag that the call made, handed back. -/
def RetOu (w : World) (p : Bg × Int) (e : Ending) (w' : World) : Prop :=
  ∃ A n c l, e = .returned (.tuple #[.slice A n c, .int .i64 p.2]) ∧ dat l = p.1 ∧ BagR w' 0 A n l ∧ n ≤ c ∧ (∀ b o, 0 < n → A = some ⟨b, o, none⟩ → w.heap.size ≤ b) ∧ Below w.heap.size w w'
theorem infoInt_ou : (Tryz.prog.info? 3).map (fun i => (i.zero, i.size, i.bytes)) = some (some (.int .i64 0), 1, 8) := by kernel_rfl
theorem made_row0 (w : World) (n : Nat) (hn : n ≤ 1000000) : RowK (w.alloc (.cells (madeCells #[.int .i64 0, .int .i64 0, .string ByteArray.empty] (n * 3)) 102)) 0 (some ⟨w.heap.size, 0, none⟩) n (nullR n) := by
  have h := made_row w n hn
  have kb := Blk.new w 102 (madeCells #[.int .i64 0, .int .i64 0, .string ByteArray.empty] (n * 3))
  refine ⟨h.rd, fun _ b off m e => ?_, h.le⟩
  injection e with e
  injection e with e1
  subst e1
  exact .inr ⟨_, _, kb⟩
theorem ofS_len {xs : List Int} {r : Rw} (h : r.all okV = true) (hx : xs.length ≤ 1000) : (ofS xs r).data.size ≤ maxLen := by
  unfold ofS maxLen
  split
  · have h1 := keyC_len (pickC_okV h xs)
    have h2 := pickC_len r xs
    simp
    have h3 : 803 * (pick r xs).length ≤ 803 * 1000 := Nat.mul_le_mul_left _ (by omega)
    omega
  · simp
theorem atL_no {others : List Int} {r : Bg} {i : Nat} {y : Rw × Int} (hy : r[i]? = some y) (h : nonul (pick y.1 others) = false) : atL others r (i + 1) = atL others r i := by
  funext q
  rw [atL_succ hy, kyF_no h]
  simp
theorem atL_yes {others : List Int} {r : Bg} {i : Nat} {y : Rw × Int} (hy : r[i]? = some y) (h : nonul (pick y.1 others) = true) : (fun q => if q = (ofS others y.1).data.toList then atL others r i q ++ [i] else atL others r i q) = atL others r (i + 1) := by
  funext q
  rw [atL_succ hy, kyF_of h]
  by_cases e : q = (ofS others y.1).data.toList
  · rw [if_pos e, if_pos (by rw [e])]
  · rw [if_neg e, if_neg fun e2 => e (by injection e2 with e2; exact e2.symm)]
set_option maxRecDepth 100000 in
set_option maxHeartbeats 32000000 in
theorem outer_any (kind : Int) (A1 : Option Addr) (n1 c1 : Nat) (on : List Int) (A2 : Option Addr) (n2 c2 : Nat) (others : List Int) (wide width : Nat) (A3 : Option Addr) (n3 c3 : Nat) (ll : List It) (A4 : Option Addr) (n4 c4 : Nat) (lr : List It) (w : World)
    (h1 : Reads w w.heap.size 1 A1 n1 (on.map (Value.int .i64))) (h2 : Reads w w.heap.size 1 A2 n2 (others.map (Value.int .i64))) (hn : n1 = n2) (hn1 : n1 ≤ 1000) (h3 : BagR w w.heap.size A3 n3 ll) (h4 : BagR w w.heap.size A4 n4 lr) (hm3 : n3 ≤ 60) (hm4 : n4 ≤ 60)
    (hc3 : ∀ x ∈ ll, x.n ≤ x.c) (hc4 : ∀ x ∈ lr, x.n ≤ x.c) (ht : Tab w) (hl : SideOk (dat ll) on wide) (hr : SideOk (dat lr) others width) (hw : wide + width ≤ 8) (hk : 0 ≤ kind ∧ kind ≤ 3) :
    Calls Tryz.prog 94 #[.int .i64 kind, .agg #[.slice A1 n1 c1, .slice A2 n2 c2], .int .i64 (wide : Int), .int .i64 (width : Int), .slice A3 n3 c3, .slice A4 n4 c4] w
      (RetOu w (if okBag (aftB [] (joinL (decide (kind % 2 = 1)) (decide (2 ≤ kind)) on others wide width (dat ll) (dat lr))) then (aftB [] (joinL (decide (kind % 2 = 1)) (decide (2 ≤ kind)) on others wide width (dat ll) (dat lr)), 0) else ([], 4))) := by
  obtain ⟨pf, hix, eg, hpf⟩ := kind_fn hk
  obtain ⟨lf, hlf⟩ : ∃ lf, decide (kind % 2 = 1) = lf := ⟨_, rfl⟩
  obtain ⟨rt, hrt⟩ : ∃ rt, decide (2 ≤ kind) = rt := ⟨_, rfl⟩
  rw [hlf, hrt] at hpf ⊢
  clear hlf hrt
  obtain ⟨P, hP⟩ : ∃ P, RetOu w (if okBag (aftB [] (joinL lf rt on others wide width (dat ll) (dat lr))) then (aftB [] (joinL lf rt on others wide width (dat ll) (dat lr)), 0) else ([], 4)) = P := ⟨_, rfl⟩
  rw [hP]
  have HPP := hide hP
  clear hP
  obtain ⟨i0, hi0, hz0, hz1, hz2⟩ := info_parts3 infoInt_ou
  have PA := hide h1
  have PB := hide h2
  have PC := hide h3
  have PD := hide h4
  have SL := hide hl
  have SR := hide hr
  have HC3 := hide hc3
  have HC4 := hide hc4
  have HT := hide ht
  have HL1 := hide h1.len1
  have HL2 := hide h2.len1
  have HNN := hide (show on.length = others.length from by rw [h1.len1, h2.len1, hn])
  have HN3 := hide (show (dat ll).length = n3 from by rw [dat_len]; exact h3.len)
  have HN4 := hide (show (dat lr).length = n4 from by rw [dat_len]; exact h4.len)
  have hn2 : n2 ≤ 1000 := by omega
  have HKY := hide (show ∀ x : Rw × Int, x.1.all okV = true → ∀ y ∈ dat lr, eqK on others x.1 y.1 = decide (kyF others y.1 = some (ofS on x.1).data.toList) from fun x hx y hy => eqK_ky HNN.out hx (okR_vals (hr.row y hy).1) (hr.row y hy).2.2)
  have hmk := fun W => run_make_bl n4 (by omega) W
  have hmm := @run_makeMap Tryz.prog
  have hba := below_val (w := w) #[.slice A1 n1 c1, .slice A2 n2 c2] 91
  have kx := Blk.new w 91 #[.slice A1 n1 c1, .slice A2 n2 c2]
  obtain ⟨kb, hkb⟩ : ∃ kb, w.heap.size = kb := ⟨_, rfl⟩
  have hkb' : w.heap.size ≤ kb := by omega
  rw [hkb] at kx
  clear h1 h2 h3 h4 hl hr hc3 hc4 ht hn hk
  go_enter Tryz.func94, Tryz.ntmps94
  go_upto_region 1 with fail
  try rw [hkb]
  obtain ⟨W0, hW0⟩ : ∃ W0, w.alloc (.cells #[.slice A1 n1 c1, .slice A2 n2 c2] 91) = W0 := ⟨_, rfl⟩
  rw [hW0] at hba kx ⊢
  clear hW0
  have HKB := hide hkb
  clear hkb
  have HKI := hide (kinds_any W0)
  go_wp2_with fail
  refine HKI.out.mono ?_
  rintro e W1 ⟨rfl, hb⟩
  have hB1 := bstep hba hb
  have k1 := kx.below hb kx.lt
  clear hb hba kx HKI
  go_wp2_with fail
  refine (hpf W1).mono ?_
  rintro e w' ⟨rfl, hw'⟩
  obtain rfl : W1 = w' := hw'.symm
  clear hix eg hpf
  go_wp2_with fail
  have hbm := Bl.made W1 n4
  have hBl := below_val (w := W1) (madeCells #[.bool false] n4) 4
  have hBm : Below (W1.alloc (.cells (madeCells #[.bool false] n4) 4)).heap.size (W1.alloc (.cells (madeCells #[.bool false] n4) 4)) ((W1.alloc (.cells (madeCells #[.bool false] n4) 4)).alloc (.map #[] 0)) := (Below.refl _ _).alloc (Nat.le_refl _) _
  have ham := AtM.start (W1.alloc (.cells (madeCells #[.bool false] n4) 4)) (base := w.heap.size) (Nat.le_trans hB1.size hBl.size)
  have hA : OuA w ((W1.alloc (.cells (madeCells #[.bool false] n4) 4)).alloc (.map #[] 0)) kb W1.heap.size (W1.alloc (.cells (madeCells #[.bool false] n4) 4)).heap.size 0 n4 #[.slice A1 n1 c1, .slice A2 n2 c2] (atL others (dat lr) 0) :=
    ⟨(k1.below hBl k1.lt).below hBm (k1.below hBl k1.lt).lt, (show Bl w.heap.size _ _ _ _ from ⟨hB1.size, hbm.2⟩).below hBm, ham, bstep (bstep hB1 hBl) hBm⟩
  obtain ⟨lb, hlb⟩ : ∃ lb, W1.heap.size = lb := ⟨_, rfl⟩
  rw [World.size_alloc, hlb] at hA
  obtain ⟨W2, hW2⟩ : ∃ W2, (W1.alloc (.cells (madeCells #[.bool false] n4) 4)).alloc (.map #[] 0) = W2 := ⟨_, rfl⟩
  rw [hW2] at hA ⊢
  try rw [hlb]
  clear hW2 hbm hBl hBm ham hB1 k1 hlb hmk hmm
  go_loopw [46] (fun i wr => ∃ k : Nat, k ≤ n4 ∧ i = .int .i64 k ∧ OuA w wr kb lb (lb + 1) k n4 #[.slice A1 n1 c1, .slice A2 n2 c2] (atL others (dat lr) k)) (fun i _ => n4 - (intOf i).toNat)
  case atStart => exact ⟨0, Nat.zero_le _, rfl, hA⟩
  case round =>
    clear hA
    obtain ⟨k, hkk, rfl, hA⟩ := hrel
    by_cases hlt : k < n4
    · have q1 : (0 : Int) ≤ (k : Int) := by omega
      have q2 : (k : Int) < (n4 : Int) := by omega
      obtain ⟨by_, oy, y, rfl, hby, hyk, e0, e1, hry⟩ := PD.out.at_ hlt
      have e0 := (hA.bel.cell (p := ⟨by_, oy + k * 2, none⟩) hby).trans e0
      have e1 := (hA.bel.cell (p := ⟨by_, oy + k * 2 + 1, none⟩) hby).trans e1
      have HYD := hide (dat_at hyk)
      have hyin := List.mem_of_getElem? HYD.out
      obtain ⟨sy1, sy2, sy3⟩ := SR.out.row _ hyin
      simp only at sy1 sy2 sy3
      have hcy := HC4.out y (List.mem_of_getElem? hyk)
      have hba := below_val (w := wr) #[.slice y.A y.n y.c, .int .i64 y.m] 119
      have ky := Blk.new wr 119 #[.slice y.A y.n y.c, .int .i64 y.m]
      have hA1 := hA.below hba
      have hry1 := (hry.below hA1.bel).mono hA1.bel.size
      go_upto_region 7 with fail
      obtain ⟨W3, hW3⟩ : ∃ W3, wr.alloc (.cells #[.slice y.A y.n y.c, .int .i64 y.m] 119) = W3 := ⟨_, rfl⟩
      rw [hW3] at ky hA1 hry1 ⊢
      obtain ⟨yb, hyb⟩ : ∃ yb, wr.heap.size = yb := ⟨_, rfl⟩
      rw [hyb] at ky ⊢
      have d0 : W3.cell? ⟨yb, 0, none⟩ = some (.slice y.A y.n y.c) := by simpa using ky.cell 0
      have d2 : W3.cell? ⟨kb, 1, none⟩ = some (.slice A2 n2 c2) := by simpa using hA1.ky.cell 1
      have HOF := hide (of_any A2 n2 c2 others y.A y.n y.c y.r W3 (PB.out.up hA1.bel) (by omega) hry1 hcy sy1 sy3 (HT.out.below hA1.bel))
      have HSL := hide (ofS_len (xs := others) (okR_vals sy1) (by rw [HL2.out]; omega))
      clear hW3 hba ky hyk hyin hA hry hry1 e0 e1 hyb hby sy1 sy2 sy3 hcy
      cases hok : nonul (pick y.r others)
      · rw [hok] at HOF
        have HNO := hide (atL_no (i := k) HYD.out hok)
        clear hok
        go_wp2_with fail
        refine HOF.out.mono ?_
        rintro e W4 ⟨rfl, hb⟩
        have HA4 := hide ((hA1.below hb).mono (Nat.le_succ k) HNO.out)
        clear hb hA1 d0 d2 HOF
        go_wp2
        go_roundw
        case rel => exact ⟨k + 1, by omega, by go_num, HA4.out⟩
        case measure => simp [intOf]; omega
      · rw [hok] at HOF
        have HYS := hide (atL_yes (i := k) HYD.out hok)
        obtain ⟨S, hS⟩ : ∃ S, ofS others y.r = S := ⟨_, rfl⟩
        simp only [hS] at HOF HYS HSL
        clear hok hS
        go_wp2_with fail
        refine HOF.out.mono ?_
        rintro e W4 ⟨rfl, hb⟩
        have hA4 := hA1.below hb
        clear hb hA1 d0 d2 HOF
        obtain ⟨v, hlk, hown, hvb⟩ := hA4.am.look S HSL.out
        have hLn := atL_len others (dat lr) k S.data.toList
        obtain ⟨CL, hCL⟩ : ∃ CL, atL others (dat lr) k S.data.toList = CL := ⟨_, rfl⟩
        obtain ⟨Av, cv, rfl, _⟩ := own_form hown
        have hl1 := hlk W4 rfl
        have hba2 := below_val (w := W4) #[.int .i64 (k : Int)] 3
        have hA5 := hA4.below hba2
        have hown5 := own_below hown hba2
        have hl5 := hlk (W4.alloc (.cells #[.int .i64 (k : Int)] 3)) (hba2.block _ hA4.am.lt)
        have hrd : Reads (W4.alloc (.cells #[.int .i64 (k : Int)] 3)) (W4.heap.size + 1) 1 (some ⟨W4.heap.size, 0, none⟩) 1 [.int .i64 (k : Int)] :=
          ⟨rfl, fun _ => ⟨W4.heap.size, 0, rfl, by omega, fun j u hu => by rw [Nat.zero_add]; exact ((Blk.new W4 3 #[.int .i64 (k : Int)]).cell j).trans (by simpa using hu)⟩⟩
        have hsz := hA5.bel.size
        have PUT := fun (v' : Value) (w1 : World) => hA5.am.put (v' := v') (w1 := w1) (k := k) (by omega) HSL.out hl5
        rw [hCL] at hown5 PUT hLn hl1
        obtain ⟨CN, hCN⟩ : ∃ CN, CL.map encN = CN := ⟨_, rfl⟩
        rw [hCN] at hown5 PUT
        have HCL := hide hCL
        have HCN := hide hCN
        clear hCL hCN hlk hown hba2 hl5 hA4
        go_wp2_with (at_builtin; go_loud (refine wpList_append_any _ rfl _ _ 22 rfl w.heap.size 3 i0 _ 1 8 Tryz.underlying22 hi0 hz0 hz1 hz2 rfl (by decide) (.slice Av CL.length cv) CL.length CN rfl hown5 (W4.heap.size + 1) (some ⟨W4.heap.size, 0, none⟩) 1 1 [.int .i64 (k : Int)] rfl hrd (by simp [Value.oneCell']) (by unfold maxLen; omega) (by omega) hsz ?_; intro v3 w3 hown3 hgrow hat; obtain ⟨w4, hrun, ham, hgM⟩ := PUT v3 w3 hown3 hgrow hat; have HA6 := hide (OuA.put hA5 hkb' hown5 hgrow hgM ham)))
        have HA7 := hide (HA6.out.mono (Nat.le_refl _) HYS.out.symm)
        clear HA6 ham hgM hgrow hat hown3 hA5 hown5 PUT
        go_wp2
        go_roundw
        case rel => exact ⟨k + 1, by omega, by go_num, HA7.out⟩
        case measure => simp [intOf]; omega
    · obtain rfl : n4 = k := by omega
      have hbox := Boxed.new wr 40 (.slice none 0 0)
      have hba := below_val (w := wr) #[.slice none 0 0] 40
      have hA1 := hA.below hba
      have hS0 : OuS w (wr.alloc (.cells #[.slice none 0 0] 40)) kb lb (lb + 1) wr.heap.size n4 #[.slice A1 n1 c1, .slice A2 n2 c2] (atL others (dat lr) n4) (fun j => !loneF on others ((dat ll).take 0) (dat lr) j) (leftsL lf on others width ((dat ll).take 0) (dat lr)) :=
        ⟨hA1.ky, hA1.mt.congr fun j _ => by rw [List.take_zero, loneF_nil]; rfl, hA1.am, ⟨_, [], hbox, OI.nil _ _, rfl⟩, hA1.bel⟩
      have HBO := hide (show w.heap.size ≤ wr.heap.size from hA.bel.size)
      obtain ⟨F, hF⟩ : ∃ F, atL others (dat lr) n4 = F := ⟨_, rfl⟩
      rw [hF] at hS0
      have HF := hide hF
      clear hF hA hA1 hbox hba
      go_wp2_with fail
      obtain ⟨W5, hW5⟩ : ∃ W5, wr.alloc (.cells #[.slice none 0 0] 40) = W5 := ⟨_, rfl⟩
      obtain ⟨bo, hbo⟩ : ∃ bo, wr.heap.size = bo := ⟨_, rfl⟩
      rw [hW5, hbo] at hS0
      rw [hbo] at HBO
      try rw [hW5]
      try rw [hbo]
      clear hW5 hbo
      go_loopw [72] (fun i wx => ∃ i1 : Nat, i1 ≤ n3 ∧ i = .int .i64 i1 ∧ OuS w wx kb lb (lb + 1) bo n4 #[.slice A1 n1 c1, .slice A2 n2 c2] F (fun j => !loneF on others ((dat ll).take i1) (dat lr) j) (leftsL lf on others width ((dat ll).take i1) (dat lr))) (fun i _ => n3 - (intOf i).toNat)
      case atStart => exact ⟨0, Nat.zero_le _, rfl, hS0⟩
      case round =>
        clear hS0
        obtain ⟨i1, hi1, rfl, hS⟩ := hrel
        by_cases hli : i1 < n3
        · have q1 : (0 : Int) ≤ (i1 : Int) := by omega
          have q2 : (i1 : Int) < (n3 : Int) := by omega
          obtain ⟨bx, ox, x, rfl, hbx, hxk, e0, e1, hrx⟩ := PC.out.at_ hli
          have HXD := hide (dat_at hxk)
          have hxin := List.mem_of_getElem? HXD.out
          obtain ⟨sx1, sx2, sx3⟩ := SL.out.row _ hxin
          have sx4 := SL.out.num _ hxin
          simp only at sx1 sx2 sx3 sx4
          have HXP := hide (show okR x.r = true ∧ x.r.length = wide ∧ 1 ≤ x.m ∧ x.m ≤ 2000000 from ⟨sx1, sx2, sx4⟩)
          have hcx := HC3.out x (List.mem_of_getElem? hxk)
          have hxl := hrx.len
          have hxn8 : x.n ≤ 8 := by omega
          have HTX := hide (show (dat ll).take (i1 + 1) = (dat ll).take i1 ++ [(x.r, x.m)] from take_snoc' HXD.out)
          have e0 := (hS.bel.cell (p := ⟨bx, ox + i1 * 2, none⟩) hbx).trans e0
          have e1 := (hS.bel.cell (p := ⟨bx, ox + i1 * 2 + 1, none⟩) hbx).trans e1
          have hX0 := OuX.start hS #[.slice x.A x.n x.c, .int .i64 x.m] (vI := .slice none 0 0) (nI := 0) (cI := []) (World.ownsRow_nil _ _ _ _)
          have HBS := hide (show (leftsL lf on others width ((dat ll).take i1) (dat lr)).length ≤ 160400 from lefts_few (SL.out.take i1) SR.out)
          obtain ⟨mf, hmf⟩ : ∃ mf : Nat → Bool, (fun j => !loneF on others ((dat ll).take i1) (dat lr) j) = mf := ⟨_, rfl⟩
          obtain ⟨bs, hbs⟩ : ∃ bs, leftsL lf on others width ((dat ll).take i1) (dat lr) = bs := ⟨_, rfl⟩
          rw [hmf, hbs] at hX0
          rw [hbs] at HBS
          have HMF := hide hmf
          have HBB := hide hbs
          clear hmf hbs hS
          go_upto_region 16 with fail
          obtain ⟨W3, hW3⟩ : ∃ W3, wr.alloc (.cells #[.slice x.A x.n x.c, .int .i64 x.m] 119) = W3 := ⟨_, rfl⟩
          obtain ⟨xb, hxb⟩ : ∃ xb, wr.heap.size = xb := ⟨_, rfl⟩
          rw [hW3, hxb] at hX0
          try rw [hW3]
          try rw [hxb]
          have d0 : W3.cell? ⟨xb, 0, none⟩ = some (.slice x.A x.n x.c) := by simpa using hX0.kx.cell 0
          have d2 : W3.cell? ⟨kb, 0, none⟩ = some (.slice A1 n1 c1) := by simpa using hX0.s.ky.cell 0
          have HOF := hide (of_any A1 n1 c1 on x.A x.n x.c x.r W3 (PA.out.up hX0.s.bel) hn1 ((hrx.below hX0.s.bel).mono hX0.s.bel.size) hcx sx1 sx3 (HT.out.below hX0.s.bel))
          have HSL := hide (ofS_len (xs := on) (okR_vals sx1) (by rw [HL1.out]; omega))
          have hky := HKY.out (x.r, x.m) (okR_vals sx1)
          have HPR := hide (at_pairs hky)
          have HME := hide (at_meets hky)
          have HLO := hide (fun (j : Nat) (hj : j < (dat lr).length) => at_lone hky ((dat ll).take i1) hj)
          have HNO := hide (fun h => at_none (x := (x.r, x.m)) HNN.out (okR_vals sx1) (fun y hy => ⟨okR_vals (SR.out.row y hy).1, (SR.out.row y hy).2.2⟩) h)
          simp only [HN4.out] at HPR HME HLO HNO
          obtain ⟨S, hSS⟩ : ∃ S, ofS on x.r = S := ⟨_, rfl⟩
          obtain ⟨ok, hok⟩ : ∃ ok, nonul (pick x.r on) = ok := ⟨_, rfl⟩
          simp only [hSS, hok] at HOF HSL HPR HME HLO HNO
          clear hW3 hxb hxk hxin e0 e1 hbx sx1 sx2 sx3 sx4 hcx hky hSS hok
          go_wp2_with fail
          refine HOF.out.mono ?_
          rintro e W4 ⟨rfl, hb⟩
          have hX1 := hX0.below hb
          clear hb hX0 d0 d2 HOF
          obtain ⟨v, hlk, hown, hvb⟩ := hX1.s.am.look S HSL.out
          have HLL := hide (show (atL others (dat lr) n4 S.data.toList).length ≤ 60 from Nat.le_trans (atL_len _ _ _ _) hm4)
          have HIN := hide (fun (k : Nat) (hk : k ∈ atL others (dat lr) n4 S.data.toList) => (atL_mem hk).1)
          rw [← HF.out] at hown
          obtain ⟨ii, hii⟩ : ∃ ii, atL others (dat lr) n4 S.data.toList = ii := ⟨_, rfl⟩
          simp only [hii] at hown HPR HME HLO HNO HLL HIN
          obtain ⟨Av, cv, rfl, _⟩ := own_form hown
          have hl1 := hlk W4 rfl
          have hX2 := hX1.row hown
          obtain ⟨nl, hnl⟩ : ∃ nl, ii.length = nl := ⟨_, rfl⟩
          rw [hnl] at hX2 HME HLL hl1
          have HNL := hide hnl
          obtain ⟨CI, hCI⟩ : ∃ CI, ii.map encN = CI := ⟨_, rfl⟩
          rw [hCI] at hX2
          have HCI := hide hCI
          clear hnl hCI hii hown hlk hX1 hvb
          go_wp2_with fail
          go_loopw [28, 88] (fun al i wx => ∃ m : Nat, m ≤ nl ∧ i = .int .i64 m ∧ al = .bool (decide (m = 0)) ∧ OuX w wx kb lb (lb + 1) bo n4 #[.slice A1 n1 c1, .slice A2 n2 c2] F (mdF mf ii m) (bs ++ (ii.take m).map (jnF (x.r, x.m) (dat lr))) xb #[.slice x.A x.n x.c, .int .i64 x.m] (.slice Av nl cv) nl CI) (fun _ i _ => nl - (intOf i).toNat)
          case atStart => exact ⟨0, Nat.zero_le _, rfl, rfl, by rw [mdF_zero, List.take_zero, List.map_nil, List.append_nil]; exact hX2⟩
          case round =>
            clear hX2 hl1
            obtain ⟨m, hm, rfl, rfl, hX⟩ := hrel
            have hnl60 := HLL.out
            by_cases hlm : m < nl
            · cases ok
              · have := HNO.out rfl
                have h2 := HNL.out
                rw [this] at h2
                simp at h2
                omega
              have q3 : (0 : Int) ≤ (m : Int) := by omega
              have q4 : (m : Int) < (nl : Int) := by omega
              obtain ⟨j, hj⟩ : ∃ j, ii[m]? = some j := ⟨_, List.getElem?_eq_getElem (by rw [HNL.out]; exact hlm)⟩
              have hjn : j < n4 := HIN.out j (List.mem_of_getElem? hj)
              obtain ⟨bI, oI, rfl, hbI, hcI⟩ := (Reads.of_own hX.ii).2 (by omega)
              have g0 : wr.cell? ⟨bI, oI + m, none⟩ = some (.int .i64 (j : Int)) := hcI m _ (by rw [← HCI.out, List.getElem?_map, hj]; rfl)
              obtain ⟨by_, oy, y, rfl, hby, hyk, f0, f1, hry⟩ := PD.out.at_ hjn
              have HYD := hide (dat_at hyk)
              have hyin := List.mem_of_getElem? HYD.out
              obtain ⟨sy1, sy2, sy3⟩ := SR.out.row _ hyin
              have sy4 := SR.out.num _ hyin
              simp only at sy1 sy2 sy3 sy4
              have hyl := hry.len
              have hyn8 : y.n ≤ 8 := by omega
              have q5 : (0 : Int) ≤ (j : Int) := by omega
              have q6 : (j : Int) < (n4 : Int) := by omega
              have c0 := hX.s.mt.cell hjn
              have fz := hX.s.mt.2.frozen j
              have hXm := (hX.met j).congr fun q _ => mdF_succ hj q
              have HTA := hide (show (ii.take (m + 1)).map (jnF (x.r, x.m) (dat lr)) = (ii.take m).map (jnF (x.r, x.m) (dat lr)) ++ [(x.r ++ y.r, x.m * y.m)] from by rw [take_snoc' hj, List.map_append, List.map_cons, List.map_nil, jnF_at HYD.out])
              have HDL := hide (show (bs ++ (ii.take m).map (jnF (x.r, x.m) (dat lr))).length ≤ 1000000 from by
                have h1 := HBS.out
                have h2 := HLL.out
                rw [List.length_append, List.length_map, List.length_take]
                omega)
              have hxm := HXP.out.2.2
              have hpb : 0 ≤ x.m * y.m ∧ x.m * y.m ≤ 4000000000000 := by
                have g1 : 0 ≤ x.m * y.m := Int.mul_nonneg (by omega) (by omega)
                have g2 : x.m * y.m ≤ 2000000 * 2000000 := Int.mul_le_mul hxm.2 sy4.2 (by omega) (by omega)
                omega
              obtain ⟨pm, hpm⟩ : ∃ pm, x.m * y.m = pm := ⟨_, rfl⟩
              rw [hpm] at hpb HTA
              have hwm : IntKind.i64.wrap (x.m * y.m) = pm := by rw [hpm, IntKind.wrap_i64]; omega
              have HJ := hide hj
              clear hX hj hyk hyin hcI hbI hxm hpm sy1 sy2 sy3
              go_wp2_with fail
              obtain ⟨wx, hwx⟩ : ∃ wx, wr.setCell ⟨lb, j, none⟩ (.bool true) = wx := ⟨_, rfl⟩
              rw [hwx] at hXm ⊢
              have hX := hXm
              clear hwx hXm g0 c0 fz
              refine Held.begin (fun z => z.cell? ⟨xb, 0, none⟩ = some (.slice x.A x.n x.c) ∧ z.cell? ⟨xb, 1, none⟩ = some (.int .i64 x.m) ∧ z.cell? ⟨by_, oy + j * 2, none⟩ = some (.slice y.A y.n y.c) ∧ z.cell? ⟨by_, oy + j * 2 + 1, none⟩ = some (.int .i64 y.m)) 100 (by kernel_rfl) ?_
              have hX1 := hX.below ((Below.refl wx.heap.size wx).drew)
              obtain ⟨X1, hXe⟩ : ∃ X1, wx.drew = X1 := ⟨_, rfl⟩
              rw [hXe] at hX1 ⊢
              have hS : X1.cell? ⟨xb, 0, none⟩ = some (.slice x.A x.n x.c) ∧ X1.cell? ⟨xb, 1, none⟩ = some (.int .i64 x.m) ∧ X1.cell? ⟨by_, oy + j * 2, none⟩ = some (.slice y.A y.n y.c) ∧ X1.cell? ⟨by_, oy + j * 2 + 1, none⟩ = some (.int .i64 y.m) := ⟨by simpa using hX1.kx.cell 0, by simpa using hX1.kx.cell 1, (hX1.s.bel.cell hby).trans f0, (hX1.s.bel.cell hby).trans f1⟩
              clear hXe hX
              refine Held.take (i := 0) (.func (Fn.func 144) #[] #[.pointer (some ⟨bo, 0, none⟩)]) rfl hS (by kernel_rfl) (by kernel_rfl) (by kernel_rfl) (by kernel_rfl) (fun _ _ _ h => h) rfl (fun y hy => by obtain ⟨x1, x2, x3, x4⟩ := hy; go_simp) ?_
              try simp only [Act.put]
              refine Held.take (i := 1) (.pointer (some ⟨xb, 0, none⟩)) rfl hS (by kernel_rfl) (by kernel_rfl) (by kernel_rfl) (by kernel_rfl) (fun _ _ _ h => h) rfl (fun y hy => by obtain ⟨x1, x2, x3, x4⟩ := hy; go_simp) ?_
              try simp only [Act.put]
              refine Held.take (i := 2) (.slice x.A x.n x.c) rfl hS (by kernel_rfl) (by kernel_rfl) (by kernel_rfl) (by kernel_rfl) (fun _ _ _ h => h) rfl (fun y hy => by obtain ⟨x1, x2, x3, x4⟩ := hy; go_simp) ?_
              try simp only [Act.put]
              refine Held.take (i := 3) (.slice (some ⟨by_, oy, none⟩) n4 c4) rfl hS (by kernel_rfl) (by kernel_rfl) (by kernel_rfl) (by kernel_rfl) (fun _ _ _ h => h) rfl (fun y hy => by obtain ⟨x1, x2, x3, x4⟩ := hy; go_simp) ?_
              try simp only [Act.put]
              refine Held.take (i := 4) (.int .i64 (j : Int)) rfl hS (by kernel_rfl) (by kernel_rfl) (by kernel_rfl) (by kernel_rfl) (fun _ _ _ h => h) rfl (fun y hy => by obtain ⟨x1, x2, x3, x4⟩ := hy; go_simp) ?_
              try simp only [Act.put]
              refine Held.take (i := 5) (.pointer (some ⟨by_, oy + j * 2, none⟩)) rfl hS (by kernel_rfl) (by kernel_rfl) (by kernel_rfl) (by kernel_rfl) (fun _ _ _ h => h) rfl (fun y hy => by obtain ⟨x1, x2, x3, x4⟩ := hy; go_simp) ?_
              try simp only [Act.put]
              refine Held.take (i := 6) (.pointer (some ⟨by_, oy + j * 2, none⟩)) rfl hS (by kernel_rfl) (by kernel_rfl) (by kernel_rfl) (by kernel_rfl) (fun _ _ _ h => h) rfl (fun y hy => by obtain ⟨x1, x2, x3, x4⟩ := hy; go_simp) ?_
              try simp only [Act.put]
              refine Held.take (i := 7) (.slice y.A y.n y.c) rfl hS (by kernel_rfl) (by kernel_rfl) (by kernel_rfl) (by kernel_rfl) (fun _ _ _ h => h) rfl (fun y hy => by obtain ⟨x1, x2, x3, x4⟩ := hy; go_simp) ?_
              try simp only [Act.put]
              refine Held.take (i := 10) (.pointer (some ⟨xb, 1, none⟩)) rfl hS (by kernel_rfl) (by kernel_rfl) (by kernel_rfl) (by kernel_rfl) (fun _ _ _ h => h) rfl (fun y hy => by obtain ⟨x1, x2, x3, x4⟩ := hy; go_simp) ?_
              try simp only [Act.put]
              refine Held.take (i := 11) (.int .i64 x.m) rfl hS (by kernel_rfl) (by kernel_rfl) (by kernel_rfl) (by kernel_rfl) (fun _ _ _ h => h) rfl (fun y hy => by obtain ⟨x1, x2, x3, x4⟩ := hy; go_simp) ?_
              try simp only [Act.put]
              refine Held.take (i := 12) (.slice (some ⟨by_, oy, none⟩) n4 c4) rfl hS (by kernel_rfl) (by kernel_rfl) (by kernel_rfl) (by kernel_rfl) (fun _ _ _ h => h) rfl (fun y hy => by obtain ⟨x1, x2, x3, x4⟩ := hy; go_simp) ?_
              try simp only [Act.put]
              refine Held.take (i := 13) (.int .i64 (j : Int)) rfl hS (by kernel_rfl) (by kernel_rfl) (by kernel_rfl) (by kernel_rfl) (fun _ _ _ h => h) rfl (fun y hy => by obtain ⟨x1, x2, x3, x4⟩ := hy; go_simp) ?_
              try simp only [Act.put]
              refine Held.take (i := 14) (.pointer (some ⟨by_, oy + j * 2, none⟩)) rfl hS (by kernel_rfl) (by kernel_rfl) (by kernel_rfl) (by kernel_rfl) (fun _ _ _ h => h) rfl (fun y hy => by obtain ⟨x1, x2, x3, x4⟩ := hy; go_simp) ?_
              try simp only [Act.put]
              refine Held.take (i := 15) (.pointer (some ⟨by_, oy + j * 2 + 1, none⟩)) rfl hS (by kernel_rfl) (by kernel_rfl) (by kernel_rfl) (by kernel_rfl) (fun _ _ _ h => h) rfl (fun y hy => by obtain ⟨x1, x2, x3, x4⟩ := hy; go_simp) ?_
              try simp only [Act.put]
              refine Held.take (i := 16) (.int .i64 y.m) rfl hS (by kernel_rfl) (by kernel_rfl) (by kernel_rfl) (by kernel_rfl) (fun _ _ _ h => h) rfl (fun y hy => by obtain ⟨x1, x2, x3, x4⟩ := hy; go_simp) ?_
              try simp only [Act.put]
              refine Held.take (i := 17) (.int .i64 pm) rfl hS (by kernel_rfl) (by kernel_rfl) (by kernel_rfl) (by kernel_rfl) (fun _ _ _ h => h) rfl (fun y hy => by obtain ⟨x1, x2, x3, x4⟩ := hy; go_simp) ?_
              try simp only [Act.put]
              refine Held.one (i := 8) rfl (by kernel_rfl) rfl (fun K hK => ?_)
              have hbr := below_val (w := X1) #[.slice x.A x.n x.c, .slice y.A y.n y.c] 34
              have kq := Blk.new X1 34 #[.slice x.A x.n x.c, .slice y.A y.n y.c]
              unfold Oper.wp
              go_simp
              have hX2 := hX1.below hbr
              have hX2s : (X1.alloc (.cells #[.slice x.A x.n x.c, .slice y.A y.n y.c] 34)).heap.size = X1.heap.size + 1 := World.size_alloc _ _
              obtain ⟨X2, hXe⟩ : ∃ X2, X1.alloc (.cells #[.slice x.A x.n x.c, .slice y.A y.n y.c] 34) = X2 := ⟨_, rfl⟩
              rw [hXe] at hbr kq hX2 hX2s ⊢
              have hS2 : X2.cell? ⟨xb, 0, none⟩ = some (.slice x.A x.n x.c) ∧ X2.cell? ⟨xb, 1, none⟩ = some (.int .i64 x.m) ∧ X2.cell? ⟨by_, oy + j * 2, none⟩ = some (.slice y.A y.n y.c) ∧ X2.cell? ⟨by_, oy + j * 2 + 1, none⟩ = some (.int .i64 y.m) := ⟨by simpa using hX2.kx.cell 0, by simpa using hX2.kx.cell 1, (hX2.s.bel.cell hby).trans f0, (hX2.s.bel.cell hby).trans f1⟩
              refine hK _ _ (fun _ => hS2) ?_
              try simp only [Act.put]
              clear hK K hS hXe hbr hX1
              have hS := hS2
              clear hS2
              refine Held.one (i := 9) rfl (by kernel_rfl) rfl (fun K hK => ?_)
              unfold Oper.wp
              go_simp
              have hrd2 : Reads X2 X2.heap.size 1 (some ⟨X1.heap.size, 0, none⟩) 2 [.slice x.A x.n x.c, .slice y.A y.n y.c] := ⟨rfl, fun _ => ⟨X1.heap.size, 0, rfl, by omega, fun j u hu => by rw [Nat.zero_add, kq.cell j]; simpa using hu⟩⟩
              refine (ConcatV_any (some ⟨X1.heap.size, 0, none⟩) 2 2 [⟨x.A, x.n, x.c, x.r⟩, ⟨y.A, y.n, y.c, y.r⟩] X2 ⟨hrd2, fun r hr => by
                rcases List.mem_cons.1 hr with rfl | hr
                · exact ((hrx.below hX2.s.bel).mono hX2.s.bel.size).rd
                · obtain rfl : r = ⟨y.A, y.n, y.c, y.r⟩ := by simpa using hr
                  exact ((hry.below hX2.s.bel).mono hX2.s.bel.size).rd⟩ (by omega) (fun r hr => by
                rcases List.mem_cons.1 hr with rfl | hr
                · show _ ≤ 60; dsimp only; omega
                · obtain rfl : r = ⟨y.A, y.n, y.c, y.r⟩ := by simpa using hr
                  show _ ≤ 60; dsimp only; omega)).mono ?_
              have hlv : lenV [⟨x.A, x.n, x.c, x.r⟩, ⟨y.A, y.n, y.c, y.r⟩] = x.n + y.n := by simp [lenV]
              have hav : allV [⟨x.A, x.n, x.c, x.r⟩, ⟨y.A, y.n, y.c, y.r⟩] = x.r ++ y.r := by simp [allV]
              rw [hlv, hav]
              clear hlv hav hrd2 kq hX2s
              rintro e X3 ⟨Ac, cc, rfl, hown3, hb3⟩
              have hrow3 : RowK X3 0 Ac (x.n + y.n) (x.r ++ y.r) := RowK.of_own hown3 (by omega)
              obtain ⟨mm, hmm⟩ : ∃ mm, x.n + y.n = mm := ⟨_, rfl⟩
              rw [hmm] at hrow3 ⊢
              have hX3 := hX2.below hb3
              have hS2 : X3.cell? ⟨xb, 0, none⟩ = some (.slice x.A x.n x.c) ∧ X3.cell? ⟨xb, 1, none⟩ = some (.int .i64 x.m) ∧ X3.cell? ⟨by_, oy + j * 2, none⟩ = some (.slice y.A y.n y.c) ∧ X3.cell? ⟨by_, oy + j * 2 + 1, none⟩ = some (.int .i64 y.m) := ⟨by simpa using hX3.kx.cell 0, by simpa using hX3.kx.cell 1, (hX3.s.bel.cell hby).trans f0, (hX3.s.bel.cell hby).trans f1⟩
              refine hK _ _ (fun _ => hS2) ?_
              try simp only [Act.put]
              clear hK K hS hb3 hX2 hown3 hmm
              have hS := hS2
              clear hS2
              refine Held.one (i := 18) rfl (by kernel_rfl) rfl (fun K hK => ?_)
              unfold Oper.wp
              go_simp
              refine (outer1_any Ac mm cc (x.r ++ y.r) pm w.heap.size bo _ X3 hX3.s.po HDL.out hX3.s.bel.size HBO.out hrow3).mono ?_
              rintro e X4 ⟨rfl, hpo, Xs, hbar, hXs, hoff⟩
              have hX4 := hX3.put hbar hXs hpo hoff
              have HS4 := hide (show X4.cell? ⟨xb, 0, none⟩ = some (.slice x.A x.n x.c) ∧ X4.cell? ⟨xb, 1, none⟩ = some (.int .i64 x.m) ∧ X4.cell? ⟨by_, oy + j * 2, none⟩ = some (.slice y.A y.n y.c) ∧ X4.cell? ⟨by_, oy + j * 2 + 1, none⟩ = some (.int .i64 y.m) from ⟨by simpa using hX4.kx.cell 0, by simpa using hX4.kx.cell 1, (hX4.s.bel.cell hby).trans f0, (hX4.s.bel.cell hby).trans f1⟩)
              refine hK _ _ (fun _ => HS4.out) ?_
              try simp only [Act.put]
              have HX := hide hX4
              clear hK K hS hX3 hrow3 hpo hbar hXs hoff hX4
              refine Held.done (by kernel_rfl) ?_
              clear HS4
              go_wp2
              go_roundw
              case rel => exact ⟨m + 1, by omega, by go_num, by simp, by rw [HTA.out, ← List.append_assoc]; exact HX.out⟩
              case measure => simp [intOf]; omega
            · obtain rfl : nl = m := by omega
              rw [List.take_of_length_le (by rw [HNL.out]; exact Nat.le_refl _), ← HPR.out] at hX
              obtain ⟨z, hz⟩ : ∃ z, decide (nl = 0) = z := ⟨_, rfl⟩
              have HFN := hide (show leftsL lf on others width ((dat ll).take (i1 + 1)) (dat lr) = bs ++ pairL on others (x.r, x.m) (dat lr) ++ (if lf && z then [(x.r ++ nullR width, x.m)] else []) from by
                rw [HTX.out, leftsL_snoc, List.append_assoc, HBB.out]
                unfold leftL
                rw [HME.out, ← hz, show (!decide (0 < nl)) = decide (nl = 0) from by by_cases h : nl = 0 <;> simp [h] <;> omega])
              have hX3 := hX.congr (mg := fun j => !loneF on others ((dat ll).take (i1 + 1)) (dat lr) j) fun j hj => by
                rw [HTX.out, HLO.out j hj, ← HMF.out]
                unfold mdF
                rw [List.take_of_length_le (l := ii) (by rw [HNL.out]; exact Nat.le_refl _)]
                simp
              have HDL := hide (show (bs ++ pairL on others (x.r, x.m) (dat lr)).length ≤ 1000000 from by
                have h1 := HBS.out
                have h2 := pairL_len on others (x.r, x.m) (dat lr)
                have h3 := SR.out.len
                rw [List.length_append]
                omega)
              rw [hz]
              clear hX hz
              have hX := hX3
              clear hX3
              have hxm := HXP.out.2.2
              cases z
              · have HX := hide hX
                have HFM := hide (show leftsL lf on others width ((dat ll).take (i1 + 1)) (dat lr) = bs ++ pairL on others (x.r, x.m) (dat lr) from by rw [HFN.out]; simp)
                clear hX HFN
                go_wp2
                go_roundw
                case rel => exact ⟨i1 + 1, by omega, by go_num, by rw [HFM.out]; exact HX.out.s⟩
                case measure => simp [intOf]; omega
              · cases lf
                · have HX := hide hX
                  have HFM := hide (show leftsL false on others width ((dat ll).take (i1 + 1)) (dat lr) = bs ++ pairL on others (x.r, x.m) (dat lr) from by rw [HFN.out]; simp)
                  clear hX HFN
                  go_wp2
                  go_roundw
                  case rel => exact ⟨i1 + 1, by omega, by go_num, by rw [HFM.out]; exact HX.out.s⟩
                  case measure => simp [intOf]; omega
                · have HFM := hide (show leftsL true on others width ((dat ll).take (i1 + 1)) (dat lr) = bs ++ pairL on others (x.r, x.m) (dat lr) ++ [(x.r ++ nullR width, x.m)] from by rw [HFN.out]; simp)
                  have hmr := run_make_rw width (by omega)
                  obtain ⟨wx, hwx⟩ : ∃ wx : World, wx = wr := ⟨_, rfl⟩
                  subst hwx
                  clear HFN
                  go_wp2_with fail
                  refine Held.begin (fun z => z.cell? ⟨xb, 0, none⟩ = some (.slice x.A x.n x.c) ∧ z.cell? ⟨xb, 1, none⟩ = some (.int .i64 x.m)) 100 (by kernel_rfl) ?_
                  have hX1 := hX.below ((Below.refl wx.heap.size wx).drew)
                  obtain ⟨X1, hXe⟩ : ∃ X1, wx.drew = X1 := ⟨_, rfl⟩
                  rw [hXe] at hX1 ⊢
                  have hS : X1.cell? ⟨xb, 0, none⟩ = some (.slice x.A x.n x.c) ∧ X1.cell? ⟨xb, 1, none⟩ = some (.int .i64 x.m) := ⟨by simpa using hX1.kx.cell 0, by simpa using hX1.kx.cell 1⟩
                  clear hXe hX
                  refine Held.take (i := 0) (.func (Fn.func 144) #[] #[.pointer (some ⟨bo, 0, none⟩)]) rfl hS (by kernel_rfl) (by kernel_rfl) (by kernel_rfl) (by kernel_rfl) (fun _ _ _ h => h) rfl (fun y hy => by obtain ⟨x1, x2⟩ := hy; go_simp) ?_
                  try simp only [Act.put]
                  refine Held.take (i := 1) (.pointer (some ⟨xb, 0, none⟩)) rfl hS (by kernel_rfl) (by kernel_rfl) (by kernel_rfl) (by kernel_rfl) (fun _ _ _ h => h) rfl (fun y hy => by obtain ⟨x1, x2⟩ := hy; go_simp) ?_
                  try simp only [Act.put]
                  refine Held.take (i := 2) (.slice x.A x.n x.c) rfl hS (by kernel_rfl) (by kernel_rfl) (by kernel_rfl) (by kernel_rfl) (fun _ _ _ h => h) rfl (fun y hy => by obtain ⟨x1, x2⟩ := hy; go_simp) ?_
                  try simp only [Act.put]
                  refine Held.take (i := 3) (.int .i64 (width : Int)) rfl hS (by kernel_rfl) (by kernel_rfl) (by kernel_rfl) (by kernel_rfl) (fun _ _ _ h => h) rfl (fun y hy => by obtain ⟨x1, x2⟩ := hy; go_simp) ?_
                  try simp only [Act.put]
                  refine Held.take (i := 7) (.pointer (some ⟨xb, 1, none⟩)) rfl hS (by kernel_rfl) (by kernel_rfl) (by kernel_rfl) (by kernel_rfl) (fun _ _ _ h => h) rfl (fun y hy => by obtain ⟨x1, x2⟩ := hy; go_simp) ?_
                  try simp only [Act.put]
                  refine Held.take (i := 8) (.int .i64 x.m) rfl hS (by kernel_rfl) (by kernel_rfl) (by kernel_rfl) (by kernel_rfl) (fun _ _ _ h => h) rfl (fun y hy => by obtain ⟨x1, x2⟩ := hy; go_simp) ?_
                  try simp only [Act.put]
                  refine Held.one (i := 4) rfl (by kernel_rfl) rfl (fun K hK => ?_)
                  unfold Oper.wp
                  go_simp
                  have hbz := below_val (w := X1) (madeCells #[.int .i64 0, .int .i64 0, .string ByteArray.empty] (width * 3)) 102
                  have hrz := made_row0 X1 width (by omega)
                  have hXz := hX1.below hbz
                  obtain ⟨Xz, hXe⟩ : ∃ Xz, X1.alloc (.cells (madeCells #[.int .i64 0, .int .i64 0, .string ByteArray.empty] (width * 3)) 102) = Xz := ⟨_, rfl⟩
                  rw [hXe] at hbz hrz hXz ⊢
                  obtain ⟨zb, hzb⟩ : ∃ zb, X1.heap.size = zb := ⟨_, rfl⟩
                  rw [hzb] at hrz ⊢
                  have hS2 : Xz.cell? ⟨xb, 0, none⟩ = some (.slice x.A x.n x.c) ∧ Xz.cell? ⟨xb, 1, none⟩ = some (.int .i64 x.m) := ⟨by simpa using hXz.kx.cell 0, by simpa using hXz.kx.cell 1⟩
                  refine hK _ _ (fun _ => hS2) ?_
                  try simp only [Act.put]
                  clear hK K hS hXe hbz hX1 hzb
                  have hS := hS2
                  clear hS2
                  refine Held.one (i := 5) rfl (by kernel_rfl) rfl (fun K hK => ?_)
                  have hbr := below_val (w := Xz) #[.slice x.A x.n x.c, .slice (some ⟨zb, 0, none⟩) width width] 34
                  have kq := Blk.new Xz 34 #[.slice x.A x.n x.c, .slice (some ⟨zb, 0, none⟩) width width]
                  unfold Oper.wp
                  go_simp
                  have hX2 := hXz.below hbr
                  have hrz2 := hrz.below hbr
                  have hX2s : (Xz.alloc (.cells #[.slice x.A x.n x.c, .slice (some ⟨zb, 0, none⟩) width width] 34)).heap.size = Xz.heap.size + 1 := World.size_alloc _ _
                  obtain ⟨X2, hXe⟩ : ∃ X2, Xz.alloc (.cells #[.slice x.A x.n x.c, .slice (some ⟨zb, 0, none⟩) width width] 34) = X2 := ⟨_, rfl⟩
                  rw [hXe] at hbr kq hX2 hrz2 hX2s ⊢
                  have hS2 : X2.cell? ⟨xb, 0, none⟩ = some (.slice x.A x.n x.c) ∧ X2.cell? ⟨xb, 1, none⟩ = some (.int .i64 x.m) := ⟨by simpa using hX2.kx.cell 0, by simpa using hX2.kx.cell 1⟩
                  refine hK _ _ (fun _ => hS2) ?_
                  try simp only [Act.put]
                  clear hK K hS hXe hbr hXz hrz
                  have hS := hS2
                  clear hS2
                  refine Held.one (i := 6) rfl (by kernel_rfl) rfl (fun K hK => ?_)
                  unfold Oper.wp
                  go_simp
                  have hrd2 : Reads X2 X2.heap.size 1 (some ⟨Xz.heap.size, 0, none⟩) 2 [.slice x.A x.n x.c, .slice (some ⟨zb, 0, none⟩) width width] := ⟨rfl, fun _ => ⟨Xz.heap.size, 0, rfl, by omega, fun j u hu => by rw [Nat.zero_add, kq.cell j]; simpa using hu⟩⟩
                  refine (ConcatV_any (some ⟨Xz.heap.size, 0, none⟩) 2 2 [⟨x.A, x.n, x.c, x.r⟩, ⟨some ⟨zb, 0, none⟩, width, width, nullR width⟩] X2 ⟨hrd2, fun r hr => by
                    rcases List.mem_cons.1 hr with rfl | hr
                    · exact ((hrx.below hX2.s.bel).mono hX2.s.bel.size).rd
                    · obtain rfl : r = ⟨some ⟨zb, 0, none⟩, width, width, nullR width⟩ := by simpa using hr
                      exact hrz2.rd⟩ (by omega) (fun r hr => by
                    rcases List.mem_cons.1 hr with rfl | hr
                    · show _ ≤ 60; dsimp only; omega
                    · obtain rfl : r = ⟨some ⟨zb, 0, none⟩, width, width, nullR width⟩ := by simpa using hr
                      show _ ≤ 60; dsimp only; omega)).mono ?_
                  have hlv : lenV [⟨x.A, x.n, x.c, x.r⟩, ⟨some ⟨zb, 0, none⟩, width, width, nullR width⟩] = x.n + width := by simp [lenV]
                  have hav : allV [⟨x.A, x.n, x.c, x.r⟩, ⟨some ⟨zb, 0, none⟩, width, width, nullR width⟩] = x.r ++ nullR width := by simp [allV]
                  rw [hlv, hav]
                  clear hlv hav hrd2 kq hX2s
                  rintro e X3 ⟨Ac, cc, rfl, hown3, hb3⟩
                  have hrow3 : RowK X3 0 Ac (x.n + width) (x.r ++ nullR width) := RowK.of_own hown3 (by omega)
                  obtain ⟨mm, hmm⟩ : ∃ mm, x.n + width = mm := ⟨_, rfl⟩
                  rw [hmm] at hrow3 ⊢
                  have hX3 := hX2.below hb3
                  have hS2 : X3.cell? ⟨xb, 0, none⟩ = some (.slice x.A x.n x.c) ∧ X3.cell? ⟨xb, 1, none⟩ = some (.int .i64 x.m) := ⟨by simpa using hX3.kx.cell 0, by simpa using hX3.kx.cell 1⟩
                  refine hK _ _ (fun _ => hS2) ?_
                  try simp only [Act.put]
                  clear hK K hS hb3 hX2 hrz2 hown3 hmm
                  have hS := hS2
                  clear hS2
                  refine Held.one (i := 9) rfl (by kernel_rfl) rfl (fun K hK => ?_)
                  unfold Oper.wp
                  go_simp
                  refine (outer1_any Ac mm cc (x.r ++ nullR width) x.m w.heap.size bo _ X3 hX3.s.po HDL.out hX3.s.bel.size HBO.out hrow3).mono ?_
                  rintro e X4 ⟨rfl, hpo, Xs, hbar, hXs, hoff⟩
                  have hX4 := hX3.put hbar hXs hpo hoff
                  have HS4 := hide (show X4.cell? ⟨xb, 0, none⟩ = some (.slice x.A x.n x.c) ∧ X4.cell? ⟨xb, 1, none⟩ = some (.int .i64 x.m) from ⟨by simpa using hX4.kx.cell 0, by simpa using hX4.kx.cell 1⟩)
                  refine hK _ _ (fun _ => HS4.out) ?_
                  try simp only [Act.put]
                  have HX := hide hX4
                  clear hK K hS hX3 hrow3 hpo hbar hXs hoff hX4
                  refine Held.done (by kernel_rfl) ?_
                  clear HS4
                  go_wp2
                  go_roundw
                  case rel => exact ⟨i1 + 1, by omega, by go_num, by rw [HFM.out]; exact HX.out.s⟩
                  case measure => simp [intOf]; omega
        · obtain rfl : n3 = i1 := by omega
          rw [List.take_of_length_le (by rw [HN3.out]; exact Nat.le_refl _)] at hS
          have HLE := hide (show (leftsL lf on others width (dat ll) (dat lr)).length ≤ 160400 from lefts_few SL.out SR.out)
          have HJN := hide (show joinL lf rt on others wide width (dat ll) (dat lr) = leftsL lf on others width (dat ll) (dat lr) ++ rightL rt on others wide (dat ll) (dat lr) from rfl)
          obtain ⟨bs, hbs⟩ : ∃ bs, leftsL lf on others width (dat ll) (dat lr) = bs := ⟨_, rfl⟩
          rw [hbs] at hS HLE HJN
          have hS0 : OuS w wr kb lb (lb + 1) bo n4 #[.slice A1 n1 c1, .slice A2 n2 c2] F (fun j => !loneF on others (dat ll) (dat lr) j) (bs ++ rightL rt on others wide (dat ll) ((dat lr).take 0)) := by
            rw [List.take_zero, show rightL rt on others wide (dat ll) [] = [] from rfl, List.append_nil]
            exact hS
          clear hS hbs
          go_wp2_with fail
          go_loopw [134] (fun i wx => ∃ k : Nat, k ≤ n4 ∧ i = .int .i64 k ∧ OuS w wx kb lb (lb + 1) bo n4 #[.slice A1 n1 c1, .slice A2 n2 c2] F (fun j => !loneF on others (dat ll) (dat lr) j) (bs ++ rightL rt on others wide (dat ll) ((dat lr).take k))) (fun i _ => n4 - (intOf i).toNat)
          case atStart => exact ⟨0, Nat.zero_le _, rfl, hS0⟩
          case round =>
            clear hS0
            obtain ⟨k, hkk, rfl, hS⟩ := hrel
            by_cases hlk : k < n4
            · have q1 : (0 : Int) ≤ (k : Int) := by omega
              have q2 : (k : Int) < (n4 : Int) := by omega
              obtain ⟨bx, ox, x, rfl, hbx, hxk, e0, e1, hrx⟩ := PD.out.at_ hlk
              have HXD := hide (dat_at hxk)
              have hxin := List.mem_of_getElem? HXD.out
              obtain ⟨sx1, sx2, sx3⟩ := SR.out.row _ hxin
              have sx4 := SR.out.num _ hxin
              simp only at sx1 sx2 sx3 sx4
              have hxl := hrx.len
              have hxn8 : x.n ≤ 8 := by omega
              have HSN := hide (show bs ++ rightL rt on others wide (dat ll) ((dat lr).take (k + 1)) = (bs ++ rightL rt on others wide (dat ll) ((dat lr).take k)) ++ (if rt && loneF on others (dat ll) (dat lr) k then [(nullR wide ++ x.r, x.m)] else []) from by
                rw [take_snoc' HXD.out, rightL_snoc, List.append_assoc, loneF_at HXD.out])
              have e0 := (hS.bel.cell (p := ⟨bx, ox + k * 2, none⟩) hbx).trans e0
              have e1 := (hS.bel.cell (p := ⟨bx, ox + k * 2 + 1, none⟩) hbx).trans e1
              have hX0 := OuX.start hS #[.slice x.A x.n x.c, .int .i64 x.m] (vI := .slice none 0 0) (nI := 0) (cI := []) (World.ownsRow_nil _ _ _ _)
              have HDL := hide (show (bs ++ rightL rt on others wide (dat ll) ((dat lr).take k)).length ≤ 1000000 from by
                have h1 := HLE.out
                have h2 := rightL_len rt on others wide (dat ll) ((dat lr).take k)
                have h3 := SR.out.len
                rw [List.length_append]
                rw [List.length_take] at h2
                omega)
              obtain ⟨lo, hlo⟩ : ∃ lo, loneF on others (dat ll) (dat lr) k = lo := ⟨_, rfl⟩
              obtain ⟨W3, hW3⟩ : ∃ W3, wr.alloc (.cells #[.slice x.A x.n x.c, .int .i64 x.m] 119) = W3 := ⟨_, rfl⟩
              obtain ⟨xb, hxb⟩ : ∃ xb, wr.heap.size = xb := ⟨_, rfl⟩
              rw [hW3, hxb] at hX0
              rw [hlo] at HSN
              have c0 := hX0.s.mt.cell hlk
              simp only [hlo] at c0
              go_upto_region 31 with fail
              try rw [hW3]
              try rw [hxb]
              clear hW3 hxb hxk hxin hS hlo e0 e1
              have HX0 := hide hX0
              clear hX0
              cases rt
              · have HSM := hide (show bs ++ rightL false on others wide (dat ll) ((dat lr).take (k + 1)) = bs ++ rightL false on others wide (dat ll) ((dat lr).take k) from by rw [HSN.out]; simp)
                clear HSN c0
                go_wp2
                go_roundw
                case rel => exact ⟨k + 1, by omega, by go_num, by rw [HSM.out]; exact HX0.out.s⟩
                case measure => simp [intOf]; omega
              · cases lo
                · have HSM := hide (show bs ++ rightL true on others wide (dat ll) ((dat lr).take (k + 1)) = bs ++ rightL true on others wide (dat ll) ((dat lr).take k) from by rw [HSN.out]; simp)
                  clear HSN
                  go_wp2
                  go_roundw
                  case rel => exact ⟨k + 1, by omega, by go_num, by rw [HSM.out]; exact HX0.out.s⟩
                  case measure => simp [intOf]; omega
                · have HSM := hide (show bs ++ rightL true on others wide (dat ll) ((dat lr).take (k + 1)) = bs ++ rightL true on others wide (dat ll) ((dat lr).take k) ++ [(nullR wide ++ x.r, x.m)] from by rw [HSN.out]; simp)
                  have hmr := run_make_rw wide (by omega)
                  obtain ⟨wx, hwx⟩ : ∃ wx : World, wx = W3 := ⟨_, rfl⟩
                  subst hwx
                  have hX := HX0.out
                  clear HSN HX0
                  go_wp2_with fail
                  clear c0
                  refine Held.begin (fun z => z.cell? ⟨xb, 0, none⟩ = some (.slice x.A x.n x.c) ∧ z.cell? ⟨xb, 1, none⟩ = some (.int .i64 x.m)) 100 (by kernel_rfl) ?_
                  have hX1 := hX.below ((Below.refl wx.heap.size wx).drew)
                  obtain ⟨X1, hXe⟩ : ∃ X1, wx.drew = X1 := ⟨_, rfl⟩
                  rw [hXe] at hX1 ⊢
                  have hS : X1.cell? ⟨xb, 0, none⟩ = some (.slice x.A x.n x.c) ∧ X1.cell? ⟨xb, 1, none⟩ = some (.int .i64 x.m) := ⟨by simpa using hX1.kx.cell 0, by simpa using hX1.kx.cell 1⟩
                  clear hXe hX
                  refine Held.take (i := 0) (.func (Fn.func 144) #[] #[.pointer (some ⟨bo, 0, none⟩)]) rfl hS (by kernel_rfl) (by kernel_rfl) (by kernel_rfl) (by kernel_rfl) (fun _ _ _ h => h) rfl (fun y hy => by obtain ⟨x1, x2⟩ := hy; go_simp) ?_
                  try simp only [Act.put]
                  refine Held.take (i := 1) (.int .i64 (wide : Int)) rfl hS (by kernel_rfl) (by kernel_rfl) (by kernel_rfl) (by kernel_rfl) (fun _ _ _ h => h) rfl (fun y hy => by obtain ⟨x1, x2⟩ := hy; go_simp) ?_
                  try simp only [Act.put]
                  refine Held.take (i := 3) (.pointer (some ⟨xb, 0, none⟩)) rfl hS (by kernel_rfl) (by kernel_rfl) (by kernel_rfl) (by kernel_rfl) (fun _ _ _ h => h) rfl (fun y hy => by obtain ⟨x1, x2⟩ := hy; go_simp) ?_
                  try simp only [Act.put]
                  refine Held.take (i := 4) (.slice x.A x.n x.c) rfl hS (by kernel_rfl) (by kernel_rfl) (by kernel_rfl) (by kernel_rfl) (fun _ _ _ h => h) rfl (fun y hy => by obtain ⟨x1, x2⟩ := hy; go_simp) ?_
                  try simp only [Act.put]
                  refine Held.take (i := 7) (.pointer (some ⟨xb, 1, none⟩)) rfl hS (by kernel_rfl) (by kernel_rfl) (by kernel_rfl) (by kernel_rfl) (fun _ _ _ h => h) rfl (fun y hy => by obtain ⟨x1, x2⟩ := hy; go_simp) ?_
                  try simp only [Act.put]
                  refine Held.take (i := 8) (.int .i64 x.m) rfl hS (by kernel_rfl) (by kernel_rfl) (by kernel_rfl) (by kernel_rfl) (fun _ _ _ h => h) rfl (fun y hy => by obtain ⟨x1, x2⟩ := hy; go_simp) ?_
                  try simp only [Act.put]
                  refine Held.one (i := 2) rfl (by kernel_rfl) rfl (fun K hK => ?_)
                  unfold Oper.wp
                  go_simp
                  have hbz := below_val (w := X1) (madeCells #[.int .i64 0, .int .i64 0, .string ByteArray.empty] (wide * 3)) 102
                  have hrz := made_row0 X1 wide (by omega)
                  have hXz := hX1.below hbz
                  obtain ⟨Xz, hXe⟩ : ∃ Xz, X1.alloc (.cells (madeCells #[.int .i64 0, .int .i64 0, .string ByteArray.empty] (wide * 3)) 102) = Xz := ⟨_, rfl⟩
                  rw [hXe] at hbz hrz hXz ⊢
                  obtain ⟨zb, hzb⟩ : ∃ zb, X1.heap.size = zb := ⟨_, rfl⟩
                  rw [hzb] at hrz ⊢
                  have hS2 : Xz.cell? ⟨xb, 0, none⟩ = some (.slice x.A x.n x.c) ∧ Xz.cell? ⟨xb, 1, none⟩ = some (.int .i64 x.m) := ⟨by simpa using hXz.kx.cell 0, by simpa using hXz.kx.cell 1⟩
                  refine hK _ _ (fun _ => hS2) ?_
                  try simp only [Act.put]
                  clear hK K hS hXe hbz hX1 hzb
                  have hS := hS2
                  clear hS2
                  refine Held.one (i := 5) rfl (by kernel_rfl) rfl (fun K hK => ?_)
                  have hbr := below_val (w := Xz) #[.slice (some ⟨zb, 0, none⟩) wide wide, .slice x.A x.n x.c] 34
                  have kq := Blk.new Xz 34 #[.slice (some ⟨zb, 0, none⟩) wide wide, .slice x.A x.n x.c]
                  unfold Oper.wp
                  go_simp
                  have hX2 := hXz.below hbr
                  have hrz2 := hrz.below hbr
                  have hX2s : (Xz.alloc (.cells #[.slice (some ⟨zb, 0, none⟩) wide wide, .slice x.A x.n x.c] 34)).heap.size = Xz.heap.size + 1 := World.size_alloc _ _
                  obtain ⟨X2, hXe⟩ : ∃ X2, Xz.alloc (.cells #[.slice (some ⟨zb, 0, none⟩) wide wide, .slice x.A x.n x.c] 34) = X2 := ⟨_, rfl⟩
                  rw [hXe] at hbr kq hX2 hrz2 hX2s ⊢
                  have hS2 : X2.cell? ⟨xb, 0, none⟩ = some (.slice x.A x.n x.c) ∧ X2.cell? ⟨xb, 1, none⟩ = some (.int .i64 x.m) := ⟨by simpa using hX2.kx.cell 0, by simpa using hX2.kx.cell 1⟩
                  refine hK _ _ (fun _ => hS2) ?_
                  try simp only [Act.put]
                  clear hK K hS hXe hbr hXz hrz
                  have hS := hS2
                  clear hS2
                  refine Held.one (i := 6) rfl (by kernel_rfl) rfl (fun K hK => ?_)
                  unfold Oper.wp
                  go_simp
                  have hrd2 : Reads X2 X2.heap.size 1 (some ⟨Xz.heap.size, 0, none⟩) 2 [.slice (some ⟨zb, 0, none⟩) wide wide, .slice x.A x.n x.c] := ⟨rfl, fun _ => ⟨Xz.heap.size, 0, rfl, by omega, fun j u hu => by rw [Nat.zero_add, kq.cell j]; simpa using hu⟩⟩
                  refine (ConcatV_any (some ⟨Xz.heap.size, 0, none⟩) 2 2 [⟨some ⟨zb, 0, none⟩, wide, wide, nullR wide⟩, ⟨x.A, x.n, x.c, x.r⟩] X2 ⟨hrd2, fun r hr => by
                    rcases List.mem_cons.1 hr with rfl | hr
                    · exact hrz2.rd
                    · obtain rfl : r = ⟨x.A, x.n, x.c, x.r⟩ := by simpa using hr
                      exact ((hrx.below hX2.s.bel).mono hX2.s.bel.size).rd⟩ (by omega) (fun r hr => by
                    rcases List.mem_cons.1 hr with rfl | hr
                    · show _ ≤ 60; dsimp only; omega
                    · obtain rfl : r = ⟨x.A, x.n, x.c, x.r⟩ := by simpa using hr
                      show _ ≤ 60; dsimp only; omega)).mono ?_
                  have hlv : lenV [⟨some ⟨zb, 0, none⟩, wide, wide, nullR wide⟩, ⟨x.A, x.n, x.c, x.r⟩] = wide + x.n := by simp [lenV]
                  have hav : allV [⟨some ⟨zb, 0, none⟩, wide, wide, nullR wide⟩, ⟨x.A, x.n, x.c, x.r⟩] = nullR wide ++ x.r := by simp [allV]
                  rw [hlv, hav]
                  clear hlv hav hrd2 kq hX2s
                  rintro e X3 ⟨Ac, cc, rfl, hown3, hb3⟩
                  have hrow3 : RowK X3 0 Ac (wide + x.n) (nullR wide ++ x.r) := RowK.of_own hown3 (by omega)
                  obtain ⟨mm, hmm⟩ : ∃ mm, wide + x.n = mm := ⟨_, rfl⟩
                  rw [hmm] at hrow3 ⊢
                  have hX3 := hX2.below hb3
                  have hS2 : X3.cell? ⟨xb, 0, none⟩ = some (.slice x.A x.n x.c) ∧ X3.cell? ⟨xb, 1, none⟩ = some (.int .i64 x.m) := ⟨by simpa using hX3.kx.cell 0, by simpa using hX3.kx.cell 1⟩
                  refine hK _ _ (fun _ => hS2) ?_
                  try simp only [Act.put]
                  clear hK K hS hb3 hX2 hrz2 hown3 hmm
                  have hS := hS2
                  clear hS2
                  refine Held.one (i := 9) rfl (by kernel_rfl) rfl (fun K hK => ?_)
                  unfold Oper.wp
                  go_simp
                  refine (outer1_any Ac mm cc (nullR wide ++ x.r) x.m w.heap.size bo _ X3 hX3.s.po HDL.out hX3.s.bel.size HBO.out hrow3).mono ?_
                  rintro e X4 ⟨rfl, hpo, Xs, hbar, hXs, hoff⟩
                  have hX4 := hX3.put hbar hXs hpo hoff
                  have HS4 := hide (show X4.cell? ⟨xb, 0, none⟩ = some (.slice x.A x.n x.c) ∧ X4.cell? ⟨xb, 1, none⟩ = some (.int .i64 x.m) from ⟨by simpa using hX4.kx.cell 0, by simpa using hX4.kx.cell 1⟩)
                  refine hK _ _ (fun _ => HS4.out) ?_
                  try simp only [Act.put]
                  have HX := hide hX4
                  clear hK K hS hX3 hrow3 hpo hbar hXs hoff hX4
                  refine Held.done (by kernel_rfl) ?_
                  clear HS4
                  go_wp2
                  go_roundw
                  case rel => exact ⟨k + 1, by omega, by go_num, by rw [HSM.out]; exact HX.out.s⟩
                  case measure => simp [intOf]; omega
            · obtain rfl : n4 = k := by omega
              rw [List.take_of_length_le (by rw [HN4.out]; exact Nat.le_refl _), ← HJN.out] at hS
              obtain ⟨v, l, hbx, hoi, hdl⟩ := hS.po
              have hc := hbx.cell
              have hok := join_ok (lf := lf) (rt := rt) (on := on) (others := others) (fun x hx => ⟨(SL.out.row x hx).1, by have := SL.out.num x hx; omega, (SL.out.row x hx).2.1⟩) (fun y hy => ⟨(SR.out.row y hy).1, by have := SR.out.num y hy; omega, (SR.out.row y hy).2.1⟩) hw
              have htl : ∀ c ∈ joinL lf rt on others wide width (dat ll) (dat lr), TellP c := fun c hc => (List.mem_append.1 hc).elim (lefts_tell SL.out SR.out hw c) (right_tell SR.out hw c)
              have hjl : (joinL lf rt on others wide width (dat ll) (dat lr)).length ≤ 100000 := by
                have h1 := leftsL_len lf on others width (dat ll) (dat lr)
                have h2 := rightL_len rt on others wide (dat ll) (dat lr)
                have h3 : (dat ll).length * ((dat lr).length + 1) ≤ 60 * 61 := Nat.mul_le_mul (by rw [HN3.out]; exact hm3) (by rw [HN4.out]; omega)
                have h4 := HN4.out
                unfold joinL
                rw [List.length_append]
                omega
              obtain ⟨Ao, co, rfl, _⟩ := own_form hoi.own
              have HTG := hide (together_any w.heap.size _ l wr hoi (by rw [← dat_len, hdl]; exact hjl) (by rw [hdl]; exact fun c hc => ⟨(hok c hc).1, (hok c hc).2, (htl c hc).2.2⟩))
              rw [hdl] at HTG
              have HOB := hide (show ∀ x ∈ obl (.slice Ao l.length co), w.heap.size ≤ x from fun x hx => (hoi.own.lt x (by unfold obl at hx; simpa using hx)).1)
              have HBL := hide hS.bel
              clear hok htl hjl hdl hoi hbx hS
              go_wp2_with fail
              refine HTG.out.mono ?_
              rintro e W6 hres
              obtain ⟨A, n, c, l2, E, rfl, hp, hg, hnc, hfr, hbar⟩ := hres
              have HBZ := hide (HBL.out.trans (hbar.below HBL.out.size HOB.out))
              have HFR := hide (show ∀ b o, 0 < n → A = some ⟨b, o, none⟩ → w.heap.size ≤ b from fun b o h0 e => Nat.le_trans HBL.out.size (hfr b o h0 e))
              have HG := hide hg
              have HPQ := hide hp
              clear hp hg hfr hbar HTG HOB hc
              go_wp2
              rw [← HPP.out, ← HPQ.out]
              exact ⟨A, n, c, l2, rfl, rfl, HG.out, hnc, HFR.out, HBZ.out⟩
end

section
open Go.RowKit
attribute [local go_sem] Oper.semAt_some wide_fn wide_depth
set_option linter.unusedVariables false
set_option linter.unusedSimpArgs false

theorem RetOu_bad {w w' : World} (hB : Below w.heap.size w w') (E : Int) : RetOu w ([], E) (.returned (.tuple #[.slice none 0 0, .int .i64 E])) w' := ⟨none, 0, 0, [], rfl, rfl, BagR.nil _ _, Nat.le_refl _, fun b o h => absurd h (by omega), hB⟩
set_option maxRecDepth 100000 in
set_option maxHeartbeats 16000000 in
theorem Outer_any (kind : Int) (A1 : Option Addr) (n1 c1 : Nat) (on : List Int) (A2 : Option Addr) (n2 c2 : Nat) (others : List Int) (wide width : Int) (A3 : Option Addr) (n3 c3 : Nat) (ll : List It) (A4 : Option Addr) (n4 c4 : Nat) (lr : List It) (w : World)
    (h1 : Reads w w.heap.size 1 A1 n1 (on.map (Value.int .i64))) (h2 : Reads w w.heap.size 1 A2 n2 (others.map (Value.int .i64))) (hn1 : n1 ≤ 1000) (hn2 : n2 ≤ 1000) (h3 : BagR w w.heap.size A3 n3 ll) (h4 : BagR w w.heap.size A4 n4 lr) (hm3 : n3 ≤ 60) (hm4 : n4 ≤ 60)
    (hc3 : ∀ x ∈ ll, x.n ≤ x.c) (hc4 : ∀ x ∈ lr, x.n ≤ x.c) (ht : Tab w) :
    Calls Tryz.prog 22 #[.int .i64 kind, .slice A1 n1 c1, .slice A2 n2 c2, .int .i64 wide, .int .i64 width, .slice A3 n3 c3, .slice A4 n4 c4] w (RetOu w (outB kind on others wide width (dat ll) (dat lr))) := by
  obtain ⟨p, hp⟩ : ∃ p, outB kind on others wide width (dat ll) (dat lr) = p := ⟨_, rfl⟩
  rw [hp]
  have HL1 := hide h1.len1
  have HL2 := hide h2.len1
  unfold outB outE at hp
  obtain ⟨J, hJ⟩ : ∃ J, aftB [] (joinL (decide (kind % 2 = 1)) (decide (2 ≤ kind)) on others wide.toNat width.toNat (dat ll) (dat lr)) = J := ⟨_, rfl⟩
  obtain ⟨o1, r1⟩ : ∃ b, okBag (dat ll) = b := ⟨_, rfl⟩
  obtain ⟨o2, r2⟩ : ∃ b, okBag (dat lr) = b := ⟨_, rfl⟩
  obtain ⟨o3, r3⟩ : ∃ b, fitK on others = b := ⟨_, rfl⟩
  obtain ⟨o4, r4⟩ : ∃ b, wideG (dat ll) wide = b := ⟨_, rfl⟩
  obtain ⟨o5, r5⟩ : ∃ b, wideG (dat lr) width = b := ⟨_, rfl⟩
  obtain ⟨o6, r6⟩ : ∃ b, widerB wide width = b := ⟨_, rfl⟩
  obtain ⟨o7, r7⟩ : ∃ b, btw wide 0 8 = b := ⟨_, rfl⟩
  obtain ⟨o8, r8⟩ : ∃ b, btw width 0 8 = b := ⟨_, rfl⟩
  obtain ⟨o9, r9⟩ : ∃ b, btw kind 0 3 = b := ⟨_, rfl⟩
  obtain ⟨o10, r10⟩ : ∃ b, insK on wide = b := ⟨_, rfl⟩
  obtain ⟨o11, r11⟩ : ∃ b, insK others width = b := ⟨_, rfl⟩
  obtain ⟨o12, r12⟩ : ∃ b, wholeB (dat ll) = b := ⟨_, rfl⟩
  obtain ⟨o13, r13⟩ : ∃ b, wholeB (dat lr) = b := ⟨_, rfl⟩
  obtain ⟨o14, r14⟩ : ∃ b, okBag J = b := ⟨_, rfl⟩
  rw [hJ, r1, r2, r3, r4, r5, r6, r7, r8, r9, r10, r11, r12, r13, r14] at hp
  have HP := hide hp
  have HJ := hide hJ
  have R1 := hide r1
  have R2 := hide r2
  have R3 := hide r3
  have R4 := hide r4
  have R5 := hide r5
  have R6 := hide r6
  have R7 := hide r7
  have R8 := hide r8
  have R9 := hide r9
  have R10 := hide r10
  have R11 := hide r11
  have R12 := hide r12
  have R13 := hide r13
  have R14 := hide r14
  clear hp hJ r1 r2 r3 r4 r5 r6 r7 r8 r9 r10 r11 r12 r13 r14
  have HT := hide ht
  have HC3 := hide hc3
  have HC4 := hide hc4
  have PA := hide h1
  have PB := hide h2
  have PC := hide h3
  have PD := hide h4
  clear h1 h2 h3 h4 hc3 hc4 ht
  have hB0 := below_val (w := w) #[.slice A1 n1 c1, .slice A2 n2 c2] 91
  have x1 := Blk.new w 91 #[.slice A1 n1 c1, .slice A2 n2 c2]
  obtain ⟨kb, hkb⟩ : ∃ kb, w.heap.size = kb := ⟨_, rfl⟩
  rw [hkb] at x1
  go_enter Tryz.func22, Tryz.ntmps22
  go_wp2_with fail
  try rw [hkb]
  obtain ⟨W0, hW0⟩ : ∃ W0, w.alloc (.cells #[.slice A1 n1 c1, .slice A2 n2 c2] 91) = W0 := ⟨_, rfl⟩
  rw [hW0] at hB0 x1 ⊢
  clear hW0
  have HKB := hide hkb
  clear hkb
  go_wp2_with fail
  refine (BagValid_any A3 n3 c3 _ ll W0 (PC.out.stepO hB0)).mono ?_
  rintro e W1 ⟨rfl, hb⟩
  have hB1 := bstep hB0 hb
  have x1 := x1.below hb x1.lt
  clear hb hB0
  rw [R1.out]
  cases o1
  · skip
    have HBZ := hide hB1
    clear hB1
    go_wp2
    refine bodyPost_ret (results_tmp2 rfl _ _ _) rfl ?_
    rw [show p = ([], 1) from HP.out.symm.trans (by first | rfl | simp)]
    exact RetOu_bad HBZ.out 1
  · skip
    go_wp2_with fail
    refine (BagValid_any A4 n4 c4 _ lr W1 (PD.out.stepO hB1)).mono ?_
    rintro e W2 ⟨rfl, hb⟩
    have hB2 := bstep hB1 hb
    have x1 := x1.below hb x1.lt
    clear hb hB1
    rw [R2.out]
    cases o2
    · skip
      have HBZ := hide hB2
      clear hB2
      go_wp2
      refine bodyPost_ret (results_tmp2 rfl _ _ _) rfl ?_
      rw [show p = ([], 1) from HP.out.symm.trans (by first | rfl | simp)]
      exact RetOu_bad HBZ.out 1
    · skip
      have d4 : W2.cell? ⟨kb, 0, none⟩ = some (.slice A1 n1 c1) := by simpa using x1.cell 0
      have d5 : W2.cell? ⟨kb, 1, none⟩ = some (.slice A2 n2 c2) := by simpa using x1.cell 1
      go_wp2_with fail
      refine (sized_any A1 n1 c1 A2 n2 c2 on others W2 HL1.out HL2.out (by omega) (by omega)).mono ?_
      rintro e W3 ⟨rfl, hb⟩
      have hB3 := bstep hB2 hb
      have x1 := x1.below hb x1.lt
      clear hb hB2 d4 d5
      rw [R3.out]
      cases o3
      · skip
        have HBZ := hide hB3
        clear hB3
        go_wp2
        refine bodyPost_ret (results_tmp2 rfl _ _ _) rfl ?_
        rw [show p = ([], 9) from HP.out.symm.trans (by first | rfl | simp)]
        exact RetOu_bad HBZ.out 9
      · skip
        go_wp2_with fail
        refine (wrongWidth_any A3 n3 c3 ll wide W3 (PC.out.stepO hB3) (by omega)).mono ?_
        rintro e W4 ⟨rfl, hb⟩
        have hB4 := bstep hB3 hb
        have x1 := x1.below hb x1.lt
        clear hb hB3
        rw [R4.out]
        cases o4
        · skip
          have HBZ := hide hB4
          clear hB4
          go_wp2
          refine bodyPost_ret (results_tmp2 rfl _ _ _) rfl ?_
          rw [show p = ([], 9) from HP.out.symm.trans (by first | rfl | simp)]
          exact RetOu_bad HBZ.out 9
        · skip
          go_wp2_with fail
          refine (wrongWidth_any A4 n4 c4 lr width W4 (PD.out.stepO hB4) (by omega)).mono ?_
          rintro e W5 ⟨rfl, hb⟩
          have hB5 := bstep hB4 hb
          have x1 := x1.below hb x1.lt
          clear hb hB4
          rw [R5.out]
          cases o5
          · skip
            have HBZ := hide hB5
            clear hB5
            go_wp2
            refine bodyPost_ret (results_tmp2 rfl _ _ _) rfl ?_
            rw [show p = ([], 9) from HP.out.symm.trans (by first | rfl | simp)]
            exact RetOu_bad HBZ.out 9
          · skip
            go_wp2_with fail
            refine (wider_any wide width W5).mono ?_
            rintro e w' ⟨rfl, rfl⟩
            rw [R6.out]
            cases o6
            case true =>
              have HBZ := hide hB5
              clear hB5
              go_wp2
              refine bodyPost_ret (results_tmp2 rfl _ _ _) rfl ?_
              rw [show p = ([], 9) from HP.out.symm.trans (by first | rfl | simp)]
              exact RetOu_bad HBZ.out 9
            case false =>
              go_wp2_with fail
              refine (pwithin_any wide 0 8 W5).mono ?_
              rintro e w' ⟨rfl, rfl⟩
              rw [R7.out]
              cases o7
              · skip
                have HBZ := hide hB5
                clear hB5
                go_wp2
                refine bodyPost_ret (results_tmp2 rfl _ _ _) rfl ?_
                rw [show p = ([], 7) from HP.out.symm.trans (by first | rfl | simp)]
                exact RetOu_bad HBZ.out 7
              · skip
                go_wp2_with fail
                refine (pwithin_any width 0 8 W5).mono ?_
                rintro e w' ⟨rfl, rfl⟩
                rw [R8.out]
                cases o8
                · skip
                  have HBZ := hide hB5
                  clear hB5
                  go_wp2
                  refine bodyPost_ret (results_tmp2 rfl _ _ _) rfl ?_
                  rw [show p = ([], 7) from HP.out.symm.trans (by first | rfl | simp)]
                  exact RetOu_bad HBZ.out 7
                · skip
                  go_wp2_with fail
                  refine (pwithin_any kind 0 3 W5).mono ?_
                  rintro e w' ⟨rfl, rfl⟩
                  rw [R9.out]
                  cases o9
                  · skip
                    have HBZ := hide hB5
                    clear hB5
                    go_wp2
                    refine bodyPost_ret (results_tmp2 rfl _ _ _) rfl ?_
                    rw [show p = ([], 7) from HP.out.symm.trans (by first | rfl | simp)]
                    exact RetOu_bad HBZ.out 7
                  · skip
                    have d4 : W5.cell? ⟨kb, 0, none⟩ = some (.slice A1 n1 c1) := by simpa using x1.cell 0
                    have d5 : W5.cell? ⟨kb, 1, none⟩ = some (.slice A2 n2 c2) := by simpa using x1.cell 1
                    go_wp2_with fail
                    refine (below_any A1 n1 c1 on A2 n2 c2 others wide width W5 (PA.out.up hB5) (PB.out.up hB5) (by omega) (by omega) (by have := btw_iff.1 R7.out; omega) (by have := btw_iff.1 R8.out; omega)).mono ?_
                    rintro e W6 ⟨rfl, hb⟩
                    have hB6 := bstep hB5 hb
                    have x1 := x1.below hb x1.lt
                    clear hb hB5 d4 d5
                    rw [R10.out, R11.out]
                    cases o10
                    · rw [Bool.false_and]
                      have HBZ := hide hB6
                      clear hB6
                      go_wp2
                      refine bodyPost_ret (results_tmp2 rfl _ _ _) rfl ?_
                      rw [show p = ([], 7) from HP.out.symm.trans (by first | rfl | simp)]
                      exact RetOu_bad HBZ.out 7
                    · skip
                      cases o11
                      · rw [Bool.and_false]
                        have HBZ := hide hB6
                        clear hB6
                        go_wp2
                        refine bodyPost_ret (results_tmp2 rfl _ _ _) rfl ?_
                        rw [show p = ([], 7) from HP.out.symm.trans (by first | rfl | simp)]
                        exact RetOu_bad HBZ.out 7
                      · skip
                        rw [Bool.and_true]
                        go_wp2_with fail
                        refine (Whole_any A3 n3 c3 _ ll W6 (PC.out.stepO hB6)).mono ?_
                        rintro e W7 ⟨rfl, hb⟩
                        have hB7 := bstep hB6 hb
                        have x1 := x1.below hb x1.lt
                        clear hb hB6
                        rw [R12.out]
                        cases o12
                        · skip
                          have HBZ := hide hB7
                          clear hB7
                          go_wp2
                          refine bodyPost_ret (results_tmp2 rfl _ _ _) rfl ?_
                          rw [show p = ([], 10) from HP.out.symm.trans (by first | rfl | simp)]
                          exact RetOu_bad HBZ.out 10
                        · skip
                          go_wp2_with fail
                          refine (Whole_any A4 n4 c4 _ lr W7 (PD.out.stepO hB7)).mono ?_
                          rintro e W8 ⟨rfl, hb⟩
                          have hB8 := bstep hB7 hb
                          have x1 := x1.below hb x1.lt
                          clear hb hB7
                          rw [R13.out]
                          cases o13
                          · skip
                            have HBZ := hide hB8
                            clear hB8
                            go_wp2
                            refine bodyPost_ret (results_tmp2 rfl _ _ _) rfl ?_
                            rw [show p = ([], 10) from HP.out.symm.trans (by first | rfl | simp)]
                            exact RetOu_bad HBZ.out 10
                          · skip
                            have d4 : W8.cell? ⟨kb, 0, none⟩ = some (.slice A1 n1 c1) := by simpa using x1.cell 0
                            have d5 : W8.cell? ⟨kb, 1, none⟩ = some (.slice A2 n2 c2) := by simpa using x1.cell 1
                            have HP2 := hide (show p = if o14 then (J, 0) else ([], 4) from HP.out.symm.trans (by cases o14 <;> first | rfl | simp))
                            have hz1 := btw_iff.1 R7.out
                            obtain ⟨a, rfl⟩ : ∃ a : Nat, wide = (a : Int) := ⟨wide.toNat, by omega⟩
                            have hz2 := btw_iff.1 R8.out
                            obtain ⟨b, rfl⟩ : ∃ b : Nat, width = (b : Int) := ⟨width.toNat, by omega⟩
                            have hf := wider_fit R6.out R7.out R8.out
                            have HF := hide (show a + b ≤ 8 from by omega)
                            have hk := btw_iff.1 R9.out
                            have SL := hide (side_ok R12.out R4.out R10.out)
                            have SR := hide (side_ok R13.out R5.out R11.out)
                            have HJ2 := hide (show aftB [] (joinL (decide (kind % 2 = 1)) (decide (2 ≤ kind)) on others a b (dat ll) (dat lr)) = J from by
                              have := HJ.out
                              rwa [show ((a : Int)).toNat = a from by omega, show ((b : Int)).toNat = b from by omega] at this)
                            have hnn : n1 = n2 := by
                              have r3 := R3.out
                              unfold fitK at r3
                              rw [Bool.and_eq_true, decide_eq_true_eq, HL1.out, HL2.out] at r3
                              exact r3.1
                            have HNN := hide hnn
                            clear hf hnn hz1 hz2 HP HJ
                            have HO := hide (outer_any kind A1 n1 c1 on A2 n2 c2 others a b A3 n3 c3 ll A4 n4 c4 lr W8 (PA.out.up hB8) (PB.out.up hB8) HNN.out hn1 (PC.out.stepO hB8) (PD.out.stepO hB8) hm3 hm4 HC3.out HC4.out (HT.out.below hB8) SL.out SR.out HF.out hk)
                            rw [HJ2.out, R14.out, ← HP2.out] at HO
                            clear HP2
                            go_wp2_with fail
                            refine HO.out.mono ?_
                            rintro e W9 hres
                            obtain ⟨An, nn, cn, l', rfl, hd, hg, hc, hfr, hb⟩ := hres
                            have HBZ := hide (bstep hB8 hb)
                            have hs := hB8.size
                            have HFR := hide (show ∀ b o, 0 < nn → An = some ⟨b, o, none⟩ → w.heap.size ≤ b from fun b o h0 e => Nat.le_trans hs (hfr b o h0 e))
                            clear hb hB8 d4 d5 hfr
                            go_wp2
                            refine bodyPost_ret (results_tmp2 rfl _ _ _) rfl ?_
                            exact ⟨An, nn, cn, l', rfl, hd, hg, hc, HFR.out, HBZ.out⟩
end

end Go.Proofs.YtoapjidpfghnlaaGreatDoor
