/-
  The law DeckTexts: the walk, for every input. No condition but the library's tables and errors. (Printed by gen_dtw.)
-/
import Derived.Test.YtmpoaegdejhbeaaDoorDtS
import Derived.Test.YtmpoaegdejhbeaaDoorDtT
import Derived.Test.YtmpoaegdejhbeaaDoorDtG
import Derived.Test.YtmpoaegdejhbeaaDoorDkAw
import Derived.Test.YtmpoaegdejhbeaaDoorOrdG
namespace Go.Proofs.YtmpoaegdejhbeaaDoor
open Go.RowKit
set_option linter.unusedVariables false
set_option linter.unusedSimpArgs false

theorem gr_small {a : Gr} {w : World} {B : Nat} {l : List UInt8} (h : a.Ok w B) (he : (⟨a.ops, a.es⟩ : GC) = (parB stepT l).1.getD ⟨[], []⟩) : a.n1 ≤ 200 ∧ a.n2 ≤ 400 := by
  obtain ⟨h1, h2⟩ := h.lens
  cases hr : parB stepT l with
  | mk o p =>
    obtain ⟨k, e⟩ := p
    rw [hr] at he
    cases o with
    | none =>
      have e1 : a.ops = [] := congrArg GC.ops he
      have e2 : a.es = [] := congrArg GC.es he
      rw [e1] at h1
      rw [e2] at h2
      simp at h1 h2
      omega
    | some g =>
      have e1 : a.ops = g.ops := congrArg GC.ops he
      have e2 : a.es = g.es := congrArg GC.es he
      have hf : e = 0 := by
        unfold parB at hr
        split at hr
        · simp at hr
        · have := par_form stepT (l.length + 1) ⟨[], []⟩ 0 l (by omega)
          rw [hr] at this
          rcases this with ⟨_, h⟩ | ⟨h, _⟩
          · exact congrArg Prod.snd h
          · cases h
      rw [hf] at hr
      have hv := valid_lens (par_ok hr).2.1
      rw [e1] at h1
      rw [e2] at h2
      omega
theorem fmtL_ne (g : GC) : fmtL g ≠ [] := by unfold fmtL; simp
theorem fmtG_str (l : List UInt8) (s : ByteArray) (h : l = s.data.toList) : (⟨l.toArray⟩ : ByteArray) = s := by rw [h, bytes_of]
set_option maxRecDepth 100000 in
set_option maxHeartbeats 16000000 in
theorem deckTexts_all (g : Gr) (s : ByteArray) (hsm : s.size ≤ maxLen) (w : World) (hg : g.Ok w w.heap.size) (hn1 : g.n1 ≤ maxLen) (hn2 : g.n2 ≤ maxLen) (ht : Tab w) (he : Errs w) (hm : MaxL w) :
    Calls Tryd.prog 3 #[.agg #[g.v1, g.v2], .string s] w (RetV w (.bool true)) := by
  unfold maxLen at hn1 hn2
  have hB0 : Below w.heap.size w (w.alloc (.cells #[g.v1, g.v2] 25)) := (Below.refl _ _).alloc (Nat.le_refl _) _
  have k0 := Blk.new w 25 #[g.v1, g.v2]
  have hg0 := hg.up hB0
  go_enter Tryd.func3, Tryd.ntmps3
  go_upto_region 1 with fail
  obtain ⟨W0, hW0⟩ : ∃ W0, w.alloc (.cells #[g.v1, g.v2] 25) = W0 := ⟨_, rfl⟩
  obtain ⟨sb, hsb⟩ : ∃ sb, w.heap.size = sb := ⟨_, rfl⟩
  rw [hW0] at hB0 k0 hg0 ⊢
  rw [hsb] at k0 ⊢
  clear hW0 hsb
  go_wp2_with fail
  refine (awake_any W0).mono ?_
  rintro e W1 ⟨rfl, hb⟩
  have hB1 := bstep hB0 hb
  have k1 := k0.below hb k0.lt
  have hg1 := hg0.up hb
  clear hb hB0 k0 hg0
  have c0 : W1.cell? ⟨sb, 0, none⟩ = some g.v1 := by simpa using k1.cell 0
  have c1 : W1.cell? ⟨sb, 1, none⟩ = some g.v2 := by simpa using k1.cell 1
  have HH := hide (heavy_any g W1)
  obtain ⟨hv, hhv⟩ : ∃ hv, heavyB g = hv := ⟨_, rfl⟩
  rw [hhv] at HH
  have HHV := hide hhv
  clear hhv
  go_wp2_with fail
  refine HH.out.mono ?_
  rintro e W2 ⟨rfl, hb⟩
  have hB2 := bstep hB1 hb
  have k2 := k1.below hb k1.lt
  have hg2 := hg1.up hb
  clear hb hB1 k1 hg1 c0 c1 HH
  cases hv
  case true =>
    have HB := hide hB2
    clear hB2 k2 hg2
    go_wp2
    go_ret
    exact ⟨rfl, HB.out⟩
  by_cases h3 : 3000 < s.size
  case pos =>
    have z : (3000 : Int) < (s.size : Int) := by omega
    have HB := hide hB2
    clear hB2 k2 hg2 h3
    go_wp2
    go_ret
    exact ⟨rfl, HB.out⟩
  have z : ¬ (3000 : Int) < (s.size : Int) := by omega
  have hsz : s.size ≤ 3000 := by omega
  have hgb : g.n1 ≤ 300 ∧ g.n2 ≤ 60 := by
    have := HHV.out
    unfold heavyB at this
    simp at this
    omega
  have c0 : W2.cell? ⟨sb, 0, none⟩ = some g.v1 := by simpa using k2.cell 0
  have c1 : W2.cell? ⟨sb, 1, none⟩ = some g.v2 := by simpa using k2.cell 1
  have HM := hide (made_any g W2 hg2 (by omega) (by omega))
  clear h3 HHV hn1 hn2
  go_wp2_with fail
  refine HM.out.mono ?_
  rintro e W3 ⟨g', hlike, rfl, hg', hb⟩
  have hB3 := bstep hB2 hb
  have k3 := k2.below hb k2.lt
  have hg3 := hg2.up hb
  clear hb hB2 k2 hg2 c0 c1 HM
  have hl1 := hlike.n1
  have hl2 := hlike.n2
  have HFM := hide (Format_any g' W3 hg' (by omega) (by omega) (ht.below hB3))
  rw [hlike.ops, hlike.es] at HFM
  obtain ⟨F, hF⟩ : ∃ F : ByteArray, (⟨(fmtG ⟨g.ops, g.es⟩).toArray⟩ : ByteArray) = F := ⟨_, rfl⟩
  rw [hF] at HFM
  have HFF := hide hF
  have hFd : F.data.toList = fmtG ⟨g.ops, g.es⟩ := by rw [← hF]
  have HFD := hide hFd
  clear hlike hl1 hl2 hF hFd hg'
  go_wp2_with fail
  refine HFM.out.mono ?_
  rintro e W4 ⟨rfl, hb⟩
  have hB4 := bstep hB3 hb
  have k4 := k3.below hb k3.lt
  have hg4 := hg3.up hb
  clear hb hB3 k3 hg3 HFM
  have HP1 := hide (Parse_any s W4 (by omega) (ht.below hB4) (he.below hB4) (hm.below hB4))
  obtain ⟨⟨op, n, E⟩, hr⟩ : ∃ r, parB stepT s.data.toList = r := ⟨_, rfl⟩
  have HSM := hide (fun (a : Gr) (W : World) (B : Nat) (h1 : a.Ok W B) (h2 : (⟨a.ops, a.es⟩ : GC) = op.getD ⟨[], []⟩) => gr_small (l := s.data.toList) h1 (by rw [hr]; exact h2))
  have HP2 := hide (fun W (hb : Below w.heap.size w W) => RParse_any s W (by omega) (ht.below hb) (he.below hb) (hm.below hb))
  have HOKR := hide (fun (G : GC) (h1 : op = some G) (h2 : E = 0) => par_ok (g := G) (l := s.data.toList) (k := n) (by rw [hr, h1, h2]))
  have HNO := hide (show E = 0 → ∃ G, op = some G from fun h => by
    unfold parB at hr
    split at hr
    · injection hr with _ hr
      injection hr with _ hr
      omega
    · have := par_form stepT (s.data.toList.length + 1) ⟨[], []⟩ 0 s.data.toList (by omega)
      rw [hr] at this
      rcases this with ⟨h3, _⟩ | ⟨_, h3⟩
      · exact Option.isSome_iff_exists.1 h3
      · have h4 : E = 2 := h3
        omega)
  simp only [parB_same, hr] at HP2
  rw [hr] at HP1
  clear hr
  go_wp2_with fail
  refine HP1.out.mono ?_
  rintro e W5 ⟨a, rfl, ha, hb, hae⟩
  rw [show a.v1 = .slice a.a1 a.n1 a.c1 from rfl, show a.v2 = .slice a.a2 a.n2 a.c2 from rfl]
  have hB5 := bstep hB4 hb
  have k5 := k4.below hb k4.lt
  have hg5 := hg4.up hb
  obtain ⟨ha1, ha2⟩ := HSM.out a _ _ ha hae
  clear hb hB4 k4 hg4 HP1
  have hb6 : Below W5.heap.size W5 (W5.alloc (.cells #[.slice a.a1 a.n1 a.c1, .slice a.a2 a.n2 a.c2] 31)) := (Below.refl _ _).alloc (Nat.le_refl _) _
  have j6 := Blk.new W5 31 #[.slice a.a1 a.n1 a.c1, .slice a.a2 a.n2 a.c2]
  have hB6 := bstep hB5 hb6
  have k6 := k5.below hb6 k5.lt
  have hg6 := hg5.up hb6
  have ha6 := ha.up hb6
  simp only
  go_upto_region 7 with fail
  obtain ⟨W6, hW6⟩ : ∃ W6, W5.alloc (.cells #[.slice a.a1 a.n1 a.c1, .slice a.a2 a.n2 a.c2] 31) = W6 := ⟨_, rfl⟩
  obtain ⟨ab, hab⟩ : ∃ ab, W5.heap.size = ab := ⟨_, rfl⟩
  rw [hW6] at j6 hB6 k6 hg6 ha6 ⊢
  rw [hab] at j6 ⊢
  clear hW6 hab hb6 hB5 k5 hg5 ha
  have HP3 := hide (HP2.out W6 hB6)
  clear HP2
  go_wp2_with fail
  refine HP3.out.mono ?_
  rintro e W7 ⟨b, rfl, hbk, hb, hbe⟩
  rw [show b.v1 = .slice b.a1 b.n1 b.c1 from rfl, show b.v2 = .slice b.a2 b.n2 b.c2 from rfl]
  have hB7 := bstep hB6 hb
  have k7 := k6.below hb k6.lt
  have j7 := j6.below hb j6.lt
  have hg7 := hg6.up hb
  have ha7 := ha6.up hb
  obtain ⟨hb1, hb2⟩ := HSM.out b _ _ hbk hbe
  clear hb hB6 k6 j6 hg6 ha6 HP3
  have hb8 : Below W7.heap.size W7 (W7.alloc (.cells #[.slice b.a1 b.n1 b.c1, .slice b.a2 b.n2 b.c2] 25)) := (Below.refl _ _).alloc (Nat.le_refl _) _
  have i8 := Blk.new W7 25 #[.slice b.a1 b.n1 b.c1, .slice b.a2 b.n2 b.c2]
  have hB8 := bstep hB7 hb8
  have k8 := k7.below hb8 k7.lt
  have j8 := j7.below hb8 j7.lt
  have hg8 := hg7.up hb8
  have ha8 := ha7.up hb8
  have hbk8 := hbk.up hb8
  simp only
  go_upto_region 8 with fail
  obtain ⟨V, hV⟩ : ∃ V, W7.alloc (.cells #[.slice b.a1 b.n1 b.c1, .slice b.a2 b.n2 b.c2] 25) = V := ⟨_, rfl⟩
  obtain ⟨bb, hbb⟩ : ∃ bb, W7.heap.size = bb := ⟨_, rfl⟩
  rw [hV] at i8 hB8 k8 j8 hg8 ha8 hbk8 ⊢
  rw [hbb] at i8 ⊢
  clear hV hbb hb8 hB7 k7 j7 hg7 ha7 hbk
  have c0 : V.cell? ⟨sb, 0, none⟩ = some g.v1 := by simpa using k8.cell 0
  have c1 : V.cell? ⟨sb, 1, none⟩ = some g.v2 := by simpa using k8.cell 1
  have d0 : V.cell? ⟨ab, 0, none⟩ = some (.slice a.a1 a.n1 a.c1) := by simpa using j8.cell 0
  have d1 : V.cell? ⟨ab, 1, none⟩ = some (.slice a.a2 a.n2 a.c2) := by simpa using j8.cell 1
  have f0 : V.cell? ⟨bb, 0, none⟩ = some (.slice b.a1 b.n1 b.c1) := by simpa using i8.cell 0
  have f1 : V.cell? ⟨bb, 1, none⟩ = some (.slice b.a2 b.n2 b.c2) := by simpa using i8.cell 1
  have hsl := k8.lt
  have hal := j8.lt
  have hbl := i8.lt
  have HK8 := hide k8
  have HB8 := hide hB8
  have HG8 := hide hg8
  have HA8 := hide ha8
  have HBK8 := hide hbk8
  have HAE := hide hae
  have HBE := hide hbe
  have HCS := hide (And.intro (And.intro c0 c1) (And.intro (And.intro d0 d1) (And.intro f0 f1)))
  clear i8 j8 k8 hB8 hg8 ha8 hbk8 hae hbe c0 c1 d0 d1 f0 f1
  have y1 : (F.toList == F.toList) = true := by simp
  have y2 : (F.toList != F.toList) = false := by simp
  have y3 : (s.toList == s.toList) = true := by simp
  have y4 : (s.toList != s.toList) = false := by simp
  have HBV := hide (Below.refl V.heap.size V)
  by_cases hE : E = 0
  case pos =>
    subst hE
    obtain ⟨G, hG⟩ := HNO.out rfl
    have HFA := hide (show (⟨(fmtG ⟨a.ops, a.es⟩).toArray⟩ : ByteArray) = s from by
      have h1 := (HOKR.out G hG rfl).2.2
      have h2 := HAE.out
      rw [hG] at h2
      have h3 : (⟨a.ops, a.es⟩ : GC) = G := h2
      rw [h3]
      exact fmtG_str _ s h1)
    clear hG HNO HOKR HSM
    refine Held.begin (fun y => Below V.heap.size V y) 100 (by kernel_rfl) ?_
    have hS : Below V.heap.size V V.drew := (Below.refl _ _).drew
    obtain ⟨X1, hX1⟩ : ∃ X1, V.drew = X1 := ⟨_, rfl⟩
    rw [hX1] at hS ⊢
    clear hX1
    refine Held.take (i := 0) (.string F) rfl hS (by kernel_rfl) (by kernel_rfl) (by kernel_rfl) (by kernel_rfl) (fun _ _ _ h => h) rfl (fun y hy => by have x1 := hy; go_simp) ?_
    try simp only [Act.put]
    refine Held.take (i := 1) (.agg #[g.v1, g.v2]) rfl hS (by kernel_rfl) (by kernel_rfl) (by kernel_rfl) (by kernel_rfl) (fun _ _ _ h => h) rfl (fun y hy => by have x1 := hy; have z0 := (x1.cell (p := ⟨sb, 0, none⟩) hsl).trans HCS.out.1.1; have z1 := (x1.cell (p := ⟨sb, 1, none⟩) hsl).trans HCS.out.1.2; go_simp) ?_
    try simp only [Act.put]
    have HC1 := hide (RFormat_any g X1 (HG8.out.up hS) (by omega) (by omega) (ht.below (bstep HB8.out hS)))
    rw [HFF.out] at HC1
    refine Held.one (i := 2) rfl (by kernel_rfl) rfl (fun K hK => ?_)
    unfold Oper.wp
    go_simp
    refine (HC1.out).mono ?_
    rintro e X2 ⟨rfl, hb⟩
    have hS2 := bstep hS hb
    clear hb HC1
    refine hK _ _ (fun _ => hS2) ?_
    try simp only [Act.put]
    clear hK K hS
    have hS := hS2
    clear hS2
    refine Held.take (i := 3) (.bool false) rfl hS (by kernel_rfl) (by kernel_rfl) (by kernel_rfl) (by kernel_rfl) (fun _ _ _ h => h) rfl (fun y hy => by have x1 := hy; go_simp) ?_
    try simp only [Act.put]
    refine Held.take (i := 4) (.bool false) rfl hS (by kernel_rfl) (by kernel_rfl) (by kernel_rfl) (by kernel_rfl) (fun _ _ _ h => h) rfl (fun y hy => by have x1 := hy; go_simp) ?_
    try simp only [Act.put]
    refine Held.takeG (i := 5) (.agg #[.slice a.a1 a.n1 a.c1, .slice a.a2 a.n2 a.c2]) rfl hS (by kernel_rfl) (by kernel_rfl) (by kernel_rfl) (by kernel_rfl) (fun _ _ _ h => h) (by kernel_rfl) (fun y hy => by have x1 := hy; have z0 := (x1.cell (p := ⟨ab, 0, none⟩) hal).trans HCS.out.2.1.1; have z1 := (x1.cell (p := ⟨ab, 1, none⟩) hal).trans HCS.out.2.1.2; go_simp) ?_
    try simp only [Act.put]
    refine Held.takeG (i := 7) (.agg #[.slice b.a1 b.n1 b.c1, .slice b.a2 b.n2 b.c2]) rfl hS (by kernel_rfl) (by kernel_rfl) (by kernel_rfl) (by kernel_rfl) (fun _ _ _ h => h) (by kernel_rfl) (fun y hy => by have x1 := hy; have z0 := (x1.cell (p := ⟨bb, 0, none⟩) hbl).trans HCS.out.2.2.1; have z1 := (x1.cell (p := ⟨bb, 1, none⟩) hbl).trans HCS.out.2.2.2; go_simp) ?_
    try simp only [Act.put]
    have HC1 := hide (show Calls Tryd.prog 12 #[.agg #[.slice a.a1 a.n1 a.c1, .slice a.a2 a.n2 a.c2]] X2 _ from told_any a X2 (HA8.out.up hS) (by omega) (by omega))
    refine Held.oneG (i := 6) rfl (by kernel_rfl) (by kernel_rfl) (fun K hK => ?_)
    unfold Oper.wp
    go_simp
    refine (HC1.out).mono ?_
    rintro e X3 ⟨a', hlike, rfl, ha', hb⟩
    have hS2 := bstep hS hb
    clear hb HC1
    refine hK _ _ (fun _ => hS2) ?_
    try simp only [Act.put]
    clear hK K hS
    have hS := hS2
    clear hS2
    have hlk1 := hlike.n1
    have hlk2 := hlike.n2
    have HC1 := hide (show Calls Tryd.prog 11 #[.agg #[a'.v1, a'.v2], .agg #[.slice b.a1 b.n1 b.c1, .slice b.a2 b.n2 b.c2]] X3 _ from SameGraph_any a' b X3 ha' (HBK8.out.up hS) (by omega) (by omega) (by omega) (by omega))
    have hsg : sameG a' b = true := by
      unfold sameG
      rw [decide_eq_true_iff, hlike.ops, hlike.es]
      have h1 := HAE.out.trans HBE.out.symm
      exact ⟨congrArg GC.ops h1, congrArg GC.es h1⟩
    rw [hsg] at HC1
    clear hsg hlike ha' hlk1 hlk2
    refine Held.oneG (i := 8) rfl (by kernel_rfl) (by kernel_rfl) (fun K hK => ?_)
    unfold Oper.wp
    go_simp
    refine (HC1.out).mono ?_
    rintro e X4 ⟨rfl, hb⟩
    have hS2 := bstep hS hb
    clear hb HC1
    refine hK _ _ (fun _ => hS2) ?_
    try simp only [Act.put]
    clear hK K hS
    have hS := hS2
    clear hS2
    refine Held.takeG (i := 9) (.bool false) rfl hS (by kernel_rfl) (by kernel_rfl) (by kernel_rfl) (by kernel_rfl) (fun _ _ _ h => h) (by kernel_rfl) (fun y hy => by have x1 := hy; go_simp) ?_
    try simp only [Act.put]
    refine Held.take (i := 10) (.bool false) rfl hS (by kernel_rfl) (by kernel_rfl) (by kernel_rfl) (by kernel_rfl) (fun _ _ _ h => h) rfl (fun y hy => by have x1 := hy; go_simp) ?_
    try simp only [Act.put]
    refine Held.take (i := 11) (.bool false) rfl hS (by kernel_rfl) (by kernel_rfl) (by kernel_rfl) (by kernel_rfl) (fun _ _ _ h => h) rfl (fun y hy => by have x1 := hy; go_simp) ?_
    try simp only [Act.put]
    refine Held.takeG (i := 12) (.int .i64 (n : Int)) rfl hS (by kernel_rfl) (by kernel_rfl) (by kernel_rfl) (by kernel_rfl) (fun _ _ _ h => h) (by kernel_rfl) (fun y hy => by have x1 := hy; go_simp) ?_
    try simp only [Act.put]
    refine Held.takeG (i := 13) (.int .i64 (n : Int)) rfl hS (by kernel_rfl) (by kernel_rfl) (by kernel_rfl) (by kernel_rfl) (fun _ _ _ h => h) (by kernel_rfl) (fun y hy => by have x1 := hy; go_simp) ?_
    try simp only [Act.put]
    refine Held.takeG (i := 14) (.bool false) rfl hS (by kernel_rfl) (by kernel_rfl) (by kernel_rfl) (by kernel_rfl) (fun _ _ _ h => h) (by kernel_rfl) (fun y hy => by have x1 := hy; go_simp) ?_
    try simp only [Act.put]
    refine Held.take (i := 15) (.bool false) rfl hS (by kernel_rfl) (by kernel_rfl) (by kernel_rfl) (by kernel_rfl) (fun _ _ _ h => h) rfl (fun y hy => by have x1 := hy; go_simp) ?_
    try simp only [Act.put]
    refine Held.take (i := 16) (.bool false) rfl hS (by kernel_rfl) (by kernel_rfl) (by kernel_rfl) (by kernel_rfl) (fun _ _ _ h => h) rfl (fun y hy => by have x1 := hy; go_simp) ?_
    try simp only [Act.put]
    refine Held.takeG (i := 17) (.int .i64 0) rfl hS (by kernel_rfl) (by kernel_rfl) (by kernel_rfl) (by kernel_rfl) (fun _ _ _ h => h) (by kernel_rfl) (fun y hy => by have x1 := hy; go_simp) ?_
    try simp only [Act.put]
    refine Held.takeG (i := 18) (.int .i64 0) rfl hS (by kernel_rfl) (by kernel_rfl) (by kernel_rfl) (by kernel_rfl) (fun _ _ _ h => h) (by kernel_rfl) (fun y hy => by have x1 := hy; go_simp) ?_
    try simp only [Act.put]
    refine Held.takeG (i := 19) (.bool false) rfl hS (by kernel_rfl) (by kernel_rfl) (by kernel_rfl) (by kernel_rfl) (fun _ _ _ h => h) (by kernel_rfl) (fun y hy => by have x1 := hy; go_simp) ?_
    try simp only [Act.put]
    refine Held.take (i := 20) (.bool false) rfl hS (by kernel_rfl) (by kernel_rfl) (by kernel_rfl) (by kernel_rfl) (fun _ _ _ h => h) rfl (fun y hy => by have x1 := hy; go_simp) ?_
    try simp only [Act.put]
    refine Held.take (i := 21) (.bool false) rfl hS (by kernel_rfl) (by kernel_rfl) (by kernel_rfl) (by kernel_rfl) (fun _ _ _ h => h) rfl (fun y hy => by have x1 := hy; go_simp) ?_
    try simp only [Act.put]
    refine Held.takeG (i := 22) (.int .i64 0) rfl hS (by kernel_rfl) (by kernel_rfl) (by kernel_rfl) (by kernel_rfl) (fun _ _ _ h => h) (by kernel_rfl) (fun y hy => by have x1 := hy; go_simp) ?_
    try simp only [Act.put]
    refine Held.takeG (i := 23) (.bool true) rfl hS (by kernel_rfl) (by kernel_rfl) (by kernel_rfl) (by kernel_rfl) (fun _ _ _ h => h) (by kernel_rfl) (fun y hy => by have x1 := hy; go_simp) ?_
    try simp only [Act.put]
    refine Held.takeG (i := 24) (.bool true) rfl hS (by kernel_rfl) (by kernel_rfl) (by kernel_rfl) (by kernel_rfl) (fun _ _ _ h => h) (by kernel_rfl) (fun y hy => by have x1 := hy; go_simp) ?_
    try simp only [Act.put]
    refine Held.takeG (i := 25) (.agg #[.slice a.a1 a.n1 a.c1, .slice a.a2 a.n2 a.c2]) rfl hS (by kernel_rfl) (by kernel_rfl) (by kernel_rfl) (by kernel_rfl) (fun _ _ _ h => h) (by kernel_rfl) (fun y hy => by have x1 := hy; have z0 := (x1.cell (p := ⟨ab, 0, none⟩) hal).trans HCS.out.2.1.1; have z1 := (x1.cell (p := ⟨ab, 1, none⟩) hal).trans HCS.out.2.1.2; go_simp) ?_
    try simp only [Act.put]
    refine Held.takeG (i := 27) (.string s) rfl hS (by kernel_rfl) (by kernel_rfl) (by kernel_rfl) (by kernel_rfl) (fun _ _ _ h => h) (by kernel_rfl) (fun y hy => by have x1 := hy; go_simp) ?_
    try simp only [Act.put]
    have HC1 := hide (show Calls Tryd.prog 6 #[.agg #[.slice a.a1 a.n1 a.c1, .slice a.a2 a.n2 a.c2]] X4 _ from Format_any a X4 (HA8.out.up hS) (by omega) (by omega) (ht.below (bstep HB8.out hS)))
    rw [HFA.out] at HC1
    refine Held.oneG (i := 26) rfl (by kernel_rfl) (by kernel_rfl) (fun K hK => ?_)
    unfold Oper.wp
    go_simp
    refine (HC1.out).mono ?_
    rintro e X5 ⟨rfl, hb⟩
    have hS2 := bstep hS hb
    clear hb HC1
    refine hK _ _ (fun _ => hS2) ?_
    try simp only [Act.put]
    clear hK K hS
    have hS := hS2
    clear hS2
    refine Held.takeG (i := 28) (.bool false) rfl hS (by kernel_rfl) (by kernel_rfl) (by kernel_rfl) (by kernel_rfl) (fun _ _ _ h => h) (by kernel_rfl) (fun y hy => by have x1 := hy; go_simp) ?_
    try simp only [Act.put]
    refine Held.takeG (i := 29) (.bool false) rfl hS (by kernel_rfl) (by kernel_rfl) (by kernel_rfl) (by kernel_rfl) (fun _ _ _ h => h) (by kernel_rfl) (fun y hy => by have x1 := hy; go_simp) ?_
    try simp only [Act.put]
    refine Held.one (i := 30) rfl (by kernel_rfl) rfl (fun K hK => ?_)
    unfold Oper.wp
    go_simp
    refine hK _ _ (fun _ => hS) ?_
    try simp only [Act.put]
    clear hK K
    refine Held.done (by kernel_rfl) ?_
    have HS := hide hS
    clear hS y1 y2 y3 y4
    obtain ⟨bv, hbv⟩ : ∃ bv, validC ⟨g.ops, g.es⟩ = bv := ⟨_, rfl⟩
    cases bv
    case false =>
      have hF0 : F.data.toList = [] := by rw [HFD.out]; unfold fmtG; rw [hbv]; rfl
      have y1 : F.toList.isEmpty = true := by rw [ByteArray.toList_eq, hF0]; rfl
      have HB := hide (bstep HB8.out HS.out)
      clear hF0 hbv
      go_wp2
      go_ret
      exact ⟨rfl, HB.out⟩
    have hF0 : F.data.toList = fmtL ⟨g.ops, g.es⟩ := by rw [HFD.out]; unfold fmtG; rw [hbv]; rfl
    have y1 : F.toList.isEmpty = false := by
      rw [ByteArray.toList_eq, hF0]
      cases hh : fmtL ⟨g.ops, g.es⟩ with
      | nil => exact absurd hh (fmtL_ne _)
      | cons x l => rfl
    have hv := valid_lens hbv
    have hsh := fmt_short hv.1 hv.2 hbv
    have hFz : F.size ≤ 65536 := by
      have h1 : F.data.toList.length = F.size := by simp
      rw [hF0] at h1
      omega
    have hB9 := bstep HB8.out HS.out
    have HP1 := hide (Parse_any F X5 (by omega) (ht.below hB9) (he.below hB9) (hm.below hB9))
    rw [hF0, par_fmt hbv hsh] at HP1
    have k9 := HK8.out.below HS.out hsl
    have hg9 := HG8.out.up HS.out
    clear hF0 hbv hv hsh HS HB8 HG8 HA8 HBK8 HK8
    go_wp2_with fail
    refine HP1.out.mono ?_
    rintro e Y1 ⟨c, rfl, hc, hb, hce⟩
    rw [show c.v1 = .slice c.a1 c.n1 c.c1 from rfl, show c.v2 = .slice c.a2 c.n2 c.c2 from rfl]
    have hB10 := bstep hB9 hb
    have k10 := k9.below hb k9.lt
    have hg10 := hg9.up hb
    clear hb hB9 k9 hg9 HP1 y1
    have hb11 : Below Y1.heap.size Y1 (Y1.alloc (.cells #[.slice c.a1 c.n1 c.c1, .slice c.a2 c.n2 c.c2] 31)) := (Below.refl _ _).alloc (Nat.le_refl _) _
    have j11 := Blk.new Y1 31 #[.slice c.a1 c.n1 c.c1, .slice c.a2 c.n2 c.c2]
    have hB11 := bstep hB10 hb11
    have k11 := k10.below hb11 k10.lt
    have hg11 := hg10.up hb11
    have hc11 := hc.up hb11
    simp only
    go_upto_region 13 with fail
    obtain ⟨Y2, hY2⟩ : ∃ Y2, Y1.alloc (.cells #[.slice c.a1 c.n1 c.c1, .slice c.a2 c.n2 c.c2] 31) = Y2 := ⟨_, rfl⟩
    obtain ⟨cb, hcb⟩ : ∃ cb, Y1.heap.size = cb := ⟨_, rfl⟩
    rw [hY2] at j11 hB11 k11 hg11 hc11 ⊢
    rw [hcb] at j11 ⊢
    clear hY2 hcb hb11 hB10 k10 hg10 hc
    have c0 : Y2.cell? ⟨sb, 0, none⟩ = some g.v1 := by simpa using k11.cell 0
    have c1 : Y2.cell? ⟨sb, 1, none⟩ = some g.v2 := by simpa using k11.cell 1
    have d0 : Y2.cell? ⟨cb, 0, none⟩ = some (.slice c.a1 c.n1 c.c1) := by simpa using j11.cell 0
    have d1 : Y2.cell? ⟨cb, 1, none⟩ = some (.slice c.a2 c.n2 c.c2) := by simpa using j11.cell 1
    have hsl2 := k11.lt
    have hcl2 := j11.lt
    have hcn : c.n1 ≤ 300 ∧ c.n2 ≤ 60 := by
      obtain ⟨h1, h2⟩ := hc11.lens
      obtain ⟨h3, h4⟩ := hg11.lens
      have e1 : c.ops = g.ops := congrArg GC.ops hce
      have e2 : c.es = g.es := congrArg GC.es hce
      rw [e1] at h1
      rw [e2] at h2
      omega
    have HCS2 := hide (And.intro (And.intro c0 c1) (And.intro d0 d1))
    have HB11 := hide hB11
    have HG11 := hide hg11
    have HC11 := hide hc11
    have HCE := hide hce
    clear HCS c0 c1 d0 d1 k11 j11 hB11 hg11 hc11 hce
    refine Held.begin (fun y => Below Y2.heap.size Y2 y) 100 (by kernel_rfl) ?_
    have hS : Below Y2.heap.size Y2 Y2.drew := (Below.refl _ _).drew
    obtain ⟨Z1, hZ1⟩ : ∃ Z1, Y2.drew = Z1 := ⟨_, rfl⟩
    rw [hZ1] at hS ⊢
    clear hZ1
    refine Held.take (i := 0) (.int .i64 0) rfl hS (by kernel_rfl) (by kernel_rfl) (by kernel_rfl) (by kernel_rfl) (fun _ _ _ h => h) rfl (fun y hy => by have x1 := hy; go_simp) ?_
    try simp only [Act.put]
    refine Held.take (i := 1) (.bool true) rfl hS (by kernel_rfl) (by kernel_rfl) (by kernel_rfl) (by kernel_rfl) (fun _ _ _ h => h) rfl (fun y hy => by have x1 := hy; go_simp) ?_
    try simp only [Act.put]
    refine Held.take (i := 2) (.bool true) rfl hS (by kernel_rfl) (by kernel_rfl) (by kernel_rfl) (by kernel_rfl) (fun _ _ _ h => h) rfl (fun y hy => by have x1 := hy; go_simp) ?_
    try simp only [Act.put]
    refine Held.takeG (i := 3) (.int .i64 0) rfl hS (by kernel_rfl) (by kernel_rfl) (by kernel_rfl) (by kernel_rfl) (fun _ _ _ h => h) (by kernel_rfl) (fun y hy => by have x1 := hy; go_simp) ?_
    try simp only [Act.put]
    refine Held.takeG (i := 4) (.bool true) rfl hS (by kernel_rfl) (by kernel_rfl) (by kernel_rfl) (by kernel_rfl) (fun _ _ _ h => h) (by kernel_rfl) (fun y hy => by have x1 := hy; go_simp) ?_
    try simp only [Act.put]
    refine Held.take (i := 5) (.bool true) rfl hS (by kernel_rfl) (by kernel_rfl) (by kernel_rfl) (by kernel_rfl) (fun _ _ _ h => h) rfl (fun y hy => by have x1 := hy; go_simp) ?_
    try simp only [Act.put]
    refine Held.take (i := 6) (.bool true) rfl hS (by kernel_rfl) (by kernel_rfl) (by kernel_rfl) (by kernel_rfl) (fun _ _ _ h => h) rfl (fun y hy => by have x1 := hy; go_simp) ?_
    try simp only [Act.put]
    refine Held.takeG (i := 7) (.agg #[.slice c.a1 c.n1 c.c1, .slice c.a2 c.n2 c.c2]) rfl hS (by kernel_rfl) (by kernel_rfl) (by kernel_rfl) (by kernel_rfl) (fun _ _ _ h => h) (by kernel_rfl) (fun y hy => by have x1 := hy; have z0 := (x1.cell (p := ⟨cb, 0, none⟩) hcl2).trans HCS2.out.2.1; have z1 := (x1.cell (p := ⟨cb, 1, none⟩) hcl2).trans HCS2.out.2.2; go_simp) ?_
    try simp only [Act.put]
    refine Held.takeG (i := 9) (.agg #[g.v1, g.v2]) rfl hS (by kernel_rfl) (by kernel_rfl) (by kernel_rfl) (by kernel_rfl) (fun _ _ _ h => h) (by kernel_rfl) (fun y hy => by have x1 := hy; have z0 := (x1.cell (p := ⟨sb, 0, none⟩) hsl2).trans HCS2.out.1.1; have z1 := (x1.cell (p := ⟨sb, 1, none⟩) hsl2).trans HCS2.out.1.2; go_simp) ?_
    try simp only [Act.put]
    have HC1 := hide (show Calls Tryd.prog 12 #[.agg #[.slice c.a1 c.n1 c.c1, .slice c.a2 c.n2 c.c2]] Z1 _ from told_any c Z1 (HC11.out.up hS) (by omega) (by omega))
    refine Held.oneG (i := 8) rfl (by kernel_rfl) (by kernel_rfl) (fun K hK => ?_)
    unfold Oper.wp
    go_simp
    refine (HC1.out).mono ?_
    rintro e Z2 ⟨c', hlike, rfl, hc', hb⟩
    have hS2 := bstep hS hb
    refine hK _ _ (fun _ => hS2) ?_
    try simp only [Act.put]
    clear hK K hS hb HC1
    have hS := hS2
    clear hS2
    have hlk1 := hlike.n1
    have hlk2 := hlike.n2
    have HC1 := hide (SameGraph_any c' g Z2 hc' (HG11.out.up hS) (by omega) (by omega) (by omega) (by omega))
    have hsg : sameG c' g = true := by
      unfold sameG
      rw [decide_eq_true_iff, hlike.ops, hlike.es]
      have h1 := HCE.out
      exact ⟨congrArg GC.ops h1, congrArg GC.es h1⟩
    rw [hsg] at HC1
    clear hsg hlike hc' hlk1 hlk2
    refine Held.oneG (i := 10) rfl (by kernel_rfl) (by kernel_rfl) (fun K hK => ?_)
    unfold Oper.wp
    go_simp
    refine (HC1.out).mono ?_
    rintro e Z3 ⟨rfl, hb⟩
    have hS2 := bstep hS hb
    refine hK _ _ (fun _ => hS2) ?_
    try simp only [Act.put]
    clear hK K hS hb HC1
    have hS := hS2
    clear hS2
    refine Held.take (i := 11) (.bool true) rfl hS (by kernel_rfl) (by kernel_rfl) (by kernel_rfl) (by kernel_rfl) (fun _ _ _ h => h) rfl (fun y hy => by have x1 := hy; go_simp) ?_
    try simp only [Act.put]
    refine Held.one (i := 12) rfl (by kernel_rfl) rfl (fun K hK => ?_)
    unfold Oper.wp
    go_simp
    refine hK _ _ (fun _ => hS) ?_
    try simp only [Act.put]
    clear hK K
    refine Held.done (by kernel_rfl) ?_
    have HB := hide (bstep HB11.out hS)
    clear hS
    go_wp2
    go_ret
    exact ⟨rfl, HB.out⟩
  case neg =>
    have z5 : (E == 0) = false := by rw [beq_eq_false_iff_ne]; exact hE
    clear hE HNO HOKR HSM
    refine Held.begin (fun y => Below V.heap.size V y) 100 (by kernel_rfl) ?_
    have hS : Below V.heap.size V V.drew := (Below.refl _ _).drew
    obtain ⟨X1, hX1⟩ : ∃ X1, V.drew = X1 := ⟨_, rfl⟩
    rw [hX1] at hS ⊢
    clear hX1
    refine Held.take (i := 0) (.string F) rfl hS (by kernel_rfl) (by kernel_rfl) (by kernel_rfl) (by kernel_rfl) (fun _ _ _ h => h) rfl (fun y hy => by have x1 := hy; go_simp) ?_
    try simp only [Act.put]
    refine Held.take (i := 1) (.agg #[g.v1, g.v2]) rfl hS (by kernel_rfl) (by kernel_rfl) (by kernel_rfl) (by kernel_rfl) (fun _ _ _ h => h) rfl (fun y hy => by have x1 := hy; have z0 := (x1.cell (p := ⟨sb, 0, none⟩) hsl).trans HCS.out.1.1; have z1 := (x1.cell (p := ⟨sb, 1, none⟩) hsl).trans HCS.out.1.2; go_simp) ?_
    try simp only [Act.put]
    have HC1 := hide (RFormat_any g X1 (HG8.out.up hS) (by omega) (by omega) (ht.below (bstep HB8.out hS)))
    rw [HFF.out] at HC1
    refine Held.one (i := 2) rfl (by kernel_rfl) rfl (fun K hK => ?_)
    unfold Oper.wp
    go_simp
    refine (HC1.out).mono ?_
    rintro e X2 ⟨rfl, hb⟩
    have hS2 := bstep hS hb
    clear hb HC1
    refine hK _ _ (fun _ => hS2) ?_
    try simp only [Act.put]
    clear hK K hS
    have hS := hS2
    clear hS2
    refine Held.take (i := 3) (.bool false) rfl hS (by kernel_rfl) (by kernel_rfl) (by kernel_rfl) (by kernel_rfl) (fun _ _ _ h => h) rfl (fun y hy => by have x1 := hy; go_simp) ?_
    try simp only [Act.put]
    refine Held.take (i := 4) (.bool false) rfl hS (by kernel_rfl) (by kernel_rfl) (by kernel_rfl) (by kernel_rfl) (fun _ _ _ h => h) rfl (fun y hy => by have x1 := hy; go_simp) ?_
    try simp only [Act.put]
    refine Held.takeG (i := 5) (.agg #[.slice a.a1 a.n1 a.c1, .slice a.a2 a.n2 a.c2]) rfl hS (by kernel_rfl) (by kernel_rfl) (by kernel_rfl) (by kernel_rfl) (fun _ _ _ h => h) (by kernel_rfl) (fun y hy => by have x1 := hy; have z0 := (x1.cell (p := ⟨ab, 0, none⟩) hal).trans HCS.out.2.1.1; have z1 := (x1.cell (p := ⟨ab, 1, none⟩) hal).trans HCS.out.2.1.2; go_simp) ?_
    try simp only [Act.put]
    refine Held.takeG (i := 7) (.agg #[.slice b.a1 b.n1 b.c1, .slice b.a2 b.n2 b.c2]) rfl hS (by kernel_rfl) (by kernel_rfl) (by kernel_rfl) (by kernel_rfl) (fun _ _ _ h => h) (by kernel_rfl) (fun y hy => by have x1 := hy; have z0 := (x1.cell (p := ⟨bb, 0, none⟩) hbl).trans HCS.out.2.2.1; have z1 := (x1.cell (p := ⟨bb, 1, none⟩) hbl).trans HCS.out.2.2.2; go_simp) ?_
    try simp only [Act.put]
    have HC1 := hide (show Calls Tryd.prog 12 #[.agg #[.slice a.a1 a.n1 a.c1, .slice a.a2 a.n2 a.c2]] X2 _ from told_any a X2 (HA8.out.up hS) (by omega) (by omega))
    refine Held.oneG (i := 6) rfl (by kernel_rfl) (by kernel_rfl) (fun K hK => ?_)
    unfold Oper.wp
    go_simp
    refine (HC1.out).mono ?_
    rintro e X3 ⟨a', hlike, rfl, ha', hb⟩
    have hS2 := bstep hS hb
    clear hb HC1
    refine hK _ _ (fun _ => hS2) ?_
    try simp only [Act.put]
    clear hK K hS
    have hS := hS2
    clear hS2
    have hlk1 := hlike.n1
    have hlk2 := hlike.n2
    have HC1 := hide (show Calls Tryd.prog 11 #[.agg #[a'.v1, a'.v2], .agg #[.slice b.a1 b.n1 b.c1, .slice b.a2 b.n2 b.c2]] X3 _ from SameGraph_any a' b X3 ha' (HBK8.out.up hS) (by omega) (by omega) (by omega) (by omega))
    have hsg : sameG a' b = true := by
      unfold sameG
      rw [decide_eq_true_iff, hlike.ops, hlike.es]
      have h1 := HAE.out.trans HBE.out.symm
      exact ⟨congrArg GC.ops h1, congrArg GC.es h1⟩
    rw [hsg] at HC1
    clear hsg hlike ha' hlk1 hlk2
    refine Held.oneG (i := 8) rfl (by kernel_rfl) (by kernel_rfl) (fun K hK => ?_)
    unfold Oper.wp
    go_simp
    refine (HC1.out).mono ?_
    rintro e X4 ⟨rfl, hb⟩
    have hS2 := bstep hS hb
    clear hb HC1
    refine hK _ _ (fun _ => hS2) ?_
    try simp only [Act.put]
    clear hK K hS
    have hS := hS2
    clear hS2
    refine Held.takeG (i := 9) (.bool false) rfl hS (by kernel_rfl) (by kernel_rfl) (by kernel_rfl) (by kernel_rfl) (fun _ _ _ h => h) (by kernel_rfl) (fun y hy => by have x1 := hy; go_simp) ?_
    try simp only [Act.put]
    refine Held.take (i := 10) (.bool false) rfl hS (by kernel_rfl) (by kernel_rfl) (by kernel_rfl) (by kernel_rfl) (fun _ _ _ h => h) rfl (fun y hy => by have x1 := hy; go_simp) ?_
    try simp only [Act.put]
    refine Held.take (i := 11) (.bool false) rfl hS (by kernel_rfl) (by kernel_rfl) (by kernel_rfl) (by kernel_rfl) (fun _ _ _ h => h) rfl (fun y hy => by have x1 := hy; go_simp) ?_
    try simp only [Act.put]
    refine Held.takeG (i := 12) (.int .i64 (n : Int)) rfl hS (by kernel_rfl) (by kernel_rfl) (by kernel_rfl) (by kernel_rfl) (fun _ _ _ h => h) (by kernel_rfl) (fun y hy => by have x1 := hy; go_simp) ?_
    try simp only [Act.put]
    refine Held.takeG (i := 13) (.int .i64 (n : Int)) rfl hS (by kernel_rfl) (by kernel_rfl) (by kernel_rfl) (by kernel_rfl) (fun _ _ _ h => h) (by kernel_rfl) (fun y hy => by have x1 := hy; go_simp) ?_
    try simp only [Act.put]
    refine Held.takeG (i := 14) (.bool false) rfl hS (by kernel_rfl) (by kernel_rfl) (by kernel_rfl) (by kernel_rfl) (fun _ _ _ h => h) (by kernel_rfl) (fun y hy => by have x1 := hy; go_simp) ?_
    try simp only [Act.put]
    refine Held.take (i := 15) (.bool false) rfl hS (by kernel_rfl) (by kernel_rfl) (by kernel_rfl) (by kernel_rfl) (fun _ _ _ h => h) rfl (fun y hy => by have x1 := hy; go_simp) ?_
    try simp only [Act.put]
    refine Held.take (i := 16) (.bool false) rfl hS (by kernel_rfl) (by kernel_rfl) (by kernel_rfl) (by kernel_rfl) (fun _ _ _ h => h) rfl (fun y hy => by have x1 := hy; go_simp) ?_
    try simp only [Act.put]
    refine Held.takeG (i := 17) (.int .i64 E) rfl hS (by kernel_rfl) (by kernel_rfl) (by kernel_rfl) (by kernel_rfl) (fun _ _ _ h => h) (by kernel_rfl) (fun y hy => by have x1 := hy; go_simp) ?_
    try simp only [Act.put]
    refine Held.takeG (i := 18) (.int .i64 E) rfl hS (by kernel_rfl) (by kernel_rfl) (by kernel_rfl) (by kernel_rfl) (fun _ _ _ h => h) (by kernel_rfl) (fun y hy => by have x1 := hy; go_simp) ?_
    try simp only [Act.put]
    refine Held.takeG (i := 19) (.bool false) rfl hS (by kernel_rfl) (by kernel_rfl) (by kernel_rfl) (by kernel_rfl) (fun _ _ _ h => h) (by kernel_rfl) (fun y hy => by have x1 := hy; go_simp) ?_
    try simp only [Act.put]
    refine Held.take (i := 20) (.bool false) rfl hS (by kernel_rfl) (by kernel_rfl) (by kernel_rfl) (by kernel_rfl) (fun _ _ _ h => h) rfl (fun y hy => by have x1 := hy; go_simp) ?_
    try simp only [Act.put]
    refine Held.take (i := 21) (.bool false) rfl hS (by kernel_rfl) (by kernel_rfl) (by kernel_rfl) (by kernel_rfl) (fun _ _ _ h => h) rfl (fun y hy => by have x1 := hy; go_simp) ?_
    try simp only [Act.put]
    refine Held.takeG (i := 22) (.int .i64 E) rfl hS (by kernel_rfl) (by kernel_rfl) (by kernel_rfl) (by kernel_rfl) (fun _ _ _ h => h) (by kernel_rfl) (fun y hy => by have x1 := hy; go_simp) ?_
    try simp only [Act.put]
    refine Held.takeG (i := 23) (.bool false) rfl hS (by kernel_rfl) (by kernel_rfl) (by kernel_rfl) (by kernel_rfl) (fun _ _ _ h => h) (by kernel_rfl) (fun y hy => by have x1 := hy; go_simp) ?_
    try simp only [Act.put]
    refine Held.takeG (i := 24) (.bool false) rfl hS (by kernel_rfl) (by kernel_rfl) (by kernel_rfl) (by kernel_rfl) (fun _ _ _ h => h) (by kernel_rfl) (fun y hy => by have x1 := hy; go_simp) ?_
    try simp only [Act.put]
    refine Held.skip (i := 25) rfl hS (by kernel_rfl) (by kernel_rfl) (by kernel_rfl) (by kernel_rfl) (fun _ _ _ h => h) (by kernel_rfl) ?_
    try simp only [Act.put]
    refine Held.skip (i := 26) rfl hS (by kernel_rfl) (by kernel_rfl) (by kernel_rfl) (by kernel_rfl) (fun _ _ _ h => h) (by kernel_rfl) ?_
    try simp only [Act.put]
    refine Held.skip (i := 27) rfl hS (by kernel_rfl) (by kernel_rfl) (by kernel_rfl) (by kernel_rfl) (fun _ _ _ h => h) (by kernel_rfl) ?_
    try simp only [Act.put]
    refine Held.skip (i := 28) rfl hS (by kernel_rfl) (by kernel_rfl) (by kernel_rfl) (by kernel_rfl) (fun _ _ _ h => h) (by kernel_rfl) ?_
    try simp only [Act.put]
    refine Held.takeG (i := 29) (.bool false) rfl hS (by kernel_rfl) (by kernel_rfl) (by kernel_rfl) (by kernel_rfl) (fun _ _ _ h => h) (by kernel_rfl) (fun y hy => by have x1 := hy; go_simp) ?_
    try simp only [Act.put]
    refine Held.one (i := 30) rfl (by kernel_rfl) rfl (fun K hK => ?_)
    unfold Oper.wp
    go_simp
    refine hK _ _ (fun _ => hS) ?_
    try simp only [Act.put]
    clear hK K
    refine Held.done (by kernel_rfl) ?_
    have HS := hide hS
    clear hS y1 y2 y3 y4
    obtain ⟨bv, hbv⟩ : ∃ bv, validC ⟨g.ops, g.es⟩ = bv := ⟨_, rfl⟩
    cases bv
    case false =>
      have hF0 : F.data.toList = [] := by rw [HFD.out]; unfold fmtG; rw [hbv]; rfl
      have y1 : F.toList.isEmpty = true := by rw [ByteArray.toList_eq, hF0]; rfl
      have HB := hide (bstep HB8.out HS.out)
      clear hF0 hbv
      go_wp2
      go_ret
      exact ⟨rfl, HB.out⟩
    have hF0 : F.data.toList = fmtL ⟨g.ops, g.es⟩ := by rw [HFD.out]; unfold fmtG; rw [hbv]; rfl
    have y1 : F.toList.isEmpty = false := by
      rw [ByteArray.toList_eq, hF0]
      cases hh : fmtL ⟨g.ops, g.es⟩ with
      | nil => exact absurd hh (fmtL_ne _)
      | cons x l => rfl
    have hv := valid_lens hbv
    have hsh := fmt_short hv.1 hv.2 hbv
    have hFz : F.size ≤ 65536 := by
      have h1 : F.data.toList.length = F.size := by simp
      rw [hF0] at h1
      omega
    have hB9 := bstep HB8.out HS.out
    have HP1 := hide (Parse_any F X4 (by omega) (ht.below hB9) (he.below hB9) (hm.below hB9))
    rw [hF0, par_fmt hbv hsh] at HP1
    have k9 := HK8.out.below HS.out hsl
    have hg9 := HG8.out.up HS.out
    clear hF0 hbv hv hsh HS HB8 HG8 HA8 HBK8 HK8
    go_wp2_with fail
    refine HP1.out.mono ?_
    rintro e Y1 ⟨c, rfl, hc, hb, hce⟩
    rw [show c.v1 = .slice c.a1 c.n1 c.c1 from rfl, show c.v2 = .slice c.a2 c.n2 c.c2 from rfl]
    have hB10 := bstep hB9 hb
    have k10 := k9.below hb k9.lt
    have hg10 := hg9.up hb
    clear hb hB9 k9 hg9 HP1 y1
    have hb11 : Below Y1.heap.size Y1 (Y1.alloc (.cells #[.slice c.a1 c.n1 c.c1, .slice c.a2 c.n2 c.c2] 31)) := (Below.refl _ _).alloc (Nat.le_refl _) _
    have j11 := Blk.new Y1 31 #[.slice c.a1 c.n1 c.c1, .slice c.a2 c.n2 c.c2]
    have hB11 := bstep hB10 hb11
    have k11 := k10.below hb11 k10.lt
    have hg11 := hg10.up hb11
    have hc11 := hc.up hb11
    simp only
    go_upto_region 13 with fail
    obtain ⟨Y2, hY2⟩ : ∃ Y2, Y1.alloc (.cells #[.slice c.a1 c.n1 c.c1, .slice c.a2 c.n2 c.c2] 31) = Y2 := ⟨_, rfl⟩
    obtain ⟨cb, hcb⟩ : ∃ cb, Y1.heap.size = cb := ⟨_, rfl⟩
    rw [hY2] at j11 hB11 k11 hg11 hc11 ⊢
    rw [hcb] at j11 ⊢
    clear hY2 hcb hb11 hB10 k10 hg10 hc
    have c0 : Y2.cell? ⟨sb, 0, none⟩ = some g.v1 := by simpa using k11.cell 0
    have c1 : Y2.cell? ⟨sb, 1, none⟩ = some g.v2 := by simpa using k11.cell 1
    have d0 : Y2.cell? ⟨cb, 0, none⟩ = some (.slice c.a1 c.n1 c.c1) := by simpa using j11.cell 0
    have d1 : Y2.cell? ⟨cb, 1, none⟩ = some (.slice c.a2 c.n2 c.c2) := by simpa using j11.cell 1
    have hsl2 := k11.lt
    have hcl2 := j11.lt
    have hcn : c.n1 ≤ 300 ∧ c.n2 ≤ 60 := by
      obtain ⟨h1, h2⟩ := hc11.lens
      obtain ⟨h3, h4⟩ := hg11.lens
      have e1 : c.ops = g.ops := congrArg GC.ops hce
      have e2 : c.es = g.es := congrArg GC.es hce
      rw [e1] at h1
      rw [e2] at h2
      omega
    have HCS2 := hide (And.intro (And.intro c0 c1) (And.intro d0 d1))
    have HB11 := hide hB11
    have HG11 := hide hg11
    have HC11 := hide hc11
    have HCE := hide hce
    clear HCS c0 c1 d0 d1 k11 j11 hB11 hg11 hc11 hce
    refine Held.begin (fun y => Below Y2.heap.size Y2 y) 100 (by kernel_rfl) ?_
    have hS : Below Y2.heap.size Y2 Y2.drew := (Below.refl _ _).drew
    obtain ⟨Z1, hZ1⟩ : ∃ Z1, Y2.drew = Z1 := ⟨_, rfl⟩
    rw [hZ1] at hS ⊢
    clear hZ1
    refine Held.take (i := 0) (.int .i64 0) rfl hS (by kernel_rfl) (by kernel_rfl) (by kernel_rfl) (by kernel_rfl) (fun _ _ _ h => h) rfl (fun y hy => by have x1 := hy; go_simp) ?_
    try simp only [Act.put]
    refine Held.take (i := 1) (.bool true) rfl hS (by kernel_rfl) (by kernel_rfl) (by kernel_rfl) (by kernel_rfl) (fun _ _ _ h => h) rfl (fun y hy => by have x1 := hy; go_simp) ?_
    try simp only [Act.put]
    refine Held.take (i := 2) (.bool true) rfl hS (by kernel_rfl) (by kernel_rfl) (by kernel_rfl) (by kernel_rfl) (fun _ _ _ h => h) rfl (fun y hy => by have x1 := hy; go_simp) ?_
    try simp only [Act.put]
    refine Held.takeG (i := 3) (.int .i64 0) rfl hS (by kernel_rfl) (by kernel_rfl) (by kernel_rfl) (by kernel_rfl) (fun _ _ _ h => h) (by kernel_rfl) (fun y hy => by have x1 := hy; go_simp) ?_
    try simp only [Act.put]
    refine Held.takeG (i := 4) (.bool true) rfl hS (by kernel_rfl) (by kernel_rfl) (by kernel_rfl) (by kernel_rfl) (fun _ _ _ h => h) (by kernel_rfl) (fun y hy => by have x1 := hy; go_simp) ?_
    try simp only [Act.put]
    refine Held.take (i := 5) (.bool true) rfl hS (by kernel_rfl) (by kernel_rfl) (by kernel_rfl) (by kernel_rfl) (fun _ _ _ h => h) rfl (fun y hy => by have x1 := hy; go_simp) ?_
    try simp only [Act.put]
    refine Held.take (i := 6) (.bool true) rfl hS (by kernel_rfl) (by kernel_rfl) (by kernel_rfl) (by kernel_rfl) (fun _ _ _ h => h) rfl (fun y hy => by have x1 := hy; go_simp) ?_
    try simp only [Act.put]
    refine Held.takeG (i := 7) (.agg #[.slice c.a1 c.n1 c.c1, .slice c.a2 c.n2 c.c2]) rfl hS (by kernel_rfl) (by kernel_rfl) (by kernel_rfl) (by kernel_rfl) (fun _ _ _ h => h) (by kernel_rfl) (fun y hy => by have x1 := hy; have z0 := (x1.cell (p := ⟨cb, 0, none⟩) hcl2).trans HCS2.out.2.1; have z1 := (x1.cell (p := ⟨cb, 1, none⟩) hcl2).trans HCS2.out.2.2; go_simp) ?_
    try simp only [Act.put]
    refine Held.takeG (i := 9) (.agg #[g.v1, g.v2]) rfl hS (by kernel_rfl) (by kernel_rfl) (by kernel_rfl) (by kernel_rfl) (fun _ _ _ h => h) (by kernel_rfl) (fun y hy => by have x1 := hy; have z0 := (x1.cell (p := ⟨sb, 0, none⟩) hsl2).trans HCS2.out.1.1; have z1 := (x1.cell (p := ⟨sb, 1, none⟩) hsl2).trans HCS2.out.1.2; go_simp) ?_
    try simp only [Act.put]
    have HC1 := hide (show Calls Tryd.prog 12 #[.agg #[.slice c.a1 c.n1 c.c1, .slice c.a2 c.n2 c.c2]] Z1 _ from told_any c Z1 (HC11.out.up hS) (by omega) (by omega))
    refine Held.oneG (i := 8) rfl (by kernel_rfl) (by kernel_rfl) (fun K hK => ?_)
    unfold Oper.wp
    go_simp
    refine (HC1.out).mono ?_
    rintro e Z2 ⟨c', hlike, rfl, hc', hb⟩
    have hS2 := bstep hS hb
    refine hK _ _ (fun _ => hS2) ?_
    try simp only [Act.put]
    clear hK K hS hb HC1
    have hS := hS2
    clear hS2
    have hlk1 := hlike.n1
    have hlk2 := hlike.n2
    have HC1 := hide (SameGraph_any c' g Z2 hc' (HG11.out.up hS) (by omega) (by omega) (by omega) (by omega))
    have hsg : sameG c' g = true := by
      unfold sameG
      rw [decide_eq_true_iff, hlike.ops, hlike.es]
      have h1 := HCE.out
      exact ⟨congrArg GC.ops h1, congrArg GC.es h1⟩
    rw [hsg] at HC1
    clear hsg hlike hc' hlk1 hlk2
    refine Held.oneG (i := 10) rfl (by kernel_rfl) (by kernel_rfl) (fun K hK => ?_)
    unfold Oper.wp
    go_simp
    refine (HC1.out).mono ?_
    rintro e Z3 ⟨rfl, hb⟩
    have hS2 := bstep hS hb
    refine hK _ _ (fun _ => hS2) ?_
    try simp only [Act.put]
    clear hK K hS hb HC1
    have hS := hS2
    clear hS2
    refine Held.take (i := 11) (.bool true) rfl hS (by kernel_rfl) (by kernel_rfl) (by kernel_rfl) (by kernel_rfl) (fun _ _ _ h => h) rfl (fun y hy => by have x1 := hy; go_simp) ?_
    try simp only [Act.put]
    refine Held.one (i := 12) rfl (by kernel_rfl) rfl (fun K hK => ?_)
    unfold Oper.wp
    go_simp
    refine hK _ _ (fun _ => hS) ?_
    try simp only [Act.put]
    clear hK K
    refine Held.done (by kernel_rfl) ?_
    have HB := hide (bstep HB11.out hS)
    clear hS
    go_wp2
    go_ret
    exact ⟨rfl, HB.out⟩
end Go.Proofs.YtmpoaegdejhbeaaDoor
