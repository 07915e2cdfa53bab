/-
  The walk of the reference's Parse. No condition but the table of powers of ten. (Printed by gen_tcl.)
-/
import Derived.Test.YtehifbogadohgaaDoorTcK
namespace Go.Proofs.YtehifbogadohgaaDoor
open Go.RowKit
set_option linter.unusedVariables false
set_option linter.unusedSimpArgs false

theorem own_at {w : World} {base n c : Nat} {e : TypeId} {g : Nat} {xs : List Value} (h : w.ownsRow base e 1 (.slice (some ⟨g, 0, none⟩) n c) n xs) (j : Nat) (u : Value) (hu : xs[j]? = some u) : w.cell? ⟨g, j, none⟩ = some u := by
  have := h.cells (g := g) rfl j u hu
  rwa [add_plain, Nat.zero_add] at this
set_option maxRecDepth 100000 in
set_option maxHeartbeats 8000000 in
theorem RParse_any (s : ByteArray) (w : World) (hs : s.size ≤ 1000000) (ht : Tab w) :
    Calls Tryd.prog 9 #[.string s] w (RetPs w (parR s.data.toList)) := by
  have HLS := hide (show s.data.toList.length = s.size by simp)
  have hB0 : Below w.heap.size w (w.alloc (.cells #[.int .i64 0, .int .i64 0, .int .i64 0, .int .i64 0, .int .i64 0] 23)) := (Below.refl _ _).alloc (Nat.le_refl _) _
  have kr := Blk.new w 23 #[.int .i64 0, .int .i64 0, .int .i64 0, .int .i64 0, .int .i64 0]
  have ht0 := ht.below hB0
  go_enter Tryd.func9, Tryd.ntmps9
  go_upto_region 1 with fail
  obtain ⟨W0, hW0⟩ : ∃ W0, w.alloc (.cells #[.int .i64 0, .int .i64 0, .int .i64 0, .int .i64 0, .int .i64 0] 23) = W0 := ⟨_, rfl⟩
  obtain ⟨rb, hrb⟩ : ∃ rb, w.heap.size = rb := ⟨_, rfl⟩
  rw [hW0] at hB0 kr ht0 ⊢
  rw [hrb] at kr ⊢
  have hrw : w.heap.size ≤ rb := by omega
  clear hW0 hrb
  by_cases h1 : 65536 < s.size
  case pos =>
    have HR := hide (show parR s.data.toList = (z5, 3) from by unfold parR; rw [HLS.out, if_pos h1])
    have z : (65536 : Int) < (s.size : Int) := by omega
    have HX := hide (set5 kr (.int .i64 0) (.int .i64 0) (.int .i64 0) (.int .i64 0) (.int .i64 0))
    have HB := hide (st5_below hB0 hrw (.int .i64 0) (.int .i64 0) (.int .i64 0) (.int .i64 0) (.int .i64 0))
    obtain ⟨⟨e0, f0⟩, ⟨e1, f1⟩, ⟨e2, f2⟩, ⟨e3, f3⟩, ⟨e4, f4⟩⟩ := spc_facts kr (.int .i64 0) (.int .i64 0) (.int .i64 0) (.int .i64 0)
    unfold st5 at HX HB
    clear kr hB0 ht0
    go_wp2
    (try simp only [Exit.inBlock, Exit.then])
    refine bodyPost_ret_by (results_spc rfl _ _ rb z5 rfl HX.out) rfl ?_
    exact ⟨by rw [HR.out]; rfl, HB.out⟩
  by_cases h2 : 100 < s.size
  case pos =>
    have HR := hide (show parR s.data.toList = (z5, 2) from by unfold parR; rw [HLS.out, if_neg h1, if_pos h2])
    have z : ¬ (65536 : Int) < (s.size : Int) := by omega
    have z2 : (100 : Int) < (s.size : Int) := by omega
    have HX := hide (set5 kr (.int .i64 0) (.int .i64 0) (.int .i64 0) (.int .i64 0) (.int .i64 0))
    have HB := hide (st5_below hB0 hrw (.int .i64 0) (.int .i64 0) (.int .i64 0) (.int .i64 0) (.int .i64 0))
    obtain ⟨⟨e0, f0⟩, ⟨e1, f1⟩, ⟨e2, f2⟩, ⟨e3, f3⟩, ⟨e4, f4⟩⟩ := spc_facts kr (.int .i64 0) (.int .i64 0) (.int .i64 0) (.int .i64 0)
    unfold st5 at HX HB
    clear kr hB0 ht0
    go_wp2
    (try simp only [Exit.inBlock, Exit.then])
    refine bodyPost_ret_by (results_spc rfl _ _ rb z5 rfl HX.out) rfl ?_
    exact ⟨by rw [HR.out]; rfl, HB.out⟩
  have HP := hide (show parR s.data.toList = parseG candR s.data.toList from by unfold parR; rw [HLS.out, if_neg h1, if_neg h2])
  have h100 : s.size ≤ 100 := by omega
  clear h1 h2
  go_wp2_with fail
  refine (Words_any s _ (by omega)).mono ?_
  rintro e W1 ⟨A, c, rfl, hown, hb⟩
  have hB1 : Below w.heap.size w W1 := hB0.trans (hb.mono hB0.size)
  have kr1 := kr.below hb kr.lt
  have ht1 := ht0.below hb
  have HSH := hide (words_short s.data.toList)
  obtain ⟨ws, hws⟩ : ∃ ws, wordsL s.data.toList = ws := ⟨_, rfl⟩
  rw [hws] at hown HSH ⊢
  have hne : ws ≠ [] := by rw [← hws]; exact words_ne _
  have HWS := hide hws
  obtain ⟨n, hn⟩ : ∃ n, ws.length = n := ⟨_, rfl⟩
  rw [hn] at hown ⊢
  have hn0 : 0 < n := by rw [← hn]; exact List.length_pos_iff.2 hne
  obtain ⟨g, rfl⟩ := own_someW hown hn0
  have HN := hide hn
  have hrl := kr1.lt
  clear hws hn hne hB0 kr ht0 hb
  have hb2 : Below W1.heap.size W1 (W1.alloc (.cells #[.int .i64 0, .int .i64 0, .int .i64 0, .int .i64 0, .int .i64 0] 23)) := (Below.refl _ _).alloc (Nat.le_refl _) _
  have ks2 := Blk.new W1 23 #[.int .i64 0, .int .i64 0, .int .i64 0, .int .i64 0, .int .i64 0]
  have hB2 : Below w.heap.size w _ := hB1.trans (hb2.mono hB1.size)
  have kr2 := kr1.below hb2 kr1.lt
  have ht2 := ht1.below hb2
  have hown2 := own_below hown hb2
  go_upto_region 7 with fail
  obtain ⟨W2, hW2⟩ : ∃ W2, W1.alloc (.cells #[.int .i64 0, .int .i64 0, .int .i64 0, .int .i64 0, .int .i64 0] 23) = W2 := ⟨_, rfl⟩
  obtain ⟨sb, hsb⟩ : ∃ sb, W1.heap.size = sb := ⟨_, rfl⟩
  rw [hW2] at hB2 ks2 kr2 ht2 hown2 ⊢
  rw [hsb] at ks2 hrl ⊢
  have hsw : w.heap.size ≤ sb := by have := hB1.size; omega
  have hrs : rb ≠ sb := by omega
  have HB2 := hide hB2
  have HK2 := hide kr2
  have HT2 := hide ht2
  have HO2 := hide (fun (j : Nat) (u : Value) (hu : (ws.map strV)[j]? = some u) => own_at hown2 j u hu)
  clear hW2 hsb hB1 kr1 ht1 hown hb2 hB2 kr2 ht2 hown2 hrl
  first
  | (iterate 3 (first | go_values | go_skip | go_guarded | go_step | go_upon | go_back)); go_cut [3] from 16 to 54 (fun s3 wx => s3 = .int .i64 0 ∧ Blk wx sb 23 (encS (candW ws)) ∧ Blk wx rb 23 #[.int .i64 0, .int .i64 0, .int .i64 0, .int .i64 0, .int .i64 0] ∧ Below w.heap.size w wx)
  | (iterate 4 (first | go_values | go_skip | go_guarded | go_step | go_upon | go_back)); go_cut [3] from 16 to 54 (fun s3 wx => s3 = .int .i64 0 ∧ Blk wx sb 23 (encS (candW ws)) ∧ Blk wx rb 23 #[.int .i64 0, .int .i64 0, .int .i64 0, .int .i64 0, .int .i64 0] ∧ Below w.heap.size w wx)
  | (iterate 5 (first | go_values | go_skip | go_guarded | go_step | go_upon | go_back)); go_cut [3] from 16 to 54 (fun s3 wx => s3 = .int .i64 0 ∧ Blk wx sb 23 (encS (candW ws)) ∧ Blk wx rb 23 #[.int .i64 0, .int .i64 0, .int .i64 0, .int .i64 0, .int .i64 0] ∧ Below w.heap.size w wx)
  | (iterate 6 (first | go_values | go_skip | go_guarded | go_step | go_upon | go_back)); go_cut [3] from 16 to 54 (fun s3 wx => s3 = .int .i64 0 ∧ Blk wx sb 23 (encS (candW ws)) ∧ Blk wx rb 23 #[.int .i64 0, .int .i64 0, .int .i64 0, .int .i64 0, .int .i64 0] ∧ Below w.heap.size w wx)
  | (iterate 7 (first | go_values | go_skip | go_guarded | go_step | go_upon | go_back)); go_cut [3] from 16 to 54 (fun s3 wx => s3 = .int .i64 0 ∧ Blk wx sb 23 (encS (candW ws)) ∧ Blk wx rb 23 #[.int .i64 0, .int .i64 0, .int .i64 0, .int .i64 0, .int .i64 0] ∧ Below w.heap.size w wx)
  | (iterate 8 (first | go_values | go_skip | go_guarded | go_step | go_upon | go_back)); go_cut [3] from 16 to 54 (fun s3 wx => s3 = .int .i64 0 ∧ Blk wx sb 23 (encS (candW ws)) ∧ Blk wx rb 23 #[.int .i64 0, .int .i64 0, .int .i64 0, .int .i64 0, .int .i64 0] ∧ Below w.heap.size w wx)
  | (iterate 9 (first | go_values | go_skip | go_guarded | go_step | go_upon | go_back)); go_cut [3] from 16 to 54 (fun s3 wx => s3 = .int .i64 0 ∧ Blk wx sb 23 (encS (candW ws)) ∧ Blk wx rb 23 #[.int .i64 0, .int .i64 0, .int .i64 0, .int .i64 0, .int .i64 0] ∧ Below w.heap.size w wx)
  | (iterate 10 (first | go_values | go_skip | go_guarded | go_step | go_upon | go_back)); go_cut [3] from 16 to 54 (fun s3 wx => s3 = .int .i64 0 ∧ Blk wx sb 23 (encS (candW ws)) ∧ Blk wx rb 23 #[.int .i64 0, .int .i64 0, .int .i64 0, .int .i64 0, .int .i64 0] ∧ Below w.heap.size w wx)
  | (iterate 11 (first | go_values | go_skip | go_guarded | go_step | go_upon | go_back)); go_cut [3] from 16 to 54 (fun s3 wx => s3 = .int .i64 0 ∧ Blk wx sb 23 (encS (candW ws)) ∧ Blk wx rb 23 #[.int .i64 0, .int .i64 0, .int .i64 0, .int .i64 0, .int .i64 0] ∧ Below w.heap.size w wx)
  | (iterate 12 (first | go_values | go_skip | go_guarded | go_step | go_upon | go_back)); go_cut [3] from 16 to 54 (fun s3 wx => s3 = .int .i64 0 ∧ Blk wx sb 23 (encS (candW ws)) ∧ Blk wx rb 23 #[.int .i64 0, .int .i64 0, .int .i64 0, .int .i64 0, .int .i64 0] ∧ Below w.heap.size w wx)
  | (iterate 13 (first | go_values | go_skip | go_guarded | go_step | go_upon | go_back)); go_cut [3] from 16 to 54 (fun s3 wx => s3 = .int .i64 0 ∧ Blk wx sb 23 (encS (candW ws)) ∧ Blk wx rb 23 #[.int .i64 0, .int .i64 0, .int .i64 0, .int .i64 0, .int .i64 0] ∧ Below w.heap.size w wx)
  | (iterate 14 (first | go_values | go_skip | go_guarded | go_step | go_upon | go_back)); go_cut [3] from 16 to 54 (fun s3 wx => s3 = .int .i64 0 ∧ Blk wx sb 23 (encS (candW ws)) ∧ Blk wx rb 23 #[.int .i64 0, .int .i64 0, .int .i64 0, .int .i64 0, .int .i64 0] ∧ Below w.heap.size w wx)
  | (iterate 15 (first | go_values | go_skip | go_guarded | go_step | go_upon | go_back)); go_cut [3] from 16 to 54 (fun s3 wx => s3 = .int .i64 0 ∧ Blk wx sb 23 (encS (candW ws)) ∧ Blk wx rb 23 #[.int .i64 0, .int .i64 0, .int .i64 0, .int .i64 0, .int .i64 0] ∧ Below w.heap.size w wx)
  | (iterate 16 (first | go_values | go_skip | go_guarded | go_step | go_upon | go_back)); go_cut [3] from 16 to 54 (fun s3 wx => s3 = .int .i64 0 ∧ Blk wx sb 23 (encS (candW ws)) ∧ Blk wx rb 23 #[.int .i64 0, .int .i64 0, .int .i64 0, .int .i64 0, .int .i64 0] ∧ Below w.heap.size w wx)
  | (iterate 17 (first | go_values | go_skip | go_guarded | go_step | go_upon | go_back)); go_cut [3] from 16 to 54 (fun s3 wx => s3 = .int .i64 0 ∧ Blk wx sb 23 (encS (candW ws)) ∧ Blk wx rb 23 #[.int .i64 0, .int .i64 0, .int .i64 0, .int .i64 0, .int .i64 0] ∧ Below w.heap.size w wx)
  | (iterate 18 (first | go_values | go_skip | go_guarded | go_step | go_upon | go_back)); go_cut [3] from 16 to 54 (fun s3 wx => s3 = .int .i64 0 ∧ Blk wx sb 23 (encS (candW ws)) ∧ Blk wx rb 23 #[.int .i64 0, .int .i64 0, .int .i64 0, .int .i64 0, .int .i64 0] ∧ Below w.heap.size w wx)
  | (iterate 19 (first | go_values | go_skip | go_guarded | go_step | go_upon | go_back)); go_cut [3] from 16 to 54 (fun s3 wx => s3 = .int .i64 0 ∧ Blk wx sb 23 (encS (candW ws)) ∧ Blk wx rb 23 #[.int .i64 0, .int .i64 0, .int .i64 0, .int .i64 0, .int .i64 0] ∧ Below w.heap.size w wx)
  | (iterate 20 (first | go_values | go_skip | go_guarded | go_step | go_upon | go_back)); go_cut [3] from 16 to 54 (fun s3 wx => s3 = .int .i64 0 ∧ Blk wx sb 23 (encS (candW ws)) ∧ Blk wx rb 23 #[.int .i64 0, .int .i64 0, .int .i64 0, .int .i64 0, .int .i64 0] ∧ Below w.heap.size w wx)
  | (iterate 21 (first | go_values | go_skip | go_guarded | go_step | go_upon | go_back)); go_cut [3] from 16 to 54 (fun s3 wx => s3 = .int .i64 0 ∧ Blk wx sb 23 (encS (candW ws)) ∧ Blk wx rb 23 #[.int .i64 0, .int .i64 0, .int .i64 0, .int .i64 0, .int .i64 0] ∧ Below w.heap.size w wx)
  | (iterate 22 (first | go_values | go_skip | go_guarded | go_step | go_upon | go_back)); go_cut [3] from 16 to 54 (fun s3 wx => s3 = .int .i64 0 ∧ Blk wx sb 23 (encS (candW ws)) ∧ Blk wx rb 23 #[.int .i64 0, .int .i64 0, .int .i64 0, .int .i64 0, .int .i64 0] ∧ Below w.heap.size w wx)
  | (iterate 23 (first | go_values | go_skip | go_guarded | go_step | go_upon | go_back)); go_cut [3] from 16 to 54 (fun s3 wx => s3 = .int .i64 0 ∧ Blk wx sb 23 (encS (candW ws)) ∧ Blk wx rb 23 #[.int .i64 0, .int .i64 0, .int .i64 0, .int .i64 0, .int .i64 0] ∧ Below w.heap.size w wx)
  | (iterate 24 (first | go_values | go_skip | go_guarded | go_step | go_upon | go_back)); go_cut [3] from 16 to 54 (fun s3 wx => s3 = .int .i64 0 ∧ Blk wx sb 23 (encS (candW ws)) ∧ Blk wx rb 23 #[.int .i64 0, .int .i64 0, .int .i64 0, .int .i64 0, .int .i64 0] ∧ Below w.heap.size w wx)
  | (iterate 25 (first | go_values | go_skip | go_guarded | go_step | go_upon | go_back)); go_cut [3] from 16 to 54 (fun s3 wx => s3 = .int .i64 0 ∧ Blk wx sb 23 (encS (candW ws)) ∧ Blk wx rb 23 #[.int .i64 0, .int .i64 0, .int .i64 0, .int .i64 0, .int .i64 0] ∧ Below w.heap.size w wx)
  | (iterate 26 (first | go_values | go_skip | go_guarded | go_step | go_upon | go_back)); go_cut [3] from 16 to 54 (fun s3 wx => s3 = .int .i64 0 ∧ Blk wx sb 23 (encS (candW ws)) ∧ Blk wx rb 23 #[.int .i64 0, .int .i64 0, .int .i64 0, .int .i64 0, .int .i64 0] ∧ Below w.heap.size w wx)
  | (iterate 27 (first | go_values | go_skip | go_guarded | go_step | go_upon | go_back)); go_cut [3] from 16 to 54 (fun s3 wx => s3 = .int .i64 0 ∧ Blk wx sb 23 (encS (candW ws)) ∧ Blk wx rb 23 #[.int .i64 0, .int .i64 0, .int .i64 0, .int .i64 0, .int .i64 0] ∧ Below w.heap.size w wx)
  | (iterate 28 (first | go_values | go_skip | go_guarded | go_step | go_upon | go_back)); go_cut [3] from 16 to 54 (fun s3 wx => s3 = .int .i64 0 ∧ Blk wx sb 23 (encS (candW ws)) ∧ Blk wx rb 23 #[.int .i64 0, .int .i64 0, .int .i64 0, .int .i64 0, .int .i64 0] ∧ Below w.heap.size w wx)
  | (iterate 29 (first | go_values | go_skip | go_guarded | go_step | go_upon | go_back)); go_cut [3] from 16 to 54 (fun s3 wx => s3 = .int .i64 0 ∧ Blk wx sb 23 (encS (candW ws)) ∧ Blk wx rb 23 #[.int .i64 0, .int .i64 0, .int .i64 0, .int .i64 0, .int .i64 0] ∧ Below w.heap.size w wx)
  case first =>
    have REL := hide (show ∀ q : SpC, candW ws = q → (∃ m : Nat, Blk (W2.drewN m) sb 23 (encS q)) → True from fun _ _ _ => trivial)
    by_cases d1 : n = 1
    case pos =>
      obtain ⟨a, rfl⟩ : ∃ a, ws = [a] := by
        have hl := HN.out
        rw [d1] at hl
        match ws, hl with
        | [a], _ => exact ⟨_, rfl⟩
      have z1 : ((n : Int) == 1) = true := by rw [beq_iff_eq]; omega
      have HX := hide (set5 ks2 (.int .i64 4) (.int .i64 0) (.int .i64 0) (.int .i64 0) (.int .i64 0))
      have HXR := hide (st5_far HK2.out hrs (.int .i64 4) (.int .i64 0) (.int .i64 0) (.int .i64 0) (.int .i64 0))
      have HXB := hide (st5_below HB2.out hsw (.int .i64 4) (.int .i64 0) (.int .i64 0) (.int .i64 0) (.int .i64 0))
      obtain ⟨⟨e0, f0⟩, ⟨e1, f1⟩, ⟨e2, f2⟩, ⟨e3, f3⟩, ⟨e4, f4⟩⟩ := spc_facts ks2 (.int .i64 4) (.int .i64 0) (.int .i64 0) (.int .i64 0)
      unfold st5 at HX HXR HXB
      have HD := hide d1
      clear ks2 d1 HO2 HK2 HB2 HT2 REL
      go_wp2_with fail
      go_meet
      case rel => exact ⟨rfl, HX.out, HXR.out, HXB.out⟩
    by_cases d2 : n = 2
    case pos =>
      obtain ⟨a, b, rfl⟩ : ∃ a b, ws = [a, b] := by
        have hl := HN.out
        rw [d2] at hl
        match ws, hl with
        | [a, b], _ => exact ⟨_, _, rfl⟩
      have z1 : ((n : Int) == 1) = false := by rw [beq_eq_false_iff_ne]; omega
      have z2 : ((n : Int) == 2) = true := by rw [beq_iff_eq]; omega
      have p1 : W2.cell? ⟨g, 1, none⟩ = some (.string ⟨b.toArray⟩) := HO2.out 1 _ rfl
      have l1 : b.length ≤ 1000 := by have := HSH.out b (by simp); rw [HLS.out] at this; omega
      have q1 : (1 : Int) < (n : Int) := by omega
      have HX := hide (set5 ks2 (.int .i64 3) (.int .i64 0) (.int .i64 0) (.int .i64 (numV b)) (.int .i64 0))
      have HXR := hide (st5_far HK2.out hrs (.int .i64 3) (.int .i64 0) (.int .i64 0) (.int .i64 (numV b)) (.int .i64 0))
      have HXB := hide (st5_below HB2.out hsw (.int .i64 3) (.int .i64 0) (.int .i64 0) (.int .i64 (numV b)) (.int .i64 0))
      obtain ⟨⟨e0, f0⟩, ⟨e1, f1⟩, ⟨e2, f2⟩, ⟨e3, f3⟩, ⟨e4, f4⟩⟩ := spc_facts ks2 (.int .i64 3) (.int .i64 0) (.int .i64 0) (.int .i64 (numV b))
      unfold st5 at HX HXR HXB
      have HD := hide d2
      clear ks2 d2 HO2 HK2 HB2 HT2 REL
      go_wp2_with fail
      refine (number_w b _ l1).mono ?_
      rintro e w9 ⟨rfl, rfl⟩
      go_wp2_with fail
      go_meet
      case rel => exact ⟨rfl, HX.out, HXR.out, HXB.out⟩
    by_cases d3 : n = 3
    case pos =>
      obtain ⟨a, b, c, rfl⟩ : ∃ a b c, ws = [a, b, c] := by
        have hl := HN.out
        rw [d3] at hl
        match ws, hl with
        | [a, b, c], _ => exact ⟨_, _, _, rfl⟩
      have z1 : ((n : Int) == 1) = false := by rw [beq_eq_false_iff_ne]; omega
      have z2 : ((n : Int) == 2) = false := by rw [beq_eq_false_iff_ne]; omega
      have z3 : ((n : Int) == 3) = true := by rw [beq_iff_eq]; omega
      have p1 : W2.cell? ⟨g, 1, none⟩ = some (.string ⟨b.toArray⟩) := HO2.out 1 _ rfl
      have l1 : b.length ≤ 1000 := by have := HSH.out b (by simp); rw [HLS.out] at this; omega
      have q1 : (1 : Int) < (n : Int) := by omega
      have p2 : W2.cell? ⟨g, 2, none⟩ = some (.string ⟨c.toArray⟩) := HO2.out 2 _ rfl
      have l2 : c.length ≤ 1000 := by have := HSH.out c (by simp); rw [HLS.out] at this; omega
      have q2 : (2 : Int) < (n : Int) := by omega
      have HX := hide (set5 ks2 (.int .i64 1) (.int .i64 (numV b)) (.int .i64 0) (.int .i64 0) (.int .i64 (numV c)))
      have HXR := hide (st5_far HK2.out hrs (.int .i64 1) (.int .i64 (numV b)) (.int .i64 0) (.int .i64 0) (.int .i64 (numV c)))
      have HXB := hide (st5_below HB2.out hsw (.int .i64 1) (.int .i64 (numV b)) (.int .i64 0) (.int .i64 0) (.int .i64 (numV c)))
      obtain ⟨⟨e0, f0⟩, ⟨e1, f1⟩, ⟨e2, f2⟩, ⟨e3, f3⟩, ⟨e4, f4⟩⟩ := spc_facts ks2 (.int .i64 1) (.int .i64 (numV b)) (.int .i64 0) (.int .i64 0)
      unfold st5 at HX HXR HXB
      have HD := hide d3
      clear ks2 d3 HO2 HK2 HB2 HT2 REL
      go_upto_region 13 with fail
      refine wp_region_still_tail 9 (by kernel_rfl) (by kernel_rfl) ?_
      simp only [List.take_succ_cons, List.take_zero, List.drop_succ_cons, List.drop_zero]
      repeat (first | still_step | still_call (number_w _ _ (by assumption)))
      try refine wpStill_nil ?_
      go_wp2_with fail
      go_meet
      case rel => exact ⟨rfl, HX.out, HXR.out, HXB.out.drew⟩
    by_cases d4 : n = 4
    case pos =>
      obtain ⟨a, b, c, d, rfl⟩ : ∃ a b c d, ws = [a, b, c, d] := by
        have hl := HN.out
        rw [d4] at hl
        match ws, hl with
        | [a, b, c, d], _ => exact ⟨_, _, _, _, rfl⟩
      have z1 : ((n : Int) == 1) = false := by rw [beq_eq_false_iff_ne]; omega
      have z2 : ((n : Int) == 2) = false := by rw [beq_eq_false_iff_ne]; omega
      have z3 : ((n : Int) == 3) = false := by rw [beq_eq_false_iff_ne]; omega
      have z4 : ((n : Int) == 4) = true := by rw [beq_iff_eq]; omega
      have p1 : W2.cell? ⟨g, 1, none⟩ = some (.string ⟨b.toArray⟩) := HO2.out 1 _ rfl
      have l1 : b.length ≤ 1000 := by have := HSH.out b (by simp); rw [HLS.out] at this; omega
      have q1 : (1 : Int) < (n : Int) := by omega
      have p2 : W2.cell? ⟨g, 2, none⟩ = some (.string ⟨c.toArray⟩) := HO2.out 2 _ rfl
      have l2 : c.length ≤ 1000 := by have := HSH.out c (by simp); rw [HLS.out] at this; omega
      have q2 : (2 : Int) < (n : Int) := by omega
      have p3 : W2.cell? ⟨g, 3, none⟩ = some (.string ⟨d.toArray⟩) := HO2.out 3 _ rfl
      have l3 : d.length ≤ 1000 := by have := HSH.out d (by simp); rw [HLS.out] at this; omega
      have q3 : (3 : Int) < (n : Int) := by omega
      have HX := hide (set5 ks2 (.int .i64 2) (.int .i64 (numV b)) (.int .i64 (numV c)) (.int .i64 0) (.int .i64 (numV d)))
      have HXR := hide (st5_far HK2.out hrs (.int .i64 2) (.int .i64 (numV b)) (.int .i64 (numV c)) (.int .i64 0) (.int .i64 (numV d)))
      have HXB := hide (st5_below HB2.out hsw (.int .i64 2) (.int .i64 (numV b)) (.int .i64 (numV c)) (.int .i64 0) (.int .i64 (numV d)))
      obtain ⟨⟨e0, f0⟩, ⟨e1, f1⟩, ⟨e2, f2⟩, ⟨e3, f3⟩, ⟨e4, f4⟩⟩ := spc_facts ks2 (.int .i64 2) (.int .i64 (numV b)) (.int .i64 (numV c)) (.int .i64 0)
      unfold st5 at HX HXR HXB
      have HD := hide d4
      clear ks2 d4 HO2 HK2 HB2 HT2 REL
      go_upto_region 15 with fail
      refine wp_region_still_tail 13 (by kernel_rfl) (by kernel_rfl) ?_
      simp only [List.take_succ_cons, List.take_zero, List.drop_succ_cons, List.drop_zero]
      repeat (first | still_step | still_call (number_w _ _ (by assumption)))
      try refine wpStill_nil ?_
      go_wp2_with fail
      go_meet
      case rel => exact ⟨rfl, HX.out, HXR.out, HXB.out.drew⟩
    have hc0 : candW ws = z5 := by
      have hl := HN.out
      match ws, hl with
      | [], hl => exact absurd hl (by simp; omega)
      | [_], hl => exact absurd hl (by simp; omega)
      | [_, _], hl => exact absurd hl (by simp; omega)
      | [_, _, _], hl => exact absurd hl (by simp; omega)
      | [_, _, _, _], hl => exact absurd hl (by simp; omega)
      | _ :: _ :: _ :: _ :: _ :: _, _ => rfl
    have z1 : ((n : Int) == 1) = false := by rw [beq_eq_false_iff_ne]; omega
    have z2 : ((n : Int) == 2) = false := by rw [beq_eq_false_iff_ne]; omega
    have z3 : ((n : Int) == 3) = false := by rw [beq_eq_false_iff_ne]; omega
    have z4 : ((n : Int) == 4) = false := by rw [beq_eq_false_iff_ne]; omega
    have HC := hide hc0
    have HK := hide ks2
    clear ks2 hc0 d1 d2 d3 d4 HO2 REL
    go_wp2_with fail
    go_meet
    case rel => exact ⟨rfl, by rw [HC.out]; exact HK.out, HK2.out, HB2.out⟩
  case rest =>
  obtain ⟨rfl, ks, kr3, hB3⟩ := hcut
  obtain ⟨V, hV⟩ : ∃ V : World, V = wc := ⟨_, rfl⟩
  subst hV
  obtain ⟨S, hS⟩ : ∃ S, candW ws = S := ⟨_, rfl⟩
  have HPG := hide (show parR s.data.toList = if s.data.toList ≠ [] ∧ fmtC S = s.data.toList then (S, 0) else (z5, 2) from by
    rw [HP.out]
    unfold parseG candR
    rw [HWS.out, hS]
    rfl)
  rw [hS] at ks
  have ht3 := ht.below hB3
  clear hS ks2 HO2 HSH HN HWS HP HB2 HK2 HT2
  obtain ⟨k, z, p, q, h⟩ := S
  have hsl := ks.lt
  have hrl := kr3.lt
  by_cases h0 : s.size = 0
  case pos =>
    have hnil : s.data.toList = [] := List.eq_nil_of_length_eq_zero (by rw [HLS.out]; exact h0)
    have HR := hide (show parR s.data.toList = (z5, 2) from by rw [HPG.out, if_neg (fun hh => hh.1 hnil)])
    have y1 : (s.toList == (⟨#[]⟩ : ByteArray).toList) = true := by rw [seq_eq, hnil]; rfl
    have y2 : s.toList.isEmpty = true := by rw [ByteArray.toList_eq, hnil]; rfl
    clear ks h0 hnil
    have HX := hide (set5 kr3 (.int .i64 0) (.int .i64 0) (.int .i64 0) (.int .i64 0) (.int .i64 0))
    have HB := hide (st5_below hB3 hrw (.int .i64 0) (.int .i64 0) (.int .i64 0) (.int .i64 0) (.int .i64 0))
    obtain ⟨⟨e0, f0⟩, ⟨e1, f1⟩, ⟨e2, f2⟩, ⟨e3, f3⟩, ⟨e4, f4⟩⟩ := spc_facts kr3 (.int .i64 0) (.int .i64 0) (.int .i64 0) (.int .i64 0)
    unfold st5 at HX HB
    clear kr3 hB3 ht3
    go_wp2
    (try simp only [Exit.inBlock, Exit.then])
    refine bodyPost_ret_by (results_spc rfl _ _ rb z5 rfl HX.out) rfl ?_
    exact ⟨by rw [HR.out]; rfl, HB.out⟩
  have hnn : s.data.toList ≠ [] := fun hh => h0 (by have := HLS.out; rw [hh] at this; exact this.symm)
  have y1 : (s.toList == (⟨#[]⟩ : ByteArray).toList) = false := by rw [seq_eq, decide_eq_false_iff_not]; exact hnn
  have y2 : s.toList.isEmpty = false := by rw [ByteArray.toList_eq]; cases hh : s.data.toList with | nil => exact absurd hh hnn | cons a l => rfl
  have c0 : V.cell? ⟨sb, 0, none⟩ = some (.int .i64 k) := by simpa [encS] using ks.cell 0
  have c1 : V.cell? ⟨sb, 1, none⟩ = some (.int .i64 z) := by simpa [encS] using ks.cell 1
  have c2 : V.cell? ⟨sb, 2, none⟩ = some (.int .i64 p) := by simpa [encS] using ks.cell 2
  have c3 : V.cell? ⟨sb, 3, none⟩ = some (.int .i64 q) := by simpa [encS] using ks.cell 3
  have c4 : V.cell? ⟨sb, 4, none⟩ = some (.int .i64 h) := by simpa [encS] using ks.cell 4
  have HNN := hide hnn
  have HC := hide (RFormat_any k z p q h V ht3)
  clear hnn h0
  go_wp2_with fail
  refine HC.out.mono ?_
  rintro e W5 ⟨rfl, hb⟩
  have hB5 : Below w.heap.size w W5 := hB3.trans (hb.mono hB3.size)
  have kr5 := kr3.below hb hrl
  have ks5 := ks.below hb hsl
  clear hB3 kr3 ks c0 c1 c2 c3 c4 hb HC ht3
  obtain ⟨F, hF⟩ : ∃ F : ByteArray, (⟨(fmtC ⟨k, z, p, q, h⟩).toArray⟩ : ByteArray) = F := ⟨_, rfl⟩
  have hFl : fmtC ⟨k, z, p, q, h⟩ = F.data.toList := by rw [← hF]
  rw [hF]
  by_cases hE : F.data.toList = s.data.toList
  case neg =>
    have HR := hide (show parR s.data.toList = (z5, 2) from by rw [HPG.out, if_neg (fun hh => hE (hFl.symm.trans hh.2))])
    have y3 : (F.toList == s.toList) = false := by rw [seq_eq, decide_eq_false_iff_not]; exact hE
    have y4 : (F.toList != s.toList) = true := by rw [bne, y3]; rfl
    clear ks5 hE hFl hF
    have HX := hide (set5 kr5 (.int .i64 0) (.int .i64 0) (.int .i64 0) (.int .i64 0) (.int .i64 0))
    have HB := hide (st5_below hB5 hrw (.int .i64 0) (.int .i64 0) (.int .i64 0) (.int .i64 0) (.int .i64 0))
    obtain ⟨⟨e0, f0⟩, ⟨e1, f1⟩, ⟨e2, f2⟩, ⟨e3, f3⟩, ⟨e4, f4⟩⟩ := spc_facts kr5 (.int .i64 0) (.int .i64 0) (.int .i64 0) (.int .i64 0)
    unfold st5 at HX HB
    clear kr5 hB5 
    go_wp2
    (try simp only [Exit.inBlock, Exit.then])
    refine bodyPost_ret_by (results_spc rfl _ _ rb z5 rfl HX.out) rfl ?_
    exact ⟨by rw [HR.out]; rfl, HB.out⟩
  have HR := hide (show parR s.data.toList = (⟨k, z, p, q, h⟩, 0) from by rw [HPG.out, if_pos ⟨HNN.out, hFl.trans hE⟩])
  have y3 : (F.toList == s.toList) = true := by rw [seq_eq, decide_eq_true_iff]; exact hE
  have y4 : (F.toList != s.toList) = false := by rw [bne, y3]; rfl
  have c0 : W5.cell? ⟨sb, 0, none⟩ = some (.int .i64 k) := by simpa [encS] using ks5.cell 0
  have c1 : W5.cell? ⟨sb, 1, none⟩ = some (.int .i64 z) := by simpa [encS] using ks5.cell 1
  have c2 : W5.cell? ⟨sb, 2, none⟩ = some (.int .i64 p) := by simpa [encS] using ks5.cell 2
  have c3 : W5.cell? ⟨sb, 3, none⟩ = some (.int .i64 q) := by simpa [encS] using ks5.cell 3
  have c4 : W5.cell? ⟨sb, 4, none⟩ = some (.int .i64 h) := by simpa [encS] using ks5.cell 4
  have HX := hide (set5 kr5 (.int .i64 k) (.int .i64 z) (.int .i64 p) (.int .i64 q) (.int .i64 h))
  have HB := hide (st5_below hB5 hrw (.int .i64 k) (.int .i64 z) (.int .i64 p) (.int .i64 q) (.int .i64 h))
  obtain ⟨⟨e0, f0⟩, ⟨e1, f1⟩, ⟨e2, f2⟩, ⟨e3, f3⟩, ⟨e4, f4⟩⟩ := spc_facts kr5 (.int .i64 k) (.int .i64 z) (.int .i64 p) (.int .i64 q)
  unfold st5 at HX HB
  clear ks5 hE hFl hF kr5 hB5
  go_wp2
  (try simp only [Exit.inBlock, Exit.then])
  refine bodyPost_ret_by (results_spc rfl _ _ rb ⟨k, z, p, q, h⟩ rfl HX.out) rfl ?_
  exact ⟨by rw [HR.out]; rfl, HB.out⟩
end Go.Proofs.YtehifbogadohgaaDoor
