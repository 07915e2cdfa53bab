/-
  The walk of the program's Parse. No condition but the library's tables and errors. (Printed by gen_tcn.)
-/
import Derived.Test.YtehifbogadohgaaDoorTcK
import Derived.Test.YtehifbogadohgaaDoorTcJ
import Derived.Test.YtehifbogadohgaaDoorLib2
import Derived.Deep.OwnRows
namespace Go.Proofs.YtehifbogadohgaaDoor
open Go.RowKit
set_option linter.unusedVariables false
set_option linter.unusedSimpArgs false

theorem var_below {w w' : World} {n : String} {cs : Array Value} (h : w.var? Tryd.prog n = some cs) (hb : Below w.heap.size w w') : w'.var? Tryd.prog n = some cs := by
  unfold World.var? at *
  cases hg : Tryd.prog.globalNamed n with
  | none => simp [hg] at h
  | some g =>
    simp only [hg, Option.bind_some] at h ⊢
    have hlt : g < w.heap.size := by
      rcases Nat.lt_or_ge g w.heap.size with h' | h'
      · exact h'
      · rw [Array.getElem?_eq_none h'] at h; simp at h
    rw [hb.block g hlt]
    exact h
theorem Errs.below {w w' : World} (h : Errs w) (hb : Below w.heap.size w w') : Errs w' := by
  obtain ⟨⟨t1, p1, h1⟩, t2, p2, h2⟩ := h
  exact ⟨⟨t1, p1, var_below h1 hb⟩, t2, p2, var_below h2 hb⟩
theorem MaxL.below {w w' : World} (h : MaxL w) (hb : Below w.heap.size w w') : MaxL w' := by
  obtain ⟨m, hm⟩ := h
  have hlt : laysM146_ren.g 1 < w.heap.size := by
    rcases Nat.lt_or_ge (laysM146_ren.g 1) w.heap.size with h' | h'
    · exact h'
    · simp [World.cell?, Array.getElem?_eq_none h'] at hm
  exact ⟨m, (hb.cell (p := ⟨laysM146_ren.g 1, 0, none⟩) hlt).trans hm⟩
theorem splitK_ne (sep : List UInt8) (a : Nat) : ∀ (k : Nat) (l : List UInt8), Lib.splitK sep a k l ≠ []
  | 0, l => by simp [Lib.splitK]
  | k + 1, l => by
    rw [Lib.splitK]
    split <;> simp
theorem splitK_le (sep : List UInt8) (a : Nat) : ∀ (k : Nat) (l : List UInt8), ∀ v ∈ Lib.splitK sep a k l, v.length ≤ l.length
  | 0, l => by
    intro v hv
    obtain rfl : v = l := by simpa [Lib.splitK] using hv
    exact Nat.le_refl _
  | k + 1, l => by
    intro v hv
    rw [Lib.splitK] at hv
    split at hv
    · obtain rfl : v = l := by simpa using hv
      exact Nat.le_refl _
    · rcases List.mem_cons.1 hv with rfl | hv
      · rw [List.length_take]; exact Nat.min_le_right _ _
      · have := splitK_le sep a k _ v hv
        rw [List.length_drop] at this
        omega
theorem split_le (l : List UInt8) : ∀ v ∈ Lib.split l [32], v.length ≤ l.length := by unfold Lib.split; exact splitK_le _ _ _ _
theorem split_ne (l : List UInt8) : Lib.split l [32] ≠ [] := by unfold Lib.split; exact splitK_ne _ _ _ _
/-- What the made row holds behind j - 1 rounds. -/
def rowP (L : List (List UInt8)) (j i : Nat) : Int := if 1 ≤ i ∧ i < j then atV (L.getD i []) else 0
theorem rowP_step (L : List (List UInt8)) (j : Nat) (hj : 1 ≤ j) (i : Nat) : (if i = j then Value.int .i64 (atV (L.getD j [])) else .int .i64 (rowP L j i)) = .int .i64 (rowP L (j + 1) i) := by
  unfold rowP
  by_cases e : i = j
  · subst e
    rw [if_pos rfl, if_pos ⟨hj, by omega⟩]
  · rw [if_neg e]
    by_cases h1 : 1 ≤ i ∧ i < j
    · rw [if_pos h1, if_pos ⟨h1.1, by omega⟩]
    · rw [if_neg h1, if_neg (by omega)]
theorem rowP_end (L : List (List UInt8)) (j i : Nat) (hj : j = min L.length 4) (hi : 1 ≤ i) : rowP L j i = nthP L i := by
  unfold rowP nthP
  by_cases h1 : i < min L.length 4
  · rw [if_pos ⟨hi, by omega⟩, if_pos h1]
  · rw [if_neg (by omega), if_neg h1]
set_option maxRecDepth 100000 in
set_option maxHeartbeats 8000000 in
theorem Parse_any (s : ByteArray) (w : World) (hs : s.size ≤ 1000000) (ht : Tab w) (he : Errs w) (hm : MaxL w) :
    Calls Tryd.prog 7 #[.string s] w (RetPs w (parP s.data.toList)) := by
  have HLS := hide (show s.data.toList.length = s.size by simp)
  have hB0 : Below w.heap.size w (w.alloc (.cells #[.int .i64 0, .int .i64 0, .int .i64 0, .int .i64 0, .int .i64 0] 23)) := (Below.refl _ _).alloc (Nat.le_refl _) _
  have kr := Blk.new w 23 #[.int .i64 0, .int .i64 0, .int .i64 0, .int .i64 0, .int .i64 0]
  have hm0 := hm.below hB0
  have hmk : ∀ W : World, (Instr.makeSlice 38 (.int .i64 4) (.int .i64 4)).run Tryd.prog W = .ok (.slice (some ⟨W.heap.size, 0, none⟩) 4 4) (W.alloc (.cells (madeCells #[.int .i64 0] 4) 3)) := fun W => run_make_row' (P := Tryd.prog) 38 3 (.int .i64 0) 8 Tryd.underlying38 (by kernel_rfl) rfl .i64 .i64 4 (by omega) (by omega) W
  go_enter Tryd.func7, Tryd.ntmps7
  go_upto_region 1 with fail
  obtain ⟨W0, hW0⟩ : ∃ W0, w.alloc (.cells #[.int .i64 0, .int .i64 0, .int .i64 0, .int .i64 0, .int .i64 0] 23) = W0 := ⟨_, rfl⟩
  obtain ⟨rb, hrb⟩ : ∃ rb, w.heap.size = rb := ⟨_, rfl⟩
  rw [hW0] at hB0 kr hm0 ⊢
  rw [hrb] at kr ⊢
  have hrw : w.heap.size ≤ rb := by omega
  clear hW0 hrb
  by_cases h1 : 65536 < s.size
  case pos =>
    have HR := hide (show parP s.data.toList = (z5, 3) from by unfold parP; rw [HLS.out, if_pos h1])
    have z : (65536 : Int) < (s.size : Int) := by omega
    have HX := hide (set5 kr (.int .i64 0) (.int .i64 0) (.int .i64 0) (.int .i64 0) (.int .i64 0))
    have HB := hide (st5_below hB0 hrw (.int .i64 0) (.int .i64 0) (.int .i64 0) (.int .i64 0) (.int .i64 0))
    obtain ⟨⟨e0, f0⟩, ⟨e1, f1⟩, ⟨e2, f2⟩, ⟨e3, f3⟩, ⟨e4, f4⟩⟩ := spc_facts kr (.int .i64 0) (.int .i64 0) (.int .i64 0) (.int .i64 0)
    unfold st5 at HX HB
    clear kr hB0 hm0 hmk
    go_wp2
    (try simp only [Exit.inBlock, Exit.then])
    refine bodyPost_ret_by (results_spc rfl _ _ rb z5 rfl HX.out) rfl ?_
    exact ⟨by rw [HR.out]; rfl, HB.out⟩
  have HP := hide (show parP s.data.toList = parseG candP s.data.toList from by unfold parP; rw [HLS.out, if_neg h1])
  have h64 : s.size ≤ 65536 := by omega
  clear h1
  have HMK := hide hmk
  clear hmk
  go_wp2_with fail
  refine (split_any s _ (by omega) hm0).mono ?_
  rintro e W1 ⟨wb, rfl, hwb, hW1⟩
  have hb : Below W0.heap.size W0 W1 := by rw [hW1]; exact (Below.refl _ _).alloc (Nat.le_refl _) _
  have hB1 : Below w.heap.size w W1 := hB0.trans (hb.mono hB0.size)
  have kr1 := kr.below hb kr.lt
  obtain ⟨gb, hgb⟩ : ∃ gb, W0.heap.size = gb := ⟨_, rfl⟩
  have kw1 : Blk W1 gb 9 (wb.map Value.string).toArray := by rw [hW1, ← hgb]; exact Blk.new W0 _ _
  have hgr : gb ≠ rb := by have := kr.lt; omega
  rw [hgb]
  clear hgb hW1 hm0 hB0 kr hb
  obtain ⟨L, hL⟩ : ∃ L, Lib.split s.data.toList [32] = L := ⟨_, rfl⟩
  rw [hL] at hwb
  have hne : L ≠ [] := by rw [← hL]; exact split_ne _
  have HLL := hide hL
  obtain ⟨m, hmm⟩ : ∃ m, wb.length = m := ⟨_, rfl⟩
  have HWB := hide hwb
  have HMM := hide hmm
  have HLM := hide (show L.length = m from by rw [← hwb, List.length_map]; exact hmm)
  have hm1 : 1 ≤ m := by
    have h2 : L.length = m := HLM.out
    have : 0 < L.length := List.length_pos_iff.2 hne
    omega
  rw [hmm]
  clear hL hwb hne hmm
  have hwsz : W1.heap.size ≤ 1000000000000000000 ∨ True := .inr trivial
  have hb2 : Below W1.heap.size W1 (W1.alloc (.cells (madeCells #[.int .i64 0] 4) 3)) := (Below.refl _ _).alloc (Nat.le_refl _) _
  have rn2 := World.rowIs_made W1 (.int .i64 0) 4 3
  have hB2 : Below w.heap.size w _ := hB1.trans (hb2.mono hB1.size)
  have kr2 := kr1.below hb2 kr1.lt
  have kw2 := kw1.below hb2 kw1.lt
  have hmk := HMK.out
  have hnr : W1.heap.size ≠ rb := by have := kr1.lt; omega
  have hnw : W1.heap.size ≠ gb := by have := kw1.lt; omega
  have hnB := hB1.size
  go_upto_region 5 with fail
  obtain ⟨W2, hW2⟩ : ∃ W2, W1.alloc (.cells (madeCells #[.int .i64 0] 4) 3) = W2 := ⟨_, rfl⟩
  obtain ⟨nb, hnb⟩ : ∃ nb, W1.heap.size = nb := ⟨_, rfl⟩
  rw [hW2] at hB2 rn2 kr2 kw2 ⊢
  rw [hnb] at rn2 hnr hnw hnB ⊢
  clear hmk HMK hW2 hnb hb2 hB1 kr1 kw1 hwsz
  have HRN2 := hide (show W2.rowIs nb 3 4 (fun i => .int .i64 (rowP L 1 i)) from rn2.congr fun i _ => by unfold rowP; rw [if_neg (by omega)])
  have HB2 := hide hB2
  have HKR2 := hide kr2
  have HKW2 := hide kw2
  clear rn2 hB2 kr2 kw2
  go_wp2_with fail
  have hrn2 := HRN2.out
  have hB2 := HB2.out
  have hkr2 := HKR2.out
  have hkw2 := HKW2.out
  go_loopw [6] (fun i wr => ∃ j : Nat, 1 ≤ j ∧ j ≤ min m 4 ∧ i = .int .i64 (j : Int) ∧ wr.rowIs nb 3 4 (fun i => .int .i64 (rowP L j i)) ∧ Blk wr rb 23 #[.int .i64 0, .int .i64 0, .int .i64 0, .int .i64 0, .int .i64 0] ∧ Blk wr gb 9 (wb.map Value.string).toArray ∧ Below w.heap.size w wr) (fun i _ => 4 - (intOf i).toNat)
  case atStart => exact ⟨1, Nat.le_refl _, by omega, rfl, hrn2, hkr2, hkw2, hB2⟩
  case round =>
    clear hrn2 hB2 hkr2 hkw2 HRN2 HB2 HKR2 HKW2
    obtain ⟨j, hj1, hj4, rfl, hrn, kr, kw, hB⟩ := hrel
    by_cases hlt : j < min m 4
    case pos =>
      obtain ⟨x, hx⟩ : ∃ x, wb[j]? = some x := ⟨_, List.getElem?_eq_getElem (by have := HMM.out; omega)⟩
      have HXL := hide (show L.getD j [] = x.data.toList from by rw [← HWB.out, List.getD_eq_getElem?_getD, List.getElem?_map, hx]; rfl)
      have hxs : x.size ≤ 1000000 := by
        have h1 := split_le s.data.toList x.data.toList (by rw [HLL.out, ← HWB.out]; exact List.mem_map_of_mem (List.mem_of_getElem? hx))
        have h2 : x.data.toList.length = x.size := by simp
        have := HLS.out
        omega
      have e0 : wr.cell? ⟨gb, j, none⟩ = some (.string x) := by rw [kw.cell j]; simp [hx]
      have q1 : (0 : Int) ≤ (j : Int) := by omega
      have q2 : (j : Int) < (m : Int) := by omega
      have q3 : (j : Int) < 4 := by omega
      have q4 : (j : Int) < min (m : Int) 4 := by omega
      have HC := hide (atoi_any x wr hxs (he.below hB))
      have HRN := hide hrn
      have HKR := hide kr
      have HKW := hide kw
      have HB := hide hB
      have hnl := hrn.lt
      have hrl := kr.lt
      have hgl := kw.lt
      clear hx hrn kr kw hB hlt
      go_wp2_with fail
      refine HC.out.mono ?_
      rintro e W5 ⟨v, rfl, hb⟩
      have hrn5 := HRN.out.of_block (hb.block nb hnl)
      have kr5 := HKR.out.below hb hrl
      have kw5 := HKW.out.below hb hgl
      have hB5 : Below w.heap.size w W5 := HB.out.trans (hb.mono HB.out.size)
      have e5 := hrn5.cell (i := j) (by omega)
      have f5 := hrn5.frozen j
      have HR5 := hide ((hrn5.set j (.int .i64 (atV x.data.toList))).congr (g := fun i => .int .i64 (rowP L (j + 1) i)) fun i _ => by rw [← HXL.out]; exact rowP_step L j hj1 i)
      have HK5 := hide (kr5.far (p := ⟨nb, j, none⟩) (fun e => hnr e.symm) (.int .i64 (atV x.data.toList)))
      have HW5 := hide (kw5.far (p := ⟨nb, j, none⟩) (fun e => hnw e.symm) (.int .i64 (atV x.data.toList)))
      have HB5 := hide (hB5.setCell (p := ⟨nb, j, none⟩) hnB (.int .i64 (atV x.data.toList)))
      clear HRN HKR HKW HB HC hrn5 kr5 kw5 hB5 hb e0
      go_wp2_with fail
      go_roundw
      case rel => exact ⟨j + 1, by omega, by omega, by go_num, HR5.out, HK5.out, HW5.out, HB5.out⟩
      case measure => simp [intOf]; omega
    case neg =>
    have HJ := hide (show j = min L.length 4 from by have := HLM.out; omega)
    obtain ⟨x, hx⟩ : ∃ x, wb[0]? = some x := ⟨_, List.getElem?_eq_getElem (by have := HMM.out; omega)⟩
    have hxh : L.headD [] = x.data.toList := by
      have h2 : L[0]? = some x.data.toList := by rw [← HWB.out, List.getElem?_map, hx]; rfl
      cases L with
      | nil => cases h2
      | cons a l => simpa using h2
    have e0 : wr.cell? ⟨gb, 0, none⟩ = some (.string x) := by rw [kw.cell 0]; simp [hx]
    have q1 : (0 : Int) ≤ (j : Int) := by omega
    have q2 : (0 : Int) < (m : Int) := by omega
    have q4 : ¬ (j : Int) < min (m : Int) 4 := by omega
    have hj4' : j ≤ 4 := by omega
    clear hx kw hj4 hlt
    have hb3 : Below wr.heap.size wr (wr.alloc (.cells #[.int .i64 4, .int .i64 0, .int .i64 0, .int .i64 0, .int .i64 0] 23)) := (Below.refl _ _).alloc (Nat.le_refl _) _
    have ks3 := Blk.new wr 23 #[.int .i64 4, .int .i64 0, .int .i64 0, .int .i64 0, .int .i64 0]
    have hB3 : Below w.heap.size w _ := hB.trans (hb3.mono hB.size)
    have kr3 := kr.below hb3 kr.lt
    have hrn3 := hrn.of_block (hb3.block nb hrn.lt)
    have hsr : rb ≠ wr.heap.size := by have := kr.lt; omega
    have hsw : w.heap.size ≤ wr.heap.size := hB.size
    have hsg : (⟨gb, 0, none⟩ : Addr).block < wr.heap.size := by
      rcases Nat.lt_or_ge gb wr.heap.size with h' | h'
      · exact h'
      · simp [World.cell?, Array.getElem?_eq_none h'] at e0
    have e3 := (hb3.cell (p := ⟨gb, 0, none⟩) hsg).trans e0
    go_upto_region 10 with fail
    obtain ⟨W3, hW3⟩ : ∃ W3, wr.alloc (.cells #[.int .i64 4, .int .i64 0, .int .i64 0, .int .i64 0, .int .i64 0] 23) = W3 := ⟨_, rfl⟩
    obtain ⟨sb, hsb⟩ : ∃ sb, wr.heap.size = sb := ⟨_, rfl⟩
    rw [hW3] at hB3 ks3 kr3 hrn3 e3 ⊢
    rw [hsb] at ks3 hsr hsw ⊢
    have HB3 := hide hB3
    have HK3 := hide kr3
    clear e0 hW3 hsb hB kr hrn hb3 hB3 kr3 hsg
    have n1 := hrn3.cell (i := 1) (by omega)
    have n2 := hrn3.cell (i := 2) (by omega)
    have n3 := hrn3.cell (i := 3) (by omega)
    simp only [rowP_end L j 1 HJ.out (by omega)] at n1
    simp only [rowP_end L j 2 HJ.out (by omega)] at n2
    simp only [rowP_end L j 3 HJ.out (by omega)] at n3
    clear hrn3
    first
    | (iterate 3 (first | go_values | go_skip | go_guarded | go_step | go_upon | go_back)); go_cut [3] from 34 to 64 (fun s3 wx => s3 = .int .i64 0 ∧ Blk wx sb 23 (encS (candV L)) ∧ Blk wx rb 23 #[.int .i64 0, .int .i64 0, .int .i64 0, .int .i64 0, .int .i64 0] ∧ Below w.heap.size w wx)
    | (iterate 4 (first | go_values | go_skip | go_guarded | go_step | go_upon | go_back)); go_cut [3] from 34 to 64 (fun s3 wx => s3 = .int .i64 0 ∧ Blk wx sb 23 (encS (candV L)) ∧ Blk wx rb 23 #[.int .i64 0, .int .i64 0, .int .i64 0, .int .i64 0, .int .i64 0] ∧ Below w.heap.size w wx)
    | (iterate 5 (first | go_values | go_skip | go_guarded | go_step | go_upon | go_back)); go_cut [3] from 34 to 64 (fun s3 wx => s3 = .int .i64 0 ∧ Blk wx sb 23 (encS (candV L)) ∧ Blk wx rb 23 #[.int .i64 0, .int .i64 0, .int .i64 0, .int .i64 0, .int .i64 0] ∧ Below w.heap.size w wx)
    | (iterate 6 (first | go_values | go_skip | go_guarded | go_step | go_upon | go_back)); go_cut [3] from 34 to 64 (fun s3 wx => s3 = .int .i64 0 ∧ Blk wx sb 23 (encS (candV L)) ∧ Blk wx rb 23 #[.int .i64 0, .int .i64 0, .int .i64 0, .int .i64 0, .int .i64 0] ∧ Below w.heap.size w wx)
    | (iterate 7 (first | go_values | go_skip | go_guarded | go_step | go_upon | go_back)); go_cut [3] from 34 to 64 (fun s3 wx => s3 = .int .i64 0 ∧ Blk wx sb 23 (encS (candV L)) ∧ Blk wx rb 23 #[.int .i64 0, .int .i64 0, .int .i64 0, .int .i64 0, .int .i64 0] ∧ Below w.heap.size w wx)
    | (iterate 8 (first | go_values | go_skip | go_guarded | go_step | go_upon | go_back)); go_cut [3] from 34 to 64 (fun s3 wx => s3 = .int .i64 0 ∧ Blk wx sb 23 (encS (candV L)) ∧ Blk wx rb 23 #[.int .i64 0, .int .i64 0, .int .i64 0, .int .i64 0, .int .i64 0] ∧ Below w.heap.size w wx)
    | (iterate 9 (first | go_values | go_skip | go_guarded | go_step | go_upon | go_back)); go_cut [3] from 34 to 64 (fun s3 wx => s3 = .int .i64 0 ∧ Blk wx sb 23 (encS (candV L)) ∧ Blk wx rb 23 #[.int .i64 0, .int .i64 0, .int .i64 0, .int .i64 0, .int .i64 0] ∧ Below w.heap.size w wx)
    | (iterate 10 (first | go_values | go_skip | go_guarded | go_step | go_upon | go_back)); go_cut [3] from 34 to 64 (fun s3 wx => s3 = .int .i64 0 ∧ Blk wx sb 23 (encS (candV L)) ∧ Blk wx rb 23 #[.int .i64 0, .int .i64 0, .int .i64 0, .int .i64 0, .int .i64 0] ∧ Below w.heap.size w wx)
    | (iterate 11 (first | go_values | go_skip | go_guarded | go_step | go_upon | go_back)); go_cut [3] from 34 to 64 (fun s3 wx => s3 = .int .i64 0 ∧ Blk wx sb 23 (encS (candV L)) ∧ Blk wx rb 23 #[.int .i64 0, .int .i64 0, .int .i64 0, .int .i64 0, .int .i64 0] ∧ Below w.heap.size w wx)
    | (iterate 12 (first | go_values | go_skip | go_guarded | go_step | go_upon | go_back)); go_cut [3] from 34 to 64 (fun s3 wx => s3 = .int .i64 0 ∧ Blk wx sb 23 (encS (candV L)) ∧ Blk wx rb 23 #[.int .i64 0, .int .i64 0, .int .i64 0, .int .i64 0, .int .i64 0] ∧ Below w.heap.size w wx)
    | (iterate 13 (first | go_values | go_skip | go_guarded | go_step | go_upon | go_back)); go_cut [3] from 34 to 64 (fun s3 wx => s3 = .int .i64 0 ∧ Blk wx sb 23 (encS (candV L)) ∧ Blk wx rb 23 #[.int .i64 0, .int .i64 0, .int .i64 0, .int .i64 0, .int .i64 0] ∧ Below w.heap.size w wx)
    | (iterate 14 (first | go_values | go_skip | go_guarded | go_step | go_upon | go_back)); go_cut [3] from 34 to 64 (fun s3 wx => s3 = .int .i64 0 ∧ Blk wx sb 23 (encS (candV L)) ∧ Blk wx rb 23 #[.int .i64 0, .int .i64 0, .int .i64 0, .int .i64 0, .int .i64 0] ∧ Below w.heap.size w wx)
    | (iterate 15 (first | go_values | go_skip | go_guarded | go_step | go_upon | go_back)); go_cut [3] from 34 to 64 (fun s3 wx => s3 = .int .i64 0 ∧ Blk wx sb 23 (encS (candV L)) ∧ Blk wx rb 23 #[.int .i64 0, .int .i64 0, .int .i64 0, .int .i64 0, .int .i64 0] ∧ Below w.heap.size w wx)
    | (iterate 16 (first | go_values | go_skip | go_guarded | go_step | go_upon | go_back)); go_cut [3] from 34 to 64 (fun s3 wx => s3 = .int .i64 0 ∧ Blk wx sb 23 (encS (candV L)) ∧ Blk wx rb 23 #[.int .i64 0, .int .i64 0, .int .i64 0, .int .i64 0, .int .i64 0] ∧ Below w.heap.size w wx)
    | (iterate 17 (first | go_values | go_skip | go_guarded | go_step | go_upon | go_back)); go_cut [3] from 34 to 64 (fun s3 wx => s3 = .int .i64 0 ∧ Blk wx sb 23 (encS (candV L)) ∧ Blk wx rb 23 #[.int .i64 0, .int .i64 0, .int .i64 0, .int .i64 0, .int .i64 0] ∧ Below w.heap.size w wx)
    | (iterate 18 (first | go_values | go_skip | go_guarded | go_step | go_upon | go_back)); go_cut [3] from 34 to 64 (fun s3 wx => s3 = .int .i64 0 ∧ Blk wx sb 23 (encS (candV L)) ∧ Blk wx rb 23 #[.int .i64 0, .int .i64 0, .int .i64 0, .int .i64 0, .int .i64 0] ∧ Below w.heap.size w wx)
    | (iterate 19 (first | go_values | go_skip | go_guarded | go_step | go_upon | go_back)); go_cut [3] from 34 to 64 (fun s3 wx => s3 = .int .i64 0 ∧ Blk wx sb 23 (encS (candV L)) ∧ Blk wx rb 23 #[.int .i64 0, .int .i64 0, .int .i64 0, .int .i64 0, .int .i64 0] ∧ Below w.heap.size w wx)
    | (iterate 20 (first | go_values | go_skip | go_guarded | go_step | go_upon | go_back)); go_cut [3] from 34 to 64 (fun s3 wx => s3 = .int .i64 0 ∧ Blk wx sb 23 (encS (candV L)) ∧ Blk wx rb 23 #[.int .i64 0, .int .i64 0, .int .i64 0, .int .i64 0, .int .i64 0] ∧ Below w.heap.size w wx)
    | (iterate 21 (first | go_values | go_skip | go_guarded | go_step | go_upon | go_back)); go_cut [3] from 34 to 64 (fun s3 wx => s3 = .int .i64 0 ∧ Blk wx sb 23 (encS (candV L)) ∧ Blk wx rb 23 #[.int .i64 0, .int .i64 0, .int .i64 0, .int .i64 0, .int .i64 0] ∧ Below w.heap.size w wx)
    | (iterate 22 (first | go_values | go_skip | go_guarded | go_step | go_upon | go_back)); go_cut [3] from 34 to 64 (fun s3 wx => s3 = .int .i64 0 ∧ Blk wx sb 23 (encS (candV L)) ∧ Blk wx rb 23 #[.int .i64 0, .int .i64 0, .int .i64 0, .int .i64 0, .int .i64 0] ∧ Below w.heap.size w wx)
    | (iterate 23 (first | go_values | go_skip | go_guarded | go_step | go_upon | go_back)); go_cut [3] from 34 to 64 (fun s3 wx => s3 = .int .i64 0 ∧ Blk wx sb 23 (encS (candV L)) ∧ Blk wx rb 23 #[.int .i64 0, .int .i64 0, .int .i64 0, .int .i64 0, .int .i64 0] ∧ Below w.heap.size w wx)
    | (iterate 24 (first | go_values | go_skip | go_guarded | go_step | go_upon | go_back)); go_cut [3] from 34 to 64 (fun s3 wx => s3 = .int .i64 0 ∧ Blk wx sb 23 (encS (candV L)) ∧ Blk wx rb 23 #[.int .i64 0, .int .i64 0, .int .i64 0, .int .i64 0, .int .i64 0] ∧ Below w.heap.size w wx)
    | (iterate 25 (first | go_values | go_skip | go_guarded | go_step | go_upon | go_back)); go_cut [3] from 34 to 64 (fun s3 wx => s3 = .int .i64 0 ∧ Blk wx sb 23 (encS (candV L)) ∧ Blk wx rb 23 #[.int .i64 0, .int .i64 0, .int .i64 0, .int .i64 0, .int .i64 0] ∧ Below w.heap.size w wx)
    | (iterate 26 (first | go_values | go_skip | go_guarded | go_step | go_upon | go_back)); go_cut [3] from 34 to 64 (fun s3 wx => s3 = .int .i64 0 ∧ Blk wx sb 23 (encS (candV L)) ∧ Blk wx rb 23 #[.int .i64 0, .int .i64 0, .int .i64 0, .int .i64 0, .int .i64 0] ∧ Below w.heap.size w wx)
    | (iterate 27 (first | go_values | go_skip | go_guarded | go_step | go_upon | go_back)); go_cut [3] from 34 to 64 (fun s3 wx => s3 = .int .i64 0 ∧ Blk wx sb 23 (encS (candV L)) ∧ Blk wx rb 23 #[.int .i64 0, .int .i64 0, .int .i64 0, .int .i64 0, .int .i64 0] ∧ Below w.heap.size w wx)
    | (iterate 28 (first | go_values | go_skip | go_guarded | go_step | go_upon | go_back)); go_cut [3] from 34 to 64 (fun s3 wx => s3 = .int .i64 0 ∧ Blk wx sb 23 (encS (candV L)) ∧ Blk wx rb 23 #[.int .i64 0, .int .i64 0, .int .i64 0, .int .i64 0, .int .i64 0] ∧ Below w.heap.size w wx)
    | (iterate 29 (first | go_values | go_skip | go_guarded | go_step | go_upon | go_back)); go_cut [3] from 34 to 64 (fun s3 wx => s3 = .int .i64 0 ∧ Blk wx sb 23 (encS (candV L)) ∧ Blk wx rb 23 #[.int .i64 0, .int .i64 0, .int .i64 0, .int .i64 0, .int .i64 0] ∧ Below w.heap.size w wx)
    case first =>
      have seq : ∀ l : List UInt8, (x.toList == l) = decide (L.headD [] = l) := fun l => by rw [ByteArray.toList_eq, hxh, Bool.eq_iff_iff]; simp
      have y1 : (x.toList == [116, 117, 109, 98, 108, 105, 110, 103]) = decide (L.headD [] = tumW) := seq _
      have y2 : (x.toList == [115, 108, 105, 100, 105, 110, 103]) = decide (L.headD [] = sliW) := seq _
      have y3 : (x.toList == [115, 101, 115, 115, 105, 111, 110]) = decide (L.headD [] = sesW) := seq _
      have HC := hide (show candV L = if L.headD [] = tumW then ⟨1, nthP L 1, 0, 0, nthP L 2⟩ else if L.headD [] = sliW then ⟨2, nthP L 1, nthP L 2, 0, nthP L 3⟩ else if L.headD [] = sesW then ⟨3, 0, 0, nthP L 1, 0⟩ else ⟨4, 0, 0, 0, 0⟩ from rfl)
      obtain ⟨N1, hN1⟩ : ∃ N1, nthP L 1 = N1 := ⟨_, rfl⟩
      obtain ⟨N2, hN2⟩ : ∃ N2, nthP L 2 = N2 := ⟨_, rfl⟩
      obtain ⟨N3, hN3⟩ : ∃ N3, nthP L 3 = N3 := ⟨_, rfl⟩
      rw [hN1, hN2, hN3] at HC
      rw [hN1] at n1
      rw [hN2] at n2
      rw [hN3] at n3
      clear hN1 hN2 hN3 seq hxh
      by_cases d1 : L.headD [] = tumW
      case pos =>
        have HS := hide (show candV L = ⟨1, N1, 0, 0, N2⟩ from by rw [HC.out];  rw [if_pos d1])
        rw [decide_eq_true d1] at y1
        have HX := hide (set5 ks3 (.int .i64 1) (.int .i64 N1) (.int .i64 0) (.int .i64 0) (.int .i64 N2))
        have HXR := hide (st5_far HK3.out hsr (.int .i64 1) (.int .i64 N1) (.int .i64 0) (.int .i64 0) (.int .i64 N2))
        have HXB := hide (st5_below HB3.out hsw (.int .i64 1) (.int .i64 N1) (.int .i64 0) (.int .i64 0) (.int .i64 N2))
        obtain ⟨⟨e0, f0⟩, ⟨e1, f1⟩, ⟨e2, f2⟩, ⟨e3', f3⟩, ⟨e4, f4⟩⟩ := spc_facts ks3 (.int .i64 1) (.int .i64 N1) (.int .i64 0) (.int .i64 0)
        unfold st5 at HX HXR HXB
        clear ks3 HC d1 n3
        go_upto_region 12 with fail
        go_still_tail 7, (by kernel_rfl)
        go_wp2_with fail
        go_meet
        case rel => exact ⟨rfl, by rw [HS.out]; exact HX.out, HXR.out, HXB.out.drew⟩
      by_cases d2 : L.headD [] = sliW
      case pos =>
        have HS := hide (show candV L = ⟨2, N1, N2, 0, N3⟩ from by rw [HC.out]; rw [if_neg d1]; rw [if_pos d2])
        rw [decide_eq_false d1] at y1
        rw [decide_eq_true d2] at y2
        have HX := hide (set5 ks3 (.int .i64 2) (.int .i64 N1) (.int .i64 N2) (.int .i64 0) (.int .i64 N3))
        have HXR := hide (st5_far HK3.out hsr (.int .i64 2) (.int .i64 N1) (.int .i64 N2) (.int .i64 0) (.int .i64 N3))
        have HXB := hide (st5_below HB3.out hsw (.int .i64 2) (.int .i64 N1) (.int .i64 N2) (.int .i64 0) (.int .i64 N3))
        obtain ⟨⟨e0, f0⟩, ⟨e1, f1⟩, ⟨e2, f2⟩, ⟨e3', f3⟩, ⟨e4, f4⟩⟩ := spc_facts ks3 (.int .i64 2) (.int .i64 N1) (.int .i64 N2) (.int .i64 0)
        unfold st5 at HX HXR HXB
        clear ks3 HC d1 d2 
        go_upto_region 14 with fail
        go_still_tail 10, (by kernel_rfl)
        go_wp2_with fail
        go_meet
        case rel => exact ⟨rfl, by rw [HS.out]; exact HX.out, HXR.out, HXB.out.drew⟩
      by_cases d3 : L.headD [] = sesW
      case pos =>
        have HS := hide (show candV L = ⟨3, 0, 0, N1, 0⟩ from by rw [HC.out]; rw [if_neg d1]; rw [if_neg d2]; rw [if_pos d3])
        rw [decide_eq_false d1] at y1
        rw [decide_eq_false d2] at y2
        rw [decide_eq_true d3] at y3
        have HX := hide (set5 ks3 (.int .i64 3) (.int .i64 0) (.int .i64 0) (.int .i64 N1) (.int .i64 0))
        have HXR := hide (st5_far HK3.out hsr (.int .i64 3) (.int .i64 0) (.int .i64 0) (.int .i64 N1) (.int .i64 0))
        have HXB := hide (st5_below HB3.out hsw (.int .i64 3) (.int .i64 0) (.int .i64 0) (.int .i64 N1) (.int .i64 0))
        obtain ⟨⟨e0, f0⟩, ⟨e1, f1⟩, ⟨e2, f2⟩, ⟨e3', f3⟩, ⟨e4, f4⟩⟩ := spc_facts ks3 (.int .i64 3) (.int .i64 0) (.int .i64 0) (.int .i64 N1)
        unfold st5 at HX HXR HXB
        clear ks3 HC d1 d2 d3 n2 n3
        go_wp2_with fail
        go_meet
        case rel => exact ⟨rfl, by rw [HS.out]; exact HX.out, HXR.out, HXB.out⟩
      have HS := hide (show candV L = ⟨4, 0, 0, 0, 0⟩ from by rw [HC.out, if_neg d1, if_neg d2, if_neg d3])
      rw [decide_eq_false d1] at y1
      rw [decide_eq_false d2] at y2
      rw [decide_eq_false d3] at y3
      have HX := hide ks3
      clear ks3 HC d1 d2 d3 n1 n2 n3
      go_wp2_with fail
      go_meet
      case rel => exact ⟨rfl, by rw [HS.out]; exact HX.out, HK3.out, HB3.out⟩
    case rest =>
    obtain ⟨rfl, ks, kr3, hB3⟩ := hcut
    obtain ⟨V, hV⟩ : ∃ V : World, V = wc := ⟨_, rfl⟩
    subst hV
    obtain ⟨S, hS⟩ : ∃ S, candV L = S := ⟨_, rfl⟩
    have HPG := hide (show parP s.data.toList = if s.data.toList ≠ [] ∧ fmtC S = s.data.toList then (S, 0) else (z5, 2) from by
      rw [HP.out]
      unfold parseG candP
      rw [HLL.out, hS]
      rfl)
    rw [hS] at ks
    have ht3 := ht.below hB3
    clear hS ks3 e3 n1 n2 n3 HP HB3 HK3
    obtain ⟨k, z, p, q, h⟩ := S
    have hsl := ks.lt
    have hrl := kr3.lt
    by_cases h0 : s.size = 0
    case pos =>
      have hnil : s.data.toList = [] := List.eq_nil_of_length_eq_zero (by rw [HLS.out]; exact h0)
      have HR := hide (show parP s.data.toList = (z5, 2) from by rw [HPG.out, if_neg (fun hh => hh.1 hnil)])
      have y1 : (s.toList == (⟨#[]⟩ : ByteArray).toList) = true := by rw [seq_eq, hnil]; rfl
      have y2 : s.toList.isEmpty = true := by rw [ByteArray.toList_eq, hnil]; rfl
      clear ks h0 hnil hxh
      have HX := hide (set5 kr3 (.int .i64 0) (.int .i64 0) (.int .i64 0) (.int .i64 0) (.int .i64 0))
      have HB := hide (st5_below hB3 hrw (.int .i64 0) (.int .i64 0) (.int .i64 0) (.int .i64 0) (.int .i64 0))
      obtain ⟨⟨e0, f0⟩, ⟨e1, f1⟩, ⟨e2, f2⟩, ⟨e3, f3⟩, ⟨e4, f4⟩⟩ := spc_facts kr3 (.int .i64 0) (.int .i64 0) (.int .i64 0) (.int .i64 0)
      unfold st5 at HX HB
      clear kr3 hB3 ht3
      go_wp2
      (try simp only [Exit.inBlock, Exit.then])
      refine bodyPost_ret_by (results_spc rfl _ _ rb z5 rfl HX.out) rfl ?_
      exact ⟨by rw [HR.out]; rfl, HB.out⟩
    have hnn : s.data.toList ≠ [] := fun hh => h0 (by have := HLS.out; rw [hh] at this; exact this.symm)
    have y1 : (s.toList == (⟨#[]⟩ : ByteArray).toList) = false := by rw [seq_eq, decide_eq_false_iff_not]; exact hnn
    have y2 : s.toList.isEmpty = false := by rw [ByteArray.toList_eq]; cases hh : s.data.toList with | nil => exact absurd hh hnn | cons a l => rfl
    have c0 : V.cell? ⟨sb, 0, none⟩ = some (.int .i64 k) := by simpa [encS] using ks.cell 0
    have c1 : V.cell? ⟨sb, 1, none⟩ = some (.int .i64 z) := by simpa [encS] using ks.cell 1
    have c2 : V.cell? ⟨sb, 2, none⟩ = some (.int .i64 p) := by simpa [encS] using ks.cell 2
    have c3 : V.cell? ⟨sb, 3, none⟩ = some (.int .i64 q) := by simpa [encS] using ks.cell 3
    have c4 : V.cell? ⟨sb, 4, none⟩ = some (.int .i64 h) := by simpa [encS] using ks.cell 4
    have HNN := hide hnn
    have HC := hide (Format_any k z p q h V ht3)
    clear hnn h0
    go_wp2_with fail
    refine HC.out.mono ?_
    rintro e W5 ⟨rfl, hb⟩
    have hB5 : Below w.heap.size w W5 := hB3.trans (hb.mono hB3.size)
    have kr5 := kr3.below hb hrl
    have ks5 := ks.below hb hsl
    clear hB3 kr3 ks c0 c1 c2 c3 c4 hb HC ht3
    obtain ⟨F, hF⟩ : ∃ F : ByteArray, (⟨(fmtC ⟨k, z, p, q, h⟩).toArray⟩ : ByteArray) = F := ⟨_, rfl⟩
    have hFl : fmtC ⟨k, z, p, q, h⟩ = F.data.toList := by rw [← hF]
    rw [hF]
    by_cases hE : F.data.toList = s.data.toList
    case neg =>
      have HR := hide (show parP s.data.toList = (z5, 2) from by rw [HPG.out, if_neg (fun hh => hE (hFl.symm.trans hh.2))])
      have y3 : (F.toList == s.toList) = false := by rw [seq_eq, decide_eq_false_iff_not]; exact hE
      have y4 : (F.toList != s.toList) = true := by rw [bne, y3]; rfl
      clear ks5 hE hFl hF
      have HX := hide (set5 kr5 (.int .i64 0) (.int .i64 0) (.int .i64 0) (.int .i64 0) (.int .i64 0))
      have HB := hide (st5_below hB5 hrw (.int .i64 0) (.int .i64 0) (.int .i64 0) (.int .i64 0) (.int .i64 0))
      obtain ⟨⟨e0, f0⟩, ⟨e1, f1⟩, ⟨e2, f2⟩, ⟨e3, f3⟩, ⟨e4, f4⟩⟩ := spc_facts kr5 (.int .i64 0) (.int .i64 0) (.int .i64 0) (.int .i64 0)
      unfold st5 at HX HB
      clear kr5 hB5 
      go_wp2
      (try simp only [Exit.inBlock, Exit.then])
      refine bodyPost_ret_by (results_spc rfl _ _ rb z5 rfl HX.out) rfl ?_
      exact ⟨by rw [HR.out]; rfl, HB.out⟩
    have HR := hide (show parP s.data.toList = (⟨k, z, p, q, h⟩, 0) from by rw [HPG.out, if_pos ⟨HNN.out, hFl.trans hE⟩])
    have y3 : (F.toList == s.toList) = true := by rw [seq_eq, decide_eq_true_iff]; exact hE
    have y4 : (F.toList != s.toList) = false := by rw [bne, y3]; rfl
    have c0 : W5.cell? ⟨sb, 0, none⟩ = some (.int .i64 k) := by simpa [encS] using ks5.cell 0
    have c1 : W5.cell? ⟨sb, 1, none⟩ = some (.int .i64 z) := by simpa [encS] using ks5.cell 1
    have c2 : W5.cell? ⟨sb, 2, none⟩ = some (.int .i64 p) := by simpa [encS] using ks5.cell 2
    have c3 : W5.cell? ⟨sb, 3, none⟩ = some (.int .i64 q) := by simpa [encS] using ks5.cell 3
    have c4 : W5.cell? ⟨sb, 4, none⟩ = some (.int .i64 h) := by simpa [encS] using ks5.cell 4
    have HX := hide (set5 kr5 (.int .i64 k) (.int .i64 z) (.int .i64 p) (.int .i64 q) (.int .i64 h))
    have HB := hide (st5_below hB5 hrw (.int .i64 k) (.int .i64 z) (.int .i64 p) (.int .i64 q) (.int .i64 h))
    obtain ⟨⟨e0, f0⟩, ⟨e1, f1⟩, ⟨e2, f2⟩, ⟨e3, f3⟩, ⟨e4, f4⟩⟩ := spc_facts kr5 (.int .i64 k) (.int .i64 z) (.int .i64 p) (.int .i64 q)
    unfold st5 at HX HB
    clear ks5 hE hFl hF kr5 hB5
    go_wp2
    (try simp only [Exit.inBlock, Exit.then])
    refine bodyPost_ret_by (results_spc rfl _ _ rb ⟨k, z, p, q, h⟩ rfl HX.out) rfl ?_
    exact ⟨by rw [HR.out]; rfl, HB.out⟩
end Go.Proofs.YtehifbogadohgaaDoor
