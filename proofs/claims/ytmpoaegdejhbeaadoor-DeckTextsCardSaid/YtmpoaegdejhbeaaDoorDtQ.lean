/-
  The walk of deck.Parse. No condition but the library's tables and errors. (Printed by gen_dtq.)
-/
import Derived.Test.YtmpoaegdejhbeaaDoorDtR
namespace Go.Proofs.YtmpoaegdejhbeaaDoor
open Go.RowKit
set_option linter.unusedVariables false
set_option linter.unusedSimpArgs false

theorem par_fuel (f : GC → Bool → List UInt8 → Option GC) : ∀ (n m : Nat) (st : GC) (i : Nat) (l : List UInt8), l.length < n → l.length < m → parG f n st i l = parG f m st i l
  | 0, _, _, _, _, h, _ => absurd h (Nat.not_lt_zero _)
  | _ + 1, 0, _, _, _, _, h => absurd h (Nat.not_lt_zero _)
  | n + 1, m + 1, st, i, l, hn, hm => by
    rw [parG, parG]
    split
    · rfl
    · split
      · rfl
      · rename_i x y hc
        obtain ⟨h1, _⟩ := cutN_some 10 l x y hc
        rw [h1, List.length_append, List.length_cons] at hn hm
        split
        · rfl
        · exact par_fuel f n m _ (i + 1) y (by omega) (by omega)
theorem step_valid {st g : GC} {b : Bool} {x : List UInt8} (h : stepT st b x = some g) : validC g = true := by
  cases b
  · obtain ⟨_, _, _, h⟩ := step_edge h; exact h
  · obtain ⟨_, _, _, h⟩ := step_first h; exact h
theorem valid_lens {g : GC} (h : validC g = true) : g.ops.length ≤ 200 ∧ g.es.length ≤ 400 := by
  unfold validC at h
  simp only [Bool.and_eq_true, decide_eq_true_eq] at h
  omega
theorem results_cell_tmp2 {fn : Func} {p u v : Tmp} {ty : TypeId} (h : fn.results = #[.cell p ty, .tmp u, .tmp v]) (tmps : Array Value) (P : Program) (w : World) :
    (results fn tmps).run P w =
      ((asAddr (tmps.getD p undef)).run P w).andThen fun a w₁ => ((loadVar ty a).run P w₁).andThen fun x w₂ => .ok (.tuple #[x, tmps.getD u undef, tmps.getD v undef]) w₂ := by
  simp only [results, h]
  simp [Sem.run_bind, Result.andThen]
theorem results_gr {fn : Func} {p u v : Tmp} (h : fn.results = #[.cell p 31, .tmp u, .tmp v]) (tmps : Array Value) (w : World) (g : Nat) (a b : Value) (hp : tmps.getD p undef = .pointer (some ⟨g, 0, none⟩)) (hg : Blk w g 31 #[a, b]) :
    (results fn tmps).run Tryd.prog w = .ok (.tuple #[.agg #[a, b], tmps.getD u undef, tmps.getD v undef]) w := by
  rw [results_cell_tmp2 h, hp]
  have := run_loadVar_row (P := Tryd.prog) w g 31 31 #[a, b] (0, 0) _ hg Tryd.underlying31 rfl (by kernel_rfl)
  simp [asAddr, this]
def strLen : Value → Nat
  | .string t => t.size
  | _ => 0
theorem str_nil (t : ByteArray) : t.toList.isEmpty = (t.size == 0) := by
  rw [ByteArray.toList_eq, Bool.eq_iff_iff, List.isEmpty_iff, beq_iff_eq, Array.toList_eq_nil_iff]
  show t.data = #[] ↔ t.data.size = 0
  exact Array.size_eq_zero_iff.symm
/-- A graph, a line and an error, handed back. -/
def RetPg (w : World) (r : Option GC × Nat × Int) (e : Ending) (w' : World) : Prop := ∃ g : Gr, e = .returned (.tuple #[.agg #[g.v1, g.v2], .int .i64 (r.2.1 : Int), .int .i64 r.2.2]) ∧ g.Ok w' w'.heap.size ∧ Below w.heap.size w w' ∧ (⟨g.ops, g.es⟩ : GC) = r.1.getD ⟨[], []⟩
theorem RetPg.bad {w w' : World} {r : Option GC × Nat × Int} {i : Nat} {E : Int} (h : r = (none, i, E)) (hb : Below w.heap.size w w') : RetPg w r (.returned (.tuple #[.agg #[.slice none 0 0, .slice none 0 0], .int .i64 (i : Int), .int .i64 E])) w' := by
  subst h
  exact ⟨⟨none, 0, 0, [], none, 0, 0, []⟩, rfl, ⟨Reads.none_, Reads.none_⟩, hb, rfl⟩
set_option maxRecDepth 100000 in
set_option maxHeartbeats 8000000 in
theorem Parse_any (s : ByteArray) (w : World) (hs : s.size ≤ 1000000) (ht : Tab w) (he : Errs w) (hm : MaxL w) :
    Calls Tryd.prog 8 #[.string s] w (RetPg w (parB stepT s.data.toList)) := by
  have HLS := hide (show s.data.toList.length = s.size by simp)
  have hB0 : Below w.heap.size w (w.alloc (.cells #[.slice none 0 0, .slice none 0 0] 31)) := (Below.refl _ _).alloc (Nat.le_refl _) _
  have kr := Blk.new w 31 #[.slice none 0 0, .slice none 0 0]
  go_enter Tryd.func8, Tryd.ntmps8
  go_upto_region 1 with fail
  obtain ⟨W0, hW0⟩ : ∃ W0, w.alloc (.cells #[.slice none 0 0, .slice none 0 0] 31) = W0 := ⟨_, rfl⟩
  obtain ⟨gb, hgb⟩ : ∃ gb, w.heap.size = gb := ⟨_, rfl⟩
  rw [hW0] at hB0 kr ⊢
  rw [hgb] at kr ⊢
  have hgw : w.heap.size ≤ gb := by omega
  clear hW0 hgb
  by_cases h1 : 65536 < s.size
  case pos =>
    have HR := hide (show parB stepT s.data.toList = (none, 0, 3) from by unfold parB; rw [HLS.out, if_pos h1])
    have z : (65536 : Int) < (s.size : Int) := by omega
    have HX := hide ((kr.set_ 0 (.slice none 0 0)).set_ 1 (.slice none 0 0))
    have HB := hide ((hB0.setCell (p := ⟨gb, 0, none⟩) hgw (.slice none 0 0)).setCell (p := ⟨gb, 1, none⟩) hgw (.slice none 0 0))
    have e0 := kr.cell 0
    have f0 := kr.frozen 0
    have e1 := (kr.set_ 0 (.slice none 0 0)).cell 1
    have f1 := (kr.set_ 0 (.slice none 0 0)).frozen 1
    simp at e0 e1
    clear kr hB0 
    go_wp2
    (try simp only [Exit.inBlock, Exit.then])
    refine bodyPost_ret_by (results_gr rfl _ _ gb (.slice none 0 0) (.slice none 0 0) rfl HX.out) rfl ?_
    exact RetPg.bad HR.out HB.out
  have HP := hide (show parB stepT s.data.toList = parG stepT (s.size + 1) ⟨[], []⟩ 0 s.data.toList from by unfold parB; rw [HLS.out, if_neg h1])
  have h64 : s.size ≤ 65536 := by omega
  clear h1
  have hg0 : GrB W0 w.heap.size gb ⟨[], []⟩ := ⟨none, 0, 0, none, 0, 0, kr, ⟨rfl, .inl ⟨rfl, rfl⟩⟩, ⟨rfl, .inl ⟨rfl, rfl⟩⟩, rfl, rfl⟩
  have HG0 := hide hg0
  have HB0 := hide hB0
  clear hg0 hB0 kr
  go_wp2_with fail
  have hg0 := HG0.out
  have hB0 := HB0.out
  go_loopw [0, 5] (fun v0 v5 wr => ∃ (i : Nat) (t : ByteArray) (st : GC), v0 = .string t ∧ v5 = .int .i64 (i : Int) ∧ i + t.size ≤ s.size ∧ parB stepT s.data.toList = parG stepT (t.size + 1) st i t.data.toList ∧ GrB wr w.heap.size gb st ∧ st.ops.length ≤ 65536 ∧ st.es.length ≤ 400 ∧ Below w.heap.size w wr) (fun v0 _ _ => strLen v0)
  case atStart => exact ⟨0, s, ⟨[], []⟩, rfl, rfl, by omega, HP.out, hg0, Nat.zero_le _, Nat.zero_le _, hB0⟩
  case round =>
    clear hg0 hB0 HG0 HB0
    obtain ⟨i, t, st, rfl, rfl, hit, hpar, hg, hos, hes, hB⟩ := hrel
    have htl : t.data.toList.length = t.size := by simp
    have htn : t.data.toList = [] ↔ t.size = 0 := ⟨fun h => by rw [← htl, h]; rfl, fun h => List.eq_nil_of_length_eq_zero (by rw [htl]; exact h)⟩
    rw [parG] at hpar
    have HHB := hide hB.size
    by_cases hend : t.size = 0 ∧ i ≠ 0
    case pos =>
      rw [if_pos ⟨htn.2 hend.1, hend.2⟩] at hpar
      have HR := hide hpar
      have y1 : t.toList.isEmpty = true := by rw [str_nil, hend.1]; rfl
      have y2 : ((i : Int) == 0) = false := by rw [beq_eq_false_iff_ne]; omega
      obtain ⟨A1, n1, c1, A2, n2, c2, hkg, ho1, ho2, hn1, hn2⟩ := hg
      have l0 := hkg.cell 0
      have f0 := hkg.frozen 0
      have l1 := (hkg.set_ 0 (.slice A1 n1 c1)).cell 1
      have f1 := (hkg.set_ 0 (.slice A1 n1 c1)).frozen 1
      have l2 := hkg.cell 1
      simp at l0 l1 l2
      have HX := hide ((hkg.set_ 0 (.slice A1 n1 c1)).set_ 1 (.slice A2 n2 c2))
      have HO1 := hide (own_far (own_far ho1 hkg (by decide) 0 (.slice A1 n1 c1)) (hkg.set_ 0 (.slice A1 n1 c1)) (by decide) 1 (.slice A2 n2 c2))
      have HO2 := hide (own_far (own_far ho2 hkg (by decide) 0 (.slice A1 n1 c1)) (hkg.set_ 0 (.slice A1 n1 c1)) (by decide) 1 (.slice A2 n2 c2))
      have HB := hide ((hB.setCell (p := ⟨gb, 0, none⟩) hgw (.slice A1 n1 c1)).setCell (p := ⟨gb, 1, none⟩) hgw (.slice A2 n2 c2))
      clear hend htn htl hpar hkg ho1 ho2 hn1 hn2 hB hos hes
      go_wp2
      (try simp only [Exit.inBlock, Exit.then])
      refine bodyPost_ret_by (results_gr rfl _ _ gb (.slice A1 n1 c1) (.slice A2 n2 c2) rfl HX.out) rfl ?_
      exact ⟨⟨A1, n1, c1, st.ops, A2, n2, c2, st.es⟩, by rw [HR.out]; rfl, ⟨Reads.of_own HO1.out, Reads.of_own HO2.out⟩, HB.out, by rw [HR.out]; rfl⟩
    rw [if_neg (fun h => hend ⟨htn.1 h.1, h.2⟩)] at hpar
    have hgo : (!(t.toList.isEmpty)) = true ∨ ((i : Int) == 0) = true := by
      rw [str_nil]
      by_cases h0 : t.size = 0
      · right
        have : i = 0 := by
          rcases Nat.eq_zero_or_pos i with h | h
          · exact h
          · exact absurd ⟨h0, by omega⟩ hend
        rw [this]; rfl
      · left
        simp [h0]
    obtain ⟨fs, hfs⟩ : ∃ fs, (i == 0) = fs := ⟨_, rfl⟩
    have y2 : ((i : Int) == 0) = fs := by
      rw [← hfs, Bool.eq_iff_iff, beq_iff_eq, beq_iff_eq]
      omega
    rw [hfs] at hpar
    have y1 : t.toList.isEmpty = false ∨ fs = true := by
      rcases hgo with h | h
      · left; simpa using h
      · right; rw [← y2]; exact h
    obtain ⟨te, hte⟩ : ∃ te, t.toList.isEmpty = te := ⟨_, rfl⟩
    rw [hte] at y1
    obtain ⟨X, Y, Wh, hcut⟩ : ∃ X Y Wh, cutR t.data.toList = (X, Y, Wh) := ⟨_, _, _, rfl⟩
    have HCUT := hide hcut
    have HPAR := hide hpar
    have HC := hide (cut_any t wr (by omega) (hm.below hB))
    rw [hcut] at HC
    have HG := hide hg
    have HB := hide hB
    clear htn htl hend hgo hcut hpar hg hB hfs
    have hcases : te = false ∨ (te = true ∧ fs = true) := by
      cases te
      · exact .inl rfl
      · exact .inr ⟨rfl, by rcases y1 with h | h; cases h; exact h⟩
    clear y1
    first
    | (iterate 0 (first | go_values | go_skip | go_guarded | go_step | go_upon | go_back)); go_cut [18] from 13 to 19 (fun s18 wx => s18 = .bool true ∧ wr = wx)
    | (iterate 1 (first | go_values | go_skip | go_guarded | go_step | go_upon | go_back)); go_cut [18] from 13 to 19 (fun s18 wx => s18 = .bool true ∧ wr = wx)
    | (iterate 2 (first | go_values | go_skip | go_guarded | go_step | go_upon | go_back)); go_cut [18] from 13 to 19 (fun s18 wx => s18 = .bool true ∧ wr = wx)
    | (iterate 3 (first | go_values | go_skip | go_guarded | go_step | go_upon | go_back)); go_cut [18] from 13 to 19 (fun s18 wx => s18 = .bool true ∧ wr = wx)
    | (iterate 4 (first | go_values | go_skip | go_guarded | go_step | go_upon | go_back)); go_cut [18] from 13 to 19 (fun s18 wx => s18 = .bool true ∧ wr = wx)
    | (iterate 5 (first | go_values | go_skip | go_guarded | go_step | go_upon | go_back)); go_cut [18] from 13 to 19 (fun s18 wx => s18 = .bool true ∧ wr = wx)
    | (iterate 6 (first | go_values | go_skip | go_guarded | go_step | go_upon | go_back)); go_cut [18] from 13 to 19 (fun s18 wx => s18 = .bool true ∧ wr = wx)
    | (iterate 7 (first | go_values | go_skip | go_guarded | go_step | go_upon | go_back)); go_cut [18] from 13 to 19 (fun s18 wx => s18 = .bool true ∧ wr = wx)
    | (iterate 8 (first | go_values | go_skip | go_guarded | go_step | go_upon | go_back)); go_cut [18] from 13 to 19 (fun s18 wx => s18 = .bool true ∧ wr = wx)
    | (iterate 9 (first | go_values | go_skip | go_guarded | go_step | go_upon | go_back)); go_cut [18] from 13 to 19 (fun s18 wx => s18 = .bool true ∧ wr = wx)
    | (iterate 10 (first | go_values | go_skip | go_guarded | go_step | go_upon | go_back)); go_cut [18] from 13 to 19 (fun s18 wx => s18 = .bool true ∧ wr = wx)
    | (iterate 11 (first | go_values | go_skip | go_guarded | go_step | go_upon | go_back)); go_cut [18] from 13 to 19 (fun s18 wx => s18 = .bool true ∧ wr = wx)
    | (iterate 12 (first | go_values | go_skip | go_guarded | go_step | go_upon | go_back)); go_cut [18] from 13 to 19 (fun s18 wx => s18 = .bool true ∧ wr = wx)
    | (iterate 13 (first | go_values | go_skip | go_guarded | go_step | go_upon | go_back)); go_cut [18] from 13 to 19 (fun s18 wx => s18 = .bool true ∧ wr = wx)
    | (iterate 14 (first | go_values | go_skip | go_guarded | go_step | go_upon | go_back)); go_cut [18] from 13 to 19 (fun s18 wx => s18 = .bool true ∧ wr = wx)
    | (iterate 15 (first | go_values | go_skip | go_guarded | go_step | go_upon | go_back)); go_cut [18] from 13 to 19 (fun s18 wx => s18 = .bool true ∧ wr = wx)
    | (iterate 16 (first | go_values | go_skip | go_guarded | go_step | go_upon | go_back)); go_cut [18] from 13 to 19 (fun s18 wx => s18 = .bool true ∧ wr = wx)
    | (iterate 17 (first | go_values | go_skip | go_guarded | go_step | go_upon | go_back)); go_cut [18] from 13 to 19 (fun s18 wx => s18 = .bool true ∧ wr = wx)
    | (iterate 18 (first | go_values | go_skip | go_guarded | go_step | go_upon | go_back)); go_cut [18] from 13 to 19 (fun s18 wx => s18 = .bool true ∧ wr = wx)
    | (iterate 19 (first | go_values | go_skip | go_guarded | go_step | go_upon | go_back)); go_cut [18] from 13 to 19 (fun s18 wx => s18 = .bool true ∧ wr = wx)
    case first =>
      rcases hcases with rfl | ⟨rfl, rfl⟩
      all_goals
        go_wp2_with fail
        go_meet
        case rel => exact ⟨rfl, rfl⟩
    case rest =>
    obtain ⟨rfl, rfl⟩ := hcut
    clear hcases hte
    go_wp2_with fail
    refine HC.out.mono ?_
    rintro e W1 ⟨rfl, hb⟩
    have hB1 : Below w.heap.size w W1 := HB.out.trans (hb.mono HHB.out)
    obtain ⟨A1, n1, c1, A2, n2, c2, hkg, ho1, ho2, hn1, hn2⟩ := HG.out
    have hkg1 := hkg.below hb hkg.lt
    have hg1 : GrB W1 w.heap.size gb st := ⟨A1, n1, c1, A2, n2, c2, hkg1, own_below ho1 hb, own_below ho2 hb, hn1, hn2⟩
    have hsz1 := hB1.size
    clear HC hb hkg ho1 ho2 hn1 hn2 HG HB
    cases hcn : cutN 10 t.data.toList
    case none =>
      have hX := HCUT.out
      unfold cutR at hX
      rw [hcn] at hX
      injection hX with hX1 hX2
      injection hX2 with hX2 hX3
      subst hX1 hX2 hX3
      have hp := HPAR.out
      rw [hcn] at hp
      have HR := hide hp
      clear hp hcn HPAR hg1 HCUT
      have HX := hide ((hkg1.set_ 0 (.slice none 0 0)).set_ 1 (.slice none 0 0))
      have HB := hide ((hB1.setCell (p := ⟨gb, 0, none⟩) hgw (.slice none 0 0)).setCell (p := ⟨gb, 1, none⟩) hgw (.slice none 0 0))
      have e0 := hkg1.cell 0
      have f0 := hkg1.frozen 0
      have e1 := (hkg1.set_ 0 (.slice none 0 0)).cell 1
      have f1 := (hkg1.set_ 0 (.slice none 0 0)).frozen 1
      simp at e0 e1
      clear hkg1 hB1 
      go_wp2
      (try simp only [Exit.inBlock, Exit.then])
      refine bodyPost_ret_by (results_gr rfl _ _ gb (.slice none 0 0) (.slice none 0 0) rfl HX.out) rfl ?_
      exact RetPg.bad HR.out HB.out
    case some p =>
      obtain ⟨x, y⟩ := p
      have hX := HCUT.out
      unfold cutR at hX
      rw [hcn] at hX
      injection hX with hX1 hX2
      injection hX2 with hX2 hX3
      subst hX1 hX2 hX3
      have hp := HPAR.out
      rw [hcn] at hp
      obtain ⟨hxy, _⟩ := cutN_some 10 _ x y hcn
      have hlen : x.length + y.length + 1 = t.size := by
        have h1 := congrArg List.length hxy
        rw [List.length_append, List.length_cons] at h1
        have h2 : t.data.toList.length = t.size := by simp
        omega
      obtain ⟨xb, hxb⟩ : ∃ xb : ByteArray, (⟨x.toArray⟩ : ByteArray) = xb := ⟨_, rfl⟩
      obtain ⟨yb, hyb⟩ : ∃ yb : ByteArray, (⟨y.toArray⟩ : ByteArray) = yb := ⟨_, rfl⟩
      have hxz : xb.size = x.length := by rw [← hxb, bsz]
      have hyz : yb.size = y.length := by rw [← hyb, bsz]
      have hxd : xb.data.toList = x := by rw [← hxb]
      have hyd : yb.data.toList = y := by rw [← hyb]
      simp only at hp ⊢
      rw [hxb, hyb]
      have HRD := hide (read_any w.heap.size gb st xb fs W1 (by omega) hg1 hsz1 hgw hes hos (ht.below hB1) (he.below hB1) (hm.below hB1))
      rw [hxd] at HRD
      have HLEN := hide (show xb.size + yb.size + 1 = t.size from by omega)
      have HYD := hide hyd
      have HP1 := hide hp
      have HB1 := hide hB1
      clear hp hcn HPAR HCUT hxy hlen hxb hyb hxz hyz hxd hyd hg1 hkg1 hB1
      go_wp2_with fail
      refine HRD.out.mono ?_
      rintro e W2 ⟨rfl, hb2, ⟨v1, v2, hkg2⟩, hgr⟩
      have hB2 := HB1.out.trans hb2
      clear HRD hb2
      cases hst : stepT st fs x
      case none =>
        have hp := HP1.out
        rw [hst] at hp
        have HR := hide hp
        rw [show (none : Option GC).isSome = false from rfl]
        clear hp hst hgr HP1 HB1
        have HX := hide ((hkg2.set_ 0 (.slice none 0 0)).set_ 1 (.slice none 0 0))
        have HB := hide ((hB2.setCell (p := ⟨gb, 0, none⟩) hgw (.slice none 0 0)).setCell (p := ⟨gb, 1, none⟩) hgw (.slice none 0 0))
        have e0 := hkg2.cell 0
        have f0 := hkg2.frozen 0
        have e1 := (hkg2.set_ 0 (.slice none 0 0)).cell 1
        have f1 := (hkg2.set_ 0 (.slice none 0 0)).frozen 1
        simp at e0 e1
        clear hkg2 hB2 
        go_wp2
        (try simp only [Exit.inBlock, Exit.then])
        refine bodyPost_ret_by (results_gr rfl _ _ gb (.slice none 0 0) (.slice none 0 0) rfl HX.out) rfl ?_
        exact RetPg.bad HR.out HB.out
      case some st2 =>
        have hp := HP1.out
        rw [hst] at hp
        have hv := valid_lens (step_valid hst)
        have hg2 := hgr st2 hst
        have HG2 := hide hg2
        have HR := hide (show parB stepT s.data.toList = parG stepT (yb.size + 1) st2 (i + 1) yb.data.toList from by
          have hl := HLEN.out
          have hyl : yb.data.toList.length = yb.size := by simp
          rw [hp, HYD.out]
          refine par_fuel _ _ _ _ _ _ ?_ ?_
          · rw [← HYD.out, hyl]; omega
          · rw [← HYD.out, hyl]; omega)
        rw [show (some st2).isSome = true from rfl]
        have HB2 := hide hB2
        clear hp hst hgr HP1 hg2 hB2 HB1 hkg2
        have hl1 : i + 1 + yb.size ≤ s.size := by have := HLEN.out; omega
        have hl2 : yb.size < t.size := by have := HLEN.out; omega
        go_wp2_with fail
        go_roundw
        case rel => exact ⟨i + 1, yb, st2, rfl, by go_num, hl1, HR.out, HG2.out, by omega, by omega, HB2.out⟩
        case measure => exact hl2
end Go.Proofs.YtmpoaegdejhbeaaDoor
