/-
  The walk of the reference's Parse. No condition but the library's tables and errors. (Printed by gen_dts.)
-/
import Derived.Test.YtmpoaegdejhbeaaDoorDtQ
import Derived.Test.YtmpoaegdejhbeaaDoorDtN
import Derived.RegionTactic
namespace Go.Proofs.YtmpoaegdejhbeaaDoor
open Go.RowKit
set_option linter.unusedVariables false
set_option linter.unusedSimpArgs false

theorem infoEdgeR : (Tryd.prog.info? 50).map (fun i => (i.zero, i.size, i.bytes)) = some (some (.agg #[.int .i64 0, .int .i64 0, .bool false]), 3, 24) := by kernel_rfl
/-- A list of the reference's edges grows by one. -/
theorem ed_appR (x : Ed) {X : World} {N : Nat} {A : Option Addr} {n c : Nat} {l : List Ed} (hown : X.ownsRow N 50 3 (.slice A n c) n (l.flatMap encEd)) (hN : N ≤ X.heap.size) (hl : n ≤ 1000000) :
    ∃ A' c' X', (Builtin.append_ #[23, 23] 23 #[.slice A n c, .slice (some ⟨X.heap.size, 0, none⟩) 1 1]).run Tryd.prog (X.alloc (.cells #[.int .i64 x.f, .int .i64 x.t, .bool x.s] 50)) = .ok (.slice A' (n + 1) c') X' ∧
      X'.ownsRow N 50 3 (.slice A' (n + 1) c') (n + 1) ((l ++ [x]).flatMap encEd) ∧ (∀ k, k < X.heap.size → (Value.slice A n c).ownBlock ≠ some k → X'.heap[k]? = X.heap[k]?) ∧ Below N X X' := by
  obtain ⟨i0, hi, hz0, hz1, hz2⟩ := info_parts infoEdgeR
  obtain ⟨o, ho⟩ : ∃ o : Obj, (.cells #[.int .i64 x.f, .int .i64 x.t, .bool x.s] 50 : Obj) = o := ⟨_, rfl⟩
  have hs : (X.alloc o).heap.size = X.heap.size + 1 := World.size_alloc _ _
  have kq := Blk.new X 50 #[.int .i64 x.f, .int .i64 x.t, .bool x.s]
  have hba : Below X.heap.size X (X.alloc (.cells #[.int .i64 x.f, .int .i64 x.t, .bool x.s] 50)) := (Below.refl _ _).alloc (Nat.le_refl _) _
  rw [ho] at kq hba ⊢
  have hown1 := own_below hown hba
  have hrd : Reads (X.alloc o) (X.alloc o).heap.size 3 (some ⟨X.heap.size, 0, none⟩) 1 [.int .i64 x.f, .int .i64 x.t, .bool x.s] := ⟨rfl, fun _ => ⟨X.heap.size, 0, rfl, by omega, fun j u hu => by rw [Nat.zero_add, kq.cell j]; simpa using hu⟩⟩
  obtain ⟨v', X', hrun, h2, h3, h4⟩ := run_append_any (P := Tryd.prog) (X.alloc o) N 23 23 50 i0 _ 3 24 Tryd.underlying23 hi hz0 hz1 hz2 rfl (by decide) (.slice A n c) n (l.flatMap encEd) hown1 (X.alloc o).heap.size (some ⟨X.heap.size, 0, none⟩) 1 1 [.int .i64 x.f, .int .i64 x.t, .bool x.s] hrd (by
    intro u hu
    simp only [List.mem_cons, List.not_mem_nil, or_false] at hu
    rcases hu with rfl | rfl | rfl <;> rfl) (by unfold maxLen; omega) (by omega) (by omega)
  obtain ⟨A', c', rfl, _⟩ := own_form h2
  exact ⟨A', c', X', hrun, by rw [List.flatMap_append]; exact h2, fun k hk hne => (h3.block k (by omega) fun e => hne e.symm).trans (hba.block k hk), below_append (hba.mono hN) hown1 (by omega) h3⟩

theorem own_blt {w : World} {base : Nat} {e : TypeId} {size n : Nat} {v : Value} {xs : List Value} (h : w.ownsRow base e size v n xs) : v.ownBlock ≠ some w.heap.size := fun e2 => by
  rcases h.2 with ⟨rfl, _⟩ | ⟨g, cap, cur, rfl, _, hg, _⟩
  · cases e2
  · have e3 : g = w.heap.size := by injection e2
    have := (Array.getElem?_eq_some_iff.1 hg).1
    omega
theorem results_grR {fn : Func} {p u v : Tmp} (h : fn.results = #[.cell p 25, .tmp u, .tmp v]) (tmps : Array Value) (w : World) (g : Nat) (a b : Value) (hp : tmps.getD p undef = .pointer (some ⟨g, 0, none⟩)) (hg : Blk w g 25 #[a, b]) :
    (results fn tmps).run Tryd.prog w = .ok (.tuple #[.agg #[a, b], tmps.getD u undef, tmps.getD v undef]) w := by
  rw [results_cell_tmp2 h, hp]
  have := run_loadVar_row (P := Tryd.prog) w g 25 25 #[a, b] (0, 0) _ hg Tryd.underlying25 rfl (by kernel_rfl)
  simp [asAddr, this]
/-- A graph that the reference's Parse reads into, in a block of its own. -/
def GrR (w : World) (B gb : Nat) (st : GC) : Prop := ∃ A1 n1 c1 A2 n2 c2, Blk w gb 25 #[.slice A1 n1 c1, .slice A2 n2 c2] ∧ w.ownsRow B 3 1 (.slice A1 n1 c1) n1 (st.ops.map (Value.int .i64)) ∧ w.ownsRow B 50 3 (.slice A2 n2 c2) n2 (st.es.flatMap encEd) ∧ n1 = st.ops.length ∧ n2 = st.es.length
theorem GrR.below {w w' : World} {B gb : Nat} {st : GC} (h : GrR w B gb st) (hb : Below w.heap.size w w') : GrR w' B gb st := by
  obtain ⟨A1, n1, c1, A2, n2, c2, hk, h1, h2, e1, e2⟩ := h
  exact ⟨A1, n1, c1, A2, n2, c2, hk.below hb hk.lt, own_below h1 hb, own_below h2 hb, e1, e2⟩
def stepP (st : GC) (fst : Bool) (x : List UInt8) (o : Option (List Int)) : Option GC :=
  match o with
  | none => none
  | some l => if fst then (if firstT l = x then chk ⟨l, st.es⟩ else none)
    else match l with
      | [a, b] => if edgeT ⟨a, b, decide (hdW x = stoW)⟩ = x then chk ⟨st.ops, st.es ++ [⟨a, b, decide (hdW x = stoW)⟩]⟩ else none
      | _ => none
theorem stepQ_P (st : GC) (fst : Bool) (x : List UInt8) : stepQ st fst x = stepP st fst x (numsO numQ (tlW x)) := rfl
theorem stepP_none (st : GC) (fst : Bool) (x : List UInt8) : stepP st fst x none = none := rfl
theorem stepP_first (st : GC) (x : List UInt8) (l : List Int) : stepP st true x (some l) = if firstT l = x then chk ⟨l, st.es⟩ else none := rfl
theorem stepP_two (st : GC) (x : List UInt8) (a b : Int) : stepP st false x (some [a, b]) = if edgeT ⟨a, b, decide (hdW x = stoW)⟩ = x then chk ⟨st.ops, st.es ++ [⟨a, b, decide (hdW x = stoW)⟩]⟩ else none := rfl
theorem stepP_not (st : GC) (x : List UInt8) (l : List Int) (h : l.length ≠ 2) : stepP st false x (some l) = none := by
  match l, h with
  | [], _ => rfl
  | [_], _ => rfl
  | [_, _], h => exact absurd rfl h
  | _ :: _ :: _ :: _, _ => rfl
theorem ext_parts (t : ByteArray) (x y : List UInt8) (h : t.data.toList = x ++ 10 :: y) :
    (t.extract 0 x.length).data.toList = x ∧ (t.extract 0 (x.length + 1)).data.toList = x ++ [10] ∧ (t.extract (x.length + 1) t.size).data.toList = y := by
  have hsz : t.size = x.length + (y.length + 1) := by
    have h1 := congrArg List.length h
    rw [List.length_append, List.length_cons] at h1
    have h2 : t.data.toList.length = t.size := by simp
    omega
  refine ⟨?_, ?_, ?_⟩
  · rw [ByteArray.data_extract, Array.toList_extract, List.extract_eq_take_drop, h]
    simp
  · rw [ByteArray.data_extract, Array.toList_extract, List.extract_eq_take_drop, h]
    simp [List.take_append, List.take_of_length_le (Nat.le_succ x.length)]
  · rw [ByteArray.data_extract, Array.toList_extract, List.extract_eq_take_drop, h, hsz]
    have e : x.length + (y.length + 1) - (x.length + 1) = y.length := by omega
    rw [e, show x ++ 10 :: y = (x ++ [10]) ++ y by simp, List.drop_append_of_le_length (by simp)]
    simp
set_option maxRecDepth 100000 in
set_option maxHeartbeats 16000000 in
theorem RParse_any (s : ByteArray) (w : World) (hs : s.size ≤ 1000000) (ht : Tab w) (he : Errs w) (hm : MaxL w) :
    Calls Tryd.prog 9 #[.string s] w (RetPg w (parB stepQ s.data.toList)) := by
  have HLS := hide (show s.data.toList.length = s.size by simp)
  have hB0 : Below w.heap.size w (w.alloc (.cells #[.slice none 0 0, .slice none 0 0] 25)) := (Below.refl _ _).alloc (Nat.le_refl _) _
  have kr := Blk.new w 25 #[.slice none 0 0, .slice none 0 0]
  go_enter Tryd.func9, Tryd.ntmps9
  go_upto_region 1 with fail
  obtain ⟨W0, hW0⟩ : ∃ W0, w.alloc (.cells #[.slice none 0 0, .slice none 0 0] 25) = W0 := ⟨_, rfl⟩
  obtain ⟨rb, hrb⟩ : ∃ rb, w.heap.size = rb := ⟨_, rfl⟩
  rw [hW0] at hB0 kr ⊢
  rw [hrb] at kr ⊢
  have hrw : w.heap.size ≤ rb := by omega
  clear hW0 hrb
  by_cases h1 : 65536 < s.size
  case pos =>
    have HR := hide (show parB stepQ s.data.toList = (none, 0, 3) from by unfold parB; rw [HLS.out, if_pos h1])
    have z : (65536 : Int) < (s.size : Int) := by omega
    have HX := hide ((kr.set_ 0 (.slice none 0 0)).set_ 1 (.slice none 0 0))
    have HBB := hide ((hB0.setCell (p := ⟨rb, 0, none⟩) hrw (.slice none 0 0)).setCell (p := ⟨rb, 1, none⟩) hrw (.slice none 0 0))
    have e0 := kr.cell 0
    have f0 := kr.frozen 0
    have e1 := (kr.set_ 0 (.slice none 0 0)).cell 1
    have f1 := (kr.set_ 0 (.slice none 0 0)).frozen 1
    simp at e0 e1
    clear kr hB0 
    go_wp2_with fail
    (try simp only [Exit.inBlock, Exit.then])
    refine bodyPost_ret_by (results_grR rfl _ _ rb (.slice none 0 0) (.slice none 0 0) rfl HX.out) rfl ?_
    exact RetPg.bad HR.out HBB.out
  have HP := hide (show parB stepQ s.data.toList = parG stepQ (s.size + 1) ⟨[], []⟩ 0 s.data.toList from by unfold parB; rw [HLS.out, if_neg h1])
  have h64 : s.size ≤ 65536 := by omega
  clear h1
  have hb2 : Below W0.heap.size W0 (W0.alloc (.cells #[.slice none 0 0, .slice none 0 0] 25)) := (Below.refl _ _).alloc (Nat.le_refl _) _
  have kg2 := Blk.new W0 25 #[.slice none 0 0, .slice none 0 0]
  have kr2 := kr.below hb2 kr.lt
  have hB2 := hB0.trans (hb2.mono hB0.size)
  have hgr : rb ≠ W0.heap.size := by have := kr.lt; omega
  have hgw : w.heap.size ≤ W0.heap.size := hB0.size
  go_upto_region 4 with fail
  obtain ⟨W2, hW2⟩ : ∃ W2, W0.alloc (.cells #[.slice none 0 0, .slice none 0 0] 25) = W2 := ⟨_, rfl⟩
  obtain ⟨gb, hgb⟩ : ∃ gb, W0.heap.size = gb := ⟨_, rfl⟩
  rw [hW2] at kg2 kr2 hB2 ⊢
  rw [hgb] at kg2 hgr hgw ⊢
  clear hW2 hgb hb2 hB0 kr
  have hg0 : GrR W2 w.heap.size gb ⟨[], []⟩ := ⟨none, 0, 0, none, 0, 0, kg2, ⟨rfl, .inl ⟨rfl, rfl⟩⟩, ⟨rfl, .inl ⟨rfl, rfl⟩⟩, rfl, rfl⟩
  have HG0 := hide hg0
  have HB0 := hide hB2
  have HK0 := hide kr2
  clear hg0 hB2 kr2 kg2
  go_wp2_with fail
  have hg0 := HG0.out
  have hB0 := HB0.out
  have hk0 := HK0.out
  go_loopw [0, 6] (fun v0 v6 wr => ∃ (i : Nat) (t : ByteArray) (st : GC), v0 = .string t ∧ v6 = .int .i64 (i : Int) ∧ i + t.size ≤ s.size ∧ parB stepQ s.data.toList = parG stepQ (t.size + 1) st i t.data.toList ∧ GrR wr w.heap.size gb st ∧ st.ops.length ≤ 65536 ∧ st.es.length ≤ 400 ∧ Blk wr rb 25 #[.slice none 0 0, .slice none 0 0] ∧ Below w.heap.size w wr) (fun v0 _ _ => strLen v0)
  case atStart => exact ⟨0, s, ⟨[], []⟩, rfl, rfl, by omega, HP.out, hg0, Nat.zero_le _, Nat.zero_le _, hk0, hB0⟩
  case round =>
    clear hg0 hB0 hk0 HG0 HB0 HK0
    obtain ⟨i, t, st, rfl, rfl, hit, hpar, hg, hos, hes, hkr, hB⟩ := hrel
    have htl : t.data.toList.length = t.size := by simp
    have htn : t.data.toList = [] ↔ t.size = 0 := ⟨fun h => by rw [← htl, h]; rfl, fun h => List.eq_nil_of_length_eq_zero (by rw [htl]; exact h)⟩
    rw [parG] at hpar
    have HHB := hide hB.size
    by_cases hend : t.size = 0 ∧ i ≠ 0
    case pos =>
      rw [if_pos ⟨htn.2 hend.1, hend.2⟩] at hpar
      have HR := hide hpar
      have y1 : t.toList.isEmpty = true := by rw [str_nil, hend.1]; rfl
      have y2 : ((i : Int) == 0) = false := by rw [beq_eq_false_iff_ne]; omega
      obtain ⟨A1, n1, c1, A2, n2, c2, hkg, ho1, ho2, hn1, hn2⟩ := hg
      have l0 := hkg.cell 0
      have l1 := hkg.cell 1
      have e0 := hkr.cell 0
      have f0 := hkr.frozen 0
      have e1 := (hkr.set_ 0 (.slice A1 n1 c1)).cell 1
      have f1 := (hkr.set_ 0 (.slice A1 n1 c1)).frozen 1
      simp at l0 l1 e0 e1
      have HX := hide ((hkr.set_ 0 (.slice A1 n1 c1)).set_ 1 (.slice A2 n2 c2))
      have HO1 := hide (own_far (own_far ho1 hkr (by decide) 0 (.slice A1 n1 c1)) (hkr.set_ 0 (.slice A1 n1 c1)) (by decide) 1 (.slice A2 n2 c2))
      have HO2 := hide (own_far (own_far ho2 hkr (by decide) 0 (.slice A1 n1 c1)) (hkr.set_ 0 (.slice A1 n1 c1)) (by decide) 1 (.slice A2 n2 c2))
      have HB := hide ((hB.setCell (p := ⟨rb, 0, none⟩) hrw (.slice A1 n1 c1)).setCell (p := ⟨rb, 1, none⟩) hrw (.slice A2 n2 c2))
      clear hend htn htl hpar hkg ho1 ho2 hn1 hn2 hB hos hes hkr
      go_wp2
      (try simp only [Exit.inBlock, Exit.then])
      refine bodyPost_ret_by (results_grR rfl _ _ rb (.slice A1 n1 c1) (.slice A2 n2 c2) rfl HX.out) rfl ?_
      exact ⟨⟨A1, n1, c1, st.ops, A2, n2, c2, st.es⟩, by rw [HR.out]; rfl, ⟨Reads.of_own HO1.out, Reads.of_own HO2.out⟩, HB.out, by rw [HR.out]; rfl⟩
    rw [if_neg (fun h => hend ⟨htn.1 h.1, h.2⟩)] at hpar
    obtain ⟨fs, hfs⟩ : ∃ fs, (i == 0) = fs := ⟨_, rfl⟩
    have y2 : ((i : Int) == 0) = fs := by
      rw [← hfs, Bool.eq_iff_iff, beq_iff_eq, beq_iff_eq]
      omega
    obtain ⟨te, hte⟩ : ∃ te, t.toList.isEmpty = te := ⟨_, rfl⟩
    have hcases : fs = true ∨ (fs = false ∧ te = false) := by
      cases fs
      · refine .inr ⟨rfl, ?_⟩
        rw [← hte, str_nil]
        have : i ≠ 0 := by simpa using hfs
        have : ¬ t.size = 0 := fun h => hend ⟨h, this⟩
        simpa using this
      · exact .inl rfl
    rw [hfs] at hpar
    have HPAR := hide hpar
    have HC := hide (ibyte_any t wr)
    have HG := hide hg
    have HB := hide hB
    have HKR := hide hkr
    clear htn htl hend hpar hg hB hfs hkr
    first
    | (iterate 0 (first | go_values | go_skip | go_guarded | go_step | go_upon | go_back)); go_cut [24] from 19 to 25 (fun s24 wx => s24 = .bool true ∧ wr = wx)
    | (iterate 1 (first | go_values | go_skip | go_guarded | go_step | go_upon | go_back)); go_cut [24] from 19 to 25 (fun s24 wx => s24 = .bool true ∧ wr = wx)
    | (iterate 2 (first | go_values | go_skip | go_guarded | go_step | go_upon | go_back)); go_cut [24] from 19 to 25 (fun s24 wx => s24 = .bool true ∧ wr = wx)
    | (iterate 3 (first | go_values | go_skip | go_guarded | go_step | go_upon | go_back)); go_cut [24] from 19 to 25 (fun s24 wx => s24 = .bool true ∧ wr = wx)
    | (iterate 4 (first | go_values | go_skip | go_guarded | go_step | go_upon | go_back)); go_cut [24] from 19 to 25 (fun s24 wx => s24 = .bool true ∧ wr = wx)
    | (iterate 5 (first | go_values | go_skip | go_guarded | go_step | go_upon | go_back)); go_cut [24] from 19 to 25 (fun s24 wx => s24 = .bool true ∧ wr = wx)
    | (iterate 6 (first | go_values | go_skip | go_guarded | go_step | go_upon | go_back)); go_cut [24] from 19 to 25 (fun s24 wx => s24 = .bool true ∧ wr = wx)
    | (iterate 7 (first | go_values | go_skip | go_guarded | go_step | go_upon | go_back)); go_cut [24] from 19 to 25 (fun s24 wx => s24 = .bool true ∧ wr = wx)
    | (iterate 8 (first | go_values | go_skip | go_guarded | go_step | go_upon | go_back)); go_cut [24] from 19 to 25 (fun s24 wx => s24 = .bool true ∧ wr = wx)
    | (iterate 9 (first | go_values | go_skip | go_guarded | go_step | go_upon | go_back)); go_cut [24] from 19 to 25 (fun s24 wx => s24 = .bool true ∧ wr = wx)
    | (iterate 10 (first | go_values | go_skip | go_guarded | go_step | go_upon | go_back)); go_cut [24] from 19 to 25 (fun s24 wx => s24 = .bool true ∧ wr = wx)
    | (iterate 11 (first | go_values | go_skip | go_guarded | go_step | go_upon | go_back)); go_cut [24] from 19 to 25 (fun s24 wx => s24 = .bool true ∧ wr = wx)
    | (iterate 12 (first | go_values | go_skip | go_guarded | go_step | go_upon | go_back)); go_cut [24] from 19 to 25 (fun s24 wx => s24 = .bool true ∧ wr = wx)
    | (iterate 13 (first | go_values | go_skip | go_guarded | go_step | go_upon | go_back)); go_cut [24] from 19 to 25 (fun s24 wx => s24 = .bool true ∧ wr = wx)
    | (iterate 14 (first | go_values | go_skip | go_guarded | go_step | go_upon | go_back)); go_cut [24] from 19 to 25 (fun s24 wx => s24 = .bool true ∧ wr = wx)
    | (iterate 15 (first | go_values | go_skip | go_guarded | go_step | go_upon | go_back)); go_cut [24] from 19 to 25 (fun s24 wx => s24 = .bool true ∧ wr = wx)
    | (iterate 16 (first | go_values | go_skip | go_guarded | go_step | go_upon | go_back)); go_cut [24] from 19 to 25 (fun s24 wx => s24 = .bool true ∧ wr = wx)
    | (iterate 17 (first | go_values | go_skip | go_guarded | go_step | go_upon | go_back)); go_cut [24] from 19 to 25 (fun s24 wx => s24 = .bool true ∧ wr = wx)
    | (iterate 18 (first | go_values | go_skip | go_guarded | go_step | go_upon | go_back)); go_cut [24] from 19 to 25 (fun s24 wx => s24 = .bool true ∧ wr = wx)
    | (iterate 19 (first | go_values | go_skip | go_guarded | go_step | go_upon | go_back)); go_cut [24] from 19 to 25 (fun s24 wx => s24 = .bool true ∧ wr = wx)
    case first =>
      rcases hcases with rfl | ⟨rfl, rfl⟩
      all_goals
        go_wp2_with fail
        go_meet
        case rel => exact ⟨rfl, rfl⟩
    case rest =>
    obtain ⟨rfl, rfl⟩ := hcut
    clear hcases hte
    go_wp2_with fail
    refine HC.out.mono ?_
    rintro e W1 ⟨rfl, rfl⟩
    clear HC
    cases hcn : cutN 10 t.data.toList
    case none =>
      have hp := HPAR.out
      rw [hcn] at hp
      have HR := hide hp
      have hB1 := HB.out
      have hkr1 := HKR.out
      simp only
      clear hp hcn HPAR
      have HX := hide ((hkr1.set_ 0 (.slice none 0 0)).set_ 1 (.slice none 0 0))
      have HBB := hide ((hB1.setCell (p := ⟨rb, 0, none⟩) hrw (.slice none 0 0)).setCell (p := ⟨rb, 1, none⟩) hrw (.slice none 0 0))
      have e0 := hkr1.cell 0
      have f0 := hkr1.frozen 0
      have e1 := (hkr1.set_ 0 (.slice none 0 0)).cell 1
      have f1 := (hkr1.set_ 0 (.slice none 0 0)).frozen 1
      simp at e0 e1
      clear hkr1 hB1 
      go_wp2_with fail
      (try simp only [Exit.inBlock, Exit.then])
      refine bodyPost_ret_by (results_grR rfl _ _ rb (.slice none 0 0) (.slice none 0 0) rfl HX.out) rfl ?_
      exact RetPg.bad HR.out HBB.out
    case some p =>
      obtain ⟨x, y⟩ := p
      have hp := HPAR.out
      rw [hcn] at hp
      obtain ⟨hxy, _⟩ := cutN_some 10 _ x y hcn
      obtain ⟨hx1, hx2, hx3⟩ := ext_parts t x y hxy
      have hlen : x.length + y.length + 1 = t.size := by
        have h1 := congrArg List.length hxy
        rw [List.length_append, List.length_cons] at h1
        have h2 : t.data.toList.length = t.size := by simp
        omega
      obtain ⟨E, hE⟩ : ∃ E, x.length = E := ⟨_, rfl⟩
      rw [hE] at hx1 hx2 hx3 hlen
      simp only at hp ⊢
      rw [hE]
      have hEt : E + 1 ≤ t.size := by omega
      have q1 : (0 : Int) ≤ (E : Int) := by omega
      have q2 : (E : Int) ≤ (t.size : Int) := by omega
      have q3 : (E : Int) + 1 ≤ (t.size : Int) := by omega
      have q4 : ¬ (E : Int) < 0 := by omega
      have w1 : IntKind.i64.wrap ((E : Int) + 1) = (E : Int) + 1 := by rw [IntKind.wrap_i64]; omega
      have w2 : ((E : Int) + 1).toNat = E + 1 := by omega
      obtain ⟨xb, hxb⟩ : ∃ xb, t.extract 0 E = xb := ⟨_, rfl⟩
      obtain ⟨lb, hlb⟩ : ∃ lb, t.extract 0 (E + 1) = lb := ⟨_, rfl⟩
      obtain ⟨yb, hyb⟩ : ∃ yb, t.extract (E + 1) t.size = yb := ⟨_, rfl⟩
      rw [hxb] at hx1
      rw [hlb] at hx2
      rw [hyb] at hx3
      have hxz : xb.size = E := by have : xb.data.toList.length = xb.size := by simp
                                   rw [hx1] at this; omega
      have hyz : yb.size + E + 1 = t.size := by have : yb.data.toList.length = yb.size := by simp
                                                rw [hx3] at this; omega
      have hlz : lb.size = E + 1 := by have : lb.data.toList.length = lb.size := by simp
                                       rw [hx2, List.length_append] at this; simp at this; omega
      have HXB := hide hxb
      have HLB := hide hlb
      have HYB := hide hyb
      have HX1 := hide hx1
      have HX2 := hide hx2
      have HX3 := hide hx3
      have HP1 := hide hp
      have hxz' : xb.size ≤ 65536 := by omega
      have HXZ := hide hxz
      have HYZ := hide hyz
      have HLZ := hide hlz
      clear hp hcn HPAR hxy hxb hlb hyb hx1 hx2 hx3 hxz hyz hlz hlen hE
      obtain ⟨hdt, hjn⟩ := hd_tl x
      obtain ⟨hb1, hb2⟩ := joinL_big (hdW x :: tlW x)
      rw [hjn] at hb1 hb2
      obtain ⟨x0, hx0⟩ : ∃ x0, hdW x = x0 := ⟨_, rfl⟩
      obtain ⟨L, hL⟩ : ∃ L, tlW x = L := ⟨_, rfl⟩
      have hSTP := stepQ_P st fs x
      rw [hL] at hSTP
      rw [hx0, hL] at hdt hb1 hb2
      have HX0 := hide hx0
      have hxl : x.length = xb.size := by rw [← HX1.out]; simp
      have HC0 := hide (split_any xb wr (by omega) (hm.below HB.out))
      rw [HX1.out, hdt] at HC0
      have hLb : ∀ v ∈ L, v.length ≤ 1000000 := fun v hv => by have := hb2 v (List.mem_cons_of_mem _ hv); omega
      have hLn : L.length ≤ 65536 := by rw [List.length_cons] at hb1; omega
      have HLBD := hide hLb
      have HLN := hide hLn
      have HSTP := hide hSTP
      clear hdt hjn hb1 hb2 hx0 hL hxl hLb hLn hSTP
      go_upto_region 10 with fail
      have hxb := HXB.out
      go_wp2_with fail
      clear hxb
      refine HC0.out.mono ?_
      rintro e W1 ⟨wl, rfl, hwl, hW1⟩
      have hb : Below wr.heap.size wr W1 := by rw [hW1]; exact (Below.refl _ _).alloc (Nat.le_refl _) _
      have hB1 : Below w.heap.size w W1 := HB.out.trans (hb.mono HHB.out)
      obtain ⟨wb, hwb⟩ : ∃ wb, wr.heap.size = wb := ⟨_, rfl⟩
      have hwl2 : wl.map Value.string = (x0 :: L).map strV := by
        rw [← hwl, List.map_map]
        exact List.map_congr_left fun v _ => by unfold Function.comp strV; rw [bytes_of]
      have hwn : wl.length = L.length + 1 := by have := congrArg List.length hwl; simpa using this
      have kw1 : Blk W1 wb 9 ((x0 :: L).map strV).toArray := by rw [hW1, ← hwb, ← hwl2]; exact Blk.new wr _ _
      have hkr1 := HKR.out.below hb HKR.out.lt
      have hg1 := HG.out.below hb
      rw [hwb]
      obtain ⟨m, hmm⟩ : ∃ m, wl.length = m := ⟨_, rfl⟩
      have hm1 : 1 ≤ m := by omega
      have hm2 : m ≤ 65537 := by have := HLN.out; omega
      have HML := hide (show m = L.length + 1 from by omega)
      rw [hmm]
      have HB1 := hide hB1
      have HKR1 := hide hkr1
      have HG1 := hide hg1
      have HKW1 := hide kw1
      have hsz1 := hB1.size
      clear hwl hwl2 hwn hW1 hwb hmm HC0 hkr1 hg1 kw1 hB1 hb HB HKR HG
      go_wp2_with fail
      obtain ⟨wq, hwq⟩ : ∃ wq : World, wq = wr := ⟨_, rfl⟩
      subst hwq
      have kw1 := HKW1.out
      go_loopw [9, 10] (fun vo jo wr => ∃ (j : Nat) (A2 : Option Addr) (k c2 : Nat) (l : List Int), j ≤ L.length ∧ jo = .int .i64 ((j + 1 : Nat) : Int) ∧ vo = .slice A2 k c2 ∧ k = j ∧ l.length = k ∧ numsO numQ (L.take j) = some l ∧ wr.ownsRow W1.heap.size 3 1 (.slice A2 k c2) k (l.map (Value.int .i64)) ∧ Below W1.heap.size W1 wr) (fun _ jo _ => L.length + 1 - (intOf jo).toNat)
      case atStart => exact ⟨0, none, 0, 0, [], Nat.zero_le _, rfl, rfl, rfl, rfl, rfl, ⟨rfl, .inl ⟨rfl, rfl⟩⟩, Below.refl _ _⟩
      case round =>
        obtain ⟨j, A2, k, c2, l, hj, rfl, rfl, hkj, hlk, hnum, hown, hBi⟩ := hrel
        have kw := kw1.below hBi kw1.lt
        by_cases hlt : j < L.length
        case pos =>
          obtain ⟨v, hv⟩ : ∃ v, L[j]? = some v := ⟨_, List.getElem?_eq_getElem hlt⟩
          have hvb := HLBD.out v (List.mem_of_getElem? hv)
          have e0 : wr.cell? ⟨wb, j + 1, none⟩ = some (.string ⟨v.toArray⟩) := by rw [kw.cell (j + 1)]; simp [hv, strV]
          obtain ⟨vb, hvv⟩ : ∃ vb : ByteArray, (⟨v.toArray⟩ : ByteArray) = vb := ⟨_, rfl⟩
          have hvd : vb.data.toList = v := by rw [← hvv]
          have hvz : vb.size ≤ 1000000 := by rw [← hvv, bsz]; exact hvb
          rw [hvv] at e0
          have HSN := hide (take_snoc' hv)
          have HPRE := hide (show numsO numQ (L.take (j + 1)) = none → numsO numQ L = none from fun h => by
            have := numsO_none numQ (L.take (j + 1)) (L.drop (j + 1)) h
            rwa [List.take_append_drop] at this)
          have HNUM := hide hnum
          have HKJ := hide hkj
          have HLK := hide hlk
          have HC := hide (NumberQ_any vb wr hvz)
          rw [hvd] at HC
          have q5 : (0 : Int) ≤ ((j + 1 : Nat) : Int) := by omega
          have q6 : ((j + 1 : Nat) : Int) < (m : Int) := by have := HML.out; omega
          have hk6 : k ≤ 1000000 := by have := HLN.out; omega
          have HOWN := hide hown
          have HBI := hide hBi
          clear hv hvb hvv hvd hvz hnum hkj hlk hown hBi kw
          go_wp2_with fail
          refine HC.out.mono ?_
          rintro e W5 ⟨nv, rfl, rfl, hnv⟩
          clear HC
          cases hq : numQ v
          case none =>
            have hnone := HPRE.out (by rw [HSN.out, numsO_snoc, HNUM.out, hq])
            have hst := HSTP.out
            rw [hnone, stepP_none] at hst
            have hp := HP1.out
            rw [hst] at hp
            have HR := hide hp
            rw [show (none : Option Int).isSome = false from rfl]
            have hkr1 := HKR1.out.below HBI.out HKR1.out.lt
            have hB1 := HB1.out.trans (HBI.out.mono hsz1)
            clear hq hnone hst hp hnv kw1 e0
            have HX := hide ((hkr1.set_ 0 (.slice none 0 0)).set_ 1 (.slice none 0 0))
            have HBB := hide ((hB1.setCell (p := ⟨rb, 0, none⟩) hrw (.slice none 0 0)).setCell (p := ⟨rb, 1, none⟩) hrw (.slice none 0 0))
            have e0 := hkr1.cell 0
            have f0 := hkr1.frozen 0
            have e1 := (hkr1.set_ 0 (.slice none 0 0)).cell 1
            have f1 := (hkr1.set_ 0 (.slice none 0 0)).frozen 1
            simp at e0 e1
            clear hkr1 hB1 
            go_wp2_with fail
            (try simp only [Exit.inBlock, Exit.then])
            refine bodyPost_ret_by (results_grR rfl _ _ rb (.slice none 0 0) (.slice none 0 0) rfl HX.out) rfl ?_
            exact RetPg.bad HR.out HBB.out
          case some q =>
            obtain rfl := hnv q hq
            rw [show (some nv).isSome = true from rfl]
            have HNX := hide (show numsO numQ (L.take (j + 1)) = some (l ++ [nv]) from by rw [HSN.out, numsO_snoc, HNUM.out, hq])
            obtain ⟨A', c', X', hrun, hown', hb'⟩ := in_app nv HOWN.out HBI.out.size hk6
            have HO := hide hown'
            have HB6 := hide (HBI.out.trans hb')
            have hjL : j + 1 ≤ L.length := by omega
            clear hq hnv hown' hb' e0 kw1 HOWN HBI
            go_wp2_with (at_builtin; refine wpList_append_isW rfl _ _ 22 rfl rfl rfl rfl hrun ?_)
            go_roundw
            case rel => exact ⟨j + 1, A', k + 1, c', l ++ [nv], hjL, by go_num, rfl, by rw [HKJ.out], by rw [List.length_append, HLK.out]; rfl, HNX.out, HO.out, HB6.out⟩
            case measure => simp [intOf]; omega
        case neg =>
        have hjL : j = L.length := by omega
        have htk : L.take j = L := List.take_of_length_le (by omega)
        rw [htk] at hnum
        have hst := HSTP.out
        rw [hnum] at hst
        have hkr1 := HKR1.out.below hBi HKR1.out.lt
        have hB1 := HB1.out.trans (hBi.mono hsz1)
        have hg1 := HG1.out.below hBi
        have q6 : ¬ ((j + 1 : Nat) : Int) < (m : Int) := by have := HML.out; omega
        have hlL : l.length = L.length := by omega
        have hkL : k = l.length := by omega
        have hk65 : k ≤ 65536 := by have := HLN.out; omega
        have hib : ∀ z ∈ l, i64B z := fun z hz => by
          have hbk := numsO_map hnum
          obtain ⟨ii, hii⟩ := List.getElem?_of_mem hz
          have hlt2 := (List.getElem?_eq_some_iff.1 hii).1
          obtain ⟨vv, hvv⟩ : ∃ vv, L[ii]? = some vv := ⟨_, List.getElem?_eq_getElem (by omega)⟩
          obtain ⟨z2, hz2, hz3⟩ := hbk.2 ii vv hvv
          rw [hii] at hz2
          injection hz2 with hz2
          subst hz2
          have := numQ_some hz3
          exact ⟨by omega, by omega⟩
        have HST := hide hst
        have HKW := hide kw
        have HKR2 := hide hkr1
        have HB2 := hide hB1
        have HG2 := hide hg1
        have HOWN := hide (own_mono hown hsz1)
        have HIB := hide hib
        have HKL := hide hkL
        have hsz2 : w.heap.size ≤ wr.heap.size := hB1.size
        clear hnum hst hkr1 hB1 hg1 hown hBi kw hlt hjL htk hlL hkj hlk hib kw1 hkL
        go_upto_region 20 with fail
        rw [HLB.out]
        obtain ⟨V, hV⟩ : ∃ V : World, V = wr := ⟨_, rfl⟩
        subst hV
        obtain ⟨Ag, ng, cg, Ae, ne, ce, hkg, hog, hoe, hng, hne⟩ := HG2.out
        have HNG := hide (show ng = st.ops.length ∧ ne = st.es.length from ⟨hng, hne⟩)
        have hne4 : ne ≤ 400 := by omega
        have hng6 : ng ≤ 65536 := by omega
        have HKG := hide hkg
        have HOG := hide hog
        have HOE := hide hoe
        clear hng hne HG2 hkg hog hoe
        cases fs
        case true =>
          have hi0 : i = 0 := by have : (i : Int) = 0 := by simpa using y2
                                 omega
          have hst := HST.out
          rw [stepP_first] at hst
          have kg3 := HKG.out.set_ 0 (.slice A2 k c2)
          have e0 := HKG.out.cell 0
          have f0 := HKG.out.frozen 0
          simp at e0
          have HO3 := hide (own_far HOWN.out HKG.out (by decide) 0 (.slice A2 k c2))
          have HE3 := hide (own_far HOE.out HKG.out (by decide) 0 (.slice A2 k c2))
          have HB3 := hide (HB2.out.setCell (p := ⟨gb, 0, none⟩) hgw (.slice A2 k c2))
          have HK3 := hide kg3
          have HR3 := hide (HKR2.out.far (p := ⟨gb, 0, none⟩) hgr (.slice A2 k c2))
          have HSTT := hide hst
          have HI0 := hide hi0
          have HT3 := hide (show Tab (V.setCell ⟨gb, 0, none⟩ (.slice A2 k c2)) from ht.below HB3.out)
          clear hst kg3 hi0
          go_upto_region 22 with fail
          obtain ⟨W3, hW3⟩ : ∃ W3, V.setCell ⟨gb, 0, none⟩ (.slice A2 k c2) = W3 := ⟨_, rfl⟩
          rw [hW3] at HO3 HE3 HB3 HK3 HR3 HT3 ⊢
          clear hW3 e0 f0 HB2 HKR2 HOG HOE HKG HOWN HKW
          have HF := hide (first_any A2 k c2 l W3 (Reads.of_own HO3.out) (by omega) HIB.out HT3.out)
          have hsz3 : w.heap.size ≤ W3.heap.size := HB3.out.size
          go_wp2_with fail
          refine HF.out.mono ?_
          rintro e W4 ⟨rfl, hb4⟩
          have hB4 := HB3.out.trans (hb4.mono hsz3)
          have hk4 := HK3.out.below hb4 HK3.out.lt
          have hr4 := HR3.out.below hb4 HR3.out.lt
          have ho4 := own_below HO3.out hb4
          have he4 := own_below HE3.out hb4
          clear HF hb4 HB3 HK3 HR3 HO3 HE3
          obtain ⟨F, hF⟩ : ∃ F : ByteArray, (⟨(firstT l ++ [10]).toArray⟩ : ByteArray) = F := ⟨_, rfl⟩
          have hFd : F.data.toList = firstT l ++ [10] := by rw [← hF]
          rw [hF]
          have hFe : (F.data.toList = lb.data.toList) ↔ firstT l = x := by
            rw [hFd, HX2.out]
            exact ⟨fun h => List.append_cancel_right h, fun h => by rw [h]⟩
          by_cases hEq : firstT l = x
          case neg =>
            have y1 : (F.toList == lb.toList) = false := by rw [seqT, decide_eq_false_iff_not]; exact fun h => hEq (hFe.1 h)
            have y3 : (F.toList != lb.toList) = true := by rw [bne, y1]; rfl
            have hst := HSTT.out
            rw [if_neg hEq] at hst
            have hp := HP1.out
            rw [hst, HI0.out] at hp
            have HR := hide hp
            clear hp hst hF hFd hFe hEq ho4 he4
            have HX := hide ((hr4.set_ 0 (.slice none 0 0)).set_ 1 (.slice none 0 0))
            have HBB := hide ((hB4.setCell (p := ⟨rb, 0, none⟩) hrw (.slice none 0 0)).setCell (p := ⟨rb, 1, none⟩) hrw (.slice none 0 0))
            have e0 := hr4.cell 0
            have f0 := hr4.frozen 0
            have e1 := (hr4.set_ 0 (.slice none 0 0)).cell 1
            have f1 := (hr4.set_ 0 (.slice none 0 0)).frozen 1
            simp at e0 e1
            clear hr4 hB4 hk4
            go_wp2_with fail
            (try simp only [Exit.inBlock, Exit.then])
            refine bodyPost_ret_by (results_grR rfl _ _ rb (.slice none 0 0) (.slice none 0 0) rfl HX.out) rfl ?_
            exact RetPg.bad (i := 0) HR.out HBB.out
          have y1 : (F.toList == lb.toList) = true := by rw [seqT, decide_eq_true_iff]; exact hFe.2 hEq
          have y3 : (F.toList != lb.toList) = false := by rw [bne, y1]; rfl
          have hst := HSTT.out
          rw [if_pos hEq] at hst
          have l0 := hk4.cell 0
          have l1 := hk4.cell 1
          simp at l0 l1
          have hok : (⟨A2, k, c2, l, Ae, ne, ce, st.es⟩ : Gr).Ok W4 W4.heap.size := ⟨Reads.of_own ho4, Reads.of_own he4⟩
          have HV := hide (show Calls Tryd.prog 24 #[.agg #[.slice A2 k c2, .slice Ae ne ce]] W4 (RetV W4 (.bool (validC ⟨l, st.es⟩))) from by
            have h1 := RValid_any ⟨A2, k, c2, l, Ae, ne, ce, st.es⟩ W4 hok (by show k ≤ _; omega) (by show ne ≤ _; omega)
            rw [hok.validC] at h1
            exact h1)
          have hsz4 : w.heap.size ≤ W4.heap.size := hB4.size
          have HK4 := hide hk4
          have HR4 := hide hr4
          have HO4 := hide ho4
          have HE4 := hide he4
          have HB4 := hide hB4
          have HS4 := hide hst
          clear hok hF hFd hFe hEq hst hk4 hr4 ho4 he4 hB4
          go_wp2_with fail
          refine HV.out.mono ?_
          rintro e W5 ⟨rfl, hb5⟩
          have hB5 := HB4.out.trans (hb5.mono hsz4)
          have hk5 := HK4.out.below hb5 HK4.out.lt
          have hr5 := HR4.out.below hb5 HR4.out.lt
          have ho5 := own_below HO4.out hb5
          have he5 := own_below HE4.out hb5
          have hst := HS4.out
          clear HV hb5 HK4 HR4 HO4 HE4 HB4 l0 l1 y1 y3
          unfold chk at hst
          cases hvc : validC ⟨l, st.es⟩
          case false =>
            rw [hvc] at hst
            have hst2 : stepQ st true x = none := hst
            have hp := HP1.out
            rw [hst2, HI0.out] at hp
            have HR := hide hp
            clear hp hst hst2 hvc hk5 ho5 he5
            have HX := hide ((hr5.set_ 0 (.slice none 0 0)).set_ 1 (.slice none 0 0))
            have HBB := hide ((hB5.setCell (p := ⟨rb, 0, none⟩) hrw (.slice none 0 0)).setCell (p := ⟨rb, 1, none⟩) hrw (.slice none 0 0))
            have e0 := hr5.cell 0
            have f0 := hr5.frozen 0
            have e1 := (hr5.set_ 0 (.slice none 0 0)).cell 1
            have f1 := (hr5.set_ 0 (.slice none 0 0)).frozen 1
            simp at e0 e1
            clear hr5 hB5 
            go_wp2_with fail
            (try simp only [Exit.inBlock, Exit.then])
            refine bodyPost_ret_by (results_grR rfl _ _ rb (.slice none 0 0) (.slice none 0 0) rfl HX.out) rfl ?_
            exact RetPg.bad (i := 0) HR.out HBB.out
          case true =>
          rw [hvc] at hst
          have hst2 : stepQ st true x = some ⟨l, st.es⟩ := hst
          have HG := hide (show GrR W5 w.heap.size gb ⟨l, st.es⟩ from ⟨A2, k, c2, Ae, ne, ce, hk5, ho5, he5, HKL.out, HNG.out.2⟩)
          have HB := hide hB5
          have HKR := hide hr5
          have HIL := hide (show i + 1 = 0 + 1 from by rw [HI0.out])
          clear hst hvc hk5 ho5 he5 hB5 hr5
          have hv := valid_lens (step_valid (show stepT st true x = some _ from by rw [← step_same]; exact hst2))
          have hp := HP1.out
          rw [hst2] at hp
          have HR := hide (show parB stepQ s.data.toList = parG stepQ (yb.size + 1) _ (i + 1) yb.data.toList from by
            have hyl : yb.data.toList.length = yb.size := by simp
            have hyz := HYZ.out
            rw [hp, ← HX3.out]
            refine par_fuel _ _ _ _ _ _ ?_ ?_
            · rw [hyl]; omega
            · rw [hyl]; omega)
          have hl1 : i + 1 + yb.size ≤ s.size := by have := HYZ.out; omega
          have hl2 : yb.size < t.size := by have := HYZ.out; omega
          have HHY := hide HYB.out
          clear hp
          go_upto_region 30 with fail
          have hyb := HHY.out
          go_wp2_with fail
          clear hyb
          go_roundw
          case rel => exact ⟨i + 1, yb, ⟨l, st.es⟩, rfl, by go_num, hl1, HR.out, HG.out, Nat.le_trans hv.1 (by omega), hv.2, HKR.out, HB.out⟩
          case measure => exact hl2
        case false =>
          by_cases h2 : k = 2
          case neg =>
            have hst := HST.out
            rw [stepP_not st x l (by have := HKL.out; omega)] at hst
            have z : ((k : Int) != 2) = true := by rw [bne_iff_ne]; omega
            have z2 : ((k : Int) == 2) = false := by rw [beq_eq_false_iff_ne]; omega
            have hp := HP1.out
            rw [hst] at hp
            have HR := hide hp
            have hkr2 := HKR2.out
            have hB2 := HB2.out
            clear hp hst h2
            have HX := hide ((hkr2.set_ 0 (.slice none 0 0)).set_ 1 (.slice none 0 0))
            have HBB := hide ((hB2.setCell (p := ⟨rb, 0, none⟩) hrw (.slice none 0 0)).setCell (p := ⟨rb, 1, none⟩) hrw (.slice none 0 0))
            have e0 := hkr2.cell 0
            have f0 := hkr2.frozen 0
            have e1 := (hkr2.set_ 0 (.slice none 0 0)).cell 1
            have f1 := (hkr2.set_ 0 (.slice none 0 0)).frozen 1
            simp at e0 e1
            clear hkr2 hB2 
            go_wp2_with fail
            (try simp only [Exit.inBlock, Exit.then])
            refine bodyPost_ret_by (results_grR rfl _ _ rb (.slice none 0 0) (.slice none 0 0) rfl HX.out) rfl ?_
            exact RetPg.bad HR.out HBB.out
          obtain ⟨a, b, rfl⟩ : ∃ a b, l = [a, b] := by
            have hl := HKL.out
            match l, hl with
            | [a, b], _ => exact ⟨a, b, rfl⟩
            | [], h => exact absurd h (by simp; omega)
            | [_], h => exact absurd h (by simp; omega)
            | _ :: _ :: _ :: _, h => exact absurd h (by simp; omega)
          have hst := HST.out
          rw [stepP_two] at hst
          rw [HX0.out] at hst
          obtain ⟨sv, hsv⟩ : ∃ sv, decide (x0 = stoW) = sv := ⟨_, rfl⟩
          rw [hsv] at hst
          have z : ((k : Int) != 2) = false := by rw [bne_eq_false_iff_eq]; omega
          have z2 : ((k : Int) == 2) = true := by rw [beq_iff_eq]; omega
          have q7 : (0 : Int) < (k : Int) := by omega
          have q8 : (1 : Int) < (k : Int) := by omega
          have q9 : (0 : Int) < (m : Int) := by have := HML.out; omega
          have hnn0 : ¬ k = 0 := by omega
          have hm0 : ¬ m = 0 := by have := HML.out; omega
          have hk0 : 0 < k := by omega
          have hm00 : 0 < m := by have := HML.out; omega
          obtain ⟨gn, cur, rfl, hkn, _, hcur⟩ := own_blk HOWN.out (by omega)
          have c0 : V.cell? ⟨gn, 0, none⟩ = some (.int .i64 a) := (hkn.cell 0).trans (hcur 0 _ rfl)
          have c1 : V.cell? ⟨gn, 1, none⟩ = some (.int .i64 b) := (hkn.cell 1).trans (hcur 1 _ rfl)
          obtain ⟨xw, hxw⟩ : ∃ xw : ByteArray, (⟨x0.toArray⟩ : ByteArray) = xw := ⟨_, rfl⟩
          have hxwd : xw.data.toList = x0 := by rw [← hxw]
          have c3 : V.cell? ⟨wb, 0, none⟩ = some (.string xw) := by rw [HKW.out.cell 0, ← hxw]; simp [strV]
          have y3 : (xw.toList == [115, 116, 111, 114, 101]) = sv := by rw [← hsv, ByteArray.toList_eq, hxwd, Bool.eq_iff_iff]; unfold stoW; simp
          have ha := HIB.out a (by simp)
          have hb := HIB.out b (by simp)
          have HAB := hide (And.intro ha hb)
          have HSTT := hide hst
          clear hst hsv hxw hxwd hcur h2 ha hb
          have hgnl : gn < V.heap.size := hkn.lt
          have hwbl : wb < V.heap.size := HKW.out.lt
          clear hkn
          have hba : Below V.heap.size V (V.alloc (.cells #[.int .i64 a, .int .i64 b, .bool sv] 50)) := (Below.refl _ _).alloc (Nat.le_refl _) _
          have kx := Blk.new V 50 #[.int .i64 a, .int .i64 b, .bool sv]
          go_upto_region 26 with fail
          go_region
          go_upto_region 27 with fail
          obtain ⟨W3, hW3⟩ : ∃ W3, (V.alloc (.cells #[.int .i64 a, .int .i64 b, .bool sv] 50)).drew = W3 := ⟨_, rfl⟩
          have hb3 : Below V.heap.size V W3 := by rw [← hW3]; exact hba.drew
          have kx3 : Blk W3 V.heap.size 50 #[.int .i64 a, .int .i64 b, .bool sv] := by rw [← hW3]; exact kx
          obtain ⟨eb, heb⟩ : ∃ eb, V.heap.size = eb := ⟨_, rfl⟩
          have hk3 := HKG.out.below hb3 HKG.out.lt
          have hr3 := HKR2.out.below hb3 HKR2.out.lt
          have hog3 := own_below HOG.out hb3
          have hoe3 := own_below HOE.out hb3
          have hB3 := HB2.out.trans (hb3.mono hsz2)
          have hweb : w.heap.size ≤ eb := by omega
          have hoeb : (Value.slice Ae ne ce).ownBlock ≠ some eb := by rw [← heb]; exact own_blt HOE.out
          have hebg : eb ≠ gb := by have := HKG.out.lt; omega
          rw [heb] at kx3
          rw [hW3, heb]
          clear hW3 heb hba kx hb3 c0 c1 c3 y3 HKG HKR2 HOG HOE HB2 HOWN HKW
          obtain ⟨A3, c4, X3, hrun, hown3, hkeep, hb4⟩ := ed_appR ⟨a, b, sv⟩ hoe3 hB3.size (by omega)
          have kg4 : Blk X3 gb 25 #[.slice Ag ng cg, .slice Ae ne ce] := (hkeep gb hk3.lt (own_neE hoe3 hk3 (by decide))).trans hk3
          have kr4 : Blk X3 rb 25 #[.slice none 0 0, .slice none 0 0] := (hkeep rb hr3.lt (own_neE hoe3 hr3 (by decide))).trans hr3
          have kx4 : Blk X3 eb 50 #[.int .i64 a, .int .i64 b, .bool sv] := (hkeep eb kx3.lt hoeb).trans kx3
          have hog4 := own_keep hog3 hoe3 (by decide) hkeep
          have hB4 := hB3.trans hb4
          have kg5 := kg4.set_ 1 (.slice A3 (ne + 1) c4)
          have kr5 := kr4.far (p := ⟨gb, 1, none⟩) hgr (.slice A3 (ne + 1) c4)
          have kx5 := kx4.far (p := ⟨gb, 1, none⟩) hebg (.slice A3 (ne + 1) c4)
          have hog5 := own_far hog4 kg4 (by decide) 1 (.slice A3 (ne + 1) c4)
          have hoe5 := own_far hown3 kg4 (by decide) 1 (.slice A3 (ne + 1) c4)
          have hB5 := hB4.setCell (p := ⟨gb, 1, none⟩) hgw (.slice A3 (ne + 1) c4)
          have l1 : W3.cell? ⟨gb, 1, none⟩ = some (.slice Ae ne ce) := by simpa using hk3.cell 1
          have d0 : W3.cell? ⟨eb, 0, none⟩ = some (.int .i64 a) := by simpa using kx3.cell 0
          have d1 : W3.cell? ⟨eb, 1, none⟩ = some (.int .i64 b) := by simpa using kx3.cell 1
          have d2 : W3.cell? ⟨eb, 2, none⟩ = some (.bool sv) := by simpa using kx3.cell 2
          have e5 : X3.cell? ⟨gb, 1, none⟩ = some (.slice Ae ne ce) := by simpa using kg4.cell 1
          have f5 := kg4.frozen 1
          have HKG := hide kg5
          have HKR := hide kr5
          have HKX := hide kx5
          have HOG := hide hog5
          have HOE := hide hoe5
          have HB5 := hide hB5
          have HT5 := hide (show Tab (X3.setCell ⟨gb, 1, none⟩ (.slice A3 (ne + 1) c4)) from ht.below hB5)
          clear hk3 hr3 hog3 hoe3 hB3 kx3 hown3 hkeep hb4 kg4 kr4 kx4 hog4 hB4 kg5 kr5 kx5 hog5 hoe5 hB5 hoeb
          go_upto_region 28 with (at_builtin; refine wpList_append_isW rfl _ _ 23 rfl rfl rfl rfl hrun ?_)
          obtain ⟨W4, hW4⟩ : ∃ W4, X3.setCell ⟨gb, 1, none⟩ (.slice A3 (ne + 1) c4) = W4 := ⟨_, rfl⟩
          rw [hW4] at HKG HKR HKX HOG HOE HB5 HT5 ⊢
          clear hW4 l1 d0 d1 d2 e5 f5 hrun
          have d0 : W4.cell? ⟨eb, 0, none⟩ = some (.int .i64 a) := by simpa using HKX.out.cell 0
          have d1 : W4.cell? ⟨eb, 1, none⟩ = some (.int .i64 b) := by simpa using HKX.out.cell 1
          have d2 : W4.cell? ⟨eb, 2, none⟩ = some (.bool sv) := by simpa using HKX.out.cell 2
          have HF := hide (edge_any ⟨a, b, sv⟩ W4 HAB.out.1 HAB.out.2 HT5.out)
          have hsz4 : w.heap.size ≤ W4.heap.size := HB5.out.size
          go_wp2_with fail
          refine HF.out.mono ?_
          rintro e W5 ⟨rfl, hb5⟩
          have hB6 := HB5.out.trans (hb5.mono hsz4)
          have hk6 := HKG.out.below hb5 HKG.out.lt
          have hr6 := HKR.out.below hb5 HKR.out.lt
          have hog6 := own_below HOG.out hb5
          have hoe6 := own_below HOE.out hb5
          clear HF hb5 HKG HKR HKX HOG HOE HB5 HT5 d0 d1 d2
          obtain ⟨F, hF⟩ : ∃ F : ByteArray, (⟨(lineE ⟨a, b, sv⟩).toArray⟩ : ByteArray) = F := ⟨_, rfl⟩
          have hFd : F.data.toList = edgeT ⟨a, b, sv⟩ ++ [10] := by rw [← hF]; rfl
          rw [hF]
          have hFe : (F.data.toList = lb.data.toList) ↔ edgeT ⟨a, b, sv⟩ = x := by
            rw [hFd, HX2.out]
            exact ⟨fun h => List.append_cancel_right h, fun h => by rw [h]⟩
          by_cases hEq : edgeT ⟨a, b, sv⟩ = x
          case neg =>
            have y1 : (F.toList == lb.toList) = false := by rw [seqT, decide_eq_false_iff_not]; exact fun h => hEq (hFe.1 h)
            have y3 : (F.toList != lb.toList) = true := by rw [bne, y1]; rfl
            have hst := HSTT.out
            rw [if_neg hEq] at hst
            have hp := HP1.out
            rw [hst] at hp
            have HR := hide hp
            clear hp hst hF hFd hFe hEq hk6 hog6 hoe6
            have HX := hide ((hr6.set_ 0 (.slice none 0 0)).set_ 1 (.slice none 0 0))
            have HBB := hide ((hB6.setCell (p := ⟨rb, 0, none⟩) hrw (.slice none 0 0)).setCell (p := ⟨rb, 1, none⟩) hrw (.slice none 0 0))
            have e0 := hr6.cell 0
            have f0 := hr6.frozen 0
            have e1 := (hr6.set_ 0 (.slice none 0 0)).cell 1
            have f1 := (hr6.set_ 0 (.slice none 0 0)).frozen 1
            simp at e0 e1
            clear hr6 hB6 
            go_wp2_with fail
            (try simp only [Exit.inBlock, Exit.then])
            refine bodyPost_ret_by (results_grR rfl _ _ rb (.slice none 0 0) (.slice none 0 0) rfl HX.out) rfl ?_
            exact RetPg.bad HR.out HBB.out
          have y1 : (F.toList == lb.toList) = true := by rw [seqT, decide_eq_true_iff]; exact hFe.2 hEq
          have y3 : (F.toList != lb.toList) = false := by rw [bne, y1]; rfl
          have hst := HSTT.out
          rw [if_pos hEq] at hst
          have l0 := hk6.cell 0
          have l1 := hk6.cell 1
          simp at l0 l1
          have hok : (⟨Ag, ng, cg, st.ops, A3, ne + 1, c4, st.es ++ [⟨a, b, sv⟩]⟩ : Gr).Ok W5 W5.heap.size := ⟨Reads.of_own hog6, Reads.of_own hoe6⟩
          have HV := hide (show Calls Tryd.prog 24 #[.agg #[.slice Ag ng cg, .slice A3 (ne + 1) c4]] W5 (RetV W5 (.bool (validC ⟨st.ops, st.es ++ [⟨a, b, sv⟩]⟩))) from by
            have h1 := RValid_any ⟨Ag, ng, cg, st.ops, A3, ne + 1, c4, st.es ++ [⟨a, b, sv⟩]⟩ W5 hok (by show ng ≤ _; omega) (by show ne + 1 ≤ _; omega)
            rw [hok.validC] at h1
            exact h1)
          have hsz5 : w.heap.size ≤ W5.heap.size := hB6.size
          have HK4 := hide hk6
          have HR4 := hide hr6
          have HO4 := hide hog6
          have HE4 := hide hoe6
          have HB4 := hide hB6
          have HS4 := hide hst
          clear hok hF hFd hFe hEq hst hk6 hr6 hog6 hoe6 hB6
          go_wp2_with fail
          refine HV.out.mono ?_
          rintro e W6 ⟨rfl, hb6⟩
          have hB7 := HB4.out.trans (hb6.mono hsz5)
          have hk7 := HK4.out.below hb6 HK4.out.lt
          have hr7 := HR4.out.below hb6 HR4.out.lt
          have ho7 := own_below HO4.out hb6
          have he7 := own_below HE4.out hb6
          have hst := HS4.out
          clear HV hb6 HK4 HR4 HO4 HE4 HB4 l0 l1 y1 y3
          unfold chk at hst
          cases hvc : validC ⟨st.ops, st.es ++ [⟨a, b, sv⟩]⟩
          case false =>
            rw [hvc] at hst
            have hst2 : stepQ st false x = none := hst
            have hp := HP1.out
            rw [hst2] at hp
            have HR := hide hp
            clear hp hst hst2 hvc hk7 ho7 he7
            have HX := hide ((hr7.set_ 0 (.slice none 0 0)).set_ 1 (.slice none 0 0))
            have HBB := hide ((hB7.setCell (p := ⟨rb, 0, none⟩) hrw (.slice none 0 0)).setCell (p := ⟨rb, 1, none⟩) hrw (.slice none 0 0))
            have e0 := hr7.cell 0
            have f0 := hr7.frozen 0
            have e1 := (hr7.set_ 0 (.slice none 0 0)).cell 1
            have f1 := (hr7.set_ 0 (.slice none 0 0)).frozen 1
            simp at e0 e1
            clear hr7 hB7 
            go_wp2_with fail
            (try simp only [Exit.inBlock, Exit.then])
            refine bodyPost_ret_by (results_grR rfl _ _ rb (.slice none 0 0) (.slice none 0 0) rfl HX.out) rfl ?_
            exact RetPg.bad HR.out HBB.out
          case true =>
          rw [hvc] at hst
          have hst2 : stepQ st false x = some ⟨st.ops, st.es ++ [⟨a, b, sv⟩]⟩ := hst
          have HG := hide (show GrR W6 w.heap.size gb ⟨st.ops, st.es ++ [⟨a, b, sv⟩]⟩ from ⟨Ag, ng, cg, A3, ne + 1, c4, hk7, ho7, he7, HNG.out.1, by rw [List.length_append, HNG.out.2]; rfl⟩)
          have HB := hide hB7
          have HKR := hide hr7
          clear hst hvc hk7 ho7 he7 hB7 hr7
          have hv := valid_lens (step_valid (show stepT st false x = some _ from by rw [← step_same]; exact hst2))
          have hp := HP1.out
          rw [hst2] at hp
          have HR := hide (show parB stepQ s.data.toList = parG stepQ (yb.size + 1) _ (i + 1) yb.data.toList from by
            have hyl : yb.data.toList.length = yb.size := by simp
            have hyz := HYZ.out
            rw [hp, ← HX3.out]
            refine par_fuel _ _ _ _ _ _ ?_ ?_
            · rw [hyl]; omega
            · rw [hyl]; omega)
          have hl1 : i + 1 + yb.size ≤ s.size := by have := HYZ.out; omega
          have hl2 : yb.size < t.size := by have := HYZ.out; omega
          have HHY := hide HYB.out
          clear hp
          go_upto_region 30 with fail
          have hyb := HHY.out
          go_wp2_with fail
          clear hyb
          go_roundw
          case rel => exact ⟨i + 1, yb, _, rfl, by go_num, hl1, HR.out, HG.out, Nat.le_trans hv.1 (by omega), hv.2, HKR.out, HB.out⟩
          case measure => exact hl2
end Go.Proofs.YtmpoaegdejhbeaaDoor
