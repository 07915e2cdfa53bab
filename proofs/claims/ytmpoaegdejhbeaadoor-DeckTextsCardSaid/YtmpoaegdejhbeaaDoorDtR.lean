/-
  The walk of (*deck.Graph).read. No condition but the library's tables and errors. (Printed by gen_dtr.)
-/
import Derived.Test.YtmpoaegdejhbeaaDoorDtC
namespace Go.Proofs.YtmpoaegdejhbeaaDoor
open Go.RowKit
set_option linter.unusedVariables false
set_option linter.unusedSimpArgs false

theorem joinL_big : ∀ ws : List (List UInt8), ws.length ≤ (joinL ws).length + 1 ∧ ∀ v ∈ ws, v.length ≤ (joinL ws).length
  | [] => ⟨Nat.zero_le _, fun _ h => by cases h⟩
  | [w] => ⟨by simp, fun v hv => by obtain rfl : v = w := by simpa using hv
                                    exact Nat.le_refl _⟩
  | w :: v :: ws => by
    obtain ⟨h1, h2⟩ := joinL_big (v :: ws)
    have e : (joinL (w :: v :: ws)).length = w.length + (1 + (joinL (v :: ws)).length) := by
      show (w ++ 32 :: joinL (v :: ws)).length = _
      rw [List.length_append, List.length_cons]; omega
    refine ⟨by rw [e, List.length_cons]; omega, fun u hu => ?_⟩
    rcases List.mem_cons.1 hu with rfl | hu
    · omega
    · have := h2 u hu; omega
/-- A graph that the program's Parse reads into, in a block of its own. -/
def GrB (w : World) (B gb : Nat) (st : GC) : Prop := ∃ A1 n1 c1 A2 n2 c2, Blk w gb 31 #[.slice A1 n1 c1, .slice A2 n2 c2] ∧ w.ownsRow B 3 1 (.slice A1 n1 c1) n1 (st.ops.map (Value.int .i64)) ∧ w.ownsRow B 43 3 (.slice A2 n2 c2) n2 (st.es.flatMap encEd) ∧ n1 = st.ops.length ∧ n2 = st.es.length
def RetRd (w : World) (B gb : Nat) (o : Option GC) (e : Ending) (w' : World) : Prop := e = .returned (.bool o.isSome) ∧ Below B w w' ∧ (∃ v1 v2, Blk w' gb 31 #[v1, v2]) ∧ ∀ st, o = some st → GrB w' B gb st
theorem RetRd.bad {w w' : World} {B gb : Nat} {o : Option GC} (h : o = none) (hb : Below B w w') {v1 v2 : Value} (hk : Blk w' gb 31 #[v1, v2]) : RetRd w B gb o (.returned (.bool false)) w' := by
  subst h
  exact ⟨rfl, hb, ⟨_, _, hk⟩, fun st hs => by cases hs⟩
theorem RetRd.fin {w w' : World} {B gb : Nat} {o : Option GC} {g : GC} (h : o = chk g) (hb : Below B w w') {A1 A2 : Option Addr} {n1 c1 n2 c2 : Nat} (hk : Blk w' gb 31 #[.slice A1 n1 c1, .slice A2 n2 c2]) (h1 : w'.ownsRow B 3 1 (.slice A1 n1 c1) n1 (g.ops.map (Value.int .i64))) (h2 : w'.ownsRow B 43 3 (.slice A2 n2 c2) n2 (g.es.flatMap encEd)) (e1 : n1 = g.ops.length) (e2 : n2 = g.es.length) :
    RetRd w B gb o (.returned (.bool (validC g))) w' := by
  subst h
  unfold chk
  cases hv : validC g
  · exact ⟨rfl, hb, ⟨_, _, hk⟩, fun st hs => by cases hs⟩
  · exact ⟨rfl, hb, ⟨_, _, hk⟩, fun st hs => by injection hs with hs; subst hs; exact ⟨_, _, _, _, _, _, hk, h1, h2, e1, e2⟩⟩
theorem own_blk {w : World} {base n c : Nat} {e : TypeId} {A : Option Addr} {xs : List Value} (h : w.ownsRow base e 1 (.slice A n c) n xs) (hn : 0 < n) : ∃ g cur, A = some ⟨g, 0, none⟩ ∧ Blk w g e cur ∧ base ≤ g ∧ ∀ (j : Nat) u, xs[j]? = some u → cur[j]? = some u := by
  rcases h.2 with ⟨he, h0⟩ | ⟨g', cap, cur, he, hb, hg, h1, h2, h3, h4⟩
  · injection he with _ h1 _; omega
  · injection he with he1 he2 he3
    refine ⟨g', cur, he1, hg, hb, fun j u hu => ?_⟩
    rw [← h4, List.getElem?_take] at hu
    split at hu
    · simpa using hu
    · cases hu
theorem own_neE {w : World} {base : Nat} {e t : TypeId} {size n bn : Nat} {v : Value} {xs : List Value} {cs : Array Value} (h : w.ownsRow base e size v n xs) (hk : Blk w bn t cs) (hne : e ≠ t) : v.ownBlock ≠ some bn := fun e2 => by
  rcases h.2 with ⟨rfl, _⟩ | ⟨g, cap, cur, rfl, _, hg, _⟩
  · cases e2
  · have e3 : g = bn := by injection e2
    subst e3
    unfold Blk at hk
    rw [hg] at hk
    injection hk with hk
    injection hk with _ hk
    exact hne hk
theorem infoEdge_dt : (Tryd.prog.info? 43).map (fun i => (i.zero, i.size, i.bytes)) = some (some (.agg #[.int .i64 0, .int .i64 0, .bool false]), 3, 24) := by kernel_rfl
/-- A list of edges grows by one. -/
theorem ed_app (x : Ed) {X : World} {N : Nat} {A : Option Addr} {n c : Nat} {l : List Ed} (hown : X.ownsRow N 43 3 (.slice A n c) n (l.flatMap encEd)) (hN : N ≤ X.heap.size) (hl : n ≤ 1000000) :
    ∃ A' c' X', (Builtin.append_ #[29, 29] 29 #[.slice A n c, .slice (some ⟨X.heap.size, 0, none⟩) 1 1]).run Tryd.prog (X.alloc (.cells #[.int .i64 x.f, .int .i64 x.t, .bool x.s] 43)) = .ok (.slice A' (n + 1) c') X' ∧
      X'.ownsRow N 43 3 (.slice A' (n + 1) c') (n + 1) ((l ++ [x]).flatMap encEd) ∧ (∀ k, k < X.heap.size → (Value.slice A n c).ownBlock ≠ some k → X'.heap[k]? = X.heap[k]?) ∧ Below N X X' := by
  obtain ⟨i0, hi, hz0, hz1, hz2⟩ := info_parts infoEdge_dt
  obtain ⟨o, ho⟩ : ∃ o : Obj, (.cells #[.int .i64 x.f, .int .i64 x.t, .bool x.s] 43 : Obj) = o := ⟨_, rfl⟩
  have hs : (X.alloc o).heap.size = X.heap.size + 1 := World.size_alloc _ _
  have kq := Blk.new X 43 #[.int .i64 x.f, .int .i64 x.t, .bool x.s]
  have hba : Below X.heap.size X (X.alloc (.cells #[.int .i64 x.f, .int .i64 x.t, .bool x.s] 43)) := (Below.refl _ _).alloc (Nat.le_refl _) _
  rw [ho] at kq hba ⊢
  have hown1 := own_below hown hba
  have hrd : Reads (X.alloc o) (X.alloc o).heap.size 3 (some ⟨X.heap.size, 0, none⟩) 1 [.int .i64 x.f, .int .i64 x.t, .bool x.s] := ⟨rfl, fun _ => ⟨X.heap.size, 0, rfl, by omega, fun j u hu => by rw [Nat.zero_add, kq.cell j]; simpa using hu⟩⟩
  obtain ⟨v', X', hrun, h2, h3, h4⟩ := run_append_any (P := Tryd.prog) (X.alloc o) N 29 29 43 i0 _ 3 24 Tryd.underlying29 hi hz0 hz1 hz2 rfl (by decide) (.slice A n c) n (l.flatMap encEd) hown1 (X.alloc o).heap.size (some ⟨X.heap.size, 0, none⟩) 1 1 [.int .i64 x.f, .int .i64 x.t, .bool x.s] hrd (by
    intro u hu
    simp only [List.mem_cons, List.not_mem_nil, or_false] at hu
    rcases hu with rfl | rfl | rfl <;> rfl) (by unfold maxLen; omega) (by omega) (by omega)
  obtain ⟨A', c', rfl, _⟩ := own_form h2
  exact ⟨A', c', X', hrun, by rw [List.flatMap_append]; exact h2, fun k hk hne => (h3.block k (by omega) fun e => hne e.symm).trans (hba.block k hk), below_append (hba.mono hN) hown1 (by omega) h3⟩
/-- words[1:]. -/
theorem words_tail (wb m : Nat) (hm : 1 ≤ m) (hm2 : m ≤ 1000000) : ∃ A', (∀ W : World, (Instr.slice 55 (.slice (some ⟨wb, 0, none⟩) m m) (some (.int .i64 1)) none none).run Tryd.prog W = .ok (.slice A' (m - 1) (m - 1)) W) ∧ ∀ (W : World) (L : List (List UInt8)), L.length = m → Blk W wb 9 (L.map strV).toArray → Reads W W.heap.size 1 A' (m - 1) (L.tail.map strV) := by
  have u := Tryd.underlying55
  have z := Tryd.sizeOf9
  have q1 : (1 : Int) ≤ (m : Int) := by omega
  by_cases h : m = 1
  · subst h
    refine ⟨some ⟨wb, 0, none⟩, fun W => ?_, fun W L hL hk => ⟨by rw [List.length_map, List.length_tail, hL], fun h => absurd h (by omega)⟩⟩
    unfold Instr.slice
    go_simp
  · refine ⟨some ⟨wb, 1, none⟩, fun W => ?_, fun W L hL hk => ⟨by rw [List.length_map, List.length_tail, hL]; omega, fun _ => ⟨wb, 1, rfl, hk.lt, fun j v hv => ?_⟩⟩⟩
    · unfold Instr.slice
      have h2 : ¬ (m : Int) = 1 := by omega
      have h3 : ¬ (1 : Int) = (m : Int) := by omega
      go_simp
    · rw [hk.cell]
      cases L with
      | nil => cases hv
      | cons a l => simpa [Nat.add_comm] using hv
theorem own_far {w : World} {base : Nat} {e t : TypeId} {size n gb : Nat} {v : Value} {xs : List Value} {cs : Array Value} (h : w.ownsRow base e size v n xs) (hk : Blk w gb t cs) (hne : e ≠ t) (j : Nat) (u : Value) : (w.setCell ⟨gb, j, none⟩ u).ownsRow base e size v n xs := by
  have hn := own_neE h hk hne
  refine ⟨h.1, ?_⟩
  rcases h.2 with h1 | ⟨g, cap, cur, h1, h2, h3, h4⟩
  · exact .inl h1
  · have hgg : g ≠ gb := fun e => hn (by rw [h1, e]; rfl)
    exact .inr ⟨g, cap, cur, h1, h2, (Below.heap_setCell w ⟨gb, j, none⟩ u g hgg).trans h3, h4⟩
theorem own_keep {X X' : World} {B B2 : Nat} {e1 e2 : TypeId} {s1 s2 n n2 : Nat} {v v2 : Value} {xs ys : List Value} (h : X.ownsRow B e1 s1 v n xs) (h2 : X.ownsRow B2 e2 s2 v2 n2 ys) (hne : e1 ≠ e2) (hk : ∀ k, k < X.heap.size → v2.ownBlock ≠ some k → X'.heap[k]? = X.heap[k]?) : X'.ownsRow B e1 s1 v n xs := by
  refine ⟨h.1, ?_⟩
  rcases h.2 with h1 | ⟨g, cap, cur, h1, h3, h4, h5⟩
  · exact .inl h1
  · have hlt : g < X.heap.size := (Array.getElem?_eq_some_iff.1 h4).1
    have hk1 : Blk X g e1 cur := h4
    exact .inr ⟨g, cap, cur, h1, h3, (hk g hlt (own_neE h2 hk1 (Ne.symm hne))).trans h4, h5⟩
def stepO (st : GC) (fst : Bool) (x : List UInt8) (o : Option (List Int)) : Option GC :=
  match o with
  | none => none
  | some l => if fst then (if x = opW then chk ⟨l, st.es⟩ else none)
    else match l with
      | [a, b] => if x = pipW then chk ⟨st.ops, st.es ++ [⟨a, b, false⟩]⟩ else if x = stoW then chk ⟨st.ops, st.es ++ [⟨a, b, true⟩]⟩ else none
      | _ => none
theorem stepT_O (st : GC) (fst : Bool) (x : List UInt8) : stepT st fst x = stepO st fst (hdW x) (numsO numT (tlW x)) := rfl
theorem stepO_none (st : GC) (fst : Bool) (x : List UInt8) : stepO st fst x none = none := rfl
theorem stepO_first (st : GC) (x : List UInt8) (l : List Int) : stepO st true x (some l) = if x = opW then chk ⟨l, st.es⟩ else none := rfl
theorem stepO_two (st : GC) (x : List UInt8) (a b : Int) : stepO st false x (some [a, b]) = if x = pipW then chk ⟨st.ops, st.es ++ [⟨a, b, false⟩]⟩ else if x = stoW then chk ⟨st.ops, st.es ++ [⟨a, b, true⟩]⟩ else none := rfl
theorem stepO_not (st : GC) (x : List UInt8) (l : List Int) (h : l.length ≠ 2) : stepO st false x (some l) = none := by
  match l, h with
  | [], _ => rfl
  | [_], _ => rfl
  | [_, _], h => exact absurd rfl h
  | _ :: _ :: _ :: _, _ => rfl
set_option maxRecDepth 100000 in
set_option maxHeartbeats 16000000 in
theorem read_any (B gb : Nat) (st : GC) (s : ByteArray) (fst : Bool) (w : World) (hs : s.size ≤ 65536) (hg : GrB w B gb st) (hB : B ≤ w.heap.size) (hgB : B ≤ gb) (hes : st.es.length ≤ 400) (hos : st.ops.length ≤ 65536) (ht : Tab w) (he : Errs w) (hm : MaxL w) :
    Calls Tryd.prog 19 #[.pointer (some ⟨gb, 0, none⟩), .string s, .bool fst] w (RetRd w B gb (stepT st fst s.data.toList)) := by
  obtain ⟨A1, n1, c1, A2, n2, c2, hkg, ho1, ho2, hn1, hn2⟩ := hg
  have hn2b : n2 ≤ 400 := by omega
  have hn1b : n1 ≤ 65536 := by omega
  have HN12 := hide (show n1 = st.ops.length ∧ n2 = st.es.length from ⟨hn1, hn2⟩)
  obtain ⟨hdt, hjn⟩ := hd_tl s.data.toList
  obtain ⟨hb1, hb2⟩ := joinL_big (hdW s.data.toList :: tlW s.data.toList)
  rw [hjn] at hb1 hb2
  have hsl : s.data.toList.length = s.size := by simp
  rw [stepT_O]
  obtain ⟨x0, hx0⟩ : ∃ x0, hdW s.data.toList = x0 := ⟨_, rfl⟩
  obtain ⟨L, hL⟩ : ∃ L, tlW s.data.toList = L := ⟨_, rfl⟩
  rw [hx0, hL] at hdt hb1 hb2 ⊢
  have HC0 := hide (split_any s w (by omega) hm)
  rw [hdt] at HC0
  have hLb : ∀ v ∈ L, v.length ≤ 1000000 := fun v hv => by have := hb2 v (List.mem_cons_of_mem _ hv); omega
  have hLn : L.length ≤ 65536 := by rw [List.length_cons] at hb1; omega
  have HLB := hide hLb
  have HLN := hide hLn
  clear hn1 hn2 hdt hjn hb1 hb2 hsl hx0 hL hm hes hos hLb hLn
  obtain ⟨o, hno⟩ : ∃ o, numsO numT L = o := ⟨_, rfl⟩
  have HNO := hide hno
  rw [hno]
  clear hno
  obtain ⟨R, hR⟩ : ∃ R, stepO st fst x0 o = R := ⟨_, rfl⟩
  rw [hR]
  have HR := hide hR
  clear hR
  go_enter Tryd.func19, Tryd.ntmps19
  go_wp2_with fail
  refine HC0.out.mono ?_
  rintro e W1 ⟨wl, rfl, hwl, hW1⟩
  have hb : Below w.heap.size w W1 := by rw [hW1]; exact (Below.refl _ _).alloc (Nat.le_refl _) _
  have hB1 : Below B w W1 := hb.mono hB
  obtain ⟨wb, hwb⟩ : ∃ wb, w.heap.size = wb := ⟨_, rfl⟩
  have hwl2 : wl.map Value.string = (x0 :: L).map strV := by
    rw [← hwl, List.map_map]
    exact List.map_congr_left fun v _ => by unfold Function.comp strV; rw [bytes_of]
  have hwn : wl.length = L.length + 1 := by have := congrArg List.length hwl; simpa using this
  have kw1 : Blk W1 wb 9 ((x0 :: L).map strV).toArray := by rw [hW1, ← hwb, ← hwl2]; exact Blk.new w _ _
  have kg1 := hkg.below hb hkg.lt
  have ho11 := own_below ho1 hb
  have ho12 := own_below ho2 hb
  have hsz1 : B ≤ W1.heap.size := by have := hb.size; omega
  rw [hwb]
  obtain ⟨m, hmm⟩ : ∃ m, wl.length = m := ⟨_, rfl⟩
  have hm1 : 1 ≤ m := by omega
  have hm2 : m ≤ 65537 := by have := HLN.out; omega
  obtain ⟨A', hrunS, hreadS⟩ := words_tail wb m hm1 (by omega)
  have hrd1 := hreadS W1 (x0 :: L) (by rw [List.length_cons, ← hmm, hwn]) kw1
  have HC1 := hide (numbers_any A' (m - 1) (m - 1) L W1 hrd1 (by omega) HLB.out (ht.below hb) (he.below hb))
  rw [HNO.out] at HC1
  rw [hmm]
  have HRS := hide hrunS
  have HT1 := hide (ht.below hb)
  clear hwl hwl2 hwn hW1 hwb hmm HC0 hkg ho1 ho2 hreadS hrd1 hrunS hb
  have hrunS := HRS.out
  go_wp2_with fail
  refine HC1.out.mono ?_
  clear hrunS HRS
  rintro e W2 ⟨An, nn, cn, rfl, hb2, hnum⟩
  have hB2 : Below B w W2 := hB1.trans (hb2.mono hsz1)
  have kw2 := kw1.below hb2 kw1.lt
  have kg2 := kg1.below hb2 kg1.lt
  have ho21 := own_below ho11 hb2
  have ho22 := own_below ho12 hb2
  have hsz2 : B ≤ W2.heap.size := by have := hb2.size; omega
  have HT2 := hide (HT1.out.below hb2)
  clear hb2 HC1 kw1 kg1 ho11 ho12 hB1 HT1
  have d0 : W2.cell? ⟨wb, 0, none⟩ = some (.string ⟨x0.toArray⟩) := by rw [kw2.cell 0]; simp [strV]
  obtain ⟨xb, hxb⟩ : ∃ xb : ByteArray, (⟨x0.toArray⟩ : ByteArray) = xb := ⟨_, rfl⟩
  have hxl : xb.data.toList = x0 := by rw [← hxb]
  have seq : ∀ l : List UInt8, (xb.toList == l) = decide (x0 = l) := fun l => by rw [ByteArray.toList_eq, hxl, Bool.eq_iff_iff]; simp
  have y1 : (xb.toList == [111, 112, 101, 114, 97, 116, 111, 114, 115]) = decide (x0 = opW) := seq _
  have y2 : (xb.toList == [112, 105, 112, 101]) = decide (x0 = pipW) := seq _
  have y3 : (xb.toList == [115, 116, 111, 114, 101]) = decide (x0 = stoW) := seq _
  rw [hxb] at d0
  have kw3 : ∃ cw, Blk W2 wb 9 cw ∧ cw[0]? = some (.string xb) := ⟨_, kw2, by simp [strV, ← hxb]⟩
  have q2 : (0 : Int) < (m : Int) := by omega
  clear hxb hxl seq kw2
  have HB2 := hide hB2
  have HW2 := hide kw3
  have HK2 := hide kg2
  have HO1 := hide ho21
  have HO2 := hide ho22
  have HSZ := hide hsz2
  clear hB2 kw3 kg2 ho21 ho22 hsz2
  cases o
  case none =>
    have HR2 := hide (HR.out.symm.trans (stepO_none st fst x0))
    rw [show (none : Option (List Int)).isSome = false from rfl]
    clear hnum d0 y1 y2 y3
    go_wp2_with fail
    go_ret
    exact RetRd.bad HR2.out HB2.out HK2.out
  case some l =>
  rw [show (some l).isSome = true from rfl]
  obtain ⟨hnl, hon⟩ := hnum l rfl
  have hon := own_mono hon hsz1
  clear hnum
  cases fst
  case true =>
    have hst := HR.out.symm.trans (stepO_first st x0 l)
    by_cases hop : x0 = opW
    case neg =>
      have HR2 := hide (hst.trans (if_neg hop))
      rw [decide_eq_false hop] at y1
      clear hop y2 y3 hnl hon hst
      go_wp2_with fail
      go_ret
      exact RetRd.bad HR2.out HB2.out HK2.out
    case pos =>
      have HR2 := hide (hst.trans (if_pos hop))
      rw [decide_eq_true hop] at y1
      have kg3 := HK2.out.set_ 0 (.slice An nn cn)
      have e0 := HK2.out.cell 0
      have f0 := HK2.out.frozen 0
      simp at e0
      have HO13 := hide (own_far hon HK2.out (by decide) 0 (.slice An nn cn))
      have HO23 := hide (own_far HO2.out HK2.out (by decide) 0 (.slice An nn cn))
      have HB3 := hide (HB2.out.setCell (p := ⟨gb, 0, none⟩) hgB (.slice An nn cn))
      have HK3 := hide kg3
      have HNL := hide hnl
      have hnn6 : nn ≤ 65536 := by
        have h1 := numsO_map HNO.out
        have h2 := HLN.out
        omega
      clear hop y2 y3 hnl hon hst kg3
      go_upto_region 10 with fail
      obtain ⟨W3, hW3⟩ : ∃ W3, W2.setCell ⟨gb, 0, none⟩ (.slice An nn cn) = W3 := ⟨_, rfl⟩
      rw [hW3] at HO13 HO23 HB3 HK3 ⊢
      clear hW3 e0 f0 d0 HB2 HW2 HK2 HO1 HO2 y1
      have hK3 : Blk W3 gb 31 #[.slice An nn cn, .slice A2 n2 c2] := HK3.out
      have l0 := hK3.cell 0
      have l1 := hK3.cell 1
      simp at l0 l1
      have hok : (⟨An, nn, cn, l, A2, n2, c2, st.es⟩ : Gr).Ok W3 W3.heap.size := ⟨Reads.of_own HO13.out, Reads.of_own HO23.out⟩
      have HV := hide (show Calls Tryd.prog 16 #[.agg #[.slice An nn cn, .slice A2 n2 c2]] W3 (RetV W3 (.bool (validC ⟨l, st.es⟩))) from by
        have h1 := Valid_any ⟨An, nn, cn, l, A2, n2, c2, st.es⟩ W3 hok (by show nn ≤ _; omega) (by show n2 ≤ _; omega)
        rw [hok.validC] at h1
        exact h1)
      have hgl := hK3.lt
      clear hok hK3
      go_wp2_with fail
      refine HV.out.mono ?_
      rintro e W4 ⟨rfl, hb4⟩
      have hsz3 : B ≤ W3.heap.size := by have := HB3.out.size; have := HSZ.out; omega
      have HR4 := hide (RetRd.fin HR2.out (HB3.out.trans (hb4.mono hsz3)) (HK3.out.below hb4 hgl) (own_below HO13.out hb4) (own_below HO23.out hb4) (HNL.out) (HN12.out.2))
      clear hb4 l0 l1
      go_wp2
      go_ret
      exact HR4.out
  case false =>
    by_cases h2 : nn = 2
    case neg =>
      have HR2 := hide (HR.out.symm.trans (stepO_not st x0 l (by omega)))
      have z : ((nn : Int) == 2) = false := by rw [beq_eq_false_iff_ne]; omega
      clear h2 y1 y2 y3 hnl hon
      go_wp2_with fail
      go_ret
      exact RetRd.bad HR2.out HB2.out HK2.out
    obtain ⟨a, b, rfl⟩ : ∃ a b, l = [a, b] := by
      match l, hnl with
      | [a, b], _ => exact ⟨a, b, rfl⟩
      | [], h => exact absurd h (by simp; omega)
      | [_], h => exact absurd h (by simp; omega)
      | _ :: _ :: _ :: _, h => exact absurd h (by simp; omega)
    have z : ((nn : Int) == 2) = true := by rw [beq_iff_eq]; omega
    have q0 : (0 : Int) < (nn : Int) := by omega
    have q1 : (1 : Int) < (nn : Int) := by omega
    have hnn0 : ¬ nn = 0 := by omega
    have hm0 : ¬ m = 0 := by omega
    have hst := HR.out.symm.trans (stepO_two st x0 a b)
    obtain ⟨gn, cur, rfl, hkn, _, hcur⟩ := own_blk hon (by omega)
    have hc0 := hcur 0 (.int .i64 a) rfl
    have hc1 := hcur 1 (.int .i64 b) rfl
    clear hnl h2 hcur y1 hon
    by_cases hp : x0 = pipW
    case pos =>
      have HR2 := hide (hst.trans (if_pos hp))
      have hns : ¬ x0 = stoW := by rw [hp]; decide
      rw [decide_eq_true hp] at y2
      rw [decide_eq_false hns] at y3
      clear hp hns hst
      have hrl : Below W2.heap.size W2 W2.drew := (Below.refl _ _).drew
      go_upto_region 9 with fail
      obtain ⟨cw, hkw, hcw⟩ := HW2.out
      obtain ⟨X1, hX1⟩ : ∃ X1, W2.drew = X1 := ⟨_, rfl⟩
      have kg := HK2.out.below hrl HK2.out.lt
      have kn := hkn.below hrl hkn.lt
      have kw := hkw.below hrl hkw.lt
      have ho1 := own_below HO1.out hrl
      have ho2 := own_below HO2.out hrl
      have hB3 := HB2.out.drew
      have hszX : B ≤ W2.drew.heap.size := HSZ.out
      rw [hX1] at kg kn kw ho1 ho2 hB3 hszX
      have mkS : ∀ y : World, Blk y gb 31 #[.slice A1 n1 c1, .slice A2 n2 c2] → Blk y gn 3 cur → Blk y wb 9 cw → (y.cell? ⟨gb, 1, none⟩ = some (.slice A2 n2 c2) ∧ y.cell? ⟨gn, 0, none⟩ = some (.int .i64 a) ∧ y.cell? ⟨gn, 1, none⟩ = some (.int .i64 b) ∧ y.cell? ⟨wb, 0, none⟩ = some (.string xb)) := fun y h1 h2 h3 => ⟨by simpa using h1.cell 1, (h2.cell 0).trans hc0, (h2.cell 1).trans hc1, (h3.cell 0).trans hcw⟩
      have hS := mkS X1 kg kn kw
      have HKX := hide (And.intro kg (And.intro kn kw))
      have HOX := hide (And.intro ho1 ho2)
      have HBX := hide (And.intro hB3 hszX)
      have HMK := hide mkS
      obtain ⟨A3, c3, X3, hrun, hown3, hkeep, hb3⟩ := ed_app ⟨a, b, false⟩ HOX.out.2 HBX.out.2 (by omega)
      have hal : ∀ p : Addr, p.block < X1.heap.size → (X1.alloc (.cells #[.int .i64 a, .int .i64 b, .bool false] 43)).cell? p = X1.cell? p := fun p hp => World.cell?_alloc_lt X1 _ p hp
      have HS4 := hide (HMK.out _ (HKX.out.1.alloc (.cells #[.int .i64 a, .int .i64 b, .bool false] 43)) (HKX.out.2.1.alloc _) (HKX.out.2.2.alloc _))
      have kg3 : Blk X3 gb 31 #[.slice A1 n1 c1, .slice A2 n2 c2] := (hkeep gb HKX.out.1.lt (own_neE HOX.out.2 HKX.out.1 (by decide))).trans HKX.out.1
      have kn3 : Blk X3 gn 3 cur := (hkeep gn HKX.out.2.1.lt (own_neE HOX.out.2 HKX.out.2.1 (by decide))).trans HKX.out.2.1
      have kw3 : Blk X3 wb 9 cw := (hkeep wb HKX.out.2.2.lt (own_neE HOX.out.2 HKX.out.2.2 (by decide))).trans HKX.out.2.2
      have HS5 := hide (HMK.out _ kg3 kn3 kw3)
      have ho13 := own_keep HOX.out.1 HOX.out.2 (by decide) hkeep
      have HK5 := hide (kg3.set_ 1 (.slice A3 (n2 + 1) c3))
      have HO13 := hide (own_far ho13 kg3 (by decide) 1 (.slice A3 (n2 + 1) c3))
      have HO23 := hide (own_far hown3 kg3 (by decide) 1 (.slice A3 (n2 + 1) c3))
      have HB3 := hide ((HBX.out.1.trans hb3).setCell (p := ⟨gb, 1, none⟩) hgB (.slice A3 (n2 + 1) c3))
      have f5 := kg3.frozen 1
      have e5 := kg3.cell 1
      simp at e5
      clear hkeep hb3 hown3 ho13 kg3 kn3 kw3 hal HKX HOX HBX HMK
      clear hrl hkw hcw kg kn kw ho1 ho2 hB3 hszX mkS HK2 HO1 HO2 HB2 HW2 d0 hc0 hc1 hkn
      refine Held.begin (fun y => y.cell? ⟨gb, 1, none⟩ = some (.slice A2 n2 c2) ∧ y.cell? ⟨gn, 0, none⟩ = some (.int .i64 a) ∧ y.cell? ⟨gn, 1, none⟩ = some (.int .i64 b) ∧ y.cell? ⟨wb, 0, none⟩ = some (.string xb)) 20 (by kernel_rfl) ?_
      rw [hX1]
      clear hX1
      refine Held.take (i := 0) (.pointer (some ⟨gb, 0, none⟩)) rfl hS (by kernel_rfl) (by kernel_rfl) (by kernel_rfl) (by kernel_rfl) (fun _ _ _ h => h) rfl (fun y hy => by obtain ⟨x1, x2, x3, x4⟩ := hy; go_simp) ?_
      try simp only [Act.put]
      refine Held.take (i := 1) (.pointer (some ⟨gb, 0, none⟩)) rfl hS (by kernel_rfl) (by kernel_rfl) (by kernel_rfl) (by kernel_rfl) (fun _ _ _ h => h) rfl (fun y hy => by obtain ⟨x1, x2, x3, x4⟩ := hy; go_simp) ?_
      try simp only [Act.put]
      refine Held.take (i := 2) (.pointer (some ⟨gb, 0, none⟩)) rfl hS (by kernel_rfl) (by kernel_rfl) (by kernel_rfl) (by kernel_rfl) (fun _ _ _ h => h) rfl (fun y hy => by obtain ⟨x1, x2, x3, x4⟩ := hy; go_simp) ?_
      try simp only [Act.put]
      refine Held.take (i := 3) (.pointer (some ⟨gb, 1, none⟩)) rfl hS (by kernel_rfl) (by kernel_rfl) (by kernel_rfl) (by kernel_rfl) (fun _ _ _ h => h) rfl (fun y hy => by obtain ⟨x1, x2, x3, x4⟩ := hy; go_simp) ?_
      try simp only [Act.put]
      refine Held.take (i := 4) (.slice A2 n2 c2) rfl hS (by kernel_rfl) (by kernel_rfl) (by kernel_rfl) (by kernel_rfl) (fun _ _ _ h => h) rfl (fun y hy => by obtain ⟨x1, x2, x3, x4⟩ := hy; go_simp) ?_
      try simp only [Act.put]
      refine Held.take (i := 5) (.slice (some ⟨gn, 0, none⟩) nn cn) rfl hS (by kernel_rfl) (by kernel_rfl) (by kernel_rfl) (by kernel_rfl) (fun _ _ _ h => h) rfl (fun y hy => by obtain ⟨x1, x2, x3, x4⟩ := hy; go_simp) ?_
      try simp only [Act.put]
      refine Held.take (i := 6) (.pointer (some ⟨gn, 0, none⟩)) rfl hS (by kernel_rfl) (by kernel_rfl) (by kernel_rfl) (by kernel_rfl) (fun _ _ _ h => h) rfl (fun y hy => by obtain ⟨x1, x2, x3, x4⟩ := hy; go_simp) ?_
      try simp only [Act.put]
      refine Held.take (i := 7) (.int .i64 a) rfl hS (by kernel_rfl) (by kernel_rfl) (by kernel_rfl) (by kernel_rfl) (fun _ _ _ h => h) rfl (fun y hy => by obtain ⟨x1, x2, x3, x4⟩ := hy; go_simp) ?_
      try simp only [Act.put]
      refine Held.take (i := 8) (.slice (some ⟨gn, 0, none⟩) nn cn) rfl hS (by kernel_rfl) (by kernel_rfl) (by kernel_rfl) (by kernel_rfl) (fun _ _ _ h => h) rfl (fun y hy => by obtain ⟨x1, x2, x3, x4⟩ := hy; go_simp) ?_
      try simp only [Act.put]
      refine Held.take (i := 9) (.pointer (some ⟨gn, 1, none⟩)) rfl hS (by kernel_rfl) (by kernel_rfl) (by kernel_rfl) (by kernel_rfl) (fun _ _ _ h => h) rfl (fun y hy => by obtain ⟨x1, x2, x3, x4⟩ := hy; go_simp) ?_
      try simp only [Act.put]
      refine Held.take (i := 10) (.int .i64 b) rfl hS (by kernel_rfl) (by kernel_rfl) (by kernel_rfl) (by kernel_rfl) (fun _ _ _ h => h) rfl (fun y hy => by obtain ⟨x1, x2, x3, x4⟩ := hy; go_simp) ?_
      try simp only [Act.put]
      refine Held.take (i := 11) (.slice (some ⟨wb, 0, none⟩) m m) rfl hS (by kernel_rfl) (by kernel_rfl) (by kernel_rfl) (by kernel_rfl) (fun _ _ _ h => h) rfl (fun y hy => by obtain ⟨x1, x2, x3, x4⟩ := hy; go_simp) ?_
      try simp only [Act.put]
      refine Held.take (i := 12) (.pointer (some ⟨wb, 0, none⟩)) rfl hS (by kernel_rfl) (by kernel_rfl) (by kernel_rfl) (by kernel_rfl) (fun _ _ _ h => h) rfl (fun y hy => by obtain ⟨x1, x2, x3, x4⟩ := hy; go_simp) ?_
      try simp only [Act.put]
      refine Held.take (i := 13) (.string xb) rfl hS (by kernel_rfl) (by kernel_rfl) (by kernel_rfl) (by kernel_rfl) (fun _ _ _ h => h) rfl (fun y hy => by obtain ⟨x1, x2, x3, x4⟩ := hy; go_simp) ?_
      try simp only [Act.put]
      refine Held.take (i := 14) (.bool false) rfl hS (by kernel_rfl) (by kernel_rfl) (by kernel_rfl) (by kernel_rfl) (fun _ _ _ h => h) rfl (fun y hy => by obtain ⟨x1, x2, x3, x4⟩ := hy; go_simp) ?_
      try simp only [Act.put]
      refine Held.take (i := 15) (.agg #[.int .i64 a, .int .i64 b, .bool false]) rfl hS (by kernel_rfl) (by kernel_rfl) (by kernel_rfl) (by kernel_rfl) (fun _ _ _ h => h) rfl (fun y hy => by obtain ⟨x1, x2, x3, x4⟩ := hy; go_simp) ?_
      try simp only [Act.put]
      refine Held.one (i := 16) rfl (by kernel_rfl) rfl (fun K hK => ?_)
      unfold Oper.wp
      go_simp
      refine hK _ _ (fun _ => HS4.out) ?_
      try simp only [Act.put]
      clear hK K hS
      refine Held.one (i := 17) rfl (by kernel_rfl) rfl (fun K hK => ?_)
      refine wp_append_isW _ _ 29 rfl rfl rfl rfl hrun ?_
      refine hK _ _ (fun _ => HS5.out) ?_
      try simp only [Act.put]
      clear hK K HS4
      refine Held.one (i := 18) rfl (by kernel_rfl) rfl (fun K hK => ?_)
      unfold Oper.wp
      go_simp
      refine hK _ _ (fun _ => HS5.out) ?_
      try simp only [Act.put]
      clear hK K
      refine Held.one (i := 19) rfl (by kernel_rfl) rfl (fun K hK => ?_)
      unfold Oper.wp
      go_simp
      refine hK _ _ (fun _ => HS5.out) ?_
      try simp only [Act.put]
      clear hK K
      refine Held.one (i := 20) rfl (by kernel_rfl) rfl (fun K hK => ?_)
      unfold Oper.wp
      go_simp
      refine hK _ _ (fun h => absurd rfl h) ?_
      try simp only [Act.put]
      clear hK K HS5 e5 f5
      refine Held.done (by kernel_rfl) ?_
      have HK3 := hide (show Blk (X3.setCell ⟨gb, 1, none⟩ (.slice A3 (n2 + 1) c3)) gb 31 #[.slice A1 n1 c1, .slice A3 (n2 + 1) c3] from HK5.out)
      clear HK5 hrun
      go_upto_region 10 with fail
      obtain ⟨W3, hW3⟩ : ∃ W3, X3.setCell ⟨gb, 1, none⟩ (.slice A3 (n2 + 1) c3) = W3 := ⟨_, rfl⟩
      rw [hW3] at HO13 HO23 HB3 HK3 ⊢
      clear hW3
      have hK3 : Blk W3 gb 31 #[.slice A1 n1 c1, .slice A3 (n2 + 1) c3] := HK3.out
      have l0 := hK3.cell 0
      have l1 := hK3.cell 1
      simp at l0 l1
      have hok : (⟨A1, n1, c1, st.ops, A3, (n2 + 1), c3, (st.es ++ [⟨a, b, false⟩])⟩ : Gr).Ok W3 W3.heap.size := ⟨Reads.of_own HO13.out, Reads.of_own HO23.out⟩
      have HV := hide (show Calls Tryd.prog 16 #[.agg #[.slice A1 n1 c1, .slice A3 (n2 + 1) c3]] W3 (RetV W3 (.bool (validC ⟨st.ops, (st.es ++ [⟨a, b, false⟩])⟩))) from by
        have h1 := Valid_any ⟨A1, n1, c1, st.ops, A3, (n2 + 1), c3, (st.es ++ [⟨a, b, false⟩])⟩ W3 hok (by show n1 ≤ _; omega) (by show (n2 + 1) ≤ _; omega)
        rw [hok.validC] at h1
        exact h1)
      have hgl := hK3.lt
      clear hok hK3
      go_wp2_with fail
      refine HV.out.mono ?_
      rintro e W4 ⟨rfl, hb4⟩
      have hsz3 : B ≤ W3.heap.size := by have := HB3.out.size; have := HSZ.out; omega
      have HR4 := hide (RetRd.fin HR2.out (HB3.out.trans (hb4.mono hsz3)) (HK3.out.below hb4 hgl) (own_below HO13.out hb4) (own_below HO23.out hb4) (HN12.out.1) (by rw [List.length_append, HN12.out.2]; rfl))
      clear hb4 l0 l1
      go_wp2
      go_ret
      exact HR4.out
    by_cases hq : x0 = stoW
    case pos =>
      have HR2 := hide (hst.trans ((if_neg hp).trans (if_pos hq)))
      rw [decide_eq_false hp] at y2
      rw [decide_eq_true hq] at y3
      clear hp hq hst
      have hrl : Below W2.heap.size W2 W2.drew := (Below.refl _ _).drew
      go_upto_region 9 with fail
      obtain ⟨cw, hkw, hcw⟩ := HW2.out
      obtain ⟨X1, hX1⟩ : ∃ X1, W2.drew = X1 := ⟨_, rfl⟩
      have kg := HK2.out.below hrl HK2.out.lt
      have kn := hkn.below hrl hkn.lt
      have kw := hkw.below hrl hkw.lt
      have ho1 := own_below HO1.out hrl
      have ho2 := own_below HO2.out hrl
      have hB3 := HB2.out.drew
      have hszX : B ≤ W2.drew.heap.size := HSZ.out
      rw [hX1] at kg kn kw ho1 ho2 hB3 hszX
      have mkS : ∀ y : World, Blk y gb 31 #[.slice A1 n1 c1, .slice A2 n2 c2] → Blk y gn 3 cur → Blk y wb 9 cw → (y.cell? ⟨gb, 1, none⟩ = some (.slice A2 n2 c2) ∧ y.cell? ⟨gn, 0, none⟩ = some (.int .i64 a) ∧ y.cell? ⟨gn, 1, none⟩ = some (.int .i64 b) ∧ y.cell? ⟨wb, 0, none⟩ = some (.string xb)) := fun y h1 h2 h3 => ⟨by simpa using h1.cell 1, (h2.cell 0).trans hc0, (h2.cell 1).trans hc1, (h3.cell 0).trans hcw⟩
      have hS := mkS X1 kg kn kw
      have HKX := hide (And.intro kg (And.intro kn kw))
      have HOX := hide (And.intro ho1 ho2)
      have HBX := hide (And.intro hB3 hszX)
      have HMK := hide mkS
      obtain ⟨A3, c3, X3, hrun, hown3, hkeep, hb3⟩ := ed_app ⟨a, b, true⟩ HOX.out.2 HBX.out.2 (by omega)
      have hal : ∀ p : Addr, p.block < X1.heap.size → (X1.alloc (.cells #[.int .i64 a, .int .i64 b, .bool true] 43)).cell? p = X1.cell? p := fun p hp => World.cell?_alloc_lt X1 _ p hp
      have HS4 := hide (HMK.out _ (HKX.out.1.alloc (.cells #[.int .i64 a, .int .i64 b, .bool true] 43)) (HKX.out.2.1.alloc _) (HKX.out.2.2.alloc _))
      have kg3 : Blk X3 gb 31 #[.slice A1 n1 c1, .slice A2 n2 c2] := (hkeep gb HKX.out.1.lt (own_neE HOX.out.2 HKX.out.1 (by decide))).trans HKX.out.1
      have kn3 : Blk X3 gn 3 cur := (hkeep gn HKX.out.2.1.lt (own_neE HOX.out.2 HKX.out.2.1 (by decide))).trans HKX.out.2.1
      have kw3 : Blk X3 wb 9 cw := (hkeep wb HKX.out.2.2.lt (own_neE HOX.out.2 HKX.out.2.2 (by decide))).trans HKX.out.2.2
      have HS5 := hide (HMK.out _ kg3 kn3 kw3)
      have ho13 := own_keep HOX.out.1 HOX.out.2 (by decide) hkeep
      have HK5 := hide (kg3.set_ 1 (.slice A3 (n2 + 1) c3))
      have HO13 := hide (own_far ho13 kg3 (by decide) 1 (.slice A3 (n2 + 1) c3))
      have HO23 := hide (own_far hown3 kg3 (by decide) 1 (.slice A3 (n2 + 1) c3))
      have HB3 := hide ((HBX.out.1.trans hb3).setCell (p := ⟨gb, 1, none⟩) hgB (.slice A3 (n2 + 1) c3))
      have f5 := kg3.frozen 1
      have e5 := kg3.cell 1
      simp at e5
      clear hkeep hb3 hown3 ho13 kg3 kn3 kw3 hal HKX HOX HBX HMK
      clear hrl hkw hcw kg kn kw ho1 ho2 hB3 hszX mkS HK2 HO1 HO2 HB2 HW2 d0 hc0 hc1 hkn
      refine Held.begin (fun y => y.cell? ⟨gb, 1, none⟩ = some (.slice A2 n2 c2) ∧ y.cell? ⟨gn, 0, none⟩ = some (.int .i64 a) ∧ y.cell? ⟨gn, 1, none⟩ = some (.int .i64 b) ∧ y.cell? ⟨wb, 0, none⟩ = some (.string xb)) 20 (by kernel_rfl) ?_
      rw [hX1]
      clear hX1
      refine Held.take (i := 0) (.pointer (some ⟨gb, 0, none⟩)) rfl hS (by kernel_rfl) (by kernel_rfl) (by kernel_rfl) (by kernel_rfl) (fun _ _ _ h => h) rfl (fun y hy => by obtain ⟨x1, x2, x3, x4⟩ := hy; go_simp) ?_
      try simp only [Act.put]
      refine Held.take (i := 1) (.pointer (some ⟨gb, 0, none⟩)) rfl hS (by kernel_rfl) (by kernel_rfl) (by kernel_rfl) (by kernel_rfl) (fun _ _ _ h => h) rfl (fun y hy => by obtain ⟨x1, x2, x3, x4⟩ := hy; go_simp) ?_
      try simp only [Act.put]
      refine Held.take (i := 2) (.pointer (some ⟨gb, 0, none⟩)) rfl hS (by kernel_rfl) (by kernel_rfl) (by kernel_rfl) (by kernel_rfl) (fun _ _ _ h => h) rfl (fun y hy => by obtain ⟨x1, x2, x3, x4⟩ := hy; go_simp) ?_
      try simp only [Act.put]
      refine Held.take (i := 3) (.pointer (some ⟨gb, 1, none⟩)) rfl hS (by kernel_rfl) (by kernel_rfl) (by kernel_rfl) (by kernel_rfl) (fun _ _ _ h => h) rfl (fun y hy => by obtain ⟨x1, x2, x3, x4⟩ := hy; go_simp) ?_
      try simp only [Act.put]
      refine Held.take (i := 4) (.slice A2 n2 c2) rfl hS (by kernel_rfl) (by kernel_rfl) (by kernel_rfl) (by kernel_rfl) (fun _ _ _ h => h) rfl (fun y hy => by obtain ⟨x1, x2, x3, x4⟩ := hy; go_simp) ?_
      try simp only [Act.put]
      refine Held.take (i := 5) (.slice (some ⟨gn, 0, none⟩) nn cn) rfl hS (by kernel_rfl) (by kernel_rfl) (by kernel_rfl) (by kernel_rfl) (fun _ _ _ h => h) rfl (fun y hy => by obtain ⟨x1, x2, x3, x4⟩ := hy; go_simp) ?_
      try simp only [Act.put]
      refine Held.take (i := 6) (.pointer (some ⟨gn, 0, none⟩)) rfl hS (by kernel_rfl) (by kernel_rfl) (by kernel_rfl) (by kernel_rfl) (fun _ _ _ h => h) rfl (fun y hy => by obtain ⟨x1, x2, x3, x4⟩ := hy; go_simp) ?_
      try simp only [Act.put]
      refine Held.take (i := 7) (.int .i64 a) rfl hS (by kernel_rfl) (by kernel_rfl) (by kernel_rfl) (by kernel_rfl) (fun _ _ _ h => h) rfl (fun y hy => by obtain ⟨x1, x2, x3, x4⟩ := hy; go_simp) ?_
      try simp only [Act.put]
      refine Held.take (i := 8) (.slice (some ⟨gn, 0, none⟩) nn cn) rfl hS (by kernel_rfl) (by kernel_rfl) (by kernel_rfl) (by kernel_rfl) (fun _ _ _ h => h) rfl (fun y hy => by obtain ⟨x1, x2, x3, x4⟩ := hy; go_simp) ?_
      try simp only [Act.put]
      refine Held.take (i := 9) (.pointer (some ⟨gn, 1, none⟩)) rfl hS (by kernel_rfl) (by kernel_rfl) (by kernel_rfl) (by kernel_rfl) (fun _ _ _ h => h) rfl (fun y hy => by obtain ⟨x1, x2, x3, x4⟩ := hy; go_simp) ?_
      try simp only [Act.put]
      refine Held.take (i := 10) (.int .i64 b) rfl hS (by kernel_rfl) (by kernel_rfl) (by kernel_rfl) (by kernel_rfl) (fun _ _ _ h => h) rfl (fun y hy => by obtain ⟨x1, x2, x3, x4⟩ := hy; go_simp) ?_
      try simp only [Act.put]
      refine Held.take (i := 11) (.slice (some ⟨wb, 0, none⟩) m m) rfl hS (by kernel_rfl) (by kernel_rfl) (by kernel_rfl) (by kernel_rfl) (fun _ _ _ h => h) rfl (fun y hy => by obtain ⟨x1, x2, x3, x4⟩ := hy; go_simp) ?_
      try simp only [Act.put]
      refine Held.take (i := 12) (.pointer (some ⟨wb, 0, none⟩)) rfl hS (by kernel_rfl) (by kernel_rfl) (by kernel_rfl) (by kernel_rfl) (fun _ _ _ h => h) rfl (fun y hy => by obtain ⟨x1, x2, x3, x4⟩ := hy; go_simp) ?_
      try simp only [Act.put]
      refine Held.take (i := 13) (.string xb) rfl hS (by kernel_rfl) (by kernel_rfl) (by kernel_rfl) (by kernel_rfl) (fun _ _ _ h => h) rfl (fun y hy => by obtain ⟨x1, x2, x3, x4⟩ := hy; go_simp) ?_
      try simp only [Act.put]
      refine Held.take (i := 14) (.bool true) rfl hS (by kernel_rfl) (by kernel_rfl) (by kernel_rfl) (by kernel_rfl) (fun _ _ _ h => h) rfl (fun y hy => by obtain ⟨x1, x2, x3, x4⟩ := hy; go_simp) ?_
      try simp only [Act.put]
      refine Held.take (i := 15) (.agg #[.int .i64 a, .int .i64 b, .bool true]) rfl hS (by kernel_rfl) (by kernel_rfl) (by kernel_rfl) (by kernel_rfl) (fun _ _ _ h => h) rfl (fun y hy => by obtain ⟨x1, x2, x3, x4⟩ := hy; go_simp) ?_
      try simp only [Act.put]
      refine Held.one (i := 16) rfl (by kernel_rfl) rfl (fun K hK => ?_)
      unfold Oper.wp
      go_simp
      refine hK _ _ (fun _ => HS4.out) ?_
      try simp only [Act.put]
      clear hK K hS
      refine Held.one (i := 17) rfl (by kernel_rfl) rfl (fun K hK => ?_)
      refine wp_append_isW _ _ 29 rfl rfl rfl rfl hrun ?_
      refine hK _ _ (fun _ => HS5.out) ?_
      try simp only [Act.put]
      clear hK K HS4
      refine Held.one (i := 18) rfl (by kernel_rfl) rfl (fun K hK => ?_)
      unfold Oper.wp
      go_simp
      refine hK _ _ (fun _ => HS5.out) ?_
      try simp only [Act.put]
      clear hK K
      refine Held.one (i := 19) rfl (by kernel_rfl) rfl (fun K hK => ?_)
      unfold Oper.wp
      go_simp
      refine hK _ _ (fun _ => HS5.out) ?_
      try simp only [Act.put]
      clear hK K
      refine Held.one (i := 20) rfl (by kernel_rfl) rfl (fun K hK => ?_)
      unfold Oper.wp
      go_simp
      refine hK _ _ (fun h => absurd rfl h) ?_
      try simp only [Act.put]
      clear hK K HS5 e5 f5
      refine Held.done (by kernel_rfl) ?_
      have HK3 := hide (show Blk (X3.setCell ⟨gb, 1, none⟩ (.slice A3 (n2 + 1) c3)) gb 31 #[.slice A1 n1 c1, .slice A3 (n2 + 1) c3] from HK5.out)
      clear HK5 hrun
      go_upto_region 10 with fail
      obtain ⟨W3, hW3⟩ : ∃ W3, X3.setCell ⟨gb, 1, none⟩ (.slice A3 (n2 + 1) c3) = W3 := ⟨_, rfl⟩
      rw [hW3] at HO13 HO23 HB3 HK3 ⊢
      clear hW3
      have hK3 : Blk W3 gb 31 #[.slice A1 n1 c1, .slice A3 (n2 + 1) c3] := HK3.out
      have l0 := hK3.cell 0
      have l1 := hK3.cell 1
      simp at l0 l1
      have hok : (⟨A1, n1, c1, st.ops, A3, (n2 + 1), c3, (st.es ++ [⟨a, b, true⟩])⟩ : Gr).Ok W3 W3.heap.size := ⟨Reads.of_own HO13.out, Reads.of_own HO23.out⟩
      have HV := hide (show Calls Tryd.prog 16 #[.agg #[.slice A1 n1 c1, .slice A3 (n2 + 1) c3]] W3 (RetV W3 (.bool (validC ⟨st.ops, (st.es ++ [⟨a, b, true⟩])⟩))) from by
        have h1 := Valid_any ⟨A1, n1, c1, st.ops, A3, (n2 + 1), c3, (st.es ++ [⟨a, b, true⟩])⟩ W3 hok (by show n1 ≤ _; omega) (by show (n2 + 1) ≤ _; omega)
        rw [hok.validC] at h1
        exact h1)
      have hgl := hK3.lt
      clear hok hK3
      go_wp2_with fail
      refine HV.out.mono ?_
      rintro e W4 ⟨rfl, hb4⟩
      have hsz3 : B ≤ W3.heap.size := by have := HB3.out.size; have := HSZ.out; omega
      have HR4 := hide (RetRd.fin HR2.out (HB3.out.trans (hb4.mono hsz3)) (HK3.out.below hb4 hgl) (own_below HO13.out hb4) (own_below HO23.out hb4) (HN12.out.1) (by rw [List.length_append, HN12.out.2]; rfl))
      clear hb4 l0 l1
      go_wp2
      go_ret
      exact HR4.out
    have HR2 := hide (hst.trans ((if_neg hp).trans (if_neg hq)))
    rw [decide_eq_false hp] at y2
    rw [decide_eq_false hq] at y3
    clear hp hq hst
    go_wp2_with fail
    go_ret
    exact RetRd.bad HR2.out HB2.out HK2.out
