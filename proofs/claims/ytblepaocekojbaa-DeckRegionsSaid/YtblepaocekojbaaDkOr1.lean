/-
  The walks of deck.Order's two closures, of slices.ContainsFunc at edges, and of deck.those's closure at the tasks that are not done.
-/
import Derived.Test.YtblepaocekojbaaDkCol
namespace Go.Proofs.Ytblepaocekojbaa
open Go.RowKit Go.Shelf Go.Deep
attribute [local go_sem] Oper.semAt_some wide_fn wide_depth

/-- Does edge e keep task t from being next? -/
def keepB (D : Nat → Bool) (t : Nat) (e : Ed) : Bool := decide (e.t = (t : Int)) && !D e.f.toNat
/-- What Order's closures find in memory. -/
structure Dones (n : Nat) (D : Nat → Bool) (b4 gb c4 : Nat) (W : World) : Prop where
  k4 : W.cell? ⟨b4, 0, none⟩ = some (.slice (some ⟨gb, 0, none⟩) n c4)
  rb : ∀ i, i < n → W.cell? ⟨gb, i, none⟩ = some (.bool (D i))
theorem Dones.below {n : Nat} {D : Nat → Bool} {b4 gb c4 B : Nat} {W W' : World} (h : Dones n D b4 gb c4 W) (hb : Below B W W') (h4 : b4 < B) (hg : gb < B) : Dones n D b4 gb c4 W' :=
  ⟨(hb.cell (p := ⟨b4, 0, none⟩) h4).trans h.k4, fun i hi => (hb.cell (p := ⟨gb, i, none⟩) hg).trans (h.rb i hi)⟩

set_option maxRecDepth 100000 in
set_option maxHeartbeats 1000000 in
theorem order1_any {n : Nat} {D : Nat → Bool} {b4 gb c4 : Nat} {W : World} (h : Dones n D b4 gb c4 W) (t : Nat) (ht : t < n) :
    Calls Try.prog 58 #[.int .i64 (t : Int), .pointer (some ⟨b4, 0, none⟩)] W (RetQ W (.bool (!D t))) := by
  have k4 := h.k4
  have rb := h.rb t ht
  obtain ⟨x, hx⟩ : ∃ x, D t = x := ⟨_, rfl⟩
  rw [hx] at rb ⊢
  clear hx h
  have q1 : (0 : Int) ≤ (t : Int) := by omega
  have q2 : (t : Int) < (n : Int) := by omega
  go_enter Try.func58, Try.ntmps58
  go_wp2_with fail
  go_ret
  exact ⟨rfl, 0, rfl⟩

set_option maxRecDepth 100000 in
set_option maxHeartbeats 1000000 in
theorem order2_any {n : Nat} {D : Nat → Bool} {b4 gb c4 : Nat} {W : World} (h : Dones n D b4 gb c4 W) (e : Ed) (t b6 : Nat) (h6 : W.cell? ⟨b6, 0, none⟩ = some (.int .i64 (t : Int)))
    (hf0 : 0 ≤ e.f) (hfn : e.f < (n : Int)) :
    Calls Try.prog 60 #[.agg #[.int .i64 e.f, .int .i64 e.t, .bool e.s], .pointer (some ⟨b6, 0, none⟩), .pointer (some ⟨b4, 0, none⟩)] W (RetV W (.bool (keepB D t e))) := by
  obtain ⟨f, hf⟩ := Int.eq_ofNat_of_zero_le hf0
  have k4 := h.k4
  have rb := h.rb f (by omega)
  have hb4 := World.block_lt_of_cell? W _ k4
  have hgb := World.block_lt_of_cell? W _ rb
  have hb6 := World.block_lt_of_cell? W _ h6
  simp only at hb4 hgb hb6
  unfold keepB
  rw [hf] at hfn ⊢
  rw [Int.toNat_natCast]
  obtain ⟨x, hx⟩ : ∃ x, D f = x := ⟨_, rfl⟩
  rw [hx] at rb ⊢
  obtain ⟨et, het⟩ : ∃ et, e.t = et := ⟨_, rfl⟩
  rw [het]
  obtain ⟨es, hes⟩ : ∃ es, e.s = es := ⟨_, rfl⟩
  rw [hes]
  clear hx h hf hf0 het hes
  have q1 : (0 : Int) ≤ (f : Int) := by omega
  have hB : Below W.heap.size W (W.alloc (.cells #[.int .i64 (f : Int), .int .i64 et, .bool es] 71)) := (Below.refl _ _).alloc (Nat.le_refl _) _
  by_cases het : et = (t : Int)
  · have n1 : (et == (t : Int)) = true := by simpa using het
    have HE := hide (show (decide (et = (t : Int)) && !x) = !x from by rw [decide_eq_true het]; rfl)
    rw [HE.out]
    clear het
    go_enter Try.func60, Try.ntmps60
    go_wp2
    go_ret
    exact ⟨rfl, hB⟩
  · have n1 : (et == (t : Int)) = false := by simpa using het
    have HE := hide (show (decide (et = (t : Int)) && !x) = false from by rw [decide_eq_false het]; rfl)
    rw [HE.out]
    clear het
    go_enter Try.func60, Try.ntmps60
    go_wp2
    go_ret
    exact ⟨rfl, hB⟩

set_option maxRecDepth 100000 in
set_option maxHeartbeats 2000000 in
theorem idx_edge {n : Nat} {D : Nat → Bool} {b4 gb c4 : Nat} (A : Option Addr) (m c B : Nat) (es : List Ed) (t b6 : Nat) (W : World) (hes : Reads W B 3 A m (es.flatMap encEd)) (h : Dones n D b4 gb c4 W) (h6 : W.cell? ⟨b6, 0, none⟩ = some (.int .i64 (t : Int)))
    (hB : B ≤ W.heap.size) (hm : m ≤ 400) (hok : ∀ e ∈ es, 0 ≤ e.f ∧ e.f < (n : Int)) :
    Calls Try.prog 86 #[.slice A m c, .func (Fn.func 60) #[] #[.pointer (some ⟨b6, 0, none⟩), .pointer (some ⟨b4, 0, none⟩)]] W fun e W' => (∃ i : Int, e = .returned (.int .i64 i) ∧ decide (0 ≤ i) = es.any (keepB D t)) ∧ Below W.heap.size W W' := by
  have hb4 := World.block_lt_of_cell? W _ h.k4
  have hb6 := World.block_lt_of_cell? W _ h6
  simp only at hb4 hb6
  have HL := hide (hes.len encEd_len (by omega))
  have hgb : 0 < n → gb < W.heap.size := fun h0 => by
    have := World.block_lt_of_cell? W _ (h.rb 0 h0)
    exact this
  go_enter Try.func86, Try.ntmps86
  go_wp2_with fail
  go_loopw [8] (fun i wr => ∃ k : Nat, k ≤ m ∧ i = .int .i64 k ∧ (es.take k).any (keepB D t) = false ∧ Below W.heap.size W wr) (fun i _ => m - (intOf i).toNat)
  case atStart => exact ⟨0, Nat.zero_le _, rfl, rfl, Below.refl _ _⟩
  case round =>
    obtain ⟨k, hk, rfl, hany, hBw⟩ := hrel
    have HA := hide hany
    clear hany
    by_cases hlt : k < m
    · obtain ⟨b, off, e, rfl, hb, hek, hce⟩ := (hes.more hB).below hBw |>.elem encEd_len HL.out hlt
      have HEK := hide hek
      obtain ⟨v1, v2⟩ := hok e (List.mem_of_getElem? hek)
      have hD : Dones n D b4 gb c4 wr := h.below hBw hb4 (hgb (by omega))
      have h6' := (hBw.cell (p := ⟨b6, 0, none⟩) hb6).trans h6
      have e0 : wr.cell? ⟨b, off + k * 3, none⟩ = some (.int .i64 e.f) := by simpa using hce 0 _ rfl
      have e1 : wr.cell? ⟨b, off + k * 3 + 1, none⟩ = some (.int .i64 e.t) := by simpa [← Nat.add_assoc] using hce 1 _ rfl
      have e2 : wr.cell? ⟨b, off + k * 3 + 2, none⟩ = some (.bool e.s) := by simpa [← Nat.add_assoc] using hce 2 _ rfl
      clear hce hek
      have q1 : (0 : Int) ≤ (k : Int) := by omega
      have q2 : (k : Int) < (m : Int) := by omega
      go_wp2_with fail
      refine (order2_any hD e t b6 h6' v1 v2).mono ?_
      rintro ee w1 ⟨rfl, hB1⟩
      have hB2 := bstep hBw hB1
      cases hq : keepB D t e
      · have HX := hide (show (es.take (k + 1)).any (keepB D t) = false from by rw [take_snoc' HEK.out, List.any_append, HA.out]; simp [hq])
        clear hq hB1 hBw e0 e1 e2
        go_wp2
        go_roundw
        case rel => exact ⟨k + 1, by omega, by go_num, HX.out, hB2⟩
        case measure => simp [intOf]; omega
      · have HX := hide (show es.any (keepB D t) = true from List.any_eq_true.2 ⟨e, List.mem_of_getElem? HEK.out, hq⟩)
        clear hq hB1 hBw e0 e1 e2
        go_wp2
        go_ret
        exact ⟨⟨_, rfl, by rw [HX.out]; simp⟩, hB2⟩
    · obtain rfl : k = m := by omega
      go_wp2
      go_ret
      exact ⟨⟨_, rfl, by
        have := HA.out
        rw [take_all HL.out] at this
        rw [this]; rfl⟩, hBw⟩
theorem con_edge {n : Nat} {D : Nat → Bool} {b4 gb c4 : Nat} (A : Option Addr) (m c B : Nat) (es : List Ed) (t b6 : Nat) (W : World) (hes : Reads W B 3 A m (es.flatMap encEd)) (h : Dones n D b4 gb c4 W) (h6 : W.cell? ⟨b6, 0, none⟩ = some (.int .i64 (t : Int)))
    (hB : B ≤ W.heap.size) (hm : m ≤ 400) (hok : ∀ e ∈ es, 0 ≤ e.f ∧ e.f < (n : Int)) :
    Calls Try.prog 59 #[.slice A m c, .func (Fn.func 60) #[] #[.pointer (some ⟨b6, 0, none⟩), .pointer (some ⟨b4, 0, none⟩)]] W (RetV W (.bool (es.any (keepB D t)))) := by
  go_enter Try.func59, Try.ntmps59
  go_wp2_with (go_at_call 86; refine (idx_edge A m c B es t b6 W hes h h6 hB hm hok).mono ?_; rintro e w' ⟨⟨i, rfl, hi⟩, hB1⟩)
  go_ret
  exact ⟨rfl, hB1⟩

/-! The iterator. -/
abbrev Tsk (n : Nat) := { t : Nat // t < n }
def encT {n : Nat} (x : Tsk n) : Array Value := #[.int .i64 ((x.1 : Nat) : Int)]
def lft (D : Nat → Bool) (k : Nat) : List Nat := (List.range k).filter fun t => !D t
theorem lft_succ (D : Nat → Bool) (k : Nat) : lft D (k + 1) = if D k = false then lft D k ++ [k] else lft D k := by
  unfold lft
  rw [List.range_succ, List.filter_append]
  cases h : D k <;> simp [List.filter, h]
theorem lft_len (D : Nat → Bool) (k : Nat) : (lft D k).length ≤ k := by
  unfold lft
  exact Nat.le_trans (List.length_filter_le _ _) (by simp)
theorem lft_pre (D : Nat → Bool) {k n : Nat} (h : k ≤ n) : lft D k <+: lft D n := by
  obtain ⟨d, rfl⟩ := Nat.le.dest h
  clear h
  induction d with
  | zero => exact List.prefix_refl _
  | succ d ih =>
    rw [show k + (d + 1) = (k + d) + 1 by omega, lft_succ]
    split
    · exact ih.trans (List.prefix_append _ _)
    · exact ih

/-- What those's closure finds in memory. -/
structure OTakes (n : Nat) (A1 : Option Addr) (cA1 : Nat) (D : Nat → Bool) (B Bs Bt b4 gb c4 : Nat) (W : World) : Prop where
  ls : Bs < B
  lt : Bt < B
  l4 : b4 < B
  lg : gb < B
  cs : W.cell? ⟨Bs, 0, none⟩ = some (.slice A1 n cA1)
  ct : W.cell? ⟨Bt, 0, none⟩ = some (.func (Fn.func 58) #[] #[.pointer (some ⟨b4, 0, none⟩)])
  dn : Dones n D b4 gb c4 W
theorem OTakes.below {n : Nat} {A1 : Option Addr} {cA1 : Nat} {D : Nat → Bool} {B Bs Bt b4 gb c4 : Nat} {W W' : World} (h : OTakes n A1 cA1 D B Bs Bt b4 gb c4 W) (hb : Below B W W') : OTakes n A1 cA1 D B Bs Bt b4 gb c4 W' :=
  ⟨h.ls, h.lt, h.l4, h.lg, (hb.cell (p := ⟨Bs, 0, none⟩) h.ls).trans h.cs, (hb.cell (p := ⟨Bt, 0, none⟩) h.lt).trans h.ct, h.dn.below hb h.l4 h.lg⟩

set_option maxRecDepth 100000 in
set_option maxHeartbeats 2000000 in
theorem othose1_in (m : Nat) (hm : 1 ≤ m) (l : Nat) {n : Nat} {A1 : Option Addr} {cA1 : Nat} {D : Nat → Bool} {B Bs Bt b4 gb c4 : Nat} (hn : n ≤ 200)
    (J Jx : List (Tsk n) → World → Prop) (W : World) (hJ : AbidesFrom W.heap.size J)
    (hY : ∀ pre x W1, J pre W1 → pre.length < n → YieldAt Fence.wide (m - 1) Try.prog l (encT x) W1 fun e W' =>
      (e = .returned (.bool true) ∧ J (pre ++ [x]) W' ∧ Below B W1 W') ∨ (e = .returned (.bool false) ∧ Jx (pre ++ [x]) W'))
    (hT : OTakes n A1 cA1 D B Bs Bt b4 gb c4 W) (h0 : J [] W) :
    CallsIn Fence.wide m Try.prog 84 #[.func (.yield l) #[] #[], .pointer (some ⟨Bs, 0, none⟩), .pointer (some ⟨Bt, 0, none⟩)] W fun e W' => (∃ v, e = .returned v) ∧
      ((∃ ys : List (Tsk n), ys.map (·.1) = lft D n ∧ J ys W') ∨ (∃ pre : List (Tsk n), pre.map (·.1) <+: lft D n ∧ Jx pre W')) := by
  have cs := hT.cs
  refine callsIn_of_wp Try.func84 rfl trivial ?_ rfl
  simp only [Try.ntmps84, List.size_toArray, List.length_cons, List.length_nil, Nat.reduceAdd, Nat.reduceSub, Array.replicate_succ, Array.replicate_zero, List.push_toArray, List.append_toArray, List.nil_append, List.cons_append]
  gi_wp2_with fail
  clear cs
  gi_loopw [4, 8] (fun _ i wr => ∃ k : Nat, k ≤ n ∧ i = .int .i64 k ∧ (∃ ys : List (Tsk n), ys.map (·.1) = lft D k ∧ J ys wr) ∧ OTakes n A1 cA1 D B Bs Bt b4 gb c4 wr) (fun _ i _ => n - (intOf i).toNat)
  case atStart => exact ⟨0, Nat.zero_le _, rfl, ⟨[], rfl, h0⟩, hT⟩
  case round =>
    clear hT h0
    obtain ⟨k, hk, rfl, ⟨ys, hys, hJs⟩, hT⟩ := hrel
    have ct := hT.ct
    have HYS := hide hys
    by_cases hlt : k < n
    · have HT2 := hide (lft_succ D k)
      have HP := hide (lft_pre D (show k + 1 ≤ n by omega))
      have hlen : ys.length < n := by
        have h1 : ys.length = (lft D k).length := by rw [← hys]; simp
        have := lft_len D k
        omega
      have hyy := fun W1 h1 => hY ys ⟨k, hlt⟩ W1 h1 hlen
      clear hys hlen
      gi_wp2_with fail
      refine (callsIn_wide.2 (order1_any hT.dn k hlt)).mono ?_
      rintro e w1 ⟨rfl, q, rfl⟩
      have hJ2 : J ys (wr.drewN q) := hJ _ wr _ none hJs ⟨rfl, rfl, rfl, Nat.le_refl _, fun _ _ _ => rfl⟩ (by simp)
      have hT2 : OTakes n A1 cA1 D B Bs Bt b4 gb c4 (wr.drewN q) := hT.below (below_drewN (Below.refl _ _) q)
      obtain ⟨W1, hW1⟩ : ∃ W1, wr.drewN q = W1 := ⟨_, rfl⟩
      rw [hW1] at hJ2 hT2 ⊢
      clear hW1 hJs hT ct
      obtain ⟨fn, tmps, assign, body, hy, hR⟩ := hyy _ hJ2
      simp only [encT] at hy
      cases hp : D k
      · have HT3 := hide (show lft D (k + 1) = lft D k ++ [k] from by rw [HT2.out, if_pos hp])
        have HYS2 := hide (show (ys ++ [(⟨k, hlt⟩ : Tsk n)]).map (·.1) = lft D (k + 1) from by rw [HT3.out, List.map_append, HYS.out]; rfl)
        clear HT3 HT2 hp
        gi_wp2
        refine hR.mono ?_
        rintro e W3 (⟨rfl, hJ3, hk3⟩ | ⟨rfl, hJx3⟩)
        · have hT3 := hT2.below hk3
          gi_wp2
          go_roundw
          case rel => exact ⟨k + 1, by omega, by go_num, ⟨_, HYS2.out, hJ3⟩, hT3⟩
          case measure => simp [intOf]; omega
        · gi_wp2
          refine bodyPost_ret (results_none rfl _ _ _) rfl ?_
          exact ⟨⟨_, rfl⟩, .inr ⟨_, by rw [HYS2.out]; exact HP.out, hJx3⟩⟩
      · have HT3 := hide (show lft D (k + 1) = lft D k from by rw [HT2.out, if_neg (by rw [hp]; simp)])
        clear hR hy HT2 hp
        gi_wp2
        go_roundw
        case rel => exact ⟨k + 1, by omega, by go_num, ⟨ys, by rw [HT3.out]; exact HYS.out, hJ2⟩, hT2⟩
        case measure => simp [intOf]; omega
    · obtain rfl : k = n := by omega
      gi_wp2
      go_end0
      exact ⟨⟨_, rfl⟩, .inl ⟨ys, HYS.out, hJs⟩⟩

theorem othose_stops (m : Nat) (hm : 1 ≤ m) {n : Nat} {A1 : Option Addr} {cA1 : Nat} {D : Nat → Bool} {B Bs Bt b4 gb c4 : Nat} (hn : n ≤ 200) (w : World)
    (hBw : B ≤ w.heap.size) (hT : OTakes n A1 cA1 D B Bs Bt b4 gb c4 w) :
    SeqStopsK Fence.wide m Try.prog 84 #[.pointer (some ⟨Bs, 0, none⟩), .pointer (some ⟨Bt, 0, none⟩)] (encT (n := n)) (Below B) (fun ys => ys.map (·.1) = lft D n) (fun pre => pre.map (·.1) <+: lft D n) n w := fun l J Jx W hW hJ _ hY h0 =>
  othose1_in m hm l hn J Jx W hJ hY (hT.below (hW.mono hBw)) h0
end Go.Proofs.Ytblepaocekojbaa
