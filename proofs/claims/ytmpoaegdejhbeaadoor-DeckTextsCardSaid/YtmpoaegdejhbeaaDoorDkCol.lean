/-
  The walks of slices.AppendSeq and slices.Collect at ints, over whatever iterator has its contract; the walks of deck.those and of its closure, at the tasks that go back.
-/
import Derived.Test.YtmpoaegdejhbeaaDoorDkGo
import Derived.Sort.QuietIn
namespace Go.Proofs.YtmpoaegdejhbeaaDoor
open Go.RowKit Go.Shelf
attribute [local go_sem] Oper.semAt_some wide_fn wide_depth

def encIv (x : Int) : Array Value := #[.int .i64 x]
def intsL (l : List Int) : List Value := l.map (Value.int .i64)
theorem intsL_snoc (l : List Int) (x : Int) : intsL (l ++ [x]) = intsL l ++ [.int .i64 x] := by simp [intsL]

set_option maxRecDepth 100000 in
set_option maxHeartbeats 2000000 in
theorem AppendSeq_in (n : Nat) (hn : 1 ≤ n) (gf : Nat) (lb : Array Value) (eg : ∀ args w, (callFunc gf args).run Tryd.prog w = .ok (.enter gf args) w) (xs : List Int) (Sp : List Int → Prop) (N : Nat) (hN : N ≤ 1000000) (w : World)
    (hseq : SeqStopsK Fence.wide (n - 1) Tryd.prog gf lb encIv (Bar (w.heap.size + 1) [w.heap.size]) (fun ys => ys = xs) Sp N w) :
    CallsIn Fence.wide n Tryd.prog 45 #[.slice none 0 0, .func (.func gf) #[] lb] w (RetSl w 1 xs.length (intsL xs)) := by
  obtain ⟨i0, hi, hz0, hz1, hz2⟩ := info_parts infoInt_dk
  refine callsIn_of_wp_marks Tryd.func45 rfl trivial ?_ rfl
  simp only [Tryd.ntmps45, List.size_toArray, List.length_cons, List.length_nil, Nat.reduceAdd, Nat.reduceSub, Array.replicate_succ, Array.replicate_zero, List.push_toArray, List.append_toArray, List.nil_append, List.cons_append]
  gi_wp2
  obtain ⟨W0, hW0⟩ : ∃ W0, w.alloc (Obj.cells #[Value.slice none 0 0] 22) = W0 := ⟨_, rfl⟩
  have bO : Boxed W0 w.heap.size 22 (.slice none 0 0) := by rw [← hW0]; exact Boxed.new w _ _
  have hB0 : Below w.heap.size w W0 := by rw [← hW0]; exact (Below.refl _ w).alloc (Nat.le_refl _) _
  have hsz : W0.heap.size = w.heap.size + 1 := by rw [← hW0]; simp
  rw [hW0]
  clear hW0
  have HS := hide hsz
  clear hsz
  refine wpIn_rangeFunc_ownH (n := n) rfl (by omega) (gf := gf) (lb := lb) rfl trivial eg hseq bar_t (bar_b (by rw [HS.out]; omega)) hB0 (fun _ => rfl)
    (fun pre W => (∃ v, Boxed W w.heap.size 22 v ∧ W.ownsRow (w.heap.size + 1) 3 1 v pre.length (intsL pre)) ∧ Bar (w.heap.size + 1) [w.heap.size] W0 W)
    (fun _ _ _ => False)
    (OwnFrom.and (holdsRow_from _ (w.heap.size + 1) w.heap.size 22 3 1 (fun pre : List Int => pre.length) (fun pre => intsL pre)) (ownFrom_bar (by rw [HS.out]; omega) (by rw [HS.out]; omega)))
    (fun _ _ _ _ _ hs _ _ => hs)
    ⟨⟨_, bO, World.ownsRow_nil _ _ _ _⟩, Bar.refl _ _ _⟩
    (fun x a' _ => a' = { tmps := #[.slice none 0 0, .func (.func gf) #[] lb, .pointer (some ⟨w.heap.size, 0, none⟩), undef, .slice none 0 0, .int .i64 x, .func (.func gf) #[] lb, .int .i64 x, undef, undef, undef, undef, undef], defers := [] })
    (fun x a' _ _ _ _ h _ _ => h) ?assign ?body ?done ?stop
  case assign =>
    rintro l pre x W K ⟨⟨v, hv, hrow⟩, hB⟩ hK
    dsimp only [encIv]
    gi_wp2
    exact hK _ _ ((KeepsOthers.refl _).from _) (Bar.refl _ _ W) ⟨⟨v, hv, hrow⟩, hB⟩ rfl
  case body =>
    rintro l pre x a' W hl ⟨r, hr⟩ ⟨⟨v, hv, hrow⟩, hB⟩ rfl hlt
    have hc := hv.cell
    have hWs : w.heap.size + 1 ≤ W.heap.size := by have := hB.size; rw [HS.out] at this; exact this
    gi_wp2_with (gi_at_builtin; refine wpListIn_append_own _ rfl _ _ 22 rfl (w.heap.size + 1) 3 i0 _ 1 8 Tryd.underlying22 hi hz0 hz1 hz2 rfl (by decide) _ _ _ rfl (hrow.alloc _) ⟨W.heap.size, 0, none⟩ 1 1 [.int .i64 x] rfl rfl (cells_new _ _ _) (by simp [Value.oneCell']) (by unfold maxLen; omega) (by omega) (by simp; omega) ?_; intro v' w1 hown' hgrow _; obtain ⟨g', cap', rfl⟩ := ownsRow_succ hown'; obtain ⟨hv1, hv2, hr2, hk2, hb2⟩ := Boxed.collected hv hrow hWs (by omega) hown' hgrow; have hc1 := hv1.cell; have hf1 := hv1.frozen)
    refine ⟨hk2.from _, hb2, ⟨_, hv2, ?_⟩, hB.trans hb2⟩
    rw [intsL_snoc]
    simpa using hr2
  case done =>
    rintro D ys W hD rfl ⟨⟨v, hv, hrow⟩, hB⟩ hK
    have hc := hv.cell
    obtain ⟨A, c, rfl, _⟩ := own_form hrow
    gi_wp2
    refine ⟨by simp, .inl ⟨_, _, rfl, run_takeDeferred hK, ?_⟩⟩
    have hD' : w.heap.size + 1 ≤ D := by rw [HS.out] at hD; exact hD
    refine ⟨_, results_tmp rfl _ _ _, A, c, rfl, ?_, ?_⟩
    · have h := (own_form (ownsRow_putObj hrow (.deferred none) hK rfl))
      obtain ⟨A', c', e, hr⟩ := h
      cases e; exact hr
    · exact (hB0.trans (hB.below (by omega) (by simp))).trans (belowK_b (w := W0) hB0.size W D _ _ (by rw [HS.out]; exact hD') hK rfl rfl)
  case stop =>
    rintro D c pre W _ _ h _
    exact h.elim

theorem Collect_in (n : Nat) (hn : 2 ≤ n) (gf : Nat) (lb : Array Value) (eg : ∀ args w, (callFunc gf args).run Tryd.prog w = .ok (.enter gf args) w) (xs : List Int) (Sp : List Int → Prop) (N : Nat) (hN : N ≤ 1000000) (w : World)
    (hseq : SeqStopsK Fence.wide (n - 2) Tryd.prog gf lb encIv (Bar (w.heap.size + 1) [w.heap.size]) (fun ys => ys = xs) Sp N w) :
    CallsIn Fence.wide n Tryd.prog 31 #[.func (.func gf) #[] lb] w (RetSl w 1 xs.length (intsL xs)) := by
  have hA := hide (AppendSeq_in (n - 1) (by omega) gf lb eg xs Sp N hN w (by rw [show n - 1 - 1 = n - 2 by omega]; exact hseq))
  refine callsIn_of_wp Tryd.func31 rfl trivial ?_ rfl
  simp only [Tryd.ntmps31, List.size_toArray, List.length_cons, List.length_nil, Nat.reduceAdd, Nat.reduceSub, Array.replicate_succ, Array.replicate_zero, List.push_toArray, List.append_toArray, List.nil_append, List.cons_append]
  gi_wp2_with (gi_at_call 45; refine hA.out.mono ?_; rintro e w1 ⟨A, c, rfl, hR, hB⟩)
  go_ret
  exact ⟨A, c, rfl, hR, hB⟩

/-- What the closures of Back's end find in memory. -/
structure Takes (n : Nat) (A1 : Option Addr) (cA1 : Nat) (of : Nat → Nat) (T : Nat → Bool) (B Bs Bt b8 b9 gb a8 o8 c8 c9 : Nat) (W : World) : Prop where
  ls : Bs < B
  lt : Bt < B
  l8 : b8 < B
  l9 : b9 < B
  lg : gb < B
  la : a8 < B
  cs : W.cell? ⟨Bs, 0, none⟩ = some (.slice A1 n cA1)
  ct : W.cell? ⟨Bt, 0, none⟩ = some (.func (Fn.func 33) #[] #[.pointer (some ⟨b9, 0, none⟩), .pointer (some ⟨b8, 0, none⟩)])
  k8 : W.cell? ⟨b8, 0, none⟩ = some (.slice (some ⟨a8, o8, none⟩) n c8)
  k9 : W.cell? ⟨b9, 0, none⟩ = some (.slice (some ⟨gb, 0, none⟩) n c9)
  ro : ∀ i, i < n → W.cell? ⟨a8, o8 + i, none⟩ = some (.int .i64 ((of i : Nat) : Int))
  rb : ∀ i, i < n → W.cell? ⟨gb, i, none⟩ = some (.bool (T i))
theorem Takes.keep {n : Nat} {A1 : Option Addr} {cA1 : Nat} {of : Nat → Nat} {T : Nat → Bool} {B Bs Bt b8 b9 gb a8 o8 c8 c9 : Nat} {W W' : World} (h : Takes n A1 cA1 of T B Bs Bt b8 b9 gb a8 o8 c8 c9 W)
    (hk : ∀ b o, b < B → W'.cell? ⟨b, o, none⟩ = W.cell? ⟨b, o, none⟩) : Takes n A1 cA1 of T B Bs Bt b8 b9 gb a8 o8 c8 c9 W' :=
  ⟨h.ls, h.lt, h.l8, h.l9, h.lg, h.la, (hk _ _ h.ls).trans h.cs, (hk _ _ h.lt).trans h.ct, (hk _ _ h.l8).trans h.k8, (hk _ _ h.l9).trans h.k9, fun i hi => (hk _ _ h.la).trans (h.ro i hi), fun i hi => (hk _ _ h.lg).trans (h.rb i hi)⟩

theorem takes_any {n : Nat} {A1 : Option Addr} {cA1 : Nat} {of : Nat → Nat} {T : Nat → Bool} {B Bs Bt b8 b9 gb a8 o8 c8 c9 : Nat} {W : World} (h : Takes n A1 cA1 of T B Bs Bt b8 b9 gb a8 o8 c8 c9 W) (hof : ∀ i, i < n → of i < n) (t : Nat) (ht : t < n) :
    Calls Tryd.prog 33 #[.int .i64 (t : Int), .pointer (some ⟨b9, 0, none⟩), .pointer (some ⟨b8, 0, none⟩)] W (RetQ W (.bool (T (of t)))) := by
  have k8 := h.k8
  have k9 := h.k9
  have ro := h.ro t ht
  have rb := h.rb (of t) (hof t ht)
  have ho := hof t ht
  obtain ⟨x, hx⟩ : ∃ x, of t = x := ⟨_, rfl⟩
  rw [hx] at ro rb ho ⊢
  clear hx
  have q1 : (0 : Int) ≤ (t : Int) := by omega
  have q2 : (t : Int) < (n : Int) := by omega
  have q3 : (0 : Int) ≤ (x : Int) := by omega
  have q4 : (x : Int) < (n : Int) := by omega
  go_enter Tryd.func33, Tryd.ntmps33
  go_wp2_with fail
  go_quiet (fail)
  go_wp2
  go_ret
  exact ⟨rfl, _, rfl⟩

/-- The tasks below k that are taken. -/
def tkn (p : Nat → Bool) (k : Nat) : List Int := ((List.range k).filter p).map Int.ofNat
theorem tkn_succ (p : Nat → Bool) (k : Nat) : tkn p (k + 1) = if p k then tkn p k ++ [(k : Int)] else tkn p k := by
  unfold tkn
  rw [List.range_succ, List.filter_append, List.map_append]
  cases h : p k
  · simp [List.filter, h]
  · simp [List.filter, h]
theorem tkn_len (p : Nat → Bool) (k : Nat) : (tkn p k).length ≤ k := by
  unfold tkn
  rw [List.length_map]
  exact Nat.le_trans (List.length_filter_le _ _) (by simp)
theorem tkn_pre (p : Nat → Bool) {k n : Nat} (h : k ≤ n) : tkn p k <+: tkn p n := by
  obtain ⟨d, rfl⟩ := Nat.le.dest h
  clear h
  induction d with
  | zero => exact List.prefix_refl _
  | succ d ih =>
    rw [show k + (d + 1) = (k + d) + 1 by omega, tkn_succ]
    split
    · exact ih.trans (List.prefix_append _ _)
    · exact ih

set_option maxRecDepth 100000 in
set_option maxHeartbeats 2000000 in
theorem those1_in (m : Nat) (hm : 1 ≤ m) (l N : Nat) (X : List Nat) {n : Nat} {A1 : Option Addr} {cA1 : Nat} {of : Nat → Nat} {T : Nat → Bool} {B Bs Bt b8 b9 gb a8 o8 c8 c9 : Nat} (hof : ∀ i, i < n → of i < n) (hn : n ≤ 200) (hBN : B ≤ N) (hX : ∀ x ∈ X, B ≤ x)
    (J Jx : List Int → World → Prop) (W : World) (hJ : AbidesFrom W.heap.size J)
    (hY : ∀ pre x W1, J pre W1 → pre.length < n → YieldAt Fence.wide (m - 1) Tryd.prog l (encIv x) W1 fun e W' =>
      (e = .returned (.bool true) ∧ J (pre ++ [x]) W' ∧ Bar N X W1 W') ∨ (e = .returned (.bool false) ∧ Jx (pre ++ [x]) W'))
    (hT : Takes n A1 cA1 of T B Bs Bt b8 b9 gb a8 o8 c8 c9 W) (h0 : J [] W) :
    CallsIn Fence.wide m Tryd.prog 46 #[.func (.yield l) #[] #[], .pointer (some ⟨Bs, 0, none⟩), .pointer (some ⟨Bt, 0, none⟩)] W fun e W' => (∃ v, e = .returned v) ∧
      ((∃ ys, ys = tkn (fun t => T (of t)) n ∧ J ys W') ∨ (∃ pre, pre <+: tkn (fun t => T (of t)) n ∧ Jx pre W')) := by
  have cs := hT.cs
  refine callsIn_of_wp Tryd.func46 rfl trivial ?_ rfl
  simp only [Tryd.ntmps46, List.size_toArray, List.length_cons, List.length_nil, Nat.reduceAdd, Nat.reduceSub, Array.replicate_succ, Array.replicate_zero, List.push_toArray, List.append_toArray, List.nil_append, List.cons_append]
  gi_wp2_with fail
  clear cs
  gi_loopw [4, 8] (fun _ i wr => ∃ k : Nat, k ≤ n ∧ i = .int .i64 k ∧ J (tkn (fun t => T (of t)) k) wr ∧ Takes n A1 cA1 of T B Bs Bt b8 b9 gb a8 o8 c8 c9 wr) (fun _ i _ => n - (intOf i).toNat)
  case atStart => exact ⟨0, Nat.zero_le _, rfl, h0, hT⟩
  case round =>
    clear hT h0
    obtain ⟨k, hk, rfl, hJs, hT⟩ := hrel
    have ct := hT.ct
    by_cases hlt : k < n
    · have HT2 := hide (tkn_succ (fun t => T (of t)) k)
      have HP := hide (tkn_pre (fun t => T (of t)) (show k + 1 ≤ n by omega))
      have hyy := fun W1 h1 h2 => hY (tkn (fun t => T (of t)) k) (k : Int) W1 h1 h2
      have hlen : (tkn (fun t => T (of t)) k).length < n := Nat.lt_of_le_of_lt (tkn_len _ _) hlt
      gi_wp2_with fail
      refine (callsIn_wide.2 (takes_any hT hof k hlt)).mono ?_
      rintro e w1 ⟨rfl, q, rfl⟩
      have hJ2 : J (tkn (fun t => T (of t)) k) (wr.drewN q) := hJ _ wr _ none hJs ⟨rfl, rfl, rfl, Nat.le_refl _, fun _ _ _ => rfl⟩ (by simp)
      have hT2 : Takes n A1 cA1 of T B Bs Bt b8 b9 gb a8 o8 c8 c9 (wr.drewN q) := hT.keep fun _ _ _ => rfl
      obtain ⟨W1, hW1⟩ : ∃ W1, wr.drewN q = W1 := ⟨_, rfl⟩
      rw [hW1] at hJ2 hT2 ⊢
      clear hW1 hJs hT ct
      obtain ⟨fn, tmps, assign, body, hy, hR⟩ := hyy _ hJ2 hlen
      simp only [encIv] at hy
      cases hp : T (of k)
      · rw [hp] at HT2
        have HT3 := HT2.out
        rw [if_neg (by simp)] at HT3
        rw [← HT3] at hJ2
        clear hR hy HT3 HT2
        gi_wp2
        go_roundw
        case rel => exact ⟨k + 1, by omega, by go_num, hJ2, hT2⟩
        case measure => simp [intOf]; omega
      · rw [hp] at HT2
        have HT3 := HT2.out
        rw [if_pos rfl] at HT3
        rw [← HT3] at hR
        clear HT3 HT2
        gi_wp2
        refine hR.mono ?_
        rintro e W3 (⟨rfl, hJ3, hk3⟩ | ⟨rfl, hJx3⟩)
        · have hT3 := hT2.keep fun b o hb => (hk3.below hBN hX).cell (p := ⟨b, o, none⟩) hb
          gi_wp2
          go_roundw
          case rel => exact ⟨k + 1, by omega, by go_num, hJ3, hT3⟩
          case measure => simp [intOf]; omega
        · gi_wp2
          refine bodyPost_ret (results_none rfl _ _ _) rfl ?_
          exact ⟨⟨_, rfl⟩, .inr ⟨_, HP.out, hJx3⟩⟩
    · obtain rfl : k = n := by omega
      gi_wp2
      go_end0
      exact ⟨⟨_, rfl⟩, .inl ⟨_, rfl, hJs⟩⟩

theorem those_stops (m : Nat) (hm : 1 ≤ m) (N : Nat) (X : List Nat) {n : Nat} {A1 : Option Addr} {cA1 : Nat} {of : Nat → Nat} {T : Nat → Bool} {B Bs Bt b8 b9 gb a8 o8 c8 c9 : Nat} (hof : ∀ i, i < n → of i < n) (hn : n ≤ 200) (hBN : B ≤ N) (hX : ∀ x ∈ X, B ≤ x) (w : World)
    (hBw : B ≤ w.heap.size) (hT : Takes n A1 cA1 of T B Bs Bt b8 b9 gb a8 o8 c8 c9 w) :
    SeqStopsK Fence.wide m Tryd.prog 46 #[.pointer (some ⟨Bs, 0, none⟩), .pointer (some ⟨Bt, 0, none⟩)] encIv (Bar N X) (fun ys => ys = tkn (fun t => T (of t)) n) (fun pre => pre <+: tkn (fun t => T (of t)) n) n w := fun l J Jx W hW hJ _ hY h0 =>
  those1_in m hm l N X hof hn hBN hX J Jx W hJ hY (hT.keep fun b o hb => hW.cell (p := ⟨b, o, none⟩) (by show b < _; omega)) h0
end Go.Proofs.YtmpoaegdejhbeaaDoor
