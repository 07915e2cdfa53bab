/-
  The iterators that are handed to bag.gathered: items$1, rows$1.
  items, rows, and the iterator of bag.Apply: the rows of a bag, then those of changes.
  The walks of the reference's Valid over bags, and of told.
  The walks of ValidChange on both sides, and of FewChanges at one change.
  The walks of bag.changes and of the reference's ValidChanges, for every list of changes.
  Sums group: (a + b) + c and a + (b + c) are the same list where all four sums are told without error. (Plain law.)
  The plain laws of sums of bags: they commute, Minus undoes them, and they are what the reference tells.
  The walk of bag.Apply.
-/
import Derived.Test.YtoapjidpfghnlaaGreatDoorGat
import Derived.Test.YtoapjidpfghnlaaGreatDoorBgL
import Derived.Test.YtoapjidpfghnlaaGreatDoorRngH
import Derived.Test.YtoapjidpfghnlaaGreatDoorBgS3
namespace Go.Proofs.YtoapjidpfghnlaaGreatDoor

section
open Go.RowKit
attribute [local go_sem] Oper.semAt_some wide_fn wide_depth
set_option linter.unusedVariables false
set_option linter.unusedSimpArgs false

theorem wrB_alloc {B S : Nat} (X : World) (o : Obj) : WrB B S [] X (X.alloc o) := .below ((Below.refl _ _).alloc (Nat.le_refl _) o)
theorem bar_nil {N : Nat} {X Y : World} (h : Bar N [] X Y) : Below N X Y := h.below (Nat.le_refl _) (by simp)
theorem take_pre {α : Type} {l : List α} {k : Nat} {x : α} (h : l[k]? = some x) : l.take k ++ [x] <+: l := by
  rw [← take_snoc' h]; exact List.take_prefix _ _
/-- The rows of changes, with how often. -/
def chD (l : List Ch) : Bg := l.map fun i => (i.r, i.m)
theorem chD_snoc (l : List Ch) (i : Ch) : chD (l ++ [i]) = chD l ++ [(i.r, i.m)] := by simp [chD]
theorem chD_at {l : List Ch} {k : Nat} {i : Ch} (h : l[k]? = some i) : (chD l)[k]? = some (i.r, i.m) := by unfold chD; rw [List.getElem?_map, h]; rfl
set_option maxRecDepth 100000 in
set_option maxHeartbeats 4000000 in
theorem items1_iter (m : Nat) (hm : 1 ≤ m) (Bx : Nat) (A : Option Addr) (n c : Nat) (l : List It) (W0 : World) (B S : Nat) (Kp : World → World → Prop) (Z : World → Prop) (hZ : ∀ W, Z W → Boxed W Bx 40 (.slice A n c) ∧ BagR W B A n l)
    (hZk : ∀ X Y, Z X → Kp X Y → Z Y) (hZw : ∀ X o, Z X → Z (X.alloc o)) (h00 : Z W0) :
    IterG Fence.wide m Tryz.prog 239 #[.pointer (some ⟨Bx, 0, none⟩)] (ArgR B) (dat l) (WrB B S []) Kp W0 := by
  intro l0 J Jx hJw hJxw hY h0
  have HZ := hide hZ
  have HZk := hide hZk
  have HZw := hide hZw
  obtain ⟨hbx, hb⟩ := hZ W0 h00
  clear hZ hZk hZw
  have HL := hide hb.len
  have HY := hide hY
  have HJ := hide hJw
  have hle := hb.le
  have hbl := hbx.lt
  clear hY hJw hJxw
  have kb := hbx.cell
  clear hbx hb
  refine callsIn_of_wp Tryz.func239 rfl trivial ?_ rfl
  simp only [Tryz.ntmps239, List.size_toArray, List.length_cons, List.length_nil, Nat.reduceAdd, Nat.reduceSub, Array.replicate_succ, Array.replicate_zero, List.push_toArray, List.append_toArray, List.nil_append, List.cons_append]
  gi_wp2_with fail
  gi_loopw [4, 7] (fun _ i wr => ∃ k : Nat, k ≤ n ∧ i = .int .i64 k ∧ J (dat (l.take k)) wr ∧ Z wr) (fun _ i _ => n - (intOf i).toNat)
  case atStart => exact ⟨0, Nat.zero_le _, rfl, h0, h00⟩
  case round =>
    clear h0 h00 kb
    obtain ⟨k, hk, rfl, hJ, hBw⟩ := hrel
    by_cases hlt : k < n
    · obtain ⟨b, off, x, hA, hbb, hxk, e0, e1, hrow⟩ := (HZ.out wr hBw).2.at_ hlt
      have HX := hide hxk
      have hdk := dat_at hxk
      have HDT := hide (show dat (l.take (k + 1)) = dat (l.take k) ++ [(x.r, x.m)] by rw [take_snoc' hxk, dat_snoc])
      have HPR := hide (show dat (l.take k) ++ [(x.r, x.m)] <+: dat l by
        have := take_pre hdk
        unfold dat at this ⊢
        rwa [← List.map_take] at this)
      have hJ1 := HJ.out _ _ _ hJ (wrB_alloc wr (.cells #[.slice x.A x.n x.c, .int .i64 x.m] 119))
      have hB1 : Z (wr.alloc (.cells #[.slice x.A x.n x.c, .int .i64 x.m] 119)) := HZw.out _ _ hBw
      have kx := Blk.new wr 119 #[.slice x.A x.n x.c, .int .i64 x.m]
      clear hxk hdk
      rw [hA]
      have HA := hide hA
      clear hA
      have q1 : (0 : Int) ≤ (k : Int) := by omega
      have q2 : (k : Int) < (n : Int) := by omega
      obtain ⟨fn', tmps', assign', body', hy, hR⟩ := HY.out _ (x.r, x.m) #[.slice x.A x.n x.c, .int .i64 x.m] _ HPR.out hJ1 ⟨x.A, x.n, x.c, rfl, hrow.below ((Below.refl _ _).alloc (Nat.le_refl _) _)⟩
      gi_wp2_with fail
      refine hR.mono ?_
      clear hy hR kx e0 e1 hJ1 hJ hBw
      rintro e W3 (⟨rfl, hJ4, hk4⟩ | ⟨rfl, hJx4, _⟩)
      · have hB4 := HZk.out _ _ hB1 hk4
        rw [← HDT.out] at hJ4
        clear hk4 hB1
        gi_wp2_with fail
        go_roundw
        case rel => exact ⟨k + 1, by omega, by go_num, hJ4, hB4⟩
        case measure => simp [intOf]; omega
      · have HJX := hide hJx4
        clear hJx4 hB1
        gi_wp2_with fail
        refine bodyPost_ret (results_none rfl _ _ _) rfl ?_
        exact ⟨⟨_, rfl⟩, .inr ⟨_, HPR.out, HJX.out⟩⟩
    · obtain rfl : k = n := by omega
      rw [take_all HL.out] at hJ
      have HJE := hide hJ
      clear hJ
      gi_wp2_with fail
      go_end0
      exact ⟨⟨_, rfl⟩, .inl HJE.out⟩
set_option maxRecDepth 100000 in
set_option maxHeartbeats 4000000 in
theorem rows1_iter (m : Nat) (hm : 1 ≤ m) (Bx : Nat) (A : Option Addr) (n c : Nat) (l : List Ch) (W0 : World) (B S : Nat) (Kp : World → World → Prop) (Z : World → Prop) (hZ : ∀ W, Z W → Boxed W Bx 67 (.slice A n c) ∧ ChgR W B A n l)
    (hZk : ∀ X Y, Z X → Kp X Y → Z Y) (hZw : ∀ X o, Z X → Z (X.alloc o)) (h00 : Z W0) :
    IterG Fence.wide m Tryz.prog 240 #[.pointer (some ⟨Bx, 0, none⟩)] (ArgR B) (chD l) (WrB B S []) Kp W0 := by
  intro l0 J Jx hJw hJxw hY h0
  have HZ := hide hZ
  have HZk := hide hZk
  have HZw := hide hZw
  obtain ⟨hbx, hb⟩ := hZ W0 h00
  clear hZ hZk hZw
  have HL := hide (hb.rd.len encCh_len (by omega))
  have HY := hide hY
  have HJ := hide hJw
  have hle := hb.le
  have hbl := hbx.lt
  clear hY hJw hJxw
  have kb := hbx.cell
  clear hbx hb
  refine callsIn_of_wp Tryz.func240 rfl trivial ?_ rfl
  simp only [Tryz.ntmps240, List.size_toArray, List.length_cons, List.length_nil, Nat.reduceAdd, Nat.reduceSub, Array.replicate_succ, Array.replicate_zero, List.push_toArray, List.append_toArray, List.nil_append, List.cons_append]
  gi_wp2_with fail
  gi_loopw [4, 7] (fun _ i wr => ∃ k : Nat, k ≤ n ∧ i = .int .i64 k ∧ J (chD (l.take k)) wr ∧ Z wr) (fun _ i _ => n - (intOf i).toNat)
  case atStart => exact ⟨0, Nat.zero_le _, rfl, h0, h00⟩
  case round =>
    clear h0 h00 kb
    obtain ⟨k, hk, rfl, hJ, hBw⟩ := hrel
    by_cases hlt : k < n
    · obtain ⟨b, off, x, hA, hbb, hxk, e0, e1, e2, hrow⟩ := (HZ.out wr hBw).2.at_ hlt
      have HX := hide hxk
      have hdk := chD_at hxk
      have HDT := hide (show chD (l.take (k + 1)) = chD (l.take k) ++ [(x.r, x.m)] by rw [take_snoc' hxk, chD_snoc])
      have HPR := hide (show chD (l.take k) ++ [(x.r, x.m)] <+: chD l by
        have := take_pre hdk
        unfold chD at this ⊢
        rwa [← List.map_take] at this)
      have hJ1 := HJ.out _ _ _ hJ (wrB_alloc wr (.cells #[.int .i64 x.t, .slice x.A x.n x.c, .int .i64 x.m] 57))
      have hB1 : Z (wr.alloc (.cells #[.int .i64 x.t, .slice x.A x.n x.c, .int .i64 x.m] 57)) := HZw.out _ _ hBw
      have kx := Blk.new wr 57 #[.int .i64 x.t, .slice x.A x.n x.c, .int .i64 x.m]
      clear hxk hdk
      rw [hA]
      have HA := hide hA
      clear hA
      have q1 : (0 : Int) ≤ (k : Int) := by omega
      have q2 : (k : Int) < (n : Int) := by omega
      obtain ⟨fn', tmps', assign', body', hy, hR⟩ := HY.out _ (x.r, x.m) #[.slice x.A x.n x.c, .int .i64 x.m] _ HPR.out hJ1 ⟨x.A, x.n, x.c, rfl, hrow.below ((Below.refl _ _).alloc (Nat.le_refl _) _)⟩
      gi_wp2_with fail
      refine hR.mono ?_
      clear hy hR kx e0 e1 e2 hJ1 hJ hBw
      rintro e W3 (⟨rfl, hJ4, hk4⟩ | ⟨rfl, hJx4, _⟩)
      · have hB4 := HZk.out _ _ hB1 hk4
        rw [← HDT.out] at hJ4
        clear hk4 hB1
        gi_wp2_with fail
        go_roundw
        case rel => exact ⟨k + 1, by omega, by go_num, hJ4, hB4⟩
        case measure => simp [intOf]; omega
      · have HJX := hide hJx4
        clear hJx4 hB1
        gi_wp2_with fail
        refine bodyPost_ret (results_none rfl _ _ _) rfl ?_
        exact ⟨⟨_, rfl⟩, .inr ⟨_, HPR.out, HJX.out⟩⟩
    · obtain rfl : k = n := by omega
      rw [take_all HL.out] at hJ
      have HJE := hide hJ
      clear hJ
      gi_wp2_with fail
      go_end0
      exact ⟨⟨_, rfl⟩, .inl HJE.out⟩
end

section
open Go.RowKit
attribute [local go_sem] Oper.semAt_some wide_fn wide_depth
set_option linter.unusedVariables false
set_option linter.unusedSimpArgs false

theorem items_any (A : Option Addr) (n c : Nat) (w : World) : Calls Tryz.prog 207 #[.slice A n c] w fun e w' => e = .returned (.func (Fn.func 239) #[] #[.pointer (some ⟨w.heap.size, 0, none⟩)]) ∧ w' = w.alloc (.cells #[.slice A n c] 40) := by
  go_enter Tryz.func207, Tryz.ntmps207
  go_wp2
  go_ret
  exact ⟨rfl, rfl⟩
theorem rows_any (A : Option Addr) (n c : Nat) (w : World) : Calls Tryz.prog 208 #[.slice A n c] w fun e w' => e = .returned (.func (Fn.func 240) #[] #[.pointer (some ⟨w.heap.size, 0, none⟩)]) ∧ w' = w.alloc (.cells #[.slice A n c] 67) := by
  go_enter Tryz.func208, Tryz.ntmps208
  go_wp2
  go_ret
  exact ⟨rfl, rfl⟩
theorem roundIn_any {n n' l l' : Nat} {P : Program} {f : FuncId} {tmps : Array Value} {assign body : Code} {w : World} {R : Ending → World → Prop} (h : RoundIn Fence.wide n P l f tmps assign body w R) : RoundIn (Fence.wide.inRound l') n' P l f tmps assign body w R :=
  ⟨h.1, fun c cs _ => h.2 c cs (room_wide _)⟩
theorem roundIn_wide {n n' l : Nat} {P : Program} {f : FuncId} {tmps : Array Value} {assign body : Code} {w : World} {R : Ending → World → Prop} (h : RoundIn Fence.wide n P l f tmps assign body w R) : RoundIn Fence.wide n' P l f tmps assign body w R :=
  ⟨h.1, fun c cs _ => h.2 c cs (room_wide _)⟩
theorem IterG.any {n n' : Nat} {P : Program} {α : Type} {g : Nat} {lb : Array Value} {Arg : α → Array Value → World → Prop} {xs : List α} {Wr Kp : World → World → Prop} {W : World} (h : IterG Fence.wide n P g lb Arg xs Wr Kp W) : IterG Fence.wide n' P g lb Arg xs Wr Kp W :=
  fun l J Jx h1 h2 h3 h4 => callsIn_wide.2 (callsIn_wide.1 (h l J Jx h1 h2 (fun pre x ag W1 a b c => let ⟨fn, tmps, assign, body, e, r⟩ := h3 pre x ag W1 a b c; ⟨fn, tmps, assign, body, e, roundIn_wide r⟩) h4))
theorem wpIn_noPanic {F : Fence} {n : Nat} {P : Program} {c : Code} {Q : Exit → Act → World → Prop} {a : Act} {w : World} (h : c.wpIn F n P (fun e a w => (∀ ch, e ≠ .panic ch) ∧ Q e a w) a w) : c.wpIn F n P Q a w := wpIn_mono h fun e a w h => h.2
/-- The inner loop's word: what lies below wA, and its own box. -/
def KpI (a Bi : Nat) (X Y : World) : Prop := Below a X Y ∧ ∀ v, Boxed X Bi 40 v → Boxed Y Bi 40 v
theorem KeepT.kpI {N S a Bi : Nat} {X Y : World} (h : KeepT N S X Y) (ha : a ≤ N) (hB : S ≤ Bi) : KpI a Bi X Y :=
  ⟨h.bar.below ha (by simp), fun v hv => h.keep Bi _ hB hv (fun c fz e => by injection e with _ e; exact absurd e (by decide))⟩
set_option maxRecDepth 100000 in
set_option maxHeartbeats 8000000 in
theorem apply1_iter (m : Nat) (hm : 3 ≤ m) (Bb Bl : Nat) (A : Option Addr) (n c : Nat) (lb : List It) (A' : Option Addr) (n' c' : Nat) (lc : List Ch) (wA W0 : World) (B N S : Nat) (hbb : Boxed wA Bb 40 (.slice A n c)) (hbl : Boxed wA Bl 67 (.slice A' n' c'))
    (hb : BagR wA B A n lb) (hc : ChgR wA B A' n' lc) (hN : wA.heap.size ≤ N) (hNS : N ≤ S) (hS : S ≤ W0.heap.size) (hB : B ≤ S) (hW0 : Below wA.heap.size wA W0) :
    IterG Fence.wide m Tryz.prog 206 #[.pointer (some ⟨Bb, 0, none⟩), .pointer (some ⟨Bl, 0, none⟩)] (ArgR B) (dat lb ++ chD lc) (WrB B S []) (KeepT N S) W0 := by
  intro l0 J Jx hJw hJxw hY h0
  have HY := hide hY
  have HJ := hide hJw
  have HJx := hide hJxw
  clear hY hJw hJxw
  have hbbl := hbb.lt
  have hbll := hbl.lt
  refine callsIn_of_wp_marks Tryz.func206 rfl trivial ?_ rfl
  simp only [Tryz.ntmps206, List.size_toArray, List.length_cons, List.length_nil, Nat.reduceAdd, Nat.reduceSub, Array.replicate_succ, Array.replicate_zero, List.push_toArray, List.append_toArray, List.nil_append, List.cons_append]
  have kb0 := (hW0.cell (p := ⟨Bb, 0, none⟩) hbbl).trans hbb.cell
  have hy0 := Boxed.new W0 225 (.func (.yield l0) #[] #[])
  have kb : (W0.alloc (.cells #[.func (.yield l0) #[] #[]] 225)).cell? ⟨Bb, 0, none⟩ = some (.slice A n c) := (World.cell?_alloc_lt W0 _ ⟨Bb, 0, none⟩ (by show Bb < _; omega)).trans kb0
  gi_wp2_with fail
  refine (callsIn_wide.2 (items_any A n c _)).mono ?_
  rintro e W2' ⟨rfl, rfl⟩
  have hbi := Boxed.new (W0.alloc (.cells #[.func (.yield l0) #[] #[]] 225)) 40 (.slice A n c)
  have hy2 := hy0.alloc (.cells #[.slice A n c] 40)
  have hB2 : Bar wA.heap.size [] wA ((W0.alloc (.cells #[.func (.yield l0) #[] #[]] 225)).alloc (.cells #[.slice A n c] 40)) :=
    ((Bar.of_below hW0 []).alloc (by omega) _).alloc (by simp; omega) _
  have h2 : J [] ((W0.alloc (.cells #[.func (.yield l0) #[] #[]] 225)).alloc (.cells #[.slice A n c] 40)) := HJ.out _ _ _ (HJ.out _ _ _ h0 (wrB_alloc _ _)) (wrB_alloc _ _)
  have hsz : ((W0.alloc (.cells #[.func (.yield l0) #[] #[]] 225)).alloc (.cells #[.slice A n c] 40)).heap.size = W0.heap.size + 2 := by simp
  simp only [World.size_alloc] at hbi ⊢
  obtain ⟨W2, hW2⟩ : ∃ W2, (W0.alloc (.cells #[.func (.yield l0) #[] #[]] 225)).alloc (.cells #[.slice A n c] 40) = W2 := ⟨_, rfl⟩
  rw [hW2] at hbi hy2 hB2 h2 hsz ⊢
  clear hW2 kb hy0 kb0 h0 hW0
  gi_wp2_with fail
  refine wpIn_iterG (n := m) rfl (by omega) (gf := 239) (lb := #[.pointer (some ⟨W0.heap.size + 1, 0, none⟩)]) rfl trivial (enters_of Tryz.func239 (by kernel_rfl) rfl) (Arg := ArgR B) (xs := dat lb) (Wr := WrB B (W2.heap.size + 2) []) (Kp := KpI wA.heap.size (W0.heap.size + 1))
    (fun W hW hs => items1_iter (m - 1) (by omega) (W0.heap.size + 1) A n c lb W B (W2.heap.size + 2) (KpI wA.heap.size (W0.heap.size + 1)) (fun W => Below wA.heap.size wA W ∧ Boxed W (W0.heap.size + 1) 40 (.slice A n c))
      (fun W h => ⟨h.2, hb.below h.1⟩) (fun X Y h k => ⟨h.1.trans k.1, k.2 _ h.2⟩) (fun X o h => ⟨h.1.alloc h.1.size o, h.2.alloc o⟩) ⟨(bar_nil hB2).trans (hW.mono (by omega)), (hW.block _ hbi.lt).trans hbi⟩)
    (fun x ag W h => by obtain ⟨A, n, c, rfl, _⟩ := h; rfl) (fun X Y h k o hl hk ho hc => h.blk k o ho (by simp) (.inl (by omega))) (fun h k => ⟨h.1.trans k.1, fun v hv => k.2 v (h.2 v hv)⟩)
    (fun W l o o' h1 h2 h3 h4 h5 => ⟨bar_nil (bar_b (N := wA.heap.size) (w := W2) (by omega) W l o o' h1 h3 h4 h5), fun v hv => (World.putObj_heap_other (by omega)).trans hv⟩)
    (fun pre W => J pre W ∧ Boxed W W0.heap.size 225 (.func (.yield l0) #[] #[]) ∧ Bar wA.heap.size [] wA W)
    (fun c pre W => c = .ret ∧ Jx pre W)
    (fun pre X Y row h hg hr => ⟨HJ.out _ _ _ h.1 (WrB.grown hg (by omega) hr), blk_own h.2.1 hg (fun k e => (hr k e).2), h.2.2.grown hg h.2.2.size fun k e => .inl (by have := (hr k e).1; omega)⟩)
    (fun c pre X Y row h hg hr => ⟨h.1, HJx.out _ _ _ h.2 (WrB.grown hg (by omega) hr)⟩)
    (fun s X Y h k => ⟨HJ.out _ _ _ h.1 (k.mono (by omega)), k.blk _ _ h.2.1 (by simp) (.inr rfl), h.2.2.trans (k.bar (by omega) h.2.2.size)⟩)
    (fun c s X Y h k => ⟨h.1, HJx.out _ _ _ h.2 (k.mono (by omega))⟩)
    ⟨h2, hy2, hB2⟩
    (fun pre x a' W => ∃ A1 n1 c1, a' = { tmps := #[.func (.yield l0) #[] #[], .pointer (some ⟨Bb, 0, none⟩), .pointer (some ⟨Bl, 0, none⟩), .pointer (some ⟨W0.heap.size, 0, none⟩), .slice A1 n1 c1, .int .i64 x.2, .slice A n c, .func (Fn.func 239) #[] #[.pointer (some ⟨W0.heap.size + 1, 0, none⟩)], .slice A1 n1 c1, .int .i64 x.2, undef, undef, undef, undef, undef, undef, undef, undef, undef], defers := [] } ∧ RowK W B A1 n1 x.1)
    (fun pre x a' _ X Y row hs hg hr => by
      obtain ⟨A, n, c, h1, h2⟩ := hs
      exact ⟨A, n, c, h1, h2.others hg fun k e => ⟨by have := (hr k e).1; omega, (hr k e).2⟩⟩)
    ?assign ?body ?done ?stop
  case assign =>
    rintro l pre x ag W K hpx hI ⟨A1, n1, c1, rfl, hrow⟩ hK
    gi_wp2
    exact hK _ _ (KeepsFrom.refl _ _) ⟨Below.refl _ _, fun v hv => hv⟩ hI ⟨A1, n1, c1, rfl, hrow⟩
  case body =>
    rintro l1 pre x a' W hpx ⟨hJ, hyW, hBW⟩ ⟨A1, n1, c1, rfl, hrow⟩
    have ky := hyW.cell
    obtain ⟨fn', tmps', assign', body', hy, hR⟩ := HY.out pre x _ _ (hpx.trans (List.prefix_append _ _)) hJ ⟨A1, n1, c1, rfl, hrow⟩
    have hR' := fun n' l' => roundIn_any (n' := n') (l' := l') hR
    clear hR
    gi_wp2_with fail
    refine (hR' _ _).mono ?_
    clear hy hR' hJ
    rintro e W3 (⟨rfl, hJ4, hk4⟩ | ⟨rfl, hJx4, hk4⟩)
    · have hkf : KeepsFrom W2.heap.size W W3 := ⟨hk4.bar.size, fun k o hk ho hc => hk4.keep k o (by omega) ho (fun c fz e => by subst e; cases hc)⟩
      have hkp := hk4.kpI (a := wA.heap.size) (Bi := W0.heap.size + 1) hN (by omega)
      have hy3 := hk4.keep _ _ (by omega) hyW (fun c fz e => by injection e with _ e; exact absurd e (by decide))
      have hB3 := hBW.trans (Bar.of_below hkp.1 [])
      clear hyW hBW hk4
      gi_wp2
      exact ⟨hkf, hkp, hJ4, hy3, hB3⟩
    · have hkf : KeepsFrom W2.heap.size W W3 := ⟨hk4.bar.size, fun k o hk ho hc => hk4.keep k o (by omega) ho (fun c fz e => by subst e; cases hc)⟩
      have hkp := hk4.kpI (a := wA.heap.size) (Bi := W0.heap.size + 1) hN (by omega)
      clear hyW hBW hk4
      gi_wp2
      exact ⟨hkf, hkp, rfl, hJx4⟩
  case done =>
    rintro D W hD ⟨hJ, hyW, hBW⟩ hK
    have kl := (bar_nil hBW).cell (p := ⟨Bl, 0, none⟩) hbll
    rw [hbl.cell] at kl
    have ky := hyW.cell
    have hDl := (Array.getElem?_eq_some_iff.1 hK).1
    gi_wp2_with fail
    refine wpIn_noPanic (wpIn_wide.2 ?_)
    refine Held.begin (fun y => y.cell? ⟨W0.heap.size, 0, none⟩ = some (.func (.yield l0) #[] #[]) ∧ y.cell? ⟨Bl, 0, none⟩ = some (.slice A' n' c')) 3 (by kernel_rfl) ?_
    have hS1 : W.drew.cell? ⟨W0.heap.size, 0, none⟩ = some (.func (.yield l0) #[] #[]) ∧ W.drew.cell? ⟨Bl, 0, none⟩ = some (.slice A' n' c') := ⟨ky, kl⟩
    have hJ1 : J (dat lb) W.drew := HJ.out _ _ _ hJ (.below (Below.refl _ _).drew)
    have hB1 := hBW.drew
    have hK1 : W.drew.heap[D]? = some (.deferred (some [])) := hK
    have hD1 : D < W.drew.heap.size := hDl
    obtain ⟨X, hX⟩ : ∃ X, W.drew = X := ⟨_, rfl⟩
    rw [hX] at hS1 hJ1 hB1 hK1 hD1 ⊢
    clear hX hJ hyW hBW hK hDl kl ky
    refine Held.take (i := 2) (.func (.yield l0) #[] #[]) rfl hS1 (by kernel_rfl) (by kernel_rfl) (by kernel_rfl) (by kernel_rfl) (fun c a w h => absurd rfl (h.1 c)) rfl (fun y hy => by have h1 := hy.1; go_simp) ?_
    try simp only [Act.put]
    refine Held.one (i := 0) rfl (by kernel_rfl) rfl (fun K hK => ?_)
    have hS1' := hS1.2
    unfold Oper.wp
    go_simp
    refine hK _ _ (fun _ => hS1) ?_
    try simp only [Act.put]
    clear hK K hS1'
    refine Held.one (i := 1) rfl (by kernel_rfl) rfl (fun K hK => ?_)
    have hxs := hB1.size
    have hSX : S ≤ X.heap.size := by omega
    have hl2 : (X.alloc (.cells #[.slice A' n' c'] 67)).cell? ⟨W0.heap.size, 0, none⟩ = some (.func (.yield l0) #[] #[]) ∧ (X.alloc (.cells #[.slice A' n' c'] 67)).cell? ⟨Bl, 0, none⟩ = some (.slice A' n' c') :=
      ⟨(World.cell?_alloc_lt X _ ⟨W0.heap.size, 0, none⟩ (by show W0.heap.size < _; omega)).trans hS1.1, (World.cell?_alloc_lt X _ ⟨Bl, 0, none⟩ (by show Bl < _; omega)).trans hS1.2⟩
    have hbx := Boxed.new X 67 (.slice A' n' c')
    have hJ2 := HJ.out _ _ _ hJ1 (wrB_alloc X (.cells #[.slice A' n' c'] 67))
    have hB2' := hB1.alloc (by omega) (.cells #[.slice A' n' c'] 67)
    have hK2 : (X.alloc (.cells #[.slice A' n' c'] 67)).heap[D]? = some (.deferred (some [])) := (Below.heap_alloc _ _ _ hD1).trans hK1
    have hx2 : (X.alloc (.cells #[.slice A' n' c'] 67)).heap.size = X.heap.size + 1 := by simp
    obtain ⟨X2, hX2⟩ : ∃ X2, X.alloc (.cells #[.slice A' n' c'] 67) = X2 := ⟨_, rfl⟩
    unfold Oper.wp
    go_simp
    refine (rows_any A' n' c' X).mono ?_
    rintro e W2' ⟨rfl, rfl⟩
    rw [hX2] at hbx hJ2 hB2' hK2 hx2 hl2 ⊢
    refine hK _ _ (fun _ => hl2) ?_
    try simp only [Act.put]
    clear hK K hS1 hJ1 hB1 hK1
    refine Held.one (i := 3) rfl (by kernel_rfl) rfl (fun K hK => ?_)
    unfold Oper.wp
    go_simp
    refine (callsIn_wide.1 (rows1_iter m (by omega) X.heap.size A' n' c' lc X2 B (X2.heap.size) (KeepT N S) (fun W => Below wA.heap.size wA W ∧ Boxed W X.heap.size 67 (.slice A' n' c')) (fun W h => ⟨h.2, hc.below h.1⟩)
      (fun X Y h k => ⟨h.1.trans (k.bar.below hN (by simp)), k.keep _ _ (by omega) h.2 (fun c fz e => by injection e with _ e; exact absurd e (by decide))⟩) (fun X o h => ⟨h.1.alloc h.1.size o, h.2.alloc o⟩) ⟨bar_nil hB2', hbx⟩
      l0 (fun pre W => J (dat lb ++ pre) W ∧ W.heap[D]? = some (.deferred (some []))) (fun pre W => Jx (dat lb ++ pre) W ∧ W.heap[D]? = some (.deferred (some [])))
      (fun s X Y h k => ⟨HJ.out _ _ _ h.1 (k.mono (by omega)), k.blk D _ h.2 (by simp) (.inl (by omega))⟩)
      (fun s X Y h k => ⟨HJx.out _ _ _ h.1 (k.mono (by omega)), k.blk D _ h.2 (by simp) (.inl (by omega))⟩)
      (fun pre x ag W1 hpx hJ hag => by
        obtain ⟨fn', tmps', assign', body', hy, hR⟩ := HY.out (dat lb ++ pre) x ag W1 (by rw [List.append_assoc]; exact (List.prefix_append_right_inj _).2 hpx) hJ.1 hag
        refine ⟨fn', tmps', assign', body', hy, hR.mono ?_⟩
        rw [List.append_assoc]
        rintro e W' (⟨h1, h2, h3⟩ | ⟨h1, h2, h3⟩)
        · exact .inl ⟨h1, ⟨h2, h3.keep D _ (by omega) hJ.2 (fun c fz e => by cases e)⟩, h3⟩
        · exact .inr ⟨h1, ⟨h2, h3.keep D _ (by omega) hJ.2 (fun c fz e => by cases e)⟩, h3⟩)
      ⟨by rw [List.append_nil]; exact hJ2, hK2⟩)).mono ?_
    rintro e W3 ⟨⟨v, rfl⟩, hfin⟩
    have HF : W3.heap[D]? = some (.deferred (some [])) ∧ (J (dat lb ++ chD lc) W3 ∨ ∃ pre, pre <+: dat lb ++ chD lc ∧ Jx pre W3) := by
      rcases hfin with ⟨h1, h2⟩ | ⟨pre, hp, h1, h2⟩
      · exact ⟨h2, .inl h1⟩
      · exact ⟨h2, .inr ⟨dat lb ++ pre, (List.prefix_append_right_inj _).2 hp, h1⟩⟩
    clear hfin
    obtain ⟨hK3, hfin⟩ := HF
    have HFIN := hide hfin
    clear hfin
    refine hK _ _ (fun h => absurd rfl h) ?_
    try simp only [Act.put]
    clear hK K
    refine Held.done (by kernel_rfl) ⟨(fun ch h => nomatch h), ?_⟩
    gi_wp2
    refine ⟨by simp, .inl ⟨_, _, rfl, run_takeDeferred hK3, ?_⟩⟩
    refine ⟨_, results_none rfl _ _ _, ?_⟩
    refine ⟨⟨_, rfl⟩, ?_⟩
    have hWr : WrB B S [] W3 (W3.putObj D (.deferred none)) := WrB.grown (grownBy_putObj' W3 D _) (C := D) (by omega) (fun k e => by cases e; exact ⟨Nat.le_refl _, _, hK3, rfl⟩)
    rcases HFIN.out with h | ⟨pre, hp, h⟩
    · exact .inl (HJ.out _ _ _ h hWr)
    · exact .inr ⟨pre, hp, HJx.out _ _ _ h hWr⟩
  case stop =>
    rintro D c pre W hD hpre ⟨rfl, hJ⟩ hK
    gi_wp2
    refine ⟨by simp, .inl ⟨_, _, rfl, run_takeDeferred hK, ?_⟩⟩
    refine ⟨_, results_none rfl _ _ _, ?_⟩
    exact ⟨⟨_, rfl⟩, .inr ⟨pre, hpre.trans (List.prefix_append _ _), HJx.out _ _ _ hJ (WrB.grown (grownBy_putObj' W D _) (C := D) (by omega) (fun k e => by cases e; exact ⟨Nat.le_refl _, _, hK, rfl⟩))⟩⟩
end

section
open Go.RowKit
attribute [local go_sem] Oper.semAt_some

set_option maxRecDepth 100000 in
set_option maxHeartbeats 8000000 in
theorem R3Valid_any (A : Option Addr) (n c B : Nat) (l : List It) (w : World) (hb : BagR w B A n l) : Calls Tryz.prog 95 #[.slice A n c] w (RetV w (.bool (okBag (dat l)))) := by
  have hn := hb.le
  have HL := hide (dat_len l)
  have HLN := hide hb.len
  go_enter Tryz.func95, Tryz.ntmps95
  go_wp2_with fail
  go_loopw [3] (fun i wr => ∃ k : Nat, k ≤ n ∧ i = .int .i64 k ∧ ascI none ((dat l).take k) = true ∧ Below w.heap.size w wr) (fun i _ => n - (intOf i).toNat)
  case atStart => exact ⟨0, Nat.zero_le _, rfl, rfl, Below.refl _ _⟩
  case round =>
    obtain ⟨k, hk, rfl, hasc, hBw⟩ := hrel
    have HA := hide hasc
    clear hasc
    by_cases hlt : k < n
    · obtain ⟨b, off, i, rfl, hbl, hik, c0, c1, hrow⟩ := (hb.below hBw).at_ hlt
      have HD := hide (dat_at hik)
      have q1 : (0 : Int) ≤ (k : Int) := by omega
      have q2 : (k : Int) < (n : Int) := by omega
      have p0 := fun (p : BW wr) => BW.cell (a := ⟨b, off + k * 2, none⟩) hbl c0 p
      have p1 := fun (p : BW wr) => BW.cell (a := ⟨b, off + k * 2 + 1, none⟩) hbl c1 p
      clear c0 c1
      obtain ⟨b1, hb1⟩ : ∃ b1, btw i.m (-1000000) 1000000 = b1 := ⟨_, rfl⟩
      obtain ⟨b2, hb2⟩ : ∃ b2, okR i.r = b2 := ⟨_, rfl⟩
      have C1 := hide (fun (p : BW wr) => calls_bw_same (p := p) (v := .bool b1) (by rw [← hb1]; exact R3within_any i.m _ _ p.x))
      have C2 := hide (fun (p : BW wr) => calls_bw (p := p) (v := .bool b2) (by rw [← hb2]; exact R2Valid_any i.A i.n i.c _ i.r p.x (hrow.below p.h).rd (Nat.le_refl _) hrow.le))
      have HN := hide (ascI_next HD.out)
      have HF := hide (ascI_fail HD.out)
      have hnum : numB i.m = (decide (i.m ≠ 0) && b1) := by rw [← hb1]; rfl
      rw [show numB (i.r, i.m).2 = (decide (i.m ≠ 0) && b1) from hnum, hb2] at HN HF
      clear hb1 hb2 hnum
      cases b2
      · have HX := hide (HF.out (by simp))
        clear HN HF
        go_wp2_with fail
        (refine wp_region_quiet_bw (by kernel_rfl) (by kernel_rfl) ?_
         repeat (first | go_big_quiet_step ((first | (go_at_call 146; with_reducible exact C1.out _) | (go_at_call 83; with_reducible exact C2.out _))) | quiet_step ((first | (go_at_call 146; with_reducible exact C1.out _) | (go_at_call 83; with_reducible exact C2.out _))))
         refine wpQuiet_nil ?_
         intro wq hw'
         obtain ⟨⟨_, hbq⟩, hw''⟩ := hw'
         subst hw'')
        have HE := hide (hBw.trans (hbq.mono hBw.size))
        clear hbq hBw p0 p1 C1 C2
        go_wp2
        go_ret
        exact ⟨ret_bool HX.out.symm, HE.out⟩
      · by_cases hm : i.m = 0
        · have HX := hide (HF.out (by simp [hm]))
          have z0 : (i.m == 0) = true := by simp [hm]
          clear HN HF hm
          go_wp2_with fail
          (refine wp_region_quiet_bw (by kernel_rfl) (by kernel_rfl) ?_
           repeat (first | go_big_quiet_step ((first | (go_at_call 146; with_reducible exact C1.out _) | (go_at_call 83; with_reducible exact C2.out _))) | quiet_step ((first | (go_at_call 146; with_reducible exact C1.out _) | (go_at_call 83; with_reducible exact C2.out _))))
           refine wpQuiet_nil ?_
           intro wq hw'
           obtain ⟨⟨_, hbq⟩, hw''⟩ := hw'
           subst hw'')
          have HE := hide (hBw.trans (hbq.mono hBw.size))
          clear hbq hBw p0 p1 C1 C2
          go_wp2
          go_ret
          exact ⟨ret_bool HX.out.symm, HE.out⟩
        · have z0 : (i.m == 0) = false := by simpa using hm
          rw [show decide (i.m ≠ 0) = true from decide_eq_true hm] at HN HF
          clear hm
          cases b1
          · have HX := hide (HF.out (by simp))
            clear HN HF
            go_wp2_with fail
            (refine wp_region_quiet_bw (by kernel_rfl) (by kernel_rfl) ?_
             repeat (first | go_big_quiet_step ((first | (go_at_call 146; with_reducible exact C1.out _) | (go_at_call 83; with_reducible exact C2.out _))) | quiet_step ((first | (go_at_call 146; with_reducible exact C1.out _) | (go_at_call 83; with_reducible exact C2.out _))))
             refine wpQuiet_nil ?_
             intro wq hw'
             obtain ⟨⟨_, hbq⟩, hw''⟩ := hw'
             subst hw'')
            have HE := hide (hBw.trans (hbq.mono hBw.size))
            clear hbq hBw p0 p1 C1 C2
            go_wp2
            go_ret
            exact ⟨ret_bool HX.out.symm, HE.out⟩
          · by_cases hk0 : k = 0
            · have HX := hide (show ascI none ((dat l).take (k + 1)) = true from by rw [HN.out, HA.out]; subst hk0; rfl)
              have q5 : decide (0 < k) = false := decide_eq_false (by omega)
              clear HN HF hk0
              go_wp2_with fail
              (refine wp_region_quiet_bw (by kernel_rfl) (by kernel_rfl) ?_
               repeat (first | go_big_quiet_step ((first | (go_at_call 146; with_reducible exact C1.out _) | (go_at_call 83; with_reducible exact C2.out _))) | quiet_step ((first | (go_at_call 146; with_reducible exact C1.out _) | (go_at_call 83; with_reducible exact C2.out _))))
               refine wpQuiet_nil ?_
               intro wq hw'
               obtain ⟨⟨_, hbq⟩, hw''⟩ := hw'
               subst hw'')
              have HE := hide (hBw.trans (hbq.mono hBw.size))
              clear hbq hBw p0 p1 C1 C2
              go_wp2
              go_roundw
              case rel => exact ⟨k + 1, by omega, by go_num, HX.out, HE.out⟩
              case measure => simp [intOf]; omega
            · obtain ⟨j, rfl⟩ : ∃ j, k = j + 1 := ⟨k - 1, by omega⟩
              obtain ⟨b', off', i', hA', hbl', hik', c0', c1', hrow'⟩ := (hb.below hBw).at_ (show j < n by omega)
              obtain ⟨rfl, rfl⟩ : b = b' ∧ off = off' := by
                injection hA' with h
                injection h with h1 h2
                exact ⟨h1, h2⟩
              clear hA'
              have HD' := hide (lastR_at (dat_at hik'))
              rw [HD'.out] at HN HF
              have y0 := fun (p : BW wr) => BW.cell (a := ⟨b, off + j * 2, none⟩) hbl' c0' p
              obtain ⟨cc, hcc⟩ : ∃ cc, cmpR i'.r i.r = cc := ⟨_, rfl⟩
              have C3 := hide (fun (p : BW wr) => calls_bw (p := p) (v := .int .i64 cc) (by rw [← hcc]; exact R2Compare_any i'.A i'.n i'.c i'.r i.A i.n i.c i.r p.x ((hrow'.below p.h).rd.more (by exact Nat.le_refl _)) ((hrow.below p.h).rd.more (by exact Nat.le_refl _)) hrow'.le))
              have w1 : ((j + 1 : Nat) : Int) - 1 = (j : Int) := by omega
              have w2 : IntKind.i64.wrap (((j + 1 : Nat) : Int) - 1) = (j : Int) := by rw [w1, IntKind.wrap_i64]; omega
              have q3 : (0 : Int) ≤ (j : Int) := by omega
              have q4 : (j : Int) < (n : Int) := by omega
              have q5 : (0 : Int) < ((j + 1 : Nat) : Int) := by omega
              simp only [upB, hcc] at HN HF
              clear hcc
              by_cases hc : cc < 0
              · have n1 : decide (0 ≤ cc) = false := by simp; omega
                have HX := hide (show ascI none ((dat l).take (j + 1 + 1)) = true from by rw [HN.out, HA.out, decide_eq_true hc]; rfl)
                clear HN HF
                go_wp2_with fail
                (refine wp_region_quiet_bw (by kernel_rfl) (by kernel_rfl) ?_
                 repeat (first | go_big_quiet_step ((first | (go_at_call 146; with_reducible exact C1.out _) | (go_at_call 83; with_reducible exact C2.out _) | (go_at_call 106; with_reducible exact C3.out _))) | quiet_step ((first | (go_at_call 146; with_reducible exact C1.out _) | (go_at_call 83; with_reducible exact C2.out _) | (go_at_call 106; with_reducible exact C3.out _))))
                 refine wpQuiet_nil ?_
                 intro wq hw'
                 obtain ⟨⟨_, hbq⟩, hw''⟩ := hw'
                 subst hw'')
                have HE := hide (hBw.trans (hbq.mono hBw.size))
                clear hbq hBw p0 p1 C1 C2 C3 y0
                go_wp2
                go_roundw
                case rel => exact ⟨j + 1 + 1, by omega, by go_num, HX.out, HE.out⟩
                case measure => simp [intOf]; omega
              · have n1 : decide (0 ≤ cc) = true := by simp; omega
                have HX := hide (HF.out (by rw [decide_eq_false hc]; rfl))
                clear HN HF
                go_wp2_with fail
                (refine wp_region_quiet_bw (by kernel_rfl) (by kernel_rfl) ?_
                 repeat (first | go_big_quiet_step ((first | (go_at_call 146; with_reducible exact C1.out _) | (go_at_call 83; with_reducible exact C2.out _) | (go_at_call 106; with_reducible exact C3.out _))) | quiet_step ((first | (go_at_call 146; with_reducible exact C1.out _) | (go_at_call 83; with_reducible exact C2.out _) | (go_at_call 106; with_reducible exact C3.out _))))
                 refine wpQuiet_nil ?_
                 intro wq hw'
                 obtain ⟨⟨_, hbq⟩, hw''⟩ := hw'
                 subst hw'')
                have HE := hide (hBw.trans (hbq.mono hBw.size))
                clear hbq hBw p0 p1 C1 C2 C3 y0
                go_wp2
                go_ret
                exact ⟨ret_bool HX.out.symm, HE.out⟩
    · obtain rfl : k = n := by omega
      have HX := hide (show okBag (dat l) = decide ((k : Int) ≤ 400) from by
        have h := HA.out
        rw [take_all (by rw [HL.out, HLN.out])] at h
        unfold okBag
        rw [h, HL.out, HLN.out, Bool.true_and, Bool.eq_iff_iff, decide_eq_true_eq, decide_eq_true_eq]
        omega)
      go_wp2
      go_ret
      exact ⟨ret_bool HX.out.symm, hBw⟩

end

section
open Go.RowKit
attribute [local go_sem] Oper.semAt_some

theorem R1Within_any (n lo hi : Int) (w : World) : Calls Tryz.prog 196 #[.int .i64 n, .int .i64 lo, .int .i64 hi] w fun e w' => e = .returned (.bool (btw n lo hi)) ∧ w = w' := by
  by_cases h1 : n < lo
  · rw [btw_lo h1]
    go_enter Tryz.func196, Tryz.ntmps196
    go_wp2
    go_ret
    exact ⟨rfl, rfl⟩
  · rw [show btw n lo hi = decide (n ≤ hi) from by simp [btw, show lo ≤ n by omega]]
    go_enter Tryz.func196, Tryz.ntmps196
    go_wp2
    go_ret
    exact ⟨rfl, rfl⟩
theorem R1Valid_any (n : Int) (w : World) : Calls Tryz.prog 150 #[.int .i64 n] w fun e w' => e = .returned (.bool (btw n (-1000000000000) 1000000000000)) ∧ w = w' := by
  go_enter Tryz.func150, Tryz.ntmps150
  go_wp2_with fail
  refine (R1Within_any n _ _ w).mono ?_
  rintro e w' ⟨rfl, rfl⟩
  go_wp2
  go_ret
  exact ⟨rfl, rfl⟩
/-- What ValidChange tells. -/
def okCh (t : Int) (r : Rw) (m : Int) : Bool := btw t (-1000000000000) 1000000000000 && okR r && numB m
set_option maxRecDepth 100000 in
set_option maxHeartbeats 4000000 in
theorem ValidChange_any (t : Int) (A : Option Addr) (n c : Nat) (r : Rw) (m : Int) (w : World) (hr : RowK w w.heap.size A n r) :
    Calls Tryz.prog 151 #[.agg #[.int .i64 t, .slice A n c, .int .i64 m]] w (RetV w (.bool (okCh t r m))) := by
  obtain ⟨p, hp⟩ : ∃ p, okCh t r m = p := ⟨_, rfl⟩
  have HP := hide hp
  rw [hp]
  clear hp
  have hB0 := below_val (w := w) #[.int .i64 t, .slice A n c, .int .i64 m] 57
  have b0 := Blk.new w 57 #[.int .i64 t, .slice A n c, .int .i64 m]
  have hr1 := (hr.below hB0).mono hB0.size
  go_enter Tryz.func151, Tryz.ntmps151
  go_wp2_with fail
  refine (bwithin_any t _ _ _).mono ?_
  rintro e W1 ⟨rfl, rfl⟩
  cases ht : btw t (-1000000000000) 1000000000000
  · have HX := hide (show false = p by rw [← HP.out]; unfold okCh; rw [ht]; rfl)
    clear ht
    go_wp2
    go_ret
    exact ⟨ret_bool HX.out, hB0⟩
  · have HT := hide ht
    clear ht
    go_wp2_with fail
    refine (RowValid_any A n c _ r _ hr1.rd (Nat.le_refl _) hr.le).mono ?_
    rintro e W2 ⟨rfl, hB2⟩
    have c2 : W2.cell? ⟨w.heap.size, 2, none⟩ = some (.int .i64 m) := (hB2.cell (p := ⟨w.heap.size, 2, none⟩) b0.lt).trans (b0.cell 2)
    have hB02 := bstep hB0 hB2
    clear hB2
    cases hq : okR r
    · have HX := hide (show false = p by rw [← HP.out]; unfold okCh; rw [hq]; simp)
      clear hq
      go_wp2
      go_ret
      exact ⟨ret_bool HX.out, hB02⟩
    · have HX := hide (show numB m = p by rw [← HP.out]; unfold okCh; rw [HT.out, hq]; rfl)
      clear hq
      go_wp2_with fail
      refine (number_any m W2).mono ?_
      rintro e W3 ⟨rfl, rfl⟩
      go_wp2
      go_ret
      exact ⟨ret_bool HX.out, hB02⟩
set_option maxRecDepth 100000 in
set_option maxHeartbeats 4000000 in
theorem RValidChange_any (t : Int) (A : Option Addr) (n c : Nat) (r : Rw) (m : Int) (w : World) (hr : RowK w w.heap.size A n r) :
    Calls Tryz.prog 158 #[.agg #[.int .i64 t, .slice A n c, .int .i64 m]] w (RetV w (.bool (okCh t r m))) := by
  obtain ⟨p, hp⟩ : ∃ p, okCh t r m = p := ⟨_, rfl⟩
  have HP := hide hp
  rw [hp]
  clear hp
  have hB0 := below_val (w := w) #[.int .i64 t, .slice A n c, .int .i64 m] 57
  have b0 := Blk.new w 57 #[.int .i64 t, .slice A n c, .int .i64 m]
  have hr1 := (hr.below hB0).mono hB0.size
  go_enter Tryz.func158, Tryz.ntmps158
  go_wp2_with fail
  refine (R1Valid_any t _).mono ?_
  rintro e W1 ⟨rfl, rfl⟩
  cases ht : btw t (-1000000000000) 1000000000000
  · have HX := hide (show false = p by rw [← HP.out]; unfold okCh; rw [ht]; rfl)
    clear ht
    go_wp2
    go_ret
    exact ⟨ret_bool HX.out, hB0⟩
  · have HT := hide ht
    clear ht
    go_wp2_with fail
    refine (R2Valid_any A n c _ r _ hr1.rd (Nat.le_refl _) hr.le).mono ?_
    rintro e W2 ⟨rfl, hB2⟩
    have c2 : W2.cell? ⟨w.heap.size, 2, none⟩ = some (.int .i64 m) := (hB2.cell (p := ⟨w.heap.size, 2, none⟩) b0.lt).trans (b0.cell 2)
    have hB02 := bstep hB0 hB2
    clear hB2
    cases hq : okR r
    · have HX := hide (show false = p by rw [← HP.out]; unfold okCh; rw [hq]; simp)
      clear hq
      go_wp2
      go_ret
      exact ⟨ret_bool HX.out, hB02⟩
    · have HX := hide (show numB m = p by rw [← HP.out]; unfold okCh; rw [HT.out, hq]; rfl)
      clear hq
      by_cases hm : m = 0
      · have z : (m != 0) = false := by simpa using hm
        have HY := hide (show false = p by rw [← HX.out, hm]; rfl)
        clear hm
        go_wp2
        go_ret
        exact ⟨ret_bool HY.out, hB02⟩
      · have z : (m != 0) = true := by simpa using hm
        have HY := hide (show btw m (-1000000) 1000000 = p by
          rw [← HX.out, show numB m = (decide (m ≠ 0) && btw m (-1000000) 1000000) from rfl]
          simp [hm])
        clear hm
        go_wp2_with fail
        refine (R3within_any m _ _ W2).mono ?_
        rintro e W3 ⟨rfl, rfl⟩
        go_wp2
        go_ret
        exact ⟨ret_bool HY.out, hB02⟩
end

section
open Go.RowKit
attribute [local go_sem] Oper.semAt_some

/-- What ValidChange tells of an element. -/
def chV (i : Ch) : Bool := okCh i.t i.r i.m
/-- What ValidChanges tells. -/
def okChs (l : List Ch) : Bool := decide (l.length ≤ 400) && l.all chV
theorem ChgR.len {w : World} {B n : Nat} {A : Option Addr} {l : List Ch} (h : ChgR w B A n l) : l.length = n := h.rd.len encCh_len (by omega)
theorem all_bad {l : List Ch} {k : Nat} {x : Ch} (h : l[k]? = some x) (hx : chV x = false) : l.all chV = false := by
  rw [List.all_eq_false]
  exact ⟨x, List.mem_of_getElem? h, by rw [hx]; decide⟩
theorem all_next {l : List Ch} {k : Nat} {x : Ch} (h : l[k]? = some x) (hx : chV x = true) (hp : (l.take k).all chV = true) : (l.take (k + 1)).all chV = true := by
  rw [take_snoc' h, List.all_append, hp]
  simp [hx]
theorem changes1_any (x : Ch) (w : World) (hr : RowK w w.heap.size x.A x.n x.r) : Calls Tryz.prog 235 #[.agg #[.int .i64 x.t, .slice x.A x.n x.c, .int .i64 x.m]] w (RetV w (.bool (!chV x))) := by
  have hB0 := below_val (w := w) #[.int .i64 x.t, .slice x.A x.n x.c, .int .i64 x.m] 57
  have hr1 := (hr.below hB0).mono hB0.size
  go_enter Tryz.func235, Tryz.ntmps235
  go_wp2_with fail
  refine (ValidChange_any x.t x.A x.n x.c x.r x.m _ hr1).mono ?_
  rintro e W1 ⟨rfl, hB1⟩
  have hB := bstep hB0 hB1
  obtain ⟨b, hb⟩ : ∃ b, okCh x.t x.r x.m = b := ⟨_, rfl⟩
  have HB := hide (show (!b) = !chV x by unfold chV; rw [hb])
  rw [hb]
  clear hB0 hB1 hr1 hb
  go_wp2
  go_ret
  exact ⟨ret_bool HB.out, hB⟩
set_option maxRecDepth 100000 in
set_option maxHeartbeats 2000000 in
theorem idx_chg (A : Option Addr) (n c B : Nat) (l : List Ch) (w : World) (hx : ChgR w B A n l) (hB : B ≤ w.heap.size) :
    Calls Tryz.prog 258 #[.slice A n c, .func (Fn.func 235) #[] #[]] w fun e w' => (∃ i : Int, e = .returned (.int .i64 i) ∧ decide (0 ≤ i) = !l.all chV) ∧ Below w.heap.size w w' := by
  have hn := hx.le
  have HL := hide hx.len
  go_enter Tryz.func258, Tryz.ntmps258
  go_wp2_with fail
  go_loopw [8] (fun i wr => ∃ k : Nat, k ≤ n ∧ i = .int .i64 k ∧ (l.take k).all chV = true ∧ Below w.heap.size w wr) (fun i _ => n - (intOf i).toNat)
  case atStart => exact ⟨0, Nat.zero_le _, rfl, rfl, Below.refl _ _⟩
  case round =>
    obtain ⟨k, hk, rfl, hany, hBw⟩ := hrel
    have HA := hide hany
    clear hany
    by_cases hlt : k < n
    · obtain ⟨b, off, x, rfl, hb, hxk, c0, c1, c2, hrow⟩ := (hx.below hBw).at_ hlt
      have HE := hide hxk
      have hrow' := hrow.mono (Nat.le_trans hB hBw.size)
      clear hxk hrow
      have q1 : (0 : Int) ≤ (k : Int) := by omega
      have q2 : (k : Int) < (n : Int) := by omega
      go_wp2_with fail
      refine (changes1_any x wr hrow').mono ?_
      rintro ee w1 ⟨rfl, hB1⟩
      have hB2 := bstep hBw hB1
      cases hq : chV x
      · have HX := hide (all_bad HE.out hq)
        clear hq hB1 hBw c0 c1 c2
        go_wp2
        go_ret
        exact ⟨⟨_, rfl, by rw [HX.out]; simp⟩, hB2⟩
      · have HX := hide (all_next HE.out hq HA.out)
        clear hq hB1 hBw c0 c1 c2
        go_wp2
        go_roundw
        case rel => exact ⟨k + 1, by omega, by go_num, HX.out, hB2⟩
        case measure => simp [intOf]; omega
    · obtain rfl : k = n := by omega
      go_wp2
      go_ret
      exact ⟨⟨_, rfl, by
        have := HA.out
        rw [take_all HL.out] at this
        rw [this]; rfl⟩, hBw⟩
theorem con_chg (A : Option Addr) (n c B : Nat) (l : List Ch) (w : World) (hx : ChgR w B A n l) (hB : B ≤ w.heap.size) :
    Calls Tryz.prog 234 #[.slice A n c, .func (Fn.func 235) #[] #[]] w (RetV w (.bool (!l.all chV))) := by
  go_enter Tryz.func234, Tryz.ntmps234
  go_wp2_with (go_at_call 258; refine (idx_chg A n c B l w hx hB).mono ?_; rintro e w' ⟨⟨i, rfl, hi⟩, hB1⟩)
  go_ret
  exact ⟨rfl, hB1⟩
theorem changes_any (A : Option Addr) (n c B : Nat) (l : List Ch) (w : World) (hx : ChgR w B A n l) (hB : B ≤ w.heap.size) :
    Calls Tryz.prog 203 #[.slice A n c] w (RetV w (.bool (okChs l))) := by
  have hn := hx.le
  have hl := hx.len
  by_cases h4 : n ≤ 400
  · have n1 : (n : Int) ≤ 400 := by omega
    obtain ⟨v, hv⟩ : ∃ v, l.all chV = v := ⟨_, rfl⟩
    have HP := hide (show v = okChs l by unfold okChs; simp [hl, h4, hv])
    have HV := hide hv
    clear hl h4 hv
    go_enter Tryz.func203, Tryz.ntmps203
    go_wp2_with fail
    refine (con_chg A n c B l w hx hB).mono ?_
    rintro e W1 ⟨rfl, hB1⟩
    rw [HV.out]
    go_wp2
    go_ret
    exact ⟨ret_bool (by simpa using HP.out), hB1⟩
  · have n1 : ¬ (n : Int) ≤ 400 := by omega
    have HP := hide (show false = okChs l by unfold okChs; simp [hl, h4])
    clear hl h4
    rw [← HP.out]
    go_enter Tryz.func203, Tryz.ntmps203
    go_wp2
    go_ret
    exact ⟨rfl, Below.refl _ _⟩
end

section
open Go.RowKit

abbrev addB : Bg → Bg → Bg × Int := comb (fun m k => m + k)
end

section
open Go.RowKit

abbrev subB : Bg → Bg → Bg × Int := comb (fun m k => m - k)
/-- What the reference tells of a list. -/
def toldB (d : Bg) : Bg × Int := if okBag d then (d, 0) else ([], 4)
theorem comb_told {f : Int → Int → Int} {n : Int} (hf : ∀ m k, f m k = m + n * k) (a b : Bg) : comb f a b = if okBag a && okBag b then toldB (plusB a b n) else ([], 1) := by
  have e : f = fun m k => m + n * k := funext fun m => funext fun k => hf m k
  subst e
  unfold comb toldB
  cases ha : okBag a
  · rfl
  · cases hb : okBag b
    · rfl
    · rw [plus_both ha hb n]
end

section
open Go.RowKit
attribute [local go_sem] Oper.semAt_some
set_option linter.unusedVariables false
set_option linter.unusedSimpArgs false

/-- What Apply tells. -/
def applyB (a : Bg) (lc : List Ch) : Bg × Int := if okBag a && okChs lc then toldB (aftB a (chD lc)) else ([], 1)
theorem chs_in {lc : List Ch} (h : okChs lc = true) : (∀ x ∈ chD lc, okR x.1 = true ∧ numB x.2 = true) ∧ lc.length ≤ 400 := by
  unfold okChs at h
  rw [Bool.and_eq_true, decide_eq_true_eq, List.all_eq_true] at h
  refine ⟨fun x hx => ?_, h.1⟩
  obtain ⟨i, hi, rfl⟩ := List.mem_map.1 hx
  have h1 := h.2 i hi
  unfold chV okCh at h1
  simp only [Bool.and_eq_true] at h1
  exact ⟨h1.1.2, h1.2⟩
theorem chD_len (l : List Ch) : (chD l).length = l.length := by simp [chD]
theorem aft_net {a : Bg} {lc : List Ch} (ha : okBag a = true) (hc : okChs lc = true) : Net (a ++ chD lc) (aftB a (chD lc)) :=
  aft_ok (fun x hx => ((chs_in hc).1 x hx).1) (okBag_asc ha).1 fun x hx => (numB_ne ((okBag_asc ha).2.1 x hx)).1
end

end Go.Proofs.YtoapjidpfghnlaaGreatDoor
