/-
  items, rows, and the iterator of bag.Apply: the rows of a bag, then those of changes.
  The walks of bag.changes and of the reference's ValidChanges, for every list of changes.
  The walk of bag.Apply.
  The walks of the reference's After and Apply. (Printed by gen_aft.)
  Plain laws of the changes between two bags.
  The walk of bag.Changes, for every two bags and every time. (Printed by gen_chg.)
  The walks of the reference's Made and Changes. (Printed by gen_made.)
  The walk of BagChanges, for every two bags, changes and time.
-/
import Derived.Test.YtiioiajcoiaalaaGreatDoorGatI
import Derived.Test.YtiioiajcoiaalaaGreatDoorOrdT
import Derived.Test.YtiioiajcoiaalaaGreatDoorBgT7
import Derived.Test.YtiioiajcoiaalaaGreatDoorBgL
import Derived.Test.YtiioiajcoiaalaaGreatDoorBgE
import Derived.Test.YtiioiajcoiaalaaGreatDoorBgS6
import Derived.Test.YtiioiajcoiaalaaGreatDoorBgS8
import Derived.Test.YtiioiajcoiaalaaGreatDoorBgK
import Derived.Test.YtiioiajcoiaalaaGreatDoorLaidT
import Derived.Test.YtiioiajcoiaalaaGreatDoorBgG
import Derived.Test.YtiioiajcoiaalaaGreatDoorBgT2
namespace Go.Proofs.YtiioiajcoiaalaaGreatDoor

section
open Go.RowKit
attribute [local go_sem] Oper.semAt_some wide_fn wide_depth
set_option linter.unusedVariables false
set_option linter.unusedSimpArgs false

theorem items_any (A : Option Addr) (n c : Nat) (w : World) : Calls Tryz.prog 48 #[.slice A n c] w fun e w' => e = .returned (.func (Fn.func 110) #[] #[.pointer (some ⟨w.heap.size, 0, none⟩)]) ∧ w' = w.alloc (.cells #[.slice A n c] 23) := by
  go_enter Tryz.func48, Tryz.ntmps48
  go_wp2
  go_ret
  exact ⟨rfl, rfl⟩
theorem rows_any (A : Option Addr) (n c : Nat) (w : World) : Calls Tryz.prog 49 #[.slice A n c] w fun e w' => e = .returned (.func (Fn.func 111) #[] #[.pointer (some ⟨w.heap.size, 0, none⟩)]) ∧ w' = w.alloc (.cells #[.slice A n c] 24) := by
  go_enter Tryz.func49, Tryz.ntmps49
  go_wp2
  go_ret
  exact ⟨rfl, rfl⟩
theorem roundIn_any {n n' l l' : Nat} {P : Program} {f : FuncId} {tmps : Array Value} {assign body : Code} {w : World} {R : Ending → World → Prop} (h : RoundIn Fence.wide n P l f tmps assign body w R) : RoundIn (Fence.wide.inRound l') n' P l f tmps assign body w R :=
  ⟨h.1, fun c cs _ => h.2 c cs (room_wide _)⟩
theorem roundIn_wide {n n' l : Nat} {P : Program} {f : FuncId} {tmps : Array Value} {assign body : Code} {w : World} {R : Ending → World → Prop} (h : RoundIn Fence.wide n P l f tmps assign body w R) : RoundIn Fence.wide n' P l f tmps assign body w R :=
  ⟨h.1, fun c cs _ => h.2 c cs (room_wide _)⟩
theorem IterG.any {n n' : Nat} {P : Program} {α : Type} {g : Nat} {lb : Array Value} {Arg : α → Array Value → World → Prop} {xs : List α} {Wr Kp : World → World → Prop} {W : World} (h : IterG Fence.wide n P g lb Arg xs Wr Kp W) : IterG Fence.wide n' P g lb Arg xs Wr Kp W :=
  fun l J Jx h1 h2 h3 h4 => callsIn_wide.2 (callsIn_wide.1 (h l J Jx h1 h2 (fun pre x ag W1 a b c => let ⟨fn, tmps, assign, body, e, r⟩ := h3 pre x ag W1 a b c; ⟨fn, tmps, assign, body, e, roundIn_wide r⟩) h4))
theorem wpIn_noPanic {F : Fence} {n : Nat} {P : Program} {c : Code} {Q : Exit → Act → World → Prop} {a : Act} {w : World} (h : c.wpIn F n P (fun e a w => (∀ ch, e ≠ .panic ch) ∧ Q e a w) a w) : c.wpIn F n P Q a w := wpIn_mono h fun e a w h => h.2
/-- The inner loop's word: what lies below wA, and its own box. -/
def KpI (a Bi : Nat) (X Y : World) : Prop := Below a X Y ∧ ∀ v, Boxed X Bi 23 v → Boxed Y Bi 23 v
theorem KeepT.kpI {N S a Bi : Nat} {X Y : World} (h : KeepT N S X Y) (ha : a ≤ N) (hB : S ≤ Bi) : KpI a Bi X Y :=
  ⟨h.bar.below ha (by simp), fun v hv => h.keep Bi _ hB hv (fun c fz e => by injection e with _ e; exact absurd e (by decide))⟩
set_option maxRecDepth 100000 in
set_option maxHeartbeats 8000000 in
theorem apply1_iter (m : Nat) (hm : 3 ≤ m) (Bb Bl : Nat) (A : Option Addr) (n c : Nat) (lb : List It) (A' : Option Addr) (n' c' : Nat) (lc : List Ch) (wA W0 : World) (B N S : Nat) (hbb : Boxed wA Bb 23 (.slice A n c)) (hbl : Boxed wA Bl 24 (.slice A' n' c'))
    (hb : BagR wA B A n lb) (hc : ChgR wA B A' n' lc) (hN : wA.heap.size ≤ N) (hNS : N ≤ S) (hS : S ≤ W0.heap.size) (hB : B ≤ S) (hW0 : Below wA.heap.size wA W0) :
    IterG Fence.wide m Tryz.prog 47 #[.pointer (some ⟨Bb, 0, none⟩), .pointer (some ⟨Bl, 0, none⟩)] (ArgR B) (dat lb ++ chD lc) (WrB B S []) (KeepT N S) W0 := by
  intro l0 J Jx hJw hJxw hY h0
  have HY := hide hY
  have HJ := hide hJw
  have HJx := hide hJxw
  clear hY hJw hJxw
  have hbbl := hbb.lt
  have hbll := hbl.lt
  refine callsIn_of_wp_marks Tryz.func47 rfl trivial ?_ rfl
  simp only [Tryz.ntmps47, List.size_toArray, List.length_cons, List.length_nil, Nat.reduceAdd, Nat.reduceSub, Array.replicate_succ, Array.replicate_zero, List.push_toArray, List.append_toArray, List.nil_append, List.cons_append]
  have kb0 := (hW0.cell (p := ⟨Bb, 0, none⟩) hbbl).trans hbb.cell
  have hy0 := Boxed.new W0 66 (.func (.yield l0) #[] #[])
  have kb : (W0.alloc (.cells #[.func (.yield l0) #[] #[]] 66)).cell? ⟨Bb, 0, none⟩ = some (.slice A n c) := (World.cell?_alloc_lt W0 _ ⟨Bb, 0, none⟩ (by show Bb < _; omega)).trans kb0
  gi_wp2_with fail
  refine (callsIn_wide.2 (items_any A n c _)).mono ?_
  rintro e W2' ⟨rfl, rfl⟩
  have hbi := Boxed.new (W0.alloc (.cells #[.func (.yield l0) #[] #[]] 66)) 23 (.slice A n c)
  have hy2 := hy0.alloc (.cells #[.slice A n c] 23)
  have hB2 : Bar wA.heap.size [] wA ((W0.alloc (.cells #[.func (.yield l0) #[] #[]] 66)).alloc (.cells #[.slice A n c] 23)) :=
    ((Bar.of_below hW0 []).alloc (by omega) _).alloc (by simp; omega) _
  have h2 : J [] ((W0.alloc (.cells #[.func (.yield l0) #[] #[]] 66)).alloc (.cells #[.slice A n c] 23)) := HJ.out _ _ _ (HJ.out _ _ _ h0 (wrB_alloc _ _)) (wrB_alloc _ _)
  have hsz : ((W0.alloc (.cells #[.func (.yield l0) #[] #[]] 66)).alloc (.cells #[.slice A n c] 23)).heap.size = W0.heap.size + 2 := by simp
  simp only [World.size_alloc] at hbi ⊢
  obtain ⟨W2, hW2⟩ : ∃ W2, (W0.alloc (.cells #[.func (.yield l0) #[] #[]] 66)).alloc (.cells #[.slice A n c] 23) = W2 := ⟨_, rfl⟩
  rw [hW2] at hbi hy2 hB2 h2 hsz ⊢
  clear hW2 kb hy0 kb0 h0 hW0
  gi_wp2_with fail
  refine wpIn_iterG (n := m) rfl (by omega) (gf := 110) (lb := #[.pointer (some ⟨W0.heap.size + 1, 0, none⟩)]) rfl trivial (enters_of Tryz.func110 (by kernel_rfl) rfl) (Arg := ArgR B) (xs := dat lb) (Wr := WrB B (W2.heap.size + 2) []) (Kp := KpI wA.heap.size (W0.heap.size + 1))
    (fun W hW hs => items1_iter (m - 1) (by omega) (W0.heap.size + 1) A n c lb W B (W2.heap.size + 2) (KpI wA.heap.size (W0.heap.size + 1)) (fun W => Below wA.heap.size wA W ∧ Boxed W (W0.heap.size + 1) 23 (.slice A n c))
      (fun W h => ⟨h.2, hb.below h.1⟩) (fun X Y h k => ⟨h.1.trans k.1, k.2 _ h.2⟩) (fun X o h => ⟨h.1.alloc h.1.size o, h.2.alloc o⟩) ⟨(bar_nil hB2).trans (hW.mono (by omega)), (hW.block _ hbi.lt).trans hbi⟩)
    (fun x ag W h => by obtain ⟨A, n, c, rfl, _⟩ := h; rfl) (fun X Y h k o hl hk ho hc => h.blk k o ho (by simp) (.inl (by omega))) (fun h k => ⟨h.1.trans k.1, fun v hv => k.2 v (h.2 v hv)⟩)
    (fun W l o o' h1 h2 h3 h4 h5 => ⟨bar_nil (bar_b (N := wA.heap.size) (w := W2) (by omega) W l o o' h1 h3 h4 h5), fun v hv => (World.putObj_heap_other (by omega)).trans hv⟩)
    (fun pre W => J pre W ∧ Boxed W W0.heap.size 66 (.func (.yield l0) #[] #[]) ∧ Bar wA.heap.size [] wA W)
    (fun c pre W => c = .ret ∧ Jx pre W)
    (fun pre X Y row h hg hr => ⟨HJ.out _ _ _ h.1 (WrB.grown hg (by omega) hr), blk_own h.2.1 hg (fun k e => (hr k e).2), h.2.2.grown hg h.2.2.size fun k e => .inl (by have := (hr k e).1; omega)⟩)
    (fun c pre X Y row h hg hr => ⟨h.1, HJx.out _ _ _ h.2 (WrB.grown hg (by omega) hr)⟩)
    (fun s X Y h k => ⟨HJ.out _ _ _ h.1 (k.mono (by omega)), k.blk _ _ h.2.1 (by simp) (.inr rfl), h.2.2.trans (k.bar (by omega) h.2.2.size)⟩)
    (fun c s X Y h k => ⟨h.1, HJx.out _ _ _ h.2 (k.mono (by omega))⟩)
    ⟨h2, hy2, hB2⟩
    (fun pre x a' W => ∃ A1 n1 c1, a' = { tmps := #[.func (.yield l0) #[] #[], .pointer (some ⟨Bb, 0, none⟩), .pointer (some ⟨Bl, 0, none⟩), .pointer (some ⟨W0.heap.size, 0, none⟩), .slice A1 n1 c1, .int .i64 x.2, .slice A n c, .func (Fn.func 110) #[] #[.pointer (some ⟨W0.heap.size + 1, 0, none⟩)], .slice A1 n1 c1, .int .i64 x.2, undef, undef, undef, undef, undef, undef, undef, undef, undef], defers := [] } ∧ RowK W B A1 n1 x.1)
    (fun pre x a' _ X Y row hs hg hr => by
      obtain ⟨A, n, c, h1, h2⟩ := hs
      exact ⟨A, n, c, h1, h2.others hg fun k e => ⟨by have := (hr k e).1; omega, (hr k e).2⟩⟩)
    ?assign ?body ?done ?stop
  case assign =>
    rintro l pre x ag W K hpx hI ⟨A1, n1, c1, rfl, hrow⟩ hK
    gi_wp2
    exact hK _ _ (KeepsFrom.refl _ _) ⟨Below.refl _ _, fun v hv => hv⟩ hI ⟨A1, n1, c1, rfl, hrow⟩
  case body =>
    rintro l1 pre x a' W hpx ⟨hJ, hyW, hBW⟩ ⟨A1, n1, c1, rfl, hrow⟩
    have ky := hyW.cell
    obtain ⟨fn', tmps', assign', body', hy, hR⟩ := HY.out pre x _ _ (hpx.trans (List.prefix_append _ _)) hJ ⟨A1, n1, c1, rfl, hrow⟩
    have hR' := fun n' l' => roundIn_any (n' := n') (l' := l') hR
    clear hR
    gi_wp2_with fail
    refine (hR' _ _).mono ?_
    clear hy hR' hJ
    rintro e W3 (⟨rfl, hJ4, hk4⟩ | ⟨rfl, hJx4, hk4⟩)
    · have hkf : KeepsFrom W2.heap.size W W3 := ⟨hk4.bar.size, fun k o hk ho hc => hk4.keep k o (by omega) ho (fun c fz e => by subst e; cases hc)⟩
      have hkp := hk4.kpI (a := wA.heap.size) (Bi := W0.heap.size + 1) hN (by omega)
      have hy3 := hk4.keep _ _ (by omega) hyW (fun c fz e => by injection e with _ e; exact absurd e (by decide))
      have hB3 := hBW.trans (Bar.of_below hkp.1 [])
      clear hyW hBW hk4
      gi_wp2
      exact ⟨hkf, hkp, hJ4, hy3, hB3⟩
    · have hkf : KeepsFrom W2.heap.size W W3 := ⟨hk4.bar.size, fun k o hk ho hc => hk4.keep k o (by omega) ho (fun c fz e => by subst e; cases hc)⟩
      have hkp := hk4.kpI (a := wA.heap.size) (Bi := W0.heap.size + 1) hN (by omega)
      clear hyW hBW hk4
      gi_wp2
      exact ⟨hkf, hkp, rfl, hJx4⟩
  case done =>
    rintro D W hD ⟨hJ, hyW, hBW⟩ hK
    have kl := (bar_nil hBW).cell (p := ⟨Bl, 0, none⟩) hbll
    rw [hbl.cell] at kl
    have ky := hyW.cell
    have hDl := (Array.getElem?_eq_some_iff.1 hK).1
    gi_wp2_with fail
    refine wpIn_noPanic (wpIn_wide.2 ?_)
    refine Held.begin (fun y => y.cell? ⟨W0.heap.size, 0, none⟩ = some (.func (.yield l0) #[] #[]) ∧ y.cell? ⟨Bl, 0, none⟩ = some (.slice A' n' c')) 3 (by kernel_rfl) ?_
    have hS1 : W.drew.cell? ⟨W0.heap.size, 0, none⟩ = some (.func (.yield l0) #[] #[]) ∧ W.drew.cell? ⟨Bl, 0, none⟩ = some (.slice A' n' c') := ⟨ky, kl⟩
    have hJ1 : J (dat lb) W.drew := HJ.out _ _ _ hJ (.below (Below.refl _ _).drew)
    have hB1 := hBW.drew
    have hK1 : W.drew.heap[D]? = some (.deferred (some [])) := hK
    have hD1 : D < W.drew.heap.size := hDl
    obtain ⟨X, hX⟩ : ∃ X, W.drew = X := ⟨_, rfl⟩
    rw [hX] at hS1 hJ1 hB1 hK1 hD1 ⊢
    clear hX hJ hyW hBW hK hDl kl ky
    refine Held.take (i := 2) (.func (.yield l0) #[] #[]) rfl hS1 (by kernel_rfl) (by kernel_rfl) (by kernel_rfl) (by kernel_rfl) (fun c a w h => absurd rfl (h.1 c)) rfl (fun y hy => by have h1 := hy.1; go_simp) ?_
    try simp only [Act.put]
    refine Held.one (i := 0) rfl (by kernel_rfl) rfl (fun K hK => ?_)
    have hS1' := hS1.2
    unfold Oper.wp
    go_simp
    refine hK _ _ (fun _ => hS1) ?_
    try simp only [Act.put]
    clear hK K hS1'
    refine Held.one (i := 1) rfl (by kernel_rfl) rfl (fun K hK => ?_)
    have hxs := hB1.size
    have hSX : S ≤ X.heap.size := by omega
    have hl2 : (X.alloc (.cells #[.slice A' n' c'] 24)).cell? ⟨W0.heap.size, 0, none⟩ = some (.func (.yield l0) #[] #[]) ∧ (X.alloc (.cells #[.slice A' n' c'] 24)).cell? ⟨Bl, 0, none⟩ = some (.slice A' n' c') :=
      ⟨(World.cell?_alloc_lt X _ ⟨W0.heap.size, 0, none⟩ (by show W0.heap.size < _; omega)).trans hS1.1, (World.cell?_alloc_lt X _ ⟨Bl, 0, none⟩ (by show Bl < _; omega)).trans hS1.2⟩
    have hbx := Boxed.new X 24 (.slice A' n' c')
    have hJ2 := HJ.out _ _ _ hJ1 (wrB_alloc X (.cells #[.slice A' n' c'] 24))
    have hB2' := hB1.alloc (by omega) (.cells #[.slice A' n' c'] 24)
    have hK2 : (X.alloc (.cells #[.slice A' n' c'] 24)).heap[D]? = some (.deferred (some [])) := (Below.heap_alloc _ _ _ hD1).trans hK1
    have hx2 : (X.alloc (.cells #[.slice A' n' c'] 24)).heap.size = X.heap.size + 1 := by simp
    obtain ⟨X2, hX2⟩ : ∃ X2, X.alloc (.cells #[.slice A' n' c'] 24) = X2 := ⟨_, rfl⟩
    unfold Oper.wp
    go_simp
    refine (rows_any A' n' c' X).mono ?_
    rintro e W2' ⟨rfl, rfl⟩
    rw [hX2] at hbx hJ2 hB2' hK2 hx2 hl2 ⊢
    refine hK _ _ (fun _ => hl2) ?_
    try simp only [Act.put]
    clear hK K hS1 hJ1 hB1 hK1
    refine Held.one (i := 3) rfl (by kernel_rfl) rfl (fun K hK => ?_)
    unfold Oper.wp
    go_simp
    refine (callsIn_wide.1 (rows1_iter m (by omega) X.heap.size A' n' c' lc X2 B (X2.heap.size) (KeepT N S) (fun W => Below wA.heap.size wA W ∧ Boxed W X.heap.size 24 (.slice A' n' c')) (fun W h => ⟨h.2, hc.below h.1⟩)
      (fun X Y h k => ⟨h.1.trans (k.bar.below hN (by simp)), k.keep _ _ (by omega) h.2 (fun c fz e => by injection e with _ e; exact absurd e (by decide))⟩) (fun X o h => ⟨h.1.alloc h.1.size o, h.2.alloc o⟩) ⟨bar_nil hB2', hbx⟩
      l0 (fun pre W => J (dat lb ++ pre) W ∧ W.heap[D]? = some (.deferred (some []))) (fun pre W => Jx (dat lb ++ pre) W ∧ W.heap[D]? = some (.deferred (some [])))
      (fun s X Y h k => ⟨HJ.out _ _ _ h.1 (k.mono (by omega)), k.blk D _ h.2 (by simp) (.inl (by omega))⟩)
      (fun s X Y h k => ⟨HJx.out _ _ _ h.1 (k.mono (by omega)), k.blk D _ h.2 (by simp) (.inl (by omega))⟩)
      (fun pre x ag W1 hpx hJ hag => by
        obtain ⟨fn', tmps', assign', body', hy, hR⟩ := HY.out (dat lb ++ pre) x ag W1 (by rw [List.append_assoc]; exact (List.prefix_append_right_inj _).2 hpx) hJ.1 hag
        refine ⟨fn', tmps', assign', body', hy, hR.mono ?_⟩
        rw [List.append_assoc]
        rintro e W' (⟨h1, h2, h3⟩ | ⟨h1, h2, h3⟩)
        · exact .inl ⟨h1, ⟨h2, h3.keep D _ (by omega) hJ.2 (fun c fz e => by cases e)⟩, h3⟩
        · exact .inr ⟨h1, ⟨h2, h3.keep D _ (by omega) hJ.2 (fun c fz e => by cases e)⟩, h3⟩)
      ⟨by rw [List.append_nil]; exact hJ2, hK2⟩)).mono ?_
    rintro e W3 ⟨⟨v, rfl⟩, hfin⟩
    have HF : W3.heap[D]? = some (.deferred (some [])) ∧ (J (dat lb ++ chD lc) W3 ∨ ∃ pre, pre <+: dat lb ++ chD lc ∧ Jx pre W3) := by
      rcases hfin with ⟨h1, h2⟩ | ⟨pre, hp, h1, h2⟩
      · exact ⟨h2, .inl h1⟩
      · exact ⟨h2, .inr ⟨dat lb ++ pre, (List.prefix_append_right_inj _).2 hp, h1⟩⟩
    clear hfin
    obtain ⟨hK3, hfin⟩ := HF
    have HFIN := hide hfin
    clear hfin
    refine hK _ _ (fun h => absurd rfl h) ?_
    try simp only [Act.put]
    clear hK K
    refine Held.done (by kernel_rfl) ⟨(fun ch h => nomatch h), ?_⟩
    gi_wp2
    refine ⟨by simp, .inl ⟨_, _, rfl, run_takeDeferred hK3, ?_⟩⟩
    refine ⟨_, results_none rfl _ _ _, ?_⟩
    refine ⟨⟨_, rfl⟩, ?_⟩
    have hWr : WrB B S [] W3 (W3.putObj D (.deferred none)) := WrB.grown (grownBy_putObj' W3 D _) (C := D) (by omega) (fun k e => by cases e; exact ⟨Nat.le_refl _, _, hK3, rfl⟩)
    rcases HFIN.out with h | ⟨pre, hp, h⟩
    · exact .inl (HJ.out _ _ _ h hWr)
    · exact .inr ⟨pre, hp, HJx.out _ _ _ h hWr⟩
  case stop =>
    rintro D c pre W hD hpre ⟨rfl, hJ⟩ hK
    gi_wp2
    refine ⟨by simp, .inl ⟨_, _, rfl, run_takeDeferred hK, ?_⟩⟩
    refine ⟨_, results_none rfl _ _ _, ?_⟩
    exact ⟨⟨_, rfl⟩, .inr ⟨pre, hpre.trans (List.prefix_append _ _), HJx.out _ _ _ hJ (WrB.grown (grownBy_putObj' W D _) (C := D) (by omega) (fun k e => by cases e; exact ⟨Nat.le_refl _, _, hK, rfl⟩))⟩⟩
end

section
open Go.RowKit
attribute [local go_sem] Oper.semAt_some

/-- What ValidChange tells of an element. -/
def chV (i : Ch) : Bool := okCh i.t i.r i.m
/-- What ValidChanges tells. -/
def okChs (l : List Ch) : Bool := decide (l.length ≤ 400) && l.all chV
theorem ChgR.len {w : World} {B n : Nat} {A : Option Addr} {l : List Ch} (h : ChgR w B A n l) : l.length = n := h.rd.len encCh_len (by omega)
theorem RowK.top {w : World} {B n : Nat} {A : Option Addr} {r : Rw} (h : RowK w B A n r) (hB : B ≤ w.heap.size) : RowK w w.heap.size A n r := h.mono hB
theorem all_bad {l : List Ch} {k : Nat} {x : Ch} (h : l[k]? = some x) (hx : chV x = false) : l.all chV = false := by
  rw [List.all_eq_false]
  exact ⟨x, List.mem_of_getElem? h, by rw [hx]; decide⟩
theorem all_next {l : List Ch} {k : Nat} {x : Ch} (h : l[k]? = some x) (hx : chV x = true) (hp : (l.take k).all chV = true) : (l.take (k + 1)).all chV = true := by
  rw [take_snoc' h, List.all_append, hp]
  simp [hx]
theorem changes1_any (x : Ch) (w : World) (hr : RowK w w.heap.size x.A x.n x.r) : Calls Tryz.prog 105 #[.agg #[.int .i64 x.t, .slice x.A x.n x.c, .int .i64 x.m]] w (RetV w (.bool (!chV x))) := by
  have hB0 := below_val (w := w) #[.int .i64 x.t, .slice x.A x.n x.c, .int .i64 x.m] 45
  have hr1 := (hr.below hB0).mono hB0.size
  go_enter Tryz.func105, Tryz.ntmps105
  go_wp2_with fail
  refine (ValidChange_any x.t x.A x.n x.c x.r x.m _ hr1).mono ?_
  rintro e W1 ⟨rfl, hB1⟩
  have hB := bstep hB0 hB1
  obtain ⟨b, hb⟩ : ∃ b, okCh x.t x.r x.m = b := ⟨_, rfl⟩
  have HB := hide (show (!b) = !chV x by unfold chV; rw [hb])
  rw [hb]
  clear hB0 hB1 hr1 hb
  go_wp2
  go_ret
  exact ⟨ret_bool HB.out, hB⟩
set_option maxRecDepth 100000 in
set_option maxHeartbeats 2000000 in
theorem idx_chg (A : Option Addr) (n c B : Nat) (l : List Ch) (w : World) (hx : ChgR w B A n l) (hB : B ≤ w.heap.size) :
    Calls Tryz.prog 142 #[.slice A n c, .func (Fn.func 105) #[] #[]] w fun e w' => (∃ i : Int, e = .returned (.int .i64 i) ∧ decide (0 ≤ i) = !l.all chV) ∧ Below w.heap.size w w' := by
  have hn := hx.le
  have HL := hide hx.len
  go_enter Tryz.func142, Tryz.ntmps142
  go_wp2_with fail
  go_loopw [8] (fun i wr => ∃ k : Nat, k ≤ n ∧ i = .int .i64 k ∧ (l.take k).all chV = true ∧ Below w.heap.size w wr) (fun i _ => n - (intOf i).toNat)
  case atStart => exact ⟨0, Nat.zero_le _, rfl, rfl, Below.refl _ _⟩
  case round =>
    obtain ⟨k, hk, rfl, hany, hBw⟩ := hrel
    have HA := hide hany
    clear hany
    by_cases hlt : k < n
    · obtain ⟨b, off, x, rfl, hb, hxk, c0, c1, c2, hrow⟩ := (hx.below hBw).at_ hlt
      have HE := hide hxk
      have hrow' := hrow.mono (Nat.le_trans hB hBw.size)
      clear hxk hrow
      have q1 : (0 : Int) ≤ (k : Int) := by omega
      have q2 : (k : Int) < (n : Int) := by omega
      go_wp2_with fail
      refine (changes1_any x wr hrow').mono ?_
      rintro ee w1 ⟨rfl, hB1⟩
      have hB2 := bstep hBw hB1
      cases hq : chV x
      · have HX := hide (all_bad HE.out hq)
        clear hq hB1 hBw c0 c1 c2
        go_wp2
        go_ret
        exact ⟨⟨_, rfl, by rw [HX.out]; simp⟩, hB2⟩
      · have HX := hide (all_next HE.out hq HA.out)
        clear hq hB1 hBw c0 c1 c2
        go_wp2
        go_roundw
        case rel => exact ⟨k + 1, by omega, by go_num, HX.out, hB2⟩
        case measure => simp [intOf]; omega
    · obtain rfl : k = n := by omega
      go_wp2
      go_ret
      exact ⟨⟨_, rfl, by
        have := HA.out
        rw [take_all HL.out] at this
        rw [this]; rfl⟩, hBw⟩
theorem con_chg (A : Option Addr) (n c B : Nat) (l : List Ch) (w : World) (hx : ChgR w B A n l) (hB : B ≤ w.heap.size) :
    Calls Tryz.prog 104 #[.slice A n c, .func (Fn.func 105) #[] #[]] w (RetV w (.bool (!l.all chV))) := by
  go_enter Tryz.func104, Tryz.ntmps104
  go_wp2_with (go_at_call 142; refine (idx_chg A n c B l w hx hB).mono ?_; rintro e w' ⟨⟨i, rfl, hi⟩, hB1⟩)
  go_ret
  exact ⟨rfl, hB1⟩
theorem changes_any (A : Option Addr) (n c B : Nat) (l : List Ch) (w : World) (hx : ChgR w B A n l) (hB : B ≤ w.heap.size) :
    Calls Tryz.prog 44 #[.slice A n c] w (RetV w (.bool (okChs l))) := by
  have hn := hx.le
  have hl := hx.len
  by_cases h4 : n ≤ 400
  · have n1 : (n : Int) ≤ 400 := by omega
    obtain ⟨v, hv⟩ : ∃ v, l.all chV = v := ⟨_, rfl⟩
    have HP := hide (show v = okChs l by unfold okChs; simp [hl, h4, hv])
    have HV := hide hv
    clear hl h4 hv
    go_enter Tryz.func44, Tryz.ntmps44
    go_wp2_with fail
    refine (con_chg A n c B l w hx hB).mono ?_
    rintro e W1 ⟨rfl, hB1⟩
    rw [HV.out]
    go_wp2
    go_ret
    exact ⟨ret_bool (by simpa using HP.out), hB1⟩
  · have n1 : ¬ (n : Int) ≤ 400 := by omega
    have HP := hide (show false = okChs l by unfold okChs; simp [hl, h4])
    clear hl h4
    rw [← HP.out]
    go_enter Tryz.func44, Tryz.ntmps44
    go_wp2
    go_ret
    exact ⟨rfl, Below.refl _ _⟩
set_option maxRecDepth 100000 in
set_option maxHeartbeats 4000000 in
theorem RValidChanges_any (A : Option Addr) (n c B : Nat) (l : List Ch) (w : World) (hx : ChgR w B A n l) (hB : B ≤ w.heap.size) :
    Calls Tryz.prog 50 #[.slice A n c] w (RetV w (.bool (okChs l))) := by
  have hn := hx.le
  have HL := hide hx.len
  go_enter Tryz.func50, Tryz.ntmps50
  go_wp2_with fail
  go_loopw [3] (fun i wr => ∃ k : Nat, k ≤ n ∧ i = .int .i64 k ∧ (l.take k).all chV = true ∧ Below w.heap.size w wr) (fun i _ => n - (intOf i).toNat)
  case atStart => exact ⟨0, Nat.zero_le _, rfl, rfl, Below.refl _ _⟩
  case round =>
    obtain ⟨k, hk, rfl, hany, hBw⟩ := hrel
    have HA := hide hany
    clear hany
    by_cases hlt : k < n
    · obtain ⟨b, off, x, rfl, hb, hxk, c0, c1, c2, hrow⟩ := (hx.below hBw).at_ hlt
      have HE := hide hxk
      have hrow' := hrow.mono (Nat.le_trans hB hBw.size)
      clear hxk hrow
      have q1 : (0 : Int) ≤ (k : Int) := by omega
      have q2 : (k : Int) < (n : Int) := by omega
      go_wp2_with fail
      refine (RValidChange_any x.t x.A x.n x.c x.r x.m wr hrow').mono ?_
      rintro ee w1 ⟨rfl, hB1⟩
      have hB2 := bstep hBw hB1
      obtain ⟨v, hv⟩ : ∃ v, okCh x.t x.r x.m = v := ⟨_, rfl⟩
      rw [hv]
      have HV := hide (show chV x = v from hv)
      clear hv hB1 hBw c0 c1 c2
      cases v
      · have HX := hide (show false = okChs l by unfold okChs; rw [all_bad HE.out HV.out]; simp)
        go_wp2
        go_ret
        exact ⟨ret_bool HX.out, hB2⟩
      · have HX := hide (all_next HE.out HV.out HA.out)
        go_wp2
        go_roundw
        case rel => exact ⟨k + 1, by omega, by go_num, HX.out, hB2⟩
        case measure => simp [intOf]; omega
    · obtain rfl : k = n := by omega
      have HX := hide (show decide ((k : Int) ≤ 400) = okChs l by
        unfold okChs
        have := HA.out
        rw [take_all HL.out] at this
        rw [this, HL.out]
        simp only [Bool.and_true]
        rw [Bool.eq_iff_iff]
        simp only [decide_eq_true_eq]
        omega)
      go_wp2
      go_ret
      exact ⟨ret_bool HX.out, hBw⟩
end

section
open Go.RowKit
attribute [local go_sem] Oper.semAt_some
set_option linter.unusedVariables false
set_option linter.unusedSimpArgs false

/-- What Apply tells. -/
def applyB (a : Bg) (lc : List Ch) : Bg × Int := if okBag a && okChs lc then toldB (aftB a (chD lc)) else ([], 1)
theorem told_ret' {w w1 w2 : World} {d : Bg} {e : Ending} (hB : Below w.heap.size w w1) (h : RetPut w1 d e w2) : RetC w (toldB d) e w2 := by
  have : RetC w1 (toldB d) e w2 := by
    unfold RetC toldB
    unfold RetPut at h
    cases ho : okBag d <;> rw [ho] at h <;> exact h
  obtain ⟨A, n, c, l, h1, h2, h3, h4, h5⟩ := this
  exact ⟨A, n, c, l, h1, h2, h3, h4, bstep hB h5⟩
theorem chs_in {lc : List Ch} (h : okChs lc = true) : (∀ x ∈ chD lc, okR x.1 = true ∧ numB x.2 = true) ∧ lc.length ≤ 400 := by
  unfold okChs at h
  rw [Bool.and_eq_true, decide_eq_true_eq, List.all_eq_true] at h
  refine ⟨fun x hx => ?_, h.1⟩
  obtain ⟨i, hi, rfl⟩ := List.mem_map.1 hx
  have h1 := h.2 i hi
  unfold chV okCh at h1
  simp only [Bool.and_eq_true] at h1
  exact ⟨h1.1.2, h1.2⟩
theorem chD_len (l : List Ch) : (chD l).length = l.length := by simp [chD]
theorem aft_net {a : Bg} {lc : List Ch} (ha : okBag a = true) (hc : okChs lc = true) : Net (a ++ chD lc) (aftB a (chD lc)) :=
  aft_ok (fun x hx => ((chs_in hc).1 x hx).1) (okBag_asc ha).1 fun x hx => (numB_ne ((okBag_asc ha).2.1 x hx)).1
set_option maxRecDepth 100000 in
set_option maxHeartbeats 4000000 in
theorem Apply_any (A : Option Addr) (n c : Nat) (la : List It) (A' : Option Addr) (n' c' : Nat) (lc : List Ch) (w : World) (ha : BagR w w.heap.size A n la) (hc : ChgR w w.heap.size A' n' lc) (ht : Tab w) :
    Calls Tryz.prog 12 #[.slice A n c, .slice A' n' c'] w (RetC w (applyB (dat la) lc)) := by
  obtain ⟨p, hp⟩ : ∃ p, applyB (dat la) lc = p := ⟨_, rfl⟩
  rw [hp]
  have HP := hide hp
  clear hp
  have b1 := (Boxed.new w 23 (.slice A n c)).alloc (.cells #[.slice A' n' c'] 24)
  have b2 := Boxed.new (w.alloc (.cells #[.slice A n c] 23)) 24 (.slice A' n' c')
  simp only [World.size_alloc] at b2
  have hB1 : Below w.heap.size w ((w.alloc (.cells #[.slice A n c] 23)).alloc (.cells #[.slice A' n' c'] 24)) := ((Below.refl _ _).alloc (Nat.le_refl _) _).alloc (by simp) _
  have k1 := b1.cell
  go_enter Tryz.func12, Tryz.ntmps12
  go_wp2_with fail
  obtain ⟨W1, hW1⟩ : ∃ W1, (w.alloc (.cells #[.slice A n c] 23)).alloc (.cells #[.slice A' n' c'] 24) = W1 := ⟨_, rfl⟩
  rw [hW1] at b1 b2 hB1 k1 ⊢
  clear hW1
  refine (BagValid_any A n c _ la W1 (ha.below hB1)).mono ?_
  rintro e W2 ⟨rfl, hB2⟩
  have hB02 := bstep hB1 hB2
  have b1' : Boxed W2 w.heap.size 23 (.slice A n c) := (hB2.block _ b1.lt).trans b1
  have b2' : Boxed W2 (w.heap.size + 1) 24 (.slice A' n' c') := (hB2.block _ b2.lt).trans b2
  have k2 := b2'.cell
  clear hB1 hB2 k1 b1 b2
  cases oa : okBag (dat la)
  · have hq : p = ([], 1) := by rw [← HP.out]; unfold applyB; rw [oa]; rfl
    have HQ := hide hq
    clear oa hq
    go_wp2
    go_ret2
    rw [HQ.out]
    exact ⟨none, 0, 0, [], rfl, rfl, BagR.nil _ _, Nat.le_refl _, hB02⟩
  · have OA := hide oa
    clear oa
    go_wp2_with fail
    refine (changes_any A' n' c' _ lc W2 (hc.below hB02) hB02.size).mono ?_
    rintro e W3 ⟨rfl, hB3⟩
    have hB03 := bstep hB02 hB3
    have b1 : Boxed W3 w.heap.size 23 (.slice A n c) := (hB3.block _ b1'.lt).trans b1'
    have b2 : Boxed W3 (w.heap.size + 1) 24 (.slice A' n' c') := (hB3.block _ b2'.lt).trans b2'
    clear hB02 hB3 k2 b1' b2'
    cases ob : okChs lc
    · have hq : p = ([], 1) := by rw [← HP.out]; unfold applyB; rw [OA.out, ob]; rfl
      have HQ := hide hq
      clear ob hq
      go_wp2
      go_ret2
      rw [HQ.out]
      exact ⟨none, 0, 0, [], rfl, rfl, BagR.nil _ _, Nat.le_refl _, hB03⟩
    · have hq : p = toldB (aftB (dat la) (chD lc)) := by rw [← HP.out]; unfold applyB; rw [OA.out, ob]; rfl
      have HQ := hide hq
      have OB := hide ob
      clear ob hq
      have hb3 := (ha.below hB03).mono hB03.size
      have hc3 : ChgR W3 W3.heap.size A' n' lc := ⟨(hc.below hB03).rd, fun i hi => ((hc.below hB03).rows i hi).mono hB03.size, hc.le⟩
      have ht3 := ht.below hB03
      go_wp2_with fail
      refine (callsIn_wide.1 (gathered_in 47 #[.pointer (some ⟨w.heap.size, 0, none⟩), .pointer (some ⟨w.heap.size + 1, 0, none⟩)] (dat la ++ chD lc) W3.heap.size [] W3 (fun W hW => ht3.below (bar_nil hW)) (enters_of Tryz.func47 (by kernel_rfl) rfl)
        (fun W hW hs => apply1_iter 7 (by omega) w.heap.size (w.heap.size + 1) A n c la A' n' c' lc W3 W W3.heap.size W3.heap.size (W3.heap.size + 5) b1 b2 hb3 hc3 (Nat.le_refl _) (by omega) (by omega) (by omega) hW)
        (fun x hx => by
          rcases List.mem_append.1 hx with h | h
          · exact ⟨(okBag_asc OA.out).1.ok x h, (numB_ne ((okBag_asc OA.out).2.1 x h)).2⟩
          · exact ⟨((chs_in OB.out).1 x h).1, (numB_ne ((chs_in OB.out).1 x h).2).2⟩)
        (by rw [List.length_append, chD_len]; have := (okBag_asc OA.out).2.2; have := (chs_in OB.out).2; omega) (Nat.le_refl _) (by simp))).mono ?_
      rintro e W4 ⟨A4, n4, c4, l4, rfl, hnet, hbag, hcap, _, hbar⟩
      have hB04 := bstep hB03 (bar_nil hbar)
      have hd4 : dat l4 = aftB (dat la) (chD lc) := hnet.same (aft_net OA.out OB.out) fun _ => rfl
      have hsz := hbar.size
      clear hB03 hbar hnet b1 b2 hb3 hc3 ht3
      go_wp2_with fail
      refine (put_any A4 n4 c4 W3.heap.size l4 W4 hbag hsz hcap).mono ?_
      intro e W5 h
      rw [hd4] at h
      obtain ⟨A5, n5, c5, l5, rfl, r2, r3, r4, r5⟩ := told_ret' hB04 h
      have HE := hide r5
      clear r5 h hB04
      go_wp2
      go_ret2
      rw [HQ.out]
      exact ⟨A5, n5, c5, l5, rfl, r2, r3, r4, HE.out⟩
end

section
open Go.RowKit
attribute [local go_sem] Oper.semAt_some

theorem aft_part {a : Bg} {lc : List Ch} (ha : okBag a = true) (hc : okChs lc = true) (k : Nat) : Net (a ++ (chD lc).take k) (aftB a ((chD lc).take k)) :=
  aft_ok (fun x hx => ((chs_in hc).1 x (List.mem_of_mem_take hx)).1) (okBag_asc ha).1 fun x hx => (numB_ne ((okBag_asc ha).2.1 x hx)).1
theorem aft_len {a : Bg} {lc : List Ch} (ha : okBag a = true) (hc : okChs lc = true) : ∀ k, k ≤ (chD lc).length → (aftB a ((chD lc).take k)).length ≤ a.length + k
  | 0, _ => by simp [aftB]
  | k + 1, hk => by
    have ih := aft_len ha hc k (by omega)
    have h1 : (chD lc)[k]? = some ((chD lc)[k]'(by omega)) := List.getElem?_eq_getElem (by omega)
    rw [take_snoc' h1, aft_snoc]
    have := put_len (aft_part ha hc k).asc ((chD lc)[k]'(by omega)).1 ((chD lc)[k]'(by omega)).2
    omega
theorem aft_num {a : Bg} {lc : List Ch} (ha : okBag a = true) (hc : okChs lc = true) (k : Nat) : ∀ x ∈ aftB a ((chD lc).take k), -4000000000000 ≤ x.2 ∧ x.2 ≤ 4000000000000 := by
  intro x hx
  have hn := aft_part ha hc k
  have h1 := sum_abs (xs := a ++ (chD lc).take k) (fun z hz => by
    rcases List.mem_append.1 hz with h | h
    · exact (numB_ne ((okBag_asc ha).2.1 z h)).2
    · exact (numB_ne ((chs_in hc).1 z (List.mem_of_mem_take h)).2).2) x.1
  rw [← hn.sum, look_in (asc_apart hn.asc) hx] at h1
  have h2 : (a ++ (chD lc).take k).length ≤ 800 := by
    rw [List.length_append, List.length_take, chD_len]
    have := (okBag_asc ha).2.2
    have := (chs_in hc).2
    omega
  omega
set_option maxRecDepth 100000 in
set_option maxHeartbeats 1000000 in
theorem RAfter_any (A1 : Option Addr) (n1 c1 : Nat) (la : List It) (A2 : Option Addr) (n2 c2 : Nat) (lc : List Ch) (w : World) (ha : BagR w w.heap.size A1 n1 la) (hcp1 : n1 ≤ c1) (hb : ChgR w w.heap.size A2 n2 lc)
    (oa : okBag (dat la) = true) (ob : okChs lc = true) :
    Calls Tryz.prog 52 #[.slice A1 n1 c1, .slice A2 n2 c2] w (RetB w (aftB (dat la) (chD lc))) := by
  have hla : n1 ≤ 400 := by have := (okBag_asc oa).2.2; rw [dat_len, ha.len] at this; exact this
  have hlb : n2 ≤ 400 := by have := (chs_in ob).2; rw [hb.len] at this; exact this
  have OA := hide oa
  have OB := hide ob
  clear oa ob
  go_enter Tryz.func52, Tryz.ntmps52
  go_wp2_with fail
  go_loopw [5, 6] (fun v i wr => ∃ (k : Nat) (A : Option Addr) (n c : Nat) (l : List It), k ≤ n2 ∧ i = .int .i64 k ∧ .slice A n c = v ∧ BagR wr wr.heap.size A n l ∧ n ≤ c ∧ dat l = aftB (dat la) ((chD lc).take k) ∧ Below w.heap.size w wr) (fun _ i _ => n2 - (intOf i).toNat)
  case atStart => exact ⟨0, _, _, _, la, Nat.zero_le _, rfl, rfl, ha, hcp1, rfl, Below.refl _ _⟩
  case round =>
    obtain ⟨k, A, n, c, l, hk, rfl, rfl, hbg, hcp, hdl, hBw⟩ := hrel
    by_cases hlt : k < n2
    · obtain ⟨b, off, y0, rfl, hbl, hyk, _, e0, e1, hy⟩ := (hb.below hBw).at_ hlt
      have hyd := chD_at hyk
      have hmem := List.mem_of_getElem? hyd
      have hym := numB_ne ((chs_in OB.out).1 _ hmem).2
      have hyr := ((chs_in OB.out).1 _ hmem).1
      have hy8 : y0.n ≤ 1000 := by
        have h1 : y0.r.length ≤ 8 := by unfold okR at hyr; rw [Bool.and_eq_true, decide_eq_true_eq] at hyr; exact hyr.2
        rw [hy.len] at h1
        omega
      have hp := aft_part OA.out OB.out k
      have hpl := aft_len OA.out OB.out k (by rw [chD_len, hb.len]; exact hk)
      have HN := hide (show aftB (dat la) ((chD lc).take (k + 1)) = putB (dat l) y0.r y0.m from by rw [take_snoc' hyd, aft_snoc, hdl])
      have hnl : n ≤ 2000 := by rw [← hdl, dat_len, dat_len, hbg.len, ha.len] at hpl; omega
      have HR := hide (show ∀ z ∈ dat l, z.1.length ≤ 1000 from fun z hz => by
        rw [hdl] at hz
        have h1 := hp.asc.ok z hz
        unfold okR at h1
        rw [Bool.and_eq_true, decide_eq_true_eq] at h1
        omega)
      have HM := hide (show ∀ z ∈ dat l, -4000000000000 ≤ z.2 ∧ z.2 ≤ 4000000000000 from fun z hz => by rw [hdl] at hz; exact aft_num OA.out OB.out k z hz)
      have q1 : (0 : Int) ≤ (k : Int) := by omega
      have q2 : (k : Int) < (n2 : Int) := by omega
      clear hp hpl hyd hmem hyr hdl
      go_wp2_with fail
      refine Held.begin (fun y => y.cell? ⟨b, off + k * 3 + 1, none⟩ = some (.slice y0.A y0.n y0.c) ∧ y.cell? ⟨b, off + k * 3 + 2, none⟩ = some (.int .i64 y0.m)) 100 (by kernel_rfl) ?_
      obtain ⟨X1, hX1⟩ : ∃ X1, wr.drew = X1 := ⟨_, rfl⟩
      have hD : Below wr.heap.size wr X1 := by rw [← hX1]; exact (Below.refl _ _).drew
      have hS : X1.cell? ⟨b, off + k * 3 + 1, none⟩ = some (.slice y0.A y0.n y0.c) ∧ X1.cell? ⟨b, off + k * 3 + 2, none⟩ = some (.int .i64 y0.m) := by rw [← hX1]; exact ⟨e0, e1⟩
      rw [hX1]
      clear hX1 e0 e1
      refine Held.take (i := 0) (.slice A n c) rfl hS (by kernel_rfl) (by kernel_rfl) (by kernel_rfl) (by kernel_rfl) (fun _ _ _ h => h) rfl (fun y hy => by obtain ⟨x1, x2⟩ := hy; go_simp) ?_
      try simp only [Act.put]
      refine Held.take (i := 1) (.slice (some ⟨b, off, none⟩) n2 c2) rfl hS (by kernel_rfl) (by kernel_rfl) (by kernel_rfl) (by kernel_rfl) (fun _ _ _ h => h) rfl (fun y hy => by obtain ⟨x1, x2⟩ := hy; go_simp) ?_
      try simp only [Act.put]
      refine Held.take (i := 2) (.int .i64 (k : Int)) rfl hS (by kernel_rfl) (by kernel_rfl) (by kernel_rfl) (by kernel_rfl) (fun _ _ _ h => h) rfl (fun y hy => by obtain ⟨x1, x2⟩ := hy; go_simp) ?_
      try simp only [Act.put]
      refine Held.take (i := 3) (.pointer (some ⟨b, off + k * 3, none⟩)) rfl hS (by kernel_rfl) (by kernel_rfl) (by kernel_rfl) (by kernel_rfl) (fun _ _ _ h => h) rfl (fun y hy => by obtain ⟨x1, x2⟩ := hy; go_simp) ?_
      try simp only [Act.put]
      refine Held.take (i := 4) (.pointer (some ⟨b, off + k * 3 + 1, none⟩)) rfl hS (by kernel_rfl) (by kernel_rfl) (by kernel_rfl) (by kernel_rfl) (fun _ _ _ h => h) rfl (fun y hy => by obtain ⟨x1, x2⟩ := hy; go_simp) ?_
      try simp only [Act.put]
      refine Held.take (i := 5) (.slice y0.A y0.n y0.c) rfl hS (by kernel_rfl) (by kernel_rfl) (by kernel_rfl) (by kernel_rfl) (fun _ _ _ h => h) rfl (fun y hy => by obtain ⟨x1, x2⟩ := hy; go_simp) ?_
      try simp only [Act.put]
      refine Held.take (i := 6) (.slice (some ⟨b, off, none⟩) n2 c2) rfl hS (by kernel_rfl) (by kernel_rfl) (by kernel_rfl) (by kernel_rfl) (fun _ _ _ h => h) rfl (fun y hy => by obtain ⟨x1, x2⟩ := hy; go_simp) ?_
      try simp only [Act.put]
      refine Held.take (i := 7) (.int .i64 (k : Int)) rfl hS (by kernel_rfl) (by kernel_rfl) (by kernel_rfl) (by kernel_rfl) (fun _ _ _ h => h) rfl (fun y hy => by obtain ⟨x1, x2⟩ := hy; go_simp) ?_
      try simp only [Act.put]
      refine Held.take (i := 8) (.pointer (some ⟨b, off + k * 3, none⟩)) rfl hS (by kernel_rfl) (by kernel_rfl) (by kernel_rfl) (by kernel_rfl) (fun _ _ _ h => h) rfl (fun y hy => by obtain ⟨x1, x2⟩ := hy; go_simp) ?_
      try simp only [Act.put]
      refine Held.take (i := 9) (.pointer (some ⟨b, off + k * 3 + 2, none⟩)) rfl hS (by kernel_rfl) (by kernel_rfl) (by kernel_rfl) (by kernel_rfl) (fun _ _ _ h => h) rfl (fun y hy => by obtain ⟨x1, x2⟩ := hy; go_simp) ?_
      try simp only [Act.put]
      refine Held.take (i := 10) (.int .i64 y0.m) rfl hS (by kernel_rfl) (by kernel_rfl) (by kernel_rfl) (by kernel_rfl) (fun _ _ _ h => h) rfl (fun y hy => by obtain ⟨x1, x2⟩ := hy; go_simp) ?_
      try simp only [Act.put]
      refine Held.one (i := 11) rfl (by kernel_rfl) rfl (fun K hK => ?_)
      unfold Oper.wp
      go_simp
      refine (RPut_any A n c l y0.A y0.n y0.c y0.r y0.m X1 ((hbg.below hD).mono hD.size) hnl ((hy.below hD).mono (Nat.le_trans hBw.size hD.size)) hy8 HR.out HM.out (by omega)).mono ?_
      rintro e X2 ⟨A2', n2', c2', l2', rfl, hd2, hb2, hc2, hB2⟩
      have hS2 : X2.cell? ⟨b, off + k * 3 + 1, none⟩ = some (.slice y0.A y0.n y0.c) ∧ X2.cell? ⟨b, off + k * 3 + 2, none⟩ = some (.int .i64 y0.m) := ⟨(hB2.cell (World.block_lt_of_cell? _ _ hS.1)).trans hS.1, (hB2.cell (World.block_lt_of_cell? _ _ hS.2)).trans hS.2⟩
      refine hK _ _ (fun _ => hS2) ?_
      try simp only [Act.put]
      have hBf := bstep (bstep hBw hD) hB2
      clear hK K hS hB2 hD hBw hbg
      refine Held.one (i := 12) rfl (by kernel_rfl) rfl (fun K hK => ?_)
      unfold Oper.wp
      go_simp
      refine hK _ _ (fun _ => hS2) ?_
      try simp only [Act.put]
      clear hK K hS2
      refine Held.done (by kernel_rfl) ?_
      go_wp2
      go_roundw
      case rel => exact ⟨k + 1, _, _, _, l2', by omega, by go_num, rfl, hb2, hc2, by rw [HN.out]; exact hd2, hBf⟩
      case measure => simp [intOf]; omega
    · obtain rfl : k = n2 := by omega
      have HX := hide (show dat l = aftB (dat la) (chD lc) from by rw [hdl, take_all (by rw [chD_len, hb.len])])
      clear hdl
      go_wp2
      go_ret
      exact ⟨A, n, c, l, rfl, HX.out, hbg, hcp, hBw⟩
set_option maxRecDepth 100000 in
set_option maxHeartbeats 1000000 in
theorem RApply_any (A : Option Addr) (n c : Nat) (la : List It) (A' : Option Addr) (n' c' : Nat) (lc : List Ch) (w : World) (ha : BagR w w.heap.size A n la) (hcp : n ≤ c) (hc : ChgR w w.heap.size A' n' lc) :
    Calls Tryz.prog 13 #[.slice A n c, .slice A' n' c'] w (RetC w (applyB (dat la) lc)) := by
  obtain ⟨p, hp⟩ : ∃ p, applyB (dat la) lc = p := ⟨_, rfl⟩
  rw [hp]
  have HP := hide hp
  clear hp
  go_enter Tryz.func13, Tryz.ntmps13
  go_wp2_with fail
  refine (R3Valid_any A n c _ la w ha).mono ?_
  rintro e W1 ⟨rfl, hB1⟩
  cases oa : okBag (dat la)
  · have hq : p = ([], 1) := by rw [← HP.out]; unfold applyB; rw [oa]; rfl
    have HQ := hide hq
    clear oa hq
    go_wp2
    go_ret2
    rw [HQ.out]
    exact ⟨none, 0, 0, [], rfl, rfl, BagR.nil _ _, Nat.le_refl _, hB1⟩
  · have OA := hide oa
    clear oa
    go_wp2_with fail
    refine (RValidChanges_any A' n' c' _ lc W1 (hc.below hB1) hB1.size).mono ?_
    rintro e W2 ⟨rfl, hB2⟩
    have hB02 := bstep hB1 hB2
    clear hB1 hB2
    cases ob : okChs lc
    · have hq : p = ([], 1) := by rw [← HP.out]; unfold applyB; rw [OA.out, ob]; rfl
      have HQ := hide hq
      clear ob hq
      go_wp2
      go_ret2
      rw [HQ.out]
      exact ⟨none, 0, 0, [], rfl, rfl, BagR.nil _ _, Nat.le_refl _, hB02⟩
    · have hq : p = toldB (aftB (dat la) (chD lc)) := by rw [← HP.out]; unfold applyB; rw [OA.out, ob]; rfl
      have HQ := hide hq
      have OB := hide ob
      have hc2 : ChgR W2 W2.heap.size A' n' lc := ⟨(hc.below hB02).rd, fun i hi => ((hc.below hB02).rows i hi).mono hB02.size, hc.le⟩
      clear ob hq
      go_wp2_with fail
      refine (RAfter_any A n c la A' n' c' lc W2 ((ha.below hB02).mono hB02.size) hcp hc2 OA.out OB.out).mono ?_
      rintro e W3 ⟨A3, n3, c3, l3, rfl, hd3, hb3, hc3, hB3⟩
      have hB03 := bstep hB02 hB3
      clear hB02 hB3 hc2
      go_wp2_with fail
      refine (told_any A3 n3 c3 _ l3 W3 hb3 (Nat.le_refl _) hc3).mono ?_
      intro e W4 h
      rw [hd3] at h
      obtain ⟨A5, n5, c5, l5, rfl, r2, r3, r4, r5⟩ := told_ret' hB03 h
      have HE := hide r5
      clear r5 h hB03
      go_wp2
      go_ret2
      rw [HQ.out]
      exact ⟨A5, n5, c5, l5, rfl, r2, r3, r4, HE.out⟩
end

section
open Go.RowKit

theorem ascI_of : ∀ {l : Bg} {p : Rw}, Asc l → (∀ x ∈ l, numB x.2 = true) → (∀ x ∈ l, cmpR p x.1 < 0) → ascI (some p) l = true
  | [], _, _, _, _ => rfl
  | x :: l, p, h, hn, hp => by
    rw [ascI, hn x (by simp), h.ok x (by simp)]
    have h1 := hp x (by simp)
    have h2 := ascI_of (l := l) (p := x.1) h.tail (fun y hy => hn y (List.mem_cons_of_mem _ hy)) (fun y hy => h.head y hy)
    simp [h1, h2]
theorem okBag_of {l : Bg} (h : Asc l) (hn : ∀ x ∈ l, numB x.2 = true) (hl : l.length ≤ 400) : okBag l = true := by
  unfold okBag
  rw [Bool.and_eq_true, decide_eq_true_eq]
  refine ⟨?_, hl⟩
  cases l with
  | nil => rfl
  | cons x l =>
    rw [ascI, hn x (by simp), h.ok x (by simp)]
    have h2 := ascI_of (l := l) (p := x.1) h.tail (fun y hy => hn y (List.mem_cons_of_mem _ hy)) (fun y hy => h.head y hy)
    simp [h2]
theorem okBag_bad {l : Bg} {x : Rw × Int} (hx : x ∈ l) (hn : numB x.2 = false) : okBag l = false := by
  cases h : okBag l
  · rfl
  · rw [(okBag_asc h).2.1 x hx] at hn
    cases hn
theorem okBag_long {l : Bg} (h : 400 < l.length) : okBag l = false := by
  unfold okBag
  rw [Bool.and_eq_false_iff]
  right
  simp
  omega
theorem diff_asc {a b : Bg} (ha : okBag a = true) (hb : okBag b = true) : Asc (both (fun m k => k - m) (prs a b)) := (both_prs (f := fun m k => k - m) (by simp) (okBag_asc ha).1 (okBag_asc hb).1).1
theorem diff_look {a b : Bg} (ha : okBag a = true) (hb : okBag b = true) (r : Rw) : look (both (fun m k => k - m) (prs a b)) r = look b r - look a r := (both_prs (f := fun m k => k - m) (by simp) (okBag_asc ha).1 (okBag_asc hb).1).2.2 r
theorem diff_eq {a b : Bg} (ha : okBag a = true) (hb : okBag b = true) : both (fun m k => k - m) (prs a b) = plusB b a (-1) := by
  obtain ⟨i1, i2, i3⟩ := both_prs (f := fun m k => k - m) (by simp) (okBag_asc ha).1 (okBag_asc hb).1
  obtain ⟨j1, j2, j3⟩ := plus_ok (n := -1) (okBag_asc hb).1 (fun x hx => (numB_ne ((okBag_asc hb).2.1 x hx)).1) (okBag_asc ha).1
  refine Asc.ext i1 j1 i2 j2 fun r => ?_
  rw [i3, j3]
  omega
/-- What Changes tells. -/
def diffB (a b : Bg) (T : Int) : Bg × Int := if okBag a && okBag b then (if btw T (-1000000000000) 1000000000000 then toldB (both (fun m k => k - m) (prs a b)) else ([], 7)) else ([], 1)
/-- The changes from a to b make b of a. -/
theorem apply_diff {a b : Bg} {T : Int} {lc : List Ch} (h0 : (diffB a b T).2 = 0) (hd : chD lc = (diffB a b T).1) (ht : ∀ i ∈ lc, i.t = T) : applyB a lc = (b, 0) := by
  unfold diffB at h0 hd
  cases ha : okBag a
  · rw [ha] at h0; cases h0
  cases hb : okBag b
  · rw [ha, hb] at h0; cases h0
  cases hT : btw T (-1000000000000) 1000000000000
  · rw [ha, hb, hT] at h0; cases h0
  rw [ha, hb, hT] at h0 hd
  simp only [Bool.and_self, if_true] at h0 hd
  unfold toldB at h0 hd
  cases hk : okBag (both (fun m k => k - m) (prs a b))
  · rw [hk] at h0; cases h0
  rw [hk] at hd
  simp only [if_true] at hd
  have hc : okChs lc = true := by
    unfold okChs
    rw [Bool.and_eq_true, decide_eq_true_eq, List.all_eq_true]
    refine ⟨by rw [← chD_len, hd]; exact (okBag_asc hk).2.2, fun i hi => ?_⟩
    have hm : (i.r, i.m) ∈ chD lc := List.mem_map.2 ⟨i, hi, rfl⟩
    rw [hd] at hm
    unfold chV okCh
    rw [ht i hi, hT, (okBag_asc hk).1.ok _ hm, (okBag_asc hk).2.1 _ hm]
    rfl
  have hn : aftB a (chD lc) = b := (aft_net ha hc).same (Net.one hb) fun r => by
    rw [sumG_app, hd, sumG_asc (okBag_asc ha).1, sumG_asc (diff_asc ha hb), diff_look ha hb, sumG_asc (okBag_asc hb).1]
    omega
  unfold applyB
  rw [ha, hc, hn]
  unfold toldB
  rw [hb]
  rfl
end

section
open Go.RowKit
attribute [local go_sem] Oper.semAt_some wide_fn wide_depth
set_option linter.unusedVariables false
set_option linter.unusedSimpArgs false

/-- Changes, all at one time, and an error, handed back. -/
def RetChE (w : World) (T : Int) (p : Bg × Int) (e : Ending) (w' : World) : Prop :=
  ∃ A n c l, e = .returned (.tuple #[.slice A n c, .int .i64 p.2]) ∧ (l.map (fun i => (i.r, i.m)) = p.1 ∧ ∀ i ∈ l, i.t = T) ∧ ChgR w' w'.heap.size A n l ∧ Below w.heap.size w w'
theorem ChgR.nil (w : World) (B : Nat) : ChgR w B none 0 [] := ⟨⟨rfl, fun h => absurd h (by decide)⟩, nofun, by omega⟩
theorem bad_end {w W : World} {v0 e0 : Value} (hB : Below w.heap.size w W) (hr : Boxed W (w.heap.size + 1) 24 v0) (he : Boxed W (w.heap.size + 1 + 1) 28 e0) (E : Int) :
    ((W.setCell ⟨w.heap.size + 1, 0, none⟩ (.slice none 0 0)).setCell ⟨w.heap.size + 1 + 1, 0, none⟩ (.int .i64 E)).cell? ⟨w.heap.size + 1, 0, none⟩ = some (.slice none 0 0) ∧
    ((W.setCell ⟨w.heap.size + 1, 0, none⟩ (.slice none 0 0)).setCell ⟨w.heap.size + 1 + 1, 0, none⟩ (.int .i64 E)).cell? ⟨w.heap.size + 1 + 1, 0, none⟩ = some (.int .i64 E) ∧
    Below w.heap.size w ((W.setCell ⟨w.heap.size + 1, 0, none⟩ (.slice none 0 0)).setCell ⟨w.heap.size + 1 + 1, 0, none⟩ (.int .i64 E)) ∧
    Boxed ((W.setCell ⟨w.heap.size + 1, 0, none⟩ (.slice none 0 0)).setCell ⟨w.heap.size + 1 + 1, 0, none⟩ (.int .i64 E)) (w.heap.size + 1) 24 (.slice none 0 0) ∧
    Boxed ((W.setCell ⟨w.heap.size + 1, 0, none⟩ (.slice none 0 0)).setCell ⟨w.heap.size + 1 + 1, 0, none⟩ (.int .i64 E)) (w.heap.size + 1 + 1) 28 (.int .i64 E) := by
  have h1 := Boxed.setOther (hr.set (.slice none 0 0)) (p := ⟨w.heap.size + 1 + 1, 0, none⟩) (by show w.heap.size + 1 ≠ w.heap.size + 1 + 1; omega) (.int .i64 E)
  have h2 := (Boxed.setOther he (p := ⟨w.heap.size + 1, 0, none⟩) (by show w.heap.size + 1 + 1 ≠ w.heap.size + 1; omega) (.slice none 0 0)).set (.int .i64 E)
  exact ⟨h1.cell, h2.cell, (hB.setCell (p := ⟨w.heap.size + 1, 0, none⟩) (by show w.heap.size ≤ w.heap.size + 1; omega) _).setCell (p := ⟨w.heap.size + 1 + 1, 0, none⟩) (by show w.heap.size ≤ w.heap.size + 1 + 1; omega) _, h1, h2⟩
set_option maxRecDepth 100000 in
set_option maxHeartbeats 8000000 in
theorem Changes_gen
    (A : Option Addr) (n c : Nat) (la : List It) (A' : Option Addr) (n' c' : Nat) (lb : List It) (w : World) (ha : BagR w w.heap.size A n la) (hb : BagR w w.heap.size A' n' lb) (hc : n ≤ c) (hc' : n' ≤ c')
    (T : Int) :
    CallsIn Fence.wide 4 Tryz.prog 15 #[.slice A n c, .slice A' n' c', .int .i64 T] w (RetChE w T (diffB (dat la) (dat lb) T)) := by
  obtain ⟨i0, hi, hz0, hz1, hz2⟩ := info_parts3 infoCh
  obtain ⟨p, hp⟩ : ∃ p, diffB (dat la) (dat lb) T = p := ⟨_, rfl⟩
  rw [hp]
  have HP := hide hp
  clear hp
  have hB0 : Below w.heap.size w (((w.alloc (.cells #[.int .i64 T] 3)).alloc (.cells #[.slice none 0 0] 24)).alloc (.cells #[.int .i64 0] 28)) := (((Below.refl _ _).alloc (Nat.le_refl _) _).alloc (by simp) _).alloc (by simp; omega) _
  have xt := ((Boxed.new w 3 (.int .i64 T)).alloc (.cells #[.slice none 0 0] 24)).alloc (.cells #[.int .i64 0] 28)
  have xr := (Boxed.new (w.alloc (.cells #[.int .i64 T] 3)) 24 (.slice none 0 0)).alloc (.cells #[.int .i64 0] 28)
  have xe := Boxed.new ((w.alloc (.cells #[.int .i64 T] 3)).alloc (.cells #[.slice none 0 0] 24)) 28 (.int .i64 0)
  rw [World.size_alloc] at xr xe
  rw [World.size_alloc] at xe
  refine callsIn_of_wp_marks Tryz.func15 rfl trivial ?_ rfl
  simp only [Tryz.ntmps15, List.size_toArray, List.length_cons, List.length_nil, Nat.reduceAdd, Nat.reduceSub, Array.replicate_succ, Array.replicate_zero, List.push_toArray, List.append_toArray, List.nil_append, List.cons_append]
  gi_wp2_with fail
  obtain ⟨W0, hW0⟩ : ∃ W0, ((w.alloc (.cells #[.int .i64 T] 3)).alloc (.cells #[.slice none 0 0] 24)).alloc (.cells #[.int .i64 0] 28) = W0 := ⟨_, rfl⟩
  rw [hW0] at hB0 xt xr xe ⊢
  clear hW0
  refine (callsIn_wide.2 (BagValid_any A n c _ la W0 (ha.below hB0))).mono ?_
  rintro e W1 ⟨rfl, hB1⟩
  have hB01 := bstep hB0 hB1
  have yt : Boxed W1 w.heap.size 3 (.int .i64 T) := (hB1.block _ xt.lt).trans xt
  have yr : Boxed W1 (w.heap.size + 1) 24 (.slice none 0 0) := (hB1.block _ xr.lt).trans xr
  have ye : Boxed W1 (w.heap.size + 1 + 1) 28 (.int .i64 0) := (hB1.block _ xe.lt).trans xe
  clear hB0 hB1 xt xr xe
  cases hva : okBag (dat la)
  · have HX := hide (show p = ([], 1) by rw [← HP.out]; unfold diffB; rw [hva]; rfl)
    have kr := yr.cell
    have fr := yr.frozen
    have ye2 := Boxed.setOther ye (p := ⟨w.heap.size + 1, 0, none⟩) (by show w.heap.size + 1 + 1 ≠ w.heap.size + 1; omega) (.slice none 0 0)
    have ke := ye2.cell
    have fe := ye2.frozen
    obtain ⟨e1, e2, e3, _, _⟩ := bad_end hB01 yr ye (1)
    have E1 := hide e1
    have E2 := hide e2
    have E3 := hide e3
    clear e1 e2 e3 ye2 ha hb
    gi_wp2
    refine ⟨_, res_two rfl rfl E1.out E2.out, ?_⟩
    rw [HX.out]
    exact ⟨none, 0, 0, [], rfl, ⟨rfl, nofun⟩, ChgR.nil _ _, E3.out⟩
  have HVA := hide hva
  clear hva
  gi_wp2_with fail
  refine (callsIn_wide.2 (BagValid_any A' n' c' _ lb W1 (hb.below hB01))).mono ?_
  rintro e W2 ⟨rfl, hB2⟩
  have hB02 := bstep hB01 hB2
  have zt : Boxed W2 w.heap.size 3 (.int .i64 T) := (hB2.block _ yt.lt).trans yt
  have zr : Boxed W2 (w.heap.size + 1) 24 (.slice none 0 0) := (hB2.block _ yr.lt).trans yr
  have ze : Boxed W2 (w.heap.size + 1 + 1) 28 (.int .i64 0) := (hB2.block _ ye.lt).trans ye
  clear hB01 hB2 yt yr ye
  cases hvb : okBag (dat lb)
  · have HX := hide (show p = ([], 1) by rw [← HP.out]; unfold diffB; rw [HVA.out, hvb]; rfl)
    have kr := zr.cell
    have fr := zr.frozen
    have ye2 := Boxed.setOther ze (p := ⟨w.heap.size + 1, 0, none⟩) (by show w.heap.size + 1 + 1 ≠ w.heap.size + 1; omega) (.slice none 0 0)
    have ke := ye2.cell
    have fe := ye2.frozen
    obtain ⟨e1, e2, e3, _, _⟩ := bad_end hB02 zr ze (1)
    have E1 := hide e1
    have E2 := hide e2
    have E3 := hide e3
    clear e1 e2 e3 ye2 ha hb
    gi_wp2
    refine ⟨_, res_two rfl rfl E1.out E2.out, ?_⟩
    rw [HX.out]
    exact ⟨none, 0, 0, [], rfl, ⟨rfl, nofun⟩, ChgR.nil _ _, E3.out⟩
  have HVB := hide hvb
  clear hvb
  have kt := zt.cell
  have lte := ze.lt
  gi_wp2_with fail
  refine (callsIn_wide.2 (bwithin_any T _ _ W2)).mono ?_
  rintro e w2' ⟨rfl, rfl⟩
  cases hT : btw T (-1000000000000) 1000000000000
  · have HX := hide (show p = ([], 7) by rw [← HP.out]; unfold diffB; rw [HVA.out, HVB.out, hT]; rfl)
    have kr := zr.cell
    have fr := zr.frozen
    have ye2 := Boxed.setOther ze (p := ⟨w.heap.size + 1, 0, none⟩) (by show w.heap.size + 1 + 1 ≠ w.heap.size + 1; omega) (.slice none 0 0)
    have ke := ye2.cell
    have fe := ye2.frozen
    obtain ⟨e1, e2, e3, _, _⟩ := bad_end hB02 zr ze (7)
    have E1 := hide e1
    have E2 := hide e2
    have E3 := hide e3
    clear e1 e2 e3 ye2 ha hb
    gi_wp2
    refine ⟨_, res_two rfl rfl E1.out E2.out, ?_⟩
    rw [HX.out]
    exact ⟨none, 0, 0, [], rfl, ⟨rfl, nofun⟩, ChgR.nil _ _, E3.out⟩
  have HT := hide hT
  have HQ := hide (show p = toldB (both (fun m k => k - m) (prs (dat la) (dat lb))) by rw [← HP.out]; unfold diffB; rw [HVA.out, HVB.out, hT]; rfl)
  clear hT
  gi_wp2_with fail
  refine (callsIn_wide.2 (pairs_any _ _ _ ⟨_, _, _, rfl⟩ ⟨_, _, _, rfl⟩)).mono ?_
  rintro e W3 ⟨rfl, hW3⟩
  obtain ⟨ob, hob⟩ : ∃ ob, W2.heap.size = ob := ⟨_, rfl⟩
  have k0 := ((Boxed.new W2 24 (.slice none 0 0)).alloc (.cells #[.slice A n c] 23)).alloc (.cells #[.slice A' n' c'] 23)
  have k1 := (Boxed.new (W2.alloc (.cells #[.slice none 0 0] 24)) 23 (.slice A n c)).alloc (.cells #[.slice A' n' c'] 23)
  have k2 := Boxed.new ((W2.alloc (.cells #[.slice none 0 0] 24)).alloc (.cells #[.slice A n c] 23)) 23 (.slice A' n' c')
  have hB23 : Below W2.heap.size W2 W3 := by rw [hW3]; exact (((Below.refl _ _).alloc (Nat.le_refl _) _).alloc (by simp) _).alloc (by simp; omega) _
  have hs3 : W3.heap.size = ob + 3 := by rw [hW3, ← hob]; simp
  rw [← hW3] at k0 k1 k2
  rw [World.size_alloc] at k1 k2
  rw [World.size_alloc] at k2
  rw [World.size_alloc, hob]
  rw [hob] at k0 k1 k2 hB23 lte
  clear hW3
  have hra : BagR W2 W2.heap.size A n la := (ha.below hB02).mono hB02.size
  have hrb : BagR W2 W2.heap.size A' n' lb := (hb.below hB02).mono hB02.size
  have hasc1 := okBag_asc HVA.out
  have hasc2 := okBag_asc HVB.out
  have HPR := hide (prs_ok _ _ hasc1.1 hasc2.1)
  have hlen : (prI la lb).length ≤ 800 := by
    have h1 := prI_len la lb
    have h2 := hasc1.2.2
    have h3 := hasc2.2.2
    rw [dat_len] at h2 h3
    omega
  have HBD := hide (show ∀ x ∈ prI la lb, (-1000000 ≤ x.m ∧ x.m ≤ 1000000) ∧ (-1000000 ≤ x.k ∧ x.k ≤ 1000000) ∧ x.n ≤ 1000 from pr_bound hasc1.1 hasc1.2.1 hasc2.1 hasc2.2.1 hra.rows hrb.rows)
  clear ha hb hasc1 hasc2
  have hN : W2.heap.size ≤ ob + 3 := by omega
  gi_wp2_with fail
  obtain ⟨f, hff⟩ : ∃ f : Int → Int → Int, f = fun m k => k - m := ⟨_, rfl⟩
  have HF := hide hff
  rw [← hff] at HQ
  have HMEM := hide (show ∀ x ∈ prI la lb, f x.m x.k ≠ 0 → (x.r, f x.m x.k) ∈ both f (prs (dat la) (dat lb)) from fun x hx h0 => (by
    rw [← prI_dat]; exact both_mem (t := datP x) (List.mem_map_of_mem hx) h0))
  clear hff
  refine wpIn_iter (n := 4) rfl (by omega) (gf := 113) (lb := #[.pointer (some ⟨ob + 1, 0, none⟩), .pointer (some ⟨ob + 1 + 1, 0, none⟩)]) rfl trivial (enters_of Tryz.func113 (by kernel_rfl) rfl) (encs := encPe) (xs := prI la lb) (Wr := WrQ (ob + 1) (ob + 1 + 1)) (Kp := Bar (ob + 3) [ob])
    (fun W hW l J Jx hJw _ hY h0 => pairs1_in 3 (by omega) l (ob + 3) [ob] W2 (ob + 1) (ob + 1 + 1) la lb J Jx W hJw hY hN (by omega) (by omega) (by omega) (by omega) (by omega) (by simp; omega) (by simp) (by simp; omega) A n c A' n' c' ((hW.block _ k1.lt).trans k1) ((hW.block _ k2.lt).trans k2) hra hrb hc hc' (by rw [hob]; exact hB23.trans (hW.mono (by omega))) h0)
    (fun _ => rfl) (fun X Y h => h.wr.oth) bar_t (bar_b (by omega))
    (fun pre W => (OutC f T w.heap.size ob pre W ∧ Below ob W2 W) ∧ ∀ y ∈ both f (pre.map datP), numB y.2 = true)
    (fun c pre W => (c = .ret ∧ ∃ y ∈ both f (prs (dat la) (dat lb)), numB y.2 = false) ∧ Boxed W (w.heap.size + 1) 24 (.slice none 0 0) ∧ Boxed W (w.heap.size + 1 + 1) 28 (.int .i64 4) ∧ Below w.heap.size w W)
    (OwnFrom.and (OwnFrom.and (outC_from (by omega)) (ownFrom_below (by omega) (by omega))) (ownFrom_pure _ _))
    (fun c pre X Y row h hg hr => ⟨h.1, blk_own h.2.1 hg (fun k e => (hr k e).2), blk_own h.2.2.1 hg (fun k e => (hr k e).2), h.2.2.2.grown hg h.2.2.2.size fun k e => by have := (hr k e).1; omega⟩)
    (fun s X Y h k => ⟨⟨h.1.1.wr k (by omega), h.1.2.trans (k.wr.bar.below (by have := h.1.2.size; omega) (by simp; omega))⟩, h.2⟩)
    (fun c s X Y h k => ⟨h.1, (k.wr.bar.block _ h.2.1.lt (by simp; omega)).trans h.2.1, (k.wr.bar.block _ h.2.2.1.lt (by simp; omega)).trans h.2.2.1, h.2.2.2.trans (k.wr.bar.below (by have := h.2.2.2.size; omega) (by simp; omega))⟩)
    ⟨⟨⟨⟨_, [], k0, World.ownsRow_nil _ _ _ _, ⟨rfl, by intro i hi; cases hi⟩, by intro i hi; cases hi⟩, ⟨_, k1⟩, ⟨_, k2⟩⟩, hB23⟩, by intro y hy; cases hy⟩
    (fun pre x a' W => ∃ nb, ob + 3 ≤ nb ∧ Blk W nb 77 #[.int .i64 x.m, .int .i64 x.k] ∧ a' = { tmps := #[.slice A n c, .slice A' n' c', .int .i64 T, undef, undef, .pointer (some ⟨w.heap.size, 0, none⟩), .pointer (some ⟨w.heap.size + 1, 0, none⟩), .pointer (some ⟨w.heap.size + 1 + 1, 0, none⟩), .pointer (some ⟨ob, 0, none⟩), .slice x.A x.n x.c, .pointer (some ⟨nb, 0, none⟩), undef, .bool false, .slice A n c, .bool true, .bool false, .bool false, .slice A' n' c', .bool true, .bool false, .bool false, .bool false, .int .i64 T, .bool true, .bool false, .slice A n c, .slice A' n' c', .func (Fn.func 113) #[] #[.pointer (some ⟨ob + 1, 0, none⟩), .pointer (some ⟨ob + 1 + 1, 0, none⟩)], .slice x.A x.n x.c, .agg #[.int .i64 x.m, .int .i64 x.k], undef, undef, undef, undef, undef, undef, undef, undef, undef, undef, undef, undef, undef, undef, undef, undef, undef, undef, undef, undef, undef, undef], defers := [] })
    (fun pre x a' _ X Y row hs hg hr => by
      obtain ⟨nb, h1, h2, h3⟩ := hs
      exact ⟨nb, h1, blk_own h2 hg (fun r e => (hr r e).2), h3⟩)
    ?assign ?body ?done ?stop
  case assign =>
    rintro l pre x W K hpx ⟨⟨hI, hBW⟩, hAll⟩ hK
    have hWs : ob + 3 ≤ W.heap.size := by have := hI.lt; omega
    dsimp only [encPe]
    gi_wp2
    refine hK _ _ ((KeepsOthers.alloc _ _).from _) ((Bar.refl _ _ _).alloc hWs _) ⟨⟨hI.below (below_val _ _), hBW.alloc (by omega) _⟩, hAll⟩ ⟨W.heap.size, hWs, Blk.new W _ _, rfl⟩
  case body =>
    rintro l pre x a' W hpx ⟨⟨hI, hBW⟩, hAll⟩ ⟨nb, hnb, hbn, rfl⟩
    have HALL := hide hAll
    clear hAll
    have hxt : Boxed W w.heap.size 3 (.int .i64 T) := (hBW.block w.heap.size (by omega)).trans zt
    have hBwW : Below w.heap.size w W := hB02.trans (hBW.mono (by omega))
    have m0 := hbn.cell 0
    have m1 := hbn.cell 1
    simp at m0 m1
    have hxin : x ∈ prI la lb := hpx.subset (by simp)
    obtain ⟨⟨bm1, bm2⟩, ⟨bk1, bk2⟩, bn⟩ := HBD.out x hxin
    have hmem := HMEM.out x hxin
    have HSN := hide (both_snoc f (pre.map datP) (datP x))
    have hfx : f x.m x.k = x.k - x.m := by rw [HF.out]
    have hwr : IntKind.i64.wrap (x.k - x.m) = x.k - x.m := by rw [IntKind.wrap_i64]; omega
    obtain ⟨fv, hfv⟩ : ∃ fv, x.k - x.m = fv := ⟨_, rfl⟩
    rw [hfx, hfv] at hmem
    have HFV := hide (hfx.trans hfv)
    by_cases h0 : fv = 0
    · have n1 : (x.k - x.m == 0) = true := by rw [hfv]; simpa using h0
      have HE := hide (show both f ((pre ++ [x]).map datP) = both f (pre.map datP) from by
        rw [List.map_append, List.map_cons, List.map_nil, HSN.out]
        show _ ++ (if f x.m x.k = 0 then [] else _) = _
        rw [HFV.out, if_pos h0, List.append_nil])
      clear h0 hfv hmem hfx
      gi_wp2
      obtain ⟨⟨v, l', i1, i2, ⟨i3, i3'⟩, i4⟩, i5, i6⟩ := hI
      exact ⟨KeepsFrom.refl _ _, Bar.refl _ _ _, ⟨⟨⟨v, l', i1, i2, ⟨by rw [HE.out]; exact i3, i3'⟩, i4⟩, i5, i6⟩, hBW⟩, by rw [HE.out]; exact HALL.out⟩
    · have n1 : (x.k - x.m == 0) = false := by rw [hfv]; simpa using h0
      have HE := hide (show both f ((pre ++ [x]).map datP) = both f (pre.map datP) ++ [(x.r, fv)] from by
        rw [List.map_append, List.map_cons, List.map_nil, HSN.out]
        show _ ++ (if f x.m x.k = 0 then [] else [(x.r, f x.m x.k)]) = _
        rw [HFV.out, if_neg h0])
      have HMB := hide (hmem h0)
      have HV2 := hide hfv
      clear h0 hfx hmem hfv
      gi_wp2_with fail
      rw [HV2.out]
      refine ((callsIn_wide.2 (number_any fv W)).inRound l).mono ?_
      rintro e w' ⟨rfl, rfl⟩
      cases hnu : numB fv
      · have HBAD := hide (show ∃ y ∈ both f (prs (dat la) (dat lb)), numB y.2 = false from ⟨_, HMB.out, hnu⟩)
        have yr : Boxed W (w.heap.size + 1) 24 (.slice none 0 0) := (hBW.block _ (by omega)).trans zr
        have ye : Boxed W (w.heap.size + 1 + 1) 28 (.int .i64 0) := (hBW.block _ (by omega)).trans ze
        have kr := yr.cell
        have fr := yr.frozen
        have ye2 := Boxed.setOther ye (p := ⟨w.heap.size + 1, 0, none⟩) (by show w.heap.size + 1 + 1 ≠ w.heap.size + 1; omega) (.slice none 0 0)
        have ke := ye2.cell
        have fe := ye2.frozen
        obtain ⟨_, _, e3, e4, e5⟩ := bad_end hBwW yr ye 4
        have E3 := hide e3
        have E4 := hide e4
        have E5 := hide e5
        clear e3 e4 e5 ye2 hnu hBwW hBW hbn m0 m1 hI
        gi_wp2
        exact ⟨((KeepsOthers.setCell _ _ _).trans (KeepsOthers.setCell _ _ _)).from _, ⟨rfl, HBAD.out⟩, E4.out, E5.out, E3.out⟩
      have HNU := hide hnu
      clear hnu
      have HAL2 := hide (show ∀ y ∈ both f ((pre ++ [x]).map datP), numB y.2 = true by
        rw [HE.out]
        intro y hy
        rcases List.mem_append.1 hy with h | h
        · exact HALL.out y h
        · obtain rfl : y = (x.r, fv) := by simpa using h
          exact HNU.out)
      gi_wp2_with fail
      obtain ⟨⟨v, l', i1, i2, ⟨i3, i3'⟩, i4⟩, ⟨va, i5⟩, ⟨vb, i6⟩⟩ := hI
      have hrx := prI_row la lb hra.rows hrb.rows x hxin
      have hWs : ob + 3 ≤ W.heap.size := by have := i6.lt; have := hBW.size; omega
      refine Held.beginR (fun y => y.cell? ⟨ob, 0, none⟩ = some v ∧ y.cell? ⟨w.heap.size, 0, none⟩ = some (.int .i64 T)) 8 (by kernel_rfl) (by kernel_rfl) (by rintro ⟨_, _, h⟩; exact h) ?_
      have j1 : Boxed W.drew ob 24 v := i1
      have jt : Boxed W.drew w.heap.size 3 (.int .i64 T) := hxt
      have j2 : W.drew.ownsRow (ob + 3) 45 3 v l'.length (l'.flatMap encCh) := i2.drew
      have j4 : RowsC W.drew w.heap.size l' := fun i hi => (i4 i hi).below ((Below.refl _ _).drew)
      have j5 : Boxed W.drew (ob + 1) 23 va := i5
      have j6 : Boxed W.drew (ob + 1 + 1) 23 vb := i6
      have jB : Below ob W2 W.drew := hBW.drew
      have jK : KeepsOthers W W.drew := KeepsOthers.drew W
      have jR : Bar (ob + 3) [ob] W W.drew := (Bar.refl _ _ W).drew
      have jx : RowK W.drew W2.heap.size x.A x.n x.r := hrx.below (by rw [hob]; exact jB)
      have hWs' : ob + 3 ≤ W.drew.heap.size := hWs
      obtain ⟨X1, hX1⟩ : ∃ X1, W.drew = X1 := ⟨_, rfl⟩
      rw [hX1] at j1 jt j2 j4 j5 j6 jB jK jR jx hWs' ⊢
      clear hX1 i1 i2 i4 i5 i6 hBW hbn m0 m1 hBwW hxt
      have hS := And.intro j1.cell jt.cell
      refine Held.take (i := 0) (v) rfl hS (by kernel_rfl) (by kernel_rfl) (by kernel_rfl) (by kernel_rfl) (fun _ _ _ h => h) rfl (fun y hy => by obtain ⟨y1, y2⟩ := hy; go_simp) ?_
      try simp only [Act.put]
      refine Held.take (i := 1) (.int .i64 T) rfl hS (by kernel_rfl) (by kernel_rfl) (by kernel_rfl) (by kernel_rfl) (fun _ _ _ h => h) rfl (fun y hy => by obtain ⟨y1, y2⟩ := hy; go_simp) ?_
      try simp only [Act.put]
      refine Held.take (i := 2) (.slice x.A x.n x.c) rfl hS (by kernel_rfl) (by kernel_rfl) (by kernel_rfl) (by kernel_rfl) (fun _ _ _ h => h) rfl (fun y hy => by obtain ⟨y1, y2⟩ := hy; go_simp) ?_
      try simp only [Act.put]
      refine Held.take (i := 4) (.int .i64 fv) rfl hS (by kernel_rfl) (by kernel_rfl) (by kernel_rfl) (by kernel_rfl) (fun _ _ _ h => h) rfl (fun y hy => by obtain ⟨y1, y2⟩ := hy; go_simp) ?_
      try simp only [Act.put]
      refine Held.one (i := 3) rfl (by kernel_rfl) rfl (fun K hK => ?_)
      unfold Oper.wp
      go_simp
      refine (Clone_any x.A x.n x.c _ w.heap.size x.r X1 jx bn).mono ?_
      rintro e X2 ⟨Ac, cc, rfl, hrow, hB2⟩
      have l1 : Boxed X2 ob 24 v := (hB2.block ob j1.lt).trans j1
      have lt : Boxed X2 w.heap.size 3 (.int .i64 T) := (hB2.block _ jt.lt).trans jt
      have l2 := own_below j2 hB2
      have l4 : RowsC X2 w.heap.size l' := fun i hi => (j4 i hi).below hB2
      have l5 : Boxed X2 (ob + 1) 23 va := (hB2.block _ j5.lt).trans j5
      have l6 : Boxed X2 (ob + 1 + 1) 23 vb := (hB2.block _ j6.lt).trans j6
      have lB := jB.trans (hB2.mono (by omega))
      have lK := jK.trans (KeepsOthers.mk hB2.size fun k o hk _ => by rw [← hk]; exact hB2.block k (Array.getElem?_eq_some_iff.1 hk).1)
      have lR := jR.trans (Bar.of_below (hB2.mono hWs') [ob])
      have hWs2 : ob + 3 ≤ X2.heap.size := Nat.le_trans hWs' hB2.size
      refine hK _ _ (fun _ => ⟨l1.cell, lt.cell⟩) ?_
      try simp only [Act.put]
      clear hK K hS j1 jt j2 j4 j5 j6 jB jK jR jx hB2
      have hS := And.intro l1.cell lt.cell
      refine Held.take (i := 5) (.agg #[.int .i64 T, .slice Ac x.n cc, .int .i64 fv]) rfl hS (by kernel_rfl) (by kernel_rfl) (by kernel_rfl) (by kernel_rfl) (fun _ _ _ h => h) rfl (fun y hy => by obtain ⟨y1, y2⟩ := hy; go_simp) ?_
      try simp only [Act.put]
      refine Held.one (i := 6) rfl (by kernel_rfl) rfl (fun K hK => ?_)
      have hS4 : (X2.alloc (.cells #[.int .i64 T, .slice Ac x.n cc, .int .i64 fv] 45)).cell? ⟨ob, 0, none⟩ = some v ∧ (X2.alloc (.cells #[.int .i64 T, .slice Ac x.n cc, .int .i64 fv] 45)).cell? ⟨w.heap.size, 0, none⟩ = some (.int .i64 T) :=
        ⟨(World.cell?_alloc_lt X2 _ ⟨ob, 0, none⟩ (by show ob < _; omega)).trans hS.1, (World.cell?_alloc_lt X2 _ ⟨w.heap.size, 0, none⟩ lt.lt).trans hS.2⟩
      have HS4 := hide hS4
      clear hS4
      unfold Oper.wp
      go_simp
      refine hK _ _ (fun _ => HS4.out) ?_
      try simp only [Act.put]
      clear hK K
      refine Held.one (i := 7) rfl (by kernel_rfl) rfl (fun K hK => ?_)
      have hrd : Reads (X2.alloc (.cells #[.int .i64 T, .slice Ac x.n cc, .int .i64 fv] 45)) (X2.heap.size + 1) 3 (some ⟨X2.heap.size, 0, none⟩) 1 [.int .i64 T, .slice Ac x.n cc, .int .i64 fv] :=
        ⟨rfl, fun _ => ⟨X2.heap.size, 0, rfl, by omega, fun j u hu => by
          have := (Blk.new X2 45 #[.int .i64 T, .slice Ac x.n cc, .int .i64 fv]).cell j
          rw [Nat.zero_add, this]; simpa using hu⟩⟩
      have hll : l'.length ≤ 800 := by
        have h1 := both_len f (pre.map datP)
        rw [← i3, List.length_map, List.length_map] at h1
        have h2 := hpx.length_le
        rw [List.length_append] at h2
        omega
      refine wp_append_any _ _ _ 24 rfl (ob + 3) 45 i0 _ 3 40 Tryz.underlying24 hi hz0 hz1 hz2 rfl (by decide) v l'.length _ rfl (l2.alloc _) (X2.heap.size + 1) (some ⟨X2.heap.size, 0, none⟩) 1 1 [.int .i64 T, .slice Ac x.n cc, .int .i64 fv] rfl hrd (by simp [Value.oneCell']) (by unfold maxLen; omega) (by omega) (by simp; omega) ?_
      intro v' X3 hown1 hgrow _
      obtain ⟨gr, capr, hvr⟩ := ownsRow_succ hown1
      subst hvr
      obtain ⟨o1, o2, o3, o4, o5⟩ := Boxed.collected l1 l2 hWs2 (by omega) hown1 hgrow
      have nrow : ∀ i : Ch, RowK X2 w.heap.size i.A i.n i.r → RowK (X3.setCell ⟨ob, 0, none⟩ (.slice (some ⟨gr, 0, none⟩) (l'.length + 1) capr)) w.heap.size i.A i.n i.r := fun i h =>
        ((h.alloc _).grown (l2.alloc _) (by decide) (by omega) hgrow).setCell (p := ⟨ob, 0, none⟩) o1 (by decide) (by show w.heap.size ≤ ob; omega) _
      have ot : X3.cell? ⟨w.heap.size, 0, none⟩ = some (.int .i64 T) := by
        have hne : some w.heap.size ≠ v.ownBlock := fun e => by have := (l2.lt _ e.symm).1; omega
        have h1 : Boxed X3 w.heap.size 3 (.int .i64 T) := (lt.alloc _).kept hgrow hne
        exact h1.cell
      refine hK _ _ (fun _ => ⟨o1.cell, ot⟩) ?_
      try simp only [Act.put]
      have fo := o1.frozen
      have ko := o1.cell
      clear hK K hS HS4 hrd
      refine Held.one (i := 8) rfl (by kernel_rfl) rfl (fun K hK => ?_)
      unfold Oper.wp
      go_simp
      refine hK _ _ (fun h => absurd rfl h) ?_
      try simp only [Act.put]
      clear hK K
      refine Held.done (by kernel_rfl) ?_
      have HFIN := hide (show KeepsFrom W3.heap.size W (X3.setCell ⟨ob, 0, none⟩ (.slice (some ⟨gr, 0, none⟩) (l'.length + 1) capr)) ∧ Bar (ob + 3) [ob] W (X3.setCell ⟨ob, 0, none⟩ (.slice (some ⟨gr, 0, none⟩) (l'.length + 1) capr)) ∧ (OutC f T w.heap.size ob (pre ++ [x]) (X3.setCell ⟨ob, 0, none⟩ (.slice (some ⟨gr, 0, none⟩) (l'.length + 1) capr)) ∧ Below ob W2 (X3.setCell ⟨ob, 0, none⟩ (.slice (some ⟨gr, 0, none⟩) (l'.length + 1) capr))) ∧ ∀ y ∈ both f ((pre ++ [x]).map datP), numB y.2 = true from by
        refine ⟨(lK.trans o4).from _, lR.trans o5, ⟨⟨⟨_, l' ++ [⟨T, Ac, x.n, cc, x.r, fv⟩], o2, ?_, ⟨?_, ?_⟩, ?_⟩, ⟨va, o5.boxed l5 (by omega) (by simp)⟩, ⟨vb, o5.boxed l6 (by omega) (by simp; omega)⟩⟩, lB.trans (o5.below (by omega) (by simp))⟩, HAL2.out⟩
        · rw [List.flatMap_append, List.length_append]
          exact o3
        · rw [List.map_append, i3, HE.out]; rfl
        · intro i hi
          rcases List.mem_append.1 hi with hi | hi
          · exact i3' i hi
          · obtain rfl : i = ⟨T, Ac, x.n, cc, x.r, fv⟩ := by simpa using hi
            rfl
        · intro i hi
          rcases List.mem_append.1 hi with hi | hi
          · exact nrow i (l4 i hi)
          · obtain rfl : i = ⟨T, Ac, x.n, cc, x.r, fv⟩ := by simpa using hi
            exact nrow _ hrow)
      clear o1 o2 o3 o4 o5 nrow fo ko ot hown1 hgrow l1 lt l2 l4 l5 l6 lB lK lR hrow
      gi_wp2
      exact HFIN.out
  case done =>
    rintro D W hD ⟨⟨⟨⟨v, l, i1, i2, ⟨i3, i3'⟩, i4⟩, i5, ⟨vb, i6⟩⟩, hBW⟩, hAll⟩ hK
    have kv := i1.cell
    obtain ⟨Ao, co, rfl, hro⟩ := own_form i2
    have hBwW : Below w.heap.size w W := hB02.trans (hBW.mono (by omega))
    have hDl := (Array.getElem?_eq_some_iff.1 hK).1
    rw [prI_dat] at i3 hAll
    have HLD := hide (show l.length = (both f (prs (dat la) (dat lb))).length by rw [← i3, List.length_map])
    have hll8 : l.length ≤ 800 := by
      have h1 := both_len f (prs (dat la) (dat lb))
      rw [← HLD.out, ← prI_dat, List.length_map] at h1
      omega
    have yr : Boxed W (w.heap.size + 1) 24 (.slice none 0 0) := (hBW.block _ (by omega)).trans zr
    have ye : Boxed W (w.heap.size + 1 + 1) 28 (.int .i64 0) := (hBW.block _ (by omega)).trans ze
    by_cases hl4 : l.length ≤ 400
    case neg =>
      have HX := hide (show p = ([], 4) by rw [HQ.out]; unfold toldB; rw [okBag_long (by have := HLD.out; omega)]; rfl)
      have kr := yr.cell
      have fr := yr.frozen
      have ye2 := Boxed.setOther ye (p := ⟨w.heap.size + 1, 0, none⟩) (by show w.heap.size + 1 + 1 ≠ w.heap.size + 1; omega) (.slice none 0 0)
      have ke := ye2.cell
      have fe := ye2.frozen
      obtain ⟨_, _, e3, e4, e5⟩ := bad_end hBwW yr ye 4
      have hKF : ((W.setCell ⟨w.heap.size + 1, 0, none⟩ (.slice none 0 0)).setCell ⟨w.heap.size + 1 + 1, 0, none⟩ (.int .i64 4)).heap[D]? = some (.deferred (some [])) :=
        (Below.heap_setCell _ _ _ D (by show D ≠ w.heap.size + 1 + 1; omega)).trans ((Below.heap_setCell _ _ _ D (by show D ≠ w.heap.size + 1; omega)).trans hK)
      obtain ⟨WF, hWF⟩ : ∃ WF, (W.setCell ⟨w.heap.size + 1, 0, none⟩ (.slice none 0 0)).setCell ⟨w.heap.size + 1 + 1, 0, none⟩ (.int .i64 4) = WF := ⟨_, rfl⟩
      have HWF := hide hWF
      rw [hWF] at e3 e4 e5 hKF
      have C1 := hide (show (WF.putObj D (.deferred none)).cell? ⟨w.heap.size + 1, 0, none⟩ = some (.slice none 0 0) from by
        rw [World.cell?_of_block (w := WF) (a := ⟨w.heap.size + 1, 0, none⟩) (World.putObj_heap_other (by show w.heap.size + 1 ≠ D; omega))]; exact e4.cell)
      have C2 := hide (show (WF.putObj D (.deferred none)).cell? ⟨w.heap.size + 1 + 1, 0, none⟩ = some (.int .i64 4) from by
        rw [World.cell?_of_block (w := WF) (a := ⟨w.heap.size + 1 + 1, 0, none⟩) (World.putObj_heap_other (by show w.heap.size + 1 + 1 ≠ D; omega))]; exact e5.cell)
      have HB := hide (e3.grown (grownBy_putObj' WF D (.deferred none)) e3.size (fun k e => by cases e; have := hB02.size; omega))
      have KF := hide hKF
      have q4 : (400 : Int) < (l.length : Int) := by omega
      clear hWF hKF e3 e4 e5 ye2 i2 i4 i5 i6 hro
      gi_wp2
      rw [HWF.out]
      refine ⟨by simp, .inl ⟨_, _, rfl, run_takeDeferred KF.out, ?_⟩⟩
      refine ⟨_, res_two rfl rfl C1.out C2.out, ?_⟩
      rw [HX.out]
      exact ⟨none, 0, 0, [], rfl, ⟨rfl, nofun⟩, ChgR.nil _ _, HB.out⟩
    have HX := hide (show p = (both f (prs (dat la) (dat lb)), 0) by
      rw [HQ.out]
      unfold toldB
      rw [okBag_of (by rw [HF.out]; exact diff_asc HVA.out HVB.out) hAll (by have := HLD.out; omega)]
      rfl)
    have kr := yr.cell
    have fr := yr.frozen
    have ye2 := Boxed.setOther ye (p := ⟨w.heap.size + 1, 0, none⟩) (by show w.heap.size + 1 + 1 ≠ w.heap.size + 1; omega) (.slice Ao l.length co)
    have ke := ye2.cell
    have fe := ye2.frozen
    have yr2 := yr.set (.slice Ao l.length co)
    have yr3 := Boxed.setOther yr2 (p := ⟨w.heap.size + 1 + 1, 0, none⟩) (by show w.heap.size + 1 ≠ w.heap.size + 1 + 1; omega) (.int .i64 0)
    have ye3 := ye2.set (.int .i64 0)
    have hKF : ((W.setCell ⟨w.heap.size + 1, 0, none⟩ (.slice Ao l.length co)).setCell ⟨w.heap.size + 1 + 1, 0, none⟩ (.int .i64 0)).heap[D]? = some (.deferred (some [])) :=
      (Below.heap_setCell _ _ _ D (by show D ≠ w.heap.size + 1 + 1; omega)).trans ((Below.heap_setCell _ _ _ D (by show D ≠ w.heap.size + 1; omega)).trans hK)
    have hBF : Below w.heap.size w ((W.setCell ⟨w.heap.size + 1, 0, none⟩ (.slice Ao l.length co)).setCell ⟨w.heap.size + 1 + 1, 0, none⟩ (.int .i64 0)) := (hBwW.setCell (p := ⟨w.heap.size + 1, 0, none⟩) (by show w.heap.size ≤ w.heap.size + 1; omega) _).setCell (p := ⟨w.heap.size + 1 + 1, 0, none⟩) (by show w.heap.size ≤ w.heap.size + 1 + 1; omega) _
    have hoF := ownsRow_setCell_below (ownsRow_setCell_below i2 (a := ⟨w.heap.size + 1, 0, none⟩) (by show w.heap.size + 1 < ob + 3; omega) (.slice Ao l.length co)) (a := ⟨w.heap.size + 1 + 1, 0, none⟩) (by show w.heap.size + 1 + 1 < ob + 3; omega) (.int .i64 0)
    have hrF : ∀ i ∈ l, RowK ((W.setCell ⟨w.heap.size + 1, 0, none⟩ (.slice Ao l.length co)).setCell ⟨w.heap.size + 1 + 1, 0, none⟩ (.int .i64 0)) w.heap.size i.A i.n i.r := fun i hi =>
      ((RowK.setCell (i4 i hi) (p := ⟨w.heap.size + 1, 0, none⟩) yr (by decide) (by show w.heap.size ≤ w.heap.size + 1; omega) _).setCell (p := ⟨w.heap.size + 1 + 1, 0, none⟩) ye2 (by decide) (by show w.heap.size ≤ w.heap.size + 1 + 1; omega) _)
    obtain ⟨WF, hWF⟩ : ∃ WF, (W.setCell ⟨w.heap.size + 1, 0, none⟩ (.slice Ao l.length co)).setCell ⟨w.heap.size + 1 + 1, 0, none⟩ (.int .i64 0) = WF := ⟨_, rfl⟩
    have HWF := hide hWF
    rw [hWF] at yr3 ye3 hKF hBF hoF hrF
    have HEND := hide (show RetChE w T (both f (prs (dat la) (dat lb)), 0) (.returned (.tuple #[.slice Ao l.length co, .int .i64 0])) (WF.putObj D (.deferred none)) from by
      have hgp := grownBy_putObj' WF D (.deferred none)
      refine ⟨Ao, _, co, l, rfl, ⟨i3, i3'⟩, ⟨Reads.of_own (ownsRow_putObj hoF _ hKF rfl), fun i hi => (hrF i hi).keepCells (putObj_cells hKF rfl) (by simp [World.putObj]) (by have := hBF.size; simp [World.putObj]; omega), by omega⟩, hBF.grown hgp hBF.size (fun k e => by cases e; have := hB02.size; omega)⟩)
    have c1 : (WF.putObj D (.deferred none)).cell? ⟨w.heap.size + 1, 0, none⟩ = some (.slice Ao l.length co) := by
      rw [World.cell?_of_block (w := WF) (a := ⟨w.heap.size + 1, 0, none⟩) (World.putObj_heap_other (by show w.heap.size + 1 ≠ D; omega))]; exact yr3.cell
    have c2 : (WF.putObj D (.deferred none)).cell? ⟨w.heap.size + 1 + 1, 0, none⟩ = some (.int .i64 0) := by
      rw [World.cell?_of_block (w := WF) (a := ⟨w.heap.size + 1 + 1, 0, none⟩) (World.putObj_heap_other (by show w.heap.size + 1 + 1 ≠ D; omega))]; exact ye3.cell
    have q4 : ¬ (400 : Int) < (l.length : Int) := by omega
    have C1 := hide c1
    have C2 := hide c2
    have KF := hide hKF
    clear hWF c1 c2 hKF yr3 ye3 hBF hoF hrF i2 i4 i5 i6 hro
    gi_wp2
    rw [HWF.out]
    refine ⟨by simp, .inl ⟨_, _, rfl, run_takeDeferred KF.out, ?_⟩⟩
    refine ⟨_, res_two rfl rfl C1.out C2.out, ?_⟩
    rw [HX.out]
    exact HEND.out
  case stop =>
    rintro D c pre W hD _ ⟨⟨rfl, y, hy1, hy2⟩, e4, e5, e3⟩ hK
    have HX := hide (show p = ([], 4) by rw [HQ.out]; unfold toldB; rw [okBag_bad hy1 hy2]; rfl)
    have C1 := hide (show (W.putObj D (.deferred none)).cell? ⟨w.heap.size + 1, 0, none⟩ = some (.slice none 0 0) from by
      rw [World.cell?_of_block (w := W) (a := ⟨w.heap.size + 1, 0, none⟩) (World.putObj_heap_other (by show w.heap.size + 1 ≠ D; omega))]; exact e4.cell)
    have C2 := hide (show (W.putObj D (.deferred none)).cell? ⟨w.heap.size + 1 + 1, 0, none⟩ = some (.int .i64 4) from by
      rw [World.cell?_of_block (w := W) (a := ⟨w.heap.size + 1 + 1, 0, none⟩) (World.putObj_heap_other (by show w.heap.size + 1 + 1 ≠ D; omega))]; exact e5.cell)
    have HB := hide (e3.grown (grownBy_putObj' W D (.deferred none)) e3.size (fun k e => by cases e; have := hB02.size; omega))
    clear e3 e4 e5 hy1 hy2
    gi_wp2
    refine ⟨by simp, .inl ⟨_, _, rfl, run_takeDeferred hK, ?_⟩⟩
    refine ⟨_, res_two rfl rfl C1.out C2.out, ?_⟩
    rw [HX.out]
    exact ⟨none, 0, 0, [], rfl, ⟨rfl, nofun⟩, ChgR.nil _ _, HB.out⟩
end

section
open Go.RowKit
attribute [local go_sem] Oper.semAt_some
set_option linter.unusedVariables false
set_option linter.unusedSimpArgs false

/-- What is written so far. -/
structure MadI (w : World) (T : Int) (d : Bg) (v : Value) (W : World) : Prop where
  bel : Below w.heap.size w W
  ow : ∃ l : List Ch, W.ownsRow w.heap.size 45 3 v l.length (l.flatMap encCh) ∧ chD l = d ∧ (∀ i ∈ l, i.t = T) ∧ RowsC W w.heap.size l
theorem MadI.below {w W W' : World} {T : Int} {d : Bg} {v : Value} (h : MadI w T d v W) (hb : Below W.heap.size W W') : MadI w T d v W' := by
  obtain ⟨h1, l, h2, h3, h4, h5⟩ := h
  exact ⟨bstep h1 hb, l, own_below h2 hb, h3, h4, fun i hi => (h5 i hi).below hb⟩
theorem madi_app {w X2 X3 : World} {T : Int} {d : Bg} {v v' : Value} {l : List Ch} {Ac : Option Addr} {n cc : Nat} {r : Rw} {m : Int} (hB : Below w.heap.size w X2) (h1 : X2.ownsRow w.heap.size 45 3 v l.length (l.flatMap encCh)) (h2 : chD l = d) (ht : ∀ i ∈ l, i.t = T) (h3 : RowsC X2 w.heap.size l)
    (hrow : RowK X2 w.heap.size Ac n r) (hown : X3.ownsRow w.heap.size 45 3 v' (l.length + 1) (l.flatMap encCh ++ [.int .i64 T, .slice Ac n cc, .int .i64 m])) (hgrow : (X2.alloc (.cells #[.int .i64 T, .slice Ac n cc, .int .i64 m] 45)).grownBy X3 v.ownBlock) : MadI w T (d ++ [(r, m)]) v' X3 := by
  have hs := hB.size
  refine ⟨below_append (hB.alloc hs _) (h1.alloc _) (by simp; omega) hgrow, l ++ [⟨T, Ac, n, cc, r, m⟩], ?_, by rw [chD_snoc, h2], fun i hi => ?_, fun i hi => ?_⟩
  · rw [List.length_append, List.flatMap_append]
    simpa [encCh] using hown
  · rcases List.mem_append.1 hi with h | h
    · exact ht i h
    · obtain rfl : i = ⟨T, Ac, n, cc, r, m⟩ := by simpa using h
      rfl
  · have key : RowK X2 w.heap.size i.A i.n i.r := by
      rcases List.mem_append.1 hi with h | h
      · exact h3 i h
      · obtain rfl : i = ⟨T, Ac, n, cc, r, m⟩ := by simpa using h
        exact hrow
    exact (key.alloc _).grown (h1.alloc _) (by decide) (Nat.le_refl _) hgrow
/-- Changes, handed back. -/
def RetM (w : World) (T : Int) (d : Bg) (e : Ending) (w' : World) : Prop := ∃ A n c l, e = .returned (.slice A n c) ∧ (chD l = d ∧ ∀ i ∈ l, i.t = T) ∧ ChgR w' w'.heap.size A n l ∧ Below w.heap.size w w'
theorem madi_end {w W : World} {T : Int} {d : Bg} {v : Value} (h : MadI w T d v W) (hd : d.length ≤ 100000) : ∃ A n c l, v = .slice A n c ∧ (chD l = d ∧ ∀ i ∈ l, i.t = T) ∧ ChgR W W.heap.size A n l ∧ Below w.heap.size w W := by
  obtain ⟨h1, l, h2, h3, h4, h5⟩ := h
  have hl : l.length = d.length := by rw [← h3, chD_len]
  obtain ⟨A, c, rfl, _⟩ := own_form h2
  exact ⟨A, _, c, l, rfl, ⟨h3, h4⟩, ⟨Reads.of_own h2, fun i hi => (h5 i hi).mono h1.size, by omega⟩, h1⟩
set_option maxRecDepth 100000 in
set_option maxHeartbeats 2000000 in
theorem RMade_any (A : Option Addr) (n c : Nat) (la : List It) (T : Int) (w : World) (hb : BagR w w.heap.size A n la) (ho : okBag (dat la) = true) :
    Calls Tryz.prog 60 #[.slice A n c, .int .i64 T] w (RetM w T (dat la)) := by
  obtain ⟨i0, hi, hz0, hz1, hz2⟩ := info_parts3 infoCh
  have HL := hide hb.len
  have hn4 : n ≤ 400 := by have := (okBag_asc ho).2.2; rw [dat_len, hb.len] at this; exact this
  have HO := hide ho
  clear ho
  go_enter Tryz.func60, Tryz.ntmps60
  go_wp2_with fail
  go_loopw [5, 6] (fun v i wr => ∃ (k : Nat) (v' : Value), k ≤ n ∧ i = .int .i64 k ∧ v' = v ∧ MadI w T ((dat la).take k) v' wr) (fun _ i _ => n - (intOf i).toNat)
  case atStart => exact ⟨0, _, Nat.zero_le _, rfl, rfl, Below.refl _ _, [], World.ownsRow_nil _ _ _ _, rfl, nofun, nofun⟩
  case round =>
    obtain ⟨k, v, hk, rfl, rfl, hI⟩ := hrel
    by_cases hlt : k < n
    · obtain ⟨b, off, y0, rfl, hbl, hyk, c0', c1', hy⟩ := hb.at_ hlt
      have hyd := dat_at hyk
      have hmem := List.mem_of_getElem? hyd
      have hyr := (okBag_asc HO.out).1.ok _ hmem
      have hyn : y0.n ≤ 1000 := by
        have h1 := okR_len hyr
        have h2 := hy.len
        simp only at h1
        omega
      have HT := hide (show (dat la).take (k + 1) = (dat la).take k ++ [(y0.r, y0.m)] by rw [take_snoc' hyd])
      have HKL := hide (show ((dat la).take k).length ≤ 400 by rw [List.length_take]; omega)
      have C0 := hide c0'
      have C1 := hide c1'
      have c0 := (hI.bel.cell (p := ⟨b, off + k * 2, none⟩) hbl).trans c0'
      have c1 := (hI.bel.cell (p := ⟨b, off + k * 2 + 1, none⟩) hbl).trans c1'
      clear c0' c1' hyk hyd hmem hyr
      have q1 : (0 : Int) ≤ (k : Int) := by omega
      have q2 : (k : Int) < (n : Int) := by omega
      go_wp2_with fail
      refine Held.begin (fun y => y.cell? ⟨b, off + k * 2, none⟩ = some (.slice y0.A y0.n y0.c) ∧ y.cell? ⟨b, off + k * 2 + 1, none⟩ = some (.int .i64 y0.m)) 100 (by kernel_rfl) ?_
      have hI := hI.below (Below.refl wr.heap.size wr).drew
      obtain ⟨X1, hX1⟩ : ∃ X1, wr.drew = X1 := ⟨_, rfl⟩
      have hS : X1.cell? ⟨b, off + k * 2, none⟩ = some (.slice y0.A y0.n y0.c) ∧ X1.cell? ⟨b, off + k * 2 + 1, none⟩ = some (.int .i64 y0.m) := by rw [← hX1]; exact ⟨c0, c1⟩
      rw [hX1] at hI ⊢
      clear hX1 c0 c1
      refine Held.take (i := 0) (v) rfl hS (by kernel_rfl) (by kernel_rfl) (by kernel_rfl) (by kernel_rfl) (fun _ _ _ h => h) rfl (fun y hy => by obtain ⟨x1, x2⟩ := hy; go_simp) ?_
      try simp only [Act.put]
      refine Held.take (i := 1) (.int .i64 T) rfl hS (by kernel_rfl) (by kernel_rfl) (by kernel_rfl) (by kernel_rfl) (fun _ _ _ h => h) rfl (fun y hy => by obtain ⟨x1, x2⟩ := hy; go_simp) ?_
      try simp only [Act.put]
      refine Held.take (i := 2) (.slice (some ⟨b, off, none⟩) n c) rfl hS (by kernel_rfl) (by kernel_rfl) (by kernel_rfl) (by kernel_rfl) (fun _ _ _ h => h) rfl (fun y hy => by obtain ⟨x1, x2⟩ := hy; go_simp) ?_
      try simp only [Act.put]
      refine Held.take (i := 3) (.int .i64 (k : Int)) rfl hS (by kernel_rfl) (by kernel_rfl) (by kernel_rfl) (by kernel_rfl) (fun _ _ _ h => h) rfl (fun y hy => by obtain ⟨x1, x2⟩ := hy; go_simp) ?_
      try simp only [Act.put]
      refine Held.take (i := 4) (.pointer (some ⟨b, off + k * 2, none⟩)) rfl hS (by kernel_rfl) (by kernel_rfl) (by kernel_rfl) (by kernel_rfl) (fun _ _ _ h => h) rfl (fun y hy => by obtain ⟨x1, x2⟩ := hy; go_simp) ?_
      try simp only [Act.put]
      refine Held.take (i := 5) (.pointer (some ⟨b, off + k * 2, none⟩)) rfl hS (by kernel_rfl) (by kernel_rfl) (by kernel_rfl) (by kernel_rfl) (fun _ _ _ h => h) rfl (fun y hy => by obtain ⟨x1, x2⟩ := hy; go_simp) ?_
      try simp only [Act.put]
      refine Held.take (i := 6) (.slice y0.A y0.n y0.c) rfl hS (by kernel_rfl) (by kernel_rfl) (by kernel_rfl) (by kernel_rfl) (fun _ _ _ h => h) rfl (fun y hy => by obtain ⟨x1, x2⟩ := hy; go_simp) ?_
      try simp only [Act.put]
      refine Held.take (i := 8) (.slice (some ⟨b, off, none⟩) n c) rfl hS (by kernel_rfl) (by kernel_rfl) (by kernel_rfl) (by kernel_rfl) (fun _ _ _ h => h) rfl (fun y hy => by obtain ⟨x1, x2⟩ := hy; go_simp) ?_
      try simp only [Act.put]
      refine Held.take (i := 9) (.int .i64 (k : Int)) rfl hS (by kernel_rfl) (by kernel_rfl) (by kernel_rfl) (by kernel_rfl) (fun _ _ _ h => h) rfl (fun y hy => by obtain ⟨x1, x2⟩ := hy; go_simp) ?_
      try simp only [Act.put]
      refine Held.take (i := 10) (.pointer (some ⟨b, off + k * 2, none⟩)) rfl hS (by kernel_rfl) (by kernel_rfl) (by kernel_rfl) (by kernel_rfl) (fun _ _ _ h => h) rfl (fun y hy => by obtain ⟨x1, x2⟩ := hy; go_simp) ?_
      try simp only [Act.put]
      refine Held.take (i := 11) (.pointer (some ⟨b, off + k * 2 + 1, none⟩)) rfl hS (by kernel_rfl) (by kernel_rfl) (by kernel_rfl) (by kernel_rfl) (fun _ _ _ h => h) rfl (fun y hy => by obtain ⟨x1, x2⟩ := hy; go_simp) ?_
      try simp only [Act.put]
      refine Held.take (i := 12) (.int .i64 y0.m) rfl hS (by kernel_rfl) (by kernel_rfl) (by kernel_rfl) (by kernel_rfl) (fun _ _ _ h => h) rfl (fun y hy => by obtain ⟨x1, x2⟩ := hy; go_simp) ?_
      try simp only [Act.put]
      refine Held.one (i := 7) rfl (by kernel_rfl) rfl (fun K hK => ?_)
      unfold Oper.wp
      go_simp
      refine (Own_any y0.A y0.n y0.c _ w.heap.size y0.r X1 (hy.below hI.bel) (by omega)).mono ?_
      rintro e X2 ⟨Ac, cc, rfl, hrow, hB2⟩
      have hI2 := hI.below hB2
      clear hI
      have hS2 : X2.cell? ⟨b, off + k * 2, none⟩ = some (.slice y0.A y0.n y0.c) ∧ X2.cell? ⟨b, off + k * 2 + 1, none⟩ = some (.int .i64 y0.m) := ⟨(hB2.cell (World.block_lt_of_cell? _ _ hS.1)).trans hS.1, (hB2.cell (World.block_lt_of_cell? _ _ hS.2)).trans hS.2⟩
      refine hK _ _ (fun _ => hS2) ?_
      try simp only [Act.put]
      clear hK K hS hB2
      have hS := hS2
      clear hS2
      refine Held.take (i := 13) (.agg #[.int .i64 T, .slice Ac y0.n cc, .int .i64 y0.m]) rfl hS (by kernel_rfl) (by kernel_rfl) (by kernel_rfl) (by kernel_rfl) (fun _ _ _ h => h) rfl (fun y hy => by obtain ⟨x1, x2⟩ := hy; go_simp) ?_
      try simp only [Act.put]
      refine Held.one (i := 14) rfl (by kernel_rfl) rfl (fun K hK => ?_)
      have HS4 := hide (show (X2.alloc (.cells #[.int .i64 T, .slice Ac y0.n cc, .int .i64 y0.m] 45)).cell? ⟨b, off + k * 2, none⟩ = some (.slice y0.A y0.n y0.c) ∧ (X2.alloc (.cells #[.int .i64 T, .slice Ac y0.n cc, .int .i64 y0.m] 45)).cell? ⟨b, off + k * 2 + 1, none⟩ = some (.int .i64 y0.m) from
        ⟨(World.cell?_alloc_lt X2 _ ⟨b, off + k * 2, none⟩ (World.block_lt_of_cell? _ _ hS.1)).trans hS.1, (World.cell?_alloc_lt X2 _ ⟨b, off + k * 2 + 1, none⟩ (World.block_lt_of_cell? _ _ hS.2)).trans hS.2⟩)
      unfold Oper.wp
      go_simp
      refine hK _ _ (fun _ => HS4.out) ?_
      try simp only [Act.put]
      clear hK K hS
      refine Held.one (i := 15) rfl (by kernel_rfl) rfl (fun K hK => ?_)
      have hle := hI2.bel.size
      obtain ⟨hbel, l', h1, h2, ht, h3⟩ := hI2
      have hll : l'.length ≤ 400 := by have := HKL.out; rw [← h2, chD_len] at this; exact this
      have hrd : Reads (X2.alloc (.cells #[.int .i64 T, .slice Ac y0.n cc, .int .i64 y0.m] 45)) (X2.heap.size + 1) 3 (some ⟨X2.heap.size, 0, none⟩) 1 [.int .i64 T, .slice Ac y0.n cc, .int .i64 y0.m] :=
        ⟨rfl, fun _ => ⟨X2.heap.size, 0, rfl, by omega, fun j u hu => by
          have := (Blk.new X2 45 #[.int .i64 T, .slice Ac y0.n cc, .int .i64 y0.m]).cell j
          rw [Nat.zero_add, this]; simpa using hu⟩⟩
      refine wp_append_any _ _ _ 24 rfl w.heap.size 45 i0 _ 3 40 Tryz.underlying24 hi hz0 hz1 hz2 rfl (by decide) v l'.length _ rfl (h1.alloc _) (X2.heap.size + 1) (some ⟨X2.heap.size, 0, none⟩) 1 1 [.int .i64 T, .slice Ac y0.n cc, .int .i64 y0.m] rfl hrd (by simp [Value.oneCell']) (by unfold maxLen; omega) (by omega) (by simp; omega) ?_
      intro v' X3 hown1 hgrow _
      have hI := madi_app hbel h1 h2 ht h3 hrow hown1 hgrow
      have hS5 : X3.cell? ⟨b, off + k * 2, none⟩ = some (.slice y0.A y0.n y0.c) ∧ X3.cell? ⟨b, off + k * 2 + 1, none⟩ = some (.int .i64 y0.m) := ⟨(hI.bel.cell (p := ⟨b, off + k * 2, none⟩) hbl).trans C0.out, (hI.bel.cell (p := ⟨b, off + k * 2 + 1, none⟩) hbl).trans C1.out⟩
      refine hK _ _ (fun _ => hS5) ?_
      try simp only [Act.put]
      clear hK K HS4 hrd hown1 hgrow hbel h1 h2 h3 ht hrow
      refine Held.one (i := 16) rfl (by kernel_rfl) rfl (fun K hK => ?_)
      unfold Oper.wp
      go_simp
      refine hK _ _ (fun _ => hS5) ?_
      try simp only [Act.put]
      clear hK K hS5
      refine Held.done (by kernel_rfl) ?_
      go_wp2
      go_roundw
      case rel => exact ⟨k + 1, _, by omega, by go_num, rfl, by rw [HT.out]; exact hI⟩
      case measure => simp [intOf]; omega
    · obtain rfl : k = n := by omega
      rw [take_all (by rw [dat_len]; exact HL.out)] at hI
      obtain ⟨A', n', c', l', rfl, r1, r2, r3⟩ := madi_end hI (by rw [dat_len, HL.out]; omega)
      clear hI
      go_wp2
      go_ret
      exact ⟨A', n', c', l', rfl, r1, r2, r3⟩
set_option maxRecDepth 100000 in
set_option maxHeartbeats 2000000 in
theorem RChanges_any (A : Option Addr) (n c : Nat) (la : List It) (A' : Option Addr) (n' c' : Nat) (lb : List It) (T : Int) (w : World) (ha : BagR w w.heap.size A n la) (hb : BagR w w.heap.size A' n' lb) :
    Calls Tryz.prog 16 #[.slice A n c, .slice A' n' c', .int .i64 T] w (RetChE w T (diffB (dat la) (dat lb) T)) := by
  obtain ⟨p, hp⟩ : ∃ p, diffB (dat la) (dat lb) T = p := ⟨_, rfl⟩
  rw [hp]
  have HP := hide hp
  clear hp
  go_enter Tryz.func16, Tryz.ntmps16
  go_wp2_with fail
  refine (R3Valid_any A n c _ la w ha).mono ?_
  rintro e W1 ⟨rfl, hB1⟩
  cases oa : okBag (dat la)
  · have HQ := hide (show p = ([], 1) by rw [← HP.out]; unfold diffB; rw [oa]; rfl)
    clear oa
    go_wp2
    go_ret2
    rw [HQ.out]
    exact ⟨none, 0, 0, [], rfl, ⟨rfl, nofun⟩, ChgR.nil _ _, hB1⟩
  have OA := hide oa
  clear oa
  go_wp2_with fail
  refine (R3Valid_any A' n' c' _ lb W1 (hb.below hB1)).mono ?_
  rintro e W2 ⟨rfl, hB2⟩
  have hB02 := bstep hB1 hB2
  clear hB1 hB2
  cases ob : okBag (dat lb)
  · have HQ := hide (show p = ([], 1) by rw [← HP.out]; unfold diffB; rw [OA.out, ob]; rfl)
    clear ob
    go_wp2
    go_ret2
    rw [HQ.out]
    exact ⟨none, 0, 0, [], rfl, ⟨rfl, nofun⟩, ChgR.nil _ _, hB02⟩
  have OB := hide ob
  clear ob
  go_wp2_with fail
  refine (R1Valid_any T W2).mono ?_
  rintro e w2' ⟨rfl, rfl⟩
  cases hT : btw T (-1000000000000) 1000000000000
  · have HQ := hide (show p = ([], 7) by rw [← HP.out]; unfold diffB; rw [OA.out, OB.out, hT]; rfl)
    clear hT
    go_wp2
    go_ret2
    rw [HQ.out]
    exact ⟨none, 0, 0, [], rfl, ⟨rfl, nofun⟩, ChgR.nil _ _, hB02⟩
  have HQ := hide (show p = toldB (plusB (dat lb) (dat la) (-1)) by rw [← HP.out]; unfold diffB; rw [OA.out, OB.out, hT, ← diff_eq OA.out OB.out]; rfl)
  clear hT
  go_wp2_with fail
  refine (RPlus_any A' n' c' lb A n c la (-1) W2 ((hb.below hB02).mono hB02.size) ((ha.below hB02).mono hB02.size) OB.out OA.out (by omega)).mono ?_
  rintro e W3 ⟨A3, n3, c3, l3, rfl, hd3, hb3, hc3, hB3⟩
  have hB03 := bstep hB02 hB3
  have HD3 := hide hd3
  clear hB02 hB3 hd3
  go_wp2_with fail
  refine (R3Valid_any A3 n3 c3 _ l3 W3 hb3).mono ?_
  rintro e W4 ⟨rfl, hB4⟩
  have hB04 := bstep hB03 hB4
  cases od : okBag (dat l3)
  · have HX := hide (show p = ([], 4) by rw [HQ.out, ← HD3.out]; unfold toldB; rw [od]; rfl)
    clear od hB03 hB4
    go_wp2
    go_ret2
    rw [HX.out]
    exact ⟨none, 0, 0, [], rfl, ⟨rfl, nofun⟩, ChgR.nil _ _, hB04⟩
  have HX := hide (show p = (dat l3, 0) by rw [HQ.out, ← HD3.out]; unfold toldB; rw [od]; rfl)
  have OD := hide od
  have hb4 := (hb3.below hB4).mono hB4.size
  clear od hB03 hB4 hb3
  go_wp2_with fail
  refine (RMade_any A3 n3 c3 l3 T W4 hb4 OD.out).mono ?_
  rintro e W5 ⟨A5, n5, c5, l5, rfl, r1, r2, r3⟩
  have hB05 := bstep hB04 r3
  clear hB04 r3 hb4
  go_wp2
  go_ret2
  rw [HX.out]
  exact ⟨A5, n5, c5, l5, rfl, r1, r2, hB05⟩
end

section
open Go.RowKit
attribute [local go_sem] Oper.semAt_some
set_option linter.unusedVariables false
set_option linter.unusedSimpArgs false

theorem BagR.step {w w' : World} {A : Option Addr} {n : Nat} {l : List It} (h : BagR w w.heap.size A n l) (hb : Below w.heap.size w w') : BagR w' w'.heap.size A n l := (h.below hb).mono hb.size
theorem ChgR.step {w w' : World} {A : Option Addr} {n : Nat} {l : List Ch} (h : ChgR w w.heap.size A n l) (hb : Below w.heap.size w w') : ChgR w' w'.heap.size A n l :=
  ⟨(h.below hb).rd, fun i hi => ((h.below hb).rows i hi).mono hb.size, h.le⟩
set_option maxRecDepth 100000 in
set_option maxHeartbeats 4000000 in
theorem FewChanges_any (A : Option Addr) (n c : Nat) (l : List Ch) (w : World) (hx : ChgR w w.heap.size A n l) : Calls Tryz.prog 10 #[.slice A n c] w (RetSome w) := by
  have hn := hx.le
  go_enter Tryz.func10, Tryz.ntmps10
  go_wp2_with fail
  go_loopw [3] (fun i wr => ∃ k : Nat, k ≤ n ∧ i = .int .i64 k ∧ Below w.heap.size w wr) (fun i _ => n - (intOf i).toNat)
  case atStart => exact ⟨0, Nat.zero_le _, rfl, Below.refl _ _⟩
  case round =>
    obtain ⟨k, hk, rfl, hBw⟩ := hrel
    by_cases hlt : k < n
    · obtain ⟨b, off, x, rfl, hb, hxk, c0, c1, c2, hrow⟩ := (hx.below hBw).at_ hlt
      have hBv := below_val (w := wr) #[.slice x.A x.n x.c] 43
      have HL := hide (Long_one x.A x.n x.c x.r wr.heap.size _ (hrow.below hBv).rd hrow.le ((Blk.new wr 43 #[.slice x.A x.n x.c]).cell 0))
      have HB := hide (bstep hBw hBv)
      have q1 : (0 : Int) ≤ (k : Int) := by omega
      have q2 : (k : Int) < (n : Int) := by omega
      clear hBv hxk hrow c0 c2 hBw
      go_wp2_with fail
      refine HL.out.mono ?_
      rintro e W ⟨b', rfl, hB2⟩
      have HF := hide (bstep HB.out hB2)
      clear hB2 HL HB c1
      cases b'
      · go_wp2
        go_roundw
        case rel => exact ⟨k + 1, by omega, by go_num, HF.out⟩
        case measure => simp [intOf]; omega
      · go_wp2
        go_ret
        exact ⟨_, rfl, HF.out⟩
    · obtain rfl : k = n := by omega
      go_wp2
      go_ret
      exact ⟨_, rfl, hBw⟩
theorem same_dat {A : Option Addr} {n c : Nat} {A' : Option Addr} {n' c' B B' : Nat} {l l' : List It} {w : World} (hx : BagR w B A n l) (hy : BagR w B' A' n' l') (hd : dat l = dat l') :
    Calls Tryz.prog 14 #[.slice A n c, .slice A' n' c'] w (RetV w (.bool true)) := by
  have hn : n' = n := by rw [← hx.len, ← hy.len, ← dat_len, ← dat_len, hd]
  subst hn
  exact BagSame_one A n' c A' c' B B' l l' w hx hy hd
theorem same_chg {A : Option Addr} {n c : Nat} {A' : Option Addr} {n' c' B B' : Nat} {l l' : List Ch} {T : Int} {d : Bg} {w : World} (hx : ChgR w B A n l) (hy : ChgR w B' A' n' l') (h1 : l.map (fun i => (i.r, i.m)) = d ∧ ∀ i ∈ l, i.t = T) (h2 : l'.map (fun i => (i.r, i.m)) = d ∧ ∀ i ∈ l', i.t = T) :
    Calls Tryz.prog 17 #[.slice A n c, .slice A' n' c'] w (RetV w (.bool true)) := by
  have key : ∀ {l : List Ch}, (∀ i ∈ l, i.t = T) → datC l = (l.map fun i => (i.r, i.m)).map fun x => (x.1, T, x.2) := fun {l} h => by
    unfold datC
    rw [List.map_map]
    exact List.map_congr_left fun i hi => by simp [h i hi]
  have hd : datC l = datC l' := by rw [key h1.2, key h2.2, h1.1, h2.1]
  have hn : n' = n := by
    rw [← hx.len, ← hy.len]
    have := congrArg List.length hd
    unfold datC at this
    simpa using this.symm
  subst hn
  exact ChgSame_one A n' c A' c' B B' l l' w hx hy hd
set_option maxRecDepth 100000 in
set_option maxHeartbeats 4000000 in
theorem bagChanges_all (A1 : Option Addr) (n1 c1 : Nat) (l1 : List It) (A2 : Option Addr) (n2 c2 : Nat) (l2 : List It) (A3 : Option Addr) (n3 c3 : Nat) (l3 : List Ch) (T : Int) (w : World)
    (h1 : BagR w w.heap.size A1 n1 l1) (h2 : BagR w w.heap.size A2 n2 l2) (h3 : ChgR w w.heap.size A3 n3 l3) (k1 : n1 ≤ c1) (k2 : n2 ≤ c2) (ht : Tab w) :
    Calls Tryz.prog 3 #[.slice A1 n1 c1, .slice A2 n2 c2, .slice A3 n3 c3, .int .i64 T] w (RetV w (.bool true)) := by
  have hB0 := below_val (w := w) #[.slice A1 n1 c1, .slice A2 n2 c2] 23
  have b0 := Blk.new w 23 #[.slice A1 n1 c1, .slice A2 n2 c2]
  have g1 := h1.step hB0
  have g2 := h2.step hB0
  have HF := hide (Few_any [⟨A1, n1, c1, l1⟩, ⟨A2, n2, c2, l2⟩] 2 w.heap.size _ rfl (by omega) (fun i x hx => by
    have hi := (List.getElem?_eq_some_iff.1 hx).1
    simp only [List.length_cons, List.length_nil] at hi
    match i, hi, hx with
    | 0, _, hx => injection hx with hx; subst hx; exact ⟨by rw [b0.cell]; rfl, g1⟩
    | 1, _, hx => injection hx with hx; subst hx; exact ⟨by rw [b0.cell]; rfl, g2⟩))
  clear b0 g1 g2
  have H0 := hide hB0
  clear hB0
  have HA := hide (awake_any)
  go_enter Tryz.func3, Tryz.ntmps3
  go_wp2_with fail
  refine HF.out.mono ?_
  rintro e W1 ⟨b, rfl, _, hB1⟩
  have hB01 := bstep H0.out hB1
  clear hB1 HF H0
  cases b
  · go_wp2_with fail
    refine (HA.out W1).mono ?_
    rintro e W2 ⟨rfl, hB2⟩
    have HE := hide (bstep hB01 hB2)
    clear hB01 hB2
    go_wp2
    go_ret
    exact ⟨rfl, HE.out⟩
  go_wp2_with fail
  refine (FewChanges_any A3 n3 c3 l3 W1 (h3.step hB01)).mono ?_
  rintro e W2 ⟨b, rfl, hB2⟩
  have hB02 := bstep hB01 hB2
  clear hB01 hB2
  cases b
  · go_wp2_with fail
    refine (HA.out W2).mono ?_
    rintro e W3 ⟨rfl, hB3⟩
    have HE := hide (bstep hB02 hB3)
    clear hB02 hB3
    go_wp2
    go_ret
    exact ⟨rfl, HE.out⟩
  obtain ⟨d1, E, hp1⟩ : ∃ d E, applyB (dat l1) l3 = (d, E) := ⟨_, _, rfl⟩
  obtain ⟨d2, F, hp2⟩ : ∃ d E, diffB (dat l1) (dat l2) T = (d, E) := ⟨_, _, rfl⟩
  have zE : (E != E) = false := by simp
  have zF : (F != F) = false := by simp
  have HP1 := hide hp1
  have HP2 := hide hp2
  clear hp1 hp2
  go_wp2_with fail
  refine (Apply_any A1 n1 c1 l1 A3 n3 c3 l3 W2 (h1.step hB02) (h3.step hB02) (ht.below hB02)).mono ?_
  rw [HP1.out]
  rintro e W3 ⟨A4, n4, c4, l4, rfl, hd4, hb4, hc4, hB3⟩
  have hB03 := bstep hB02 hB3
  clear hB02 hB3
  go_wp2_with fail
  refine (RApply_any A1 n1 c1 l1 A3 n3 c3 l3 W3 (h1.step hB03) k1 (h3.step hB03)).mono ?_
  rw [HP1.out]
  rintro e W4 ⟨A5, n5, c5, l5, rfl, hd5, hb5, hc5, hB4⟩
  have hB04 := bstep hB03 hB4
  have HS := hide (same_dat (c := c4) (c' := c5) (hb4.step hB4) hb5 (by rw [hd4, hd5]))
  clear hB03 hB4 hb4 hb5 hd4 hd5
  go_wp2_with fail
  refine HS.out.mono ?_
  rintro e W5 ⟨rfl, hB5⟩
  have hB05 := bstep hB04 hB5
  clear hB04 hB5 HS
  go_wp2_with fail
  refine (callsIn_wide.1 (Changes_gen A1 n1 c1 l1 A2 n2 c2 l2 W5 (h1.step hB05) (h2.step hB05) k1 k2 T)).mono ?_
  rw [HP2.out]
  rintro e W6 ⟨A6, n6, c6, l6, rfl, hd6, hb6, hB6⟩
  have hB06 := bstep hB05 hB6
  clear hB05 hB6
  go_wp2_with fail
  refine (RChanges_any A1 n1 c1 l1 A2 n2 c2 l2 T W6 (h1.step hB06) (h2.step hB06)).mono ?_
  rw [HP2.out]
  rintro e W7 ⟨A7, n7, c7, l7, rfl, hd7, hb7, hB7⟩
  have hB07 := bstep hB06 hB7
  have hb6 := hb6.step hB7
  have HS := hide (same_chg (c := c6) (c' := c7) hb6 hb7 hd6 hd7)
  clear hB06 hB7 hb7 hd7
  go_wp2_with fail
  refine HS.out.mono ?_
  rintro e W8 ⟨rfl, hB8⟩
  have hB08 := bstep hB07 hB8
  have hb6 := hb6.step hB8
  clear hB07 hB8 HS
  by_cases h0 : F = 0
  · subst h0
    have HAP := hide (apply_diff (a := dat l1) (b := dat l2) (T := T) (lc := l6) (by rw [HP2.out]) (by rw [HP2.out]; exact hd6.1) hd6.2)
    clear hd6
    go_wp2_with fail
    refine (Apply_any A1 n1 c1 l1 A6 n6 c6 l6 W8 (h1.step hB08) hb6 (ht.below hB08)).mono ?_
    rw [HAP.out]
    rintro e W9 ⟨A9, n9, c9, l9, rfl, hd9, hb9, hc9, hB9⟩
    have hB09 := bstep hB08 hB9
    have HS := hide (same_dat (c := c9) (c' := c2) hb9 (h2.step hB09) hd9)
    clear hB08 hB9 hb6 hb9 hd9
    go_wp2_with fail
    refine HS.out.mono ?_
    rintro e W10 ⟨rfl, hB10⟩
    have hB010 := bstep hB09 hB10
    clear hB09 hB10 HS
    go_wp2_with fail
    refine (HA.out W10).mono ?_
    rintro e W11 ⟨rfl, hB11⟩
    have HE := hide (bstep hB010 hB11)
    clear hB010 hB11
    go_wp2
    go_ret
    exact ⟨rfl, HE.out⟩
  · have n0 : (F != 0) = true := by simpa using h0
    clear h0 hd6 hb6
    go_wp2_with fail
    refine (HA.out W8).mono ?_
    rintro e W9 ⟨rfl, hB9⟩
    have HE := hide (bstep hB08 hB9)
    clear hB08 hB9
    go_wp2
    go_ret
    exact ⟨rfl, HE.out⟩
end

end Go.Proofs.YtiioiajcoiaalaaGreatDoor
