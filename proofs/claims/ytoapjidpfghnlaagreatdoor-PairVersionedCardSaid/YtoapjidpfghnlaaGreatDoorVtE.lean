/-
  A versioner in memory, lists of events that are held by the way, and the walks of NewVersioner on both sides. No condition.
  The walks of the reference's NewVersioner, ValidEvent and OwnEvent. No condition.
  The walk of the reference's PutEvent, with its answer owned. No condition.
-/
import Derived.Test.YtoapjidpfghnlaaGreatDoorVtM
import Derived.Test.YtoapjidpfghnlaaGreatDoorPvT
import Derived.Test.YtoapjidpfghnlaaGreatDoorGb
import Derived.Test.YtoapjidpfghnlaaGreatDoorPrR3
namespace Go.Proofs.YtoapjidpfghnlaaGreatDoor

section
open Go.RowKit
attribute [local go_sem] Oper.semAt_some wide_fn wide_depth
set_option linter.unusedVariables false
set_option linter.unusedSimpArgs false

/-- Numbers that read, in a block of numbers. -/
structure IntK (W : World) (A : Option Addr) (n : Nat) (xs : List Int) : Prop where
  rd : Reads W W.heap.size 1 A n (xs.map (Value.int .i64))
  at_ : 0 < n → ∀ b off m, A = some ⟨b, off, m⟩ → ∃ c fz, W.heap[b]? = some (.cells c 3 fz)
theorem IntK.below {W W' : World} {A : Option Addr} {n : Nat} {xs : List Int} (h : IntK W A n xs) (hb : Below W.heap.size W W') : IntK W' A n xs :=
  ⟨h.rd.up hb, fun h0 b off m e => by
    obtain ⟨c, fz, h1⟩ := h.at_ h0 b off m e
    exact ⟨c, fz, by rw [hb.block b (Array.getElem?_eq_some_iff.1 h1).1]; exact h1⟩⟩
theorem IntK.bar {W W' : World} {A : Option Addr} {n : Nat} {xs : List Int} {Xs : List Nat} (h : IntK W A n xs) (hb : Bar W.heap.size Xs W W') (hX : ∀ x ∈ Xs, ∀ c fz, W.heap[x]? ≠ some (.cells c 3 fz)) : IntK W' A n xs := by
  have hne : 0 < n → ∀ b off m, A = some ⟨b, off, m⟩ → b ∉ Xs := fun h0 b off m e hx => by
    obtain ⟨c, fz, h1⟩ := h.at_ h0 b off m e
    exact hX b hx c fz h1
  refine ⟨⟨h.rd.1, fun h0 => ?_⟩, fun h0 b off m e => ?_⟩
  · obtain ⟨b, off, e, hlt, hc⟩ := h.rd.2 h0
    refine ⟨b, off, e, Nat.lt_of_lt_of_le hlt hb.size, fun j u hu => ?_⟩
    rw [World.cell?_of_block (hb.block b hlt (hne h0 b off none e))]
    exact hc j u hu
  · obtain ⟨c, fz, h1⟩ := h.at_ h0 b off m e
    exact ⟨c, fz, by rw [hb.block b (Array.getElem?_eq_some_iff.1 h1).1 (hne h0 b off m e)]; exact h1⟩
theorem IntK.of_own {W : World} {base c n : Nat} {A : Option Addr} {xs : List Int} (h : W.ownsRow base 3 1 (.slice A n c) n (xs.map (Value.int .i64))) : IntK W A n xs :=
  ⟨Reads.of_own h, fun h0 b off m e => by
    obtain ⟨g, cap, hv, _⟩ := h.form h0
    have hA : A = some ⟨g, 0, none⟩ := by injection hv
    rw [hA] at e
    injection e with e
    injection e with e1
    subst e1
    subst hA
    exact own_cells h (g := g) rfl⟩
def RetInK (w : World) (n : Nat) (xs : List Int) (e : Ending) (w' : World) : Prop := ∃ A' c', e = .returned (.slice A' n c') ∧ IntK w' A' n xs ∧ Below w.heap.size w w'
theorem infoInt9 : (Tryz.prog.info? 3).map (fun i => (i.zero, i.size, i.bytes)) = some (some (.int .i64 0), 1, 8) := by kernel_rfl
set_option maxRecDepth 100000 in
set_option maxHeartbeats 2000000 in
theorem CloneK_any (A : Option Addr) (n c : Nat) (xs : List Int) (w : World) (hx : Reads w w.heap.size 1 A n (xs.map (Value.int .i64))) (hn : n ≤ 1000) :
    Calls Tryz.prog 101 #[.slice A n c] w (RetInK w n xs) := by
  obtain ⟨i0, hi, hz0, hz1, hz2⟩ := info_parts3 infoInt9
  cases A with
  | none =>
    have hn0 : n = 0 := by
      rcases Nat.eq_zero_or_pos n with h | h
      · exact h
      · obtain ⟨b, off, e, _⟩ := hx.2 h
        cases e
    subst hn0
    have hq := fun w => run_eql_slice_nil (P := Tryz.prog) w 22 3 none 0 c Tryz.underlying22
    go_enter Tryz.func101, Tryz.ntmps101
    go_wp2
    go_ret
    exact ⟨none, _, rfl, ⟨hx, fun h => absurd h (Nat.lt_irrefl _)⟩, Below.refl _ _⟩
  | some a =>
    have hlit := own_lit w 3 1 0 #[] rfl (by unfold maxLen; omega) (Nat.le_refl w.heap.size)
    have hB0 := below_val (w := w) #[] 3
    have hrd := hx.alloc (Nat.le_refl _) (.cells #[] 3)
    clear hx
    have hq := fun w => run_eql_slice_nil (P := Tryz.prog) w 22 3 (some a) n c Tryz.underlying22
    go_enter Tryz.func101, Tryz.ntmps101
    go_wp2_with (at_builtin; refine wpList_append_any _ rfl _ _ 22 rfl w.heap.size 3 i0 _ 1 8 Tryz.underlying22 hi hz0 hz1 hz2 rfl (by decide) (.slice (some ⟨w.heap.size, 0, none⟩) 0 0) 0 [] rfl hlit w.heap.size (some a) n c (xs.map (Value.int .i64)) rfl hrd (by intro u hu; obtain ⟨y, _, rfl⟩ := List.mem_map.1 hu; rfl) (by unfold maxLen; omega) (by omega) (by simp) ?_; intro v' W1 hown hgrow _; rw [Nat.zero_add, List.nil_append] at hown)
    have hB1 : Below w.heap.size w W1 := below_append hB0 hlit (by simp) hgrow
    obtain ⟨A', c', rfl, hR⟩ := own_form hown
    go_ret
    exact ⟨A', c', rfl, IntK.of_own hown, hB1⟩
/-- The keys of a versioner. -/
structure KV where
  A : Option Addr
  n : Nat
  c : Nat
  on : List Int
  A' : Option Addr
  n' : Nat
  c' : Nat
  others : List Int
  wd : Nat
/-- A versioner in memory: what it holds on both sides, and its mark. -/
structure VO (W : World) (t : TypeId) (b : Nat) (k : KV) (vL vR : Value) (mk : Int) : Prop where
  blk : Blk W b t #[.slice k.A k.n k.c, .slice k.A' k.n' k.c', .int .i64 (k.wd : Int), vL, vR, .int .i64 mk]
  on : IntK W k.A k.n k.on
  ot : IntK W k.A' k.n' k.others
theorem VO.below {W W' : World} {t : TypeId} {b : Nat} {k : KV} {vL vR : Value} {mk : Int} (h : VO W t b k vL vR mk) (hb : Below W.heap.size W W') : VO W' t b k vL vR mk := ⟨h.blk.below hb h.blk.lt, h.on.below hb, h.ot.below hb⟩
theorem VO.bar {W W' : World} {t : TypeId} {b : Nat} {k : KV} {vL vR : Value} {mk : Int} {Xs : List Nat} (h : VO W t b k vL vR mk) (hb : Bar W.heap.size Xs W W') (hx : b ∉ Xs) (hX : ∀ x ∈ Xs, ∀ c fz, W.heap[x]? ≠ some (.cells c 3 fz)) : VO W' t b k vL vR mk :=
  ⟨(hb.block b h.blk.lt hx).trans h.blk, h.on.bar hb hX, h.ot.bar hb hX⟩
/-- A list of events that is held by the way. -/
structure OE (W : World) (B : Nat) (v : Value) (l : List Ev) : Prop where
  own : W.ownsRow B 36 2 v l.length (l.flatMap encEv)
  rows : RowsE W B l
theorem OE.nil (W : World) (B : Nat) : OE W B (.slice none 0 0) [] := ⟨World.ownsRow_nil _ _ _ _, by intro i hi; cases hi⟩
theorem OE.below {W W' : World} {B : Nat} {v : Value} {l : List Ev} (h : OE W B v l) (hb : Below W.heap.size W W') : OE W' B v l := ⟨own_below h.own hb, h.rows.below hb⟩
theorem own_bar {w w' : World} {base k : Nat} {e : TypeId} {size : Nat} {v : Value} {xs : List Value} {Xs : List Nat} (h : w.ownsRow base e size v k xs) (hb : Bar w.heap.size Xs w w') (hx : ∀ g, v.ownBlock = some g → g ∉ Xs) : w'.ownsRow base e size v k xs := by
  refine ⟨h.1, ?_⟩
  rcases h.2 with h1 | ⟨g, cap, cur, h1, h2, h3, h4⟩
  · exact .inl h1
  · refine .inr ⟨g, cap, cur, h1, h2, ?_, h4⟩
    rw [hb.block g (Array.getElem?_eq_some_iff.1 h3).1 (hx g (by rw [h1]; rfl))]
    exact h3
/-- Blocks that may be written while rows and numbers stay. -/
def XsOk (W : World) (B : Nat) (Xs : List Nat) : Prop := ∀ x ∈ Xs, B ≤ x ∧ (∀ c fz, W.heap[x]? ≠ some (.cells c 102 fz)) ∧ ∀ c fz, W.heap[x]? ≠ some (.cells c 3 fz)
theorem OE.bar {W W' : World} {B : Nat} {v : Value} {l : List Ev} {Xs : List Nat} (h : OE W B v l) (hb : Bar W.heap.size Xs W W') (hx : ∀ g, v.ownBlock = some g → g ∉ Xs) (hX : XsOk W B Xs) : OE W' B v l :=
  ⟨own_bar h.own hb hx, fun i hi => (h.rows i hi).keep (p := fun k => k ∈ Xs) (fun k hk hp => hb.block k hk hp) hb.size fun k hk => ⟨(hX k hk).1, (hX k hk).2.1⟩⟩
theorem OE.evR {W : World} {B : Nat} {A : Option Addr} {n c : Nat} {l : List Ev} (h : OE W B (.slice A n c) l) (hB : B ≤ W.heap.size) : EvR W W.heap.size A n l ∧ n = l.length ∧ n ≤ c := by
  obtain ⟨A', c', e, _⟩ := own_form h.own
  injection e with e1 e2 e3
  subst e1 e2 e3
  have hc := own_capC h.own
  refine ⟨⟨Reads.of_own h.own, h.rows.mono hB, ?_⟩, rfl, hc⟩
  rcases h.own.2 with ⟨e, h0⟩ | ⟨g, cap, cur, e, _, _, h4⟩
  · rw [h0]; omega
  · have := h4.2
    unfold maxLen at this
    omega
theorem blk_not {W : World} {b : Nat} {t t' : TypeId} {cs : Array Value} (h : Blk W b t cs) (hne : t ≠ t') : ∀ c fz, W.heap[b]? ≠ some (.cells c t' fz) := fun c fz hc => by
  rw [show W.heap[b]? = _ from h] at hc
  injection hc with hc
  injection hc with _ h2
  exact hne h2
theorem own_not {W : World} {base k : Nat} {e t' : TypeId} {size : Nat} {v : Value} {xs : List Value} (h : W.ownsRow base e size v k xs) (hne : e ≠ t') : ∀ x ∈ obl v, base ≤ x ∧ ∀ c fz, W.heap[x]? ≠ some (.cells c t' fz) := fun x hx => by
  have hv : v.ownBlock = some x := by unfold obl at hx; simpa using hx
  refine ⟨(h.lt x hv).1, fun c fz hc => ?_⟩
  obtain ⟨c', fz', h'⟩ := own_cells h hv
  rw [h'] at hc
  injection hc with hc
  injection hc with _ h2
  exact hne h2
theorem blk_set3 {w : World} {g : Nat} {t : TypeId} {a b : Value} (h : Blk w g t #[a, b]) (u v : Value) : Blk ((w.setCell ⟨g, 0, none⟩ u).setCell ⟨g, 1, none⟩ v) g t #[u, v] := by
  have := (h.set_ 0 u).set_ 1 v
  simpa using this
/-- What NewVersioner hands back. -/
def RetVN (t : TypeId) (on others : List Int) (width : Int) (w : World) (e : Ending) (w' : World) : Prop := Below w.heap.size w w' ∧
  if newE on others width = 0 then ∃ b k, e = .returned (.tuple #[.pointer (some ⟨b, 0, none⟩), .int .i64 0]) ∧ w.heap.size ≤ b ∧ VO w' t b k (.slice none 0 0) (.slice none 0 0) (-1000000000000) ∧ k.on = on ∧ k.others = others ∧ (k.wd : Int) = width
  else e = .returned (.tuple #[.pointer none, .int .i64 (newE on others width)])
set_option maxRecDepth 100000 in
set_option maxHeartbeats 8000000 in
theorem NewVersioner_any (A1 : Option Addr) (n1 c1 : Nat) (on : List Int) (A2 : Option Addr) (n2 c2 : Nat) (others : List Int) (width : Int) (w : World)
    (h1 : Reads w w.heap.size 1 A1 n1 (on.map (Value.int .i64))) (h2 : Reads w w.heap.size 1 A2 n2 (others.map (Value.int .i64))) (hn1 : n1 ≤ 1000) (hn2 : n2 ≤ 1000) :
    Calls Tryz.prog 28 #[.slice A1 n1 c1, .slice A2 n2 c2, .int .i64 width] w (RetVN 130 on others width w) := by
  have HL1 := hide h1.len1
  have HL2 := hide h2.len1
  obtain ⟨E, hE⟩ : ∃ E, newE on others width = E := ⟨_, rfl⟩
  have HE := hide hE
  unfold newE at hE
  obtain ⟨o1, r1⟩ : ∃ b, fitK on others = b := ⟨_, rfl⟩
  obtain ⟨o2, r2⟩ : ∃ b, btw width 0 8 = b := ⟨_, rfl⟩
  obtain ⟨o3, r3⟩ : ∃ b, insK on 8 = b := ⟨_, rfl⟩
  obtain ⟨o4, r4⟩ : ∃ b, insK others width = b := ⟨_, rfl⟩
  rw [r1, r2, r3, r4] at hE
  have HX := hide hE
  have R1 := hide r1
  have R2 := hide r2
  have R3 := hide r3
  have R4 := hide r4
  clear hE r1 r2 r3 r4
  have PB := hide h2
  go_enter Tryz.func28, Tryz.ntmps28
  go_wp2_with fail
  refine (CloneK_any A1 n1 c1 on w h1 hn1).mono ?_
  rintro e W1 hres
  obtain ⟨Aa, ca, rfl, hka, hB1⟩ := hres
  clear h1 h2
  go_wp2_with fail
  refine (CloneK_any A2 n2 c2 others W1 (PB.out.up hB1) hn2).mono ?_
  rintro e W2 hres
  obtain ⟨Ab, cb, rfl, hkb, hb⟩ := hres
  have hB2 := bstep hB1 hb
  have hka2 := hka.below hb
  clear hb hB1 hka
  have hbv := below_val (w := W2) #[.slice Aa n1 ca, .slice Ab n2 cb] 91
  have kk := Blk.new W2 91 #[.slice Aa n1 ca, .slice Ab n2 cb]
  have hka3 := hka2.below hbv
  have hkb3 := hkb.below hbv
  have hB3 := bstep hB2 hbv
  have d0 : (W2.alloc (.cells #[.slice Aa n1 ca, .slice Ab n2 cb] 91)).cell? ⟨W2.heap.size, 0, none⟩ = some (.slice Aa n1 ca) := by simp
  have d1 : (W2.alloc (.cells #[.slice Aa n1 ca, .slice Ab n2 cb] 91)).cell? ⟨W2.heap.size, 1, none⟩ = some (.slice Ab n2 cb) := by simp
  go_wp2_with fail
  obtain ⟨W3, hW3⟩ : ∃ W3, W2.alloc (.cells #[.slice Aa n1 ca, .slice Ab n2 cb] 91) = W3 := ⟨_, rfl⟩
  rw [hW3] at hka3 hkb3 hB3 d0 d1 kk ⊢
  obtain ⟨qb, hqb⟩ : ∃ qb, W2.heap.size = qb := ⟨_, rfl⟩
  rw [hqb] at kk d0 d1 ⊢
  clear hW3 hbv hka2 hkb hB2 hqb
  refine (sized_any Aa n1 ca Ab n2 cb on others W3 HL1.out HL2.out (by omega) (by omega)).mono ?_
  rintro e W4 ⟨rfl, hb⟩
  have hB4 := bstep hB3 hb
  have kk4 := kk.below hb kk.lt
  have hka4 := hka3.below hb
  have hkb4 := hkb3.below hb
  clear hb hB3 kk hka3 hkb3 d0 d1
  rw [R1.out]
  cases o1
  · have HB := hide hB4
    have HEE := hide (show E = 9 from HX.out.symm.trans (by simp))
    go_wp2
    refine bodyPost_ret (results_tmp2 rfl _ _ _) rfl ?_
    refine ⟨HB.out, ?_⟩
    rw [HE.out, HEE.out]
    rw [if_neg (by decide)]
    rfl
  · have d0 : W4.cell? ⟨qb, 0, none⟩ = some (.slice Aa n1 ca) := by simpa using kk4.cell 0
    have d1 : W4.cell? ⟨qb, 1, none⟩ = some (.slice Ab n2 cb) := by simpa using kk4.cell 1
    go_wp2_with fail
    refine (pwithin_any width 0 8 W4).mono ?_
    rintro e w' ⟨rfl, rfl⟩
    rw [R2.out]
    cases o2
    · have HB := hide hB4
      have HEE := hide (show E = 7 from HX.out.symm.trans (by simp))
      go_wp2
      refine bodyPost_ret (results_tmp2 rfl _ _ _) rfl ?_
      refine ⟨HB.out, ?_⟩
      rw [HE.out, HEE.out]
      rw [if_neg (by decide)]
      rfl
    · have hwb := btw_iff.1 R2.out
      go_wp2_with fail
      refine (below_any Aa n1 ca on Ab n2 cb others 8 width W4 hka4.rd hkb4.rd (by omega) (by omega) (by omega) (by omega)).mono ?_
      rintro e W5 ⟨rfl, hb⟩
      have hB5 := bstep hB4 hb
      have kk5 := kk4.below hb kk4.lt
      have hka5 := hka4.below hb
      have hkb5 := hkb4.below hb
      clear hb hB4 kk4 hka4 hkb4 d0 d1
      rw [R3.out, R4.out]
      obtain ⟨q, hq⟩ : ∃ q, (o3 && o4) = q := ⟨_, rfl⟩
      rw [hq]
      have HQ := hide hq
      clear hq
      cases q
      · have HB := hide hB5
        have HEE := hide (show E = 7 from HX.out.symm.trans (by rw [HQ.out]; simp))
        go_wp2
        refine bodyPost_ret (results_tmp2 rfl _ _ _) rfl ?_
        refine ⟨HB.out, ?_⟩
        rw [HE.out, HEE.out]
        rw [if_neg (by decide)]
        rfl
      · have HEE := hide (show E = 0 from HX.out.symm.trans (by rw [HQ.out]; simp))
        have d0 : W5.cell? ⟨qb, 0, none⟩ = some (.slice Aa n1 ca) := by simpa using kk5.cell 0
        have d1 : W5.cell? ⟨qb, 1, none⟩ = some (.slice Ab n2 cb) := by simpa using kk5.cell 1
        obtain ⟨wd, rfl⟩ : ∃ wd : Nat, width = (wd : Int) := ⟨width.toNat, by omega⟩
        have HRES := hide (show RetVN 130 on others (wd : Int) w (.returned (.tuple #[.pointer (some ⟨W5.heap.size, 0, none⟩), .int .i64 0])) (W5.alloc (.cells #[.slice Aa n1 ca, .slice Ab n2 cb, .int .i64 (wd : Int), .slice none 0 0, .slice none 0 0, .int .i64 (-1000000000000)] 130)) from by
          have hbv := below_val (w := W5) #[.slice Aa n1 ca, .slice Ab n2 cb, .int .i64 (wd : Int), .slice none 0 0, .slice none 0 0, .int .i64 (-1000000000000)] 130
          refine ⟨bstep hB5 hbv, ?_⟩
          rw [HE.out, HEE.out, if_pos rfl]
          exact ⟨_, ⟨Aa, n1, ca, on, Ab, n2, cb, others, wd⟩, rfl, hB5.size, ⟨Blk.new _ _ _, hka5.below hbv, hkb5.below hbv⟩, rfl, rfl, rfl⟩)
        clear hB5 kk5 hka5 hkb5
        go_wp2
        refine bodyPost_ret (results_tmp2 rfl _ _ _) rfl ?_
        exact HRES.out
end

section
open Go.RowKit
attribute [local go_sem] Oper.semAt_some wide_fn wide_depth
set_option linter.unusedVariables false
set_option linter.unusedSimpArgs false

set_option maxRecDepth 100000 in
set_option maxHeartbeats 8000000 in
theorem RNewVersioner_any (A1 : Option Addr) (n1 c1 : Nat) (on : List Int) (A2 : Option Addr) (n2 c2 : Nat) (others : List Int) (width : Int) (w : World)
    (h1 : Reads w w.heap.size 1 A1 n1 (on.map (Value.int .i64))) (h2 : Reads w w.heap.size 1 A2 n2 (others.map (Value.int .i64))) (hn1 : n1 ≤ 1000) (hn2 : n2 ≤ 1000) :
    Calls Tryz.prog 29 #[.slice A1 n1 c1, .slice A2 n2 c2, .int .i64 width] w (RetVN 132 on others width w) := by
  obtain ⟨i0, hi, hz0, hz1, hz2⟩ := info_parts3 infoInt9
  have HL1 := hide h1.len1
  have HL2 := hide h2.len1
  obtain ⟨E, hE⟩ : ∃ E, newE on others width = E := ⟨_, rfl⟩
  have HE := hide hE
  unfold newE at hE
  obtain ⟨o1, r1⟩ : ∃ b, fitK on others = b := ⟨_, rfl⟩
  obtain ⟨o2, r2⟩ : ∃ b, btw width 0 8 = b := ⟨_, rfl⟩
  obtain ⟨o3, r3⟩ : ∃ b, insK on 8 = b := ⟨_, rfl⟩
  obtain ⟨o4, r4⟩ : ∃ b, insK others width = b := ⟨_, rfl⟩
  rw [r1, r2, r3, r4] at hE
  have HX := hide hE
  have R1 := hide r1
  have R2 := hide r2
  have R3 := hide r3
  have R4 := hide r4
  clear hE r1 r2 r3 r4
  have PA := hide h1
  have PB := hide h2
  clear h1 h2
  go_enter Tryz.func29, Tryz.ntmps29
  go_wp2_with fail
  refine (fit_any A1 n1 c1 A2 n2 c2 on others w HL1.out HL2.out).mono ?_
  rintro e w' ⟨rfl, rfl⟩
  rw [R1.out]
  cases o1
  · have HEE := hide (show E = 9 from HX.out.symm.trans (by simp))
    go_wp2
    refine bodyPost_ret (results_tmp2 rfl _ _ _) rfl ?_
    refine ⟨Below.refl _ _, ?_⟩
    rw [HE.out, HEE.out]
    rw [if_neg (by decide)]
    rfl
  · go_wp2_with fail
    refine (inside_any A1 n1 c1 on 8 w PA.out (by omega) (by omega)).mono ?_
    rintro e W1 ⟨rfl, hB1⟩
    rw [R3.out]
    cases o3
    · have HB := hide hB1
      have HEE := hide (show E = 7 from HX.out.symm.trans (by simp))
      go_wp2
      refine bodyPost_ret (results_tmp2 rfl _ _ _) rfl ?_
      refine ⟨HB.out, ?_⟩
      rw [HE.out, HEE.out]
      rw [if_neg (by decide)]
      rfl
    · go_wp2_with fail
      refine (inside_w A2 n2 c2 others width W1 (PB.out.up hB1) (by omega)).mono ?_
      rintro e W2 hres
      obtain ⟨b6, rfl, hb6, hb⟩ := hres
      have hB2 := bstep hB1 hb
      clear hb hB1
      rw [R2.out, R4.out] at hb6
      cases b6
      · have HB := hide hB2
        have HEE := hide (show E = 7 from HX.out.symm.trans (by cases o2 <;> cases o4 <;> first | rfl | (simp at hb6; done) | simp))
        go_wp2
        refine bodyPost_ret (results_tmp2 rfl _ _ _) rfl ?_
        refine ⟨HB.out, ?_⟩
        rw [HE.out, HEE.out]
        rw [if_neg (by decide)]
        rfl
      · have HB6 := hide hb6
        clear hb6
        go_wp2_with fail
        refine (R9within_any width 0 8 W2).mono ?_
        rintro e w' ⟨rfl, rfl⟩
        rw [R2.out]
        cases o2
        · have HB := hide hB2
          have HEE := hide (show E = 7 from HX.out.symm.trans (by simp))
          go_wp2
          refine bodyPost_ret (results_tmp2 rfl _ _ _) rfl ?_
          refine ⟨HB.out, ?_⟩
          rw [HE.out, HEE.out]
          rw [if_neg (by decide)]
          rfl
        · obtain rfl : o4 = true := (HB6.out rfl).symm
          have HEE := hide (show E = 0 from HX.out.symm.trans (by simp))
          have hwb := btw_iff.1 R2.out
          obtain ⟨wd, rfl⟩ : ∃ wd : Nat, width = (wd : Int) := ⟨width.toNat, by omega⟩
          have hlit := own_lit W2 3 1 0 #[] rfl (by unfold maxLen; omega) (Nat.le_refl W2.heap.size)
          have hB0 := below_val (w := W2) #[] 3
          have hrd := (PA.out.up hB2).alloc (Nat.le_refl _) (.cells #[] 3)
          have HB2 := hide hB2
          clear hB2 hwb
          go_wp2_with (first | (at_builtin; refine wpList_append_any _ rfl _ _ 22 rfl W2.heap.size 3 i0 _ 1 8 Tryz.underlying22 hi hz0 hz1 hz2 rfl (by decide) (.slice (some ⟨W2.heap.size, 0, none⟩) 0 0) 0 [] rfl hlit W2.heap.size A1 n1 c1 (on.map (Value.int .i64)) rfl hrd (by intro u hu; obtain ⟨y, _, rfl⟩ := List.mem_map.1 hu; rfl) (by unfold maxLen; omega) (by omega) (by simp) ?_; intro v' W3 hown hgrow _; rw [Nat.zero_add, List.nil_append] at hown; obtain ⟨Aa, ca, rfl, _⟩ := own_form hown; have hB1 : Below W2.heap.size W2 W3 := below_append hB0 hlit (by simp) hgrow; have hlit2 := own_lit W3 3 1 0 #[] rfl (by unfold maxLen; omega) (Nat.le_refl W3.heap.size); have hB02 := below_val (w := W3) #[] 3; have hrd2 := (PB.out.up (bstep HB2.out hB1)).alloc (Nat.le_refl _) (.cells #[] 3); clear hgrow) | (at_builtin; refine wpList_append_any _ rfl _ _ 22 rfl W3.heap.size 3 i0 _ 1 8 Tryz.underlying22 hi hz0 hz1 hz2 rfl (by decide) (.slice (some ⟨W3.heap.size, 0, none⟩) 0 0) 0 [] rfl hlit2 W3.heap.size A2 n2 c2 (others.map (Value.int .i64)) rfl hrd2 (by intro u hu; obtain ⟨y, _, rfl⟩ := List.mem_map.1 hu; rfl) (by unfold maxLen; omega) (by omega) (by simp) ?_; intro v'' W4 hown' hgrow' _; rw [Nat.zero_add, List.nil_append] at hown'; obtain ⟨Ab, cb, rfl, _⟩ := own_form hown'; have hB3 : Below W3.heap.size W3 W4 := below_append hB02 hlit2 (by simp) hgrow'; clear hgrow'))
          have HRES := hide (show RetVN 132 on others (wd : Int) w (.returned (.tuple #[.pointer (some ⟨W4.heap.size, 0, none⟩), .int .i64 0])) (W4.alloc (.cells #[.slice Aa n1 ca, .slice Ab n2 cb, .int .i64 (wd : Int), .slice none 0 0, .slice none 0 0, .int .i64 (-1000000000000)] 132)) from by
            have hbv := below_val (w := W4) #[.slice Aa n1 ca, .slice Ab n2 cb, .int .i64 (wd : Int), .slice none 0 0, .slice none 0 0, .int .i64 (-1000000000000)] 132
            have hBx := bstep (bstep HB2.out hB1) hB3
            refine ⟨bstep hBx hbv, ?_⟩
            rw [HE.out, HEE.out, if_pos rfl]
            exact ⟨_, ⟨Aa, n1, ca, on, Ab, n2, cb, others, wd⟩, rfl, hBx.size, ⟨Blk.new _ _ _, ((IntK.of_own hown).below hB3).below hbv, (IntK.of_own hown').below hbv⟩, rfl, rfl, rfl⟩)
          clear hown hown' hlit hlit2 hB0 hB02 hB1 hB3 hrd hrd2
          go_wp2
          refine bodyPost_ret (results_tmp2 rfl _ _ _) rfl ?_
          exact HRES.out
theorem RValidEvent_any (t : Int) (A : Option Addr) (n c : Nat) (r : Rw) (w : World) (hr : RowK w w.heap.size A n r) :
    Calls Tryz.prog 104 #[.agg #[.int .i64 t, .slice A n c]] w (RetV w (.bool (okE (t, r)))) := by
  exact rve_any t A n c r w hr
/-- An event, copied. -/
def RetEvO (w : World) (t : Int) (n : Nat) (r : Rw) (e : Ending) (w' : World) : Prop := ∃ A c, e = .returned (.agg #[.int .i64 t, .slice A n c]) ∧ RowK w' 0 A n r ∧ n ≤ c ∧ Below w.heap.size w w'
set_option maxRecDepth 100000 in
set_option maxHeartbeats 4000000 in
theorem OwnEvent_any (t : Int) (A : Option Addr) (n c : Nat) (r : Rw) (w : World) (hr : RowK w w.heap.size A n r) (hn : n ≤ 1000) :
    Calls Tryz.prog 105 #[.agg #[.int .i64 t, .slice A n c]] w (RetEvO w t n r) := by
  have hBa : Below w.heap.size w ((w.alloc (.cells #[.int .i64 t, .slice A n c] 36)).alloc (.cells #[.int .i64 0, .slice none 0 0] 36)) := ((Below.refl _ _).alloc (Nat.le_refl _) _).alloc (by simp) _
  have ka := (Blk.new w 36 #[.int .i64 t, .slice A n c]).alloc (.cells #[.int .i64 0, .slice none 0 0] 36)
  have kr := Blk.new (w.alloc (.cells #[.int .i64 t, .slice A n c] 36)) 36 #[.int .i64 0, .slice none 0 0]
  obtain ⟨kb, hkb⟩ : ∃ kb, w.heap.size = kb := ⟨_, rfl⟩
  have hsa : ((w.alloc (.cells #[.int .i64 t, .slice A n c] 36)).alloc (.cells #[.int .i64 0, .slice none 0 0] 36)).heap.size = kb + 2 := by simp [hkb]
  simp only [World.size_alloc, hkb] at kr
  rw [hkb] at ka
  have hrow := (hr.below hBa).mono hBa.size
  clear hr
  go_enter Tryz.func105, Tryz.ntmps105
  go_upto_region 1 with fail
  try rw [hkb]
  obtain ⟨W, hW⟩ : ∃ W, ((w.alloc (.cells #[.int .i64 t, .slice A n c] 36)).alloc (.cells #[.int .i64 0, .slice none 0 0] 36)) = W := ⟨_, rfl⟩
  rw [hW] at hBa ka kr hsa hrow ⊢
  clear hW
  refine Held.begin (fun z => z.cell? ⟨kb, 0, none⟩ = some (.int .i64 t) ∧ z.cell? ⟨kb, 1, none⟩ = some (.slice A n c)) 6 (by kernel_rfl) ?_
  obtain ⟨X1, hX1⟩ : ∃ X1, W.drew = X1 := ⟨_, rfl⟩
  have hD : Below W.heap.size W X1 := by rw [← hX1]; exact (Below.refl _ _).drew
  rw [hX1]
  have hB1 := bstep hBa hD
  have ka1 := ka.below hD ka.lt
  have kr1 := kr.below hD kr.lt
  have hrow1 := (hrow.below hD).mono hD.size
  have hs1 := hD.size
  have hS : X1.cell? ⟨kb, 0, none⟩ = some (.int .i64 t) ∧ X1.cell? ⟨kb, 1, none⟩ = some (.slice A n c) := ⟨by simpa using ka1.cell 0, by simpa using ka1.cell 1⟩
  clear hX1 hD ka kr hrow hBa
  refine Held.take (i := 0) (.pointer (some ⟨kb, 0, none⟩)) rfl hS (by kernel_rfl) (by kernel_rfl) (by kernel_rfl) (by kernel_rfl) (fun _ _ _ h => h) rfl (fun y hy => by obtain ⟨x1, x2⟩ := hy; go_simp) ?_
  try simp only [Act.put]
  refine Held.take (i := 1) (.int .i64 t) rfl hS (by kernel_rfl) (by kernel_rfl) (by kernel_rfl) (by kernel_rfl) (fun _ _ _ h => h) rfl (fun y hy => by obtain ⟨x1, x2⟩ := hy; go_simp) ?_
  try simp only [Act.put]
  refine Held.take (i := 2) (.pointer (some ⟨kb, 1, none⟩)) rfl hS (by kernel_rfl) (by kernel_rfl) (by kernel_rfl) (by kernel_rfl) (fun _ _ _ h => h) rfl (fun y hy => by obtain ⟨x1, x2⟩ := hy; go_simp) ?_
  try simp only [Act.put]
  refine Held.take (i := 3) (.slice A n c) rfl hS (by kernel_rfl) (by kernel_rfl) (by kernel_rfl) (by kernel_rfl) (fun _ _ _ h => h) rfl (fun y hy => by obtain ⟨x1, x2⟩ := hy; go_simp) ?_
  try simp only [Act.put]
  refine Held.one (i := 4) rfl (by kernel_rfl) rfl (fun K hK => ?_)
  unfold Oper.wp
  go_simp
  refine (OwnO_any A n c _ r X1 hrow1 hn).mono ?_
  rintro e X2 ⟨Ac, cc, rfl, hown, hb2⟩
  have hrow2 : RowK X2 0 Ac n r := RowK.of_own hown (by omega)
  have hcap := own_capC hown
  have hB2 := bstep hB1 hb2
  have ka2 := ka1.below hb2 ka1.lt
  have kr2 := kr1.below hb2 kr1.lt
  have hS : X2.cell? ⟨kb, 0, none⟩ = some (.int .i64 t) ∧ X2.cell? ⟨kb, 1, none⟩ = some (.slice A n c) := ⟨by simpa using ka2.cell 0, by simpa using ka2.cell 1⟩
  refine hK _ _ (fun _ => hS) ?_
  try simp only [Act.put]
  clear hK K hb2 hown ka1 kr1 hrow1 hB1
  refine Held.take (i := 5) (.agg #[.int .i64 t, .slice Ac n cc]) rfl hS (by kernel_rfl) (by kernel_rfl) (by kernel_rfl) (by kernel_rfl) (fun _ _ _ h => h) rfl (fun y hy => by obtain ⟨x1, x2⟩ := hy; go_simp) ?_
  try simp only [Act.put]
  refine Held.one (i := 6) rfl (by kernel_rfl) rfl (fun K hK => ?_)
  have k0 := kr2.cell 0
  have k1 := (kr2.set_ 0 (.int .i64 t)).cell 1
  have f0 := kr2.frozen 0
  have f1 := (kr2.set_ 0 (.int .i64 t)).frozen 1
  simp at k0 k1
  have HE := hide (blk_set3 kr2 (.int .i64 t) (.slice Ac n cc))
  have HB := hide ((hB2.setCell (p := ⟨kb + 1, 0, none⟩) (by show w.heap.size ≤ kb + 1; omega) (.int .i64 t)).setCell (p := ⟨kb + 1, 1, none⟩) (by show w.heap.size ≤ kb + 1; omega) (.slice Ac n cc))
  have HRW := hide ((hrow2.setCell (p := ⟨kb + 1, 0, none⟩) kr2 (by decide) (Nat.zero_le _) (.int .i64 t)).setCell (p := ⟨kb + 1, 1, none⟩) (kr2.set_ 0 (.int .i64 t)) (by decide) (Nat.zero_le _) (.slice Ac n cc))
  unfold Oper.wp
  go_simp
  refine hK _ _ (fun h => absurd rfl h) ?_
  try simp only [Act.put]
  clear hK K
  refine Held.done (by kernel_rfl) ?_
  clear hS k0 k1 f0 f1 ka2 hrow2 hB2
  go_wp2
  refine bodyPost_ret_by (results_cell_row rfl _ _ (kb + 1) 36 #[.int .i64 t, .slice Ac n cc] (0, 0) _ rfl HE.out Tryz.underlying36 rfl (by kernel_rfl)) rfl ?_
  exact ⟨_, _, rfl, HRW.out, hcap, HB.out⟩
end

section
open Go.RowKit
attribute [local go_sem] Oper.semAt_some wide_fn wide_depth
set_option linter.unusedVariables false
set_option linter.unusedSimpArgs false

theorem own_base {w : World} {base B k : Nat} {e : TypeId} {size : Nat} {v : Value} {xs : List Value} (h : w.ownsRow base e size v k xs) (hB : B ≤ base) : w.ownsRow B e size v k xs := by
  refine ⟨h.1, ?_⟩
  rcases h.2 with h1 | ⟨g, cap, cur, h1, h2, h3⟩
  · exact .inl h1
  · exact .inr ⟨g, cap, cur, h1, Nat.le_trans hB h2, h3⟩
/-- Events of the call's own, handed back. -/
def RetEvsO (w : World) (B : Nat) (p : List Te) (e : Ending) (w' : World) : Prop := ∃ A n c k, e = .returned (.slice A n c) ∧ dE k = p ∧ OE w' B (.slice A n c) k ∧ (∀ g, (Value.slice A n c).ownBlock = some g → w.heap.size ≤ g) ∧ Below w.heap.size w w'
set_option maxRecDepth 100000 in
set_option maxHeartbeats 4000000 in
theorem PutEventO_any (A : Option Addr) (n c : Nat) (l : List Ev) (x : Ev) (w : World) (hl : EvR w w.heap.size A n l) (hnc : n ≤ c) (hn : n ≤ 100000) (hx : RowK w w.heap.size x.A x.n x.r) (B : Nat) (hBw : B ≤ w.heap.size) (hrows : RowsE w B l) (hxB : RowK w B x.A x.n x.r) :
    Calls Tryz.prog 36 #[.slice A n c, .agg #[.int .i64 x.t, .slice x.A x.n x.c]] w (RetEvsO w B (stepG cmpE (dE l) (x.t, x.r))) := by
  obtain ⟨i0, hi, hz0, hz1, hz2⟩ := info_parts3 infoEv
  have HROWS := hide hrows
  have HXB := hide hxB
  clear hrows hxB
  obtain ⟨D, hD⟩ : ∃ D, dE l = D := ⟨_, rfl⟩
  have HLN := hide hl.len
  have HDL := hide (show D.length = n by rw [← hD, dE_len]; exact hl.len)
  have HD := hide hD
  rw [hD]
  clear hD
  have hB0 := below_val (w := w) #[.int .i64 x.t, .slice x.A x.n x.c] 36
  have kz := Blk.new w 36 #[.int .i64 x.t, .slice x.A x.n x.c]
  have hlW := hl.step hB0
  have hxW := (hx.below hB0).mono hB0.size
  have hs0 : (w.alloc (.cells #[.int .i64 x.t, .slice x.A x.n x.c] 36)).heap.size = w.heap.size + 1 := World.size_alloc _ _
  clear hl hx
  go_enter Tryz.func36, Tryz.ntmps36
  go_upto_region 1 with fail
  obtain ⟨W, hW⟩ : ∃ W, w.alloc (.cells #[.int .i64 x.t, .slice x.A x.n x.c] 36) = W := ⟨_, rfl⟩
  obtain ⟨zb, hzb⟩ : ∃ zb, w.heap.size = zb := ⟨_, rfl⟩
  rw [hW] at hB0 kz hlW hxW hs0 ⊢
  rw [hzb] at kz hs0 ⊢
  clear hW
  iterate 14 (first | go_values | go_skip | go_guarded | go_step | go_upon | go_back)
  go_cut [5] from 9 to 46 (fun s5 wx => ∃ j : Nat, s5 = .int .i64 (j : Int) ∧ j ≤ n ∧ atG cmpE (x.t, x.r) D D.length = j ∧ Below W.heap.size W wx)
  case first =>
    go_wp2_with fail
    go_loopw [5] (fun i wz => ∃ j : Nat, j ≤ n ∧ i = .int .i64 (j : Int) ∧ atG cmpE (x.t, x.r) D D.length = atG cmpE (x.t, x.r) D j ∧ Below W.heap.size W wz) (fun i _ => (intOf i).toNat)
    case atStart => exact ⟨n, Nat.le_refl _, rfl, by rw [HDL.out], Below.refl _ _⟩
    case round =>
      obtain ⟨j, hj, rfl, hat, hBr⟩ := hrel
      have HAT := hide hat
      clear hat
      by_cases hj0 : j = 0
      · have z : ¬ ((0 : Int) < (j : Int)) := by omega
        have z' : decide ((0 : Int) < (j : Int)) = false := decide_eq_false z
        have z'' : decide (0 < j) = false := decide_eq_false (by omega)
        have HX := hide (show atG cmpE (x.t, x.r) D D.length = j by rw [HAT.out, hj0]; rfl)
        clear hj0
        go_wp2_with fail
        (refine wp_region_quiet_bw (by kernel_rfl) (by kernel_rfl) ?_
         repeat (first | go_big_quiet_step ((fail)) | quiet_step ((fail)))
         refine wpQuiet_nil ?_
         intro wq hw'
         obtain ⟨⟨_, hbq⟩, hw''⟩ := hw'
         subst hw'')
        have hB3 := bstep hBr hbq
        clear hbq hBr
        go_wp2_with fail
        go_meet
        case rel => exact ⟨j, rfl, hj, HX.out, hB3⟩
      · obtain ⟨t, rfl⟩ : ∃ t, j = t + 1 := ⟨j - 1, by omega⟩
        clear hj0
        obtain ⟨bq, oq, y, rfl, hbl, hyl, r0, r1, hyr⟩ := (hlW.step hBr).at_ (show t < n by omega)
        have hyd : D[t]? = some (y.t, y.r) := by rw [← HD.out]; exact dE_at hyl
        have HYD := hide hyd
        have kxr := kz.below hBr kz.lt
        have b0 : wr.cell? ⟨zb, 0, none⟩ = some (.int .i64 x.t) := by simpa using kxr.cell 0
        have b1 : wr.cell? ⟨zb, 1, none⟩ = some (.slice x.A x.n x.c) := by simpa using kxr.cell 1
        have hxr := hxW.below hBr
        have p0 := fun (p : BW wr) => BW.cell (a := ⟨bq, oq + t * 2, none⟩) hbl r0 p
        have p1 := fun (p : BW wr) => BW.cell (a := ⟨bq, oq + t * 2 + 1, none⟩) hbl r1 p
        have p2 := fun (p : BW wr) => BW.cell (a := ⟨zb, 0, none⟩) kxr.lt b0 p
        have p3 := fun (p : BW wr) => BW.cell (a := ⟨zb, 1, none⟩) kxr.lt b1 p
        have w1 : IntKind.i64.wrap ((t : Int) + 1 - 1) = (t : Int) := by rw [IntKind.wrap_i64]; omega
        have w2 : IntKind.i64.wrap (((t + 1 : Nat) : Int) - 1) = (t : Int) := by rw [IntKind.wrap_i64]; omega
        have q3 : (0 : Int) ≤ (t : Int) := by omega
        have q4 : (t : Int) < (n : Int) := by omega
        have q5 : (0 : Int) < (t : Int) + 1 := by omega
        have q7 : decide (0 < t + 1) = true := decide_eq_true (by omega)
        have q6 : decide ((0 : Int) < (t : Int) + 1) = true := decide_eq_true q5
        have HC1 := hide (fun (p : BW wr) => calls_bw (p := p) (R2Compare_any y.A y.n y.c y.r x.A x.n x.c x.r p.x (hyr.rd.up p.h) ((hxr.below p.h).rd.up (Below.refl _ _)) hyr.le))
        obtain ⟨cc, hcc⟩ : ∃ cc, cmpR y.r x.r = cc := ⟨_, rfl⟩
        have HNG := hide (show cmpE (x.t, x.r) (y.t, y.r) < 0 ↔ (x.t < y.t ∨ (y.t = x.t ∧ 0 < cc)) by rw [← hcc]; exact cmpE_pos)
        rw [hcc] at HC1
        clear hyl hyd hcc r0 r1 kxr b0 b1 hxr hyr
        by_cases c1 : x.t < y.t
        · have d1 : decide (x.t < y.t) = true := decide_eq_true c1
          go_wp2_with fail
          (refine wp_region_quiet_bw (by kernel_rfl) (by kernel_rfl) ?_
           repeat (first | go_big_quiet_step ((fail)) | quiet_step ((fail)))
           refine wpQuiet_nil ?_
           intro wq hw'
           obtain ⟨⟨_, hbq⟩, hw''⟩ := hw'
           subst hw'')
          have hB3 := bstep hBr hbq
          clear hBr hbq p0 p1 p2 p3 HC1
          have HX := hide (show atG cmpE (x.t, x.r) D D.length = atG cmpE (x.t, x.r) D t from HAT.out.trans (atG_go HYD.out (HNG.out.2 (.inl c1))))
          clear HNG HAT
          go_wp2_with fail
          go_roundw
          case rel => exact ⟨t, by omega, by go_num, HX.out, hB3⟩
          case measure => first | (simp [intOf]; done) | (simp [intOf]; omega)
        · have d1 : decide (x.t < y.t) = false := decide_eq_false c1
          by_cases c2 : y.t = x.t
          · have d2 : (y.t == x.t) = true := by simpa using c2
            by_cases c3 : 0 < cc
            · have d3 : decide (0 < cc) = true := decide_eq_true c3
              have HX := hide (show atG cmpE (x.t, x.r) D D.length = atG cmpE (x.t, x.r) D t from HAT.out.trans (atG_go HYD.out (HNG.out.2 (.inr ⟨c2, c3⟩))))
              clear HNG HAT c2 c3
              go_wp2_with fail
              (refine wp_region_quiet_bw (by kernel_rfl) (by kernel_rfl) ?_
               repeat (first | go_big_quiet_step (((go_at_call 106; exact HC1.out _))) | quiet_step (((go_at_call 106; exact HC1.out _))))
               refine wpQuiet_nil ?_
               intro wq hw'
               obtain ⟨⟨_, hbq⟩, hw''⟩ := hw'
               subst hw'')
              have hB3 := bstep hBr hbq
              clear hBr hbq p0 p1 p2 p3 HC1
              go_wp2_with fail
              go_roundw
              case rel => exact ⟨t, by omega, by go_num, HX.out, hB3⟩
              case measure => first | (simp [intOf]; done) | (simp [intOf]; omega)
            · have d3 : decide (0 < cc) = false := decide_eq_false c3
              have HX := hide (show atG cmpE (x.t, x.r) D D.length = t + 1 from HAT.out.trans (atG_stop HYD.out (fun h => by rcases HNG.out.1 h with h | h; exact c1 h; exact c3 h.2)))
              clear HNG HAT c2 c3
              go_wp2_with fail
              (refine wp_region_quiet_bw (by kernel_rfl) (by kernel_rfl) ?_
               repeat (first | go_big_quiet_step (((go_at_call 106; exact HC1.out _))) | quiet_step (((go_at_call 106; exact HC1.out _))))
               refine wpQuiet_nil ?_
               intro wq hw'
               obtain ⟨⟨_, hbq⟩, hw''⟩ := hw'
               subst hw'')
              have hB3 := bstep hBr hbq
              clear hBr hbq p0 p1 p2 p3 HC1
              go_wp2_with fail
              go_meet
              case rel => exact ⟨t + 1, by first | rfl | go_num, hj, HX.out, hB3⟩
          · have d2 : (y.t == x.t) = false := by simpa using c2
            have HX := hide (show atG cmpE (x.t, x.r) D D.length = t + 1 from HAT.out.trans (atG_stop HYD.out (fun h => by rcases HNG.out.1 h with h | h; exact c1 h; exact c2 h.1)))
            clear HNG HAT c2
            go_wp2_with fail
            (refine wp_region_quiet_bw (by kernel_rfl) (by kernel_rfl) ?_
             repeat (first | go_big_quiet_step ((fail)) | quiet_step ((fail)))
             refine wpQuiet_nil ?_
             intro wq hw'
             obtain ⟨⟨_, hbq⟩, hw''⟩ := hw'
             subst hw'')
            have hB3 := bstep hBr hbq
            clear hBr hbq p0 p1 p2 p3 HC1
            go_wp2_with fail
            go_meet
            case rel => exact ⟨t + 1, by first | rfl | go_num, hj, HX.out, hB3⟩
  case rest =>
    obtain ⟨j, rfl, hjn, hat, hBz⟩ := hcut
    have HAT := hide hat
    have hR3 := hlW.step hBz
    have kx3 := kz.below hBz kz.lt
    have b0 : wc.cell? ⟨zb, 0, none⟩ = some (.int .i64 x.t) := by simpa using kx3.cell 0
    have b1 : wc.cell? ⟨zb, 1, none⟩ = some (.slice x.A x.n x.c) := by simpa using kx3.cell 1
    have hsl1 := take_runE A n c j hjn hnc
    have hsl2 := drop_runE A n c j hjn hnc
    have hlit := own_lit wc 36 2 0 #[] rfl (by unfold maxLen; omega) (Nat.le_refl wc.heap.size)
    have hBa := below_val (w := wc) #[] 36
    have hrdA := (hR3.rd.takeE hjn).below hBa
    have hrdB := hR3.rd.dropE hjn hnc
    have hxl := kx3.lt
    have hbelc := bstep hB0 hBz
    have hxc := (hxW.below hBz).mono hBz.size
    have HLEN := hide (show (j + 1) + (n - j) = (l.take j ++ [x] ++ l.drop j).length by simp [HLN.out]; omega)
    obtain ⟨LT, hLT⟩ : ∃ LT, (l.take j).flatMap encEv = LT := ⟨_, rfl⟩
    obtain ⟨LD, hLD⟩ : ∃ LD, (l.drop j).flatMap encEv = LD := ⟨_, rfl⟩
    have one1 : ∀ u ∈ LT, u.oneCell' = true := by rw [← hLT]; exact one_encEvs _
    have one2 : ∀ u ∈ LD, u.oneCell' = true := by rw [← hLD]; exact one_encEvs _
    rw [hLT] at hrdA
    rw [hLD] at hrdB
    have HINS := hide (show ∀ (v3 : Value) (X3 : World), Below wc.heap.size wc X3 → X3.ownsRow wc.heap.size 36 2 v3 ((j + 1) + (n - j)) (LT ++ [.int .i64 x.t, .slice x.A x.n x.c] ++ LD) → RetEvsO w B (stepG cmpE D (x.t, x.r)) (.returned v3) X3 from fun v3 X3 hB3 ho => by
      obtain ⟨A3, c3, rfl, _⟩ := own_form ho
      have hcap := own_cap ho
      have e : (l.take j ++ [x] ++ l.drop j).flatMap encEv = LT ++ [.int .i64 x.t, .slice x.A x.n x.c] ++ LD := by
        rw [← hLT, ← hLD, List.flatMap_append, List.flatMap_append]; simp [encEv]
      have hall := bstep hbelc hB3
      refine ⟨A3, _, c3, l.take j ++ [x] ++ l.drop j, rfl, ?_, ⟨?_, fun y hy => ?_⟩, fun g hg => Nat.le_trans hbelc.size (ho.lt g hg).1, hall⟩
      · rw [stepG_at HAT.out, ← HD.out]
        simp [dE, List.map_take, List.map_drop]
      · rw [e, ← HLEN.out]
        exact own_base ho (Nat.le_trans hBw hbelc.size)
      · rcases List.mem_append.1 hy with hy | hy
        · rcases List.mem_append.1 hy with hy | hy
          · exact (HROWS.out y (List.mem_of_mem_take hy)).below hall
          · obtain rfl := List.mem_singleton.1 hy
            exact HXB.out.below hall
        · exact (HROWS.out y (List.mem_of_mem_drop hy)).below hall)
    have q3 : (0 : Int) ≤ (j : Int) := by omega
    have q4 : (j : Int) ≤ (n : Int) := by omega
    clear hR3 kx3 hbelc hxc hLT hLD hat hB0 hlW hxW hBz kz
    have HRD2 := hide (show ∀ X1 : World, Reads (X1.alloc (.cells #[.int .i64 x.t, .slice x.A x.n x.c] 36)) (X1.heap.size + 1) 2 (some ⟨X1.heap.size, 0, none⟩) 1 [.int .i64 x.t, .slice x.A x.n x.c] from fun X1 =>
      ⟨rfl, fun _ => ⟨X1.heap.size, 0, rfl, by omega, fun i u hu => by
        have := (Blk.new X1 36 #[.int .i64 x.t, .slice x.A x.n x.c]).cell i
        rw [Nat.zero_add, this]; simpa using hu⟩⟩)
    go_wp2_with (first | (at_builtin; refine wpList_append_any _ rfl _ _ 25 rfl wc.heap.size 36 i0 _ 2 32 Tryz.underlying25 hi hz0 hz1 hz2 rfl (by decide) (.slice (some ⟨wc.heap.size, 0, none⟩) 0 0) 0 [] rfl hlit wc.heap.size A j c LT rfl hrdA one1 (by unfold maxLen; omega) (by omega) (by simp) ?_; intro v1 X1 own1 grow1 _; rw [Nat.zero_add, List.nil_append] at own1; have hB1 := below_append hBa hlit (by simp) grow1; have e0 := (hB1.cell (p := ⟨zb, 0, none⟩) hxl).trans b0; have e1 := (hB1.cell (p := ⟨zb, 1, none⟩) hxl).trans b1; have own1a := own1.alloc (.cells #[.int .i64 x.t, .slice x.A x.n x.c] 36); have hB1a := hB1.alloc hB1.size (.cells #[.int .i64 x.t, .slice x.A x.n x.c] 36); have hrd2 := HRD2.out X1; have hsz1 := hB1a.size) | (at_builtin; refine wpList_append_any _ rfl _ _ 25 rfl wc.heap.size 36 i0 _ 2 32 Tryz.underlying25 hi hz0 hz1 hz2 rfl (by decide) v1 j LT rfl own1a (X1.heap.size + 1) (some ⟨X1.heap.size, 0, none⟩) 1 1 [.int .i64 x.t, .slice x.A x.n x.c] rfl hrd2 (by simp [Value.oneCell']) (by unfold maxLen; omega) (by omega) hsz1 ?_; intro v2 X2 own2 grow2 _; have hB2 := below_append hB1a own1a hsz1 grow2; have hrd3 := hrdB.below hB2; have hsz2 := hB2.size) | (at_builtin; refine wpList_append_any _ rfl _ _ 25 rfl wc.heap.size 36 i0 _ 2 32 Tryz.underlying25 hi hz0 hz1 hz2 rfl (by decide) v2 (j + 1) _ rfl own2 wc.heap.size (dropAE A j c) (n - j) (c - j) LD rfl hrd3 one2 (by unfold maxLen; omega) (by omega) hsz2 ?_; intro v3 X3 own3 grow3 _; have hB3 := below_append hB2 own2 hsz2 grow3))
    have HEND := hide (HINS.out v3 X3 hB3 own3)
    clear HINS own3 hB3 grow3
    go_ret
    exact HEND.out
end

end Go.Proofs.YtoapjidpfghnlaaGreatDoor
