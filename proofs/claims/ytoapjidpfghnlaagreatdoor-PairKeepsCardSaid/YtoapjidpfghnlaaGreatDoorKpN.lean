/-
  The version join told step by step, as plain data: what the calls answer, and what is kept between them. No program in sight; no condition.
  A versioner in memory, lists of events that are held by the way, and the walks of NewVersioner on both sides. No condition.
  The walks of NewKeeper, of a keeper's Left, Right and Now. (Printed by gen_kpN.) No condition.
-/
import Derived.Test.YtoapjidpfghnlaaGreatDoorOuM
import Derived.Test.YtoapjidpfghnlaaGreatDoorOuS
import Derived.Test.YtoapjidpfghnlaaGreatDoorGb
import Derived.Test.YtoapjidpfghnlaaGreatDoorKpT
namespace Go.Proofs.YtoapjidpfghnlaaGreatDoor

section
open Go.RowKit
set_option linter.unusedVariables false

/-- What NewVersioner answers. -/
def newE (on others : List Int) (width : Int) : Int := if fitK on others then (if btw width 0 8 && (insK on 8 && insK others width) then 0 else 7) else 9
/-- What Left answers, where so many are kept. -/
def lftE (on : List Int) (wd : Nat) (mk : Int) (n : Nat) (x : Te) : Int := if okE x then (if hasC x.2 on then (if x.1 < mk then 12 else (if decide (8 < x.2.length + wd) || decide (400 ≤ n) then 4 else 0)) else 7) else 1
/-- What Right answers. -/
def rgtE (wd : Nat) (mk : Int) (n : Nat) (x : Te) : Int := if okE x then (if x.2.length = wd then (if x.1 < mk then 12 else (if 400 ≤ n then 4 else 0)) else 9) else 1
/-- What Mark answers. -/
def mrkE (mk m : Int) : Int := if btw m mk 1000000000001 then 0 else 7
def belowM (m : Int) (x : Te) : Bool := decide (x.1 < m)
/-- What a mark hands over. -/
def outV (on others : List Int) (wd : Nat) (m : Int) (l r : List Te) : List Te := srtG cmpE ((l.filter (belowM m)).map fun x => verO on others wd x r)
def restV (m : Int) (l : List Te) : List Te := l.filter fun x => !belowM m x
/-- A versioner's setup is right. -/
structure VtK (on others : List Int) (wd : Nat) : Prop where
  fit : fitK on others = true
  w8 : wd ≤ 8
  on8 : insK on 8 = true
  ot : insK others (wd : Int) = true
/-- What is kept between the calls. -/
structure VtI (on others : List Int) (wd : Nat) (mk : Int) (L R l g : List Te) : Prop where
  some_ : ∃ em : List Te, l.Perm (em ++ L) ∧ (∀ x ∈ em, x.1 < mk) ∧ g = srtG cmpE (em.map fun x => verO on others wd x R)
  okl : ∀ x ∈ l, okE x = true ∧ hasC x.2 on = true ∧ x.2.length + wd ≤ 8
  okr : ∀ y ∈ R, okE y = true ∧ y.2.length = wd
theorem VtI.nil (on others : List Int) (wd : Nat) (mk : Int) : VtI on others wd mk [] [] [] [] := ⟨⟨[], List.Perm.refl _, by simp, rfl⟩, by simp, by simp⟩
section
variable {on others : List Int} {wd : Nat} {mk : Int} {L R l g : List Te}
end
end

section
open Go.RowKit
attribute [local go_sem] Oper.semAt_some wide_fn wide_depth
set_option linter.unusedVariables false
set_option linter.unusedSimpArgs false

/-- Numbers that read, in a block of numbers. -/
structure IntK (W : World) (A : Option Addr) (n : Nat) (xs : List Int) : Prop where
  rd : Reads W W.heap.size 1 A n (xs.map (Value.int .i64))
  at_ : 0 < n → ∀ b off m, A = some ⟨b, off, m⟩ → ∃ c fz, W.heap[b]? = some (.cells c 3 fz)
theorem IntK.below {W W' : World} {A : Option Addr} {n : Nat} {xs : List Int} (h : IntK W A n xs) (hb : Below W.heap.size W W') : IntK W' A n xs :=
  ⟨h.rd.up hb, fun h0 b off m e => by
    obtain ⟨c, fz, h1⟩ := h.at_ h0 b off m e
    exact ⟨c, fz, by rw [hb.block b (Array.getElem?_eq_some_iff.1 h1).1]; exact h1⟩⟩
theorem IntK.of_own {W : World} {base c n : Nat} {A : Option Addr} {xs : List Int} (h : W.ownsRow base 3 1 (.slice A n c) n (xs.map (Value.int .i64))) : IntK W A n xs :=
  ⟨Reads.of_own h, fun h0 b off m e => by
    obtain ⟨g, cap, hv, _⟩ := h.form h0
    have hA : A = some ⟨g, 0, none⟩ := by injection hv
    rw [hA] at e
    injection e with e
    injection e with e1
    subst e1
    subst hA
    exact own_cells h (g := g) rfl⟩
def RetInK (w : World) (n : Nat) (xs : List Int) (e : Ending) (w' : World) : Prop := ∃ A' c', e = .returned (.slice A' n c') ∧ IntK w' A' n xs ∧ Below w.heap.size w w'
theorem infoInt9 : (Tryz.prog.info? 3).map (fun i => (i.zero, i.size, i.bytes)) = some (some (.int .i64 0), 1, 8) := by kernel_rfl
set_option maxRecDepth 100000 in
set_option maxHeartbeats 2000000 in
theorem CloneK_any (A : Option Addr) (n c : Nat) (xs : List Int) (w : World) (hx : Reads w w.heap.size 1 A n (xs.map (Value.int .i64))) (hn : n ≤ 1000) :
    Calls Tryz.prog 101 #[.slice A n c] w (RetInK w n xs) := by
  obtain ⟨i0, hi, hz0, hz1, hz2⟩ := info_parts3 infoInt9
  cases A with
  | none =>
    have hn0 : n = 0 := by
      rcases Nat.eq_zero_or_pos n with h | h
      · exact h
      · obtain ⟨b, off, e, _⟩ := hx.2 h
        cases e
    subst hn0
    have hq := fun w => run_eql_slice_nil (P := Tryz.prog) w 22 3 none 0 c Tryz.underlying22
    go_enter Tryz.func101, Tryz.ntmps101
    go_wp2
    go_ret
    exact ⟨none, _, rfl, ⟨hx, fun h => absurd h (Nat.lt_irrefl _)⟩, Below.refl _ _⟩
  | some a =>
    have hlit := own_lit w 3 1 0 #[] rfl (by unfold maxLen; omega) (Nat.le_refl w.heap.size)
    have hB0 := below_val (w := w) #[] 3
    have hrd := hx.alloc (Nat.le_refl _) (.cells #[] 3)
    clear hx
    have hq := fun w => run_eql_slice_nil (P := Tryz.prog) w 22 3 (some a) n c Tryz.underlying22
    go_enter Tryz.func101, Tryz.ntmps101
    go_wp2_with (at_builtin; refine wpList_append_any _ rfl _ _ 22 rfl w.heap.size 3 i0 _ 1 8 Tryz.underlying22 hi hz0 hz1 hz2 rfl (by decide) (.slice (some ⟨w.heap.size, 0, none⟩) 0 0) 0 [] rfl hlit w.heap.size (some a) n c (xs.map (Value.int .i64)) rfl hrd (by intro u hu; obtain ⟨y, _, rfl⟩ := List.mem_map.1 hu; rfl) (by unfold maxLen; omega) (by omega) (by simp) ?_; intro v' W1 hown hgrow _; rw [Nat.zero_add, List.nil_append] at hown)
    have hB1 : Below w.heap.size w W1 := below_append hB0 hlit (by simp) hgrow
    obtain ⟨A', c', rfl, hR⟩ := own_form hown
    go_ret
    exact ⟨A', c', rfl, IntK.of_own hown, hB1⟩
/-- The keys of a versioner. -/
structure KV where
  A : Option Addr
  n : Nat
  c : Nat
  on : List Int
  A' : Option Addr
  n' : Nat
  c' : Nat
  others : List Int
  wd : Nat
/-- A versioner in memory: what it holds on both sides, and its mark. -/
structure VO (W : World) (t : TypeId) (b : Nat) (k : KV) (vL vR : Value) (mk : Int) : Prop where
  blk : Blk W b t #[.slice k.A k.n k.c, .slice k.A' k.n' k.c', .int .i64 (k.wd : Int), vL, vR, .int .i64 mk]
  on : IntK W k.A k.n k.on
  ot : IntK W k.A' k.n' k.others
/-- A list of events that is held by the way. -/
structure OE (W : World) (B : Nat) (v : Value) (l : List Ev) : Prop where
  own : W.ownsRow B 36 2 v l.length (l.flatMap encEv)
  rows : RowsE W B l
theorem OE.nil (W : World) (B : Nat) : OE W B (.slice none 0 0) [] := ⟨World.ownsRow_nil _ _ _ _, by intro i hi; cases hi⟩
/-- Blocks that may be written while rows and numbers stay. -/
def XsOk (W : World) (B : Nat) (Xs : List Nat) : Prop := ∀ x ∈ Xs, B ≤ x ∧ (∀ c fz, W.heap[x]? ≠ some (.cells c 102 fz)) ∧ ∀ c fz, W.heap[x]? ≠ some (.cells c 3 fz)
/-- What NewVersioner hands back. -/
def RetVN (t : TypeId) (on others : List Int) (width : Int) (w : World) (e : Ending) (w' : World) : Prop := Below w.heap.size w w' ∧
  if newE on others width = 0 then ∃ b k, e = .returned (.tuple #[.pointer (some ⟨b, 0, none⟩), .int .i64 0]) ∧ w.heap.size ≤ b ∧ VO w' t b k (.slice none 0 0) (.slice none 0 0) (-1000000000000) ∧ k.on = on ∧ k.others = others ∧ (k.wd : Int) = width
  else e = .returned (.tuple #[.pointer none, .int .i64 (newE on others width)])
end

section
open Go.RowKit
attribute [local go_sem] Oper.semAt_some wide_fn wide_depth
set_option linter.unusedVariables false
set_option linter.unusedSimpArgs false

theorem RetKp.under {k : Kst} {s : KS} {b : Nat} {left : Bool} {l r : Bg} {t : Int} {x : Rw} {m : Int} {w W : World} {e : Ending} {w' : World} (hB : Below w.heap.size w W) (h : RetKp k s b left l r t x m W e w') : RetKp k s b left l r t x m w e w' := by
  obtain ⟨A0, n0, c0, lc, h1, h2, h3, h4, h5⟩ := h
  exact ⟨A0, n0, c0, lc, h1, h2, h3, (Turn.of_below hB).trans h4, h5⟩
set_option maxRecDepth 100000 in
set_option maxHeartbeats 8000000 in
theorem KLeft_any {b : Nat} {k : Kst} {s : KS} {vL vR vN : Value} {l r : Bg} {q : Nat} (t : Int) (Ar : Option Addr) (nr cr : Nat) (x : Rw) (m : Int) (w : World)
    (h : KpO w b s k vL vR vN l r (kpJ k l r)) (hk : Kp2 k l r q) (hq : q + 1 ≤ 60) (hr : RowK w w.heap.size Ar nr x) (ht : Tab w) :
    Calls Tryz.prog 52 #[.pointer (some ⟨b, 0, none⟩), .agg #[.int .i64 t, .slice Ar nr cr, .int .i64 m]] w (RetKp k s b true l r t x m w) := by
  have hB0 := below_val (w := w) #[.int .i64 t, .slice Ar nr cr, .int .i64 m] 57
  have kb0 := Blk.new w 57 #[.int .i64 t, .slice Ar nr cr, .int .i64 m]
  have HT := hide (fun (X : World) (hX : Below w.heap.size w X) => tell_any true t Ar nr cr x m X (h.below hX) hk hq ((hr.below hX).mono hX.size) (ht.below hX))
  have HU := hide (fun (X : World) (hX : Below w.heap.size w X) => (h.below hX).blk)
  clear h hk hr ht
  go_enter Tryz.func52, Tryz.ntmps52
  go_upto_region 1 with fail
  obtain ⟨W0, hW0⟩ : ∃ W0, w.alloc (.cells #[.int .i64 t, .slice Ar nr cr, .int .i64 m] 57) = W0 := ⟨_, rfl⟩
  obtain ⟨bc, hbc⟩ : ∃ bc, w.heap.size = bc := ⟨_, rfl⟩
  rw [hW0] at hB0 kb0 ⊢
  rw [hbc] at kb0 ⊢
  clear hW0
  have HBC := hide hbc
  clear hbc
  go_wp2_with fail
  refine Held.begin (fun z => z.cell? ⟨b, 3, none⟩ = some (.int .i64 (k.a : Int)) ∧ z.cell? ⟨bc, 0, none⟩ = some (.int .i64 t) ∧ z.cell? ⟨bc, 1, none⟩ = some (.slice Ar nr cr) ∧ z.cell? ⟨bc, 2, none⟩ = some (.int .i64 m)) 100 (by kernel_rfl) ?_
  have hdr : Below W0.heap.size W0 W0.drew := (Below.refl _ _).drew
  have kb1 := kb0.below hdr kb0.lt
  have hB1 := bstep hB0 hdr
  obtain ⟨X1, hX1⟩ : ∃ X1, W0.drew = X1 := ⟨_, rfl⟩
  rw [hX1] at kb1 hB1 ⊢
  have hu := HU.out X1 hB1
  have hS : X1.cell? ⟨b, 3, none⟩ = some (.int .i64 (k.a : Int)) ∧ X1.cell? ⟨bc, 0, none⟩ = some (.int .i64 t) ∧ X1.cell? ⟨bc, 1, none⟩ = some (.slice Ar nr cr) ∧ X1.cell? ⟨bc, 2, none⟩ = some (.int .i64 m) := ⟨hu.cell 3, by simpa using kb1.cell 0, by simpa using kb1.cell 1, by simpa using kb1.cell 2⟩
  clear hX1 hdr kb0 hB0 hu
  refine Held.take (i := 0) (.pointer (some ⟨b, 0, none⟩)) rfl hS (by kernel_rfl) (by kernel_rfl) (by kernel_rfl) (by kernel_rfl) (fun _ _ _ h => h) rfl (fun y hy => by obtain ⟨x1, x2, x3, x4⟩ := hy; go_simp) ?_
  try simp only [Act.put]
  refine Held.take (i := 1) (.pointer (some ⟨b, 0, none⟩)) rfl hS (by kernel_rfl) (by kernel_rfl) (by kernel_rfl) (by kernel_rfl) (fun _ _ _ h => h) rfl (fun y hy => by obtain ⟨x1, x2, x3, x4⟩ := hy; go_simp) ?_
  try simp only [Act.put]
  refine Held.take (i := 2) (.pointer (some ⟨b, 0, none⟩)) rfl hS (by kernel_rfl) (by kernel_rfl) (by kernel_rfl) (by kernel_rfl) (fun _ _ _ h => h) rfl (fun y hy => by obtain ⟨x1, x2, x3, x4⟩ := hy; go_simp) ?_
  try simp only [Act.put]
  refine Held.take (i := 3) (.pointer (some ⟨b, 5, none⟩)) rfl hS (by kernel_rfl) (by kernel_rfl) (by kernel_rfl) (by kernel_rfl) (fun _ _ _ h => h) rfl (fun y hy => by obtain ⟨x1, x2, x3, x4⟩ := hy; go_simp) ?_
  try simp only [Act.put]
  refine Held.take (i := 4) (.pointer (some ⟨b, 0, none⟩)) rfl hS (by kernel_rfl) (by kernel_rfl) (by kernel_rfl) (by kernel_rfl) (fun _ _ _ h => h) rfl (fun y hy => by obtain ⟨x1, x2, x3, x4⟩ := hy; go_simp) ?_
  try simp only [Act.put]
  refine Held.take (i := 5) (.pointer (some ⟨b, 0, none⟩)) rfl hS (by kernel_rfl) (by kernel_rfl) (by kernel_rfl) (by kernel_rfl) (fun _ _ _ h => h) rfl (fun y hy => by obtain ⟨x1, x2, x3, x4⟩ := hy; go_simp) ?_
  try simp only [Act.put]
  refine Held.take (i := 6) (.pointer (some ⟨b, 3, none⟩)) rfl hS (by kernel_rfl) (by kernel_rfl) (by kernel_rfl) (by kernel_rfl) (fun _ _ _ h => h) rfl (fun y hy => by obtain ⟨x1, x2, x3, x4⟩ := hy; go_simp) ?_
  try simp only [Act.put]
  refine Held.take (i := 7) (.int .i64 (k.a : Int)) rfl hS (by kernel_rfl) (by kernel_rfl) (by kernel_rfl) (by kernel_rfl) (fun _ _ _ h => h) rfl (fun y hy => by obtain ⟨x1, x2, x3, x4⟩ := hy; go_simp) ?_
  try simp only [Act.put]
  refine Held.take (i := 8) (.agg #[.int .i64 t, .slice Ar nr cr, .int .i64 m]) rfl hS (by kernel_rfl) (by kernel_rfl) (by kernel_rfl) (by kernel_rfl) (fun _ _ _ h => h) rfl (fun y hy => by obtain ⟨x1, x2, x3, x4⟩ := hy; go_simp) ?_
  try simp only [Act.put]
  refine Held.one (i := 9) rfl (by kernel_rfl) rfl (fun K hK => ?_)
  unfold Oper.wp
  go_simp
  have hT := HT.out X1 hB1
  change Calls _ _ #[.pointer (some ⟨b, 0, none⟩), .pointer (some ⟨b, 5, none⟩), .int .i64 (k.a : Int), .agg #[.int .i64 t, .slice Ar nr cr, .int .i64 m]] _ _ at hT
  obtain ⟨E, hE⟩ : ∃ E, kpE k true l r t x m = E := ⟨_, rfl⟩
  refine hT.mono ?_
  rintro e X2 ⟨A0, n0, c0, lc, he, hlc, hch, htn, hko⟩
  rw [hE] at he
  subst he
  have hS2 : X2.cell? ⟨b, 3, none⟩ = some (.int .i64 (k.a : Int)) ∧ X2.cell? ⟨bc, 0, none⟩ = some (.int .i64 t) ∧ X2.cell? ⟨bc, 1, none⟩ = some (.slice Ar nr cr) ∧ X2.cell? ⟨bc, 2, none⟩ = some (.int .i64 m) := ⟨htn.keep _ _ hS.1 nofun, htn.keep _ _ hS.2.1 nofun, htn.item _ _ _ _ _ _ _ hS.2.2.1 hS.2.2.2, htn.keep _ _ hS.2.2.2 nofun⟩
  refine hK _ _ (fun _ => hS2) ?_
  try simp only [Act.put]
  clear hK K hS hT
  have hS := hS2
  clear hS2
  have HRS := hide (show RetKp k s b true l r t x m w (.returned (.tuple #[.slice A0 n0 c0, .int .i64 E])) X2 from RetKp.under hB1 ⟨A0, n0, c0, lc, by rw [hE], hlc, hch, htn, hko⟩)
  clear hlc hch htn hko hE kb1 hB1
  refine Held.take (i := 10) (.slice A0 n0 c0) rfl hS (by kernel_rfl) (by kernel_rfl) (by kernel_rfl) (by kernel_rfl) (fun _ _ _ h => h) rfl (fun y hy => by obtain ⟨x1, x2, x3, x4⟩ := hy; go_simp) ?_
  try simp only [Act.put]
  refine Held.take (i := 11) (.int .i64 E) rfl hS (by kernel_rfl) (by kernel_rfl) (by kernel_rfl) (by kernel_rfl) (fun _ _ _ h => h) rfl (fun y hy => by obtain ⟨x1, x2, x3, x4⟩ := hy; go_simp) ?_
  try simp only [Act.put]
  refine Held.take (i := 12) (.slice A0 n0 c0) rfl hS (by kernel_rfl) (by kernel_rfl) (by kernel_rfl) (by kernel_rfl) (fun _ _ _ h => h) rfl (fun y hy => by obtain ⟨x1, x2, x3, x4⟩ := hy; go_simp) ?_
  try simp only [Act.put]
  refine Held.one (i := 13) rfl (by kernel_rfl) rfl (fun K hK => ?_)
  unfold Oper.wp
  go_simp
  refine hK _ _ (fun _ => hS) ?_
  try simp only [Act.put]
  clear hK K
  refine Held.done (by kernel_rfl) ?_
  clear hS
  go_wp2
  refine bodyPost_ret (results_tmp2 rfl _ _ _) rfl ?_
  exact HRS.out
theorem KLeft_nil (t : Int) (Ar : Option Addr) (nr cr : Nat) (m : Int) (w : World) :
    Calls Tryz.prog 52 #[.pointer none, .agg #[.int .i64 t, .slice Ar nr cr, .int .i64 m]] w (RetV w (.tuple #[.slice none 0 0, .int .i64 1])) := by
  have hB0 := below_val (w := w) #[.int .i64 t, .slice Ar nr cr, .int .i64 m] 57
  go_enter Tryz.func52, Tryz.ntmps52
  go_wp2
  refine bodyPost_ret (results_tmp2 rfl _ _ _) rfl ?_
  exact ⟨rfl, hB0⟩
set_option maxRecDepth 100000 in
set_option maxHeartbeats 8000000 in
theorem KRight_any {b : Nat} {k : Kst} {s : KS} {vL vR vN : Value} {l r : Bg} {q : Nat} (t : Int) (Ar : Option Addr) (nr cr : Nat) (x : Rw) (m : Int) (w : World)
    (h : KpO w b s k vL vR vN l r (kpJ k l r)) (hk : Kp2 k l r q) (hq : q + 1 ≤ 60) (hr : RowK w w.heap.size Ar nr x) (ht : Tab w) :
    Calls Tryz.prog 54 #[.pointer (some ⟨b, 0, none⟩), .agg #[.int .i64 t, .slice Ar nr cr, .int .i64 m]] w (RetKp k s b false l r t x m w) := by
  have hB0 := below_val (w := w) #[.int .i64 t, .slice Ar nr cr, .int .i64 m] 57
  have kb0 := Blk.new w 57 #[.int .i64 t, .slice Ar nr cr, .int .i64 m]
  have HT := hide (fun (X : World) (hX : Below w.heap.size w X) => tell_any false t Ar nr cr x m X (h.below hX) hk hq ((hr.below hX).mono hX.size) (ht.below hX))
  have HU := hide (fun (X : World) (hX : Below w.heap.size w X) => (h.below hX).blk)
  clear h hk hr ht
  go_enter Tryz.func54, Tryz.ntmps54
  go_upto_region 1 with fail
  obtain ⟨W0, hW0⟩ : ∃ W0, w.alloc (.cells #[.int .i64 t, .slice Ar nr cr, .int .i64 m] 57) = W0 := ⟨_, rfl⟩
  obtain ⟨bc, hbc⟩ : ∃ bc, w.heap.size = bc := ⟨_, rfl⟩
  rw [hW0] at hB0 kb0 ⊢
  rw [hbc] at kb0 ⊢
  clear hW0
  have HBC := hide hbc
  clear hbc
  go_wp2_with fail
  refine Held.begin (fun z => z.cell? ⟨b, 4, none⟩ = some (.int .i64 (k.b : Int)) ∧ z.cell? ⟨bc, 0, none⟩ = some (.int .i64 t) ∧ z.cell? ⟨bc, 1, none⟩ = some (.slice Ar nr cr) ∧ z.cell? ⟨bc, 2, none⟩ = some (.int .i64 m)) 100 (by kernel_rfl) ?_
  have hdr : Below W0.heap.size W0 W0.drew := (Below.refl _ _).drew
  have kb1 := kb0.below hdr kb0.lt
  have hB1 := bstep hB0 hdr
  obtain ⟨X1, hX1⟩ : ∃ X1, W0.drew = X1 := ⟨_, rfl⟩
  rw [hX1] at kb1 hB1 ⊢
  have hu := HU.out X1 hB1
  have hS : X1.cell? ⟨b, 4, none⟩ = some (.int .i64 (k.b : Int)) ∧ X1.cell? ⟨bc, 0, none⟩ = some (.int .i64 t) ∧ X1.cell? ⟨bc, 1, none⟩ = some (.slice Ar nr cr) ∧ X1.cell? ⟨bc, 2, none⟩ = some (.int .i64 m) := ⟨hu.cell 4, by simpa using kb1.cell 0, by simpa using kb1.cell 1, by simpa using kb1.cell 2⟩
  clear hX1 hdr kb0 hB0 hu
  refine Held.take (i := 0) (.pointer (some ⟨b, 0, none⟩)) rfl hS (by kernel_rfl) (by kernel_rfl) (by kernel_rfl) (by kernel_rfl) (fun _ _ _ h => h) rfl (fun y hy => by obtain ⟨x1, x2, x3, x4⟩ := hy; go_simp) ?_
  try simp only [Act.put]
  refine Held.take (i := 1) (.pointer (some ⟨b, 0, none⟩)) rfl hS (by kernel_rfl) (by kernel_rfl) (by kernel_rfl) (by kernel_rfl) (fun _ _ _ h => h) rfl (fun y hy => by obtain ⟨x1, x2, x3, x4⟩ := hy; go_simp) ?_
  try simp only [Act.put]
  refine Held.take (i := 2) (.pointer (some ⟨b, 0, none⟩)) rfl hS (by kernel_rfl) (by kernel_rfl) (by kernel_rfl) (by kernel_rfl) (fun _ _ _ h => h) rfl (fun y hy => by obtain ⟨x1, x2, x3, x4⟩ := hy; go_simp) ?_
  try simp only [Act.put]
  refine Held.take (i := 3) (.pointer (some ⟨b, 6, none⟩)) rfl hS (by kernel_rfl) (by kernel_rfl) (by kernel_rfl) (by kernel_rfl) (fun _ _ _ h => h) rfl (fun y hy => by obtain ⟨x1, x2, x3, x4⟩ := hy; go_simp) ?_
  try simp only [Act.put]
  refine Held.take (i := 4) (.pointer (some ⟨b, 0, none⟩)) rfl hS (by kernel_rfl) (by kernel_rfl) (by kernel_rfl) (by kernel_rfl) (fun _ _ _ h => h) rfl (fun y hy => by obtain ⟨x1, x2, x3, x4⟩ := hy; go_simp) ?_
  try simp only [Act.put]
  refine Held.take (i := 5) (.pointer (some ⟨b, 0, none⟩)) rfl hS (by kernel_rfl) (by kernel_rfl) (by kernel_rfl) (by kernel_rfl) (fun _ _ _ h => h) rfl (fun y hy => by obtain ⟨x1, x2, x3, x4⟩ := hy; go_simp) ?_
  try simp only [Act.put]
  refine Held.take (i := 6) (.pointer (some ⟨b, 4, none⟩)) rfl hS (by kernel_rfl) (by kernel_rfl) (by kernel_rfl) (by kernel_rfl) (fun _ _ _ h => h) rfl (fun y hy => by obtain ⟨x1, x2, x3, x4⟩ := hy; go_simp) ?_
  try simp only [Act.put]
  refine Held.take (i := 7) (.int .i64 (k.b : Int)) rfl hS (by kernel_rfl) (by kernel_rfl) (by kernel_rfl) (by kernel_rfl) (fun _ _ _ h => h) rfl (fun y hy => by obtain ⟨x1, x2, x3, x4⟩ := hy; go_simp) ?_
  try simp only [Act.put]
  refine Held.take (i := 8) (.agg #[.int .i64 t, .slice Ar nr cr, .int .i64 m]) rfl hS (by kernel_rfl) (by kernel_rfl) (by kernel_rfl) (by kernel_rfl) (fun _ _ _ h => h) rfl (fun y hy => by obtain ⟨x1, x2, x3, x4⟩ := hy; go_simp) ?_
  try simp only [Act.put]
  refine Held.one (i := 9) rfl (by kernel_rfl) rfl (fun K hK => ?_)
  unfold Oper.wp
  go_simp
  have hT := HT.out X1 hB1
  change Calls _ _ #[.pointer (some ⟨b, 0, none⟩), .pointer (some ⟨b, 6, none⟩), .int .i64 (k.b : Int), .agg #[.int .i64 t, .slice Ar nr cr, .int .i64 m]] _ _ at hT
  obtain ⟨E, hE⟩ : ∃ E, kpE k false l r t x m = E := ⟨_, rfl⟩
  refine hT.mono ?_
  rintro e X2 ⟨A0, n0, c0, lc, he, hlc, hch, htn, hko⟩
  rw [hE] at he
  subst he
  have hS2 : X2.cell? ⟨b, 4, none⟩ = some (.int .i64 (k.b : Int)) ∧ X2.cell? ⟨bc, 0, none⟩ = some (.int .i64 t) ∧ X2.cell? ⟨bc, 1, none⟩ = some (.slice Ar nr cr) ∧ X2.cell? ⟨bc, 2, none⟩ = some (.int .i64 m) := ⟨htn.keep _ _ hS.1 nofun, htn.keep _ _ hS.2.1 nofun, htn.item _ _ _ _ _ _ _ hS.2.2.1 hS.2.2.2, htn.keep _ _ hS.2.2.2 nofun⟩
  refine hK _ _ (fun _ => hS2) ?_
  try simp only [Act.put]
  clear hK K hS hT
  have hS := hS2
  clear hS2
  have HRS := hide (show RetKp k s b false l r t x m w (.returned (.tuple #[.slice A0 n0 c0, .int .i64 E])) X2 from RetKp.under hB1 ⟨A0, n0, c0, lc, by rw [hE], hlc, hch, htn, hko⟩)
  clear hlc hch htn hko hE kb1 hB1
  refine Held.take (i := 10) (.slice A0 n0 c0) rfl hS (by kernel_rfl) (by kernel_rfl) (by kernel_rfl) (by kernel_rfl) (fun _ _ _ h => h) rfl (fun y hy => by obtain ⟨x1, x2, x3, x4⟩ := hy; go_simp) ?_
  try simp only [Act.put]
  refine Held.take (i := 11) (.int .i64 E) rfl hS (by kernel_rfl) (by kernel_rfl) (by kernel_rfl) (by kernel_rfl) (fun _ _ _ h => h) rfl (fun y hy => by obtain ⟨x1, x2, x3, x4⟩ := hy; go_simp) ?_
  try simp only [Act.put]
  refine Held.take (i := 12) (.slice A0 n0 c0) rfl hS (by kernel_rfl) (by kernel_rfl) (by kernel_rfl) (by kernel_rfl) (fun _ _ _ h => h) rfl (fun y hy => by obtain ⟨x1, x2, x3, x4⟩ := hy; go_simp) ?_
  try simp only [Act.put]
  refine Held.one (i := 13) rfl (by kernel_rfl) rfl (fun K hK => ?_)
  unfold Oper.wp
  go_simp
  refine hK _ _ (fun _ => hS) ?_
  try simp only [Act.put]
  clear hK K
  refine Held.done (by kernel_rfl) ?_
  clear hS
  go_wp2
  refine bodyPost_ret (results_tmp2 rfl _ _ _) rfl ?_
  exact HRS.out
theorem KRight_nil (t : Int) (Ar : Option Addr) (nr cr : Nat) (m : Int) (w : World) :
    Calls Tryz.prog 54 #[.pointer none, .agg #[.int .i64 t, .slice Ar nr cr, .int .i64 m]] w (RetV w (.tuple #[.slice none 0 0, .int .i64 1])) := by
  have hB0 := below_val (w := w) #[.int .i64 t, .slice Ar nr cr, .int .i64 m] 57
  go_enter Tryz.func54, Tryz.ntmps54
  go_wp2
  refine bodyPost_ret (results_tmp2 rfl _ _ _) rfl ?_
  exact ⟨rfl, hB0⟩
theorem comb_emptyK {a : Bg} (h : okBag a = true) : comb (fun m k => m + k) a [] = (a, 0) := by
  rw [comb_told (n := 1) (fun m k => by omega), h]
  show toldB a = (a, 0)
  unfold toldB
  rw [h]
  rfl
set_option maxRecDepth 100000 in
set_option maxHeartbeats 2000000 in
theorem KNow_any {b : Nat} {k : Kst} {s : KS} {vL vR vN : Value} {l r j : Bg} (w : World) (h : KpO w b s k vL vR vN l r j) (hj : okBag j = true) :
    Calls Tryz.prog 58 #[.pointer (some ⟨b, 0, none⟩)] w (RetC w (j, 0)) := by
  obtain ⟨A', n', c', l', e, hd, hb, hc⟩ := h.j
  have c6 : w.cell? ⟨b, 7, none⟩ = some vN := h.blk.cell 7
  rw [e] at c6
  have H := Sum_any A' n' c' l' none 0 0 [] w hb (BagR.nil _ _) hc (Nat.le_refl _)
  rw [hd, show dat [] = [] from rfl, comb_emptyK hj] at H
  have H := hide H
  clear h hb hd
  go_enter Tryz.func58, Tryz.ntmps58
  go_wp2_with fail
  refine H.out.mono ?_
  rintro e W1 ⟨A1, n1, c1, l1, rfl, h1, h2, h3, h4⟩
  go_wp2
  refine bodyPost_ret (results_tmp2 rfl _ _ _) rfl ?_
  exact ⟨A1, n1, c1, l1, rfl, h1, h2, h3, h4⟩
/-- What NewKeeper hands back. -/
def RetNK (kind : Int) (on others : List Int) (wide width : Int) (w : World) (e : Ending) (w' : World) : Prop := Below w.heap.size w w' ∧
  if setE kind on others wide width [] [] = 0 then ∃ b s k, e = .returned (.tuple #[.pointer (some ⟨b, 0, none⟩), .int .i64 0]) ∧ w.heap.size ≤ b ∧ KpO w' b s k (.slice none 0 0) (.slice none 0 0) (.slice none 0 0) [] [] [] ∧ KstOk k ∧ k.kind = kind ∧ k.on = on ∧ k.others = others ∧ (k.a : Int) = wide ∧ (k.b : Int) = width
  else e = .returned (.tuple #[.pointer none, .int .i64 (setE kind on others wide width [] [])])
theorem outB_nil (kind : Int) (on others : List Int) (wide width : Int) : (outB kind on others wide width [] []).2 = setE kind on others wide width [] [] := by
  show outE kind on others wide width [] [] = _
  rw [outE_set]
  have h1 : okBag [] = true := rfl
  have h2 : wholeB [] = true := rfl
  have h3 : okBag (aftB [] (joinL (decide (kind % 2 = 1)) (decide (2 ≤ kind)) on others wide.toNat width.toNat [] [])) = true := rfl
  rw [h1, h2, h3]
  simp only [Bool.and_self, if_true]
  split
  · rename_i h; exact h.symm
  · rfl
theorem kst_of {kind : Int} {on others : List Int} {wide width : Int} (h : setE kind on others wide width [] [] = 0) : ∃ k : Kst, KstOk k ∧ k.kind = kind ∧ k.on = on ∧ k.others = others ∧ (k.a : Int) = wide ∧ (k.b : Int) = width := by
  have hz := setE_zero h
  have hf := wider_fit hz.1.2.2.2 hz.2.1 hz.2.2.1
  have h1 := btw_iff.1 hz.2.1
  have h2 := btw_iff.1 hz.2.2.1
  have ea : ((wide.toNat : Nat) : Int) = wide := by omega
  have eb : ((width.toNat : Nat) : Int) = width := by omega
  exact ⟨⟨kind, on, others, wide.toNat, width.toNat⟩, ⟨btw_iff.1 hz.2.2.2.1, hz.1.1, hf, by rw [ea]; exact hz.2.2.2.2.1, by rw [eb]; exact hz.2.2.2.2.2⟩, rfl, rfl, rfl, ea, eb⟩
set_option maxRecDepth 100000 in
set_option maxHeartbeats 8000000 in
theorem NewKeeper_any (kind : Int) (A1 : Option Addr) (n1 c1 : Nat) (on : List Int) (A2 : Option Addr) (n2 c2 : Nat) (others : List Int) (wide width : Int) (w : World)
    (h1 : Reads w w.heap.size 1 A1 n1 (on.map (Value.int .i64))) (h2 : Reads w w.heap.size 1 A2 n2 (others.map (Value.int .i64))) (hn1 : n1 ≤ 1000) (hn2 : n2 ≤ 1000) (ht : Tab w) :
    Calls Tryz.prog 50 #[.int .i64 kind, .slice A1 n1 c1, .slice A2 n2 c2, .int .i64 wide, .int .i64 width] w (RetNK kind on others wide width w) := by
  have HO := hide (Outer_any kind A1 n1 c1 on A2 n2 c2 others wide width none 0 0 [] none 0 0 [] w h1 h2 hn1 hn2 (BagR.nil _ _) (BagR.nil _ _) (by omega) (by omega) nofun nofun ht)
  obtain ⟨p, hp⟩ : ∃ p, outB kind on others wide width [] [] = p := ⟨_, rfl⟩
  rw [show dat [] = [] from rfl, hp] at HO
  have HE := hide (show setE kind on others wide width [] [] = p.2 from by rw [← hp]; exact (outB_nil _ _ _ _ _).symm)
  have PA := hide h1
  have PB := hide h2
  clear h1 h2 hp ht
  go_enter Tryz.func50, Tryz.ntmps50
  go_wp2_with fail
  refine HO.out.mono ?_
  rintro e W1 ⟨Ax, nx, cx, lx, rfl, _, _, _, _, hB1⟩
  by_cases hE : p.2 = 0
  · have z : (p.2 != 0) = false := by simpa using hE
    have HZ := hide (HE.out.trans hE)
    clear hE
    go_wp2_with fail
    refine (CloneK_any A1 n1 c1 on W1 (PA.out.up hB1) hn1).mono ?_
    rintro e W2 hres
    obtain ⟨Aa, ca, rfl, hka, hb⟩ := hres
    have hB2 := bstep hB1 hb
    clear hb hB1
    go_wp2_with fail
    refine (CloneK_any A2 n2 c2 others W2 (PB.out.up hB2) hn2).mono ?_
    rintro e W3 hres
    obtain ⟨Ab, cb, rfl, hkb, hb⟩ := hres
    have hB3 := bstep hB2 hb
    have hka3 := hka.below hb
    clear hb hB2 hka
    have HRES := hide (show RetNK kind on others wide width w (.returned (.tuple #[.pointer (some ⟨W3.heap.size, 0, none⟩), .int .i64 0])) (W3.alloc (.cells #[.slice Aa n1 ca, .slice Ab n2 cb, .int .i64 kind, .int .i64 wide, .int .i64 width, .slice none 0 0, .slice none 0 0, .slice none 0 0] 153)) from by
      have hbv := below_val (w := W3) #[.slice Aa n1 ca, .slice Ab n2 cb, .int .i64 kind, .int .i64 wide, .int .i64 width, .slice none 0 0, .slice none 0 0, .slice none 0 0] 153
      refine ⟨bstep hB3 hbv, ?_⟩
      rw [if_pos HZ.out]
      obtain ⟨k, ok, e1, e2, e3, e4, e5⟩ := kst_of HZ.out
      have kb := Blk.new W3 153 #[.slice Aa n1 ca, .slice Ab n2 cb, .int .i64 kind, .int .i64 wide, .int .i64 width, .slice none 0 0, .slice none 0 0, .slice none 0 0]
      refine ⟨_, ⟨Aa, n1, ca, Ab, n2, cb⟩, k, rfl, hB3.size, ⟨?_, ⟨?_, ?_, hn1, hn2⟩, BgV.nil _, BgV.nil _, (BgV.nil _).w⟩, ok, e1, e2, e3, e4, e5⟩
      · rw [e1, e4, e5]; exact kb
      · rw [e2]; exact (hka3.below hbv).rd
      · rw [e3]; exact (hkb.below hbv).rd)
    clear hB3 hka3 hkb
    go_wp2
    refine bodyPost_ret (results_tmp2 rfl _ _ _) rfl ?_
    exact HRES.out
  · have z : (p.2 != 0) = true := by simpa using hE
    have HB := hide hB1
    have HZ := hide hE
    clear hE
    go_wp2
    refine bodyPost_ret (results_tmp2 rfl _ _ _) rfl ?_
    refine ⟨HB.out, ?_⟩
    rw [HE.out, if_neg HZ.out]
    rfl
end

end Go.Proofs.YtoapjidpfghnlaaGreatDoor
