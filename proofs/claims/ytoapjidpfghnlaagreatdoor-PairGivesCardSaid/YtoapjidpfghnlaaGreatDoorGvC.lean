/-
  What the law PairGives holds in memory beside the joiner: two lists of events and one of changes, each growing in a block of its own. No condition.
  PairGives: what is known behind some acts, in plain data, and what follows at the end. No program in sight; no condition.
  PairGives: a joiner beside the three lists, told one act; all that the law does with its answer. No condition.
-/
import Derived.Test.YtoapjidpfghnlaaGreatDoorJnA
import Derived.Test.YtoapjidpfghnlaaGreatDoorIns
import Derived.Test.YtoapjidpfghnlaaGreatDoorJnG
import Derived.Test.YtoapjidpfghnlaaGreatDoorJnJ0
import Derived.Test.YtoapjidpfghnlaaGreatDoorJnX
import Derived.Test.YtoapjidpfghnlaaGreatDoorEvX
namespace Go.Proofs.YtoapjidpfghnlaaGreatDoor

section
open Go.RowKit
set_option linter.unusedVariables false
set_option linter.unusedSimpArgs false

/-- A list of events that is held by the way. -/
structure OV (W : World) (B : Nat) (v : Value) (l : List Ev) : Prop where
  own : W.ownsRow B 36 2 v l.length (l.flatMap encEv)
  rows : RowsE W B l
theorem OV.nil (W : World) (B : Nat) : OV W B (.slice none 0 0) [] := ⟨World.ownsRow_nil _ _ _ _, by intro i hi; cases hi⟩
/-- Neither a row nor a list of numbers lies there. -/
def Quiet2 (W : World) (B : Nat) (P : Nat → Prop) : Prop := ∀ k, P k → B ≤ k ∧ (∀ c fz, W.heap[k]? ≠ some (.cells c 102 fz)) ∧ ∀ c fz, W.heap[k]? ≠ some (.cells c 3 fz)
theorem Quiet.two {W : World} {B : Nat} {P : Nat → Prop} (h : Quiet W B P) : Quiet2 W B P := fun k hk => ⟨(h k hk).1, (h k hk).2.1, (h k hk).2.2.1⟩
theorem RowK.frq {P : Nat → Prop} {w w' : World} {B n : Nat} {A : Option Addr} {r : Rw} (h : RowK w B A n r) (hf : FrP P w w') (hq : Quiet2 w B P) : RowK w' B A n r :=
  h.keep (p := P) hf.block hf.size fun k hk => ⟨(hq k hk).1, (hq k hk).2.1⟩
theorem IntK.frq {P : Nat → Prop} {w w' : World} {B n : Nat} {A : Option Addr} {xs : List Int} (h : IntK w A n xs) (hf : FrP P w w') (hq : Quiet2 w B P) : IntK w' A n xs := by
  have hne : 0 < n → ∀ b off m, A = some ⟨b, off, m⟩ → ¬ P b := fun h0 b off m e hx => by
    obtain ⟨c, fz, h1⟩ := h.at_ h0 b off m e
    exact (hq b hx).2.2 c fz h1
  refine ⟨⟨h.rd.1, fun h0 => ?_⟩, fun h0 b off m e => ?_⟩
  · obtain ⟨b, off, e, hlt, hc⟩ := h.rd.2 h0
    refine ⟨b, off, e, Nat.lt_of_lt_of_le hlt hf.size, fun j u hu => ?_⟩
    rw [World.cell?_of_block (hf.block b hlt (hne h0 b off none e))]
    exact hc j u hu
  · obtain ⟨c, fz, h1⟩ := h.at_ h0 b off m e
    exact ⟨c, fz, by rw [hf.block b (Array.getElem?_eq_some_iff.1 h1).1 (hne h0 b off m e)]; exact h1⟩
theorem JO.frq {P : Nat → Prop} {w w' : World} {base b bL bR i : Nat} {s : JoS} {mk : Int} {fL fR : List UInt8 → List Hd} {SL SR : Nat → Prop} (h : JO w base b bL bR s mk i fL fR SL SR) (hf : FrP P w w') (hq : Quiet2 w base P) (hn : ∀ k, P k → ¬ jP b bL bR SL SR k) : JO w' base b bL bR s mk i fL fR SL SR :=
  ⟨h.blk.frp hf fun hp => hn b hp (.inl rfl), h.on.frq hf hq, h.ot.frq hf hq,
    h.l.keepS (P := P) hf.block hf.size fun k hk => ⟨(hq k hk).1, fun e => hn k hk (.inr (.inl e)), fun e => hn k hk (.inr (.inr (.inr (.inl e)))), (hq k hk).2.1⟩,
    h.r.keepS (P := P) hf.block hf.size fun k hk => ⟨(hq k hk).1, fun e => hn k hk (.inr (.inr (.inl e))), fun e => hn k hk (.inr (.inr (.inr (.inr e)))), (hq k hk).2.1⟩, h.ne, h.dj, h.low⟩
/-- No event lies there. -/
def QuietE (W : World) (P : Nat → Prop) : Prop := ∀ k, P k → ∀ c fz, W.heap[k]? ≠ some (.cells c 36 fz)
theorem OV.frp {P : Nat → Prop} {w w' : World} {B : Nat} {v : Value} {l : List Ev} (h : OV w B v l) (hf : FrP P w w') (hq : Quiet2 w B P) (hn : ∀ g, v.ownBlock = some g → ¬ P g) : OV w' B v l :=
  ⟨own_blockU h.own fun g hg => by
    obtain ⟨c, fz, hc⟩ := own_cells h.own hg
    exact hf.block g (Array.getElem?_eq_some_iff.1 hc).1 (hn g hg), fun i hi => (h.rows i hi).frq hf hq⟩
theorem FrP.of_grown {w w' : World} {ob : Option Nat} (h : w.grownBy w' ob) : FrP (fun k => ob = some k) w w' := ⟨h.os, h.tape, h.output, h.size, fun k hk hp => h.block k hk fun e => hp e.symm⟩
theorem OV.quiet {W : World} {B : Nat} {v : Value} {l : List Ev} (h : OV W B v l) : Quiet W B (fun k => v.ownBlock = some k) := fun k hk => by
  obtain ⟨c, fz, hc⟩ := own_cells h.own hk
  refine ⟨(h.own.lt k hk).1, ?_, ?_, ?_⟩ <;>
  · intro c' fz' e'
    rw [hc] at e'
    injection e' with e'
    injection e' with _ e'
    exact absurd e' (by decide)
theorem OC.quiet2 {W : World} {B : Nat} {v : Value} {l : List Ch} (h : OC W B v l) : Quiet2 W B (fun k => v.ownBlock = some k) := fun k hk => by
  obtain ⟨c, fz, hc⟩ := own_cells h.own hk
  refine ⟨(h.own.lt k hk).1, ?_, ?_⟩ <;>
  · intro c' fz' e'
    rw [hc] at e'
    injection e' with e'
    injection e' with _ e'
    exact absurd e' (by decide)
theorem OC.quietE {W : World} {B : Nat} {v : Value} {l : List Ch} (h : OC W B v l) : QuietE W (fun k => v.ownBlock = some k) := fun k hk c' fz' e' => by
  obtain ⟨c, fz, hc⟩ := own_cells h.own hk
  rw [hc] at e'
  injection e' with e'
  injection e' with _ e'
  exact absurd e' (by decide)
/-- A list of events grows by one. -/
theorem ev_app {X : World} {B : Nat} {v : Value} {l : List Ev} (y : Ev) (h : OV X B v l) (hy : RowK X B y.A y.n y.r) (hB : B ≤ X.heap.size) (hl : l.length ≤ 100000) :
    ∃ A c A' c' X', v = .slice A l.length c ∧ (Builtin.append_ #[25, 25] 25 #[.slice A l.length c, .slice (some ⟨X.heap.size, 0, none⟩) 1 1]).run Tryz.prog (X.alloc (.cells #[.int .i64 y.t, .slice y.A y.n y.c] 36)) = .ok (.slice A' (l.length + 1) c') X' ∧
      OV X' B (.slice A' (l.length + 1) c') (l ++ [y]) ∧ FrP (fun k => v.ownBlock = some k) X X' ∧ ((Value.slice A' (l.length + 1) c').ownBlock = v.ownBlock ∨ ∀ g, (Value.slice A' (l.length + 1) c').ownBlock = some g → X.heap.size ≤ g) := by
  obtain ⟨i0, hi, hz0, hz1, hz2⟩ := info_parts3 infoEv
  obtain ⟨A, c, rfl, _⟩ := own_form h.own
  have hown := h.own
  obtain ⟨o, ho⟩ : ∃ o : Obj, (.cells #[.int .i64 y.t, .slice y.A y.n y.c] 36 : Obj) = o := ⟨_, rfl⟩
  have hs : (X.alloc o).heap.size = X.heap.size + 1 := World.size_alloc _ _
  have kq := Blk.new X 36 #[.int .i64 y.t, .slice y.A y.n y.c]
  have hba := below_val (w := X) #[.int .i64 y.t, .slice y.A y.n y.c] 36
  rw [ho] at kq hba ⊢
  have hown1 := own_below hown hba
  have hrd : Reads (X.alloc o) (X.alloc o).heap.size 2 (some ⟨X.heap.size, 0, none⟩) 1 (encEv y) := ⟨rfl, fun _ => ⟨X.heap.size, 0, rfl, by omega, fun j u hu => by rw [Nat.zero_add, kq.cell j]; simpa [encEv] using hu⟩⟩
  obtain ⟨v', X', hrun, h2, h3, h4⟩ := run_append_any (P := Tryz.prog) (X.alloc o) B 25 25 36 i0 _ 2 32 Tryz.underlying25 hi hz0 hz1 hz2 rfl (by decide) (.slice A l.length c) l.length (l.flatMap encEv) hown1 (X.alloc o).heap.size (some ⟨X.heap.size, 0, none⟩) 1 1 (encEv y) hrd (by
    intro u hu
    unfold encEv at hu
    simp only [List.mem_cons, List.not_mem_nil, or_false] at hu
    rcases hu with rfl | rfl <;> rfl) (by unfold maxLen; omega) (by omega) (by omega)
  obtain ⟨A', c', rfl, _⟩ := own_form h2
  refine ⟨A, c, A', c', X', rfl, hrun, ⟨?_, ?_⟩, (FrP.of_below hba).trans (FrP.of_grown h3) (fun k hk => .inl hk), ?_⟩
  · rw [List.length_append, List.flatMap_append]
    have e1 : [y].flatMap encEv = encEv y := by simp
    rw [e1]
    exact h2
  · intro i hi
    have key : ∀ i : Ev, RowK X B i.A i.n i.r → RowK X' B i.A i.n i.r := fun i h => (h.below hba).grown hown1 (by decide) (Nat.le_refl _) h3
    rcases List.mem_append.1 hi with hi | hi
    · exact key i (h.rows i hi)
    · obtain rfl : i = y := by simpa using hi
      exact key i hy
  · rcases h4 with e | e
    · exact .inl e
    · exact .inr fun g hg => by rw [e] at hg; injection hg with hg; omega
/-- A list of changes grows by a list. -/
theorem ch_app {X : World} {B : Nat} {v : Value} {l : List Ch} {A2 : Option Addr} {n2 c2 : Nat} {k : List Ch} (h : OC X B v l) (hk : Reads X X.heap.size 3 A2 n2 (k.flatMap encCh)) (hrows : RowsC X B k) (hB : B ≤ X.heap.size) (hl : l.length ≤ 100000) (hn : n2 ≤ 100000) :
    ∃ A c A' c' X', v = .slice A l.length c ∧ (Builtin.append_ #[67, 67] 67 #[.slice A l.length c, .slice A2 n2 c2]).run Tryz.prog X = .ok (.slice A' (l.length + n2) c') X' ∧
      OC X' B (.slice A' (l.length + n2) c') (l ++ k) ∧ FrP (fun k => v.ownBlock = some k) X X' := by
  obtain ⟨i0, hi, hz0, hz1, hz2⟩ := info_parts3 infoCh
  obtain ⟨A, c, rfl, _⟩ := own_form h.own
  have hown := h.own
  have hlen : k.length = n2 := hk.len encCh_len (by omega)
  obtain ⟨v', X', hrun, h2, h3, h4⟩ := run_append_any (P := Tryz.prog) X B 67 67 57 i0 _ 3 40 Tryz.underlying67 hi hz0 hz1 hz2 rfl (by decide) (.slice A l.length c) l.length (l.flatMap encCh) hown X.heap.size A2 n2 c2 (k.flatMap encCh) hk (by
    intro u hu
    obtain ⟨y, _, hu⟩ := List.mem_flatMap.1 hu
    unfold encCh at hu
    simp only [List.mem_cons, List.not_mem_nil, or_false] at hu
    rcases hu with rfl | rfl | rfl <;> rfl) (by unfold maxLen; omega) (by omega) (by omega)
  obtain ⟨A', c', rfl, _⟩ := own_form h2
  refine ⟨A, c, A', c', X', rfl, hrun, ⟨?_, ?_⟩, FrP.of_grown h3⟩
  · rw [List.length_append, List.flatMap_append, hlen]
    exact h2
  · intro i hi
    have key : ∀ i : Ch, RowK X B i.A i.n i.r → RowK X' B i.A i.n i.r := fun i h => h.grown hown (by decide) (Nat.le_refl _) h3
    rcases List.mem_append.1 hi with hi | hi
    · exact key i (h.rows i hi)
    · exact key i (hrows i hi)
/-- The three lists. -/
structure GvS (W : World) (B : Nat) (vl vr vg : Value) (l r : List Ev) (g : List Ch) : Prop where
  l : OV W B vl l
  r : OV W B vr r
  g : OC W B vg g
  ap : ∀ k, vl.ownBlock = some k → vr.ownBlock ≠ some k
section
variable {w w' : World} {B : Nat} {vl vr vg v' : Value} {l r l' : List Ev} {g g' : List Ch} {P : Nat → Prop}
theorem GvS.nil (W : World) (B : Nat) : GvS W B (.slice none 0 0) (.slice none 0 0) (.slice none 0 0) [] [] [] := ⟨OV.nil _ _, OV.nil _ _, OC.nil _ _, nofun⟩
theorem quietE_not {v : Value} {l : List Ev} (hq : QuietE w P) (h : OV w B v l) : ∀ g, v.ownBlock = some g → ¬ P g := fun g hg hp => by
  obtain ⟨c, fz, hc⟩ := own_cells h.own hg
  exact hq g hp c fz hc
theorem GvS.frp (h : GvS w B vl vr vg l r g) (hf : FrP P w w') (hq : Quiet w B P) (hE : QuietE w P) : GvS w' B vl vr vg l r g :=
  ⟨h.l.frp hf hq.two (quietE_not hE h.l), h.r.frp hf hq.two (quietE_not hE h.r), h.g.frp hf hq, h.ap⟩
theorem GvS.below (h : GvS w B vl vr vg l r g) (hb : Below w.heap.size w w') : GvS w' B vl vr vg l r g := h.frp (P := fun _ => False) (FrP.of_below hb) nofun nofun
theorem GvS.putL (h : GvS w B vl vr vg l r g) (hf : FrP (fun k => vl.ownBlock = some k) w w') (ho : OV w' B v' l') (hv : v'.ownBlock = vl.ownBlock ∨ ∀ k, v'.ownBlock = some k → w.heap.size ≤ k) : GvS w' B v' vr vg l' r g :=
  ⟨ho, h.r.frp hf h.l.quiet.two fun k hk e => h.ap k e hk, h.g.frp hf h.l.quiet, fun k hk e => by
    rcases hv with e2 | e2
    · exact h.ap k (e2 ▸ hk) e
    · have := e2 k hk
      have := (h.r.own.lt k e).2
      omega⟩
theorem GvS.putR (h : GvS w B vl vr vg l r g) (hf : FrP (fun k => vr.ownBlock = some k) w w') (ho : OV w' B v' l') (hv : v'.ownBlock = vr.ownBlock ∨ ∀ k, v'.ownBlock = some k → w.heap.size ≤ k) : GvS w' B vl v' vg l l' g :=
  ⟨h.l.frp hf h.r.quiet.two fun k hk e => h.ap k hk e, ho, h.g.frp hf h.r.quiet, fun k hk e => by
    rcases hv with e2 | e2
    · exact h.ap k hk (e2 ▸ e)
    · have := e2 k e
      have := (h.l.own.lt k hk).2
      omega⟩
theorem GvS.putG (h : GvS w B vl vr vg l r g) (hf : FrP (fun k => vg.ownBlock = some k) w w') (ho : OC w' B v' g') : GvS w' B vl vr v' l r g' :=
  ⟨h.l.frp hf h.g.quiet2 (quietE_not h.g.quietE h.l), h.r.frp hf h.g.quiet2 (quietE_not h.g.quietE h.r), ho, h.ap⟩
end
end

section
open Go.RowKit
set_option linter.unusedVariables false
set_option linter.unusedSimpArgs false

/-- An event as a change that is told once. -/
def eT (e : Ev) : Th := ⟨e.t, 1, e.r⟩
theorem eT_te (l : List Ev) : (l.map eT).map teT = dE l := by unfold dE; rw [List.map_map]; rfl
theorem eT_one (l : List Ev) : ∀ x ∈ l.map eT, x.m = 1 := fun x hx => by obtain ⟨y, _, rfl⟩ := List.mem_map.1 hx; rfl
/-- Behind i acts. -/
structure GvP (on others : List Int) (lo hi mk : Int) (i : Nat) (L R : List Th) (F G : List UInt8 → List Th) (l r : List Ev) (g : List Ch) : Prop where
  jst : JSt on others i L R F G
  gv : GvI on others lo hi mk L R (l.map eT) (r.map eT)
  gs : ∀ d, smT d (g.map thC) = smT d (prsJ on others lo hi (l.map eT) (r.map eT))
  gk : ∀ y ∈ g, (okR y.r = true ∧ -400000 ≤ y.m ∧ y.m ≤ 400000) ∧ y.n ≤ 1000
  gl : 2 * g.length ≤ i * i
  lk : ∀ e ∈ l, okE (e.t, e.r) = true ∧ hasC e.r on = true ∧ e.n ≤ e.c
  rk : ∀ e ∈ r, okE (e.t, e.r) = true ∧ hasC e.r others = true ∧ e.n ≤ e.c
  ll : l.length ≤ i
  rl : r.length ≤ i
theorem sq_le {g k i : Nat} (h : 2 * g ≤ i * i) (hk : k ≤ i) : 2 * (g + k) ≤ (i + 1) * (i + 1) := by
  have e : (i + 1) * (i + 1) = i * i + 2 * i + 1 := by rw [Nat.add_mul, Nat.mul_add]; omega
  omega
section
variable {on others : List Int} {lo hi mk : Int} {i : Nat} {L R : List Th} {F G : List UInt8 → List Th} {l r : List Ev} {g k : List Ch}
theorem GvP.nil (hn : on.length = others.length) (lo hi mk : Int) : GvP on others lo hi mk 0 [] [] (fun _ => []) (fun _ => []) [] [] [] :=
  ⟨JSt.nil hn, GvI.nil _ _ _ _ _, fun _ => rfl, nofun, by simp, nofun, nofun, by simp, by simp⟩
theorem GvP.more (h : GvP on others lo hi mk i L R F G l r g) : GvP on others lo hi mk (i + 1) L R F G l r g :=
  ⟨h.jst.more, h.gv, h.gs, h.gk, by have := sq_le (k := 0) h.gl (by omega); simpa using this, h.lk, h.rk, by have := h.ll; omega, by have := h.rl; omega⟩
theorem GvP.mark (h : GvP on others lo hi mk i L R F G l r g) {m : Int} (hm : mk ≤ m) : GvP on others lo hi m (i + 1) (L.filter (keepL hi m)) (R.filter (keepL (-lo) m)) (fun q => (F q).filter (keepL hi m)) (fun q => (G q).filter (keepL (-lo) m)) l r g :=
  ⟨h.jst.mark _ _, h.gv.mark hm, h.gs, h.gk, by have := sq_le (k := 0) h.gl (by omega); simpa using this, h.lk, h.rk, by have := h.ll; omega, by have := h.rl; omega⟩
theorem okE_at {t : Int} {x : Rw} (h : okCh t x 1 = true) : okE (t, x) = true := by
  obtain ⟨h1, _, h2, h3⟩ := okCh_at (c := ⟨t, 1, x⟩) h
  have h1 : okR x = true := h1
  have h2 : -1000000000000 ≤ t := h2
  have h3 : t ≤ 1000000000000 := h3
  unfold okE
  rw [Bool.and_eq_true]
  exact ⟨btw_iff.2 ⟨h2, h3⟩, h1⟩
/-- What a call adds. -/
theorem gk_add {own oth : List Int} {left : Bool} {t : Int} {x : Rw} {LO : List Th} {q : Nat} (hb : BdT oth q LO) (hq : q ≤ 40) (hE : jnE left own oth lo hi mk ⟨t, 1, x⟩ LO = 0) (hp : (k.map thC).Perm (jnL left own oth lo hi ⟨t, 1, x⟩ LO)) (hn : ∀ y ∈ k, y.r.length = y.n) :
    k.length ≤ q ∧ ∀ y ∈ k, (okR y.r = true ∧ -400000 ≤ y.m ∧ y.m ≤ 400000) ∧ y.n ≤ 1000 := by
  obtain ⟨hok, _, _, hbad⟩ := jn_zero hE
  have hsm := jnL_small (c := ⟨t, 1, x⟩) (okCh_at hok).1 (by simp) (l := LO) (fun y hy => by
    have a1 := hb.ok y hy
    have a2 := hb.num y hy
    exact ⟨a1.1, by omega, by omega⟩) hbad
  refine ⟨?_, fun y hy => ?_⟩
  · have a1 := hp.length_eq
    rw [List.length_map] at a1
    have a2 := jnL_len left own oth lo hi ⟨t, 1, x⟩ LO
    have a3 := hb.len
    omega
  · have a1 := hsm _ (hp.mem_iff.1 (List.mem_map.2 ⟨y, hy, rfl⟩))
    have a2 : okR y.r = true := a1.1
    have a3 : -400000 ≤ y.m ∧ y.m ≤ 400000 := a1.2
    have a4 := okR_len a2
    have a5 := hn y hy
    exact ⟨⟨a2, a3⟩, by omega⟩
theorem GvP.left (h : GvP on others lo hi mk i L R F G l r g) (hi40 : i ≤ 40) {t : Int} {x : Rw} {A : Option Addr} {n c : Nat} (hE : jnE true on others lo hi mk ⟨t, 1, x⟩ R = 0) (hp : (k.map thC).Perm (jnL true on others lo hi ⟨t, 1, x⟩ R))
    (hn : ∀ y ∈ k, y.r.length = y.n) (hc : n ≤ c) : GvP on others lo hi mk (i + 1) (keptT L ⟨t, 1, x⟩) R (putF' on F ⟨t, 1, x⟩) G (l ++ [⟨t, A, n, c, x⟩]) r (g ++ k) := by
  obtain ⟨hok, hhas, hmk, hbad⟩ := jn_zero hE
  obtain ⟨hk1, hk2⟩ := gk_add h.jst.br hi40 hE hp hn
  have e : (l ++ [(⟨t, A, n, c, x⟩ : Ev)]).map eT = l.map eT ++ [⟨t, 1, x⟩] := by rw [List.map_append]; rfl
  refine ⟨h.jst.left hok hhas (by simp) (by simp), by rw [e]; exact h.gv.left _, ?_, ?_, ?_, ?_, h.rk, ?_, by have := h.rl; omega⟩
  · rw [e, List.map_append]
    exact gives_left h.gv hmk hp h.gs
  · intro y hy
    rcases List.mem_append.1 hy with hy | hy
    · exact h.gk y hy
    · exact hk2 y hy
  · rw [List.length_append]; exact sq_le h.gl hk1
  · intro y hy
    rcases List.mem_append.1 hy with hy | hy
    · exact h.lk y hy
    · obtain rfl : y = ⟨t, A, n, c, x⟩ := by simpa using hy
      exact ⟨okE_at hok, hhas, hc⟩
  · have := h.ll
    rw [List.length_append]; simp; omega
theorem GvP.right (h : GvP on others lo hi mk i L R F G l r g) (hi40 : i ≤ 40) {t : Int} {x : Rw} {A : Option Addr} {n c : Nat} (hE : jnE false others on lo hi mk ⟨t, 1, x⟩ L = 0) (hp : (k.map thC).Perm (jnL false others on lo hi ⟨t, 1, x⟩ L))
    (hn : ∀ y ∈ k, y.r.length = y.n) (hc : n ≤ c) : GvP on others lo hi mk (i + 1) L (keptT R ⟨t, 1, x⟩) F (putF' others G ⟨t, 1, x⟩) l (r ++ [⟨t, A, n, c, x⟩]) (g ++ k) := by
  obtain ⟨hok, hhas, hmk, hbad⟩ := jn_zero hE
  obtain ⟨hk1, hk2⟩ := gk_add h.jst.bl hi40 hE hp hn
  have e : (r ++ [(⟨t, A, n, c, x⟩ : Ev)]).map eT = r.map eT ++ [⟨t, 1, x⟩] := by rw [List.map_append]; rfl
  refine ⟨h.jst.right hok hhas (by simp) (by simp), by rw [e]; exact h.gv.right _, ?_, ?_, ?_, h.lk, ?_, by have := h.ll; omega, ?_⟩
  · rw [e, List.map_append]
    exact gives_right h.gv hmk rfl hp h.gs
  · intro y hy
    rcases List.mem_append.1 hy with hy | hy
    · exact h.gk y hy
    · exact hk2 y hy
  · rw [List.length_append]; exact sq_le h.gl hk1
  · intro y hy
    rcases List.mem_append.1 hy with hy | hy
    · exact h.rk y hy
    · obtain rfl : y = ⟨t, A, n, c, x⟩ := by simpa using hy
      exact ⟨okE_at hok, hhas, hc⟩
  · have := h.rl
    rw [List.length_append]; simp; omega
/-- What Intervals answers in the end. -/
theorem GvP.err (h : GvP on others lo hi mk i L R F G l r g) (hi40 : i ≤ 40) (hj : njE on others lo hi = 0) : intE on others lo hi (dE l) (dE r) = if limP (pairsI on others lo hi (dE l) (dE r)) then 4 else 0 := by
  have e1 : ∀ (k : List Ev), k.length ≤ i → (∀ e ∈ k, okE (e.t, e.r) = true) → evsB (dE k) = true := fun k hl hk => by
    unfold evsB
    rw [Bool.and_eq_true, decide_eq_true_eq, dE_len, List.all_eq_true]
    refine ⟨by omega, fun x hx => ?_⟩
    unfold dE at hx
    obtain ⟨y, hy, rfl⟩ := List.mem_map.1 hx
    exact hk y hy
  have e2 : ∀ (k : List Ev) (cols : List Int), (∀ e ∈ k, hasC e.r cols = true) → hasE (dE k) cols = true := fun k cols hk => by
    unfold hasE
    rw [List.all_eq_true]
    intro x hx
    unfold dE at hx
    obtain ⟨y, hy, rfl⟩ := List.mem_map.1 hx
    exact hk y hy
  unfold njE at hj
  unfold intE
  rw [e1 l h.ll fun e he => (h.lk e he).1, e1 r h.rl fun e he => (h.rk e he).1, e2 l on fun e he => (h.lk e he).2.1, e2 r others fun e he => (h.rk e he).2.1]
  split at hj
  · rename_i h1
    split at hj
    · rename_i h2
      rw [Bool.and_eq_true, Bool.and_eq_true] at h2
      rw [h1, h2.1, h2.2.1, h2.2.2]
      simp
    · cases hj
  · cases hj
theorem GvP.fin (h : GvP on others lo hi mk i L R F G l r g) {k : List Ev} (hk : dE k = srtG cmpE (pairsI on others lo hi (dE l) (dE r))) (hlim : limP (pairsI on others lo hi (dE l) (dE r)) = false) : sumT (g.map thC) = sumT (k.map eT) ∧ k.length ≤ 400 ∧ ∀ e ∈ k, okR e.r = true := by
  have hp : (dE k).Perm (pairsI on others lo hi (dE l) (dE r)) := by rw [hk]; exact (srtG_all Tot.te _).1
  unfold limP at hlim
  rw [Bool.or_eq_false_iff] at hlim
  have hlen : k.length ≤ 400 := by
    have h1 := hp.length_eq
    rw [dE_len] at h1
    have h2 := hlim.2
    simp at h2
    omega
  have hok : ∀ e ∈ dE k, okR e.2 = true := fun e he => by
    have h1 := hp.mem_iff.1 he
    have h2 := List.any_eq_false.1 hlim.1 e h1
    unfold pairsI at h1
    obtain ⟨a, ha, h3⟩ := List.mem_flatMap.1 h1
    unfold pairsOf at h3
    obtain ⟨b, hb, rfl⟩ := List.mem_map.1 h3
    have hb2 := (List.mem_filter.1 hb).1
    obtain ⟨a', ha', rfl⟩ := List.mem_map.1 (show a ∈ l.map fun i => (i.t, i.r) from ha)
    obtain ⟨b', hb', rfl⟩ := List.mem_map.1 (show b ∈ r.map fun i => (i.t, i.r) from hb2)
    unfold badP at h2
    have h2 : (a'.r ++ b'.r).length ≤ 8 := by simpa using h2
    exact okR_join (okE_row (h.lk a' ha').1) (okE_row (h.rk b' hb').1) h2
  refine ⟨?_, hlen, fun e he => hok (e.t, e.r) (List.mem_map.2 ⟨e, he, rfl⟩)⟩
  have h1 := gives_all (l := dE k) (eT_one l) (eT_one r) h.gs (fun x hx => by
    obtain ⟨y, hy, rfl⟩ := List.mem_map.1 hx
    exact (h.gk y hy).1.1) (by rw [eT_te, eT_te]; exact hp) hok
  rw [h1]
  unfold dE
  rw [List.map_map]
  rfl
end
end

section
open Go.RowKit
set_option linter.unusedVariables false
set_option linter.unusedSimpArgs false

theorem JO.quietE {w : World} {base b bL bR i : Nat} {s : JoS} {mk : Int} {fL fR : List UInt8 → List Hd} {SL SR : Nat → Prop} (h : JO w base b bL bR s mk i fL fR SL SR) : QuietE w (jP b bL bR SL SR) := fun k hk => by
  rcases hk with rfl | rfl | rfl | hk | hk
  · exact blk_not h.blk (by decide)
  · exact h.l.map_not _
  · exact h.r.map_not _
  · intro c fz e
    obtain ⟨_, _, c', fz', e'⟩ := h.l.typ hk
    rw [e'] at e
    injection e with e
    injection e with _ e
    exact absurd e (by decide)
  · intro c fz e
    obtain ⟨_, _, c', fz', e'⟩ := h.r.typ hk
    rw [e'] at e
    injection e with e
    injection e with _ e
    exact absurd e (by decide)
/-- No block of the joiner is of that type. -/
theorem JO.away {w : World} {base b bL bR i : Nat} {s : JoS} {mk : Int} {fL fR : List UInt8 → List Hd} {SL SR : Nat → Prop} (h : JO w base b bL bR s mk i fL fR SL SR) {k : Nat} {t : TypeId} {c : Array Value} {fz : Nat × Nat} (hk : w.heap[k]? = some (.cells c t fz)) (h1 : t ≠ 140) (h2 : t ≠ 144) : ¬ jP b bL bR SL SR k := by
  rintro (rfl | rfl | rfl | e | e)
  · have hb := h.blk
    unfold Blk at hb
    rw [hb] at hk
    injection hk with hk
    injection hk with _ hk
    exact h1 hk.symm
  · exact h.l.map_not _ _ _ hk
  · exact h.r.map_not _ _ _ hk
  · obtain ⟨_, _, c', fz', e'⟩ := h.l.typ e
    rw [e'] at hk
    injection hk with hk
    injection hk with _ hk
    exact h2 hk.symm
  · obtain ⟨_, _, c', fz', e'⟩ := h.r.typ e
    rw [e'] at hk
    injection hk with hk
    injection hk with _ hk
    exact h2 hk.symm
/-- Behind i acts: the joiner, the three lists, and what they tell. -/
def GvW (base b : Nat) (s : JoS) (i : Nat) (vl vr vg : Value) (W : World) : Prop :=
  ∃ bL bR mk fL fR SL SR L R l r g, JO W base b bL bR s mk i fL fR SL SR ∧ GvS W base vl vr vg l r g ∧ GvP s.on s.others s.lo s.hi mk i L R (mapT fL) (mapT fR) l r g
theorem GvW.below {base b i : Nat} {s : JoS} {vl vr vg : Value} {W W' : World} (h : GvW base b s i vl vr vg W) (hb : Below W.heap.size W W') : GvW base b s i vl vr vg W' := by
  obtain ⟨bL, bR, mk, fL, fR, SL, SR, L, R, l, r, g, h1, h2, h3⟩ := h
  exact ⟨bL, bR, mk, fL, fR, SL, SR, L, R, l, r, g, h1.below hb, h2.below hb, h3⟩
theorem GvW.slices {base b i : Nat} {s : JoS} {vl vr vg : Value} {W : World} (h : GvW base b s i vl vr vg W) : (∃ A n c, vl = .slice A n c) ∧ (∃ A n c, vr = .slice A n c) ∧ ∃ A n c, vg = .slice A n c := by
  obtain ⟨bL, bR, mk, fL, fR, SL, SR, L, R, l, r, g, h1, h2, h3⟩ := h
  obtain ⟨A, c, e, _⟩ := own_form h2.l.own
  obtain ⟨A2, c2, e2, _⟩ := own_form h2.r.own
  obtain ⟨A3, c3, e3, _⟩ := own_form h2.g.own
  exact ⟨⟨_, _, _, e⟩, ⟨_, _, _, e2⟩, ⟨_, _, _, e3⟩⟩
/-- got grows by what a call gave. -/
def GotJ (base b : Nat) (s : JoS) (i : Nat) (vl vr vg : Value) (A : Option Addr) (n c : Nat) (W : World) : Prop :=
  ∃ v' X', (Builtin.append_ #[67, 67] 67 #[vg, .slice A n c]).run Tryz.prog W = .ok v' X' ∧ GvW base b s i vl vr v' X' ∧ Below base W X'
theorem got_grows {base b i : Nat} {s : JoS} {bL bR : Nat} {mk : Int} {fL fR : List UInt8 → List Hd} {SL SR : Nat → Prop} {L R : List Th} {vl vr vg : Value} {l r : List Ev} {g k : List Ch} {A : Option Addr} {n c : Nat} {W : World}
    (h1 : JO W base b bL bR s mk i fL fR SL SR) (h2 : GvS W base vl vr vg l r g) (h3 : GvP s.on s.others s.lo s.hi mk i L R (mapT fL) (mapT fR) l r (g ++ k)) (hg : g.length ≤ 1000) (hk : Reads W W.heap.size 3 A n (k.flatMap encCh)) (hrows : RowsC W base k) (hn : n ≤ 1000) (hB : base ≤ W.heap.size) : GotJ base b s i vl vr vg A n c W := by
  obtain ⟨A0, c0, A', c', X', rfl, hrun, hoc, hf⟩ := ch_app (c2 := c) h2.g hk hrows hB (by omega) (by omega)
  have hq := h2.g.quiet2
  refine ⟨_, X', hrun, ⟨bL, bR, mk, fL, fR, SL, SR, L, R, l, r, g ++ k, h1.frq hf hq fun x hx => ?_, h2.putG hf hoc, h3⟩, hf.low (fun x hx => (hq x hx).1) hB⟩
  obtain ⟨cc, fz, hc⟩ := own_cells h2.g.own hx
  exact h1.away hc (by decide) (by decide)
theorem gl_1000 {g i : Nat} (h : 2 * g ≤ i * i) (hi : i ≤ 40) : g ≤ 800 := by
  have := Nat.mul_le_mul hi hi
  omega
/-- What the law does with the answer of Left. -/
theorem gv_left {base b i : Nat} {s : JoS} {vl vr vg : Value} (t : Int) (Ar : Option Addr) (nr cr : Nat) (x : Rw) (w : World) (h : GvW base b s i vl vr vg w) (hi : i < 40) (hbase : base ≤ w.heap.size) (hn1 : s.n1 ≤ 1000) (hn2 : s.n2 ≤ 1000) (hr : RowK w base Ar nr x) (hrc : nr ≤ cr) (ht : Tab w) :
    Calls Tryz.prog 38 #[.pointer (some ⟨b, 0, none⟩), .agg #[.int .i64 t, .slice Ar nr cr, .int .i64 1]] w (fun e W1 => ∃ A n cc E, e = .returned (.tuple #[.slice A n cc, .int .i64 E]) ∧ Below base w W1 ∧ KeepC w W1 ∧
      (E ≠ 0 → GotJ base b s (i + 1) vl vr vg A n cc W1) ∧
      (E = 0 → ∃ A0 n0 c0 A' c' X', vl = .slice A0 n0 c0 ∧ (Builtin.append_ #[25, 25] 25 #[.slice A0 n0 c0, .slice (some ⟨W1.heap.size, 0, none⟩) 1 1]).run Tryz.prog (W1.alloc (.cells #[.int .i64 t, .slice Ar nr cr] 36)) = .ok (.slice A' (n0 + 1) c') X' ∧
        Below base W1 X' ∧ GotJ base b s (i + 1) (.slice A' (n0 + 1) c') vr vg A n cc X')) := by
  obtain ⟨bL, bR, mk, fL, fR, SL, SR, L, R, l, r, g, h1, h2, h3⟩ := h
  refine (jLeft_any t Ar nr cr x 1 w h1 h3.jst (by omega) (by omega) hbase hn1 hn2 (hr.mono hbase) hrc ht (by omega)).mono ?_
  rintro e W1 ⟨A, n, cc, lst, E, rfl, hE, hnc, hfr, hne, h0⟩
  have hbW1 : Below base w W1 := hfr.lows h1.quiet hbase
  have hbase1 := Nat.le_trans hbase hbW1.size
  have h2' := h2.frp hfr h1.quiet h1.quietE
  have hgl := gl_1000 h3.gl (by omega)
  refine ⟨A, n, cc, E, rfl, hbW1, .of_frp hfr h1.quiet, fun hz => ?_, fun hz => ?_⟩
  · obtain ⟨rfl, hjo⟩ := hne hz
    have hn0 : n = 0 := by simpa using (hnc.rd.len encCh_len (by omega)).symm
    exact got_grows (k := []) (hjo.mono (by omega)) h2' (by rw [List.append_nil]; exact h3.more) (by omega) hnc.rd hnc.rows (by omega) hbase1
  · subst hz
    obtain ⟨hperm, hasc, fL', fR', SL', SR', hjo, hfl, hfr2⟩ := h0 rfl
    have hE' := hE.symm
    unfold ownJ othF at hE' hperm
    simp only [if_true] at hE' hperm hfl hfr2
    rw [tl_eq (left := true) h3.jst.jr h3.jst.br h3.jst.n] at hE'
    have hok := (jn_zero hE').1
    have hp2 := hperm.trans (raw_perm (left := true) (lo := s.lo) (hi := s.hi) h3.jst.jr h3.jst.br h3.jst.n (okCh_at hok).1)
    have hP := h3.left (by omega) (A := Ar) (n := nr) (c := cr) hE' hp2 (fun y hy => (hnc.rows y hy).len) hrc
    have hlen : lst.length ≤ 40 := by
      have h5 := (gk_add h3.jst.br (by omega) hE' hp2 fun y hy => (hnc.rows y hy).len).1
      omega
    have hn : lst.length = n := hnc.rd.len encCh_len (by omega)
    obtain ⟨A0, c0, A', c', X', hv, hrun, hov, hf, hvo⟩ := ev_app ⟨t, Ar, nr, cr, x⟩ h2'.l (hr.frp hfr h1.quiet) hbase1 (by have := h3.ll; omega)
    have hq := h2'.l.quiet
    have hlow := hf.lows hq hbase1
    have hncX : NC X' w.heap.size base A n lst := hnc.frp hf hq fun k hk => by
      have := (h2.l.own.lt k hk).2
      exact this
    refine ⟨A0, _, c0, A', c', X', hv, hrun, hlow, ?_⟩
    have hjX : JO X' base b bL bR s mk (i + 1) fL' fR' SL' SR' := hjo.frp hf hq fun k hk => by
      obtain ⟨c2, fz, hc⟩ := own_cells h2'.l.own hk
      exact hjo.away hc (by decide) (by decide)
    rw [← hfl, ← hfr2] at hP
    exact got_grows hjX (h2'.putL hf hov hvo) hP (by omega) hncX.rd hncX.rows (by omega) (Nat.le_trans hbase1 hlow.size)
/-- What the law does with the answer of Right. -/
theorem gv_right {base b i : Nat} {s : JoS} {vl vr vg : Value} (t : Int) (Ar : Option Addr) (nr cr : Nat) (x : Rw) (w : World) (h : GvW base b s i vl vr vg w) (hi : i < 40) (hbase : base ≤ w.heap.size) (hn1 : s.n1 ≤ 1000) (hn2 : s.n2 ≤ 1000) (hr : RowK w base Ar nr x) (hrc : nr ≤ cr) (ht : Tab w) :
    Calls Tryz.prog 39 #[.pointer (some ⟨b, 0, none⟩), .agg #[.int .i64 t, .slice Ar nr cr, .int .i64 1]] w (fun e W1 => ∃ A n cc E, e = .returned (.tuple #[.slice A n cc, .int .i64 E]) ∧ Below base w W1 ∧ KeepC w W1 ∧
      (E ≠ 0 → GotJ base b s (i + 1) vl vr vg A n cc W1) ∧
      (E = 0 → ∃ A0 n0 c0 A' c' X', vr = .slice A0 n0 c0 ∧ (Builtin.append_ #[25, 25] 25 #[.slice A0 n0 c0, .slice (some ⟨W1.heap.size, 0, none⟩) 1 1]).run Tryz.prog (W1.alloc (.cells #[.int .i64 t, .slice Ar nr cr] 36)) = .ok (.slice A' (n0 + 1) c') X' ∧
        Below base W1 X' ∧ GotJ base b s (i + 1) vl (.slice A' (n0 + 1) c') vg A n cc X')) := by
  obtain ⟨bL, bR, mk, fL, fR, SL, SR, L, R, l, r, g, h1, h2, h3⟩ := h
  refine (jRight_any t Ar nr cr x 1 w h1 h3.jst (by omega) (by omega) hbase hn1 hn2 (hr.mono hbase) hrc ht (by omega)).mono ?_
  rintro e W1 ⟨A, n, cc, lst, E, rfl, hE, hnc, hfr, hne, h0⟩
  have hbW1 : Below base w W1 := hfr.lows h1.quiet hbase
  have hbase1 := Nat.le_trans hbase hbW1.size
  have h2' := h2.frp hfr h1.quiet h1.quietE
  have hgl := gl_1000 h3.gl (by omega)
  refine ⟨A, n, cc, E, rfl, hbW1, .of_frp hfr h1.quiet, fun hz => ?_, fun hz => ?_⟩
  · obtain ⟨rfl, hjo⟩ := hne hz
    have hn0 : n = 0 := by simpa using (hnc.rd.len encCh_len (by omega)).symm
    exact got_grows (k := []) (hjo.mono (by omega)) h2' (by rw [List.append_nil]; exact h3.more) (by omega) hnc.rd hnc.rows (by omega) hbase1
  · subst hz
    obtain ⟨hperm, hasc, fL', fR', SL', SR', hjo, hfl, hfr2⟩ := h0 rfl
    have hE' := hE.symm
    unfold ownJ othF at hE' hperm
    simp only [Bool.false_eq_true, if_false] at hE' hperm hfl hfr2
    rw [tl_eq (left := false) h3.jst.jl h3.jst.bl h3.jst.n.symm] at hE'
    have hok := (jn_zero hE').1
    have hp2 := hperm.trans (raw_perm (left := false) (lo := s.lo) (hi := s.hi) h3.jst.jl h3.jst.bl h3.jst.n.symm (okCh_at hok).1)
    have hP := h3.right (by omega) (A := Ar) (n := nr) (c := cr) hE' hp2 (fun y hy => (hnc.rows y hy).len) hrc
    have hlen : lst.length ≤ 40 := by
      have h5 := (gk_add h3.jst.bl (by omega) hE' hp2 fun y hy => (hnc.rows y hy).len).1
      omega
    have hn : lst.length = n := hnc.rd.len encCh_len (by omega)
    obtain ⟨A0, c0, A', c', X', hv, hrun, hov, hf, hvo⟩ := ev_app ⟨t, Ar, nr, cr, x⟩ h2'.r (hr.frp hfr h1.quiet) hbase1 (by have := h3.rl; omega)
    have hq := h2'.r.quiet
    have hlow := hf.lows hq hbase1
    have hncX : NC X' w.heap.size base A n lst := hnc.frp hf hq fun k hk => by
      have := (h2.r.own.lt k hk).2
      exact this
    refine ⟨A0, _, c0, A', c', X', hv, hrun, hlow, ?_⟩
    have hjX : JO X' base b bL bR s mk (i + 1) fL' fR' SL' SR' := hjo.frp hf hq fun k hk => by
      obtain ⟨c2, fz, hc⟩ := own_cells h2'.r.own hk
      exact hjo.away hc (by decide) (by decide)
    rw [← hfl, ← hfr2] at hP
    exact got_grows hjX (h2'.putR hf hov hvo) hP (by omega) hncX.rd hncX.rows (by omega) (Nat.le_trans hbase1 hlow.size)
/-- .. and of Mark. -/
theorem gv_mark {base b i : Nat} {s : JoS} {vl vr vg : Value} (m : Int) (w : World) (h : GvW base b s i vl vr vg w) (hi : i < 40) (hbase : base ≤ w.heap.size) (hlo : -1000000000 ≤ s.lo ∧ s.lo ≤ 1000000000) (hhi : -1000000000 ≤ s.hi ∧ s.hi ≤ 1000000000) :
    Calls Tryz.prog 40 #[.pointer (some ⟨b, 0, none⟩), .int .i64 m] w (fun e W1 => ∃ E, e = .returned (.tuple #[.slice none 0 0, .int .i64 E]) ∧ Below base w W1 ∧ GotJ base b s (i + 1) vl vr vg none 0 0 W1) := by
  obtain ⟨bL, bR, mk, fL, fR, SL, SR, L, R, l, r, g, h1, h2, h3⟩ := h
  refine (jMark_any m w h1 h3.jst (by omega) (by omega) hbase hlo hhi).mono ?_
  rintro e W1 ⟨E, rfl, hE, hfr, hne, h0⟩
  have hbW1 : Below base w W1 := hfr.lows h1.quiet hbase
  have hbase1 := Nat.le_trans hbase hbW1.size
  have h2' := h2.frp hfr h1.quiet h1.quietE
  have hgl := gl_1000 h3.gl (by omega)
  refine ⟨E, rfl, hbW1, ?_⟩
  by_cases hz : E = 0
  · obtain ⟨fL', fR', SL', SR', hjo, hfl, hfr2⟩ := h0 hz
    have hm : mk ≤ m := by
      rw [hz] at hE
      unfold mkE at hE
      split at hE
      · rename_i h5; exact (btw_iff.1 h5).1
      · cases hE
    have hP := h3.mark hm
    rw [← hfl, ← hfr2] at hP
    exact got_grows (k := []) (hjo.mono (by omega)) h2' (by rw [List.append_nil]; exact hP) (by omega) ⟨rfl, nofun⟩ (by intro i hi; cases hi) (by omega) hbase1
  · exact got_grows (k := []) ((hne hz).mono (by omega)) h2' (by rw [List.append_nil]; exact h3.more) (by omega) ⟨rfl, nofun⟩ (by intro i hi; cases hi) (by omega) hbase1
end

end Go.Proofs.YtoapjidpfghnlaaGreatDoor
