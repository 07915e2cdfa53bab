/-
  Joiners as plain data: both sides at once, and what a change gives on either side of the law. No program in sight; no condition.
  Numbers in a block of numbers, their clone; own rows behind writes to other blocks. (Out of XVtN, so that a text can have them without the version joins: the two are never imported together.) No condition.
  Joiners in memory: the program's and the reference's, and what a call may turn. No condition.
  An own list of changes grows by one; bounds of numbers told. No condition.
-/
import Derived.Test.YtoapjidpfghnlaaGreatDoorJnM
import Derived.Test.YtoapjidpfghnlaaGreatDoorGb
import Derived.Test.YtoapjidpfghnlaaGreatDoorBgP2
import Derived.Test.YtoapjidpfghnlaaGreatDoorRngH
import Derived.Test.YtoapjidpfghnlaaGreatDoorJnP
import Derived.Test.YtoapjidpfghnlaaGreatDoorBgL
namespace Go.Proofs.YtoapjidpfghnlaaGreatDoor

section
open Go.RowKit
set_option linter.unusedVariables false
set_option linter.unusedSimpArgs false

/-- What a change of a side gives, out of the list of its key: unsorted. -/
def rawJ (left : Bool) (own : List Int) (lo hi : Int) (c : Th) (g : List Th) : List Th :=
  (if nonul (pick c.r own) then g.filter (fun x => btw (dtT left c x) lo hi) else []).map (jnT left c)
def tlE (left : Bool) (own : List Int) (lo hi mk : Int) (c : Th) (g : List Th) : Int :=
  if okCh c.t c.r c.m then (if hasC c.r own then (if c.t < mk then 12 else (if (rawJ left own lo hi c g).any badJ then 4 else 0)) else 7) else 1
theorem any_perm {α : Type} {p : α → Bool} {a b : List α} (h : a.Perm b) : a.any p = b.any p := by
  rw [Bool.eq_iff_iff, List.any_eq_true, List.any_eq_true]
  exact ⟨fun ⟨x, h1, h2⟩ => ⟨x, h.mem_iff.1 h1, h2⟩, fun ⟨x, h1, h2⟩ => ⟨x, h.mem_iff.2 h1, h2⟩⟩
theorem raw_perm {left : Bool} {own oth : List Int} {lo hi : Int} {c : Th} {L : List Th} {f : List UInt8 → List Th} {q : Nat} (h : JOk oth L f) (hb : BdT oth q L) (hn : own.length = oth.length) (hc : okR c.r = true) :
    (rawJ left own lo hi c (f (keyJ own c.r))).Perm (jnL left own oth lo hi c L) :=
  jn_at h hn hc fun x hx => ⟨(hb.ok x hx).1, (hb.ok x hx).2.1⟩
theorem tl_eq {left : Bool} {own oth : List Int} {lo hi mk : Int} {c : Th} {L : List Th} {f : List UInt8 → List Th} {q : Nat} (h : JOk oth L f) (hb : BdT oth q L) (hn : own.length = oth.length) :
    tlE left own lo hi mk c (f (keyJ own c.r)) = jnE left own oth lo hi mk c L := by
  unfold tlE jnE
  by_cases hc : okCh c.t c.r c.m = true
  · rw [any_perm (raw_perm (left := left) (lo := lo) (hi := hi) h hb hn (okCh_at hc).1)]
  · rw [if_neg hc, if_neg hc]
theorem jn_zero {left : Bool} {own oth : List Int} {lo hi mk : Int} {c : Th} {L : List Th} (h : jnE left own oth lo hi mk c L = 0) :
    okCh c.t c.r c.m = true ∧ hasC c.r own = true ∧ mk ≤ c.t ∧ (jnL left own oth lo hi c L).any badJ = false := by
  unfold jnE at h
  split at h
  · rename_i h1
    split at h
    · rename_i h2
      split at h
      · cases h
      · split at h
        · cases h
        · rename_i h3 h4
          exact ⟨h1, h2, by omega, by simpa using h4⟩
    · cases h
  · cases h
theorem okR_join {a b : Rw} (ha : okR a = true) (hb : okR b = true) (hl : (a ++ b).length ≤ 8) : okR (a ++ b) = true := by
  unfold okR at ha hb ⊢
  rw [Bool.and_eq_true, decide_eq_true_eq] at ha hb ⊢
  refine ⟨?_, hl⟩
  rw [List.all_append, ha.1, hb.1]
  rfl
theorem jn_ok {left : Bool} {own oth : List Int} {lo hi mk : Int} {c : Th} {L : List Th} {q : Nat} (hb : BdT oth q L) (h : jnE left own oth lo hi mk c L = 0) : ∀ x ∈ jnL left own oth lo hi c L, okR x.r = true := by
  obtain ⟨h1, h2, h3, h4⟩ := jn_zero h
  intro x hx
  have h5 := List.any_eq_false.1 h4 x hx
  unfold jnL at hx
  obtain ⟨y, hy, rfl⟩ := List.mem_map.1 hx
  have hy := (List.mem_filter.1 hy).1
  have k1 := (okCh_at h1).1
  have k2 := (hb.ok y hy).1
  unfold badJ at h5
  have h5 : (jnT left c y).r.length ≤ 8 := by simpa using h5
  unfold jnT at h5 ⊢
  cases left
  · exact okR_join k2 k1 h5
  · exact okR_join k1 k2 h5
/-- Both sides. -/
structure JSt (on others : List Int) (q : Nat) (L R : List Th) (fL fR : List UInt8 → List Th) : Prop where
  n : on.length = others.length
  jl : JOk on L fL
  jr : JOk others R fR
  bl : BdT on q L
  br : BdT others q R
def putF' (own : List Int) (f : List UInt8 → List Th) (c : Th) : List UInt8 → List Th := fun q => if q = keyJ own c.r then putT (f q) c else f q
section
variable {on others : List Int} {q : Nat} {L R : List Th} {fL fR : List UInt8 → List Th}
theorem JSt.nil (hn : on.length = others.length) : JSt on others 0 [] [] (fun _ => []) (fun _ => []) := ⟨hn, JOk.nil _, JOk.nil _, BdT.nil _, BdT.nil _⟩
theorem JSt.more (h : JSt on others q L R fL fR) : JSt on others (q + 1) L R fL fR := ⟨h.n, h.jl, h.jr, h.bl.mono (by omega), h.br.mono (by omega)⟩
theorem JSt.left (h : JSt on others q L R fL fR) {c : Th} (hc : okCh c.t c.r c.m = true) (hh : hasC c.r on = true) (h1 : -100 ≤ c.m) (h2 : c.m ≤ 100) : JSt on others (q + 1) (keptT L c) R (putF' on fL c) fR :=
  ⟨h.n, h.jl.put (okCh_at hc).2.1, h.jr, h.bl.kept hc hh h1 h2, h.br.mono (by omega)⟩
theorem JSt.right (h : JSt on others q L R fL fR) {c : Th} (hc : okCh c.t c.r c.m = true) (hh : hasC c.r others = true) (h1 : -100 ≤ c.m) (h2 : c.m ≤ 100) : JSt on others (q + 1) L (keptT R c) fL (putF' others fR c) :=
  ⟨h.n, h.jl, h.jr.put (okCh_at hc).2.1, h.bl.mono (by omega), h.br.kept hc hh h1 h2⟩
theorem JSt.mark (h : JSt on others q L R fL fR) (p p' : Th → Bool) : JSt on others (q + 1) (L.filter p) (R.filter p') (fun k => (fL k).filter p) (fun k => (fR k).filter p') :=
  ⟨h.n, h.jl.keep p, h.jr.keep p', (h.bl.filter p).mono (by omega), (h.br.filter p').mono (by omega)⟩
end
/-- Sums of what both give. -/
theorem sums_eq {left : Bool} {own oth : List Int} {lo hi mk : Int} {c : Th} {L : List Th} {f : List UInt8 → List Th} {q : Nat} (h : JOk oth L f) (hb : BdT oth q L) (hn : own.length = oth.length) (h0 : jnE left own oth lo hi mk c L = 0) {out : List Th} (ho : out.Perm (rawJ left own lo hi c (f (keyJ own c.r)))) :
    sumT out = sumT (sumT (jnL left own oth lo hi c L)) := by
  have hk := jn_ok hb h0
  have hp := ho.trans (raw_perm (left := left) (lo := lo) (hi := hi) h hb hn (okCh_at (jn_zero h0).1).1)
  rw [sumT_sum hk]
  exact sumT_perm hp fun x hx => hk x (hp.mem_iff.1 hx)
/-- What ascends by row and time ascends by row. -/
theorem rise_at {l : List Th} (h : l.Pairwise fun x y => ¬ cmpT y x < 0) : l.Pairwise fun x y => ¬ 0 < cmpR x.r y.r := by
  refine h.imp fun {x y} hxy h2 => hxy ?_
  have h3 := Tot.row.anti x.r y.r
  unfold cmpT thenC
  rw [if_neg (by omega)]
  omega
/-- How much is told at a key. -/
theorem JOk.len {cols : List Int} {L : List Th} {f : List UInt8 → List Th} (h : JOk cols L f) (k : List UInt8) : (f k).length ≤ L.length := by
  rw [(h.2 k).length_eq]
  exact List.length_filter_le _ _
theorem JOk.mem {cols : List Int} {L : List Th} {f : List UInt8 → List Th} (h : JOk cols L f) {k : List UInt8} {x : Th} (hx : x ∈ f k) : x ∈ L := (List.mem_filter.1 ((h.2 k).mem_iff.1 hx)).1

/-! The reference's PutChange, step by step. -/
theorem same_cmp {x c : Th} (hx : okR x.r = true) (hc : okR c.r = true) : sameT x c = (decide (cmpR c.r x.r = 0) && decide (c.t = x.t)) := by
  unfold sameT
  rw [Bool.and_comm]
  congr 1
  · rw [decide_eq_decide]
    exact ⟨fun h => by rw [h]; exact Tot.row.self _, fun h => (okR_eq hc hx h).symm⟩
  · rw [decide_eq_decide]
    exact ⟨Eq.symm, Eq.symm⟩
theorem cmp_lt {c x : Th} : cmpT c x < 0 ↔ cmpR c.r x.r < 0 ∨ (cmpR c.r x.r = 0 ∧ c.t < x.t) := by
  unfold cmpT thenC cmpI
  by_cases h : cmpR c.r x.r = 0
  · rw [if_pos h]
    by_cases h2 : c.t < x.t
    · rw [if_pos h2]; simp [h, h2]
    · rw [if_neg h2]
      simp only [h, h2]
      split <;> simp
  · rw [if_neg h]
    simp [h]
def doneB (c : Th) (g : List Th) : Bool := g.any fun x => decide (cmpT c x < 0)
theorem insT_done {c : Th} (y : Th) : ∀ {g : List Th}, doneB c g = true → insT c (g ++ [y]) = insT c g ++ [y]
  | [], h => by cases h
  | x :: g, h => by
    rw [List.cons_append, insT, insT]
    by_cases hx : cmpT c x < 0
    · rw [if_pos hx, if_pos hx]; rfl
    · rw [if_neg hx, if_neg hx, insT_done y (by unfold doneB at h ⊢; rw [List.any_cons] at h; simpa [hx] using h)]; rfl
theorem insT_here {c y : Th} (hy : cmpT c y < 0) : ∀ {g : List Th}, doneB c g = false → insT c (g ++ [y]) = g ++ [c, y]
  | [], _ => by rw [List.nil_append, insT, if_pos hy]; rfl
  | x :: g, h => by
    unfold doneB at h
    rw [List.any_cons, Bool.or_eq_false_iff] at h
    have hx : ¬ cmpT c x < 0 := by simpa using h.1
    rw [List.cons_append, insT, if_neg hx, insT_here hy h.2]; rfl
/-- Behind the list l: the number, whether the change is in, and what is out. -/
structure Pc1 (c : Th) (l : List Th) (N : Int) (d : Bool) (o : List Th) : Prop where
  n : N = c.m + smT c l
  dn : d = doneB c (l.filter fun h => !sameT h c)
  ou : ∃ m0, o = if d then insT (c.of m0) (l.filter fun h => !sameT h c) else l.filter fun h => !sameT h c
section
variable {c x : Th} {l o : List Th} {N : Int} {d : Bool}
theorem Pc1.nil (c : Th) : Pc1 c [] c.m false [] := ⟨by simp [smT], rfl, 0, rfl⟩
theorem Pc1.same (h : Pc1 c l N d o) (hs : sameT x c = true) : Pc1 c (l ++ [x]) (N + x.m) d o := by
  have e : (l ++ [x]).filter (fun h => !sameT h c) = l.filter fun h => !sameT h c := by
    rw [List.filter_append, List.filter_cons_of_neg (by simp [hs])]; simp
  refine ⟨?_, by rw [e]; exact h.dn, by rw [e]; exact h.ou⟩
  rw [smT_app, h.n, smT, smT, hs, if_pos rfl]
  omega
theorem filt_snoc (hs : sameT x c = false) : (l ++ [x]).filter (fun h => !sameT h c) = (l.filter fun h => !sameT h c) ++ [x] := by
  rw [List.filter_append, List.filter_cons_of_pos (by simp [hs])]; rfl
theorem sm_snoc (hs : sameT x c = false) : smT c (l ++ [x]) = smT c l := by
  rw [smT_app, smT, smT, hs, if_neg (by decide)]
  omega
theorem Pc1.far (h : Pc1 c l N d o) (hs : sameT x c = false) (hx : d = true ∨ ¬ cmpT c x < 0) : Pc1 c (l ++ [x]) N d (o ++ [x]) := by
  have hd := h.dn
  obtain ⟨m0, ho⟩ := h.ou
  refine ⟨by rw [sm_snoc hs]; exact h.n, ?_, m0, ?_⟩
  · rw [filt_snoc hs]
    unfold doneB at hd ⊢
    rw [List.any_append, ← hd]
    rcases hx with e | e
    · rw [e]; rfl
    · simp [e]
  · rw [filt_snoc hs, ho]
    cases d
    · rfl
    · simp only [if_true]
      exact (insT_done (c := c.of m0) x hd.symm).symm
theorem Pc1.here (h : Pc1 c l N false o) (hs : sameT x c = false) (hx : cmpT c x < 0) : Pc1 c (l ++ [x]) N true (o ++ [c.of N, x]) := by
  have hd := h.dn
  obtain ⟨m0, ho⟩ := h.ou
  refine ⟨by rw [sm_snoc hs]; exact h.n, ?_, N, ?_⟩
  · rw [filt_snoc hs]
    unfold doneB
    rw [List.any_append]
    simp [hx]
  · rw [filt_snoc hs, ho]
    simp only [if_true, Bool.false_eq_true, if_false]
    exact (insT_here (c := c.of N) hx hd.symm).symm
def finO (c : Th) (N : Int) (d : Bool) (o : List Th) : List Th := if d then o else o ++ [c.of N]
theorem Pc1.fin (h : Pc1 c l N d o) : ∃ m0, finO c N d o = insT (c.of m0) (l.filter fun h => !sameT h c) := by
  have hd := h.dn
  obtain ⟨m0, ho⟩ := h.ou
  unfold finO
  cases d
  · refine ⟨N, ?_⟩
    simp only [Bool.false_eq_true, if_false] at ho ⊢
    rw [ho]
    refine (insT_end (c := c.of N) fun x hx => ?_).symm
    have h1 := List.any_eq_false.1 hd.symm x hx
    have h2 : ¬ cmpT c x < 0 := by simpa using h1
    exact h2
  · exact ⟨m0, by simpa using ho⟩
def fixT (c : Th) (N : Int) (x : Th) : Th := if sameT x c then x.of N else x
theorem fix_ins (c : Th) (m0 N : Int) : ∀ {g : List Th}, (∀ x ∈ g, sameT x c = false) → (insT (c.of m0) g).map (fixT c N) = insT (c.of N) g
  | [], _ => by
    have : fixT c N (c.of m0) = c.of N := by unfold fixT; rw [of_same, sameT_refl, if_pos rfl]; rfl
    simp [insT, this]
  | x :: g, h => by
    have hx : fixT c N x = x := by unfold fixT; rw [h x (by simp), if_neg (by decide)]
    have hc : fixT c N (c.of m0) = c.of N := by unfold fixT; rw [of_same, sameT_refl, if_pos rfl]; rfl
    have hg : g.map (fixT c N) = g := by
      rw [List.map_congr_left (g := id) fun y hy => ?_, List.map_id]
      unfold fixT; rw [h y (List.mem_cons_of_mem _ hy), if_neg (by decide)]; rfl
    have e : cmpT (c.of m0) x = cmpT (c.of N) x := rfl
    rw [insT, insT, e]
    split
    · rw [List.map_cons, List.map_cons, hc, hx, hg]
    · rw [List.map_cons, hx, fix_ins c m0 N fun y hy => h y (List.mem_cons_of_mem _ hy)]
theorem Pc1.put (h : Pc1 c l N d o) : ((finO c N d o).map (fixT c N)).filter (fun h => decide (h.m ≠ 0)) = putC l c := by
  obtain ⟨m0, e⟩ := h.fin
  rw [e, fix_ins c m0 N fun x hx => by simpa using (List.mem_filter.1 hx).2]
  unfold putC
  rw [h.n]
end

/-! Counting while a map is ranged over. -/
def cntJ (cols : List Int) (L : List Th) (left : Lit → Bool) : Nat := (L.filter fun h => !left (.string (keyJ cols h.r))).length
theorem filt_or {p q r : Th → Bool} (h : ∀ x, r x = (p x || q x)) (hd : ∀ x, p x = true → q x = false) : ∀ L : List Th, (L.filter r).length = (L.filter p).length + (L.filter q).length
  | [] => rfl
  | x :: L => by
    have ih := filt_or h hd L
    rw [List.filter_cons, List.filter_cons, List.filter_cons, h x]
    cases hp : p x
    · cases hq : q x <;> simp [ih] <;> omega
    · rw [hd x hp]; simp [ih]; omega
section
variable {cols : List Int} {L : List Th} {f : List UInt8 → List Th} {left : Lit → Bool}
theorem cnt_start (h : JOk cols L f) (hl : ∀ q, left (.string q) = false → f q = []) : cntJ cols L left = 0 := by
  unfold cntJ
  rw [List.length_eq_zero_iff, List.filter_eq_nil_iff]
  intro x hx
  cases hq : left (.string (keyJ cols x.r))
  · have h1 := hl _ hq
    have h2 := (h.2 (keyJ cols x.r)).mem_iff.2 (List.mem_filter.2 ⟨hx, by simp⟩)
    rw [h1] at h2
    cases h2
  · simp
theorem cnt_step (h : JOk cols L f) {q : List UInt8} (hq : left (.string q) = true) : cntJ cols L (fun x => left x && !x.sameKey (.string q)) = cntJ cols L left + (f q).length := by
  unfold cntJ
  rw [(h.2 q).length_eq]
  refine filt_or (fun x => ?_) (fun x hx => ?_) L
  · by_cases e : keyJ cols x.r = q
    · simp [Lit.sameKey, e]
    · simp [Lit.sameKey, e]
  · by_cases e : keyJ cols x.r = q
    · rw [e, hq] at hx; cases hx
    · simp [e]
theorem cnt_end (hl : ∀ kl, left kl = false) : cntJ cols L left = L.length := by
  unfold cntJ
  rw [List.filter_eq_self.2 fun x _ => by rw [hl]; rfl]
end
end

section
open Go.RowKit
attribute [local go_sem] Oper.semAt_some wide_fn wide_depth
set_option linter.unusedVariables false
set_option linter.unusedSimpArgs false

/-- Numbers that read, in a block of numbers. -/
structure IntK (W : World) (A : Option Addr) (n : Nat) (xs : List Int) : Prop where
  rd : Reads W W.heap.size 1 A n (xs.map (Value.int .i64))
  at_ : 0 < n → ∀ b off m, A = some ⟨b, off, m⟩ → ∃ c fz, W.heap[b]? = some (.cells c 3 fz)
theorem IntK.below {W W' : World} {A : Option Addr} {n : Nat} {xs : List Int} (h : IntK W A n xs) (hb : Below W.heap.size W W') : IntK W' A n xs :=
  ⟨h.rd.up hb, fun h0 b off m e => by
    obtain ⟨c, fz, h1⟩ := h.at_ h0 b off m e
    exact ⟨c, fz, by rw [hb.block b (Array.getElem?_eq_some_iff.1 h1).1]; exact h1⟩⟩
theorem IntK.bar {W W' : World} {A : Option Addr} {n : Nat} {xs : List Int} {Xs : List Nat} (h : IntK W A n xs) (hb : Bar W.heap.size Xs W W') (hX : ∀ x ∈ Xs, ∀ c fz, W.heap[x]? ≠ some (.cells c 3 fz)) : IntK W' A n xs := by
  have hne : 0 < n → ∀ b off m, A = some ⟨b, off, m⟩ → b ∉ Xs := fun h0 b off m e hx => by
    obtain ⟨c, fz, h1⟩ := h.at_ h0 b off m e
    exact hX b hx c fz h1
  refine ⟨⟨h.rd.1, fun h0 => ?_⟩, fun h0 b off m e => ?_⟩
  · obtain ⟨b, off, e, hlt, hc⟩ := h.rd.2 h0
    refine ⟨b, off, e, Nat.lt_of_lt_of_le hlt hb.size, fun j u hu => ?_⟩
    rw [World.cell?_of_block (hb.block b hlt (hne h0 b off none e))]
    exact hc j u hu
  · obtain ⟨c, fz, h1⟩ := h.at_ h0 b off m e
    exact ⟨c, fz, by rw [hb.block b (Array.getElem?_eq_some_iff.1 h1).1 (hne h0 b off m e)]; exact h1⟩
theorem IntK.of_own {W : World} {base c n : Nat} {A : Option Addr} {xs : List Int} (h : W.ownsRow base 3 1 (.slice A n c) n (xs.map (Value.int .i64))) : IntK W A n xs :=
  ⟨Reads.of_own h, fun h0 b off m e => by
    obtain ⟨g, cap, hv, _⟩ := h.form h0
    have hA : A = some ⟨g, 0, none⟩ := by injection hv
    rw [hA] at e
    injection e with e
    injection e with e1
    subst e1
    subst hA
    exact own_cells h (g := g) rfl⟩
def RetInK (w : World) (n : Nat) (xs : List Int) (e : Ending) (w' : World) : Prop := ∃ A' c', e = .returned (.slice A' n c') ∧ IntK w' A' n xs ∧ Below w.heap.size w w'
theorem infoInt9 : (Tryz.prog.info? 3).map (fun i => (i.zero, i.size, i.bytes)) = some (some (.int .i64 0), 1, 8) := by kernel_rfl
set_option maxRecDepth 100000 in
set_option maxHeartbeats 2000000 in
theorem CloneK_any (A : Option Addr) (n c : Nat) (xs : List Int) (w : World) (hx : Reads w w.heap.size 1 A n (xs.map (Value.int .i64))) (hn : n ≤ 1000) :
    Calls Tryz.prog 101 #[.slice A n c] w (RetInK w n xs) := by
  obtain ⟨i0, hi, hz0, hz1, hz2⟩ := info_parts3 infoInt9
  cases A with
  | none =>
    have hn0 : n = 0 := by
      rcases Nat.eq_zero_or_pos n with h | h
      · exact h
      · obtain ⟨b, off, e, _⟩ := hx.2 h
        cases e
    subst hn0
    have hq := fun w => run_eql_slice_nil (P := Tryz.prog) w 22 3 none 0 c Tryz.underlying22
    go_enter Tryz.func101, Tryz.ntmps101
    go_wp2
    go_ret
    exact ⟨none, _, rfl, ⟨hx, fun h => absurd h (Nat.lt_irrefl _)⟩, Below.refl _ _⟩
  | some a =>
    have hlit := own_lit w 3 1 0 #[] rfl (by unfold maxLen; omega) (Nat.le_refl w.heap.size)
    have hB0 := below_val (w := w) #[] 3
    have hrd := hx.alloc (Nat.le_refl _) (.cells #[] 3)
    clear hx
    have hq := fun w => run_eql_slice_nil (P := Tryz.prog) w 22 3 (some a) n c Tryz.underlying22
    go_enter Tryz.func101, Tryz.ntmps101
    go_wp2_with (at_builtin; refine wpList_append_any _ rfl _ _ 22 rfl w.heap.size 3 i0 _ 1 8 Tryz.underlying22 hi hz0 hz1 hz2 rfl (by decide) (.slice (some ⟨w.heap.size, 0, none⟩) 0 0) 0 [] rfl hlit w.heap.size (some a) n c (xs.map (Value.int .i64)) rfl hrd (by intro u hu; obtain ⟨y, _, rfl⟩ := List.mem_map.1 hu; rfl) (by unfold maxLen; omega) (by omega) (by simp) ?_; intro v' W1 hown hgrow _; rw [Nat.zero_add, List.nil_append] at hown)
    have hB1 : Below w.heap.size w W1 := below_append hB0 hlit (by simp) hgrow
    obtain ⟨A', c', rfl, hR⟩ := own_form hown
    go_ret
    exact ⟨A', c', rfl, IntK.of_own hown, hB1⟩
/-- Blocks that may be written while rows and numbers stay. -/
def XsOk (W : World) (B : Nat) (Xs : List Nat) : Prop := ∀ x ∈ Xs, B ≤ x ∧ (∀ c fz, W.heap[x]? ≠ some (.cells c 102 fz)) ∧ ∀ c fz, W.heap[x]? ≠ some (.cells c 3 fz)
theorem blk_not {W : World} {b : Nat} {t t' : TypeId} {cs : Array Value} (h : Blk W b t cs) (hne : t ≠ t') : ∀ c fz, W.heap[b]? ≠ some (.cells c t' fz) := fun c fz hc => by
  rw [show W.heap[b]? = _ from h] at hc
  injection hc with hc
  injection hc with _ h2
  exact hne h2
theorem own_not {W : World} {base k : Nat} {e t' : TypeId} {size : Nat} {v : Value} {xs : List Value} (h : W.ownsRow base e size v k xs) (hne : e ≠ t') : ∀ x ∈ obl v, base ≤ x ∧ ∀ c fz, W.heap[x]? ≠ some (.cells c t' fz) := fun x hx => by
  have hv : v.ownBlock = some x := by unfold obl at hx; simpa using hx
  refine ⟨(h.lt x hv).1, fun c fz hc => ?_⟩
  obtain ⟨c', fz', h'⟩ := own_cells h hv
  rw [h'] at hc
  injection hc with hc
  injection hc with _ h2
  exact hne h2
end

section
open Go.RowKit
set_option linter.unusedVariables false
set_option linter.unusedSimpArgs false

/-- w' is w but for new blocks and for blocks of P. -/
structure FrP (P : Nat → Prop) (w w' : World) : Prop where
  os : w'.os = w.os
  tape : w'.tape = w.tape
  output : w'.output = w.output
  size : w.heap.size ≤ w'.heap.size
  block : ∀ k, k < w.heap.size → ¬ P k → w'.heap[k]? = w.heap[k]?
/-- Neither a row nor a list of numbers or changes lies there. -/
def Quiet (W : World) (B : Nat) (P : Nat → Prop) : Prop := ∀ k, P k → B ≤ k ∧ (∀ c fz, W.heap[k]? ≠ some (.cells c 102 fz)) ∧ (∀ c fz, W.heap[k]? ≠ some (.cells c 3 fz)) ∧ ∀ c fz, W.heap[k]? ≠ some (.cells c 57 fz)
section
variable {P P' : Nat → Prop} {w w' w'' : World} {B : Nat}
theorem FrP.of_below (h : Below w.heap.size w w') : FrP P w w' := ⟨h.os, h.tape, h.output, h.size, fun k hk _ => h.block k hk⟩
theorem FrP.trans (h : FrP P w w') (k : FrP P' w' w'') (hP : ∀ x, P' x → P x ∨ w.heap.size ≤ x) : FrP P w w'' :=
  ⟨k.os.trans h.os, k.tape.trans h.tape, k.output.trans h.output, Nat.le_trans h.size k.size, fun x hx h1 => (k.block x (Nat.lt_of_lt_of_le hx h.size) fun h2 => (hP x h2).elim h1 (by omega)).trans (h.block x hx h1)⟩
theorem FrP.below (h : FrP P w w') (k : Below w'.heap.size w' w'') : FrP P w w'' := h.trans (P' := fun _ => False) (FrP.of_below k) nofun
theorem FrP.mono (h : FrP P w w') (hP : ∀ x, P x → P' x) : FrP P' w w' := ⟨h.os, h.tape, h.output, h.size, fun k hk hp => h.block k hk fun h1 => hp (hP k h1)⟩
theorem FrJ.frp {S : Nat → Prop} {bM : Nat} (h : FrJ S bM w w') : FrP (fun k => k = bM ∨ S k) w w' := ⟨h.os, h.tape, h.output, h.size, fun k hk hp => h.block k hk (fun e => hp (.inl e)) fun e => hp (.inr e)⟩
theorem FrP.low (h : FrP P w w') (hB : ∀ k, P k → B ≤ k) (hw : B ≤ w.heap.size) : Below B w w' :=
  ⟨h.os, h.tape, h.output, h.size, fun k hk => h.block k (by omega) fun hp => by have := hB k hp; omega⟩
theorem RowK.frp {A : Option Addr} {n : Nat} {r : Rw} (h : RowK w B A n r) (hf : FrP P w w') (hq : Quiet w B P) : RowK w' B A n r :=
  h.keep (p := P) hf.block hf.size fun k hk => ⟨(hq k hk).1, (hq k hk).2.1⟩
theorem IntK.frp {A : Option Addr} {n : Nat} {xs : List Int} (h : IntK w A n xs) (hf : FrP P w w') (hq : Quiet w B P) : IntK w' A n xs := by
  have hne : 0 < n → ∀ b off m, A = some ⟨b, off, m⟩ → ¬ P b := fun h0 b off m e hx => by
    obtain ⟨c, fz, h1⟩ := h.at_ h0 b off m e
    exact (hq b hx).2.2.1 c fz h1
  refine ⟨⟨h.rd.1, fun h0 => ?_⟩, fun h0 b off m e => ?_⟩
  · obtain ⟨b, off, e, hlt, hc⟩ := h.rd.2 h0
    refine ⟨b, off, e, Nat.lt_of_lt_of_le hlt hf.size, fun j u hu => ?_⟩
    rw [World.cell?_of_block (hf.block b hlt (hne h0 b off none e))]
    exact hc j u hu
  · obtain ⟨c, fz, h1⟩ := h.at_ h0 b off m e
    exact ⟨c, fz, by rw [hf.block b (Array.getElem?_eq_some_iff.1 h1).1 (hne h0 b off m e)]; exact h1⟩
theorem Blk.frp {b : Nat} {t : TypeId} {cs : Array Value} (h : Blk w b t cs) (hf : FrP P w w') (hn : ¬ P b) : Blk w' b t cs := (hf.block b h.lt hn).trans h
end
/-- A list of changes that is held by the way. -/
structure OC (W : World) (B : Nat) (v : Value) (l : List Ch) : Prop where
  own : W.ownsRow B 57 3 v l.length (l.flatMap encCh)
  rows : RowsC W B l
def RowsC' (l : List Ch) : Prop := ∀ i ∈ l, i.n ≤ i.c
theorem OC.nil (W : World) (B : Nat) : OC W B (.slice none 0 0) [] := ⟨World.ownsRow_nil _ _ _ _, by intro i hi; cases hi⟩
theorem OC.frp {P : Nat → Prop} {w w' : World} {B : Nat} {v : Value} {l : List Ch} (h : OC w B v l) (hf : FrP P w w') (hq : Quiet w B P) : OC w' B v l :=
  ⟨own_blockU h.own fun g hg => by
    obtain ⟨c, fz, hc⟩ := own_cells h.own hg
    exact hf.block g (Array.getElem?_eq_some_iff.1 hc).1 fun hp => (hq g hp).2.2.2 c fz hc, fun i hi => (h.rows i hi).frp hf hq⟩
/-- A list of changes that a call has just made. -/
structure NC (W : World) (N B : Nat) (A : Option Addr) (n : Nat) (l : List Ch) : Prop where
  rd : Reads W W.heap.size 3 A n (l.flatMap encCh)
  far : 0 < n → ∀ b off m, A = some ⟨b, off, m⟩ → N ≤ b
  rows : RowsC W B l
  le : n ≤ 9223372036854775807
theorem NC.nil (W : World) (N B : Nat) : NC W N B none 0 [] := ⟨⟨rfl, nofun⟩, nofun, (by intro i hi; cases hi), by omega⟩
theorem NC.frp {P : Nat → Prop} {w w' : World} {N B n : Nat} {A : Option Addr} {l : List Ch} (h : NC w N B A n l) (hf : FrP P w w') (hq : Quiet w B P) (hN : ∀ k, P k → k < N) : NC w' N B A n l := by
  refine ⟨⟨h.rd.1, fun h0 => ?_⟩, h.far, fun i hi => (h.rows i hi).frp hf hq, h.le⟩
  obtain ⟨b, off, e, hlt, hc⟩ := h.rd.2 h0
  refine ⟨b, off, e, Nat.lt_of_lt_of_le hlt hf.size, fun j u hu => ?_⟩
  rw [World.cell?_of_block (hf.block b hlt fun hp => by have := h.far h0 b off none e; have := hN b hp; omega)]
  exact hc j u hu
theorem NC.chg {W : World} {N B n : Nat} {A : Option Addr} {l : List Ch} (h : NC W N B A n l) (hB : B ≤ W.heap.size) : ChgR W W.heap.size A n l := ⟨h.rd, fun i hi => (h.rows i hi).mono hB, h.le⟩
def thC (i : Ch) : Th := ⟨i.t, i.m, i.r⟩

/-! The program's joiner. -/
structure JoS where
  A1 : Option Addr
  n1 : Nat
  c1 : Nat
  on : List Int
  A2 : Option Addr
  n2 : Nat
  c2 : Nat
  others : List Int
  lo : Int
  hi : Int
def JoS.cells (s : JoS) (bL bR : Nat) (mk : Int) : Array Value := #[.slice s.A1 s.n1 s.c1, .map (some bL), .slice s.A2 s.n2 s.c2, .map (some bR), .int .i64 s.lo, .int .i64 s.hi, .int .i64 mk]
structure JO (W : World) (base b bL bR : Nat) (s : JoS) (mk : Int) (i : Nat) (fL fR : List UInt8 → List Hd) (SL SR : Nat → Prop) : Prop where
  blk : Blk W b 140 (s.cells bL bR mk)
  on : IntK W s.A1 s.n1 s.on
  ot : IntK W s.A2 s.n2 s.others
  l : HmM W base bL i fL SL
  r : HmM W base bR i fR SR
  ne : bL ≠ bR
  dj : ∀ k, SL k → ¬ SR k
  low : base ≤ b
def jP (b bL bR : Nat) (SL SR : Nat → Prop) : Nat → Prop := fun k => k = b ∨ k = bL ∨ k = bR ∨ SL k ∨ SR k
section
variable {w w' : World} {base b bL bR i : Nat} {s : JoS} {mk : Int} {fL fR : List UInt8 → List Hd} {SL SR : Nat → Prop} {P : Nat → Prop}
theorem HmM.quiet {bM : Nat} {f : List UInt8 → List Hd} {S : Nat → Prop} (h : HmM w base bM i f S) : Quiet w base (fun k => k = bM ∨ S k) := by
  intro k hk
  rcases hk with rfl | hk
  · obtain ⟨es, c, e⟩ := h.is_map
    refine ⟨h.low, ?_, ?_, ?_⟩ <;> (intro c' fz' e'; rw [e] at e'; cases e')
  · obtain ⟨h1, _, c, fz, e⟩ := h.typ hk
    refine ⟨h1, ?_, ?_, ?_⟩ <;>
    · intro c' fz' e'
      rw [e] at e'
      injection e' with e'
      injection e' with _ e'
      exact absurd e' (by decide)
theorem JO.quiet (h : JO w base b bL bR s mk i fL fR SL SR) : Quiet w base (jP b bL bR SL SR) := by
  intro k hk
  rcases hk with rfl | hk | hk | hk | hk
  · exact ⟨h.low, blk_not h.blk (by decide), blk_not h.blk (by decide), blk_not h.blk (by decide)⟩
  · exact h.l.quiet k (.inl hk)
  · exact h.r.quiet k (.inl hk)
  · exact h.l.quiet k (.inr hk)
  · exact h.r.quiet k (.inr hk)
theorem JO.lt (h : JO w base b bL bR s mk i fL fR SL SR) {k : Nat} (hk : jP b bL bR SL SR k) : k < w.heap.size := by
  rcases hk with rfl | rfl | rfl | hk | hk
  · exact h.blk.lt
  · exact h.l.lt
  · exact h.r.lt
  · exact (h.l.typ hk).2.1
  · exact (h.r.typ hk).2.1
theorem HmM.keepS {bM : Nat} {f : List UInt8 → List Hd} {S : Nat → Prop} (h : HmM w base bM i f S) (hk : ∀ k, k < w.heap.size → ¬ P k → w'.heap[k]? = w.heap[k]?) (hs : w.heap.size ≤ w'.heap.size)
    (hp : ∀ k, P k → base ≤ k ∧ k ≠ bM ∧ ¬ S k ∧ ∀ c fz, w.heap[k]? ≠ some (.cells c 102 fz)) : HmM w' base bM i f S := by
  obtain ⟨F, c, h1, h2, h3⟩ := h.ex
  refine ⟨⟨F, c, h1.block (hk bM h1.lt fun hx => (hp bM hx).2.1 rfl), h2, ⟨fun q => own_blockU (h3.own q) fun g hg => ?_, h3.nb, h3.sep, fun q => (h3.rows q).keep hk hs fun k hk => ⟨(hp k hk).1, (hp k hk).2.2.2⟩, h3.inS, fun k hS => ?_⟩⟩, h.low⟩
  · obtain ⟨cc, fz, hc⟩ := own_cells (h3.own q) hg
    exact hk g (Array.getElem?_eq_some_iff.1 hc).1 fun hx => (hp g hx).2.2.1 (h3.inS q g hg)
  · obtain ⟨g1, c, fz, g2⟩ := h3.typ k hS
    exact ⟨g1, c, fz, (hk k (Array.getElem?_eq_some_iff.1 g2).1 fun hx => (hp k hx).2.2.1 hS).trans g2⟩
theorem HmM.notS {bM : Nat} {f : List UInt8 → List Hd} {S : Nat → Prop} (h : HmM w base bM i f S) {k : Nat} (hk : ∀ c fz, w.heap[k]? ≠ some (.cells c 144 fz)) : ¬ S k := fun hS => by
  obtain ⟨_, _, c, fz, e⟩ := h.typ hS
  exact hk c fz e
theorem HmM.map_not {bM : Nat} {f : List UInt8 → List Hd} {S : Nat → Prop} (h : HmM w base bM i f S) (t : TypeId) : ∀ c fz, w.heap[bM]? ≠ some (.cells c t fz) := fun c fz e => by
  obtain ⟨es, c', e'⟩ := h.is_map
  rw [e'] at e
  cases e
theorem JO.far (h : JO w base b bL bR s mk i fL fR SL SR) : b ≠ bL ∧ b ≠ bR ∧ (¬ SL b ∧ ¬ SR b) ∧ (¬ SL bL ∧ ¬ SR bL) ∧ ¬ SL bR ∧ ¬ SR bR := by
  refine ⟨fun e => ?_, fun e => ?_, ⟨h.l.notS (blk_not h.blk (by decide)), h.r.notS (blk_not h.blk (by decide))⟩, ⟨h.l.notS (h.l.map_not _), h.r.notS (h.l.map_not _)⟩, h.l.notS (h.r.map_not _), h.r.notS (h.r.map_not _)⟩
  · have h1 := h.blk
    rw [e] at h1
    exact h.l.map_not _ _ _ h1
  · have h1 := h.blk
    rw [e] at h1
    exact h.r.map_not _ _ _ h1
theorem JO.frp (h : JO w base b bL bR s mk i fL fR SL SR) (hf : FrP P w w') (hq : Quiet w base P) (hn : ∀ k, P k → ¬ jP b bL bR SL SR k) : JO w' base b bL bR s mk i fL fR SL SR :=
  ⟨h.blk.frp hf fun hp => hn b hp (.inl rfl), h.on.frp hf hq, h.ot.frp hf hq,
    h.l.keepS (P := P) hf.block hf.size fun k hk => ⟨(hq k hk).1, fun e => hn k hk (.inr (.inl e)), fun e => hn k hk (.inr (.inr (.inr (.inl e)))), (hq k hk).2.1⟩,
    h.r.keepS (P := P) hf.block hf.size fun k hk => ⟨(hq k hk).1, fun e => hn k hk (.inr (.inr (.inl e))), fun e => hn k hk (.inr (.inr (.inr (.inr e)))), (hq k hk).2.1⟩, h.ne, h.dj, h.low⟩
theorem JO.below (h : JO w base b bL bR s mk i fL fR SL SR) (hb : Below w.heap.size w w') : JO w' base b bL bR s mk i fL fR SL SR :=
  h.frp (P := fun _ => False) (FrP.of_below hb) nofun nofun
theorem JO.mono (h : JO w base b bL bR s mk i fL fR SL SR) {j : Nat} (hj : i ≤ j) : JO w base b bL bR s mk j fL fR SL SR := ⟨h.blk, h.on, h.ot, h.l.mono hj, h.r.mono hj, h.ne, h.dj, h.low⟩
/-- The left side was told something. -/
theorem JO.left (h : JO w base b bL bR s mk i fL fR SL SR) {j : Nat} (hij : i ≤ j) {g : List UInt8 → List Hd} {S' : Nat → Prop} (hf : FrJ SL bL w w') (hm : HmM w' base bL j g S') (hS : ∀ k, S' k → SL k ∨ w.heap.size ≤ k) : JO w' base b bL bR s mk j g fR S' SR := by
  have hq := h.l.quiet
  have hfp := hf.frp
  obtain ⟨f1, f2, ⟨f3, f4⟩, ⟨f5, f6⟩, f7, f8⟩ := h.far
  refine ⟨h.blk.frp hfp fun hp => hp.elim f1 f3, h.on.frp hfp hq, h.ot.frp hfp hq, hm, (h.r.keepS (P := fun k => k = bL ∨ SL k) hfp.block hfp.size fun k hk => ⟨(hq k hk).1, ?_, ?_, (hq k hk).2.1⟩).mono hij, h.ne, fun k h1 h2 => ?_, h.low⟩
  · rintro rfl
    rcases hk with e | e
    · exact h.ne e.symm
    · exact f7 e
  · rcases hk with rfl | e
    · exact f6
    · exact h.dj k e
  · rcases hS k h1 with e | e
    · exact h.dj k e h2
    · have := (h.r.typ h2).2.1
      omega
/-- The right side was told something. -/
theorem JO.right (h : JO w base b bL bR s mk i fL fR SL SR) {j : Nat} (hij : i ≤ j) {g : List UInt8 → List Hd} {S' : Nat → Prop} (hf : FrJ SR bR w w') (hm : HmM w' base bR j g S') (hS : ∀ k, S' k → SR k ∨ w.heap.size ≤ k) : JO w' base b bL bR s mk j fL g SL S' := by
  have hq := h.r.quiet
  have hfp := hf.frp
  obtain ⟨f1, f2, ⟨f3, f4⟩, ⟨f5, f6⟩, f7, f8⟩ := h.far
  refine ⟨h.blk.frp hfp fun hp => hp.elim f2 f4, h.on.frp hfp hq, h.ot.frp hfp hq, (h.l.keepS (P := fun k => k = bR ∨ SR k) hfp.block hfp.size fun k hk => ⟨(hq k hk).1, ?_, ?_, (hq k hk).2.1⟩).mono hij, hm, h.ne, fun k h1 h2 => ?_, h.low⟩
  · rintro rfl
    rcases hk with e | e
    · exact h.ne e
    · exact f6 e
  · rcases hk with rfl | e
    · exact f7
    · exact fun e2 => h.dj k e2 e
  · rcases hS k h2 with e | e
    · exact h.dj k h1 e
    · have := (h.l.typ h1).2.1
      omega
end

/-! The reference's joiner. -/
def JoS.rcells (s : JoS) (vL vR : Value) (mk : Int) : Array Value := #[.slice s.A1 s.n1 s.c1, .slice s.A2 s.n2 s.c2, .int .i64 s.lo, .int .i64 s.hi, vL, vR, .int .i64 mk]
structure JR (W : World) (base b : Nat) (s : JoS) (mk : Int) (vL : Value) (L : List Ch) (vR : Value) (R : List Ch) : Prop where
  blk : Blk W b 149 (s.rcells vL vR mk)
  on : IntK W s.A1 s.n1 s.on
  ot : IntK W s.A2 s.n2 s.others
  l : OC W base vL L
  r : OC W base vR R
  low : base ≤ b
section
variable {w w' : World} {base b : Nat} {s : JoS} {mk : Int} {vL vR : Value} {L R : List Ch} {P : Nat → Prop}
theorem JR.frp (h : JR w base b s mk vL L vR R) (hf : FrP P w w') (hq : Quiet w base P) (hn : ¬ P b) : JR w' base b s mk vL L vR R :=
  ⟨h.blk.frp hf hn, h.on.frp hf hq, h.ot.frp hf hq, h.l.frp hf hq, h.r.frp hf hq, h.low⟩
theorem JR.below (h : JR w base b s mk vL L vR R) (hb : Below w.heap.size w w') : JR w' base b s mk vL L vR R := h.frp (P := fun _ => False) (FrP.of_below hb) nofun nofun
theorem JR.quiet (h : JR w base b s mk vL L vR R) : Quiet w base (fun k => k = b) := by
  rintro k rfl
  exact ⟨h.low, blk_not h.blk (by decide), blk_not h.blk (by decide), blk_not h.blk (by decide)⟩
end
end

section
open Go.RowKit
set_option linter.unusedVariables false
set_option linter.unusedSimpArgs false

theorem sm_bound {M : Int} (hM : 0 ≤ M) (c : Th) : ∀ {l : List Th}, (∀ y ∈ l, -M ≤ y.m ∧ y.m ≤ M) → -(M * (l.length : Int)) ≤ smT c l ∧ smT c l ≤ M * (l.length : Int)
  | [], _ => by simp [smT]
  | y :: l, h => by
    have ih := sm_bound hM c (l := l) fun z hz => h z (List.mem_cons_of_mem _ hz)
    have hy := h y (by simp)
    have e : M * ((y :: l).length : Int) = M * (l.length : Int) + M := by
      rw [List.length_cons, Int.natCast_add, Int.mul_add]; simp
    rw [smT, e]
    split <;> omega
/-- An own list of changes grows by one. -/
theorem oc_app {X : World} {N B : Nat} {A : Option Addr} {c : Nat} {lo : List Ch} (y : Ch) (hown : X.ownsRow N 57 3 (.slice A lo.length c) lo.length (lo.flatMap encCh)) (hrows : RowsC X B lo) (hy : RowK X B y.A y.n y.r)
    (hN : N ≤ X.heap.size) (hB : B ≤ N) (hl : lo.length ≤ 100000) :
    ∃ A' c' X', (Builtin.append_ #[67, 67] 67 #[.slice A lo.length c, .slice (some ⟨X.heap.size, 0, none⟩) 1 1]).run Tryz.prog (X.alloc (.cells #[.int .i64 y.t, .slice y.A y.n y.c, .int .i64 y.m] 57)) = .ok (.slice A' (lo.length + 1) c') X' ∧
      X'.ownsRow N 57 3 (.slice A' (lo.length + 1) c') (lo ++ [y]).length ((lo ++ [y]).flatMap encCh) ∧ RowsC X' B (lo ++ [y]) ∧ (∀ k, k < X.heap.size → (Value.slice A lo.length c).ownBlock ≠ some k → X'.heap[k]? = X.heap[k]?) ∧ Below N X X' := by
  obtain ⟨i0, hi, hz0, hz1, hz2⟩ := info_parts3 infoCh
  obtain ⟨o, ho⟩ : ∃ o : Obj, (.cells #[.int .i64 y.t, .slice y.A y.n y.c, .int .i64 y.m] 57 : Obj) = o := ⟨_, rfl⟩
  have hs : (X.alloc o).heap.size = X.heap.size + 1 := World.size_alloc _ _
  have kq := Blk.new X 57 #[.int .i64 y.t, .slice y.A y.n y.c, .int .i64 y.m]
  have hba := below_val (w := X) #[.int .i64 y.t, .slice y.A y.n y.c, .int .i64 y.m] 57
  rw [ho] at kq hba ⊢
  have hown1 := own_below hown hba
  have hrd : Reads (X.alloc o) (X.alloc o).heap.size 3 (some ⟨X.heap.size, 0, none⟩) 1 (encCh y) := ⟨rfl, fun _ => ⟨X.heap.size, 0, rfl, by omega, fun j u hu => by rw [Nat.zero_add, kq.cell j]; simpa [encCh] using hu⟩⟩
  obtain ⟨v', X', hrun, h2, h3, h4⟩ := run_append_any (P := Tryz.prog) (X.alloc o) N 67 67 57 i0 _ 3 40 Tryz.underlying67 hi hz0 hz1 hz2 rfl (by decide) (.slice A lo.length c) lo.length (lo.flatMap encCh) hown1 (X.alloc o).heap.size (some ⟨X.heap.size, 0, none⟩) 1 1 (encCh y) hrd (by
    intro u hu
    unfold encCh at hu
    simp only [List.mem_cons, List.not_mem_nil, or_false] at hu
    rcases hu with rfl | rfl | rfl <;> rfl) (by unfold maxLen; omega) (by omega) (by omega)
  obtain ⟨A', c', rfl, _⟩ := own_form h2
  have hb2 : Below N X X' := below_append (hba.mono hN) hown1 (by omega) h3
  refine ⟨A', c', X', hrun, ?_, ?_, fun k hk hne => (h3.block k (by omega) fun e => hne e.symm).trans (hba.block k hk), hb2⟩
  · rw [List.length_append, List.flatMap_append]
    have e1 : [y].flatMap encCh = encCh y := by simp
    rw [e1]
    exact h2
  · intro i hi
    have key : ∀ i : Ch, RowK X B i.A i.n i.r → RowK X' B i.A i.n i.r := fun i h => (h.below hba).grown hown1 (by decide) hB h3
    rcases List.mem_append.1 hi with hi | hi
    · exact key i (hrows i hi)
    · obtain rfl : i = y := by simpa using hi
      exact key i hy
theorem wp_append_is {P : Program} {w w' : World} {o : Oper} {a : Act} {K : Act → World → Prop} {Q : Exit → Act → World → Prop} (s x : Operand) (t : TypeId)
    (ho : o.op = .call { callee := .builtin .append, args := #[s, x], argTypes := #[t, t] }) {v u v' : Value} (hs : a.eval s = v) (hx : a.eval x = u) {ty : TypeId} (hty : o.type = ty)
    (hrun : (Builtin.append_ #[t, t] ty #[v, u]).run P w = .ok v' w') (h : K (a.put o.dst v') w') : o.wp P a w K Q := by
  subst hty
  unfold Oper.wp execOp
  simp only [ho, resolve, invoke, builtin, Sem.run_bind, Sem.run_pure, Result.andThen_ok, List.map_toArray, List.map_cons, List.map_nil, hs, hx, hrun]
  exact h
theorem wpList_append_is {P : Program} {w w' : World} {ops : Array Oper} {rest : List Oper} {o : Oper} {a : Act} {Q : Exit → Act → World → Prop} (hgd : o.guard = none) (s x : Operand) (t : TypeId)
    (ho : o.op = .call { callee := .builtin .append, args := #[s, x], argTypes := #[t, t] }) {v u v' : Value} (hs : a.eval s = v) (hx : a.eval x = u) {ty : TypeId} (hty : o.type = ty)
    (hrun : (Builtin.append_ #[t, t] ty #[v, u]).run P w = .ok v' w') (h : wpList P ops Q rest (a.put o.dst v') w') : wpList P ops Q (o :: rest) a w :=
  wpList_plain hgd fun _ hK => wp_append_is s x t ho hs hx hty hrun (hK _ _ h)
/-- What kept and PutChange hand back. -/
def RetKc (w : World) (B : Nat) (d : List Th) (e : Ending) (w' : World) : Prop :=
  ∃ A c lst, e = .returned (.slice A lst.length c) ∧ lst.map thC = d ∧ w'.ownsRow w.heap.size 57 3 (.slice A lst.length c) lst.length (lst.flatMap encCh) ∧ RowsC w' B lst ∧ Below w.heap.size w w'
theorem take_map {l : List Ch} {j : Nat} {y : Ch} (h : l[j]? = some y) : (l.take (j + 1)).map thC = (l.take j).map thC ++ [thC y] := by
  rw [take_snoc' h, List.map_append]; rfl
end

end Go.Proofs.YtoapjidpfghnlaaGreatDoor
