/-
  The walks of bag.Sum and bag.Minus, for every two bags.
  The walk of bag.Changes, for every two valid bags and a valid time whose changes are no error.
  The walks of the references' Same at rows and bags that are one, and of Long and Few.
  The walk of Few: whatever it answers, bags that are few have at most 60 items.
  The walks of the reference's SameChanges at changes that are one, and of the law's awake.
-/
import Derived.Test.YtoapjidpfghnlaaGreatDoorBgS1
import Derived.Test.YtoapjidpfghnlaaGreatDoorBgP1
namespace Go.Proofs.YtoapjidpfghnlaaGreatDoor

section
open Go.RowKit Go.Shelf
attribute [local go_sem] Oper.semAt_some wide_fn wide_depth

/-- What two bags put together are, with the error. -/
def comb (f : Int → Int → Int) (a b : Bg) : Bg × Int := if okBag a && okBag b then (if okBag (both f (prs a b)) then (both f (prs a b), 0) else ([], 4)) else ([], 1)
def RetC (w : World) (p : Bg × Int) : Ending → World → Prop := RetBag w p.1 p.2
theorem both_bad (g : Nat) (A : Option Addr) (n c : Nat) (la : List It) (A' : Option Addr) (n' c' : Nat) (lb : List It) (w : World) (ha : BagR w w.heap.size A n la) (hb : BagR w w.heap.size A' n' lb) (caps : Array Value)
    (hv : (okBag (dat la) && okBag (dat lb)) = false) : CallsIn Fence.wide 4 Tryz.prog 164 #[.slice A n c, .slice A' n' c', .func (Fn.func g) #[] caps] w (RetBag w [] 1) := by
  have hB0 := below_val (w := w) #[.func (Fn.func g) #[] caps] 168
  refine callsIn_of_wp_marks Tryz.func164 rfl trivial ?_ rfl
  simp only [Tryz.ntmps164, List.size_toArray, List.length_cons, List.length_nil, Nat.reduceAdd, Nat.reduceSub, Array.replicate_succ, Array.replicate_zero, List.push_toArray, List.append_toArray, List.nil_append, List.cons_append]
  gi_wp2_with fail
  obtain ⟨W0, hW0⟩ : ∃ W0, w.alloc (.cells #[.func (Fn.func g) #[] caps] 168) = W0 := ⟨_, rfl⟩
  rw [hW0] at hB0 ⊢
  clear hW0
  refine (callsIn_wide.2 (BagValid_any A n c _ la W0 (ha.below hB0))).mono ?_
  rintro e W1 ⟨rfl, hB1⟩
  have hB01 := bstep hB0 hB1
  clear hB0 hB1
  cases hva : okBag (dat la)
  · have HE := hide hB01
    clear hB01 ha hb hva hv
    gi_wp2
    exact ⟨_, results_tmp2 rfl _ _ _, none, 0, 0, [], rfl, rfl, BagR.nil _ _, Nat.le_refl _, HE.out⟩
  · have HVB := hide (show okBag (dat lb) = false from by rw [hva, Bool.true_and] at hv; exact hv)
    clear hva hv
    gi_wp2_with fail
    refine (callsIn_wide.2 (BagValid_any A' n' c' _ lb W1 (hb.below hB01))).mono ?_
    rintro e W2 ⟨rfl, hB2⟩
    rw [HVB.out]
    have HE := hide (bstep hB01 hB2)
    clear hB01 hB2 ha hb
    gi_wp2
    exact ⟨_, results_tmp2 rfl _ _ _, none, 0, 0, [], rfl, rfl, BagR.nil _ _, Nat.le_refl _, HE.out⟩
theorem both_any (f : Int → Int → Int) (g : Nat) (caps : Array Value) (eg : ∀ args w, (callFunc g args).run Tryz.prog w = .ok (.enter g args) w)
    (A : Option Addr) (n c : Nat) (la : List It) (A' : Option Addr) (n' c' : Nat) (lb : List It) (w : World) (ha : BagR w w.heap.size A n la) (hb : BagR w w.heap.size A' n' lb) (hc : n ≤ c) (hc' : n' ≤ c')
    (hf : ∀ (m k : Int) (W : World), -1000000 ≤ m → m ≤ 1000000 → -1000000 ≤ k → k ≤ 1000000 → Below w.heap.size w W → Calls Tryz.prog g (#[.int .i64 m, .int .i64 k] ++ caps) W fun e W' => e = .returned (.int .i64 (f m k)) ∧ W = W') :
    Calls Tryz.prog 164 #[.slice A n c, .slice A' n' c', .func (Fn.func g) #[] caps] w (RetC w (comb f (dat la) (dat lb))) := by
  refine (callsIn_wide (n := 4)).1 ?_
  cases hv : okBag (dat la) && okBag (dat lb)
  · have : comb f (dat la) (dat lb) = ([], 1) := by unfold comb; rw [hv]; rfl
    rw [this]
    exact both_bad g A n c la A' n' c' lb w ha hb caps hv
  · rw [Bool.and_eq_true] at hv
    refine (both_in f g caps eg A n c la A' n' c' lb w ha hb hc hc' hf hv.1 hv.2).mono fun e W' h => ?_
    unfold RetPut at h
    unfold RetC comb
    rw [hv.1, hv.2]
    cases ho : okBag (both f (prs (dat la) (dat lb))) <;> rw [ho] at h <;> exact h

theorem Sum_any (A : Option Addr) (n c : Nat) (la : List It) (A' : Option Addr) (n' c' : Nat) (lb : List It) (w : World) (ha : BagR w w.heap.size A n la) (hb : BagR w w.heap.size A' n' lb) (hc : n ≤ c) (hc' : n' ≤ c') :
    Calls Tryz.prog 117 #[.slice A n c, .slice A' n' c'] w (RetC w (comb (fun m k => m + k) (dat la) (dat lb))) := by
  have H := hide (both_any (fun m k => m + k) 165 #[] (enters_of Tryz.func165 (by kernel_rfl) rfl) A n c la A' n' c' lb w ha hb hc hc' (fun m k W h1 h2 h3 h4 _ => sum1_any m k W ⟨h1, h2⟩ ⟨h3, h4⟩))
  obtain ⟨d, E, hp⟩ : ∃ d E, comb (fun m k => m + k) (dat la) (dat lb) = (d, E) := ⟨_, _, rfl⟩
  rw [hp] at H ⊢
  clear hp ha hb
  go_enter Tryz.func117, Tryz.ntmps117
  go_wp2_with fail
  refine H.out.mono ?_
  rintro e W1 ⟨Ar, nr, cr, lr, rfl, hd, hbr, hcr, hB⟩
  go_wp2
  go_ret2
  exact ⟨Ar, nr, cr, lr, rfl, hd, hbr, hcr, hB⟩
end

section
open Go.RowKit Go.Shelf
attribute [local go_sem] Oper.semAt_some wide_fn wide_depth

structure Ch where
  t : Int
  A : Option Addr
  n : Nat
  c : Nat
  r : Rw
  m : Int
def encCh (i : Ch) : List Value := [.int .i64 i.t, .slice i.A i.n i.c, .int .i64 i.m]
theorem encCh_len (i : Ch) : (encCh i).length = 3 := rfl
theorem infoCh : (Tryz.prog.info? 57).map (fun i => (i.zero, i.size, i.bytes)) = some (some (.agg #[.int .i64 0, .slice none 0 0, .int .i64 0]), 3, 40) := by kernel_rfl
def RowsC (w : World) (B : Nat) (l : List Ch) : Prop := ∀ i ∈ l, RowK w B i.A i.n i.r
/-- A list of changes in memory. -/
structure ChgR (w : World) (B : Nat) (A : Option Addr) (n : Nat) (l : List Ch) : Prop where
  rd : Reads w w.heap.size 3 A n (l.flatMap encCh)
  rows : RowsC w B l
  le : n ≤ 9223372036854775807
/-- What lies in memory between two rounds: box ob holds what was put together so far. -/
structure OutC (f : Int → Int → Int) (T : Int) (B ob : Nat) (pre : List Pe) (W : World) : Prop where
  ow : ∃ (v : Value) (l : List Ch), Boxed W ob 67 v ∧ W.ownsRow (ob + 3) 57 3 v l.length (l.flatMap encCh) ∧ (l.map (fun i => (i.r, i.m)) = both f (pre.map datP) ∧ ∀ i ∈ l, i.t = T) ∧ RowsC W B l
  a : ∃ v, Boxed W (ob + 1) 40 v
  b : ∃ v, Boxed W (ob + 1 + 1) 40 v
theorem OutC.lt {f : Int → Int → Int} {T : Int} {B ob : Nat} {pre : List Pe} {W : World} (h : OutC f T B ob pre W) : ob + 1 + 1 < W.heap.size := by obtain ⟨v, hv⟩ := h.b; exact hv.lt
theorem OutC.below {f : Int → Int → Int} {T : Int} {B ob : Nat} {pre : List Pe} {W W' : World} (h : OutC f T B ob pre W) (hb : Below W.heap.size W W') : OutC f T B ob pre W' := by
  obtain ⟨⟨v, l, h1, h2, h3, h4⟩, ⟨va, h5⟩, ⟨vb, h6⟩⟩ := h
  exact ⟨⟨v, l, (hb.block _ h1.lt).trans h1, own_below h2 hb, h3, fun i hi => (h4 i hi).below hb⟩, ⟨va, (hb.block _ h5.lt).trans h5⟩, ⟨vb, (hb.block _ h6.lt).trans h6⟩⟩
theorem outC_from {f : Int → Int → Int} {T : Int} {B ob C : Nat} (hC : B ≤ C) : OwnFrom C (fun (pre : List Pe) W => OutC f T B ob pre W) := by
  intro pre X Y row h hg hr
  obtain ⟨⟨v, l, h1, h2, h3, h4⟩, ⟨va, h5⟩, ⟨vb, h6⟩⟩ := h
  have hr2 : ∀ k, row = some k → ∃ o : Obj, X.heap[k]? = some o ∧ o.isCells = false := fun k e => (hr k e).2
  have bx : ∀ {b : Nat} {t : TypeId} {u : Value}, Boxed X b t u → Boxed Y b t u := fun hb => blk_own hb hg hr2
  refine ⟨⟨v, l, bx h1, h2.kept hg ?_, h3, fun i hi => RowK.others (h4 i hi) hg fun k e => ⟨Nat.le_trans hC (hr k e).1, (hr k e).2⟩⟩, ⟨va, bx h5⟩, ⟨vb, bx h6⟩⟩
  cases hv : v.ownBlock with
  | none => exact .inl rfl
  | some b =>
    refine .inr fun e => ?_
    obtain ⟨c, fz, hc⟩ := own_cells h2 hv
    obtain ⟨o, ho, hcc⟩ := hr2 b e.symm
    rw [hc] at ho
    cases ho; cases hcc
theorem OutC.wr {f : Int → Int → Int} {T : Int} {B ob : Nat} {pre : List Pe} {X Y : World} (h : OutC f T B ob pre X) (k : WrQ (ob + 1) (ob + 1 + 1) X Y) (hB : B ≤ ob) : OutC f T B ob pre Y := by
  obtain ⟨⟨v, l, h1, h2, h3, h4⟩, ⟨va, h5⟩, ⟨vb, h6⟩⟩ := h
  have hbl : ∀ b, b < X.heap.size → b ≠ ob + 1 → b ≠ ob + 1 + 1 → Y.heap[b]? = X.heap[b]? := fun b hb n1 n2 => k.wr.bar.block b hb (by simp; omega)
  refine ⟨⟨v, l, (hbl ob h1.lt (by omega) (by omega)).trans h1, ⟨h2.1, ?_⟩, h3, fun i hi => ?_⟩, k.a, k.b⟩
  · rcases h2.2 with e | ⟨g, cap, cur, e1, e2, e3, e4⟩
    · exact .inl e
    · exact .inr ⟨g, cap, cur, e1, e2, (hbl g (Array.getElem?_eq_some_iff.1 e3).1 (by omega) (by omega)).trans e3, e4⟩
  · refine (h4 i hi).keep (p := fun b => b = ob + 1 ∨ b = ob + 1 + 1) (fun b hb hn => hbl b hb (fun e => hn (.inl e)) (fun e => hn (.inr e))) k.wr.bar.size fun b hb => ⟨by omega, fun c fz hc => ?_⟩
    rcases hb with rfl | rfl
    · rw [show X.heap[ob + 1]? = _ from h5] at hc
      cases hc
    · rw [show X.heap[ob + 1 + 1]? = _ from h6] at hc
      cases hc
theorem both_mem {f : Int → Int → Int} : ∀ {l : List Pr2} {t : Pr2}, t ∈ l → f t.2.1 t.2.2 ≠ 0 → (t.1, f t.2.1 t.2.2) ∈ both f l
  | s :: l, t, h, h0 => by
    rw [both]
    rcases List.mem_cons.1 h with rfl | h
    · rw [if_neg h0]; exact List.mem_cons_self
    · split
      · exact both_mem h h0
      · exact List.mem_cons_of_mem _ (both_mem h h0)
/-- Changes, all at one time, handed back. -/
def RetChg (w : World) (T : Int) (d : Bg) (e : Ending) (w' : World) : Prop :=
  ∃ A n c l, e = .returned (.tuple #[.slice A n c, .int .i64 0]) ∧ (l.map (fun i => (i.r, i.m)) = d ∧ ∀ i ∈ l, i.t = T) ∧ ChgR w' w'.heap.size A n l ∧ Below w.heap.size w w'
theorem res_two {b1 b2 : Nat} {v1 v2 : Value} {w : World} {tmps : Array Value} (h6 : tmps.getD 6 undef = .pointer (some ⟨b1, 0, none⟩)) (h7 : tmps.getD 7 undef = .pointer (some ⟨b2, 0, none⟩)) (h1 : w.cell? ⟨b1, 0, none⟩ = some v1) (h2 : w.cell? ⟨b2, 0, none⟩ = some v2) :
    (results Tryz.f162 tmps).run Tryz.prog w = .ok (.tuple #[v1, v2]) w := by
  have hr : Tryz.f162.results = #[.cell 6 67, .cell 7 28] := rfl
  simp only [Array.getD_eq_getD_getElem?] at h6 h7
  simp only [results, hr]
  simp [Sem.run_bind, h6, h7]
  go_simp

set_option maxRecDepth 100000 in
set_option maxHeartbeats 8000000 in
theorem Changes_in
    (A : Option Addr) (n c : Nat) (la : List It) (A' : Option Addr) (n' c' : Nat) (lb : List It) (w : World) (ha : BagR w w.heap.size A n la) (hb : BagR w w.heap.size A' n' lb) (hc : n ≤ c) (hc' : n' ≤ c')
    (T : Int) (hT : btw T (-1000000000000) 1000000000000 = true) (hD : ∀ x ∈ both (fun m k => k - m) (prs (dat la) (dat lb)), numB x.2 = true) (hDl : (both (fun m k => k - m) (prs (dat la) (dat lb))).length ≤ 400)
    (hva : okBag (dat la) = true) (hvb : okBag (dat lb) = true) :
    CallsIn Fence.wide 4 Tryz.prog 162 #[.slice A n c, .slice A' n' c', .int .i64 T] w (RetChg w T (both (fun m k => k - m) (prs (dat la) (dat lb)))) := by
  obtain ⟨i0, hi, hz0, hz1, hz2⟩ := info_parts3 infoCh
  have HVA := hide hva
  have HVB := hide hvb
  clear hva hvb
  have HT := hide hT
  have HD := hide hD
  have HDL := hide hDl
  clear hT hD hDl
  have hB0 : Below w.heap.size w (((w.alloc (.cells #[.int .i64 T] 3)).alloc (.cells #[.slice none 0 0] 67)).alloc (.cells #[.int .i64 0] 28)) := (((Below.refl _ _).alloc (Nat.le_refl _) _).alloc (by simp) _).alloc (by simp; omega) _
  have xt := ((Boxed.new w 3 (.int .i64 T)).alloc (.cells #[.slice none 0 0] 67)).alloc (.cells #[.int .i64 0] 28)
  have xr := (Boxed.new (w.alloc (.cells #[.int .i64 T] 3)) 67 (.slice none 0 0)).alloc (.cells #[.int .i64 0] 28)
  have xe := Boxed.new ((w.alloc (.cells #[.int .i64 T] 3)).alloc (.cells #[.slice none 0 0] 67)) 28 (.int .i64 0)
  rw [World.size_alloc] at xr xe
  rw [World.size_alloc] at xe
  refine callsIn_of_wp_marks Tryz.func162 rfl trivial ?_ rfl
  simp only [Tryz.ntmps162, List.size_toArray, List.length_cons, List.length_nil, Nat.reduceAdd, Nat.reduceSub, Array.replicate_succ, Array.replicate_zero, List.push_toArray, List.append_toArray, List.nil_append, List.cons_append]
  gi_wp2_with fail
  obtain ⟨W0, hW0⟩ : ∃ W0, ((w.alloc (.cells #[.int .i64 T] 3)).alloc (.cells #[.slice none 0 0] 67)).alloc (.cells #[.int .i64 0] 28) = W0 := ⟨_, rfl⟩
  rw [hW0] at hB0 xt xr xe ⊢
  clear hW0
  refine (callsIn_wide.2 (BagValid_any A n c _ la W0 (ha.below hB0))).mono ?_
  rintro e W1 ⟨rfl, hB1⟩
  rw [HVA.out]
  have hB01 := bstep hB0 hB1
  have yt : Boxed W1 w.heap.size 3 (.int .i64 T) := (hB1.block _ xt.lt).trans xt
  have yr : Boxed W1 (w.heap.size + 1) 67 (.slice none 0 0) := (hB1.block _ xr.lt).trans xr
  have ye : Boxed W1 (w.heap.size + 1 + 1) 28 (.int .i64 0) := (hB1.block _ xe.lt).trans xe
  clear hB0 hB1 xt xr xe
  gi_wp2_with fail
  refine (callsIn_wide.2 (BagValid_any A' n' c' _ lb W1 (hb.below hB01))).mono ?_
  rintro e W2 ⟨rfl, hB2⟩
  rw [HVB.out]
  have hB02 := bstep hB01 hB2
  have zt : Boxed W2 w.heap.size 3 (.int .i64 T) := (hB2.block _ yt.lt).trans yt
  have zr : Boxed W2 (w.heap.size + 1) 67 (.slice none 0 0) := (hB2.block _ yr.lt).trans yr
  have ze : Boxed W2 (w.heap.size + 1 + 1) 28 (.int .i64 0) := (hB2.block _ ye.lt).trans ye
  clear hB01 hB2 yt yr ye
  have kt := zt.cell
  have lte := ze.lt
  gi_wp2_with fail
  refine (callsIn_wide.2 (bwithin_any T _ _ W2)).mono ?_
  rintro e w2' ⟨rfl, rfl⟩
  rw [HT.out]
  gi_wp2_with fail
  refine (callsIn_wide.2 (pairs_any _ _ _ ⟨_, _, _, rfl⟩ ⟨_, _, _, rfl⟩)).mono ?_
  rintro e W3 ⟨rfl, hW3⟩
  obtain ⟨ob, hob⟩ : ∃ ob, W2.heap.size = ob := ⟨_, rfl⟩
  have k0 := ((Boxed.new W2 67 (.slice none 0 0)).alloc (.cells #[.slice A n c] 40)).alloc (.cells #[.slice A' n' c'] 40)
  have k1 := (Boxed.new (W2.alloc (.cells #[.slice none 0 0] 67)) 40 (.slice A n c)).alloc (.cells #[.slice A' n' c'] 40)
  have k2 := Boxed.new ((W2.alloc (.cells #[.slice none 0 0] 67)).alloc (.cells #[.slice A n c] 40)) 40 (.slice A' n' c')
  have hB23 : Below W2.heap.size W2 W3 := by rw [hW3]; exact (((Below.refl _ _).alloc (Nat.le_refl _) _).alloc (by simp) _).alloc (by simp; omega) _
  have hs3 : W3.heap.size = ob + 3 := by rw [hW3, ← hob]; simp
  rw [← hW3] at k0 k1 k2
  rw [World.size_alloc] at k1 k2
  rw [World.size_alloc] at k2
  rw [World.size_alloc, hob]
  rw [hob] at k0 k1 k2 hB23 lte
  clear hW3
  have hra : BagR W2 W2.heap.size A n la := (ha.below hB02).mono hB02.size
  have hrb : BagR W2 W2.heap.size A' n' lb := (hb.below hB02).mono hB02.size
  have hasc1 := okBag_asc HVA.out
  have hasc2 := okBag_asc HVB.out
  have HPR := hide (prs_ok _ _ hasc1.1 hasc2.1)
  have hlen : (prI la lb).length ≤ 800 := by
    have h1 := prI_len la lb
    have h2 := hasc1.2.2
    have h3 := hasc2.2.2
    rw [dat_len] at h2 h3
    omega
  have HBD := hide (show ∀ x ∈ prI la lb, (-1000000 ≤ x.m ∧ x.m ≤ 1000000) ∧ (-1000000 ≤ x.k ∧ x.k ≤ 1000000) ∧ x.n ≤ 1000 from pr_bound hasc1.1 hasc1.2.1 hasc2.1 hasc2.2.1 hra.rows hrb.rows)
  clear ha hb hasc1 hasc2
  have hN : W2.heap.size ≤ ob + 3 := by omega
  gi_wp2_with fail
  obtain ⟨f, hff⟩ : ∃ f : Int → Int → Int, f = fun m k => k - m := ⟨_, rfl⟩
  have HF := hide hff
  rw [← hff] at HD HDL
  have HMEM := hide (show ∀ x ∈ prI la lb, f x.m x.k ≠ 0 → numB (f x.m x.k) = true from fun x hx h0 => HD.out (x.r, f x.m x.k) (by
    rw [← prI_dat]; exact both_mem (t := datP x) (List.mem_map_of_mem hx) h0))
  clear hff
  refine wpIn_iter (n := 4) rfl (by omega) (gf := 241) (lb := #[.pointer (some ⟨ob + 1, 0, none⟩), .pointer (some ⟨ob + 1 + 1, 0, none⟩)]) rfl trivial (enters_of Tryz.func241 (by kernel_rfl) rfl) (encs := encPe) (xs := prI la lb) (Wr := WrQ (ob + 1) (ob + 1 + 1)) (Kp := Bar (ob + 3) [ob])
    (fun W hW l J Jx hJw _ hY h0 => pairs1_in 3 (by omega) l (ob + 3) [ob] W2 (ob + 1) (ob + 1 + 1) la lb J Jx W hJw hY hN (by omega) (by omega) (by omega) (by omega) (by omega) (by simp; omega) (by simp) (by simp; omega) A n c A' n' c' ((hW.block _ k1.lt).trans k1) ((hW.block _ k2.lt).trans k2) hra hrb hc hc' (by rw [hob]; exact hB23.trans (hW.mono (by omega))) h0)
    (fun _ => rfl) (fun X Y h => h.wr.oth) bar_t (bar_b (by omega))
    (fun pre W => OutC f T w.heap.size ob pre W ∧ Below ob W2 W)
    (fun _ _ _ => False)
    (OwnFrom.and (outC_from (by omega)) (ownFrom_below (by omega) (by omega)))
    (fun _ _ _ _ _ hs _ _ => hs)
    (fun s X Y h k => ⟨h.1.wr k (by omega), h.2.trans (k.wr.bar.below (by have := h.2.size; omega) (by simp; omega))⟩)
    (fun _ _ _ _ hs _ => hs)
    ⟨⟨⟨_, [], k0, World.ownsRow_nil _ _ _ _, ⟨rfl, by intro i hi; cases hi⟩, by intro i hi; cases hi⟩, ⟨_, k1⟩, ⟨_, k2⟩⟩, hB23⟩
    (fun pre x a' W => ∃ nb, ob + 3 ≤ nb ∧ Blk W nb 233 #[.int .i64 x.m, .int .i64 x.k] ∧ a' = { tmps := #[.slice A n c, .slice A' n' c', .int .i64 T, undef, undef, .pointer (some ⟨w.heap.size, 0, none⟩), .pointer (some ⟨w.heap.size + 1, 0, none⟩), .pointer (some ⟨w.heap.size + 1 + 1, 0, none⟩), .pointer (some ⟨ob, 0, none⟩), .slice x.A x.n x.c, .pointer (some ⟨nb, 0, none⟩), undef, .bool false, .slice A n c, .bool true, .bool false, .bool false, .slice A' n' c', .bool true, .bool false, .bool false, .bool false, .int .i64 T, .bool true, .bool false, .slice A n c, .slice A' n' c', .func (Fn.func 241) #[] #[.pointer (some ⟨ob + 1, 0, none⟩), .pointer (some ⟨ob + 1 + 1, 0, none⟩)], .slice x.A x.n x.c, .agg #[.int .i64 x.m, .int .i64 x.k], undef, undef, undef, undef, undef, undef, undef, undef, undef, undef, undef, undef, undef, undef, undef, undef, undef, undef, undef, undef, undef, undef], defers := [] })
    (fun pre x a' _ X Y row hs hg hr => by
      obtain ⟨nb, h1, h2, h3⟩ := hs
      exact ⟨nb, h1, blk_own h2 hg (fun r e => (hr r e).2), h3⟩)
    ?assign ?body ?done ?stop
  case assign =>
    rintro l pre x W K hpx ⟨hI, hBW⟩ hK
    have hWs : ob + 3 ≤ W.heap.size := by have := hI.lt; omega
    dsimp only [encPe]
    gi_wp2
    refine hK _ _ ((KeepsOthers.alloc _ _).from _) ((Bar.refl _ _ _).alloc hWs _) ⟨hI.below (below_val _ _), hBW.alloc (by omega) _⟩ ⟨W.heap.size, hWs, Blk.new W _ _, rfl⟩
  case body =>
    rintro l pre x a' W hpx ⟨hI, hBW⟩ ⟨nb, hnb, hbn, rfl⟩
    have hxt : Boxed W w.heap.size 3 (.int .i64 T) := (hBW.block w.heap.size (by omega)).trans zt
    have hBwW : Below w.heap.size w W := hB02.trans (hBW.mono (by omega))
    have m0 := hbn.cell 0
    have m1 := hbn.cell 1
    simp at m0 m1
    have hxin : x ∈ prI la lb := hpx.subset (by simp)
    obtain ⟨⟨bm1, bm2⟩, ⟨bk1, bk2⟩, bn⟩ := HBD.out x hxin
    have hmem := HMEM.out x hxin
    have HSN := hide (both_snoc f (pre.map datP) (datP x))
    have hfx : f x.m x.k = x.k - x.m := by rw [HF.out]
    have hwr : IntKind.i64.wrap (x.k - x.m) = x.k - x.m := by rw [IntKind.wrap_i64]; omega
    obtain ⟨fv, hfv⟩ : ∃ fv, x.k - x.m = fv := ⟨_, rfl⟩
    rw [hfx, hfv] at hmem
    have HFV := hide (hfx.trans hfv)
    by_cases h0 : fv = 0
    · have n1 : (x.k - x.m == 0) = true := by rw [hfv]; simpa using h0
      have HE := hide (show both f ((pre ++ [x]).map datP) = both f (pre.map datP) from by
        rw [List.map_append, List.map_cons, List.map_nil, HSN.out]
        show _ ++ (if f x.m x.k = 0 then [] else _) = _
        rw [HFV.out, if_pos h0, List.append_nil])
      clear h0 hfv hmem hfx
      gi_wp2
      obtain ⟨⟨v, l', i1, i2, ⟨i3, i3'⟩, i4⟩, i5, i6⟩ := hI
      exact ⟨KeepsFrom.refl _ _, Bar.refl _ _ _, ⟨⟨v, l', i1, i2, ⟨by rw [HE.out]; exact i3, i3'⟩, i4⟩, i5, i6⟩, hBW⟩
    · have n1 : (x.k - x.m == 0) = false := by rw [hfv]; simpa using h0
      have HE := hide (show both f ((pre ++ [x]).map datP) = both f (pre.map datP) ++ [(x.r, fv)] from by
        rw [List.map_append, List.map_cons, List.map_nil, HSN.out]
        show _ ++ (if f x.m x.k = 0 then [] else [(x.r, f x.m x.k)]) = _
        rw [HFV.out, if_neg h0])
      have HNU := hide (hmem h0)
      have HV2 := hide hfv
      clear h0 hfx hmem hfv
      gi_wp2_with fail
      rw [HV2.out]
      refine ((callsIn_wide.2 (number_any fv W)).inRound l).mono ?_
      rintro e w' ⟨rfl, rfl⟩
      rw [HNU.out]
      gi_wp2_with fail
      obtain ⟨⟨v, l', i1, i2, ⟨i3, i3'⟩, i4⟩, ⟨va, i5⟩, ⟨vb, i6⟩⟩ := hI
      have hrx := prI_row la lb hra.rows hrb.rows x hxin
      have hWs : ob + 3 ≤ W.heap.size := by have := i6.lt; have := hBW.size; omega
      refine Held.beginR (fun y => y.cell? ⟨ob, 0, none⟩ = some v ∧ y.cell? ⟨w.heap.size, 0, none⟩ = some (.int .i64 T)) 8 (by kernel_rfl) (by kernel_rfl) (by rintro ⟨_, _, h⟩; exact h) ?_
      have j1 : Boxed W.drew ob 67 v := i1
      have jt : Boxed W.drew w.heap.size 3 (.int .i64 T) := hxt
      have j2 : W.drew.ownsRow (ob + 3) 57 3 v l'.length (l'.flatMap encCh) := i2.drew
      have j4 : RowsC W.drew w.heap.size l' := fun i hi => (i4 i hi).below ((Below.refl _ _).drew)
      have j5 : Boxed W.drew (ob + 1) 40 va := i5
      have j6 : Boxed W.drew (ob + 1 + 1) 40 vb := i6
      have jB : Below ob W2 W.drew := hBW.drew
      have jK : KeepsOthers W W.drew := KeepsOthers.drew W
      have jR : Bar (ob + 3) [ob] W W.drew := (Bar.refl _ _ W).drew
      have jx : RowK W.drew W2.heap.size x.A x.n x.r := hrx.below (by rw [hob]; exact jB)
      have hWs' : ob + 3 ≤ W.drew.heap.size := hWs
      obtain ⟨X1, hX1⟩ : ∃ X1, W.drew = X1 := ⟨_, rfl⟩
      rw [hX1] at j1 jt j2 j4 j5 j6 jB jK jR jx hWs' ⊢
      clear hX1 i1 i2 i4 i5 i6 hBW hbn m0 m1 hBwW hxt
      have hS := And.intro j1.cell jt.cell
      refine Held.take (i := 0) (v) rfl hS (by kernel_rfl) (by kernel_rfl) (by kernel_rfl) (by kernel_rfl) (fun _ _ _ h => h) rfl (fun y hy => by obtain ⟨y1, y2⟩ := hy; go_simp) ?_
      try simp only [Act.put]
      refine Held.take (i := 1) (.int .i64 T) rfl hS (by kernel_rfl) (by kernel_rfl) (by kernel_rfl) (by kernel_rfl) (fun _ _ _ h => h) rfl (fun y hy => by obtain ⟨y1, y2⟩ := hy; go_simp) ?_
      try simp only [Act.put]
      refine Held.take (i := 2) (.slice x.A x.n x.c) rfl hS (by kernel_rfl) (by kernel_rfl) (by kernel_rfl) (by kernel_rfl) (fun _ _ _ h => h) rfl (fun y hy => by obtain ⟨y1, y2⟩ := hy; go_simp) ?_
      try simp only [Act.put]
      refine Held.take (i := 4) (.int .i64 fv) rfl hS (by kernel_rfl) (by kernel_rfl) (by kernel_rfl) (by kernel_rfl) (fun _ _ _ h => h) rfl (fun y hy => by obtain ⟨y1, y2⟩ := hy; go_simp) ?_
      try simp only [Act.put]
      refine Held.one (i := 3) rfl (by kernel_rfl) rfl (fun K hK => ?_)
      unfold Oper.wp
      go_simp
      refine (Clone_any x.A x.n x.c _ w.heap.size x.r X1 jx bn).mono ?_
      rintro e X2 ⟨Ac, cc, rfl, hrow, hB2⟩
      have l1 : Boxed X2 ob 67 v := (hB2.block ob j1.lt).trans j1
      have lt : Boxed X2 w.heap.size 3 (.int .i64 T) := (hB2.block _ jt.lt).trans jt
      have l2 := own_below j2 hB2
      have l4 : RowsC X2 w.heap.size l' := fun i hi => (j4 i hi).below hB2
      have l5 : Boxed X2 (ob + 1) 40 va := (hB2.block _ j5.lt).trans j5
      have l6 : Boxed X2 (ob + 1 + 1) 40 vb := (hB2.block _ j6.lt).trans j6
      have lB := jB.trans (hB2.mono (by omega))
      have lK := jK.trans (KeepsOthers.mk hB2.size fun k o hk _ => by rw [← hk]; exact hB2.block k (Array.getElem?_eq_some_iff.1 hk).1)
      have lR := jR.trans (Bar.of_below (hB2.mono hWs') [ob])
      have hWs2 : ob + 3 ≤ X2.heap.size := Nat.le_trans hWs' hB2.size
      refine hK _ _ (fun _ => ⟨l1.cell, lt.cell⟩) ?_
      try simp only [Act.put]
      clear hK K hS j1 jt j2 j4 j5 j6 jB jK jR jx hB2
      have hS := And.intro l1.cell lt.cell
      refine Held.take (i := 5) (.agg #[.int .i64 T, .slice Ac x.n cc, .int .i64 fv]) rfl hS (by kernel_rfl) (by kernel_rfl) (by kernel_rfl) (by kernel_rfl) (fun _ _ _ h => h) rfl (fun y hy => by obtain ⟨y1, y2⟩ := hy; go_simp) ?_
      try simp only [Act.put]
      refine Held.one (i := 6) rfl (by kernel_rfl) rfl (fun K hK => ?_)
      have hS4 : (X2.alloc (.cells #[.int .i64 T, .slice Ac x.n cc, .int .i64 fv] 57)).cell? ⟨ob, 0, none⟩ = some v ∧ (X2.alloc (.cells #[.int .i64 T, .slice Ac x.n cc, .int .i64 fv] 57)).cell? ⟨w.heap.size, 0, none⟩ = some (.int .i64 T) :=
        ⟨(World.cell?_alloc_lt X2 _ ⟨ob, 0, none⟩ (by show ob < _; omega)).trans hS.1, (World.cell?_alloc_lt X2 _ ⟨w.heap.size, 0, none⟩ lt.lt).trans hS.2⟩
      have HS4 := hide hS4
      clear hS4
      unfold Oper.wp
      go_simp
      refine hK _ _ (fun _ => HS4.out) ?_
      try simp only [Act.put]
      clear hK K
      refine Held.one (i := 7) rfl (by kernel_rfl) rfl (fun K hK => ?_)
      have hrd : Reads (X2.alloc (.cells #[.int .i64 T, .slice Ac x.n cc, .int .i64 fv] 57)) (X2.heap.size + 1) 3 (some ⟨X2.heap.size, 0, none⟩) 1 [.int .i64 T, .slice Ac x.n cc, .int .i64 fv] :=
        ⟨rfl, fun _ => ⟨X2.heap.size, 0, rfl, by omega, fun j u hu => by
          have := (Blk.new X2 57 #[.int .i64 T, .slice Ac x.n cc, .int .i64 fv]).cell j
          rw [Nat.zero_add, this]; simpa using hu⟩⟩
      have hll : l'.length ≤ 800 := by
        have h1 := both_len f (pre.map datP)
        rw [← i3, List.length_map, List.length_map] at h1
        have h2 := hpx.length_le
        rw [List.length_append] at h2
        omega
      refine wp_append_any _ _ _ 67 rfl (ob + 3) 57 i0 _ 3 40 Tryz.underlying67 hi hz0 hz1 hz2 rfl (by decide) v l'.length _ rfl (l2.alloc _) (X2.heap.size + 1) (some ⟨X2.heap.size, 0, none⟩) 1 1 [.int .i64 T, .slice Ac x.n cc, .int .i64 fv] rfl hrd (by simp [Value.oneCell']) (by unfold maxLen; omega) (by omega) (by simp; omega) ?_
      intro v' X3 hown1 hgrow _
      obtain ⟨gr, capr, hvr⟩ := ownsRow_succ hown1
      subst hvr
      obtain ⟨o1, o2, o3, o4, o5⟩ := Boxed.collected l1 l2 hWs2 (by omega) hown1 hgrow
      have nrow : ∀ i : Ch, RowK X2 w.heap.size i.A i.n i.r → RowK (X3.setCell ⟨ob, 0, none⟩ (.slice (some ⟨gr, 0, none⟩) (l'.length + 1) capr)) w.heap.size i.A i.n i.r := fun i h =>
        ((h.alloc _).grown (l2.alloc _) (by decide) (by omega) hgrow).setCell (p := ⟨ob, 0, none⟩) o1 (by decide) (by show w.heap.size ≤ ob; omega) _
      have ot : X3.cell? ⟨w.heap.size, 0, none⟩ = some (.int .i64 T) := by
        have hne : some w.heap.size ≠ v.ownBlock := fun e => by have := (l2.lt _ e.symm).1; omega
        have h1 : Boxed X3 w.heap.size 3 (.int .i64 T) := (lt.alloc _).kept hgrow hne
        exact h1.cell
      refine hK _ _ (fun _ => ⟨o1.cell, ot⟩) ?_
      try simp only [Act.put]
      have fo := o1.frozen
      have ko := o1.cell
      clear hK K hS HS4 hrd
      refine Held.one (i := 8) rfl (by kernel_rfl) rfl (fun K hK => ?_)
      unfold Oper.wp
      go_simp
      refine hK _ _ (fun h => absurd rfl h) ?_
      try simp only [Act.put]
      clear hK K
      refine Held.done (by kernel_rfl) ?_
      have HFIN := hide (show KeepsFrom W3.heap.size W (X3.setCell ⟨ob, 0, none⟩ (.slice (some ⟨gr, 0, none⟩) (l'.length + 1) capr)) ∧ Bar (ob + 3) [ob] W (X3.setCell ⟨ob, 0, none⟩ (.slice (some ⟨gr, 0, none⟩) (l'.length + 1) capr)) ∧ OutC f T w.heap.size ob (pre ++ [x]) (X3.setCell ⟨ob, 0, none⟩ (.slice (some ⟨gr, 0, none⟩) (l'.length + 1) capr)) ∧ Below ob W2 (X3.setCell ⟨ob, 0, none⟩ (.slice (some ⟨gr, 0, none⟩) (l'.length + 1) capr)) from by
        refine ⟨(lK.trans o4).from _, lR.trans o5, ⟨⟨_, l' ++ [⟨T, Ac, x.n, cc, x.r, fv⟩], o2, ?_, ⟨?_, ?_⟩, ?_⟩, ⟨va, o5.boxed l5 (by omega) (by simp)⟩, ⟨vb, o5.boxed l6 (by omega) (by simp; omega)⟩⟩, lB.trans (o5.below (by omega) (by simp))⟩
        · rw [List.flatMap_append, List.length_append]
          exact o3
        · rw [List.map_append, i3, HE.out]; rfl
        · intro i hi
          rcases List.mem_append.1 hi with hi | hi
          · exact i3' i hi
          · obtain rfl : i = ⟨T, Ac, x.n, cc, x.r, fv⟩ := by simpa using hi
            rfl
        · intro i hi
          rcases List.mem_append.1 hi with hi | hi
          · exact nrow i (l4 i hi)
          · obtain rfl : i = ⟨T, Ac, x.n, cc, x.r, fv⟩ := by simpa using hi
            exact nrow _ hrow)
      clear o1 o2 o3 o4 o5 nrow fo ko ot hown1 hgrow l1 lt l2 l4 l5 l6 lB lK lR hrow
      gi_wp2
      exact HFIN.out
  case done =>
    rintro D W hD ⟨⟨⟨v, l, i1, i2, ⟨i3, i3'⟩, i4⟩, i5, ⟨vb, i6⟩⟩, hBW⟩ hK
    have kv := i1.cell
    obtain ⟨Ao, co, rfl, hro⟩ := own_form i2
    have hBwW : Below w.heap.size w W := hB02.trans (hBW.mono (by omega))
    have hDl := (Array.getElem?_eq_some_iff.1 hK).1
    rw [prI_dat] at i3
    have hl4 : l.length ≤ 400 := by
      have h := HDL.out
      rw [← i3, List.length_map] at h
      exact h
    have yr : Boxed W (w.heap.size + 1) 67 (.slice none 0 0) := (hBW.block _ (by omega)).trans zr
    have ye : Boxed W (w.heap.size + 1 + 1) 28 (.int .i64 0) := (hBW.block _ (by omega)).trans ze
    have kr := yr.cell
    have fr := yr.frozen
    have ye2 := Boxed.setOther ye (p := ⟨w.heap.size + 1, 0, none⟩) (by show w.heap.size + 1 + 1 ≠ w.heap.size + 1; omega) (.slice Ao l.length co)
    have ke := ye2.cell
    have fe := ye2.frozen
    have yr2 := yr.set (.slice Ao l.length co)
    have yr3 := Boxed.setOther yr2 (p := ⟨w.heap.size + 1 + 1, 0, none⟩) (by show w.heap.size + 1 ≠ w.heap.size + 1 + 1; omega) (.int .i64 0)
    have ye3 := ye2.set (.int .i64 0)
    have hKF : ((W.setCell ⟨w.heap.size + 1, 0, none⟩ (.slice Ao l.length co)).setCell ⟨w.heap.size + 1 + 1, 0, none⟩ (.int .i64 0)).heap[D]? = some (.deferred (some [])) :=
      (Below.heap_setCell _ _ _ D (by show D ≠ w.heap.size + 1 + 1; omega)).trans ((Below.heap_setCell _ _ _ D (by show D ≠ w.heap.size + 1; omega)).trans hK)
    have hBF : Below w.heap.size w ((W.setCell ⟨w.heap.size + 1, 0, none⟩ (.slice Ao l.length co)).setCell ⟨w.heap.size + 1 + 1, 0, none⟩ (.int .i64 0)) := (hBwW.setCell (p := ⟨w.heap.size + 1, 0, none⟩) (by show w.heap.size ≤ w.heap.size + 1; omega) _).setCell (p := ⟨w.heap.size + 1 + 1, 0, none⟩) (by show w.heap.size ≤ w.heap.size + 1 + 1; omega) _
    have hoF := ownsRow_setCell_below (ownsRow_setCell_below i2 (a := ⟨w.heap.size + 1, 0, none⟩) (by show w.heap.size + 1 < ob + 3; omega) (.slice Ao l.length co)) (a := ⟨w.heap.size + 1 + 1, 0, none⟩) (by show w.heap.size + 1 + 1 < ob + 3; omega) (.int .i64 0)
    have hrF : ∀ i ∈ l, RowK ((W.setCell ⟨w.heap.size + 1, 0, none⟩ (.slice Ao l.length co)).setCell ⟨w.heap.size + 1 + 1, 0, none⟩ (.int .i64 0)) w.heap.size i.A i.n i.r := fun i hi =>
      ((RowK.setCell (i4 i hi) (p := ⟨w.heap.size + 1, 0, none⟩) yr (by decide) (by show w.heap.size ≤ w.heap.size + 1; omega) _).setCell (p := ⟨w.heap.size + 1 + 1, 0, none⟩) ye2 (by decide) (by show w.heap.size ≤ w.heap.size + 1 + 1; omega) _)
    obtain ⟨WF, hWF⟩ : ∃ WF, (W.setCell ⟨w.heap.size + 1, 0, none⟩ (.slice Ao l.length co)).setCell ⟨w.heap.size + 1 + 1, 0, none⟩ (.int .i64 0) = WF := ⟨_, rfl⟩
    have HWF := hide hWF
    rw [hWF] at yr3 ye3 hKF hBF hoF hrF
    have HEND := hide (show RetChg w T (both f (prs (dat la) (dat lb))) (.returned (.tuple #[.slice Ao l.length co, .int .i64 0])) (WF.putObj D (.deferred none)) from by
      have hgp := grownBy_putObj' WF D (.deferred none)
      refine ⟨Ao, _, co, l, rfl, ⟨i3, i3'⟩, ⟨Reads.of_own (ownsRow_putObj hoF _ hKF rfl), fun i hi => (hrF i hi).keepCells (putObj_cells hKF rfl) (by simp [World.putObj]) (by have := hBF.size; simp [World.putObj]; omega), by omega⟩, hBF.grown hgp hBF.size (fun k e => by cases e; have := hB02.size; omega)⟩)
    have c1 : (WF.putObj D (.deferred none)).cell? ⟨w.heap.size + 1, 0, none⟩ = some (.slice Ao l.length co) := by
      rw [World.cell?_of_block (w := WF) (a := ⟨w.heap.size + 1, 0, none⟩) (World.putObj_heap_other (by show w.heap.size + 1 ≠ D; omega))]; exact yr3.cell
    have c2 : (WF.putObj D (.deferred none)).cell? ⟨w.heap.size + 1 + 1, 0, none⟩ = some (.int .i64 0) := by
      rw [World.cell?_of_block (w := WF) (a := ⟨w.heap.size + 1 + 1, 0, none⟩) (World.putObj_heap_other (by show w.heap.size + 1 + 1 ≠ D; omega))]; exact ye3.cell
    have q4 : ¬ (400 : Int) < (l.length : Int) := by omega
    have C1 := hide c1
    have C2 := hide c2
    have KF := hide hKF
    clear hWF c1 c2 hKF yr3 ye3 hBF hoF hrF i2 i4 i5 i6 hro
    gi_wp2
    rw [HWF.out]
    refine ⟨by simp, .inl ⟨_, _, rfl, run_takeDeferred KF.out, ?_⟩⟩
    refine ⟨_, res_two rfl rfl C1.out C2.out, ?_⟩
    have h := HEND.out
    rw [HF.out] at h
    exact h
  case stop =>
    rintro D c pre W _ _ h _
    exact h.elim
end

section
open Go.RowKit
attribute [local go_sem] Oper.semAt_some

theorem neVal (a : Int) (b : Int) (s : ByteArray) (w : World) : (binOp .neq 102 (.agg #[.int .i64 a, .int .i64 b, .string s]) (.agg #[.int .i64 a, .int .i64 b, .string s])).run Tryz.prog w = .ok (.bool false) w := by
  have u3 := Tryz.underlying3
  have a3 := Tryz.isAgg3
  have z3 := Tryz.sizeOf3
  have u9 := Tryz.underlying9
  have a9 := Tryz.isAgg9
  have z9 := Tryz.sizeOf9
  have hS : Tryz.prog.underlying 102 = some (.struct (Tryz.prog.fieldsOf 102)) := by kernel_rfl
  have hp : Tryz.prog.stoodInHeld 102 = false := by kernel_rfl
  rw [run_neq_struct, show (10000 : Nat) = 9999 + 1 from rfl, run_equalIn_agg w 9999 102 _ _ hS hp]
  simp only [Program.fieldsOf, Tryz.underlying102]
  go_simp
set_option maxRecDepth 100000 in
set_option maxHeartbeats 2000000 in
theorem RowSame_one (A : Option Addr) (n c : Nat) (A' : Option Addr) (c' : Nat) (r : Rw) (w : World) (hx : Reads w w.heap.size 3 A n (r.flatMap encV)) (hy : Reads w w.heap.size 3 A' n (r.flatMap encV)) (hn : n ≤ 9223372036854775807) :
    Calls Tryz.prog 80 #[.slice A n c, .slice A' n c'] w (RetV w (.bool true)) := by
  have HL := hide (hx.len encV_len (by omega))
  have hm : Tryz.prog.eqGuardType Tryz.prog.depth 102 = false := by kernel_rfl
  have hne := neVal
  have n1 : ((n : Int) != (n : Int)) = false := by simp
  go_enter Tryz.func80, Tryz.ntmps80
  go_wp2_with fail
  go_loopw [5] (fun i wr => ∃ k : Nat, k ≤ n ∧ i = .int .i64 k ∧ Below w.heap.size w wr) (fun i _ => n - (intOf i).toNat)
  case atStart => exact ⟨0, Nat.zero_le _, rfl, Below.refl _ _⟩
  case round =>
    obtain ⟨k, hk, rfl, hB⟩ := hrel
    by_cases hlt : k < n
    · obtain ⟨b, off, e, rfl, hb, hek, hce⟩ := (hx.below hB).elem encV_len HL.out hlt
      obtain ⟨b', off', e', rfl, hb', hek', hce'⟩ := (hy.below hB).elem encV_len HL.out hlt
      obtain rfl : e = e' := by rw [hek] at hek'; injection hek'
      have e0 : wr.cell? ⟨b, off + k * 3, none⟩ = some (.int .i64 e.k) := by simpa using hce 0 _ rfl
      have e1 : wr.cell? ⟨b, off + k * 3 + 1, none⟩ = some (.int .i64 e.n) := by simpa [← Nat.add_assoc] using hce 1 _ rfl
      have e2 : wr.cell? ⟨b, off + k * 3 + 2, none⟩ = some (.string e.s) := by simpa [← Nat.add_assoc] using hce 2 _ rfl
      have f0 : wr.cell? ⟨b', off' + k * 3, none⟩ = some (.int .i64 e.k) := by simpa using hce' 0 _ rfl
      have f1 : wr.cell? ⟨b', off' + k * 3 + 1, none⟩ = some (.int .i64 e.n) := by simpa [← Nat.add_assoc] using hce' 1 _ rfl
      have f2 : wr.cell? ⟨b', off' + k * 3 + 2, none⟩ = some (.string e.s) := by simpa [← Nat.add_assoc] using hce' 2 _ rfl
      clear hce hce' hek hek'
      have q1 : (0 : Int) ≤ (k : Int) := by omega
      have q2 : (k : Int) < (n : Int) := by omega
      go_wp2_with fail
      go_quiet (fail)
      go_wp2
      go_roundw
      case rel => exact ⟨k + 1, by omega, by go_num, below_drewN hB _⟩
      case measure => simp [intOf]; omega
    · obtain rfl : k = n := by omega
      go_wp2
      go_ret
      exact ⟨rfl, hB⟩
set_option maxRecDepth 100000 in
set_option maxHeartbeats 4000000 in
theorem BagSame_one (A : Option Addr) (n c : Nat) (A' : Option Addr) (c' B B' : Nat) (l l' : List It) (w : World) (hx : BagR w B A n l) (hy : BagR w B' A' n l') (hd : dat l = dat l') :
    Calls Tryz.prog 24 #[.slice A n c, .slice A' n c'] w (RetV w (.bool true)) := by
  have hn := hx.le
  have n1 : ((n : Int) != (n : Int)) = false := by simp
  go_enter Tryz.func24, Tryz.ntmps24
  go_wp2_with fail
  go_loopw [5] (fun i wr => ∃ k : Nat, k ≤ n ∧ i = .int .i64 k ∧ Below w.heap.size w wr) (fun i _ => n - (intOf i).toNat)
  case atStart => exact ⟨0, Nat.zero_le _, rfl, Below.refl _ _⟩
  case round =>
    obtain ⟨k, hk, rfl, hB⟩ := hrel
    by_cases hlt : k < n
    · obtain ⟨b, off, x, rfl, hb, hxk, c0, c1, hrow⟩ := (hx.below hB).at_ hlt
      obtain ⟨b', off', x', rfl, hb', hxk', c0', c1', hrow'⟩ := (hy.below hB).at_ hlt
      have he : (x.r, x.m) = (x'.r, x'.m) := by
        have h1 := dat_at hxk
        have h2 := dat_at hxk'
        rw [hd, h2] at h1
        injection h1 with h1
        exact h1.symm
      injection he with he1 he2
      have hl : x.n = x'.n := by rw [← hrow.len, ← hrow'.len, he1]
      rw [← he2] at c1'
      rw [← hl] at c0'
      have n2 : (x.m != x.m) = false := by simp
      have C1 := hide (fun (p : BW wr) => calls_bw (p := p) (RowSame_one x.A x.n x.c x'.A x'.c x.r p.x (hrow.below p.h).rd (by have h := (hrow'.below p.h).rd; rw [← he1, ← hl] at h; exact h) hrow.le))
      have p0 := fun (p : BW wr) => BW.cell (a := ⟨b, off + k * 2, none⟩) hb c0 p
      have p1 := fun (p : BW wr) => BW.cell (a := ⟨b, off + k * 2 + 1, none⟩) hb c1 p
      have r0 := fun (p : BW wr) => BW.cell (a := ⟨b', off' + k * 2, none⟩) hb' c0' p
      have r1 := fun (p : BW wr) => BW.cell (a := ⟨b', off' + k * 2 + 1, none⟩) hb' c1' p
      clear c0 c1 c0' c1' hxk hxk' he1 he2 hl hrow hrow'
      have q1 : (0 : Int) ≤ (k : Int) := by omega
      have q2 : (k : Int) < (n : Int) := by omega
      go_wp2_with fail
      (refine wp_region_quiet_bw (by kernel_rfl) (by kernel_rfl) ?_
       repeat (first | go_big_quiet_step (((go_at_call 80; exact C1.out _))) | quiet_step (((go_at_call 80; exact C1.out _))))
       refine wpQuiet_nil ?_
       intro wq hw'
       obtain ⟨⟨_, hbq⟩, hw''⟩ := hw'
       subst hw'')
      have hB2 := bstep hB hbq
      clear hbq hB p0 p1 r0 r1 C1
      go_wp2
      go_roundw
      case rel => exact ⟨k + 1, by omega, by go_num, hB2⟩
      case measure => simp [intOf]; omega
    · obtain rfl : k = n := by omega
      go_wp2
      go_ret
      exact ⟨rfl, hB⟩

/-- Long answers. -/
def RetSome (w : World) (e : Ending) (w' : World) : Prop := ∃ b : Bool, e = .returned (.bool b) ∧ Below w.heap.size w w'
set_option maxRecDepth 100000 in
set_option maxHeartbeats 2000000 in
theorem Long_one (A : Option Addr) (n c : Nat) (r : Rw) (a : Nat) (w : World) (hx : Reads w w.heap.size 3 A n (r.flatMap encV)) (hn : n ≤ 9223372036854775807) (ha : w.cell? ⟨a, 0, none⟩ = some (.slice A n c)) :
    Calls Tryz.prog 59 #[.slice (some ⟨a, 0, none⟩) 1 1] w (RetSome w) := by
  have HL := hide (hx.len encV_len (by omega))
  go_enter Tryz.func59, Tryz.ntmps59
  go_wp2_with fail
  go_loopw [3, 4] (fun s i wr => ∃ (k : Nat) (x : Int), k ≤ 1 ∧ s = .int .i64 x ∧ i = .int .i64 k ∧ wr = w) (fun _ i _ => 1 - (intOf i).toNat)
  case atStart => exact ⟨0, 0, Nat.zero_le _, rfl, rfl, rfl⟩
  case round =>
    obtain ⟨k, x, hk, rfl, rfl, rfl⟩ := hrel
    by_cases hlt : k < 1
    · obtain rfl : k = 0 := by omega
      go_wp2_with fail
      go_loopw [3, 5] (fun s i wr' => ∃ (k : Nat) (x : Int), k ≤ n ∧ s = .int .i64 x ∧ i = .int .i64 k ∧ wr' = wr) (fun _ i _ => n - (intOf i).toNat)
      case atStart => exact ⟨0, _, Nat.zero_le _, rfl, rfl, rfl⟩
      case round =>
        obtain ⟨j, y, hj, rfl, rfl, hw⟩ := hrel
        subst hw
        by_cases hlt2 : j < n
        · obtain ⟨b, off, e, rfl, hb, hek, hce⟩ := hx.elem encV_len HL.out hlt2
          have e2 := hce 2 _ rfl
          have e2' := e2
          rw [show off + (j * 3 + 2) = off + j * 3 + 2 by omega] at e2'
          clear hce hek
          have q1 : (0 : Int) ≤ (j : Int) := by omega
          have q2 : (j : Int) < (n : Int) := by omega
          go_wp2
          go_roundw
          case rel => exact ⟨j + 1, _, by omega, rfl, by go_num, trivial⟩
          case measure => simp [intOf]; omega
        · obtain rfl : j = n := by omega
          go_wp2
          go_roundw
          case rel => exact ⟨1, _, by omega, rfl, by go_num, trivial⟩
          case measure => simp [intOf]
    · obtain rfl : k = 1 := by omega
      go_wp2
      go_ret
      exact ⟨_, rfl, Below.refl _ _⟩
end

section
open Go.RowKit
attribute [local go_sem] Oper.semAt_some

structure Bn where
  A : Option Addr
  n : Nat
  c : Nat
  l : List It
def RetFew (w : World) (bs : List Bn) (e : Ending) (w' : World) : Prop := ∃ b : Bool, e = .returned (.bool b) ∧ (b = true → ∀ x ∈ bs, x.n ≤ 60) ∧ Below w.heap.size w w'
set_option maxRecDepth 100000 in
set_option maxHeartbeats 4000000 in
theorem Few_any (bs : List Bn) (m a : Nat) (w : World) (hl : bs.length = m) (hm : m ≤ 100) (hb : ∀ i x, bs[i]? = some x → w.cell? ⟨a, i, none⟩ = some (.slice x.A x.n x.c) ∧ BagR w w.heap.size x.A x.n x.l) :
    Calls Tryz.prog 21 #[.slice (some ⟨a, 0, none⟩) m m] w (RetFew w bs) := by
  have HB := hide hb
  have HL := hide hl
  clear hb hl
  go_enter Tryz.func21, Tryz.ntmps21
  go_wp2_with fail
  go_loopw [3] (fun i wr => ∃ k : Nat, k ≤ m ∧ i = .int .i64 k ∧ (∀ x ∈ bs.take k, x.n ≤ 60) ∧ Below w.heap.size w wr) (fun i _ => m - (intOf i).toNat)
  case atStart => exact ⟨0, Nat.zero_le _, rfl, by simp, Below.refl _ _⟩
  case round =>
    obtain ⟨k, hk, rfl, hsm, hB⟩ := hrel
    have HS := hide hsm
    clear hsm
    by_cases hlt : k < m
    · obtain ⟨x, hx⟩ : ∃ x, bs[k]? = some x := ⟨_, List.getElem?_eq_getElem (by rw [HL.out]; exact hlt)⟩
      obtain ⟨hc, hbag⟩ := HB.out k x hx
      have HX := hide hx
      have hal := World.block_lt_of_cell? w _ hc
      simp only at hal
      have hle := hbag.le
      have q1 : (0 : Int) ≤ (k : Int) := by omega
      have q2 : (k : Int) < (m : Int) := by omega
      clear hx
      have c0 := (hB.cell (p := ⟨a, k, none⟩) hal).trans hc
      go_wp2_with fail
      clear c0
      go_loopw [4] (fun i wr' => ∃ j : Nat, j ≤ x.n ∧ i = .int .i64 j ∧ Below w.heap.size w wr') (fun i _ => x.n - (intOf i).toNat)
      case atStart => exact ⟨0, Nat.zero_le _, rfl, hB⟩
      case round =>
        clear hB
        obtain ⟨j, hj, rfl, hB⟩ := hrel
        have c0 := (hB.cell (p := ⟨a, k, none⟩) hal).trans hc
        by_cases hlt2 : j < x.n
        · obtain ⟨b, off, y, hA, hb', hyj, d0, d1, hrow⟩ := (hbag.below hB).at_ hlt2
          have q3 : (0 : Int) ≤ (j : Int) := by omega
          have q4 : (j : Int) < (x.n : Int) := by omega
          have hB1 := below_val (w := wr) #[.slice y.A y.n y.c] 34
          have hrow1 := hrow.below hB1
          have nb := (Blk.new wr 34 #[.slice y.A y.n y.c]).cell 0
          have hB2 := hB.trans (hB1.mono hB.size)
          rw [hA] at c0
          clear d1 hyj hrow
          go_wp2_with fail
          refine (Long_one y.A y.n y.c y.r wr.heap.size _ hrow1.rd hrow1.le nb).mono ?_
          rintro e W2 ⟨bb, rfl, hB3⟩
          have HE := hide (hB2.trans (hB3.mono hB2.size))
          clear hB3 hB2 hB1 nb hrow1 c0 d0 hB
          cases bb
          · go_wp2
            go_roundw
            case rel => exact ⟨j + 1, by omega, by go_num, HE.out⟩
            case measure => simp [intOf]; omega
          · go_wp2
            go_ret
            exact ⟨false, rfl, by simp, HE.out⟩
        · obtain rfl : j = x.n := by omega
          by_cases h60 : 60 < x.n
          · go_wp2
            go_ret
            exact ⟨false, rfl, by simp, hB⟩
          · have HS2 := hide (show ∀ y ∈ bs.take (k + 1), y.n ≤ 60 from fun y hy => by
              rw [take_snoc' HX.out] at hy
              rcases List.mem_append.1 hy with hy | hy
              · exact HS.out y hy
              · obtain rfl : y = x := by simpa using hy
                omega)
            go_wp2
            go_roundw
            case rel => exact ⟨k + 1, by omega, by go_num, HS2.out, hB⟩
            case measure => simp [intOf]; omega
    · obtain rfl : k = m := by omega
      have HS2 := hide (show ∀ y ∈ bs, y.n ≤ 60 from by have h := HS.out; rwa [take_all HL.out] at h)
      go_wp2
      go_ret
      exact ⟨true, rfl, fun _ => HS2.out, hB⟩
end

section
open Go.RowKit
attribute [local go_sem] Oper.semAt_some

theorem ChgR.at_ {w : World} {B n : Nat} {A : Option Addr} {l : List Ch} (h : ChgR w B A n l) {k : Nat} (hk : k < n) : ∃ b off i, A = some ⟨b, off, none⟩ ∧ b < w.heap.size ∧ l[k]? = some i ∧ w.cell? ⟨b, off + k * 3, none⟩ = some (.int .i64 i.t) ∧
    w.cell? ⟨b, off + k * 3 + 1, none⟩ = some (.slice i.A i.n i.c) ∧ w.cell? ⟨b, off + k * 3 + 2, none⟩ = some (.int .i64 i.m) ∧ RowK w B i.A i.n i.r := by
  obtain ⟨b, off, i, e, hb, hi, hc⟩ := h.rd.elem encCh_len (h.rd.len encCh_len (by omega)) hk
  exact ⟨b, off, i, e, hb, hi, by simpa using hc 0 _ rfl, by simpa [← Nat.add_assoc] using hc 1 _ rfl, by simpa [← Nat.add_assoc] using hc 2 _ rfl, h.rows i (List.mem_of_getElem? hi)⟩
theorem ChgR.below {w w' : World} {B n : Nat} {A : Option Addr} {l : List Ch} (h : ChgR w B A n l) (hb : Below w.heap.size w w') : ChgR w' B A n l := ⟨h.rd.up hb, fun i hi => (h.rows i hi).below hb, h.le⟩
def datC (l : List Ch) : List (Rw × Int × Int) := l.map fun i => (i.r, i.t, i.m)
set_option maxRecDepth 100000 in
set_option maxHeartbeats 8000000 in
theorem ChgSame_one (A : Option Addr) (n c : Nat) (A' : Option Addr) (c' B B' : Nat) (l l' : List Ch) (w : World) (hx : ChgR w B A n l) (hy : ChgR w B' A' n l') (hd : datC l = datC l') :
    Calls Tryz.prog 41 #[.slice A n c, .slice A' n c'] w (RetV w (.bool true)) := by
  have hn := hx.le
  have n1 : ((n : Int) != (n : Int)) = false := by simp
  go_enter Tryz.func41, Tryz.ntmps41
  go_wp2_with fail
  go_loopw [5] (fun i wr => ∃ k : Nat, k ≤ n ∧ i = .int .i64 k ∧ Below w.heap.size w wr) (fun i _ => n - (intOf i).toNat)
  case atStart => exact ⟨0, Nat.zero_le _, rfl, Below.refl _ _⟩
  case round =>
    obtain ⟨k, hk, rfl, hB⟩ := hrel
    by_cases hlt : k < n
    · obtain ⟨b, off, x, rfl, hb, hxk, c0, c1, c2, hrow⟩ := (hx.below hB).at_ hlt
      obtain ⟨b', off', x', rfl, hb', hxk', c0', c1', c2', hrow'⟩ := (hy.below hB).at_ hlt
      have he : (x.r, x.t, x.m) = (x'.r, x'.t, x'.m) := by
        have h1 : (datC l)[k]? = some (x.r, x.t, x.m) := by unfold datC; rw [List.getElem?_map, hxk]; rfl
        have h2 : (datC l')[k]? = some (x'.r, x'.t, x'.m) := by unfold datC; rw [List.getElem?_map, hxk']; rfl
        rw [hd, h2] at h1
        injection h1 with h1
        exact h1.symm
      injection he with he1 he2
      injection he2 with he2 he3
      have hl : x.n = x'.n := by rw [← hrow.len, ← hrow'.len, he1]
      rw [← he2] at c0'
      rw [← hl] at c1'
      rw [← he3] at c2'
      have n2 : (x.m != x.m) = false := by simp
      have n3 : (x.t != x.t) = false := by simp
      have C1 := hide (fun (p : BW wr) => calls_bw (p := p) (RowSame_one x.A x.n x.c x'.A x'.c x.r p.x (hrow.below p.h).rd (by have h := (hrow'.below p.h).rd; rw [← he1, ← hl] at h; exact h) hrow.le))
      have p0 := fun (p : BW wr) => BW.cell (a := ⟨b, off + k * 3, none⟩) hb c0 p
      have p1 := fun (p : BW wr) => BW.cell (a := ⟨b, off + k * 3 + 1, none⟩) hb c1 p
      have p2 := fun (p : BW wr) => BW.cell (a := ⟨b, off + k * 3 + 2, none⟩) hb c2 p
      have r0 := fun (p : BW wr) => BW.cell (a := ⟨b', off' + k * 3, none⟩) hb' c0' p
      have r1 := fun (p : BW wr) => BW.cell (a := ⟨b', off' + k * 3 + 1, none⟩) hb' c1' p
      have r2 := fun (p : BW wr) => BW.cell (a := ⟨b', off' + k * 3 + 2, none⟩) hb' c2' p
      clear c0 c1 c2 c0' c1' c2' hxk hxk' he1 he2 he3 hl hrow hrow'
      have q1 : (0 : Int) ≤ (k : Int) := by omega
      have q2 : (k : Int) < (n : Int) := by omega
      go_wp2_with fail
      (refine wp_region_quiet_bw (by kernel_rfl) (by kernel_rfl) ?_
       repeat (first | go_big_quiet_step (((go_at_call 80; exact C1.out _))) | quiet_step (((go_at_call 80; exact C1.out _))))
       refine wpQuiet_nil ?_
       intro wq hw'
       obtain ⟨⟨_, hbq⟩, hw''⟩ := hw'
       subst hw'')
      have hB2 := bstep hB hbq
      clear hbq hB p0 p1 p2 r0 r1 r2 C1
      go_wp2
      go_roundw
      case rel => exact ⟨k + 1, by omega, by go_num, hB2⟩
      case measure => simp [intOf]; omega
    · obtain rfl : k = n := by omega
      go_wp2
      go_ret
      exact ⟨rfl, hB⟩

/-! The example. -/
def oneR : Rw := [⟨1, 1, ByteArray.empty⟩]
theorem oneR_ok : okR oneR = true := by decide
theorem one_bag {k : Int} (hk : numB k = true) : okBag [(oneR, k)] = true := by
  unfold okBag
  rw [ascI, ascI, hk, oneR_ok]; rfl
theorem one_prs (a b : Int) : prs [(oneR, a)] [(oneR, b)] = [(oneR, a, b)] := by
  have h := Tot.row.self oneR
  rw [prs, if_neg (by show ¬ cmpR oneR oneR < 0; omega), if_neg (by show ¬ 0 < cmpR oneR oneR; omega), prs]
  rfl
theorem row_one {w : World} {b : Nat} (h : Blk w b 102 #[.int .i64 1, .int .i64 1, .string ByteArray.empty]) (B : Nat) : RowK w B (some ⟨b, 0, none⟩) 1 oneR :=
  ⟨⟨rfl, fun _ => ⟨b, 0, rfl, h.lt, fun j u hu => by rw [Nat.zero_add, h.cell]; simpa [oneR, encV] using hu⟩⟩, fun _ b' off m e => by
    injection e with e
    injection e with e1
    subst e1
    exact .inr ⟨_, _, h⟩, by omega⟩
theorem bag_one {w : World} {b g : Nat} {k : Int} (h : Blk w g 119 #[.slice (some ⟨b, 0, none⟩) 1 1, .int .i64 k]) (hr : RowK w w.heap.size (some ⟨b, 0, none⟩) 1 oneR) : BagR w w.heap.size (some ⟨g, 0, none⟩) 1 [⟨some ⟨b, 0, none⟩, 1, 1, oneR, k⟩] :=
  ⟨⟨rfl, fun _ => ⟨g, 0, rfl, h.lt, fun j u hu => by rw [Nat.zero_add, h.cell]; simpa [encIt] using hu⟩⟩, fun i hi => by
    obtain rfl : i = ⟨some ⟨b, 0, none⟩, 1, 1, oneR, k⟩ := by simpa using hi
    exact hr, by omega⟩
end

end Go.Proofs.YtoapjidpfghnlaaGreatDoor
