/-
  The walk of bag.both: two bags put together, row by row, by whatever function of two numbers.
  The library's strconv.Itoa, strings.Join and strings.Builder by the shelf's contracts (the layings printed by lay-plain, turned to names by lay2tpl).
  (In seats that hold the bag's texts: these stand in BgR1 and BgR2.)
  The walk of the program's quoted.
  The walks of the reference's functions over values: within, ValidValue, class.
-/
import Derived.Test.YtoapjidpfghnlaaGreatDoorGb
import Derived.Test.YtoapjidpfghnlaaGreatDoorRngH
import Derived.Shelf.Abstract
import Derived.Shelf.Strings.OnBuilder
import Derived.Shelf.Strings.BuilderK
import Derived.Shelf.Strconv.Itoa3
import Derived.Shelf.LaysM
import Derived.Lib.AppendIntMem
import Derived.Test.YtoapjidpfghnlaaGreatDoorQbw
import Derived.Test.YtoapjidpfghnlaaGreatDoorProg
import Derived.Deep.CutRange
import Derived.Deep.CutBlock
import Derived.Test.YtoapjidpfghnlaaGreatDoorBgP1
namespace Go.Proofs.YtoapjidpfghnlaaGreatDoor

section
open Go.RowKit Go.Shelf
attribute [local go_sem] Oper.semAt_some wide_fn wide_depth

/-- What lies in memory between two rounds: box ob holds what was put together so far. -/
structure OutI (f : Int → Int → Int) (B ob : Nat) (pre : List Pe) (W : World) : Prop where
  ow : ∃ (v : Value) (l : List It), Boxed W ob 40 v ∧ W.ownsRow (ob + 3) 119 2 v l.length (l.flatMap encIt) ∧ dat l = both f (pre.map datP) ∧ Rows_ W B l
  a : ∃ v, Boxed W (ob + 1) 40 v
  b : ∃ v, Boxed W (ob + 1 + 1) 40 v
theorem OutI.lt {f : Int → Int → Int} {B ob : Nat} {pre : List Pe} {W : World} (h : OutI f B ob pre W) : ob + 1 + 1 < W.heap.size := by obtain ⟨v, hv⟩ := h.b; exact hv.lt
theorem OutI.below {f : Int → Int → Int} {B ob : Nat} {pre : List Pe} {W W' : World} (h : OutI f B ob pre W) (hb : Below W.heap.size W W') : OutI f B ob pre W' := by
  obtain ⟨⟨v, l, h1, h2, h3, h4⟩, ⟨va, h5⟩, ⟨vb, h6⟩⟩ := h
  exact ⟨⟨v, l, (hb.block _ h1.lt).trans h1, own_below h2 hb, h3, h4.below hb⟩, ⟨va, (hb.block _ h5.lt).trans h5⟩, ⟨vb, (hb.block _ h6.lt).trans h6⟩⟩
theorem blk_own {W W' : World} {g : Nat} {t : TypeId} {cs : Array Value} {row : Option Nat} (h : Blk W g t cs) (hg : W.grownBy W' row) (hr : ∀ r, row = some r → ∃ o : Obj, W.heap[r]? = some o ∧ o.isCells = false) : Blk W' g t cs :=
  h.grown hg fun e => by
    obtain ⟨o, ho, hc⟩ := hr g e.symm
    rw [show W.heap[g]? = _ from h] at ho
    cases ho; cases hc
theorem RowK.others {w w' : World} {B n : Nat} {A : Option Addr} {r : Rw} {row : Option Nat} (h : RowK w B A n r) (hg : w.grownBy w' row) (hr : ∀ k, row = some k → B ≤ k ∧ ∃ o : Obj, w.heap[k]? = some o ∧ o.isCells = false) : RowK w' B A n r :=
  h.keep (p := fun k => row = some k) (fun k hk hp => hg.block k hk fun e => hp e.symm) hg.size fun k hk => by
    obtain ⟨h1, o, h2, h3⟩ := hr k hk
    refine ⟨h1, fun c fz hc => ?_⟩
    rw [h2] at hc
    cases hc; cases h3
theorem outI_from {f : Int → Int → Int} {B ob C : Nat} (hC : B ≤ C) : OwnFrom C (fun (pre : List Pe) W => OutI f B ob pre W) := by
  intro pre X Y row h hg hr
  obtain ⟨⟨v, l, h1, h2, h3, h4⟩, ⟨va, h5⟩, ⟨vb, h6⟩⟩ := h
  have hr2 : ∀ k, row = some k → ∃ o : Obj, X.heap[k]? = some o ∧ o.isCells = false := fun k e => (hr k e).2
  have bx : ∀ {b : Nat} {u : Value}, Boxed X b 40 u → Boxed Y b 40 u := fun hb => blk_own hb hg hr2
  refine ⟨⟨v, l, bx h1, h2.kept hg ?_, h3, fun i hi => (h4 i hi).others hg fun k e => ⟨Nat.le_trans hC (hr k e).1, (hr k e).2⟩⟩, ⟨va, bx h5⟩, ⟨vb, bx h6⟩⟩
  cases hv : v.ownBlock with
  | none => exact .inl rfl
  | some b =>
    refine .inr fun e => ?_
    obtain ⟨c, fz, hc⟩ := own_cells h2 hv
    obtain ⟨o, ho, hcc⟩ := hr2 b e.symm
    rw [hc] at ho
    cases ho; cases hcc
theorem OutI.wr {f : Int → Int → Int} {B ob : Nat} {pre : List Pe} {X Y : World} (h : OutI f B ob pre X) (k : WrQ (ob + 1) (ob + 1 + 1) X Y) (hB : B ≤ ob) : OutI f B ob pre Y := by
  obtain ⟨⟨v, l, h1, h2, h3, h4⟩, ⟨va, h5⟩, ⟨vb, h6⟩⟩ := h
  have hbl : ∀ b, b < X.heap.size → b ≠ ob + 1 → b ≠ ob + 1 + 1 → Y.heap[b]? = X.heap[b]? := fun b hb n1 n2 => k.wr.bar.block b hb (by simp; omega)
  refine ⟨⟨v, l, (hbl ob h1.lt (by omega) (by omega)).trans h1, ⟨h2.1, ?_⟩, h3, fun i hi => ?_⟩, k.a, k.b⟩
  · rcases h2.2 with e | ⟨g, cap, cur, e1, e2, e3, e4⟩
    · exact .inl e
    · exact .inr ⟨g, cap, cur, e1, e2, (hbl g (Array.getElem?_eq_some_iff.1 e3).1 (by omega) (by omega)).trans e3, e4⟩
  · refine (h4 i hi).keep (p := fun b => b = ob + 1 ∨ b = ob + 1 + 1) (fun b hb hn => hbl b hb (fun e => hn (.inl e)) (fun e => hn (.inr e))) k.wr.bar.size fun b hb => ⟨by omega, fun c fz hc => ?_⟩
    rcases hb with rfl | rfl
    · rw [show X.heap[ob + 1]? = _ from h5] at hc
      cases hc
    · rw [show X.heap[ob + 1 + 1]? = _ from h6] at hc
      cases hc
theorem both_snoc (f : Int → Int → Int) (l : List Pr2) (t : Pr2) : both f (l ++ [t]) = both f l ++ (if f t.2.1 t.2.2 = 0 then [] else [(t.1, f t.2.1 t.2.2)]) := by
  induction l with
  | nil => simp only [List.nil_append, both]
  | cons s l ih =>
    rw [List.cons_append, both, both, ih]
    split <;> simp
theorem both_len (f : Int → Int → Int) : ∀ l : List Pr2, (both f l).length ≤ l.length
  | [] => Nat.le_refl _
  | t :: l => by
    have := both_len f l
    rw [both]
    split <;> simp <;> omega
theorem own_cap {w : World} {base : Nat} {e : TypeId} {size n c : Nat} {A : Option Addr} {xs : List Value} (h : w.ownsRow base e size (.slice A n c) n xs) : n ≤ c := by
  rcases h.2 with ⟨h1, _⟩ | ⟨g, cap, cur, h1, _, _, h4, _⟩
  · injection h1 with _ h2 h3
    omega
  · injection h1 with _ _ h3
    subst h3
    exact h4
theorem cell_is {w : World} {b o : Nat} {v : Value} (h : w.cell? ⟨b, o, none⟩ = some v) : ∃ ob : Obj, w.heap[b]? = some ob ∧ ob.isCells = true := by
  unfold World.cell? at h
  split at h <;> simp_all [Obj.isCells]
section
variable {w w' : World}
theorem Reads.keepCells {s n : Nat} {A : Option Addr} {xs : List Value} (h : Reads w w.heap.size s A n xs) (hk : ∀ (k : Nat) (o : Obj), w.heap[k]? = some o → o.isCells = true → w'.heap[k]? = some o) (hs : w.heap.size ≤ w'.heap.size) : Reads w' w'.heap.size s A n xs := by
  refine ⟨h.1, fun h0 => ?_⟩
  obtain ⟨b, off, e, hb, hc⟩ := h.2 h0
  refine ⟨b, off, e, by omega, fun j u hu => ?_⟩
  have h1 := hc j u hu
  obtain ⟨ob, ho, hcc⟩ := cell_is h1
  rw [World.cell?_of_block (w := w) (w' := w') (a := ⟨b, off + j, none⟩) (by show w'.heap[b]? = w.heap[b]?; rw [ho]; exact hk b ob ho hcc)]
  exact h1
theorem RowK.keepCells {B B' n : Nat} {A : Option Addr} {r : Rw} (h : RowK w B A n r) (hk : ∀ (k : Nat) (o : Obj), w.heap[k]? = some o → o.isCells = true → w'.heap[k]? = some o) (hs : w.heap.size ≤ w'.heap.size) (hB : B ≤ B') : RowK w' B' A n r :=
  ⟨h.rd.keepCells hk hs, fun h0 b off m e => by
    rcases h.at_ h0 b off m e with h1 | ⟨c, fz, h1⟩
    · exact .inl (by omega)
    · exact .inr ⟨c, fz, hk b _ h1 rfl⟩, h.le⟩
theorem BagR.keepCells {n : Nat} {A : Option Addr} {l : List It} (h : BagR w w.heap.size A n l) (hk : ∀ (k : Nat) (o : Obj), w.heap[k]? = some o → o.isCells = true → w'.heap[k]? = some o) (hs : w.heap.size ≤ w'.heap.size) : BagR w' w'.heap.size A n l :=
  ⟨h.rd.keepCells hk hs, fun i hi => (h.rows i hi).keepCells hk hs hs, h.le⟩
end
theorem putObj_cells {w : World} {D : Nat} {o o' : Obj} (h : w.heap[D]? = some o) (ho : o.isCells = false) : ∀ (k : Nat) (x : Obj), w.heap[k]? = some x → x.isCells = true → (w.putObj D o').heap[k]? = some x := by
  intro k x hx hc
  have hne : k ≠ D := fun e => by subst e; rw [h] at hx; cases hx; rw [ho] at hc; cases hc
  rw [← hx]
  simp [World.putObj, Array.getElem?_setIfInBounds]
  omega
theorem pr_bound {la lb : List It} {w : World} {B : Nat} (h1 : Asc (dat la)) (h2 : ∀ x ∈ dat la, numB x.2 = true) (h3 : Asc (dat lb)) (h4 : ∀ x ∈ dat lb, numB x.2 = true) (h5 : Rows_ w B la) (h6 : Rows_ w B lb) :
    ∀ x ∈ prI la lb, (-1000000 ≤ x.m ∧ x.m ≤ 1000000) ∧ (-1000000 ≤ x.k ∧ x.k ≤ 1000000) ∧ x.n ≤ 1000 := by
  have hp := prs_ok _ _ h1 h3
  have lk : ∀ (d : Bg), (∀ x ∈ d, numB x.2 = true) → ∀ r, -1000000 ≤ look d r ∧ look d r ≤ 1000000 := fun d hd r => by
    induction d with
    | nil => unfold look; omega
    | cons y d ih =>
      rw [look]
      split
      · have := numB_ne (hd y (by simp)); omega
      · exact ih fun z hz => hd z (List.mem_cons_of_mem _ hz)
  intro x hx
  have hm : datP x ∈ prs (dat la) (dat lb) := by rw [← prI_dat]; exact List.mem_map_of_mem hx
  obtain ⟨v1, v2⟩ := hp.val _ hm
  have k1 := lk _ h2 (datP x).1
  have k2 := lk _ h4 (datP x).1
  have hr := prI_row la lb h5 h6 x hx
  have ho : okR x.r = true := by
    rcases hp.key _ hm with ⟨y, hy, e⟩ | ⟨y, hy, e⟩
    · have := h1.ok y hy; rw [e] at this; exact this
    · have := h3.ok y hy; rw [e] at this; exact this
  have h8 : x.r.length ≤ 8 := by unfold okR at ho; rw [Bool.and_eq_true, decide_eq_true_eq] at ho; exact ho.2
  have hl := hr.len
  have e1 : x.m = look (dat la) (datP x).1 := v1
  have e2 : x.k = look (dat lb) (datP x).1 := v2
  rw [e1, e2]
  omega

set_option maxRecDepth 100000 in
set_option maxHeartbeats 8000000 in
theorem both_in (f : Int → Int → Int) (g : Nat) (caps : Array Value) (eg : ∀ args w, (callFunc g args).run Tryz.prog w = .ok (.enter g args) w)
    (A : Option Addr) (n c : Nat) (la : List It) (A' : Option Addr) (n' c' : Nat) (lb : List It) (w : World) (ha : BagR w w.heap.size A n la) (hb : BagR w w.heap.size A' n' lb) (hc : n ≤ c) (hc' : n' ≤ c')
    (hf : ∀ (m k : Int) (W : World), -1000000 ≤ m → m ≤ 1000000 → -1000000 ≤ k → k ≤ 1000000 → Below w.heap.size w W → Calls Tryz.prog g (#[.int .i64 m, .int .i64 k] ++ caps) W fun e W' => e = .returned (.int .i64 (f m k)) ∧ W = W')
    (hva : okBag (dat la) = true) (hvb : okBag (dat lb) = true) :
    CallsIn Fence.wide 4 Tryz.prog 164 #[.slice A n c, .slice A' n' c', .func (Fn.func g) #[] caps] w (RetPut w (both f (prs (dat la) (dat lb)))) := by
  obtain ⟨i0, hi, hz0, hz1, hz2⟩ := info_parts3 infoItem
  have HVA := hide hva
  have HVB := hide hvb
  clear hva hvb
  have hB0 := below_val (w := w) #[.func (Fn.func g) #[] caps] 168
  have xf := Boxed.new w 168 (.func (Fn.func g) #[] caps)
  have hs0 : (w.alloc (.cells #[.func (Fn.func g) #[] caps] 168)).heap.size = w.heap.size + 1 := World.size_alloc _ _
  refine callsIn_of_wp_marks Tryz.func164 rfl trivial ?_ rfl
  simp only [Tryz.ntmps164, List.size_toArray, List.length_cons, List.length_nil, Nat.reduceAdd, Nat.reduceSub, Array.replicate_succ, Array.replicate_zero, List.push_toArray, List.append_toArray, List.nil_append, List.cons_append]
  gi_wp2_with fail
  obtain ⟨W0, hW0⟩ : ∃ W0, w.alloc (.cells #[.func (Fn.func g) #[] caps] 168) = W0 := ⟨_, rfl⟩
  rw [hW0] at hB0 xf hs0 ⊢
  clear hW0
  refine (callsIn_wide.2 (BagValid_any A n c _ la W0 (ha.below hB0))).mono ?_
  rintro e W1 ⟨rfl, hB1⟩
  rw [HVA.out]
  have hB01 := bstep hB0 hB1
  have xf1 := (hB1.block _ xf.lt).trans xf
  have hs1 := hB1.size
  clear hB0 hB1 xf
  gi_wp2_with fail
  refine (callsIn_wide.2 (BagValid_any A' n' c' _ lb W1 (hb.below hB01))).mono ?_
  rintro e W2 ⟨rfl, hB2⟩
  rw [HVB.out]
  have hB02 := bstep hB01 hB2
  have xf2 := (hB2.block w.heap.size (by omega)).trans xf1
  have hs2 := hB2.size
  clear hB01 hB2 xf1
  gi_wp2_with fail
  refine (callsIn_wide.2 (pairs_any _ _ _ ⟨_, _, _, rfl⟩ ⟨_, _, _, rfl⟩)).mono ?_
  rintro e W3 ⟨rfl, hW3⟩
  obtain ⟨ob, hob⟩ : ∃ ob, W2.heap.size = ob := ⟨_, rfl⟩
  have k0 := ((Boxed.new W2 40 (.slice none 0 0)).alloc (.cells #[.slice A n c] 40)).alloc (.cells #[.slice A' n' c'] 40)
  have k1 := (Boxed.new (W2.alloc (.cells #[.slice none 0 0] 40)) 40 (.slice A n c)).alloc (.cells #[.slice A' n' c'] 40)
  have k2 := Boxed.new ((W2.alloc (.cells #[.slice none 0 0] 40)).alloc (.cells #[.slice A n c] 40)) 40 (.slice A' n' c')
  have hB23 : Below W2.heap.size W2 W3 := by rw [hW3]; exact (((Below.refl _ _).alloc (Nat.le_refl _) _).alloc (by simp) _).alloc (by simp; omega) _
  have hs3 : W3.heap.size = ob + 3 := by rw [hW3, ← hob]; simp
  rw [← hW3] at k0 k1 k2
  rw [World.size_alloc] at k1 k2
  rw [World.size_alloc] at k2
  rw [World.size_alloc, hob]
  rw [hob] at k0 k1 k2 hs2 hB23
  clear hW3
  have hra : BagR W2 W2.heap.size A n la := (ha.below hB02).mono hB02.size
  have hrb : BagR W2 W2.heap.size A' n' lb := (hb.below hB02).mono hB02.size
  have hasc1 := okBag_asc HVA.out
  have hasc2 := okBag_asc HVB.out
  have HPR := hide (prs_ok _ _ hasc1.1 hasc2.1)
  have hlen : (prI la lb).length ≤ 800 := by
    have h1 := prI_len la lb
    have h2 := hasc1.2.2
    have h3 := hasc2.2.2
    rw [dat_len] at h2 h3
    omega
  have HBD := hide (show ∀ x ∈ prI la lb, (-1000000 ≤ x.m ∧ x.m ≤ 1000000) ∧ (-1000000 ≤ x.k ∧ x.k ≤ 1000000) ∧ x.n ≤ 1000 from pr_bound hasc1.1 hasc1.2.1 hasc2.1 hasc2.2.1 hra.rows hrb.rows)
  clear ha hb hasc1 hasc2
  have hN : W2.heap.size ≤ ob + 3 := by omega
  gi_wp2_with fail
  refine wpIn_iter (n := 4) rfl (by omega) (gf := 241) (lb := #[.pointer (some ⟨ob + 1, 0, none⟩), .pointer (some ⟨ob + 1 + 1, 0, none⟩)]) rfl trivial (enters_of Tryz.func241 (by kernel_rfl) rfl) (encs := encPe) (xs := prI la lb) (Wr := WrQ (ob + 1) (ob + 1 + 1)) (Kp := Bar (ob + 3) [ob])
    (fun W hW l J Jx hJw _ hY h0 => pairs1_in 3 (by omega) l (ob + 3) [ob] W2 (ob + 1) (ob + 1 + 1) la lb J Jx W hJw hY hN (by omega) (by omega) (by omega) (by omega) (by omega) (by simp; omega) (by simp) (by simp; omega) A n c A' n' c' ((hW.block _ k1.lt).trans k1) ((hW.block _ k2.lt).trans k2) hra hrb hc hc' (by rw [hob]; exact hB23.trans (hW.mono (by omega))) h0)
    (fun _ => rfl) (fun X Y h => h.wr.oth) bar_t (bar_b (by omega))
    (fun pre W => OutI f w.heap.size ob pre W ∧ Below ob W2 W)
    (fun _ _ _ => False)
    (OwnFrom.and (outI_from (by omega)) (ownFrom_below (by omega) (by omega)))
    (fun _ _ _ _ _ hs _ _ => hs)
    (fun s X Y h k => ⟨h.1.wr k (by omega), h.2.trans (k.wr.bar.below (by have := h.2.size; omega) (by simp; omega))⟩)
    (fun _ _ _ _ hs _ => hs)
    ⟨⟨⟨_, [], k0, World.ownsRow_nil _ _ _ _, rfl, by intro i hi; cases hi⟩, ⟨_, k1⟩, ⟨_, k2⟩⟩, hB23⟩
    (fun pre x a' W => ∃ nb, ob + 3 ≤ nb ∧ Blk W nb 233 #[.int .i64 x.m, .int .i64 x.k] ∧ a' = { tmps := #[.slice A n c, .slice A' n' c', .func (Fn.func g) #[] caps, undef, undef, .pointer (some ⟨w.heap.size, 0, none⟩), .slice none 0 0, .int .i64 0, .pointer (some ⟨ob, 0, none⟩), .slice x.A x.n x.c, .pointer (some ⟨nb, 0, none⟩), undef, .slice A n c, .bool true, .bool false, .bool false, .slice A' n' c', .bool true, .bool false, .bool false, .slice A n c, .slice A' n' c', .func (Fn.func 241) #[] #[.pointer (some ⟨ob + 1, 0, none⟩), .pointer (some ⟨ob + 1 + 1, 0, none⟩)], .slice x.A x.n x.c, .agg #[.int .i64 x.m, .int .i64 x.k], undef, undef, undef, undef, undef, undef, undef, undef, undef, undef, undef, undef, undef, undef, undef, undef, undef, undef, undef], defers := [] })
    (fun pre x a' _ X Y row hs hg hr => by
      obtain ⟨nb, h1, h2, h3⟩ := hs
      exact ⟨nb, h1, blk_own h2 hg (fun r e => (hr r e).2), h3⟩)
    ?assign ?body ?done ?stop
  case assign =>
    rintro l pre x W K hpx ⟨hI, hBW⟩ hK
    have hWs : ob + 3 ≤ W.heap.size := by have := hI.lt; omega
    dsimp only [encPe]
    gi_wp2
    refine hK _ _ ((KeepsOthers.alloc _ _).from _) ((Bar.refl _ _ _).alloc hWs _) ⟨hI.below (below_val _ _), hBW.alloc (by omega) _⟩ ⟨W.heap.size, hWs, Blk.new W _ _, rfl⟩
  case body =>
    rintro l pre x a' W hpx ⟨hI, hBW⟩ ⟨nb, hnb, hbn, rfl⟩
    have hx5 : W.cell? ⟨w.heap.size, 0, none⟩ = some (.func (Fn.func g) #[] caps) := by
      have : Boxed W w.heap.size 168 (.func (Fn.func g) #[] caps) := (hBW.block w.heap.size (by omega)).trans xf2
      exact this.cell
    have hBwW : Below w.heap.size w W := hB02.trans (hBW.mono (by omega))
    have m0 := hbn.cell 0
    have m1 := hbn.cell 1
    simp at m0 m1
    have hxin : x ∈ prI la lb := hpx.subset (by simp)
    obtain ⟨⟨bm1, bm2⟩, ⟨bk1, bk2⟩, bn⟩ := HBD.out x hxin
    gi_wp2_with fail
    refine ((callsIn_wide.2 (hf x.m x.k W bm1 bm2 bk1 bk2 hBwW)).inRound l).mono ?_
    rintro e w' ⟨rfl, rfl⟩
    have HSN := hide (both_snoc f (pre.map datP) (datP x))
    obtain ⟨fv, hfv⟩ : ∃ fv, f x.m x.k = fv := ⟨_, rfl⟩
    rw [hfv]
    by_cases h0 : fv = 0
    · have n1 : (fv != 0) = false := by simpa using h0
      have HE := hide (show both f ((pre ++ [x]).map datP) = both f (pre.map datP) from by
        rw [List.map_append, List.map_cons, List.map_nil, HSN.out]
        show _ ++ (if f x.m x.k = 0 then [] else _) = _
        rw [hfv, if_pos h0, List.append_nil])
      clear h0
      gi_wp2
      obtain ⟨⟨v, l', i1, i2, i3, i4⟩, i5, i6⟩ := hI
      exact ⟨KeepsFrom.refl _ _, Bar.refl _ _ _, ⟨⟨v, l', i1, i2, by rw [HE.out]; exact i3, i4⟩, i5, i6⟩, hBW⟩
    · have n1 : (fv != 0) = true := by simpa using h0
      have HE := hide (show both f ((pre ++ [x]).map datP) = both f (pre.map datP) ++ [(x.r, fv)] from by
        rw [List.map_append, List.map_cons, List.map_nil, HSN.out]
        show _ ++ (if f x.m x.k = 0 then [] else [(x.r, f x.m x.k)]) = _
        rw [hfv, if_neg h0])
      clear h0
      gi_wp2_with fail
      obtain ⟨⟨v, l', i1, i2, i3, i4⟩, ⟨va, i5⟩, ⟨vb, i6⟩⟩ := hI
      have hrx := prI_row la lb hra.rows hrb.rows x hxin
      have hWs : ob + 3 ≤ W.heap.size := by have := i6.lt; have := hBW.size; omega
      refine Held.beginR (fun y => y.cell? ⟨ob, 0, none⟩ = some v) 7 (by kernel_rfl) (by kernel_rfl) (by rintro ⟨_, _, h⟩; exact h) ?_
      have j1 : Boxed W.drew ob 40 v := i1
      have j2 : W.drew.ownsRow (ob + 3) 119 2 v l'.length (l'.flatMap encIt) := i2.drew
      have j4 : Rows_ W.drew w.heap.size l' := i4.below ((Below.refl _ _).drew)
      have j5 : Boxed W.drew (ob + 1) 40 va := i5
      have j6 : Boxed W.drew (ob + 1 + 1) 40 vb := i6
      have jB : Below ob W2 W.drew := hBW.drew
      have jK : KeepsOthers W W.drew := KeepsOthers.drew W
      have jR : Bar (ob + 3) [ob] W W.drew := (Bar.refl _ _ W).drew
      have jx : RowK W.drew W2.heap.size x.A x.n x.r := hrx.below (by rw [hob]; exact jB)
      have hWs' : ob + 3 ≤ W.drew.heap.size := hWs
      obtain ⟨X1, hX1⟩ : ∃ X1, W.drew = X1 := ⟨_, rfl⟩
      rw [hX1] at j1 j2 j4 j5 j6 jB jK jR jx hWs' ⊢
      clear hX1 i1 i2 i4 i5 i6 hBW hx5 hbn m0 m1 hBwW
      have hS := j1.cell
      refine Held.take (i := 0) (v) rfl hS (by kernel_rfl) (by kernel_rfl) (by kernel_rfl) (by kernel_rfl) (fun _ _ _ h => h) rfl (fun y hy => by go_simp) ?_
      try simp only [Act.put]
      refine Held.take (i := 1) (.slice x.A x.n x.c) rfl hS (by kernel_rfl) (by kernel_rfl) (by kernel_rfl) (by kernel_rfl) (fun _ _ _ h => h) rfl (fun y hy => by go_simp) ?_
      try simp only [Act.put]
      refine Held.take (i := 3) (.int .i64 fv) rfl hS (by kernel_rfl) (by kernel_rfl) (by kernel_rfl) (by kernel_rfl) (fun _ _ _ h => h) rfl (fun y hy => by go_simp) ?_
      try simp only [Act.put]
      refine Held.one (i := 2) rfl (by kernel_rfl) rfl (fun K hK => ?_)
      unfold Oper.wp
      go_simp
      refine (Clone_any x.A x.n x.c _ w.heap.size x.r X1 jx bn).mono ?_
      rintro e X2 ⟨Ac, cc, rfl, hrow, hB2⟩
      have l1 : Boxed X2 ob 40 v := (hB2.block ob j1.lt).trans j1
      have l2 := own_below j2 hB2
      have l4 := j4.below hB2
      have l5 : Boxed X2 (ob + 1) 40 va := (hB2.block _ j5.lt).trans j5
      have l6 : Boxed X2 (ob + 1 + 1) 40 vb := (hB2.block _ j6.lt).trans j6
      have lB := jB.trans (hB2.mono (by omega))
      have lK := jK.trans (KeepsOthers.mk hB2.size fun k o hk _ => by rw [← hk]; exact hB2.block k (Array.getElem?_eq_some_iff.1 hk).1)
      have lR := jR.trans (Bar.of_below (hB2.mono hWs') [ob])
      have hWs2 : ob + 3 ≤ X2.heap.size := Nat.le_trans hWs' hB2.size
      refine hK _ _ (fun _ => l1.cell) ?_
      try simp only [Act.put]
      clear hK K hS j1 j2 j4 j5 j6 jB jK jR jx hB2
      have hS := l1.cell
      refine Held.take (i := 4) (.agg #[.slice Ac x.n cc, .int .i64 fv]) rfl hS (by kernel_rfl) (by kernel_rfl) (by kernel_rfl) (by kernel_rfl) (fun _ _ _ h => h) rfl (fun y hy => by go_simp) ?_
      try simp only [Act.put]
      refine Held.one (i := 5) rfl (by kernel_rfl) rfl (fun K hK => ?_)
      have hS4 : (X2.alloc (.cells #[.slice Ac x.n cc, .int .i64 fv] 119)).cell? ⟨ob, 0, none⟩ = some v := (World.cell?_alloc_lt X2 _ ⟨ob, 0, none⟩ (by show ob < _; omega)).trans hS
      have HS4 := hide hS4
      clear hS4
      unfold Oper.wp
      go_simp
      refine hK _ _ (fun _ => HS4.out) ?_
      try simp only [Act.put]
      clear hK K
      refine Held.one (i := 6) rfl (by kernel_rfl) rfl (fun K hK => ?_)
      have hrd : Reads (X2.alloc (.cells #[.slice Ac x.n cc, .int .i64 fv] 119)) (X2.heap.size + 1) 2 (some ⟨X2.heap.size, 0, none⟩) 1 [.slice Ac x.n cc, .int .i64 fv] :=
        ⟨rfl, fun _ => ⟨X2.heap.size, 0, rfl, by omega, fun j u hu => by
          have := (Blk.new X2 119 #[.slice Ac x.n cc, .int .i64 fv]).cell j
          rw [Nat.zero_add, this]; simpa using hu⟩⟩
      have hll : l'.length ≤ 800 := by
        have h1 := both_len f (pre.map datP)
        rw [← i3, dat_len, List.length_map] at h1
        have h2 := hpx.length_le
        rw [List.length_append] at h2
        omega
      refine wp_append_any _ _ _ 40 rfl (ob + 3) 119 i0 _ 2 32 Tryz.underlying40 hi hz0 hz1 hz2 rfl (by decide) v l'.length _ rfl (l2.alloc _) (X2.heap.size + 1) (some ⟨X2.heap.size, 0, none⟩) 1 1 [.slice Ac x.n cc, .int .i64 fv] rfl hrd (by simp [Value.oneCell']) (by unfold maxLen; omega) (by omega) (by simp; omega) ?_
      intro v' X3 hown1 hgrow _
      obtain ⟨gr, capr, hvr⟩ := ownsRow_succ hown1
      subst hvr
      obtain ⟨o1, o2, o3, o4, o5⟩ := Boxed.collected l1 l2 hWs2 (by omega) hown1 hgrow
      have nrow : ∀ i : It, RowK X2 w.heap.size i.A i.n i.r → RowK (X3.setCell ⟨ob, 0, none⟩ (.slice (some ⟨gr, 0, none⟩) (l'.length + 1) capr)) w.heap.size i.A i.n i.r := fun i h =>
        ((h.alloc _).grown (l2.alloc _) (by decide) (by omega) hgrow).setCell (p := ⟨ob, 0, none⟩) o1 (by decide) (by show w.heap.size ≤ ob; omega) _
      refine hK _ _ (fun _ => o1.cell) ?_
      try simp only [Act.put]
      have fo := o1.frozen
      have ko := o1.cell
      clear hK K hS HS4 hrd
      refine Held.one (i := 7) rfl (by kernel_rfl) rfl (fun K hK => ?_)
      unfold Oper.wp
      go_simp
      refine hK _ _ (fun h => absurd rfl h) ?_
      try simp only [Act.put]
      clear hK K
      refine Held.done (by kernel_rfl) ?_
      have HFIN := hide (show KeepsFrom W3.heap.size W (X3.setCell ⟨ob, 0, none⟩ (.slice (some ⟨gr, 0, none⟩) (l'.length + 1) capr)) ∧ Bar (ob + 3) [ob] W (X3.setCell ⟨ob, 0, none⟩ (.slice (some ⟨gr, 0, none⟩) (l'.length + 1) capr)) ∧ OutI f w.heap.size ob (pre ++ [x]) (X3.setCell ⟨ob, 0, none⟩ (.slice (some ⟨gr, 0, none⟩) (l'.length + 1) capr)) ∧ Below ob W2 (X3.setCell ⟨ob, 0, none⟩ (.slice (some ⟨gr, 0, none⟩) (l'.length + 1) capr)) from by
        refine ⟨(lK.trans o4).from _, lR.trans o5, ⟨⟨_, l' ++ [⟨Ac, x.n, cc, x.r, fv⟩], o2, ?_, ?_, ?_⟩, ⟨va, o5.boxed l5 (by omega) (by simp)⟩, ⟨vb, o5.boxed l6 (by omega) (by simp; omega)⟩⟩, lB.trans (o5.below (by omega) (by simp))⟩
        · rw [List.flatMap_append, List.length_append]
          exact o3
        · rw [dat_snoc, i3, HE.out]
        · intro i hi
          rcases List.mem_append.1 hi with hi | hi
          · exact nrow i (l4 i hi)
          · obtain rfl : i = ⟨Ac, x.n, cc, x.r, fv⟩ := by simpa using hi
            exact nrow _ hrow)
      clear o1 o2 o3 o4 o5 nrow fo ko hown1 hgrow l1 l2 l4 l5 l6 lB lK lR hrow
      gi_wp2
      exact HFIN.out
  case done =>
    rintro D W hD ⟨⟨⟨v, l, i1, i2, i3, i4⟩, i5, ⟨vb, i6⟩⟩, hBW⟩ hK
    have kv := i1.cell
    obtain ⟨Ao, co, rfl, hro⟩ := own_form i2
    have hbo : BagR W w.heap.size Ao l.length l := ⟨hro, i4, by
      have h1 := both_len f ((prI la lb).map datP)
      rw [← i3, dat_len, List.length_map] at h1
      omega⟩
    have hco := own_cap i2
    have hBwW : Below w.heap.size w W := hB02.trans (hBW.mono (by omega))
    have hDl := (Array.getElem?_eq_some_iff.1 hK).1
    rw [prI_dat] at i3
    obtain ⟨E, hE⟩ : ∃ E : Int, (if okBag (both f (prs (dat la) (dat lb))) then (0 : Int) else 4) = E := ⟨_, rfl⟩
    obtain ⟨dd, hdd⟩ : ∃ dd : Bg, (if okBag (both f (prs (dat la) (dat lb))) then both f (prs (dat la) (dat lb)) else []) = dd := ⟨_, rfl⟩
    have HRP := hide (show ∀ W', RetPut W' (both f (prs (dat la) (dat lb))) = RetBag W' dd E from fun W' => by unfold RetPut; rw [hE, hdd])
    have hput := put_any Ao l.length co _ l W hbo hBwW.size hco
    rw [i3, HRP.out] at hput
    have HPUT := hide hput
    clear hput hE hdd i1 i2 i4 i5 i6 hro hbo
    gi_wp2_with fail
    refine (callsIn_wide.2 HPUT.out).mono ?_
    rintro e W4 ⟨Ar, nr, cr, lr, rfl, hd, hbr, hcr, hB4⟩
    have hK4 := (hB4.block D hDl).trans hK
    have HEND := hide (show RetBag w dd E (.returned (.tuple #[.slice Ar nr cr, .int .i64 E])) (W4.putObj D (.deferred none)) from
      ⟨Ar, nr, cr, lr, rfl, hd, hbr.keepCells (putObj_cells hK4 rfl) (by simp [World.putObj]), hcr, (hBwW.trans (hB4.mono hBwW.size)).grown (grownBy_putObj' W4 D _) (by have := hB4.size; have := hBwW.size; omega) (fun k e => by cases e; have := hB02.size; omega)⟩)
    clear hbr hB4
    gi_wp2
    refine ⟨by simp, .inl ⟨_, _, rfl, run_takeDeferred hK4, ?_⟩⟩
    refine ⟨_, results_tmp2 rfl _ _ _, ?_⟩
    rw [HRP.out]
    exact HEND.out
  case stop =>
    rintro D c pre W _ _ h _
    exact h.elim
end

section
open Go.Shelf Go.RowKit
set_option linter.unusedVariables false

def lays156_ren : Go.Shelf.Ren := ⟨fun | 156 => 169 | 167 => 211 | 165 => 214 | 166 => 212 | 169 => 213 | 240 => 243 | 241 => 244 | 276 => 263 | 277 => 264 | n => n, fun | 31 => 197 | 9 => 9 | 3 => 3 | 4 => 4 | 0 => 0 | 20 => 20 | 72 => 237 | 76 => 241 | 70 => 234 | 37 => 235 | 75 => 239 | 127 => 264 | 164 => 280 | 5 => 5 | 80 => 243 | n => n, fun | n => n⟩
theorem lays156 : Go.Proofs.Lays.n156 Tryz.prog lays156_ren := {
  mixed := by kernel_rfl
  f156 := Tryz.func169.trans (congrArg some (by kernel_rfl))
  f165 := Tryz.func214.trans (congrArg some (by kernel_rfl))
  f166 := Tryz.func212.trans (congrArg some (by kernel_rfl))
  f169 := Tryz.func213.trans (congrArg some (by kernel_rfl))
  f240 := Tryz.func243.trans (congrArg some (by kernel_rfl))
  f241 := Tryz.func244.trans (congrArg some (by kernel_rfl))
  f276 := Tryz.func263.trans (congrArg some (by kernel_rfl))
  f277 := Tryz.func264.trans (congrArg some (by kernel_rfl))
  t0 := Tryz.underlying0
  a0 := Tryz.isAgg0
  z0 := Tryz.sizeOf0
  v0 := Tryz.zeroValue0
  t3 := Tryz.underlying3
  a3 := Tryz.isAgg3
  z3 := Tryz.sizeOf3
  v3 := Tryz.zeroValue3
  t4 := Tryz.underlying4
  a4 := Tryz.isAgg4
  z4 := Tryz.sizeOf4
  v4 := Tryz.zeroValue4
  t9 := Tryz.underlying9
  a9 := Tryz.isAgg9
  z9 := Tryz.sizeOf9
  v9 := Tryz.zeroValue9
  t20 := Tryz.underlying20
  a20 := Tryz.isAgg20
  z20 := Tryz.sizeOf20
  v20 := Tryz.zeroValue20
  t31 := Tryz.underlying197
  a31 := Tryz.isAgg197
  z31 := Tryz.sizeOf197
  v31 := Tryz.zeroValue197
  t37 := Tryz.underlying235
  a37 := Tryz.isAgg235
  z37 := Tryz.sizeOf235
  v37 := Tryz.zeroValue235
  t70 := Tryz.underlying234
  a70 := Tryz.isAgg234
  z70 := Tryz.sizeOf234
  v70 := Tryz.zeroValue234
  t72 := Tryz.underlying237
  a72 := Tryz.isAgg237
  z72 := Tryz.sizeOf237
  v72 := Tryz.zeroValue237
  t75 := Tryz.underlying239
  a75 := Tryz.isAgg239
  z75 := Tryz.sizeOf239
  v75 := Tryz.zeroValue239
  t76 := Tryz.underlying241
  a76 := Tryz.isAgg241
  z76 := Tryz.sizeOf241
  v76 := Tryz.zeroValue241
  t127 := Tryz.underlying264
  a127 := Tryz.isAgg264
  z127 := Tryz.sizeOf264
  v127 := Tryz.zeroValue264
  t164 := Tryz.underlying280
  a164 := Tryz.isAgg280
  z164 := Tryz.sizeOf280
  v164 := Tryz.zeroValue280 }
theorem Builder_Extra_156 : Builder.Extra Tryz.prog lays156_ren := {
  sizeBuilder := by kernel_rfl
  liesBuilder := by kernel_rfl
  t5 := Tryz.underlying5
  a5 := Tryz.isAgg5
  z5 := Tryz.sizeOf5
  v5 := Tryz.zeroValue5
  infoByte := by kernel_rfl
  cellsByte := by kernel_rfl
  sizeByte := by kernel_rfl
  neB5 := by decide }
def laysM171_ren : Go.Shelf.Ren := ⟨fun | 171 => 167 | 243 => 210 | 246 => 242 | 283 => 259 | 284 => 260 | 285 => 261 | 286 => 262 | 129 => 179 | 317 => 269 | 318 => 270 | 319 => 271 | 320 => 272 | 337 => 274 | 338 => 275 | n => n, fun | 3 => 3 | 9 => 9 | 2 => 2 | 4 => 4 | 171 => 276 | 0 => 0 | 53 => 212 | 37 => 235 | 5 => 5 | 173 => 278 | 212 => 288 | 51 => 210 | 20 => 20 | 213 => 289 | 46 => 166 | 232 => 291 | 233 => 292 | n => n, fun | 17 => 0 | 18 => 2 | 19 => 3 | n => n⟩
theorem laysM171 : Go.Proofs.LaysM.n171 Tryz.prog laysM171_ren := {
  mixed := by kernel_rfl
  f129 := Tryz.func179.trans (congrArg some (by kernel_rfl))
  f171 := Tryz.func167.trans (congrArg some (by kernel_rfl))
  f243 := Tryz.func210.trans (congrArg some (by kernel_rfl))
  f246 := Tryz.func242.trans (congrArg some (by kernel_rfl))
  f283 := Tryz.func259.trans (congrArg some (by kernel_rfl))
  f284 := Tryz.func260.trans (congrArg some (by kernel_rfl))
  f285 := Tryz.func261.trans (congrArg some (by kernel_rfl))
  f286 := Tryz.func262.trans (congrArg some (by kernel_rfl))
  f317 := Tryz.func269.trans (congrArg some (by kernel_rfl))
  f318 := Tryz.func270.trans (congrArg some (by kernel_rfl))
  f319 := Tryz.func271.trans (congrArg some (by kernel_rfl))
  f320 := Tryz.func272.trans (congrArg some (by kernel_rfl))
  f337 := Tryz.func274.trans (congrArg some (by kernel_rfl))
  f338 := Tryz.func275.trans (congrArg some (by kernel_rfl))
  t0 := Tryz.underlying0
  a0 := Tryz.isAgg0
  z0 := Tryz.sizeOf0
  v0 := Tryz.zeroValue0
  t2 := Tryz.underlying2
  a2 := Tryz.isAgg2
  z2 := Tryz.sizeOf2
  v2 := Tryz.zeroValue2
  t3 := Tryz.underlying3
  a3 := Tryz.isAgg3
  z3 := Tryz.sizeOf3
  v3 := Tryz.zeroValue3
  t4 := Tryz.underlying4
  a4 := Tryz.isAgg4
  z4 := Tryz.sizeOf4
  v4 := Tryz.zeroValue4
  t5 := Tryz.underlying5
  a5 := Tryz.isAgg5
  z5 := Tryz.sizeOf5
  v5 := Tryz.zeroValue5
  t9 := Tryz.underlying9
  a9 := Tryz.isAgg9
  z9 := Tryz.sizeOf9
  v9 := Tryz.zeroValue9
  t20 := Tryz.underlying20
  a20 := Tryz.isAgg20
  z20 := Tryz.sizeOf20
  v20 := Tryz.zeroValue20
  t37 := Tryz.underlying235
  a37 := Tryz.isAgg235
  z37 := Tryz.sizeOf235
  v37 := Tryz.zeroValue235
  t46 := Tryz.underlying166
  a46 := Tryz.isAgg166
  z46 := Tryz.sizeOf166
  v46 := Tryz.zeroValue166
  t51 := Tryz.underlying210
  a51 := Tryz.isAgg210
  z51 := Tryz.sizeOf210
  v51 := Tryz.zeroValue210
  t53 := Tryz.underlying212
  a53 := Tryz.isAgg212
  z53 := Tryz.sizeOf212
  v53 := Tryz.zeroValue212
  t171 := Tryz.underlying276
  a171 := Tryz.isAgg276
  z171 := Tryz.sizeOf276
  v171 := Tryz.zeroValue276
  t173 := Tryz.underlying278
  a173 := Tryz.isAgg278
  z173 := Tryz.sizeOf278
  v173 := Tryz.zeroValue278
  t212 := Tryz.underlying288
  a212 := Tryz.isAgg288
  z212 := Tryz.sizeOf288
  v212 := Tryz.zeroValue288
  t213 := Tryz.underlying289
  a213 := Tryz.isAgg289
  z213 := Tryz.sizeOf289
  t232 := Tryz.underlying291
  a232 := Tryz.isAgg291
  z232 := Tryz.sizeOf291
  v232 := Tryz.zeroValue291
  t233 := Tryz.underlying292
  a233 := Tryz.isAgg292
  z233 := Tryz.sizeOf292
  v233 := Tryz.zeroValue292
  g17 := by kernel_rfl
  g18 := by kernel_rfl
  g19 := by kernel_rfl
  i0 := by kernel_rfl
  i2 := by kernel_rfl
  i3 := by kernel_rfl
  i4 := by kernel_rfl
  i5 := by kernel_rfl
  i9 := by kernel_rfl
  i20 := by kernel_rfl
  i37 := by kernel_rfl
  i46 := by kernel_rfl
  i51 := by kernel_rfl
  i53 := by kernel_rfl
  i171 := by kernel_rfl
  i173 := by kernel_rfl
  i212 := by kernel_rfl
  i232 := by kernel_rfl
  i233 := by kernel_rfl
  m17 := by kernel_rfl
  m18 := by kernel_rfl
  m19 := by kernel_rfl }
theorem lays167 : Go.Proofs.Lays.n167 Tryz.prog lays156_ren := { lays156, Builder_Extra_156 with
  f167 := Tryz.func211.trans (congrArg some (by kernel_rfl)) }
/-- A builder of the call's own, in block b, that holds bytes. -/
def Bd (w : World) (B b : Nat) (l : List UInt8) : Prop := Lib.IsBuilderF 237 5 B b (Lib.byteCells l) w
theorem Bd.new (w : World) : Bd (w.alloc (.cells #[.pointer none, .slice none 0 0] 237)) w.heap.size w.heap.size [] := Lib.IsBuilderF.of (Lib.fresh_isBuilder _ _ w)
theorem Bd.of {w : World} {B b : Nat} {p : Value} {bs : List Value} {l : List UInt8} (h : Lib.BuilderAtF 237 5 B b (.pointer (some ⟨b, 0, none⟩)) bs w) (e : bs = Lib.byteCells l) : Bd w B b l := by subst e; exact .inr h
theorem wbyte_any (B b : Nat) (l : List UInt8) (c : UInt8) (w : World) (h : Bd w B b l) (hlen : l.length ≤ 1000000) (hB : B ≤ w.heap.size) :
    Calls Tryz.prog 211 #[.pointer (some ⟨b, 0, none⟩), .int .u8 (c.toNat : Int)] w fun e w' => e = .returned .nilIface ∧ Bd w' B b (l ++ [c]) ∧ Below B w w' := by
  have hc := Any.Builder_WriteByte_k lays167 Builder_Extra_156 B b (Lib.byteCells l) (c.toNat : Int) w h (by rw [Lib.byteCells_length]; omega) hB
  change Calls Tryz.prog 211 _ _ _ at hc
  exact hc.mono fun e w' ⟨he, h1, h2, _⟩ => ⟨he, Bd.of (p := .nilIface) h1 (by simp [Lib.byteCells]), h2⟩
theorem wstr_any (B b : Nat) (l : List UInt8) (s : ByteArray) (w : World) (h : Bd w B b l) (hlen : l.length + s.size ≤ 1000000) (hB : B ≤ w.heap.size) :
    Calls Tryz.prog 212 #[.pointer (some ⟨b, 0, none⟩), .string s] w fun e w' => e = .returned (.tuple #[.int .i64 s.size, .nilIface]) ∧ Bd w' B b (l ++ s.data.toList) ∧ Below B w w' := by
  have hc := Any.Builder_WriteString_k { lays156 with } Builder_Extra_156 B b (Lib.byteCells l) s w h (by rw [Lib.byteCells_length]; omega) hB
  change Calls Tryz.prog 212 _ _ _ at hc
  exact hc.mono fun e w' ⟨he, h1, h2, _⟩ => ⟨he, Bd.of (p := .nilIface) h1 (by simp [Lib.byteCells, Lib.strCells]), h2⟩
theorem str_any (B b : Nat) (l : List UInt8) (w : World) (h : Bd w B b l) (hB : B ≤ w.heap.size) :
    Calls Tryz.prog 213 #[.pointer (some ⟨b, 0, none⟩)] w fun e w' => e = .returned (.string ⟨l.toArray⟩) ∧ Bd w' B b l ∧ Below B w w' := by
  have hc := Any.Builder_String_any_k { lays156 with } Builder_Extra_156 B b l w h hB
  change Calls Tryz.prog 213 _ _ _ at hc
  exact hc.mono fun e w' ⟨he, h1, h2, _⟩ => ⟨he, h1, h2⟩
theorem join_any (A : Option Addr) (n c : Nat) (xs : List ByteArray) (sep : ByteArray) (w : World) (h : Reads w w.heap.size 1 A n (xs.map Value.string)) (hn : n ≤ 1000000) (hc : n ≤ c)
    (hlen : (Lib.join (xs.map (·.data.toList)) sep.data.toList).length ≤ 1000000) :
    Calls Tryz.prog 169 #[.slice A n c, .string sep] w (RetV w (.string ⟨(Lib.join (xs.map (·.data.toList)) sep.data.toList).toArray⟩)) := by
  have hl : xs.length = n := by have := h.1; simpa using this
  subst hl
  by_cases h0 : 0 < xs.length
  · obtain ⟨b, o, rfl, hb, hcell⟩ := h.2 h0
    have hh := Any.strings_Join lays156 Builder_Extra_156 b o c xs sep w (fun j x hx => hcell j _ (by rw [List.getElem?_map, hx]; rfl)) hb (by omega) hc (by omega)
    change Calls Tryz.prog 169 _ _ _ at hh
    exact hh.mono fun e w' ⟨he, hb'⟩ => ⟨he, hb'⟩
  · have hx : xs = [] := List.length_eq_zero_iff.1 (by omega)
    subst hx
    have hh := Any.strings_Join_none lays156 Builder_Extra_156 A c sep w
    change Calls Tryz.prog 169 _ _ _ at hh
    exact hh.mono fun e w' ⟨he, hw⟩ => by subst hw; exact ⟨he, Below.refl _ _⟩
/-- The powers of ten lie in their variable. -/
def Tab (w : World) : Prop := Lib.TabIs Tryz.prog w "internal/strconv.uint64pow10" .u64 Lib.pow10Tab
theorem Tab.below {w w' : World} (h : Tab w) (hb : Below w.heap.size w w') : Tab w' := by
  unfold Tab Lib.TabIs World.var? at *
  cases hg : Tryz.prog.globalNamed "internal/strconv.uint64pow10" with
  | none => simp [hg] at h
  | some g =>
    simp only [hg, Option.bind_some] at h ⊢
    have hlt : g < w.heap.size := by
      rcases Nat.lt_or_ge g w.heap.size with h' | h'
      · exact h'
      · rw [Array.getElem?_eq_none h'] at h; simp at h
    rw [hb.block g hlt]
    exact h
theorem itoa_any (n : Int) (h0 : -9223372036854775808 ≤ n) (h1 : n ≤ 9223372036854775807) (w : World) (ht : Tab w) :
    Calls Tryz.prog 167 #[.int .i64 n] w (RetV w (.string ⟨(Lib.itoa n).toArray⟩)) := by
  have hh := Any.strconv_Itoa laysM171 n h0 h1 w ht
  change Calls Tryz.prog 167 _ _ _ at hh
  exact hh.mono fun e w' ⟨he, k, os, hw⟩ => by subst hw; exact ⟨he, Lib.below_grow _ _ (Nat.le_refl _) _ _⟩
end

section
open Go.RowKit Go.Proofs
attribute [local go_sem] Oper.semAt_some
set_option linter.unusedVariables false

theorem take_snocS (s : ByteArray) (k : Nat) (h : k < s.size) : s.data.toList.take (k + 1) = s.data.toList.take k ++ [s[k]] := by
  rw [List.take_succ_eq_append_getElem (by simpa using h)]; rfl
theorem wbyteI_any (B b : Nat) (l : List UInt8) (ci : Int) (c : UInt8) (w : World) (hci : ci = (c.toNat : Int)) (h : Bd w B b l) (hlen : l.length ≤ 1000000) (hB : B ≤ w.heap.size) :
    Calls Tryz.prog 211 #[.pointer (some ⟨b, 0, none⟩), .int .u8 ci] w fun e w' => e = .returned .nilIface ∧ Bd w' B b (l ++ [c]) ∧ Below B w w' := by
  subst hci; exact wbyte_any B b l c w h hlen hB
theorem hex_at (n : Nat) (h : n < 16) (hp : n < (ByteArray.mk #[48, 49, 50, 51, 52, 53, 54, 55, 56, 57, 97, 98, 99, 100, 101, 102]).size) : (ByteArray.mk #[48, 49, 50, 51, 52, 53, 54, 55, 56, 57, 97, 98, 99, 100, 101, 102])[n] = hexB n := by
  have h2 : ∀ i : Fin 16, (ByteArray.mk #[48, 49, 50, 51, 52, 53, 54, 55, 56, 57, 97, 98, 99, 100, 101, 102])[i.val]'(i.isLt) = hexB i.val := by decide
  exact h2 ⟨n, h⟩
set_option maxRecDepth 100000 in
set_option maxHeartbeats 4000000 in
theorem quoted_any (s : ByteArray) (w : World) (hs : s.size ≤ 10000) : Calls Tryz.prog 168 #[.string s] w (RetV w (.string ⟨(quoB s.data.toList).toArray⟩)) := by
  have k0 := Bd.new w
  have hB0 : Below w.heap.size w (w.alloc (.cells #[.pointer none, .slice none 0 0] 237)) := (Below.refl _ _).alloc (Nat.le_refl _) _
  go_enter Tryz.func168, Tryz.ntmps168
  go_upto_region 2 with fail
  obtain ⟨W, hW⟩ : ∃ W, w.alloc (.cells #[.pointer none, .slice none 0 0] 237) = W := ⟨_, rfl⟩
  obtain ⟨b, hb⟩ : ∃ b, w.heap.size = b := ⟨_, rfl⟩
  rw [hW] at k0 hB0 ⊢
  rw [hb] at k0 hB0 ⊢
  have hbw : b ≤ w.heap.size := by omega
  clear hW
  have HC := hide (wbyteI_any b b [] 34 34 W rfl k0 (by simp) (by have := hB0.size; omega))
  go_wp2_with fail
  refine HC.out.mono ?_
  rintro e W1 ⟨rfl, k1, hB1⟩
  have hB01 := hB0.trans hB1
  have k1 : Bd W1 b b (34 :: (s.data.toList.take 0).flatMap qB) := k1
  clear k0 hB0 hB1 HC
  go_wp2_with fail
  go_loopw [4, 5, 9] (fun _ _ i wr => ∃ k : Nat, k ≤ s.size ∧ i = .int .i64 k ∧ Bd wr b b (34 :: (s.data.toList.take k).flatMap qB) ∧ Below b w wr) (fun _ _ i _ => s.size - (intOf i).toNat)
  case atStart => exact ⟨0, Nat.zero_le _, rfl, k1, hB01⟩
  case round =>
    clear k1 hB01
    obtain ⟨k, hk, rfl, kb, hB⟩ := hrel
    have hsz := hB.size
    have hbr : b ≤ wr.heap.size := by omega
    by_cases hlt : k < s.size
    · have hsn : (s.data.toList.take (k + 1)).flatMap qB = (s.data.toList.take k).flatMap qB ++ qB s[k] := by rw [take_snocS s k hlt, List.flatMap_append]; simp
      have hll : ((s.data.toList.take k).flatMap qB).length ≤ 40000 := by
        have := flat_qB_len (s.data.toList.take k)
        have h2 : (s.data.toList.take k).length ≤ s.size := by rw [List.length_take]; simp; omega
        omega
      have HS := hide hsn
      have hc := (s[k]).toNat_lt
      obtain ⟨L, hL⟩ : ∃ L, (s.data.toList.take k).flatMap qB = L := ⟨_, rfl⟩
      rw [hL] at kb hll
      have HL := hide hL
      clear hsn hL
      have q1 : (0 : Int) ≤ (k : Int) := by omega
      have q2 : (k : Int) < (s.size : Int) := by omega
      by_cases h34 : (s[k]).toNat = 34 ∨ (s[k]).toNat = 92
      · have HQ := hide (show qB s[k] = [92, s[k]] by unfold qB; rw [if_pos h34])
        have HC := hide (wbyteI_any b b (34 :: L) 92 92 wr rfl kb (by simp; omega) hbr)
        rcases h34 with h | h
        · have z1 : (((s[k]).toNat : Int) == 34) = true := by simp [h]
          go_wp2_with fail
          refine HC.out.mono ?_
          rintro e W2 ⟨rfl, k2, hB2⟩
          have HC2 := hide (wbyteI_any b b (34 :: L ++ [92]) 34 s[k] W2 (by omega) k2 (by simp; omega) (by have := hB2.size; omega))
          have hBx := hB.trans hB2
          clear kb hB hB2 HC k2
          go_wp2_with fail
          refine HC2.out.mono ?_
          rintro e W3 ⟨rfl, k3, hB3⟩
          have HK := hide k3
          have HBX := hide (hBx.trans hB3)
          clear hBx hB3 HC2 k3
          go_wp2_with fail
          go_roundw
          case rel => exact ⟨k + 1, by omega, by go_num, by rw [HS.out, HL.out, HQ.out]; simpa using HK.out, HBX.out⟩
          case measure => simp [intOf]; omega
        · have z1 : (((s[k]).toNat : Int) == 34) = false := by simp [h]
          have z2 : (((s[k]).toNat : Int) == 92) = true := by simp [h]
          go_wp2_with fail
          refine HC.out.mono ?_
          rintro e W2 ⟨rfl, k2, hB2⟩
          have HC2 := hide (wbyteI_any b b (34 :: L ++ [92]) 92 s[k] W2 (by omega) k2 (by simp; omega) (by have := hB2.size; omega))
          have hBx := hB.trans hB2
          clear kb hB hB2 HC k2
          go_wp2_with fail
          refine HC2.out.mono ?_
          rintro e W3 ⟨rfl, k3, hB3⟩
          have HK := hide k3
          have HBX := hide (hBx.trans hB3)
          clear hBx hB3 HC2 k3
          go_wp2_with fail
          go_roundw
          case rel => exact ⟨k + 1, by omega, by go_num, by rw [HS.out, HL.out, HQ.out]; simpa using HK.out, HBX.out⟩
          case measure => simp [intOf]; omega
      · have z1 : (((s[k]).toNat : Int) == 34) = false := by simp; omega
        have z2 : (((s[k]).toNat : Int) == 92) = false := by simp; omega
        by_cases h10 : (s[k]).toNat = 10
        · have HQ := hide (show qB s[k] = [92, 110] by unfold qB; rw [if_neg h34, if_pos h10])
          have z3 : (((s[k]).toNat : Int) == 10) = true := by simp [h10]
          have HC := hide (wstr_any b b (34 :: L) ⟨#[92, 110]⟩ wr kb (by simp only [List.length_cons]; show _ + 2 ≤ _; omega) hbr)
          clear h34
          go_wp2_with fail
          refine HC.out.mono ?_
          rintro e W2 ⟨rfl, k2, hB2⟩
          have HK := hide k2
          have HBX := hide (hB.trans hB2)
          clear kb hB hB2 HC k2
          go_wp2_with fail
          go_roundw
          case rel => exact ⟨k + 1, by omega, by go_num, by rw [HS.out, HL.out, HQ.out]; simpa using HK.out, HBX.out⟩
          case measure => simp [intOf]; omega
        · have z3 : (((s[k]).toNat : Int) == 10) = false := by simp; omega
          by_cases hx : (s[k]).toNat < 32 ∨ 126 < (s[k]).toNat
          · have HQ := hide (show qB s[k] = [92, 120, hexB ((s[k]).toNat / 16), hexB ((s[k]).toNat % 16)] by unfold qB; rw [if_neg h34, if_neg h10, if_pos hx])
            have HC := hide (wstr_any b b (34 :: L) ⟨#[92, 120]⟩ wr kb (by simp only [List.length_cons]; show _ + 2 ≤ _; omega) hbr)
            clear h34 h10
            rcases hx with h | h
            · have z4 : decide (((s[k]).toNat : Int) < 32) = true := by simp; omega
              go_wp2_with fail
              refine HC.out.mono ?_
              rintro e W2 ⟨rfl, k2, hB2⟩
              have hBx := hB.trans hB2
              have hs2 := hB2.size
              clear kb hB hB2 HC
              go_wp2_with fail
              refine (wbyteI_any b b _ _ (hexB ((s[k]).toNat / 16)) W2 (by rw [hex_at _ (by omega)]) k2 (by simp; omega) (by omega)).mono ?_
              rintro e W3 ⟨rfl, k3, hB3⟩
              have hBy := hBx.trans hB3
              have hs3 := hB3.size
              clear hBx hB3 k2
              go_wp2_with fail
              refine (wbyteI_any b b _ _ (hexB ((s[k]).toNat % 16)) W3 (by rw [hex_at _ (by omega)]) k3 (by simp; omega) (by omega)).mono ?_
              rintro e W4 ⟨rfl, k4, hB4⟩
              have HK := hide k4
              have HBX := hide (hBy.trans hB4)
              clear hBy hB4 k3 k4
              go_wp2_with fail
              go_roundw
              case rel => exact ⟨k + 1, by omega, by go_num, by rw [HS.out, HL.out, HQ.out]; simpa using HK.out, HBX.out⟩
              case measure => simp [intOf]; omega
            · have z4 : decide (((s[k]).toNat : Int) < 32) = false := by simp; omega
              have z5 : decide ((126 : Int) < ((s[k]).toNat : Int)) = true := by simp; omega
              go_wp2_with fail
              refine HC.out.mono ?_
              rintro e W2 ⟨rfl, k2, hB2⟩
              have hBx := hB.trans hB2
              have hs2 := hB2.size
              clear kb hB hB2 HC
              go_wp2_with fail
              refine (wbyteI_any b b _ _ (hexB ((s[k]).toNat / 16)) W2 (by rw [hex_at _ (by omega)]) k2 (by simp; omega) (by omega)).mono ?_
              rintro e W3 ⟨rfl, k3, hB3⟩
              have hBy := hBx.trans hB3
              have hs3 := hB3.size
              clear hBx hB3 k2
              go_wp2_with fail
              refine (wbyteI_any b b _ _ (hexB ((s[k]).toNat % 16)) W3 (by rw [hex_at _ (by omega)]) k3 (by simp; omega) (by omega)).mono ?_
              rintro e W4 ⟨rfl, k4, hB4⟩
              have HK := hide k4
              have HBX := hide (hBy.trans hB4)
              clear hBy hB4 k3 k4
              go_wp2_with fail
              go_roundw
              case rel => exact ⟨k + 1, by omega, by go_num, by rw [HS.out, HL.out, HQ.out]; simpa using HK.out, HBX.out⟩
              case measure => simp [intOf]; omega
          · have HQ := hide (show qB s[k] = [s[k]] by unfold qB; rw [if_neg h34, if_neg h10, if_neg hx])
            have z4 : decide (((s[k]).toNat : Int) < 32) = false := by simp; omega
            have z5 : decide ((126 : Int) < ((s[k]).toNat : Int)) = false := by simp; omega
            have HC := hide (wbyteI_any b b (34 :: L) _ s[k] wr rfl kb (by simp; omega) hbr)
            clear h34 h10 hx
            go_wp2_with fail
            refine HC.out.mono ?_
            rintro e W2 ⟨rfl, k2, hB2⟩
            have HK := hide k2
            have HBX := hide (hB.trans hB2)
            clear kb hB hB2 HC k2
            go_wp2_with fail
            go_roundw
            case rel => exact ⟨k + 1, by omega, by go_num, by rw [HS.out, HL.out, HQ.out]; simpa using HK.out, HBX.out⟩
            case measure => simp [intOf]; omega
    · obtain rfl : k = s.size := by omega
      rw [List.take_of_length_le (by simp)] at kb
      have hll : (34 :: s.data.toList.flatMap qB).length ≤ 40001 := by
        have := flat_qB_len s.data.toList
        have h2 : s.data.toList.length = s.size := rfl
        simp only [List.length_cons]
        omega
      have HC := hide (wbyteI_any b b (34 :: s.data.toList.flatMap qB) 34 34 wr rfl kb (by omega) hbr)
      clear hll
      go_wp2_with fail
      refine HC.out.mono ?_
      rintro e W2 ⟨rfl, k2, hB2⟩
      have hBx := hB.trans hB2
      have HC2 := hide (str_any b b _ W2 k2 (by have := hB2.size; omega))
      clear kb hB hB2 HC
      go_wp2_with fail
      refine HC2.out.mono ?_
      rintro e W3 ⟨rfl, _, hB3⟩
      have HB := hide (hBx.trans hB3)
      clear hBx hB3 HC2 k2
      go_wp2_with fail
      go_ret
      exact ⟨rfl, by rw [hb]; exact HB.out⟩
end

section
open Go.RowKit
attribute [local go_sem] Oper.semAt_some

/-- A drawn region met in a world of a class that was laid before. -/
theorem wp_region_quiet_bwp {P : Program} {id : Nat} {Q : Exit → Act → World → Prop} {a : Act} {W0 : World} {p : BW W0} {l : List Oper} (hm : P.follows .mixedOrders = true) (hB : Region.lexB .any l.toArray = true)
    (h : wpQuiet P l.toArray (fun w' => ∃ p : BW W0, w' = p.x) (fun a' => ∀ w', (∃ p : BW W0, w' = p.x) → Q .normal a' w') l a) : (Code.region id l.toArray true).wp P Q a p.x :=
  wp_region_quiet (C := fun w' => ∃ p : BW W0, w' = p.x) hm hB ⟨⟨p.x.drew, p.h.drew⟩, rfl⟩ (by simpa using h)

theorem R2within_any (n lo hi : Int) (w : World) : Calls Tryz.prog 186 #[.int .i64 n, .int .i64 lo, .int .i64 hi] w fun e w' => e = .returned (.bool (btw n lo hi)) ∧ w = w' := by
  by_cases h1 : n < lo
  · rw [btw_lo h1]
    go_enter Tryz.func186, Tryz.ntmps186
    go_wp2
    go_ret
    exact ⟨rfl, rfl⟩
  · rw [show btw n lo hi = decide (n ≤ hi) from by simp [btw, show lo ≤ n by omega]]
    go_enter Tryz.func186, Tryz.ntmps186
    go_wp2
    go_ret
    exact ⟨rfl, rfl⟩
theorem R3within_any (n lo hi : Int) (w : World) : Calls Tryz.prog 146 #[.int .i64 n, .int .i64 lo, .int .i64 hi] w fun e w' => e = .returned (.bool (btw n lo hi)) ∧ w = w' := by
  by_cases h1 : n < lo
  · rw [btw_lo h1]
    go_enter Tryz.func146, Tryz.ntmps146
    go_wp2
    go_ret
    exact ⟨rfl, rfl⟩
  · rw [show btw n lo hi = decide (n ≤ hi) from by simp [btw, show lo ≤ n by omega]]
    go_enter Tryz.func146, Tryz.ntmps146
    go_wp2
    go_ret
    exact ⟨rfl, rfl⟩
set_option maxRecDepth 100000 in
set_option maxHeartbeats 2000000 in
theorem RValidValue_any (v : Val) (w : World) : Calls Tryz.prog 136 #[.agg #[.int .i64 v.k, .int .i64 v.n, .string v.s]] w (RetV w (.bool (okV v))) := by
  have hB := below_val (w := w) #[.int .i64 v.k, .int .i64 v.n, .string v.s] 102
  obtain ⟨k, n, s⟩ := v
  simp only at hB ⊢
  have hd : okV ⟨k, n, s⟩ = ((k == 0 && n == 0 && s.size == 0) || (k == 1 && s.size == 0 && decide (-1000000000000000 ≤ n) && decide (n ≤ 1000000000000000)) || (k == 2 && n == 0 && decide (s.size ≤ 200))) := rfl
  have he := empty_size s
  by_cases h0 : k = 0
  · subst h0
    by_cases hn : n = 0
    · subst hn
      have HD := hide (show okV ⟨0, 0, s⟩ = s.toList.isEmpty from by rw [hd, he]; simp)
      rw [HD.out]
      clear hd he
      go_enter Tryz.func136, Tryz.ntmps136
      go_wp2
      go_ret
      exact ⟨rfl, hB⟩
    · have n0 : (n == 0) = false := by simpa using hn
      have HD := hide (show okV ⟨0, n, s⟩ = false from by rw [hd]; simp [hn])
      rw [HD.out]
      clear hd he
      go_enter Tryz.func136, Tryz.ntmps136
      go_wp2
      go_ret
      exact ⟨rfl, hB⟩
  · have n0 : (k == 0) = false := by simpa using h0
    by_cases h1 : k = 1
    · subst h1
      obtain ⟨bs, hbs⟩ : ∃ bs, s.toList.isEmpty = bs := ⟨_, rfl⟩
      have HD := hide (show okV ⟨1, n, s⟩ = (bs && btw n (-1000000000000000) 1000000000000000) from by
        rw [hd, ← hbs, he]
        unfold btw
        cases s.size == 0 <;> cases decide (-1000000000000000 ≤ n) <;> cases decide (n ≤ 1000000000000000) <;> rfl)
      rw [HD.out]
      clear hd n0 h0 he
      cases bs
      · go_enter Tryz.func136, Tryz.ntmps136
        go_wp2
        go_ret
        exact ⟨rfl, hB⟩
      · go_enter Tryz.func136, Tryz.ntmps136
        go_wp2_with (go_at_call 186; refine (R2within_any _ _ _ _).mono ?_; rintro e w' ⟨rfl, rfl⟩)
        go_ret
        exact ⟨rfl, hB⟩
    · have n1 : (k == 1) = false := by simpa using h1
      clear he
      by_cases h2 : k = 2
      · subst h2
        by_cases hn : n = 0
        · subst hn
          have HD := hide (show okV ⟨2, 0, s⟩ = decide ((s.size : Int) ≤ 200) from by
            rw [hd, Bool.eq_iff_iff, decide_eq_true_eq]
            simp
            omega)
          rw [HD.out]
          clear hd n0 h0 n1 h1
          go_enter Tryz.func136, Tryz.ntmps136
          go_wp2
          go_ret
          exact ⟨rfl, hB⟩
        · have n2 : (n == 0) = false := by simpa using hn
          have HD := hide (show okV ⟨2, n, s⟩ = false from by rw [hd]; simp [hn])
          rw [HD.out]
          clear hd n0 h0 n1 h1
          go_enter Tryz.func136, Tryz.ntmps136
          go_wp2
          go_ret
          exact ⟨rfl, hB⟩
      · have n2 : (k == 2) = false := by simpa using h2
        have HD := hide (show okV ⟨k, n, s⟩ = false from by rw [hd]; simp [h0, h1, h2])
        rw [HD.out]
        clear hd
        go_enter Tryz.func136, Tryz.ntmps136
        go_wp2
        go_ret
        exact ⟨rfl, hB⟩
theorem class_any (v : Val) (w : World) : Calls Tryz.prog 183 #[.agg #[.int .i64 v.k, .int .i64 v.n, .string v.s]] w (RetV w (.int .i64 (cls v))) := by
  have hB := below_val (w := w) #[.int .i64 v.k, .int .i64 v.n, .string v.s] 102
  have hc : cls v = if v.k = 1 ∨ v.k = 2 then v.k else 0 := rfl
  by_cases h1 : v.k = 1
  · have HC := hide (show cls v = 1 from by rw [hc, if_pos (.inl h1), h1])
    rw [HC.out]
    clear hc
    obtain ⟨k, n, s⟩ := v
    simp only at h1 hB ⊢
    subst h1
    go_enter Tryz.func183, Tryz.ntmps183
    go_wp2
    go_ret
    exact ⟨rfl, hB⟩
  · have n1 : (v.k == 1) = false := by simpa using h1
    by_cases h2 : v.k = 2
    · have HC := hide (show cls v = 2 from by rw [hc, if_pos (.inr h2), h2])
      rw [HC.out]
      clear hc h1 n1
      obtain ⟨k, n, s⟩ := v
      simp only at h2 hB ⊢
      subst h2
      go_enter Tryz.func183, Tryz.ntmps183
      go_wp2
      go_ret
      exact ⟨rfl, hB⟩
    · have n2 : (v.k == 2) = false := by simpa using h2
      have HC := hide (show cls v = 0 from by rw [hc, if_neg (by omega)])
      rw [HC.out]
      clear hc h1 h2
      go_enter Tryz.func183, Tryz.ntmps183
      go_wp2
      go_ret
      exact ⟨rfl, hB⟩
end

end Go.Proofs.YtoapjidpfghnlaaGreatDoor
