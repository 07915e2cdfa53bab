/-
  The walks of bag.Sum and bag.Minus, for every two bags.
  The walk of bag.Changes, for every two valid bags and a valid time whose changes are no error.
  The walks of the references' Same at rows and bags that are one, and of Long and Few.
  The walk of Few: whatever it answers, bags that are few have at most 60 items.
  The walks of the reference's SameChanges at changes that are one, and of the law's awake.
-/
import Derived.Test.YtoapjidpfghnlaaGreatDoorBgS1
import Derived.Test.YtoapjidpfghnlaaGreatDoorBgP1
namespace Go.Proofs.YtoapjidpfghnlaaGreatDoor

section
open Go.RowKit Go.Shelf
attribute [local go_sem] Oper.semAt_some wide_fn wide_depth

/-- What two bags put together are, with the error. -/
def comb (f : Int → Int → Int) (a b : Bg) : Bg × Int := if okBag a && okBag b then (if okBag (both f (prs a b)) then (both f (prs a b), 0) else ([], 4)) else ([], 1)
def RetC (w : World) (p : Bg × Int) : Ending → World → Prop := RetBag w p.1 p.2
theorem both_bad (g : Nat) (A : Option Addr) (n c : Nat) (la : List It) (A' : Option Addr) (n' c' : Nat) (lb : List It) (w : World) (ha : BagR w w.heap.size A n la) (hb : BagR w w.heap.size A' n' lb) (caps : Array Value)
    (hv : (okBag (dat la) && okBag (dat lb)) = false) : CallsIn Fence.wide 4 Tryz.prog 164 #[.slice A n c, .slice A' n' c', .func (Fn.func g) #[] caps] w (RetBag w [] 1) := by
  have hB0 := below_val (w := w) #[.func (Fn.func g) #[] caps] 168
  refine callsIn_of_wp_marks Tryz.func164 rfl trivial ?_ rfl
  simp only [Tryz.ntmps164, List.size_toArray, List.length_cons, List.length_nil, Nat.reduceAdd, Nat.reduceSub, Array.replicate_succ, Array.replicate_zero, List.push_toArray, List.append_toArray, List.nil_append, List.cons_append]
  gi_wp2_with fail
  obtain ⟨W0, hW0⟩ : ∃ W0, w.alloc (.cells #[.func (Fn.func g) #[] caps] 168) = W0 := ⟨_, rfl⟩
  rw [hW0] at hB0 ⊢
  clear hW0
  refine (callsIn_wide.2 (BagValid_any A n c _ la W0 (ha.below hB0))).mono ?_
  rintro e W1 ⟨rfl, hB1⟩
  have hB01 := bstep hB0 hB1
  clear hB0 hB1
  cases hva : okBag (dat la)
  · have HE := hide hB01
    clear hB01 ha hb hva hv
    gi_wp2
    exact ⟨_, results_tmp2 rfl _ _ _, none, 0, 0, [], rfl, rfl, BagR.nil _ _, Nat.le_refl _, HE.out⟩
  · have HVB := hide (show okBag (dat lb) = false from by rw [hva, Bool.true_and] at hv; exact hv)
    clear hva hv
    gi_wp2_with fail
    refine (callsIn_wide.2 (BagValid_any A' n' c' _ lb W1 (hb.below hB01))).mono ?_
    rintro e W2 ⟨rfl, hB2⟩
    rw [HVB.out]
    have HE := hide (bstep hB01 hB2)
    clear hB01 hB2 ha hb
    gi_wp2
    exact ⟨_, results_tmp2 rfl _ _ _, none, 0, 0, [], rfl, rfl, BagR.nil _ _, Nat.le_refl _, HE.out⟩
theorem both_any (f : Int → Int → Int) (g : Nat) (caps : Array Value) (eg : ∀ args w, (callFunc g args).run Tryz.prog w = .ok (.enter g args) w)
    (A : Option Addr) (n c : Nat) (la : List It) (A' : Option Addr) (n' c' : Nat) (lb : List It) (w : World) (ha : BagR w w.heap.size A n la) (hb : BagR w w.heap.size A' n' lb) (hc : n ≤ c) (hc' : n' ≤ c')
    (hf : ∀ (m k : Int) (W : World), -1000000 ≤ m → m ≤ 1000000 → -1000000 ≤ k → k ≤ 1000000 → Below w.heap.size w W → Calls Tryz.prog g (#[.int .i64 m, .int .i64 k] ++ caps) W fun e W' => e = .returned (.int .i64 (f m k)) ∧ W = W') :
    Calls Tryz.prog 164 #[.slice A n c, .slice A' n' c', .func (Fn.func g) #[] caps] w (RetC w (comb f (dat la) (dat lb))) := by
  refine (callsIn_wide (n := 4)).1 ?_
  cases hv : okBag (dat la) && okBag (dat lb)
  · have : comb f (dat la) (dat lb) = ([], 1) := by unfold comb; rw [hv]; rfl
    rw [this]
    exact both_bad g A n c la A' n' c' lb w ha hb caps hv
  · rw [Bool.and_eq_true] at hv
    refine (both_in f g caps eg A n c la A' n' c' lb w ha hb hc hc' hf hv.1 hv.2).mono fun e W' h => ?_
    unfold RetPut at h
    unfold RetC comb
    rw [hv.1, hv.2]
    cases ho : okBag (both f (prs (dat la) (dat lb))) <;> rw [ho] at h <;> exact h

theorem Sum_any (A : Option Addr) (n c : Nat) (la : List It) (A' : Option Addr) (n' c' : Nat) (lb : List It) (w : World) (ha : BagR w w.heap.size A n la) (hb : BagR w w.heap.size A' n' lb) (hc : n ≤ c) (hc' : n' ≤ c') :
    Calls Tryz.prog 117 #[.slice A n c, .slice A' n' c'] w (RetC w (comb (fun m k => m + k) (dat la) (dat lb))) := by
  have H := hide (both_any (fun m k => m + k) 165 #[] (enters_of Tryz.func165 (by kernel_rfl) rfl) A n c la A' n' c' lb w ha hb hc hc' (fun m k W h1 h2 h3 h4 _ => sum1_any m k W ⟨h1, h2⟩ ⟨h3, h4⟩))
  obtain ⟨d, E, hp⟩ : ∃ d E, comb (fun m k => m + k) (dat la) (dat lb) = (d, E) := ⟨_, _, rfl⟩
  rw [hp] at H ⊢
  clear hp ha hb
  go_enter Tryz.func117, Tryz.ntmps117
  go_wp2_with fail
  refine H.out.mono ?_
  rintro e W1 ⟨Ar, nr, cr, lr, rfl, hd, hbr, hcr, hB⟩
  go_wp2
  go_ret2
  exact ⟨Ar, nr, cr, lr, rfl, hd, hbr, hcr, hB⟩
end

section
open Go.RowKit Go.Shelf
attribute [local go_sem] Oper.semAt_some wide_fn wide_depth

structure Ch where
  t : Int
  A : Option Addr
  n : Nat
  c : Nat
  r : Rw
  m : Int
def encCh (i : Ch) : List Value := [.int .i64 i.t, .slice i.A i.n i.c, .int .i64 i.m]
theorem encCh_len (i : Ch) : (encCh i).length = 3 := rfl
theorem infoCh : (Tryz.prog.info? 57).map (fun i => (i.zero, i.size, i.bytes)) = some (some (.agg #[.int .i64 0, .slice none 0 0, .int .i64 0]), 3, 40) := by kernel_rfl
def RowsC (w : World) (B : Nat) (l : List Ch) : Prop := ∀ i ∈ l, RowK w B i.A i.n i.r
/-- A list of changes in memory. -/
structure ChgR (w : World) (B : Nat) (A : Option Addr) (n : Nat) (l : List Ch) : Prop where
  rd : Reads w w.heap.size 3 A n (l.flatMap encCh)
  rows : RowsC w B l
  le : n ≤ 9223372036854775807
/-- What lies in memory between two rounds: box ob holds what was put together so far. -/
structure OutC (f : Int → Int → Int) (T : Int) (B ob : Nat) (pre : List Pe) (W : World) : Prop where
  ow : ∃ (v : Value) (l : List Ch), Boxed W ob 67 v ∧ W.ownsRow (ob + 3) 57 3 v l.length (l.flatMap encCh) ∧ (l.map (fun i => (i.r, i.m)) = both f (pre.map datP) ∧ ∀ i ∈ l, i.t = T) ∧ RowsC W B l
  a : ∃ v, Boxed W (ob + 1) 40 v
  b : ∃ v, Boxed W (ob + 1 + 1) 40 v
theorem OutC.lt {f : Int → Int → Int} {T : Int} {B ob : Nat} {pre : List Pe} {W : World} (h : OutC f T B ob pre W) : ob + 1 + 1 < W.heap.size := by obtain ⟨v, hv⟩ := h.b; exact hv.lt
theorem OutC.below {f : Int → Int → Int} {T : Int} {B ob : Nat} {pre : List Pe} {W W' : World} (h : OutC f T B ob pre W) (hb : Below W.heap.size W W') : OutC f T B ob pre W' := by
  obtain ⟨⟨v, l, h1, h2, h3, h4⟩, ⟨va, h5⟩, ⟨vb, h6⟩⟩ := h
  exact ⟨⟨v, l, (hb.block _ h1.lt).trans h1, own_below h2 hb, h3, fun i hi => (h4 i hi).below hb⟩, ⟨va, (hb.block _ h5.lt).trans h5⟩, ⟨vb, (hb.block _ h6.lt).trans h6⟩⟩
theorem outC_from {f : Int → Int → Int} {T : Int} {B ob C : Nat} (hC : B ≤ C) : OwnFrom C (fun (pre : List Pe) W => OutC f T B ob pre W) := by
  intro pre X Y row h hg hr
  obtain ⟨⟨v, l, h1, h2, h3, h4⟩, ⟨va, h5⟩, ⟨vb, h6⟩⟩ := h
  have hr2 : ∀ k, row = some k → ∃ o : Obj, X.heap[k]? = some o ∧ o.isCells = false := fun k e => (hr k e).2
  have bx : ∀ {b : Nat} {t : TypeId} {u : Value}, Boxed X b t u → Boxed Y b t u := fun hb => blk_own hb hg hr2
  refine ⟨⟨v, l, bx h1, h2.kept hg ?_, h3, fun i hi => RowK.others (h4 i hi) hg fun k e => ⟨Nat.le_trans hC (hr k e).1, (hr k e).2⟩⟩, ⟨va, bx h5⟩, ⟨vb, bx h6⟩⟩
  cases hv : v.ownBlock with
  | none => exact .inl rfl
  | some b =>
    refine .inr fun e => ?_
    obtain ⟨c, fz, hc⟩ := own_cells h2 hv
    obtain ⟨o, ho, hcc⟩ := hr2 b e.symm
    rw [hc] at ho
    cases ho; cases hcc
theorem OutC.wr {f : Int → Int → Int} {T : Int} {B ob : Nat} {pre : List Pe} {X Y : World} (h : OutC f T B ob pre X) (k : WrQ (ob + 1) (ob + 1 + 1) X Y) (hB : B ≤ ob) : OutC f T B ob pre Y := by
  obtain ⟨⟨v, l, h1, h2, h3, h4⟩, ⟨va, h5⟩, ⟨vb, h6⟩⟩ := h
  have hbl : ∀ b, b < X.heap.size → b ≠ ob + 1 → b ≠ ob + 1 + 1 → Y.heap[b]? = X.heap[b]? := fun b hb n1 n2 => k.wr.bar.block b hb (by simp; omega)
  refine ⟨⟨v, l, (hbl ob h1.lt (by omega) (by omega)).trans h1, ⟨h2.1, ?_⟩, h3, fun i hi => ?_⟩, k.a, k.b⟩
  · rcases h2.2 with e | ⟨g, cap, cur, e1, e2, e3, e4⟩
    · exact .inl e
    · exact .inr ⟨g, cap, cur, e1, e2, (hbl g (Array.getElem?_eq_some_iff.1 e3).1 (by omega) (by omega)).trans e3, e4⟩
  · refine (h4 i hi).keep (p := fun b => b = ob + 1 ∨ b = ob + 1 + 1) (fun b hb hn => hbl b hb (fun e => hn (.inl e)) (fun e => hn (.inr e))) k.wr.bar.size fun b hb => ⟨by omega, fun c fz hc => ?_⟩
    rcases hb with rfl | rfl
    · rw [show X.heap[ob + 1]? = _ from h5] at hc
      cases hc
    · rw [show X.heap[ob + 1 + 1]? = _ from h6] at hc
      cases hc
theorem both_mem {f : Int → Int → Int} : ∀ {l : List Pr2} {t : Pr2}, t ∈ l → f t.2.1 t.2.2 ≠ 0 → (t.1, f t.2.1 t.2.2) ∈ both f l
  | s :: l, t, h, h0 => by
    rw [both]
    rcases List.mem_cons.1 h with rfl | h
    · rw [if_neg h0]; exact List.mem_cons_self
    · split
      · exact both_mem h h0
      · exact List.mem_cons_of_mem _ (both_mem h h0)
/-- Changes, all at one time, handed back. -/
def RetChg (w : World) (T : Int) (d : Bg) (e : Ending) (w' : World) : Prop :=
  ∃ A n c l, e = .returned (.tuple #[.slice A n c, .int .i64 0]) ∧ (l.map (fun i => (i.r, i.m)) = d ∧ ∀ i ∈ l, i.t = T) ∧ ChgR w' w'.heap.size A n l ∧ Below w.heap.size w w'
theorem res_two {b1 b2 : Nat} {v1 v2 : Value} {w : World} {tmps : Array Value} (h6 : tmps.getD 6 undef = .pointer (some ⟨b1, 0, none⟩)) (h7 : tmps.getD 7 undef = .pointer (some ⟨b2, 0, none⟩)) (h1 : w.cell? ⟨b1, 0, none⟩ = some v1) (h2 : w.cell? ⟨b2, 0, none⟩ = some v2) :
    (results Tryz.f162 tmps).run Tryz.prog w = .ok (.tuple #[v1, v2]) w := by
  have hr : Tryz.f162.results = #[.cell 6 67, .cell 7 28] := rfl
  simp only [Array.getD_eq_getD_getElem?] at h6 h7
  simp only [results, hr]
  simp [Sem.run_bind, h6, h7]
  go_simp

end

section
open Go.RowKit
attribute [local go_sem] Oper.semAt_some

theorem neVal (a : Int) (b : Int) (s : ByteArray) (w : World) : (binOp .neq 102 (.agg #[.int .i64 a, .int .i64 b, .string s]) (.agg #[.int .i64 a, .int .i64 b, .string s])).run Tryz.prog w = .ok (.bool false) w := by
  have u3 := Tryz.underlying3
  have a3 := Tryz.isAgg3
  have z3 := Tryz.sizeOf3
  have u9 := Tryz.underlying9
  have a9 := Tryz.isAgg9
  have z9 := Tryz.sizeOf9
  have hS : Tryz.prog.underlying 102 = some (.struct (Tryz.prog.fieldsOf 102)) := by kernel_rfl
  have hp : Tryz.prog.stoodInHeld 102 = false := by kernel_rfl
  rw [run_neq_struct, show (10000 : Nat) = 9999 + 1 from rfl, run_equalIn_agg w 9999 102 _ _ hS hp]
  simp only [Program.fieldsOf, Tryz.underlying102]
  go_simp
set_option maxRecDepth 100000 in
set_option maxHeartbeats 2000000 in
theorem RowSame_one (A : Option Addr) (n c : Nat) (A' : Option Addr) (c' : Nat) (r : Rw) (w : World) (hx : Reads w w.heap.size 3 A n (r.flatMap encV)) (hy : Reads w w.heap.size 3 A' n (r.flatMap encV)) (hn : n ≤ 9223372036854775807) :
    Calls Tryz.prog 80 #[.slice A n c, .slice A' n c'] w (RetV w (.bool true)) := by
  have HL := hide (hx.len encV_len (by omega))
  have hm : Tryz.prog.eqGuardType Tryz.prog.depth 102 = false := by kernel_rfl
  have hne := neVal
  have n1 : ((n : Int) != (n : Int)) = false := by simp
  go_enter Tryz.func80, Tryz.ntmps80
  go_wp2_with fail
  go_loopw [5] (fun i wr => ∃ k : Nat, k ≤ n ∧ i = .int .i64 k ∧ Below w.heap.size w wr) (fun i _ => n - (intOf i).toNat)
  case atStart => exact ⟨0, Nat.zero_le _, rfl, Below.refl _ _⟩
  case round =>
    obtain ⟨k, hk, rfl, hB⟩ := hrel
    by_cases hlt : k < n
    · obtain ⟨b, off, e, rfl, hb, hek, hce⟩ := (hx.below hB).elem encV_len HL.out hlt
      obtain ⟨b', off', e', rfl, hb', hek', hce'⟩ := (hy.below hB).elem encV_len HL.out hlt
      obtain rfl : e = e' := by rw [hek] at hek'; injection hek'
      have e0 : wr.cell? ⟨b, off + k * 3, none⟩ = some (.int .i64 e.k) := by simpa using hce 0 _ rfl
      have e1 : wr.cell? ⟨b, off + k * 3 + 1, none⟩ = some (.int .i64 e.n) := by simpa [← Nat.add_assoc] using hce 1 _ rfl
      have e2 : wr.cell? ⟨b, off + k * 3 + 2, none⟩ = some (.string e.s) := by simpa [← Nat.add_assoc] using hce 2 _ rfl
      have f0 : wr.cell? ⟨b', off' + k * 3, none⟩ = some (.int .i64 e.k) := by simpa using hce' 0 _ rfl
      have f1 : wr.cell? ⟨b', off' + k * 3 + 1, none⟩ = some (.int .i64 e.n) := by simpa [← Nat.add_assoc] using hce' 1 _ rfl
      have f2 : wr.cell? ⟨b', off' + k * 3 + 2, none⟩ = some (.string e.s) := by simpa [← Nat.add_assoc] using hce' 2 _ rfl
      clear hce hce' hek hek'
      have q1 : (0 : Int) ≤ (k : Int) := by omega
      have q2 : (k : Int) < (n : Int) := by omega
      go_wp2_with fail
      go_quiet (fail)
      go_wp2
      go_roundw
      case rel => exact ⟨k + 1, by omega, by go_num, below_drewN hB _⟩
      case measure => simp [intOf]; omega
    · obtain rfl : k = n := by omega
      go_wp2
      go_ret
      exact ⟨rfl, hB⟩
set_option maxRecDepth 100000 in
set_option maxHeartbeats 4000000 in
theorem BagSame_one (A : Option Addr) (n c : Nat) (A' : Option Addr) (c' B B' : Nat) (l l' : List It) (w : World) (hx : BagR w B A n l) (hy : BagR w B' A' n l') (hd : dat l = dat l') :
    Calls Tryz.prog 24 #[.slice A n c, .slice A' n c'] w (RetV w (.bool true)) := by
  have hn := hx.le
  have n1 : ((n : Int) != (n : Int)) = false := by simp
  go_enter Tryz.func24, Tryz.ntmps24
  go_wp2_with fail
  go_loopw [5] (fun i wr => ∃ k : Nat, k ≤ n ∧ i = .int .i64 k ∧ Below w.heap.size w wr) (fun i _ => n - (intOf i).toNat)
  case atStart => exact ⟨0, Nat.zero_le _, rfl, Below.refl _ _⟩
  case round =>
    obtain ⟨k, hk, rfl, hB⟩ := hrel
    by_cases hlt : k < n
    · obtain ⟨b, off, x, rfl, hb, hxk, c0, c1, hrow⟩ := (hx.below hB).at_ hlt
      obtain ⟨b', off', x', rfl, hb', hxk', c0', c1', hrow'⟩ := (hy.below hB).at_ hlt
      have he : (x.r, x.m) = (x'.r, x'.m) := by
        have h1 := dat_at hxk
        have h2 := dat_at hxk'
        rw [hd, h2] at h1
        injection h1 with h1
        exact h1.symm
      injection he with he1 he2
      have hl : x.n = x'.n := by rw [← hrow.len, ← hrow'.len, he1]
      rw [← he2] at c1'
      rw [← hl] at c0'
      have n2 : (x.m != x.m) = false := by simp
      have C1 := hide (fun (p : BW wr) => calls_bw (p := p) (RowSame_one x.A x.n x.c x'.A x'.c x.r p.x (hrow.below p.h).rd (by have h := (hrow'.below p.h).rd; rw [← he1, ← hl] at h; exact h) hrow.le))
      have p0 := fun (p : BW wr) => BW.cell (a := ⟨b, off + k * 2, none⟩) hb c0 p
      have p1 := fun (p : BW wr) => BW.cell (a := ⟨b, off + k * 2 + 1, none⟩) hb c1 p
      have r0 := fun (p : BW wr) => BW.cell (a := ⟨b', off' + k * 2, none⟩) hb' c0' p
      have r1 := fun (p : BW wr) => BW.cell (a := ⟨b', off' + k * 2 + 1, none⟩) hb' c1' p
      clear c0 c1 c0' c1' hxk hxk' he1 he2 hl hrow hrow'
      have q1 : (0 : Int) ≤ (k : Int) := by omega
      have q2 : (k : Int) < (n : Int) := by omega
      go_wp2_with fail
      (refine wp_region_quiet_bw (by kernel_rfl) (by kernel_rfl) ?_
       repeat (first | go_big_quiet_step (((go_at_call 80; exact C1.out _))) | quiet_step (((go_at_call 80; exact C1.out _))))
       refine wpQuiet_nil ?_
       intro wq hw'
       obtain ⟨⟨_, hbq⟩, hw''⟩ := hw'
       subst hw'')
      have hB2 := bstep hB hbq
      clear hbq hB p0 p1 r0 r1 C1
      go_wp2
      go_roundw
      case rel => exact ⟨k + 1, by omega, by go_num, hB2⟩
      case measure => simp [intOf]; omega
    · obtain rfl : k = n := by omega
      go_wp2
      go_ret
      exact ⟨rfl, hB⟩

/-- Long answers. -/
def RetSome (w : World) (e : Ending) (w' : World) : Prop := ∃ b : Bool, e = .returned (.bool b) ∧ Below w.heap.size w w'
set_option maxRecDepth 100000 in
set_option maxHeartbeats 2000000 in
theorem Long_one (A : Option Addr) (n c : Nat) (r : Rw) (a : Nat) (w : World) (hx : Reads w w.heap.size 3 A n (r.flatMap encV)) (hn : n ≤ 9223372036854775807) (ha : w.cell? ⟨a, 0, none⟩ = some (.slice A n c)) :
    Calls Tryz.prog 59 #[.slice (some ⟨a, 0, none⟩) 1 1] w (RetSome w) := by
  have HL := hide (hx.len encV_len (by omega))
  go_enter Tryz.func59, Tryz.ntmps59
  go_wp2_with fail
  go_loopw [3, 4] (fun s i wr => ∃ (k : Nat) (x : Int), k ≤ 1 ∧ s = .int .i64 x ∧ i = .int .i64 k ∧ wr = w) (fun _ i _ => 1 - (intOf i).toNat)
  case atStart => exact ⟨0, 0, Nat.zero_le _, rfl, rfl, rfl⟩
  case round =>
    obtain ⟨k, x, hk, rfl, rfl, rfl⟩ := hrel
    by_cases hlt : k < 1
    · obtain rfl : k = 0 := by omega
      go_wp2_with fail
      go_loopw [3, 5] (fun s i wr' => ∃ (k : Nat) (x : Int), k ≤ n ∧ s = .int .i64 x ∧ i = .int .i64 k ∧ wr' = wr) (fun _ i _ => n - (intOf i).toNat)
      case atStart => exact ⟨0, _, Nat.zero_le _, rfl, rfl, rfl⟩
      case round =>
        obtain ⟨j, y, hj, rfl, rfl, hw⟩ := hrel
        subst hw
        by_cases hlt2 : j < n
        · obtain ⟨b, off, e, rfl, hb, hek, hce⟩ := hx.elem encV_len HL.out hlt2
          have e2 := hce 2 _ rfl
          have e2' := e2
          rw [show off + (j * 3 + 2) = off + j * 3 + 2 by omega] at e2'
          clear hce hek
          have q1 : (0 : Int) ≤ (j : Int) := by omega
          have q2 : (j : Int) < (n : Int) := by omega
          go_wp2
          go_roundw
          case rel => exact ⟨j + 1, _, by omega, rfl, by go_num, trivial⟩
          case measure => simp [intOf]; omega
        · obtain rfl : j = n := by omega
          go_wp2
          go_roundw
          case rel => exact ⟨1, _, by omega, rfl, by go_num, trivial⟩
          case measure => simp [intOf]
    · obtain rfl : k = 1 := by omega
      go_wp2
      go_ret
      exact ⟨_, rfl, Below.refl _ _⟩
end

section
open Go.RowKit
attribute [local go_sem] Oper.semAt_some

structure Bn where
  A : Option Addr
  n : Nat
  c : Nat
  l : List It
def RetFew (w : World) (bs : List Bn) (e : Ending) (w' : World) : Prop := ∃ b : Bool, e = .returned (.bool b) ∧ (b = true → ∀ x ∈ bs, x.n ≤ 60) ∧ Below w.heap.size w w'
end

section
open Go.RowKit
attribute [local go_sem] Oper.semAt_some

theorem ChgR.at_ {w : World} {B n : Nat} {A : Option Addr} {l : List Ch} (h : ChgR w B A n l) {k : Nat} (hk : k < n) : ∃ b off i, A = some ⟨b, off, none⟩ ∧ b < w.heap.size ∧ l[k]? = some i ∧ w.cell? ⟨b, off + k * 3, none⟩ = some (.int .i64 i.t) ∧
    w.cell? ⟨b, off + k * 3 + 1, none⟩ = some (.slice i.A i.n i.c) ∧ w.cell? ⟨b, off + k * 3 + 2, none⟩ = some (.int .i64 i.m) ∧ RowK w B i.A i.n i.r := by
  obtain ⟨b, off, i, e, hb, hi, hc⟩ := h.rd.elem encCh_len (h.rd.len encCh_len (by omega)) hk
  exact ⟨b, off, i, e, hb, hi, by simpa using hc 0 _ rfl, by simpa [← Nat.add_assoc] using hc 1 _ rfl, by simpa [← Nat.add_assoc] using hc 2 _ rfl, h.rows i (List.mem_of_getElem? hi)⟩
theorem ChgR.below {w w' : World} {B n : Nat} {A : Option Addr} {l : List Ch} (h : ChgR w B A n l) (hb : Below w.heap.size w w') : ChgR w' B A n l := ⟨h.rd.up hb, fun i hi => (h.rows i hi).below hb, h.le⟩
def datC (l : List Ch) : List (Rw × Int × Int) := l.map fun i => (i.r, i.t, i.m)
set_option maxRecDepth 100000 in
set_option maxHeartbeats 8000000 in
theorem ChgSame_one (A : Option Addr) (n c : Nat) (A' : Option Addr) (c' B B' : Nat) (l l' : List Ch) (w : World) (hx : ChgR w B A n l) (hy : ChgR w B' A' n l') (hd : datC l = datC l') :
    Calls Tryz.prog 41 #[.slice A n c, .slice A' n c'] w (RetV w (.bool true)) := by
  have hn := hx.le
  have n1 : ((n : Int) != (n : Int)) = false := by simp
  go_enter Tryz.func41, Tryz.ntmps41
  go_wp2_with fail
  go_loopw [5] (fun i wr => ∃ k : Nat, k ≤ n ∧ i = .int .i64 k ∧ Below w.heap.size w wr) (fun i _ => n - (intOf i).toNat)
  case atStart => exact ⟨0, Nat.zero_le _, rfl, Below.refl _ _⟩
  case round =>
    obtain ⟨k, hk, rfl, hB⟩ := hrel
    by_cases hlt : k < n
    · obtain ⟨b, off, x, rfl, hb, hxk, c0, c1, c2, hrow⟩ := (hx.below hB).at_ hlt
      obtain ⟨b', off', x', rfl, hb', hxk', c0', c1', c2', hrow'⟩ := (hy.below hB).at_ hlt
      have he : (x.r, x.t, x.m) = (x'.r, x'.t, x'.m) := by
        have h1 : (datC l)[k]? = some (x.r, x.t, x.m) := by unfold datC; rw [List.getElem?_map, hxk]; rfl
        have h2 : (datC l')[k]? = some (x'.r, x'.t, x'.m) := by unfold datC; rw [List.getElem?_map, hxk']; rfl
        rw [hd, h2] at h1
        injection h1 with h1
        exact h1.symm
      injection he with he1 he2
      injection he2 with he2 he3
      have hl : x.n = x'.n := by rw [← hrow.len, ← hrow'.len, he1]
      rw [← he2] at c0'
      rw [← hl] at c1'
      rw [← he3] at c2'
      have n2 : (x.m != x.m) = false := by simp
      have n3 : (x.t != x.t) = false := by simp
      have C1 := hide (fun (p : BW wr) => calls_bw (p := p) (RowSame_one x.A x.n x.c x'.A x'.c x.r p.x (hrow.below p.h).rd (by have h := (hrow'.below p.h).rd; rw [← he1, ← hl] at h; exact h) hrow.le))
      have p0 := fun (p : BW wr) => BW.cell (a := ⟨b, off + k * 3, none⟩) hb c0 p
      have p1 := fun (p : BW wr) => BW.cell (a := ⟨b, off + k * 3 + 1, none⟩) hb c1 p
      have p2 := fun (p : BW wr) => BW.cell (a := ⟨b, off + k * 3 + 2, none⟩) hb c2 p
      have r0 := fun (p : BW wr) => BW.cell (a := ⟨b', off' + k * 3, none⟩) hb' c0' p
      have r1 := fun (p : BW wr) => BW.cell (a := ⟨b', off' + k * 3 + 1, none⟩) hb' c1' p
      have r2 := fun (p : BW wr) => BW.cell (a := ⟨b', off' + k * 3 + 2, none⟩) hb' c2' p
      clear c0 c1 c2 c0' c1' c2' hxk hxk' he1 he2 he3 hl hrow hrow'
      have q1 : (0 : Int) ≤ (k : Int) := by omega
      have q2 : (k : Int) < (n : Int) := by omega
      go_wp2_with fail
      (refine wp_region_quiet_bw (by kernel_rfl) (by kernel_rfl) ?_
       repeat (first | go_big_quiet_step (((go_at_call 80; exact C1.out _))) | quiet_step (((go_at_call 80; exact C1.out _))))
       refine wpQuiet_nil ?_
       intro wq hw'
       obtain ⟨⟨_, hbq⟩, hw''⟩ := hw'
       subst hw'')
      have hB2 := bstep hB hbq
      clear hbq hB p0 p1 p2 r0 r1 r2 C1
      go_wp2
      go_roundw
      case rel => exact ⟨k + 1, by omega, by go_num, hB2⟩
      case measure => simp [intOf]; omega
    · obtain rfl : k = n := by omega
      go_wp2
      go_ret
      exact ⟨rfl, hB⟩

/-! The example. -/
def oneR : Rw := [⟨1, 1, ByteArray.empty⟩]
end

end Go.Proofs.YtoapjidpfghnlaaGreatDoor
