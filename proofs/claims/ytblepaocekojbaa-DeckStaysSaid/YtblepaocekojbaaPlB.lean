/-
  Maps keyed by places, and by places with a number.
  Right's maps in plain words.
  The walk of deck.Right.
  A map of rows that the call makes, row by row: Fam, OwnM.
  What Placed answers, in plain words.
-/
import Derived.Test.YtblepaocekojbaaPlA
import Derived.Test.YtblepaocekojbaaDkMap
import Derived.StillTailTactics
import Derived.Test.YtblepaocekojbaaGrid
import Derived.Test.YtblepaocekojbaaApp
import Derived.Test.YtblepaocekojbaaDkRR
namespace Go.Proofs.Ytblepaocekojbaa

section
open Go.RowKit Go.Shelf Go.Maps
set_option linter.unusedVariables false

/-- A place whose numbers are ints. -/
def PlW (p : Pl) : Prop := (Lit.int .i64 p.m).wf = true ∧ (Lit.int .i64 p.s).wf = true
def plV (p : Pl) : Value := .agg #[.int .i64 p.m, .int .i64 p.s]
def tkV (p : Pl) (o : Int) : Value := .agg #[.int .i64 p.m, .int .i64 p.s, .int .i64 o]
theorem rowP : (85 : TypeId) < Try.prog.types.size := of_decide_eq_true (by kernel_rfl)
theorem cellsP : Try.prog.cellsOf 85 = 2 := by kernel_rfl
theorem deepP : Try.prog.keyTypeAt (Try.prog.types.size + 1) 85 = true := by kernel_rfl
theorem wideP : (match Try.prog.underlying 85 with | some (.array _ _) | some (.struct _) => true | _ => false) = true := by rw [Try.underlying85]
theorem formedP {c0 c1 : Value} : (Value.agg #[c0, c1]).formed Try.prog 85 = true := by simp [Value.formed, Try.underlying85, cellsP]
set_option maxRecDepth 100000 in
theorem lawP : Keyed Try.prog 85 := Keyed.of_law (deep_law_laid laidOut2 (m := 2) (by omega) rowP (by kernel_rfl) wideP)
set_option maxRecDepth 100000 in
theorem keyP {p : Pl} (h : PlW p) : ∃ l, keyOf Try.prog 85 (plV p) = some l := by
  obtain ⟨ha, hb⟩ := h
  refine ⟨_, (keyOf_asKey (H := Unit) (enc := fun _ => ()) (w := default) (base := 0) (sp := fun _ => false) (held := true) (d := .agg [.lit (.int .i64 p.m), .lit (.int .i64 p.s)]) (ps := []) deepP wideP formedP ⟨3, ?_⟩).1⟩
  simp [DataW.trod, Value.cells, Try.underlying85, Try.underlying3, cells1, cellsP, ha, hb]
noncomputable def pk (p : Pl) : Lit := (keyOf Try.prog 85 (plV p)).getD (.bool false)
theorem pk_eq {p : Pl} (h : PlW p) : keyOf Try.prog 85 (plV p) = some (pk p) := by
  obtain ⟨l, hl⟩ := keyP h
  unfold pk; rw [hl]; rfl
theorem pk_inj {p q : Pl} (hp : PlW p) (hq : PlW q) (h : pk p = pk q) : p = q := by
  have h1 := pk_eq hp
  have h2 := pk_eq hq
  rw [h] at h1
  have := lawP.inj h1 h2
  obtain ⟨a, b⟩ := p
  obtain ⟨c, d⟩ := q
  simpa [plV] using this
theorem rowT : (107 : TypeId) < Try.prog.types.size := of_decide_eq_true (by kernel_rfl)
theorem cellsT : Try.prog.cellsOf 107 = 3 := by kernel_rfl
theorem deepT : Try.prog.keyTypeAt (Try.prog.types.size + 1) 107 = true := by kernel_rfl
theorem wideT : (match Try.prog.underlying 107 with | some (.array _ _) | some (.struct _) => true | _ => false) = true := by rw [Try.underlying107]
theorem formedT {c0 c1 c2 : Value} : (Value.agg #[c0, c1, c2]).formed Try.prog 107 = true := by simp [Value.formed, Try.underlying107, cellsT]
set_option maxRecDepth 100000 in
theorem lawT : Keyed Try.prog 107 := Keyed.of_law (deep_law_laid laidOut2 (m := 3) (by omega) rowT (by kernel_rfl) wideT)
set_option maxRecDepth 100000 in
theorem keyT {p : Pl} {o : Int} (h : PlW p) (ho : (Lit.int .i64 o).wf = true) : ∃ l, keyOf Try.prog 107 (tkV p o) = some l := by
  obtain ⟨ha, hb⟩ := h
  refine ⟨_, (keyOf_asKey (H := Unit) (enc := fun _ => ()) (w := default) (base := 0) (sp := fun _ => false) (held := true) (d := .agg [.agg [.lit (.int .i64 p.m), .lit (.int .i64 p.s)], .lit (.int .i64 o)]) (ps := []) deepT wideT formedT ⟨4, ?_⟩).1⟩
  simp [DataW.trod, Value.cells, Try.underlying107, Try.underlying85, Try.underlying3, cells1, cellsP, cellsT, ha, hb, ho]
noncomputable def tk (p : Pl) (o : Int) : Lit := (keyOf Try.prog 107 (tkV p o)).getD (.bool false)
theorem tk_eq {p : Pl} {o : Int} (h : PlW p) (ho : (Lit.int .i64 o).wf = true) : keyOf Try.prog 107 (tkV p o) = some (tk p o) := by
  obtain ⟨l, hl⟩ := keyT h ho
  unfold tk; rw [hl]; rfl
theorem tk_inj {p q : Pl} {o r : Int} (hp : PlW p) (hq : PlW q) (ho : (Lit.int .i64 o).wf = true) (hr : (Lit.int .i64 r).wf = true) (h : tk p o = tk q r) : p = q ∧ o = r := by
  have h1 := tk_eq hp ho
  have h2 := tk_eq hq hr
  rw [h] at h1
  have := lawT.inj h1 h2
  obtain ⟨a, b⟩ := p
  obtain ⟨c, d⟩ := q
  simp [tkV] at this
  simp [this]
theorem wf_nat {x : Nat} (h : x ≤ 1000000) : (Lit.int .i64 (x : Int)).wf = true := by
  have h1 : IntKind.min .i64 = -9223372036854775808 := rfl
  have h2 : IntKind.max .i64 = 9223372036854775807 := rfl
  show (decide (IntKind.min .i64 ≤ (x : Int)) && decide ((x : Int) ≤ IntKind.max .i64)) = true
  rw [h1, h2]
  simp
  omega
end

section
open Go.RowKit Go.Shelf Go.Maps
set_option linter.unusedVariables false

/-- What Right's two maps hold behind t tasks. -/
structure InvR (op gr : Nat → Nat) (f : Nat → Pl) (t : Nat) (F1 F2 : Lit → Option Value) : Prop where
  g : ∀ u, u < t → F1 (pk (f u)) = some (.int .i64 ((gr (op u) : Nat) : Int))
  gn : ∀ kl, (∀ u, u < t → kl ≠ pk (f u)) → F1 kl = none
  o : ∀ u, u < t → F2 (tk (f u) ((op u : Nat) : Int)) = some (.bool true)
  on : ∀ kl, (∀ u, u < t → kl ≠ tk (f u) ((op u : Nat) : Int)) → F2 kl = none
theorem InvR.start (op gr : Nat → Nat) (f : Nat → Pl) : InvR op gr f 0 (fun _ => none) (fun _ => none) :=
  ⟨fun _ h => absurd h (Nat.not_lt_zero _), fun _ _ => rfl, fun _ h => absurd h (Nat.not_lt_zero _), fun _ _ => rfl⟩
section
variable {op gr : Nat → Nat} {f : Nat → Pl} {t : Nat} {F1 F2 : Lit → Option Value}
theorem InvR.put (h : InvR op gr f t F1 F2) (hok : ∀ u, u < t → f u = f t → gr (op u) = gr (op t)) (hw : ∀ u, u ≤ t → PlW (f u)) :
    InvR op gr f (t + 1) (putF F1 (pk (f t)) (.int .i64 ((gr (op t) : Nat) : Int))) (putF F2 (tk (f t) ((op t : Nat) : Int)) (.bool true)) := by
  refine ⟨fun u hu => ?_, fun kl hk => ?_, fun u hu => ?_, fun kl hk => ?_⟩
  · unfold putF
    by_cases e : pk (f u) = pk (f t)
    · rw [if_pos e]
      by_cases e2 : u = t
      · rw [e2]
      · rw [hok u (by omega) (pk_inj (hw u (by omega)) (hw t (by omega)) e)]
    · rw [if_neg e]
      exact h.g u (by
        have : u ≠ t := fun e2 => e (by rw [e2])
        omega)
  · unfold putF
    rw [if_neg (hk t (by omega))]
    exact h.gn kl fun u hu => hk u (by omega)
  · unfold putF
    by_cases e : tk (f u) ((op u : Nat) : Int) = tk (f t) ((op t : Nat) : Int)
    · rw [if_pos e]
    · rw [if_neg e]
      exact h.o u (by
        have : u ≠ t := fun e2 => e (by rw [e2])
        omega)
  · unfold putF
    rw [if_neg (hk t (by omega))]
    exact h.on kl fun u hu => hk u (by omega)
/-- What the look-ups at task t find: refused by the operator; or by the group; or neither. -/
theorem InvR.cases (h : InvR op gr f t F1 F2) {n : Nat} {ss : List Int} (hop : ∀ u, u ≤ t → op u ≤ 1000000) (hw : ∀ u, u ≤ t → PlW (f u)) :
    (F2 (tk (f t) ((op t : Nat) : Int)) = some (.bool true) ∧ okR op gr n ss f t = false) ∨
    (F2 (tk (f t) ((op t : Nat) : Int)) = none ∧ ∃ v : Nat, F1 (pk (f t)) = some (.int .i64 (v : Int)) ∧ v ≠ gr (op t) ∧ okR op gr n ss f t = false) ∨
    (F2 (tk (f t) ((op t : Nat) : Int)) = none ∧ F1 (pk (f t)) = some (.int .i64 ((gr (op t) : Nat) : Int)) ∧ okR op gr n ss f t = winB n ss (f t) ∧ ∀ u, u < t → f u = f t → gr (op u) = gr (op t)) ∨
    (F2 (tk (f t) ((op t : Nat) : Int)) = none ∧ F1 (pk (f t)) = none ∧ okR op gr n ss f t = winB n ss (f t) ∧ ∀ u, u < t → f u = f t → gr (op u) = gr (op t)) := by
  by_cases hb : ∃ u, u < t ∧ f u = f t ∧ op u = op t
  · obtain ⟨u, hu, h1, h2⟩ := hb
    have := h.o u hu
    rw [h1, h2] at this
    exact .inl ⟨this, okR_bad hu (by unfold badR; simp [h1, h2])⟩
  · have hF2 : F2 (tk (f t) ((op t : Nat) : Int)) = none := h.on _ fun u hu e => by
      obtain ⟨e1, e2⟩ := tk_inj (hw t (by omega)) (hw u (by omega)) (wf_nat (hop t (by omega))) (wf_nat (hop u (by omega))) e
      exact hb ⟨u, hu, e1.symm, by omega⟩
    by_cases hc : ∃ u, u < t ∧ f u = f t
    · obtain ⟨u, hu, h1⟩ := hc
      have hF1 := h.g u hu
      rw [h1] at hF1
      by_cases hv : gr (op u) = gr (op t)
      · have hsame : ∀ k, k < t → f k = f t → gr (op k) = gr (op t) := fun k hk e => by
          have h3 := h.g k hk
          rw [e, hF1] at h3
          injection h3 with h3
          injection h3 with _ h3
          omega
        rw [hv] at hF1
        refine .inr (.inr (.inl ⟨hF2, hF1, ?_, hsame⟩))
        unfold okR
        have : ((List.range t).all fun k => !badR op gr f t k) = true := by
          rw [List.all_eq_true]
          intro k hk
          rw [List.mem_range] at hk
          unfold badR
          by_cases e : f k = f t
          · have h4 : ¬ op t = op k := fun e2 => hb ⟨k, hk, e, e2.symm⟩
            simp [e, hsame k hk e, h4]
          · simp [e]
        rw [this]; simp
      · exact .inr (.inl ⟨hF2, _, hF1, hv, okR_bad hu (by unfold badR; simp [h1]; exact .inr fun e => hv e.symm)⟩)
    · have hF1 : F1 (pk (f t)) = none := h.gn _ fun u hu e => hc ⟨u, hu, (pk_inj (hw t (by omega)) (hw u (by omega)) e).symm⟩
      refine .inr (.inr (.inr ⟨hF2, hF1, ?_, fun u hu e => absurd ⟨u, hu, e⟩ hc⟩))
      unfold okR
      have : ((List.range t).all fun k => !badR op gr f t k) = true := by
        rw [List.all_eq_true]
        intro k hk
        rw [List.mem_range] at hk
        unfold badR
        have e : ¬ f k = f t := fun e => hc ⟨k, hk, e⟩
        simp [e]
      rw [this]; simp
theorem InvR.val (h : InvR op gr f t F1 F2) (kl : Lit) : ∃ V : Int, (F1 kl).getD (.int .i64 0) = .int .i64 V := by
  by_cases hc : ∃ u, u < t ∧ kl = pk (f u)
  · obtain ⟨u, hu, e⟩ := hc
    exact ⟨_, by rw [e, h.g u hu]; rfl⟩
  · exact ⟨0, by rw [h.gn kl fun u hu e => hc ⟨u, hu, e⟩]; rfl⟩
end
end

section
open Go.RowKit Go.Shelf Go.Maps
attribute [local go_sem] Oper.semAt_some
set_option linter.unusedVariables false

theorem wp_putF {P : Program} {k : TypeId} (w : World) {o : Oper} {a : Act} {K' : Act → World → Prop} {Q : Exit → Act → World → Prop} {b n : Nat} {F : Lit → Option Value} (m x v : Operand) (t : TypeId) (hop : o.op = Op.mapUpdate t m x v) (e : TypeId) (K : Keyed P k) (ht : P.underlying t = some (.map k e))
    (h : MapF w P k b n F) (hn : n < maxLen) (key val : Value) (kl : Lit) (hm : a.eval m = .map (some b)) (hx : a.eval x = key) (hv : a.eval v = val) (hkey : keyOf P k key = some kl)
    (hK : ∀ w', MapF w' P k b (n + 1) (putF F kl val) → w.grownBy w' (some b) → K' (a.put o.dst undef) w') : Oper.wp P o a w K' Q := by
  obtain ⟨D, h1, h2, h3, h4⟩ := h
  obtain ⟨w', hrun, r1, r2⟩ := h1.update K ht hn hkey (show Rv val = some (.held val, []) from rfl)
  unfold Oper.wp
  simp [execOp, hop, hm, hx, hv, hrun, Result.andThen]
  refine hK w' ⟨_, r1, h2.put _ _, ?_, ?_⟩ r2
  · intro y
    unfold putF
    by_cases e : y = kl
    · subst e
      rw [if_pos rfl, has_put_same h2 (K.key hkey)]
      rfl
    · rw [if_neg e, has_put_other e, h3]
  · intro y z
    unfold putF
    by_cases e : y = kl
    · subst e
      rw [if_pos rfl, atKey_put_same h2 (K.key hkey)]
    · rw [if_neg e, atKey_put_other e, h4]
set_option maxRecDepth 100000 in
set_option maxHeartbeats 8000000 in
theorem Right_any (g : Gr) (A : Option Addr) (m c : Nat) (gs : List Int) (A2 : Option Addr) (n c2 : Nat) (ss : List Int) (A3 : Option Addr) (q c3 : Nat) (l : List Pl) (w : World) (hg : g.Ok w w.heap.size) (hx : Reads w w.heap.size 1 A m (gs.map (Value.int .i64))) (hs : Reads w w.heap.size 1 A2 n (ss.map (Value.int .i64))) (hl : Reads w w.heap.size 2 A3 q (l.flatMap encPl)) (hn : g.n1 ≤ 4611686018427387904) (hm : g.n2 ≤ 4611686018427387904) (hmm : m ≤ 1000000) (hnn : n ≤ 1000000) (hq : q ≤ 1000000) (hpw : ∀ u, u < q → PlW (plA l u)) :
    Calls Try.prog 40 #[.agg #[g.v1, g.v2], .slice A m c, .slice A2 n c2, .slice A3 q c3] w (RetV w (.bool (rgtB g m gs n ss q (plA l)))) := by
  have hB0 : Below w.heap.size w (w.alloc (.cells #[g.v1, g.v2] 30)) := (Below.refl _ _).alloc (Nat.le_refl _) _
  have k0 := Blk.new w 30 #[g.v1, g.v2]
  have hg0 := hg.up hB0
  have hx0 := hx.up hB0
  have HG := hide (grouped_any g A m c gs _ hg0 hx0 hn hm hmm)
  have hwl : w.heap.size < (w.alloc (.cells #[g.v1, g.v2] 30)).heap.size := by simp
  have c1 : (w.alloc (.cells #[g.v1, g.v2] 30)).cell? ⟨w.heap.size, 0, none⟩ = some (.slice g.a1 g.n1 g.c1) := by simp [Gr.v1]
  have c2' : (w.alloc (.cells #[g.v1, g.v2] 30)).cell? ⟨w.heap.size, 1, none⟩ = some (.slice g.a2 g.n2 g.c2) := by simp [Gr.v2]
  obtain ⟨W, hW⟩ : ∃ W, w.alloc (.cells #[g.v1, g.v2] 30) = W := ⟨_, rfl⟩
  rw [hW] at hB0 k0 hg0 hx0 HG hwl c1 c2'
  obtain ⟨E, hE⟩ : ∃ E, errG g m gs = E := ⟨_, rfl⟩
  rw [hE] at HG
  by_cases h0 : E = 0
  · subst h0
    have hk := GrpOk.mk' hg hx hE
    have ho := OpsOk.of hg (errG_zero hE).1
    have HE := hide hE
    have HK := hide hk
    have HO := hide ho
    clear hE hk ho
    cases hsl : slotB n ss
    · have HR := hide (show rgtB g m gs n ss q (plA l) = false by unfold rgtB; rw [hsl]; simp)
      go_enter Try.func40, Try.ntmps40
      go_wp2_with fail
      refine HG.out.mono ?_
      rintro e W1 ⟨rfl, hB1⟩
      have HSL := hide (machines_any A2 n c2 _ ss W1 (hs.up (bstep hB0 hB1)) (by omega))
      rw [hsl] at HSL
      have HB := hide (bstep hB0 hB1)
      clear hsl hB0 hB1 hg0 hx0 HG k0 c1 c2' hwl
      go_wp2_with (go_at_call 69; refine HSL.out.mono ?_; rintro e w' ⟨rfl, rfl⟩)
      go_ret
      exact ⟨by rw [HR.out]; rfl, HB.out⟩
    · have HSB := hide hsl
      by_cases hqn : q = g.n1
      · have z : ((q : Int) != (g.n1 : Int)) = false := by simp [hqn]
        have HQ := hide hqn
        have HR := hide (show rgtB g m gs n ss q (plA l) = (List.range q).all (okR (natA g.ops) (natA gs) n ss (plA l)) by unfold rgtB; rw [HE.out, HSB.out, hqn]; simp)
        have hmm2 := @run_makeMap Try.prog
        have HL := hide (hl.len encPl_len (by omega))
        clear hqn
        go_enter Try.func40, Try.ntmps40
        go_wp2_with fail
        refine HG.out.mono ?_
        rintro e W1 ⟨rfl, hB1⟩
        have HSL := hide (machines_any A2 n c2 _ ss W1 (hs.up (bstep hB0 hB1)) (by omega))
        rw [hsl] at HSL
        have hB01 := bstep hB0 hB1
        have k1 := k0.below hB1 hwl
        have hwl1 : w.heap.size < W1.heap.size := Nat.lt_of_lt_of_le hwl hB1.size
        have d1 := k1.cell 0
        simp [Gr.v1, Gr.v2] at d1
        clear hsl hB0 hB1 hg0 hx0 HG k0 c1 c2' hwl
        go_wp2_with (go_at_call 69; refine HSL.out.mono ?_; rintro e w' ⟨rfl, rfl⟩)
        clear d1 z HSL
        have m1 := ((MapF.made W1 Try.prog 85).alloc (.map #[] 0))
        have m2 := MapF.made (W1.alloc (.map #[] 0)) Try.prog 107
        have k2 := (k1.alloc (.map #[] 0)).alloc (.map #[] 0)
        have hB2 := (hB01.alloc (by omega) (.map #[] 0)).alloc (by simp; omega) (.map #[] 0)
        have hwl2 : w.heap.size < ((W1.alloc (.map #[] 0)).alloc (.map #[] 0)).heap.size := by simp; omega
        simp only [World.size_alloc] at m2
        go_wp2_with fail
        clear hmm2
        obtain ⟨W2, hW2⟩ : ∃ W2, (W1.alloc (.map #[] 0)).alloc (.map #[] 0) = W2 := ⟨_, rfl⟩
        obtain ⟨b1, hb1⟩ : ∃ b1, W1.heap.size = b1 := ⟨_, rfl⟩
        obtain ⟨b2, hb2⟩ : ∃ b2, W1.heap.size + 1 = b2 := ⟨_, rfl⟩
        rw [hW2] at m1 m2 k2 hB2 hwl2 ⊢
        rw [hb2] at m2 ⊢
        rw [hb1] at m1 ⊢
        have x1 : b1 ≠ b2 := by omega
        have x2 : w.heap.size < b1 := by omega
        have x3 : w.heap.size < b2 := by omega
        clear hW2 hb1 hb2 k1 hB01 hwl1
        go_loopw [11, 12, 13, 14, 15, 37] (fun _ _ _ _ _ i wr => ∃ (k : Nat) (F1 F2 : Lit → Option Value), k ≤ q ∧ i = .int .i64 k ∧ (List.range k).all (okR (natA g.ops) (natA gs) n ss (plA l)) = true ∧ InvR (natA g.ops) (natA gs) (plA l) k F1 F2 ∧ MapF wr Try.prog 85 b1 k F1 ∧ MapF wr Try.prog 107 b2 k F2 ∧ Blk wr w.heap.size 30 #[g.v1, g.v2] ∧ w.heap.size < wr.heap.size ∧ Below w.heap.size w wr) (fun _ _ _ _ _ i _ => q - (intOf i).toNat)
        case atStart => exact ⟨0, _, _, Nat.zero_le _, rfl, rfl, InvR.start _ _ _, m1, m2, k2, hwl2, hB2⟩
        case round =>
          clear m1 m2 k2 hwl2 hB2
          obtain ⟨t, F1, F2, ht, rfl, hall, hinv, m1, m2, kb, hwl1, hB⟩ := hrel
          have HALL := hide hall
          clear hall
          by_cases hlt : t < q
          · obtain ⟨b, off, p, ha, hb, hpk, hcp⟩ := (hl.below hB).elem encPl_len HL.out hlt
            have HP := hide (plA_at hpk)
            have e0 : wr.cell? ⟨b, off + t * 2, none⟩ = some (.int .i64 p.m) := by simpa using hcp 0 _ rfl
            have e1 : wr.cell? ⟨b, off + t * 2 + 1, none⟩ = some (.int .i64 p.s) := by simpa [← Nat.add_assoc] using hcp 1 _ rfl
            clear hcp hpk
            rw [ha]
            have HA := hide ha
            clear ha
            have q1 : (0 : Int) ≤ (t : Int) := by omega
            have q2 : (t : Int) < (q : Int) := by omega
            have hw := hpw t hlt
            rw [← HP.out] at hw
            have HPW := hide (fun u (hu : u ≤ t) => hpw u (by omega))
            have hop := HK.out.opm t (by rw [← HQ.out]; exact hlt)
            have h1 := HO.out.op t (by rw [← HQ.out]; exact hlt)
            have ho2 := HO.out.lt t (by rw [← HQ.out]; exact hlt)
            have HOL := hide (fun u (hu : u ≤ t) => Nat.le_of_lt (Nat.lt_of_lt_of_le (HO.out.lt u (by rw [← HQ.out]; omega)) (by omega : 200 ≤ 1000000)))
            obtain ⟨bo, oo, x, hao, hbo, hxo, hco⟩ := (hg.r1.below hB).at1 (show t < g.n1 by rw [← HQ.out]; exact hlt)
            rw [hxo] at h1
            injection h1 with h1
            subst h1
            have hcs := hinv.cases (n := n) (ss := ss) HOL.out HPW.out
            obtain ⟨o, hoo⟩ : ∃ o, natA g.ops t = o := ⟨_, rfl⟩
            rw [hoo] at hco hop ho2 hcs
            obtain ⟨bg, og, y, hag, hbg, hyg, hcg⟩ := (hx.below hB).at1 hop
            have h2 := HK.out.gr o hop
            rw [hyg] at h2
            injection h2 with h2
            subst h2
            obtain ⟨j, hjj⟩ : ∃ j, natA gs o = j := ⟨_, rfl⟩
            rw [hjj] at hcg
            simp only [hjj] at hcs
            rw [← HP.out] at hcs
            have HCS := hide hcs
            have HOO := hide hoo
            have HJJ := hide hjj
            have HINV := hide hinv
            rw [hag]
            have i0 : wr.cell? ⟨bo, oo + t, none⟩ = some (.int .i64 (o : Int)) := hco
            have i1 : wr.cell? ⟨bg, og + o, none⟩ = some (.int .i64 (j : Int)) := hcg
            have HAO := hide hao
            clear hxo hco hyg hcg hoo hjj hcs hao hag
            have hk1 : keyOf Try.prog 85 (.agg #[.int .i64 p.m, .int .i64 p.s]) = some (pk p) := pk_eq hw
            have hk2 : keyOf Try.prog 107 (.agg #[.int .i64 p.m, .int .i64 p.s, .int .i64 (o : Int)]) = some (tk p (o : Int)) := tk_eq hw (wf_nat (by omega))
            obtain ⟨V, hV⟩ := hinv.val (pk p)
            obtain ⟨B, hBv⟩ : ∃ B, (F1 (pk p)).isSome = B := ⟨_, rfl⟩
            have HVV := hide hV
            have HBV := hide hBv
            clear hV hBv hinv
            go_upto_region 8 with fail
            have kP := Blk.new wr 85 #[.int .i64 p.m, .int .i64 p.s]
            have m1' := m1.alloc (.cells #[.int .i64 p.m, .int .i64 p.s] 85)
            have m2' := m2.alloc (.cells #[.int .i64 p.m, .int .i64 p.s] 85)
            have kb' := kb.alloc (.cells #[.int .i64 p.m, .int .i64 p.s] 85)
            have hB' := hB.alloc (Nat.le_of_lt hwl1) (.cells #[.int .i64 p.m, .int .i64 p.s] 85)
            have i0' := (World.cell?_alloc_lt wr (.cells #[.int .i64 p.m, .int .i64 p.s] 85) ⟨bo, oo + t, none⟩ (by show bo < _; omega)).trans i0
            have i1' := (World.cell?_alloc_lt wr (.cells #[.int .i64 p.m, .int .i64 p.s] 85) ⟨bg, og + o, none⟩ (by show bg < _; omega)).trans i1
            have hwl3 : wr.heap.size < (wr.alloc (.cells #[.int .i64 p.m, .int .i64 p.s] 85)).heap.size := by simp
            have xP1 : b1 ≠ wr.heap.size := Nat.ne_of_lt m1.lt
            have xP2 : b2 ≠ wr.heap.size := Nat.ne_of_lt m2.lt
            obtain ⟨W3, hW3⟩ : ∃ W3, wr.alloc (.cells #[.int .i64 p.m, .int .i64 p.s] 85) = W3 := ⟨_, rfl⟩
            obtain ⟨bP, hbP⟩ : ∃ bP, wr.heap.size = bP := ⟨_, rfl⟩
            rw [hW3] at kP m1' m2' kb' hB' i0' i1' hwl3 ⊢
            rw [hbP] at kP hwl3 xP1 xP2 hwl1 ⊢
            clear e0 e1 i0 i1 m1 m2 kb hB hW3
            clear hbP
            have hlk1 : (Instr.lookup 102 (.map (some b1)) (.agg #[.int .i64 p.m, .int .i64 p.s]) true).run Try.prog W3 = .ok (.tuple #[.int .i64 V, .bool B]) W3 := by
              have := m1'.look_ok lawP Try.underlying102 (zeroI W3) hk1
              rw [this, HVV.out, HBV.out]
            have g0 := kb'.cell 0
            have p0 := kP.cell 0
            have p1 := kP.cell 1
            simp [Gr.v1, Gr.v2] at g0 p0 p1
            rw [HAO.out] at g0
            have q3 : (t : Int) < (g.n1 : Int) := by have := HQ.out; omega
            have q4 : (0 : Int) ≤ (o : Int) := by omega
            have q5 : (o : Int) < (m : Int) := by omega
            go_upto_region 10 with fail
            have HWI := hide (within_any p A2 n c2 ss W3 ((hs.up hB')) (by omega))
            have hBq := hB'
            have ksz : bP < W3.heap.size := hwl3
            clear g0 hlk1 i0'
            cases hwi : winB n ss p
            · have HF := hide (show rgtB g m gs n ss q (plA l) = false by
                rw [HR.out]
                refine all_less hlt ?_
                unfold okR
                rw [← HP.out, hwi]; rfl)
              rw [hwi] at HWI
              clear hwi
              go_wp2_with fail
              refine HWI.out.mono ?_
              rintro e W4 ⟨rfl, hB4⟩
              have HB := hide (bstep hB' hB4)
              clear hB4 HWI p0 p1 i1' hBq hB' kb' kP m1' m2'
              go_wp2
              go_ret
              exact ⟨by rw [HF.out]; rfl, HB.out⟩
            · have HWB := hide hwi
              rw [hwi] at HWI
              clear hwi
              go_wp2_with fail
              refine HWI.out.mono ?_
              rintro e W4 ⟨rfl, hB4⟩
              have hB := bstep hB' hB4
              have kb := kb'.below hB4 (by omega)
              have kP4 := kP.below hB4 hwl3
              have m1 := m1'.below hB4 m1'.lt
              have m2 := m2'.below hB4 m2'.lt
              have hwl1 : w.heap.size < W4.heap.size := Nat.lt_of_lt_of_le (by omega) hB4.size
              have i1 := (hB4.cell (p := ⟨bg, og + o, none⟩) (by show bg < _; omega)).trans i1'
              have p0 := kP4.cell 0
              have p1 := kP4.cell 1
              simp at p0 p1
              have hlk := m2.look lawT Try.underlying103 (zeroB W4) hk2
              have x6 : bP < W4.heap.size := Nat.lt_of_lt_of_le hwl3 hB4.size
              clear hB' hB4 HWI kb' kP m1' m2' i1' hBq
              have kP := kP4
              clear kP4
              rcases HCS.out with ⟨f2, hok⟩ | ⟨f2, v, f1, hne, hok⟩ | ⟨f2, f1, hok, hsame⟩ | ⟨f2, f1, hok, hsame⟩
              · have HF := hide (show rgtB g m gs n ss q (plA l) = false by
                  rw [HR.out]
                  exact all_less hlt hok)
                rw [f2] at hlk
                simp only [Option.getD] at hlk
                clear HCS hok f2
                go_wp2
                go_ret
                exact ⟨by rw [HF.out]; rfl, hB⟩
              · have HF := hide (show rgtB g m gs n ss q (plA l) = false by
                  rw [HR.out]
                  exact all_less hlt hok)
                rw [f2] at hlk
                simp only [Option.getD] at hlk
                have a1 := HVV.out
                have a2 := HBV.out
                rw [f1] at a1 a2
                injection a1 with _ a1
                simp at a2
                subst a1 a2
                have z3 : ((v : Int) != (j : Int)) = true := by simp; omega
                clear HCS hok f2 f1 hne HVV HBV
                go_wp2
                go_ret
                exact ⟨by rw [HF.out]; rfl, hB⟩
              · have HOK := hide (hok.trans HWB.out)
                have HSAME2 := hide (show ∀ u, u < t → plA l u = plA l t → natA gs (natA g.ops u) = natA gs (natA g.ops t) from fun u hu e => by rw [HOO.out, HJJ.out]; exact hsame u hu (by rw [e, ← HP.out]))
                rw [f2] at hlk
                simp only [Option.getD] at hlk
                have a1 := HVV.out
                have a2 := HBV.out
                rw [f1] at a1 a2
                injection a1 with _ a1
                simp at a2
                subst a1 a2
                have z3 : ((j : Int) != (j : Int)) = false := by simp
                clear HCS hok f2 f1 HVV HBV hsame
                go_wp2_with fail
                go_still_tail 6, (by kernel_rfl)
                change wpList _ _ _ _ _ W4.drew
                obtain ⟨X, hX⟩ : ∃ X, W4.drew = X := ⟨_, rfl⟩
                have m1x : MapF X Try.prog 85 b1 t F1 := by rw [← hX]; exact m1.drew
                have m2x : MapF X Try.prog 107 b2 t F2 := by rw [← hX]; exact m2.drew
                have kbx : Blk X w.heap.size 30 #[g.v1, g.v2] := by rw [← hX]; exact kb
                have kPx : Blk X bP 85 #[.int .i64 p.m, .int .i64 p.s] := by rw [← hX]; exact kP
                have hBx : Below w.heap.size w X := by rw [← hX]; exact hB.drew
                have hwx : w.heap.size < X.heap.size := by rw [← hX]; exact hwl1
                rw [hX]
                clear hX p0 p1 i1 m1 m2 kb kP hB hwl1
                refine wpList_putF _ rfl _ _ _ 102 rfl 85 3 lawP Try.underlying102 m1x (by unfold maxLen; omega) (.agg #[.int .i64 p.m, .int .i64 p.s]) (.int .i64 (j : Int)) (pk p) rfl rfl rfl hk1 ?_
                intro w1 m1y hgr
                have n1 : some bP ≠ some b1 := fun e => by injection e with e; omega
                have n3 : some b2 ≠ some b1 := fun e => by injection e with e; omega
                have n4 : some w.heap.size ≠ some b1 := fun e => by injection e with e; omega
                have kPy := kPx.grown hgr n1
                have p0y := kPy.cell 0
                have p1y := kPy.cell 1
                simp at p0y p1y
                have m2y := m2x.kept hgr n3
                have kby := kbx.grown hgr n4
                have hBy : Below w.heap.size w w1 := hBx.grown hgr (Nat.le_of_lt hwx) (fun e he => by injection he with he; omega)
                have hwy : w.heap.size < w1.heap.size := Nat.lt_of_lt_of_le hwx hgr.size
                clear m1x m2x kbx kPx hBx hwx hgr kPy
                go_wp2_with (at_mapUpdate; refine wpList_putF _ rfl _ _ _ 103 rfl 107 4 lawT Try.underlying103 m2y (by unfold maxLen; omega) (.agg #[.int .i64 p.m, .int .i64 p.s, .int .i64 (o : Int)]) (.bool true) (tk p (o : Int)) rfl rfl rfl hk2 ?_; intro w2 m2z hgz)
                have m1z := m1y.kept hgz (fun e => by injection e with e; omega)
                have kbz := kby.grown hgz (fun e => by injection e with e; omega)
                have hBz : Below w.heap.size w w2 := hBy.grown hgz (Nat.le_of_lt hwy) (fun e he => by injection he with he; omega)
                have hwz : w.heap.size < w2.heap.size := Nat.lt_of_lt_of_le hwy hgz.size
                have hinv2 := HINV.out.put HSAME2.out HPW.out
                rw [HOO.out, HJJ.out, ← HP.out] at hinv2
                have HI2 := hide hinv2
                have M1 := hide m1z
                have M2 := hide m2z
                have KB := hide kbz
                clear m1y m2y kby hBy hwy hgz p0y p1y m1z m2z kbz hinv2
                go_wp2
                go_roundw
                case rel => exact ⟨t + 1, _, _, by omega, by go_num, all_more HALL.out HOK.out, HI2.out, M1.out, M2.out, KB.out, hwz, hBz⟩
                case measure => simp [intOf]; omega
              · have HOK := hide (hok.trans HWB.out)
                have HSAME2 := hide (show ∀ u, u < t → plA l u = plA l t → natA gs (natA g.ops u) = natA gs (natA g.ops t) from fun u hu e => by rw [HOO.out, HJJ.out]; exact hsame u hu (by rw [e, ← HP.out]))
                rw [f2] at hlk
                simp only [Option.getD] at hlk
                have a1 := HVV.out
                have a2 := HBV.out
                rw [f1] at a1 a2
                injection a1 with _ a1
                simp at a2
                subst a1 a2
                clear HCS hok f2 f1 HVV HBV hsame
                go_wp2_with fail
                go_still_tail 6, (by kernel_rfl)
                change wpList _ _ _ _ _ W4.drew
                obtain ⟨X, hX⟩ : ∃ X, W4.drew = X := ⟨_, rfl⟩
                have m1x : MapF X Try.prog 85 b1 t F1 := by rw [← hX]; exact m1.drew
                have m2x : MapF X Try.prog 107 b2 t F2 := by rw [← hX]; exact m2.drew
                have kbx : Blk X w.heap.size 30 #[g.v1, g.v2] := by rw [← hX]; exact kb
                have kPx : Blk X bP 85 #[.int .i64 p.m, .int .i64 p.s] := by rw [← hX]; exact kP
                have hBx : Below w.heap.size w X := by rw [← hX]; exact hB.drew
                have hwx : w.heap.size < X.heap.size := by rw [← hX]; exact hwl1
                rw [hX]
                clear hX p0 p1 i1 m1 m2 kb kP hB hwl1
                refine wpList_putF _ rfl _ _ _ 102 rfl 85 3 lawP Try.underlying102 m1x (by unfold maxLen; omega) (.agg #[.int .i64 p.m, .int .i64 p.s]) (.int .i64 (j : Int)) (pk p) rfl rfl rfl hk1 ?_
                intro w1 m1y hgr
                have n1 : some bP ≠ some b1 := fun e => by injection e with e; omega
                have n3 : some b2 ≠ some b1 := fun e => by injection e with e; omega
                have n4 : some w.heap.size ≠ some b1 := fun e => by injection e with e; omega
                have kPy := kPx.grown hgr n1
                have p0y := kPy.cell 0
                have p1y := kPy.cell 1
                simp at p0y p1y
                have m2y := m2x.kept hgr n3
                have kby := kbx.grown hgr n4
                have hBy : Below w.heap.size w w1 := hBx.grown hgr (Nat.le_of_lt hwx) (fun e he => by injection he with he; omega)
                have hwy : w.heap.size < w1.heap.size := Nat.lt_of_lt_of_le hwx hgr.size
                clear m1x m2x kbx kPx hBx hwx hgr kPy
                go_wp2_with (at_mapUpdate; refine wpList_putF _ rfl _ _ _ 103 rfl 107 4 lawT Try.underlying103 m2y (by unfold maxLen; omega) (.agg #[.int .i64 p.m, .int .i64 p.s, .int .i64 (o : Int)]) (.bool true) (tk p (o : Int)) rfl rfl rfl hk2 ?_; intro w2 m2z hgz)
                have m1z := m1y.kept hgz (fun e => by injection e with e; omega)
                have kbz := kby.grown hgz (fun e => by injection e with e; omega)
                have hBz : Below w.heap.size w w2 := hBy.grown hgz (Nat.le_of_lt hwy) (fun e he => by injection he with he; omega)
                have hwz : w.heap.size < w2.heap.size := Nat.lt_of_lt_of_le hwy hgz.size
                have hinv2 := HINV.out.put HSAME2.out HPW.out
                rw [HOO.out, HJJ.out, ← HP.out] at hinv2
                have HI2 := hide hinv2
                have M1 := hide m1z
                have M2 := hide m2z
                have KB := hide kbz
                clear m1y m2y kby hBy hwy hgz p0y p1y m1z m2z kbz hinv2
                go_wp2
                go_roundw
                case rel => exact ⟨t + 1, _, _, by omega, by go_num, all_more HALL.out HOK.out, HI2.out, M1.out, M2.out, KB.out, hwz, hBz⟩
                case measure => simp [intOf]; omega
          · obtain rfl : t = q := by omega
            clear kb m1 m2
            go_wp2
            go_ret
            exact ⟨by rw [HR.out, HALL.out]; rfl, hB⟩
      · have z : ((q : Int) != (g.n1 : Int)) = true := by simp; omega
        have HR := hide (show rgtB g m gs n ss q (plA l) = false by unfold rgtB; simp [hqn])
        clear hqn
        go_enter Try.func40, Try.ntmps40
        go_wp2_with fail
        refine HG.out.mono ?_
        rintro e W1 ⟨rfl, hB1⟩
        have HSL := hide (machines_any A2 n c2 _ ss W1 (hs.up (bstep hB0 hB1)) (by omega))
        rw [hsl] at HSL
        have HB := hide (bstep hB0 hB1)
        have k1 := k0.below hB1 hwl
        have d1 := k1.cell 0
        simp [Gr.v1, Gr.v2] at d1
        clear hsl hB0 hB1 hg0 hx0 HG k0 c1 c2' hwl
        go_wp2_with (go_at_call 69; refine HSL.out.mono ?_; rintro e w' ⟨rfl, rfl⟩)
        go_ret
        exact ⟨by rw [HR.out]; rfl, HB.out⟩
  · have z0 : (E != 0) = true := by simpa using h0
    have HR := hide (show rgtB g m gs n ss q (plA l) = false by unfold rgtB; rw [hE]; simp [h0])
    clear hE
    go_enter Try.func40, Try.ntmps40
    go_wp2_with fail
    refine HG.out.mono ?_
    rintro e W1 ⟨rfl, hB1⟩
    have HB := hide (bstep hB0 hB1)
    clear hB0 hB1 hg0 hx0 HG k0 c1 c2' hwl
    go_wp2
    go_ret
    exact ⟨by rw [HR.out]; rfl, HB.out⟩
end

section
open Go.RowKit Go.Shelf Go.Maps Go.Deep
set_option linter.unusedVariables false

/-- N slices 'V p', each owning a row of 'L p' elements with the cells 'G p'; no two lie in one block, none in b. -/
structure Fam (w : World) (base b : Nat) (e : TypeId) (sz N : Nat) (V : Nat → Value) (L : Nat → Nat) (G : Nat → List Value) : Prop where
  row : ∀ p, p < N → w.ownsRow base e sz (V p) (L p) (G p)
  away : ∀ p, p < N → (V p).ownBlock ≠ some b
  apart : ∀ p q, p < N → q < N → p ≠ q → (V p).ownBlock = none ∨ (V p).ownBlock ≠ (V q).ownBlock
section
variable {w w' w2 : World} {base b sz N : Nat} {e : TypeId} {V V' : Nat → Value} {L L' : Nat → Nat} {G G' : Nat → List Value}
theorem Fam.nil (w : World) (base b : Nat) (e : TypeId) (sz N : Nat) : Fam w base b e sz N (fun _ => .slice none 0 0) (fun _ => 0) (fun _ => []) :=
  ⟨fun _ _ => World.ownsRow_nil _ _ _ _, fun _ _ => by simp [Value.ownBlock], fun _ _ _ _ _ => .inl rfl⟩
theorem Fam.kept (h : Fam w base b e sz N V L G) (hk : ∀ g, base ≤ g → g < w.heap.size → w'.heap[g]? = w.heap[g]?) : Fam w' base b e sz N V L G :=
  ⟨fun p hp => own_block (h.row p hp) fun g hg => hk g ((h.row p hp).lt g hg).1 ((h.row p hp).lt g hg).2, h.away, h.apart⟩
theorem Fam.alloc (h : Fam w base b e sz N V L G) (o : Obj) : Fam (w.alloc o) base b e sz N V L G := h.kept fun _ _ hg => blk_alloc_lt _ _ _ hg
theorem Fam.drewN (h : Fam w base b e sz N V L G) (n : Nat) : Fam (w.drewN n) base b e sz N V L G := ⟨h.row, h.away, h.apart⟩
theorem Fam.drew (h : Fam w base b e sz N V L G) : Fam w.drew base b e sz N V L G := ⟨h.row, h.away, h.apart⟩
theorem Fam.setCell (h : Fam w base b e sz N V L G) {a : Addr} (ha : a.block < base) (u : Value) : Fam (w.setCell a u) base b e sz N V L G := h.kept fun g hg _ => Below.heap_setCell w a u g (by omega)
theorem Fam.congr (h : Fam w base b e sz N V L G) (hV : ∀ p, p < N → V p = V' p) (hL : ∀ p, p < N → L p = L' p) (hG : ∀ p, p < N → G p = G' p) : Fam w base b e sz N V' L' G' :=
  ⟨fun p hp => by rw [← hL p hp, ← hG p hp, ← hV p hp]; exact h.row p hp, fun p hp => by rw [← hV p hp]; exact h.away p hp, fun p q hp hq hne => by rw [← hV p hp, ← hV q hq]; exact h.apart p q hp hq hne⟩
/-- Row p grows by an append; then block b alone may change. -/
theorem Fam.step (h : Fam w base b e sz N V L G) (hbl : b < w.heap.size) {p m : Nat} {news : List Value} {v' : Value} (hp : p < N) (hown : w'.ownsRow base e sz v' (L p + m) (G p ++ news)) (hg : w.grownBy w' (V p).ownBlock)
    (hat : v'.ownBlock = (V p).ownBlock ∨ v'.ownBlock = some w.heap.size) (hk : ∀ g, g ≠ b → g < w'.heap.size → w2.heap[g]? = w'.heap[g]?) :
    Fam w2 base b e sz N (fun j => if j = p then v' else V j) (fun j => if j = p then L j + m else L j) (fun j => if j = p then G j ++ news else G j) := by
  have hvb : v'.ownBlock ≠ some b := by
    rcases hat with e | e
    · rw [e]; exact h.away p hp
    · rw [e]; intro e'; injection e' with e'; omega
  have keep : ∀ q, q < N → q ≠ p → ∀ g, (V q).ownBlock = some g → w2.heap[g]? = w.heap[g]? := by
    intro q hq hne g hgq
    have h1 : g ≠ b := fun e => h.away q hq (by rw [hgq, e])
    have h0 := ((h.row q hq).lt g hgq).2
    rw [hk g h1 (Nat.lt_of_lt_of_le h0 hg.size)]
    refine hg.block g h0 fun e => ?_
    rcases h.apart q p hq hp hne with h2 | h2
    · rw [hgq] at h2; cases h2
    · exact h2 (by rw [hgq, e])
  have sep : ∀ q, q < N → q ≠ p → (V q).ownBlock = none ∨ (V q).ownBlock ≠ v'.ownBlock := by
    intro q hq hne
    rcases hat with e | e
    · rw [e]; exact h.apart q p hq hp hne
    · cases hv : (V q).ownBlock with
      | none => exact .inl rfl
      | some g => right; rw [e]; intro e'; injection e' with e'; have := ((h.row q hq).lt g hv).2; omega
  refine ⟨fun q hq => ?_, fun q hq => ?_, fun q r hq hr hne => ?_⟩
  · by_cases e : q = p
    · subst e
      simp only [if_true]
      refine own_block hown fun g hg' => hk g (fun e' => hvb (by rw [hg']; exact congrArg some e')) (hown.lt g hg').2
    · simp only [if_neg e]
      exact own_block (h.row q hq) (keep q hq e)
  · by_cases e : q = p
    · subst e; simpa using hvb
    · simpa [if_neg e] using h.away q hq
  · by_cases e : q = p
    · subst e
      have hrq : ¬ r = q := fun h => hne h.symm
      simp only [if_true, if_neg hrq]
      rcases sep r hr (fun h => hne h.symm) with h1 | h1
      · cases hv : v'.ownBlock with
        | none => exact .inl rfl
        | some g => right; rw [h1]; simp
      · exact .inr fun e => h1 e.symm
    · by_cases e2 : r = p
      · subst e2
        simp only [if_true, if_neg e]
        exact sep q hq e
      · simp only [if_neg e, if_neg e2]
        exact h.apart q r hq hr hne
end
/-- The first l places of group i. -/
def rwP (S : Nat → Nat) (N : Nat) (W : Nat → Nat) (i l : Nat) : List Pl := (List.range l).map fun s => plP S N (offW W i + s)
theorem rwP_succ (S : Nat → Nat) (N : Nat) (W : Nat → Nat) (i l : Nat) : rwP S N W i (l + 1) = rwP S N W i l ++ [plP S N (offW W i + l)] := by
  unfold rwP; rw [List.range_succ, List.map_append]; rfl
theorem rwP_len (S : Nat → Nat) (N : Nat) (W : Nat → Nat) (i l : Nat) : (rwP S N W i l).length = l := by simp [rwP]
theorem rwP_get (S : Nat → Nat) (N : Nat) (W : Nat → Nat) (i : Nat) {l s : Nat} (h : s < l) : (rwP S N W i l)[s]? = some (plP S N (offW W i + s)) := by
  unfold rwP
  rw [List.getElem?_map, List.getElem?_range h]; rfl
/-- How long row i is when group j has s places. -/
def LL (W : Nat → Nat) (j s i : Nat) : Nat := if i < j then W i else if i = j then s else 0
theorem LL_self (W : Nat → Nat) (j s : Nat) : LL W j s j = s := by unfold LL; rw [if_neg (Nat.lt_irrefl _), if_pos rfl]
/-- The map of rows when group j has s places. -/
def OwnM (w : World) (base bM : Nat) (S : Nat → Nat) (N : Nat) (W : Nat → Nat) (j s : Nat) : Prop :=
  ∃ (F : Lit → Option Value) (V : Nat → Value) (c : Nat), MapF w Try.prog 3 bM c F ∧ c ≤ offW W j + s ∧ (∀ i : Nat, i < 200 → (F (.int .i64 (i : Int))).getD (.slice none 0 0) = V i) ∧
    Fam w base bM 85 2 200 V (LL W j s) (fun i => (rwP S N W i (LL W j s i)).flatMap encPl)
section
variable {w w' : World} {base bM N j s : Nat} {S W : Nat → Nat}
theorem OwnM.start (w : World) (base : Nat) (S : Nat → Nat) (N : Nat) (W : Nat → Nat) : OwnM (w.alloc (.map #[] 0)) base w.heap.size S N W 0 0 :=
  ⟨_, _, 0, MapF.made w _ _, Nat.zero_le _, fun _ _ => rfl, (Fam.nil _ base _ _ 2 200).congr (fun _ _ => rfl) (fun p _ => by
    show 0 = LL W 0 0 p
    unfold LL; rw [if_neg (Nat.not_lt_zero _)]; split <;> rfl) (fun p _ => by
    have : LL W 0 0 p = 0 := by unfold LL; rw [if_neg (Nat.not_lt_zero _)]; split <;> rfl
    rw [this]; rfl)⟩
theorem OwnM.next (h : OwnM w base bM S N W j (W j)) : OwnM w base bM S N W (j + 1) 0 := by
  obtain ⟨F, V, c, h1, h2, h3, h4⟩ := h
  have e : ∀ i, LL W j (W j) i = LL W (j + 1) 0 i := fun i => by
    unfold LL
    by_cases e1 : i < j
    · rw [if_pos e1, if_pos (by omega)]
    · by_cases e2 : i = j
      · subst e2; rw [if_neg e1, if_pos rfl, if_pos (by omega)]
      · rw [if_neg e1, if_neg e2, if_neg (by omega)]; split <;> rfl
  exact ⟨F, V, c, h1, by rw [offW_succ]; omega, h3, h4.congr (fun _ _ => rfl) (fun p _ => e p) (fun p _ => by rw [e p])⟩
theorem OwnM.lt (h : OwnM w base bM S N W j s) : bM < w.heap.size := by
  obtain ⟨F, V, c, h1, _⟩ := h
  exact h1.lt
theorem OwnM.kept (h : OwnM w base bM S N W j s) (hb : base ≤ w.heap.size) (hM : w'.heap[bM]? = w.heap[bM]?) (hk : ∀ g, base ≤ g → g < w.heap.size → w'.heap[g]? = w.heap[g]?) : OwnM w' base bM S N W j s := by
  obtain ⟨F, V, c, h1, h2, h3, h4⟩ := h
  exact ⟨F, V, c, h1.block hM, h2, h3, h4.kept hk⟩
theorem OwnM.drewN (h : OwnM w base bM S N W j s) (n : Nat) : OwnM (w.drewN n) base bM S N W j s := by
  obtain ⟨F, V, c, h1, h2, h3, h4⟩ := h
  exact ⟨F, V, c, h1.drewN n, h2, h3, h4.drewN n⟩
theorem OwnM.drew (h : OwnM w base bM S N W j s) : OwnM w.drew base bM S N W j s := by
  obtain ⟨F, V, c, h1, h2, h3, h4⟩ := h
  exact ⟨F, V, c, h1.drew, h2, h3, h4.drew⟩
theorem OwnM.setCell (h : OwnM w base bM S N W j s) {a : Addr} (ha : a.block < base) (hM : bM ≠ a.block) (u : Value) : OwnM (w.setCell a u) base bM S N W j s := by
  obtain ⟨F, V, c, h1, h2, h3, h4⟩ := h
  exact ⟨F, V, c, h1.setCell hM u, h2, h3, h4.setCell ha u⟩
theorem OwnM.alloc (h : OwnM w base bM S N W j s) (o : Obj) : OwnM (w.alloc o) base bM S N W j s := by
  obtain ⟨F, V, c, h1, h2, h3, h4⟩ := h
  exact ⟨F, V, c, h1.alloc o, h2, h3, h4.alloc o⟩
theorem OwnM.below (h : OwnM w base bM S N W j s) (hb : Below w.heap.size w w') : OwnM w' base bM S N W j s := by
  obtain ⟨F, V, c, h1, h2, h3, h4⟩ := h
  exact ⟨F, V, c, h1.below hb h1.lt, h2, h3, h4.kept fun g _ hg => hb.block g hg⟩
/-- What is looked up for group i. -/
theorem OwnM.look (h : OwnM w base bM S N W j s) {i : Nat} (hi : i < 200) : ∃ v, (∀ w' : World, w'.heap[bM]? = w.heap[bM]? → (Instr.lookup 101 (.map (some bM)) (.int .i64 (i : Int)) false).run Try.prog w' = .ok v w') ∧ w.ownsRow base 85 2 v (LL W j s i) ((rwP S N W i (LL W j s i)).flatMap encPl) ∧ v.ownBlock ≠ some bM := by
  obtain ⟨F, V, c, h1, h2, h3, h4⟩ := h
  refine ⟨V i, fun w' hw => ?_, h4.row i hi, h4.away i hi⟩
  have hk := keyOf_int_mk (P := Try.prog) Try.underlying3 (wf_nat (x := i) (by omega))
  have hz : (zeroValue 44).run Try.prog w' = .ok (.slice none 0 0) w' := by kernel_rfl
  rw [(h1.block hw).look (int_keyed Try.underlying3) Try.underlying101 hz hk, h3 i hi]
theorem OwnM.look_own (h : OwnM w base bM S N W j s) (hj : j < 200) : ∃ v, (∀ w' : World, w'.heap[bM]? = w.heap[bM]? → (Instr.lookup 101 (.map (some bM)) (.int .i64 (j : Int)) false).run Try.prog w' = .ok v w') ∧ w.ownsRow base 85 2 v s ((rwP S N W j s).flatMap encPl) ∧ v.ownBlock ≠ some bM := by
  obtain ⟨v, h1, h2, h3⟩ := h.look hj
  rw [LL_self] at h2
  exact ⟨v, h1, h2, h3⟩
/-- Row j grows by a place. -/
theorem OwnM.put (h : OwnM w base bM S N W j s) (hj : j < 200) (hc : offW W j + s < 1000000) {v v' : Value} {w1 : World} (hv : (Instr.lookup 101 (.map (some bM)) (.int .i64 (j : Int)) false).run Try.prog w = .ok v w)
    {news : List Value} (hn : encPl (plP S N (offW W j + s)) = news) (hown : w1.ownsRow base 85 2 v' (s + 1) ((rwP S N W j s).flatMap encPl ++ news)) (hg : w.grownBy w1 v.ownBlock) (hat : v'.ownBlock = v.ownBlock ∨ v'.ownBlock = some w.heap.size) :
    ∃ w2, (Instr.mapUpdate 101 (.map (some bM)) (.int .i64 (j : Int)) v').run Try.prog w1 = .ok () w2 ∧ OwnM w2 base bM S N W j (s + 1) ∧ w1.grownBy w2 (some bM) := by
  obtain ⟨F, V, c, h1, h2, h3, h4⟩ := h
  have hk := keyOf_int_mk (P := Try.prog) Try.underlying3 (wf_nat (x := j) (by omega))
  have hz : (zeroValue 44).run Try.prog w = .ok (.slice none 0 0) w := by kernel_rfl
  have hV : v = V j := by
    have h5 := h1.look (int_keyed Try.underlying3) Try.underlying101 hz hk
    rw [h3 j hj, hv] at h5
    injection h5
  subst hV hn
  have m1 := h1.kept hg (fun e => h4.away j hj e.symm)
  obtain ⟨D, d1, d2, d3, d4⟩ := m1
  obtain ⟨w2, hrun, r1, r2⟩ := d1.update (int_keyed Try.underlying3) Try.underlying101 (by unfold maxLen; omega) hk (show Rv v' = some (.held v', []) from rfl)
  have hLj := LL_self W j s
  have hown : w1.ownsRow base 85 2 v' (LL W j s j + 1) ((rwP S N W j (LL W j s j)).flatMap encPl ++ encPl (plP S N (offW W j + s))) := by rw [hLj]; exact hown
  have eL : ∀ i, (if i = j then LL W j s i + 1 else LL W j s i) = LL W j (s + 1) i := fun i => by
    by_cases e : i = j
    · subst e; rw [if_pos rfl, hLj]; unfold LL; rw [if_neg (Nat.lt_irrefl _), if_pos rfl]
    · rw [if_neg e]; unfold LL; rw [if_neg e, if_neg e]
  refine ⟨w2, hrun, ⟨putF F (.int .i64 (j : Int)) v', fun i => if i = j then v' else V i, c + 1, ⟨_, r1, d2.put _ _, ?_, ?_⟩, by omega, ?_, ?_⟩, r2⟩
  · intro y
    unfold putF
    by_cases e : y = .int .i64 (j : Int)
    · subst e
      rw [if_pos rfl, has_put_same d2 ((int_keyed (P := Try.prog) Try.underlying3).key hk)]
      rfl
    · rw [if_neg e, has_put_other e, d3]
  · intro y z
    unfold putF
    by_cases e : y = .int .i64 (j : Int)
    · subst e
      rw [if_pos rfl, atKey_put_same d2 ((int_keyed (P := Try.prog) Try.underlying3).key hk)]
    · rw [if_neg e, atKey_put_other e, d4]
  · intro i hi
    show (putF F (.int .i64 (j : Int)) v' (.int .i64 (i : Int))).getD (.slice none 0 0) = if i = j then v' else V i
    unfold putF
    by_cases e : i = j
    · subst e; rw [if_pos rfl, if_pos rfl]; rfl
    · have e2 : ¬ Lit.int .i64 (i : Int) = Lit.int .i64 (j : Int) := fun h => by injection h with _ h; omega
      rw [if_neg e2, if_neg e, h3 i hi]
  · refine (h4.step h1.lt hj hown hg hat (fun g hne hlt => r2.block g hlt (fun e => hne (by injection e)))).congr (fun _ _ => rfl) (fun p _ => eL p) (fun p _ => ?_)
    show (if p = j then (rwP S N W p (LL W j s p)).flatMap encPl ++ encPl (plP S N (offW W j + s)) else (rwP S N W p (LL W j s p)).flatMap encPl) = _
    rw [← eL p]
    by_cases e : p = j
    · subst e
      rw [if_pos rfl, if_pos rfl, hLj, rwP_succ, List.flatMap_append]
      simp
    · rw [if_neg e, if_neg e]
end
end

section
open Go.RowKit Go.Shelf Go.Maps Go.Deep
attribute [local go_sem] Oper.semAt_some
set_option linter.unusedVariables false

theorem slot_ok {w : World} {B : Nat} {A : Option Addr} {n : Nat} {ss : List Int} (h : slotB n ss = true) (hx : Reads w B 1 A n (ss.map (Value.int .i64))) : 1 ≤ n ∧ n ≤ 20 ∧ ∀ k, k < n → ss[k]? = some ((natA ss k : Nat) : Int) ∧ natA ss k ≤ 16 := by
  unfold slotB at h
  simp only [Bool.and_eq_true, decide_eq_true_eq, Bool.not_eq_true'] at h
  obtain ⟨⟨h1, h2⟩, h3⟩ := h
  refine ⟨h1, h2, fun k hk => ?_⟩
  obtain ⟨x, hx⟩ : ∃ x, ss[k]? = some x := ⟨_, List.getElem?_eq_getElem (by rw [hx.len1]; exact hk)⟩
  have h4 := badS_no.1 (any_no h3 hx)
  have h5 := natA_at hx (by omega)
  exact ⟨by rw [hx, ← h5], by omega⟩
/-- The error of Placed, and what it answers. -/
def plcE (g : Gr) (m : Nat) (gs : List Int) (n : Nat) (ss : List Int) : Int :=
  if (validB g && slotB n ss) = true then (if errG g m gs = 0 then (if offW (natA ss) n < needG g gs then 4 else 0) else errG g m gs) else 1
def plcF (g : Gr) (gs : List Int) (n : Nat) (ss : List Int) (t : Nat) : Pl := plP (natA ss) n (idxT (natA g.ops) (natA gs) (widO (natA g.ops) (natA gs) g.n1) t)
def plcL (g : Gr) (gs : List Int) (n : Nat) (ss : List Int) (k : Nat) : List Pl := (List.range k).map (plcF g gs n ss)
def plcR (g : Gr) (m : Nat) (gs : List Int) (n : Nat) (ss : List Int) : List Pl := if plcE g m gs n ss = 0 then plcL g gs n ss g.n1 else []
theorem plcL_succ (g : Gr) (gs : List Int) (n : Nat) (ss : List Int) (k : Nat) : plcL g gs n ss (k + 1) = plcL g gs n ss k ++ [plcF g gs n ss k] := by
  unfold plcL; rw [List.range_succ, List.map_append]; rfl
theorem plcL_len (g : Gr) (gs : List Int) (n : Nat) (ss : List Int) (k : Nat) : (plcL g gs n ss k).length = k := by simp [plcL]
theorem plcR_bad {g : Gr} {m : Nat} {gs : List Int} {n : Nat} {ss : List Int} (h : plcE g m gs n ss ≠ 0) : plcR g m gs n ss = [] := by unfold plcR; rw [if_neg h]
end

end Go.Proofs.Ytblepaocekojbaa
