/-
  A map keyed by [2]int that a call makes, as a set of pairs.
-/
import Derived.Test.YtblepaocekojbaaDkC
import Derived.Maps.Own
import Derived.Maps.OwnSet
import Derived.DeepKeys4
import Derived.MapViews
namespace Go.Proofs.Ytblepaocekojbaa
open Go.RowKit Go.Shelf Go.Maps

theorem laidOut2 : laidOutB Try.prog = true := by kernel_rfl
theorem row2 : (94 : TypeId) < Try.prog.types.size := of_decide_eq_true (by kernel_rfl)
theorem cells2 : Try.prog.cellsOf 94 = 2 := by kernel_rfl
theorem cells1 : Try.prog.cellsOf 3 = 1 := by kernel_rfl
theorem deep2 : Try.prog.keyTypeAt (Try.prog.types.size + 1) 94 = true := by kernel_rfl
theorem wide2 : (match Try.prog.underlying 94 with | some (.array _ _) | some (.struct _) => true | _ => false) = true := by rw [Try.underlying94]
theorem formed2 {c0 c1 : Value} : (Value.agg #[c0, c1]).formed Try.prog 94 = true := by simp [Value.formed, Try.underlying94, cells2]
set_option maxRecDepth 100000 in
theorem law2 : Keyed Try.prog 94 := Keyed.of_law (deep_law_laid laidOut2 (m := 2) (by omega) row2 (by kernel_rfl) wide2)

set_option maxRecDepth 100000 in
theorem key2 (a b : Int) (ha : (Lit.int .i64 a).wf = true) (hb : (Lit.int .i64 b).wf = true) : ∃ l, keyOf Try.prog 94 (.agg #[.int .i64 a, .int .i64 b]) = some l := by
  refine ⟨_, (keyOf_asKey (H := Unit) (enc := fun _ => ()) (w := default) (base := 0) (sp := fun _ => false) (held := true) (d := .agg [.lit (.int .i64 a), .lit (.int .i64 b)]) (ps := []) deep2 wide2 formed2 ⟨3, ?_⟩).1⟩
  simp [DataW.trod, Value.cells, Try.underlying94, Try.underlying3, cells1, cells2, ha, hb, show List.range 2 = [0, 1] from rfl]

/-- What a pair reads as. -/
noncomputable def kl (a b : Int) : Lit := (keyOf Try.prog 94 (.agg #[.int .i64 a, .int .i64 b])).getD (.bool false)
theorem kl_eq (a b : Int) (ha : (Lit.int .i64 a).wf = true) (hb : (Lit.int .i64 b).wf = true) : keyOf Try.prog 94 (.agg #[.int .i64 a, .int .i64 b]) = some (kl a b) := by
  obtain ⟨l, hl⟩ := key2 a b ha hb
  unfold kl; rw [hl]; rfl
theorem kl_inj {a b a' b' : Int} (ha : (Lit.int .i64 a).wf = true) (hb : (Lit.int .i64 b).wf = true) (ha' : (Lit.int .i64 a').wf = true) (hb' : (Lit.int .i64 b').wf = true) (h : kl a b = kl a' b') : a = a' ∧ b = b' := by
  have h1 := kl_eq a b ha hb
  have h2 := kl_eq a' b' ha' hb'
  rw [h] at h1
  have := law2.inj h1 h2
  simpa using this
theorem zeroB (w : World) : (zeroValue 4).run Try.prog w = .ok (.bool false) w := by kernel_rfl

/-- Block b is a map of at most n pairs that is true at just those of S. -/
def PSet (w : World) (b n : Nat) (S : Int → Int → Bool) : Prop :=
  ∃ D : DataW Unit, w.ownsMap Try.prog 94 (plainElem Try.prog 4) b n D ∧ IsMap D ∧ ∀ x y, (Lit.int .i64 x).wf = true → (Lit.int .i64 y).wf = true → D.atKey (kl x y) (.lit (.bool false)) = .lit (.bool (S x y))
theorem PSet.made (w : World) : PSet (w.alloc (.map #[] 0)) w.heap.size 0 (fun _ _ => false) :=
  ⟨.map [], World.ownsMap_made _ _ _ _, isMap_empty, fun _ _ _ _ => rfl⟩
theorem PSet.alloc {w : World} {b n : Nat} {S : Int → Int → Bool} (h : PSet w b n S) (o : Obj) : PSet (w.alloc o) b n S := by
  obtain ⟨D, h1, h2, h3⟩ := h
  exact ⟨D, h1.alloc o, h2, h3⟩
theorem PSet.lt {w : World} {b n : Nat} {S : Int → Int → Bool} (h : PSet w b n S) : b < w.heap.size := by
  obtain ⟨D, h1, _⟩ := h
  exact h1.lt
set_option maxRecDepth 100000 in
theorem PSet.look {w : World} {b n : Nat} {S : Int → Int → Bool} (h : PSet w b n S) (x y : Int) (hx : (Lit.int .i64 x).wf = true) (hy : (Lit.int .i64 y).wf = true) :
    (Instr.lookup 93 (.map (some b)) (.agg #[.int .i64 x, .int .i64 y]) false).run Try.prog w = .ok (.bool (S x y)) w := by
  obtain ⟨D, h1, h2, h3⟩ := h
  obtain ⟨v, ps, hrun, hv⟩ := h1.lookup law2 Try.underlying93 (zeroB w) (plainElem_bool Try.underlying4 false) (kl_eq x y hx hy)
  rw [h3 x y hx hy] at hv
  rw [hrun]
  unfold plainElem at hv
  rw [Try.underlying4] at hv
  cases v <;> simp at hv
  rw [hv.1]

/-- One pair more. -/
def addP (S : Int → Int → Bool) (x y : Int) : Int → Int → Bool := fun a b => (a == x && b == y) || S a b
set_option maxRecDepth 100000 in
theorem wpList_put (w : World) {ops : Array Oper} {rest : List Oper} {o : Oper} {a : Act} {Q : Exit → Act → World → Prop} {b n : Nat} {S : Int → Int → Bool} (h : PSet w b n S) (hn : n < maxLen) (x y : Int) (hx : (Lit.int .i64 x).wf = true) (hy : (Lit.int .i64 y).wf = true)
    (hg : o.guard = none) (m k v : Operand) (hop : o.op = Op.mapUpdate 93 m k v) (hm : a.eval m = .map (some b)) (hk : a.eval k = .agg #[.int .i64 x, .int .i64 y]) (hv : a.eval v = .bool true)
    (hK : ∀ w', PSet w' b (n + 1) (addP S x y) → w.grownBy w' (some b) → wpList Try.prog ops Q rest (a.put o.dst undef) w') : wpList Try.prog ops Q (o :: rest) a w := by
  obtain ⟨D, h1, h2, h3⟩ := h
  refine wpList_mapUpdate_own w hg m k v 93 hop 94 4 law2 Try.underlying93 _ b n D hm h1 hn _ _ (kl x y) hk hv (kl_eq x y hx hy) (.lit (.bool true)) [] (plainElem_bool Try.underlying4 true) ?_
  intro w' ho hgr
  refine hK w' ⟨_, ho, ?_, ?_⟩ hgr
  · obtain ⟨es, rfl⟩ := h2; exact ⟨_, rfl⟩
  · intro x' y' hx' hy'
    unfold addP
    by_cases e : x' = x ∧ y' = y
    · obtain ⟨rfl, rfl⟩ := e
      rw [atKey_put_same h2 (law2.key (kl_eq x' y' hx hy))]
      simp
    · rw [atKey_put_other (fun he => e (kl_inj hx' hy' hx hy he)), h3 x' y' hx' hy']
      have : (x' == x && y' == y) = false := by
        rw [Bool.and_eq_false_iff]
        by_cases e1 : x' = x
        · right; have : ¬ y' = y := fun e2 => e ⟨e1, e2⟩; simpa using this
        · left; simpa using e1
      rw [this]; rfl
end Go.Proofs.Ytblepaocekojbaa
