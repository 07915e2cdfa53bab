/-
  Local's answer in plain words; two rows of the call's own that grow side by side.
-/
import Derived.Test.YtblepaocekojbaaLcF
namespace Go.Proofs.Ytblepaocekojbaa
open Go.RowKit Go.Shelf Go.Maps Go.Deep
set_option linter.unusedVariables false

def locE (q0 q n : Nat) (ss : List Int) (ln : List Pl) : Int := if (slotB n ss && (decide (q ≤ 200) && !(ln.any fun p => !winB n ss p))) = true then (if q0 = q then 0 else 9) else 1
def hadL (lo ln : List Pl) (q : Nat) : Pl → Option Pl := hadF (plA lo) (plA ln) q
def usedL (S : Nat → Nat) (n : Nat) (ln : List Pl) : List Pl := (slotsL S n).filter fun p => decide (p ∈ ln)
def tkL (S : Nat → Nat) (n : Nat) (ss : List Int) (lo ln : List Pl) (q : Nat) : List Pl := tkOf (slotsL S n) (winB n ss) (hadL lo ln q) (usedL S n ln) []
def locF (n : Nat) (ss : List Int) (lo ln : List Pl) (q t : Nat) : Pl := plA (tkL (natA ss) n ss lo ln q) ((usedL (natA ss) n ln).idxOf (plA ln t))
def locL (n : Nat) (ss : List Int) (lo ln : List Pl) (q k : Nat) : List Pl := (List.range k).map (locF n ss lo ln q)
def locR (q0 q n : Nat) (ss : List Int) (lo ln : List Pl) : List Pl := if locE q0 q n ss ln = 0 then locL n ss lo ln q q else []
theorem locL_succ (n : Nat) (ss : List Int) (lo ln : List Pl) (q k : Nat) : locL n ss lo ln q (k + 1) = locL n ss lo ln q k ++ [locF n ss lo ln q k] := by
  unfold locL; rw [List.range_succ, List.map_append]; rfl
theorem locL_len (n : Nat) (ss : List Int) (lo ln : List Pl) (q k : Nat) : (locL n ss lo ln q k).length = k := by simp [locL]
theorem locR_bad {q0 q n : Nat} {ss : List Int} {lo ln : List Pl} (h : locE q0 q n ss ln ≠ 0) : locR q0 q n ss lo ln = [] := by unfold locR; rw [if_neg h]
/-- The old place, or p itself, ahead of the look at what is taken. -/
def toW (W : Pl → Bool) (p : Pl) : Option Pl → Pl
  | some o => if W o = true then o else p
  | none => p
theorem want_eq (W : Pl → Bool) (had : Pl → Option Pl) (tk : List Pl) (p : Pl) : wantF W had tk p = if toW W p (had p) ∈ tk then p else toW W p (had p) := by
  unfold wantF toW
  cases had p with
  | none => simp
  | some o =>
    simp only
    by_cases h1 : W o = true
    · by_cases h2 : o ∈ tk
      · simp [h1, h2]
      · simp [h1, h2]
    · simp [h1]
theorem hadF_keep {old new : Nat → Pl} {k : Nat} {p o : Pl} (h : hadF old new k p = some o) : ∀ {q : Nat}, k ≤ q → hadF old new q p = some o := by
  intro q hq
  induction q with
  | zero => obtain rfl : k = 0 := by omega
            exact h
  | succ q ih =>
    by_cases e : k = q + 1
    · rw [← e]; exact h
    · rw [hadF_succ, ih (by omega)]
theorem used_step {S : Nat → Nat} {m s : Nat} {ln : List Pl} : (slotsL S m ++ rowS m (s + 1)).filter (fun p => decide (p ∈ ln)) = (slotsL S m ++ rowS m s).filter (fun p => decide (p ∈ ln)) ++ (if (⟨(m : Int), (s : Int)⟩ : Pl) ∈ ln then [⟨(m : Int), (s : Int)⟩] else []) := by
  rw [rowS_succ, ← List.append_assoc, List.filter_append]
  congr 1
  by_cases h : (⟨(m : Int), (s : Int)⟩ : Pl) ∈ ln
  · simp [h]
  · simp [h]
theorem slots_of_win {n : Nat} {ss : List Int} {p : Pl} (h : winB n ss p = true) : p ∈ slotsL (natA ss) n := by
  unfold winB at h
  simp only [Bool.and_eq_true, decide_eq_true_eq] at h
  obtain ⟨h1, h2, h3, h4⟩ := h
  refine slotsL_mem.2 ⟨p.m.toNat, p.s.toNat, by omega, ?_, ?_⟩
  · unfold natA
    omega
  · obtain ⟨a, b⟩ := p
    show (⟨a, b⟩ : Pl) = ⟨((a.toNat : Nat) : Int), ((b.toNat : Nat) : Int)⟩
    rw [show ((a.toNat : Nat) : Int) = a from Int.toNat_of_nonneg h1, show ((b.toNat : Nat) : Int) = b from Int.toNat_of_nonneg h3]
/-- Two rows of the call's own, of places, in blocks of their own. -/
structure Two (w : World) (base : Nat) (t : TypeId) (v9 v10 : Value) (us tk : List Pl) : Prop where
  a : w.ownsRow base t 2 v9 us.length (us.flatMap encPl)
  b : w.ownsRow base t 2 v10 tk.length (tk.flatMap encPl)
  apart : v9.ownBlock = none ∨ v9.ownBlock ≠ v10.ownBlock
section
variable {w w' : World} {base : Nat} {t : TypeId} {v9 v10 v9' v10' : Value} {us tk : List Pl} {p : Pl}
theorem Two.nil (w : World) (base : Nat) (t : TypeId) : Two w base t (.slice none 0 0) (.slice none 0 0) [] [] :=
  ⟨World.ownsRow_nil _ _ _ _, World.ownsRow_nil _ _ _ _, .inl rfl⟩
theorem Two.kept (h : Two w base t v9 v10 us tk) (hk : ∀ g, base ≤ g → g < w.heap.size → w'.heap[g]? = w.heap[g]?) : Two w' base t v9 v10 us tk :=
  ⟨own_block h.a fun g hg => hk g (h.a.lt g hg).1 (h.a.lt g hg).2, own_block h.b fun g hg => hk g (h.b.lt g hg).1 (h.b.lt g hg).2, h.apart⟩
theorem Two.below (h : Two w base t v9 v10 us tk) (hb : Below w.heap.size w w') : Two w' base t v9 v10 us tk := h.kept fun g _ hg => hb.block g hg
theorem Two.alloc (h : Two w base t v9 v10 us tk) (o : Obj) : Two (w.alloc o) base t v9 v10 us tk := h.kept fun _ _ hg => blk_alloc_lt _ _ _ hg
theorem Two.drew (h : Two w base t v9 v10 us tk) : Two w.drew base t v9 v10 us tk := h.kept fun _ _ _ => rfl
theorem Two.drewN (h : Two w base t v9 v10 us tk) (n : Nat) : Two (w.drewN n) base t v9 v10 us tk := h.kept fun _ _ _ => rfl
/-- A store into a block that is no row's. -/
theorem Two.set_ (h : Two w base t v9 v10 us tk) {a : Addr} (h9 : v9.ownBlock ≠ some a.block) (h10 : v10.ownBlock ≠ some a.block) (u : Value) : Two (w.setCell a u) base t v9 v10 us tk :=
  ⟨own_block h.a fun g hg => Below.heap_setCell w a u g (fun e => h9 (by rw [hg, e])), own_block h.b fun g hg => Below.heap_setCell w a u g (fun e => h10 (by rw [hg, e])), h.apart⟩
/-- The first row grows. -/
theorem Two.one (h : Two w base t v9 v10 us tk) {n : Nat} {cs : List Value} (hn : n = us.length + 1) (hcs : cs = us.flatMap encPl ++ encPl p) (hown : w'.ownsRow base t 2 v9' n cs) (hg : w.grownBy w' v9.ownBlock) (hat : v9'.ownBlock = v9.ownBlock ∨ v9'.ownBlock = some w.heap.size) : Two w' base t v9' v10 (us ++ [p]) tk := by
  subst hn hcs
  refine ⟨by rw [List.length_append, List.flatMap_append]; simpa using hown, own_block h.b fun g hg' => hg.block g (h.b.lt g hg').2 fun e => ?_, ?_⟩
  · rcases h.apart with h1 | h1
    · rw [h1] at e; cases e
    · exact h1 (by rw [← e, hg'])
  · rcases hat with e | e
    · rw [e]; exact h.apart
    · right
      rw [e]
      intro e2
      have := (h.b.lt _ e2.symm).2
      omega
/-- The second row grows. -/
theorem Two.two (h : Two w base t v9 v10 us tk) {n : Nat} {cs : List Value} (hn : n = tk.length + 1) (hcs : cs = tk.flatMap encPl ++ encPl p) (hown : w'.ownsRow base t 2 v10' n cs) (hg : w.grownBy w' v10.ownBlock) (hat : v10'.ownBlock = v10.ownBlock ∨ v10'.ownBlock = some w.heap.size) : Two w' base t v9 v10' us (tk ++ [p]) := by
  subst hn hcs
  refine ⟨own_block h.a fun g hg' => hg.block g (h.a.lt g hg').2 fun e => ?_, by rw [List.length_append, List.flatMap_append]; simpa using hown, ?_⟩
  · rcases h.apart with h1 | h1
    · rw [h1] at hg'; cases hg'
    · exact h1 (by rw [hg', e])
  · rcases hat with e | e
    · rw [e]; exact h.apart
    · rcases h.apart with h1 | h1
      · exact .inl h1
      · right
        rw [e]
        intro e2
        have := (h.a.lt _ e2).2
        omega
end
section
variable (X : World) (a b : Value) (t : TypeId) (o : Obj)
theorem rd0 : Reads (X.alloc (.cells #[a, b] t)) (X.heap.size + 1) 2 (some ⟨X.heap.size, 0, none⟩) 1 [a, b] :=
  ⟨rfl, fun _ => ⟨X.heap.size, 0, rfl, by omega, fun j u hu => by rw [Nat.zero_add]; exact ((Blk.new X t #[a, b]).cell j).trans (by simpa using hu)⟩⟩
theorem rd1 : Reads (X.alloc (.cells #[a, b] t)).drew (X.heap.size + 1) 2 (some ⟨X.heap.size, 0, none⟩) 1 [a, b] := rd0 X a b t
theorem rdA : Reads ((X.alloc (.cells #[a, b] t)).alloc o).drew (X.heap.size + 2) 2 (some ⟨X.heap.size, 0, none⟩) 1 [a, b] :=
  ⟨rfl, fun _ => ⟨X.heap.size, 0, rfl, by omega, fun j u hu => by rw [Nat.zero_add]; exact (((Blk.new X t #[a, b]).alloc o).cell j).trans (by simpa using hu)⟩⟩
theorem rdB : Reads ((X.alloc o).alloc (.cells #[a, b] t)).drew (X.heap.size + 2) 2 (some ⟨X.heap.size + 1, 0, none⟩) 1 [a, b] := by
  have h := rd0 (X.alloc o) a b t
  rw [World.size_alloc] at h
  exact h
end
theorem Reads.grow {w w' : World} {B size n : Nat} {b o : Nat} {xs : List Value} {row : Option Nat} (h : Reads w B size (some ⟨b, o, none⟩) n xs) (hg : w.grownBy w' row) (hb : b < w.heap.size) (hr : some b ≠ row) : Reads w' B size (some ⟨b, o, none⟩) n xs :=
  ⟨h.1, fun hn => by
    obtain ⟨b1, o1, e, hB, hc⟩ := h.2 hn
    injection e with e
    injection e with e1 e2
    subst e1 e2
    exact ⟨b, o, rfl, hB, fun j u hu => (hg.cell_far ⟨b, o + j, none⟩ hb hr).trans (hc j u hu)⟩⟩
end Go.Proofs.Ytblepaocekojbaa
