/-
  Words and numbers of texts in plain data: what itoa writes is read back by Atoi and by the reference's Number; what is joined by blanks is cut into the same words. No program in sight; no condition.
-/
import Derived.Lib.AtoiAll
import Derived.Lib.ItoaMem
import Derived.Lib.SplitLaws
namespace Go.Proofs.YtehifbogadohgaaDoor
set_option linter.unusedVariables false
set_option linter.unusedSimpArgs false

/-! Digits. -/
def isDg (c : UInt8) : Bool := decide (48 ≤ c.toNat) && decide (c.toNat ≤ 57)
def dgV (c : UInt8) : Nat := c.toNat - 48
/-- The number that digits spell, behind one that is told. -/
def dgs (acc : Nat) (l : List UInt8) : Nat := l.foldl (fun a c => a * 10 + dgV c) acc
theorem dgs_snoc (acc : Nat) (l : List UInt8) (c : UInt8) : dgs acc (l ++ [c]) = dgs acc l * 10 + dgV c := by unfold dgs; rw [List.foldl_append]; rfl
theorem ofNat_toNat {k : Nat} (h : k < 256) : (UInt8.ofNat k).toNat = k := by simp; omega
theorem dec_all : ∀ u : Nat, (∀ c ∈ Lib.decDigits u, isDg c = true) ∧ dgs 0 (Lib.decDigits u) = u ∧ Lib.decDigits u ≠ [] := by
  intro u
  induction u using Nat.strongRecOn with
  | ind u ih =>
    rw [Lib.decDigits]
    by_cases h : u < 10
    · rw [dif_pos h]
      have e := ofNat_toNat (k := 48 + u) (by omega)
      refine ⟨fun c hc => ?_, ?_, by simp⟩
      · obtain rfl : c = UInt8.ofNat (48 + u) := by simpa using hc
        unfold isDg; rw [e]; simp; omega
      · show 0 * 10 + dgV (UInt8.ofNat (48 + u)) = u
        unfold dgV; rw [e]; omega
    · rw [dif_neg h]
      obtain ⟨h1, h2, h3⟩ := ih (u / 10) (by omega)
      have e := ofNat_toNat (k := 48 + u % 10) (by omega)
      refine ⟨fun c hc => ?_, ?_, by simp⟩
      · rcases List.mem_append.1 hc with hc | hc
        · exact h1 c hc
        · obtain rfl : c = UInt8.ofNat (48 + u % 10) := by simpa using hc
          unfold isDg; rw [e]; simp; omega
      · rw [dgs_snoc, h2]
        unfold dgV; rw [e]; omega
theorem dgs_mono : ∀ (l : List UInt8) (acc : Nat), acc ≤ dgs acc l
  | [], acc => Nat.le_refl _
  | c :: l, acc => by
    have := dgs_mono l (acc * 10 + dgV c)
    show acc ≤ dgs (acc * 10 + dgV c) l
    omega
theorem parse_dgs : ∀ (l : List UInt8) (acc : Nat), (∀ c ∈ l, isDg c = true) → dgs acc l < 18446744073709551616 → Lib.parseUint10 acc l = .ok (dgs acc l)
  | [], acc, _, _ => rfl
  | c :: l, acc, h, hlt => by
    have hc := h c List.mem_cons_self
    unfold isDg at hc
    rw [Bool.and_eq_true, decide_eq_true_eq, decide_eq_true_eq] at hc
    have e : dgs acc (c :: l) = dgs (acc * 10 + (c.toNat - 48)) l := rfl
    have hm := dgs_mono l (acc * 10 + (c.toNat - 48))
    rw [e] at hlt ⊢
    rw [Lib.parseUint10, if_pos hc, if_neg (by omega), if_neg (by omega)]
    exact parse_dgs l _ (fun d hd => h d (List.mem_cons_of_mem _ hd)) hlt
/-- Atoi reads back what Itoa wrote. -/
theorem atoi_itoa (n : Int) (h0 : -9223372036854775808 ≤ n) (h1 : n ≤ 9223372036854775807) : Lib.atoiAll (Lib.itoa n) = .ok n := by
  unfold Lib.itoa
  split
  · rename_i hn
    obtain ⟨a1, a2, a3⟩ := dec_all n.natAbs
    have e := parse_dgs _ 0 a1 (by rw [a2]; omega)
    rw [a2] at e
    unfold Lib.atoiAll Lib.parseMag
    have c45 : (45 : UInt8).toNat = 45 := rfl
    simp only [c45, or_true, if_true, if_neg a3, e, not_true_eq_false, false_and, if_false, true_and]
    rw [if_neg (by omega)]
    congr 1
    omega
  · rename_i hn
    obtain ⟨a1, a2, a3⟩ := dec_all n.toNat
    have e := parse_dgs _ 0 a1 (by rw [a2]; omega)
    rw [a2] at e
    cases hd : Lib.decDigits n.toNat with
    | nil => exact absurd hd a3
    | cons c r =>
      have hc := a1 c (by rw [hd]; exact List.mem_cons_self)
      unfold isDg at hc
      rw [Bool.and_eq_true, decide_eq_true_eq, decide_eq_true_eq] at hc
      rw [hd] at e
      unfold Lib.atoiAll Lib.parseMag
      simp only []
      rw [if_neg (show ¬ (c.toNat = 43 ∨ c.toNat = 45) by omega), if_neg (by simp), e]
      simp only []
      rw [if_neg (by omega), if_neg (by omega), if_neg (by omega)]
      congr 1
      omega
/-! Words. -/
def stW (out : List (List UInt8)) (c : UInt8) : List (List UInt8) := if c = 32 then out ++ [[]] else out.dropLast ++ [out.getLastD [] ++ [c]]
/-- The words of a text, as the reference cuts it at its blanks. -/
def wordsL (l : List UInt8) : List (List UInt8) := l.foldl stW [[]]
theorem words_snoc (l : List UInt8) (c : UInt8) : wordsL (l ++ [c]) = stW (wordsL l) c := by unfold wordsL; rw [List.foldl_append]; rfl
theorem st_in {w : List UInt8} (hw : ∀ c ∈ w, c ≠ 32) : ∀ (out : List (List UInt8)) (v : List UInt8), w.foldl stW (out ++ [v]) = out ++ [v ++ w] := by
  induction w with
  | nil => intro out v; simp
  | cons c w ih =>
    intro out v
    have hc := hw c List.mem_cons_self
    rw [List.foldl_cons, stW, if_neg hc, List.dropLast_concat]
    have e : (out ++ [v]).getLastD [] = v := by simp
    rw [e, ih (fun d hd => hw d (List.mem_cons_of_mem _ hd)) out (v ++ [c])]
    simp
/-- Words joined by blanks. -/
def joinL : List (List UInt8) → List UInt8
  | [] => []
  | [w] => w
  | w :: v :: ws => w ++ 32 :: joinL (v :: ws)
theorem words_from (ws : List (List UInt8)) : ∀ (w : List UInt8) (out : List (List UInt8)), (∀ v ∈ w :: ws, ∀ c ∈ v, c ≠ 32) → (joinL (w :: ws)).foldl stW (out ++ [[]]) = out ++ w :: ws := by
  induction ws with
  | nil =>
    intro w out h
    show w.foldl stW (out ++ [[]]) = _
    rw [st_in (h w List.mem_cons_self) out []]
    simp
  | cons v ws ih =>
    intro w out h
    show (w ++ 32 :: joinL (v :: ws)).foldl stW (out ++ [[]]) = _
    rw [List.foldl_append, st_in (h w List.mem_cons_self) out [], List.foldl_cons, stW, if_pos rfl, List.nil_append]
    rw [ih v (out ++ [w]) fun x hx => h x (List.mem_cons_of_mem _ hx)]
    simp
theorem words_join {w : List UInt8} {ws : List (List UInt8)} (h : ∀ v ∈ w :: ws, ∀ c ∈ v, c ≠ 32) : wordsL (joinL (w :: ws)) = w :: ws := by
  have := words_from ws w [] h
  simpa [wordsL] using this
theorem words_ne (l : List UInt8) : wordsL l ≠ [] := by
  have key : ∀ (l : List UInt8) (out : List (List UInt8)), out ≠ [] → l.foldl stW out ≠ [] := by
    intro l
    induction l with
    | nil => intro out h; exact h
    | cons c l ih =>
      intro out h
      rw [List.foldl_cons]
      refine ih _ ?_
      unfold stW
      split <;> simp
  exact key l _ (by simp)
/-! The program's cut at blanks. -/
theorem split_word {w s : List UInt8} (hw : ∀ c ∈ w, c ≠ 32) (k : Nat) : Lib.splitK [32] 0 (k + 1) (w ++ 32 :: s) = w :: Lib.splitK [32] 0 k s := by
  have hi : Lib.index (w ++ 32 :: s) [32] = w.length := by
    refine Lib.index_first (by simp) ?_ fun j hj => ?_
    · unfold Lib.occAt
      rw [List.drop_left]
      simp [List.isPrefixOf]
    · unfold Lib.occAt
      rw [List.drop_append_of_le_length (by omega)]
      cases hd : w.drop j with
      | nil => rw [List.drop_eq_nil_iff] at hd; omega
      | cons c r =>
        have hc := hw c (List.mem_of_mem_drop (by rw [hd]; exact List.mem_cons_self))
        simp [List.isPrefixOf]
        exact fun e => hc e.symm
  rw [Lib.splitK, hi]
  have e1 : ((w.length : Int) == -1) = false := by simp
  rw [e1]
  have e2 : (w.length : Int).toNat = w.length := by omega
  simp only [Bool.false_eq_true, if_false, e2]
  simp
theorem split_join (ws : List (List UInt8)) : ∀ (w : List UInt8), (∀ v ∈ w :: ws, ∀ c ∈ v, c ≠ 32) → Lib.splitK [32] 0 ws.length (joinL (w :: ws)) = w :: ws := by
  induction ws with
  | nil => intro w h; rfl
  | cons v ws ih =>
    intro w h
    show Lib.splitK [32] 0 (ws.length + 1) (w ++ 32 :: joinL (v :: ws)) = _
    rw [split_word (h w List.mem_cons_self), ih v fun x hx => h x (List.mem_cons_of_mem _ hx)]
end Go.Proofs.YtehifbogadohgaaDoor
