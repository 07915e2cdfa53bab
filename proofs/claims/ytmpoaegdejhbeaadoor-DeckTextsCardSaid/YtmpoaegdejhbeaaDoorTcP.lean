/-
  Words and numbers of texts in plain data: what itoa writes is read back by Atoi and by the reference's Number; what is joined by blanks is cut into the same words. No program in sight; no condition.
  The plain law of windows: which specs are valid, which windows a time lies in. No Go in sight.
  Specs as texts, in plain data: what Format writes, what the program and the reference read of a text, and that both read alike. No program in sight; no condition.
-/
import Derived.Lib.AtoiAll
import Derived.Lib.ItoaMem
import Derived.Lib.SplitLaws
import Derived.Test.YtmpoaegdejhbeaaDoorMem
namespace Go.Proofs.YtmpoaegdejhbeaaDoor

section
set_option linter.unusedVariables false
set_option linter.unusedSimpArgs false

/-! Digits. -/
def isDg (c : UInt8) : Bool := decide (48 ≤ c.toNat) && decide (c.toNat ≤ 57)
def dgV (c : UInt8) : Nat := c.toNat - 48
/-- The number that digits spell, behind one that is told. -/
def dgs (acc : Nat) (l : List UInt8) : Nat := l.foldl (fun a c => a * 10 + dgV c) acc
theorem dgs_snoc (acc : Nat) (l : List UInt8) (c : UInt8) : dgs acc (l ++ [c]) = dgs acc l * 10 + dgV c := by unfold dgs; rw [List.foldl_append]; rfl
theorem ofNat_toNat {k : Nat} (h : k < 256) : (UInt8.ofNat k).toNat = k := by simp; omega
theorem dec_all : ∀ u : Nat, (∀ c ∈ Lib.decDigits u, isDg c = true) ∧ dgs 0 (Lib.decDigits u) = u ∧ Lib.decDigits u ≠ [] := by
  intro u
  induction u using Nat.strongRecOn with
  | ind u ih =>
    rw [Lib.decDigits]
    by_cases h : u < 10
    · rw [dif_pos h]
      have e := ofNat_toNat (k := 48 + u) (by omega)
      refine ⟨fun c hc => ?_, ?_, by simp⟩
      · obtain rfl : c = UInt8.ofNat (48 + u) := by simpa using hc
        unfold isDg; rw [e]; simp; omega
      · show 0 * 10 + dgV (UInt8.ofNat (48 + u)) = u
        unfold dgV; rw [e]; omega
    · rw [dif_neg h]
      obtain ⟨h1, h2, h3⟩ := ih (u / 10) (by omega)
      have e := ofNat_toNat (k := 48 + u % 10) (by omega)
      refine ⟨fun c hc => ?_, ?_, by simp⟩
      · rcases List.mem_append.1 hc with hc | hc
        · exact h1 c hc
        · obtain rfl : c = UInt8.ofNat (48 + u % 10) := by simpa using hc
          unfold isDg; rw [e]; simp; omega
      · rw [dgs_snoc, h2]
        unfold dgV; rw [e]; omega
theorem dgs_mono : ∀ (l : List UInt8) (acc : Nat), acc ≤ dgs acc l
  | [], acc => Nat.le_refl _
  | c :: l, acc => by
    have := dgs_mono l (acc * 10 + dgV c)
    show acc ≤ dgs (acc * 10 + dgV c) l
    omega
theorem parse_dgs : ∀ (l : List UInt8) (acc : Nat), (∀ c ∈ l, isDg c = true) → dgs acc l < 18446744073709551616 → Lib.parseUint10 acc l = .ok (dgs acc l)
  | [], acc, _, _ => rfl
  | c :: l, acc, h, hlt => by
    have hc := h c List.mem_cons_self
    unfold isDg at hc
    rw [Bool.and_eq_true, decide_eq_true_eq, decide_eq_true_eq] at hc
    have e : dgs acc (c :: l) = dgs (acc * 10 + (c.toNat - 48)) l := rfl
    have hm := dgs_mono l (acc * 10 + (c.toNat - 48))
    rw [e] at hlt ⊢
    rw [Lib.parseUint10, if_pos hc, if_neg (by omega), if_neg (by omega)]
    exact parse_dgs l _ (fun d hd => h d (List.mem_cons_of_mem _ hd)) hlt
/-- Atoi reads back what Itoa wrote. -/
theorem atoi_itoa (n : Int) (h0 : -9223372036854775808 ≤ n) (h1 : n ≤ 9223372036854775807) : Lib.atoiAll (Lib.itoa n) = .ok n := by
  unfold Lib.itoa
  split
  · rename_i hn
    obtain ⟨a1, a2, a3⟩ := dec_all n.natAbs
    have e := parse_dgs _ 0 a1 (by rw [a2]; omega)
    rw [a2] at e
    unfold Lib.atoiAll Lib.parseMag
    have c45 : (45 : UInt8).toNat = 45 := rfl
    simp only [c45, or_true, if_true, if_neg a3, e, not_true_eq_false, false_and, if_false, true_and]
    rw [if_neg (by omega)]
    congr 1
    omega
  · rename_i hn
    obtain ⟨a1, a2, a3⟩ := dec_all n.toNat
    have e := parse_dgs _ 0 a1 (by rw [a2]; omega)
    rw [a2] at e
    cases hd : Lib.decDigits n.toNat with
    | nil => exact absurd hd a3
    | cons c r =>
      have hc := a1 c (by rw [hd]; exact List.mem_cons_self)
      unfold isDg at hc
      rw [Bool.and_eq_true, decide_eq_true_eq, decide_eq_true_eq] at hc
      rw [hd] at e
      unfold Lib.atoiAll Lib.parseMag
      simp only []
      rw [if_neg (show ¬ (c.toNat = 43 ∨ c.toNat = 45) by omega), if_neg (by simp), e]
      simp only []
      rw [if_neg (by omega), if_neg (by omega), if_neg (by omega)]
      congr 1
      omega
/-! Words. -/
def stW (out : List (List UInt8)) (c : UInt8) : List (List UInt8) := if c = 32 then out ++ [[]] else out.dropLast ++ [out.getLastD [] ++ [c]]
/-- The words of a text, as the reference cuts it at its blanks. -/
def wordsL (l : List UInt8) : List (List UInt8) := l.foldl stW [[]]
theorem words_snoc (l : List UInt8) (c : UInt8) : wordsL (l ++ [c]) = stW (wordsL l) c := by unfold wordsL; rw [List.foldl_append]; rfl
theorem st_in {w : List UInt8} (hw : ∀ c ∈ w, c ≠ 32) : ∀ (out : List (List UInt8)) (v : List UInt8), w.foldl stW (out ++ [v]) = out ++ [v ++ w] := by
  induction w with
  | nil => intro out v; simp
  | cons c w ih =>
    intro out v
    have hc := hw c List.mem_cons_self
    rw [List.foldl_cons, stW, if_neg hc, List.dropLast_concat]
    have e : (out ++ [v]).getLastD [] = v := by simp
    rw [e, ih (fun d hd => hw d (List.mem_cons_of_mem _ hd)) out (v ++ [c])]
    simp
/-- Words joined by blanks. -/
def joinL : List (List UInt8) → List UInt8
  | [] => []
  | [w] => w
  | w :: v :: ws => w ++ 32 :: joinL (v :: ws)
theorem words_from (ws : List (List UInt8)) : ∀ (w : List UInt8) (out : List (List UInt8)), (∀ v ∈ w :: ws, ∀ c ∈ v, c ≠ 32) → (joinL (w :: ws)).foldl stW (out ++ [[]]) = out ++ w :: ws := by
  induction ws with
  | nil =>
    intro w out h
    show w.foldl stW (out ++ [[]]) = _
    rw [st_in (h w List.mem_cons_self) out []]
    simp
  | cons v ws ih =>
    intro w out h
    show (w ++ 32 :: joinL (v :: ws)).foldl stW (out ++ [[]]) = _
    rw [List.foldl_append, st_in (h w List.mem_cons_self) out [], List.foldl_cons, stW, if_pos rfl, List.nil_append]
    rw [ih v (out ++ [w]) fun x hx => h x (List.mem_cons_of_mem _ hx)]
    simp
theorem words_join {w : List UInt8} {ws : List (List UInt8)} (h : ∀ v ∈ w :: ws, ∀ c ∈ v, c ≠ 32) : wordsL (joinL (w :: ws)) = w :: ws := by
  have := words_from ws w [] h
  simpa [wordsL] using this
theorem words_ne (l : List UInt8) : wordsL l ≠ [] := by
  have key : ∀ (l : List UInt8) (out : List (List UInt8)), out ≠ [] → l.foldl stW out ≠ [] := by
    intro l
    induction l with
    | nil => intro out h; exact h
    | cons c l ih =>
      intro out h
      rw [List.foldl_cons]
      refine ih _ ?_
      unfold stW
      split <;> simp
  exact key l _ (by simp)
/-! The program's cut at blanks. -/
theorem split_word {w s : List UInt8} (hw : ∀ c ∈ w, c ≠ 32) (k : Nat) : Lib.splitK [32] 0 (k + 1) (w ++ 32 :: s) = w :: Lib.splitK [32] 0 k s := by
  have hi : Lib.index (w ++ 32 :: s) [32] = w.length := by
    refine Lib.index_first (by simp) ?_ fun j hj => ?_
    · unfold Lib.occAt
      rw [List.drop_left]
      simp [List.isPrefixOf]
    · unfold Lib.occAt
      rw [List.drop_append_of_le_length (by omega)]
      cases hd : w.drop j with
      | nil => rw [List.drop_eq_nil_iff] at hd; omega
      | cons c r =>
        have hc := hw c (List.mem_of_mem_drop (by rw [hd]; exact List.mem_cons_self))
        simp [List.isPrefixOf]
        exact fun e => hc e.symm
  rw [Lib.splitK, hi]
  have e1 : ((w.length : Int) == -1) = false := by simp
  rw [e1]
  have e2 : (w.length : Int).toNat = w.length := by omega
  simp only [Bool.false_eq_true, if_false, e2]
  simp
theorem split_join (ws : List (List UInt8)) : ∀ (w : List UInt8), (∀ v ∈ w :: ws, ∀ c ∈ v, c ≠ 32) → Lib.splitK [32] 0 ws.length (joinL (w :: ws)) = w :: ws := by
  induction ws with
  | nil => intro w h; rfl
  | cons v ws ih =>
    intro w h
    show Lib.splitK [32] 0 (ws.length + 1) (w ++ 32 :: joinL (v :: ws)) = _
    rw [split_word (h w List.mem_cons_self), ih v fun x hx => h x (List.mem_cons_of_mem _ hx)]
end

section
/-- A spec is valid: its kind, size, step, gap and shift. -/
def vspec (k z p g h : Int) : Bool :=
  decide ((k = 1 ∧ 1 ≤ z ∧ z ≤ 1000000000 ∧ 0 ≤ h ∧ h ≤ z - 1 ∧ p = 0 ∧ g = 0) ∨
    (k = 2 ∧ 1 ≤ z ∧ z ≤ 1000000000 ∧ 1 ≤ p ∧ p ≤ z ∧ z ≤ 50 * p ∧ 0 ≤ h ∧ h ≤ p - 1 ∧ g = 0) ∨
    (k = 3 ∧ 1 ≤ g ∧ g ≤ 1000000000 ∧ z = 0 ∧ p = 0 ∧ h = 0) ∨
    (k = 4 ∧ z = 0 ∧ p = 0 ∧ g = 0 ∧ h = 0))
def vtime (t : Int) : Bool := decide (-1000000000000 ≤ t ∧ t ≤ 1000000000000)
/-- The step of a spec. -/
def stepOf (k z p : Int) : Int := if k = 1 then z else p
/-- The first beginning above t - size. -/
def from0 (z b h t : Int) : Int := ((t - z - h) / b + 1) * b + h
/-- n windows from a beginning on. -/
def winsFrom (a b z : Int) (n : Nat) : List (Int × Int) := (List.range n).map fun (i : Nat) => (a + (i : Int) * b, a + (i : Int) * b + z)
/-- How many beginnings lie in a .. t. -/
def count (a b t : Int) : Nat := ((t - a) / b + 1).toNat
/-- The windows of a time. -/
def wins (k z p g h t : Int) : List (Int × Int) :=
  if k = 3 then [(t, t + g)] else if k = 4 then [(-1000000000000, 1000000000001)]
  else winsFrom (from0 z (stepOf k z p) h t) (stepOf k z p) z (count (from0 z (stepOf k z p) h t) (stepOf k z p) t)

theorem winsFrom_length (a b z : Int) (n : Nat) : (winsFrom a b z n).length = n := by simp [winsFrom]
theorem winsFrom_snoc (a b z : Int) (n : Nat) : winsFrom a b z (n + 1) = winsFrom a b z n ++ [(a + n * b, a + n * b + z)] := by simp [winsFrom, List.range_succ]
theorem winsFrom_get (a b z : Int) (n i : Nat) (h : i < n) : (winsFrom a b z n)[i]? = some (a + i * b, a + i * b + z) := by simp [winsFrom, h]
theorem winsFrom_cons (a b z : Int) (n : Nat) : winsFrom a b z (n + 1) = (a, a + z) :: winsFrom (a + b) b z n := by
  unfold winsFrom
  rw [List.range_succ_eq_map, List.map_cons, List.map_map]
  refine List.cons_eq_cons.2 ⟨by simp, List.map_congr_left fun i _ => ?_⟩
  have e : a + ((i + 1 : Nat) : Int) * b = a + b + (i : Int) * b := by rw [Int.natCast_add, Int.add_mul]; omega
  simp only [Function.comp]
  rw [e]

/-- What a valid stepped spec's numbers keep to. -/
structure Stp (z b h : Int) : Prop where
  b1 : 1 ≤ b
  bz : b ≤ z
  z1 : z ≤ 1000000000
  h0 : 0 ≤ h
  hb : h ≤ b - 1
  zb : z ≤ 50 * b

theorem stp_of (k z p g h : Int) (hv : vspec k z p g h = true) (hk : k = 1 ∨ k = 2) : Stp z (stepOf k z p) h := by
  unfold vspec at hv
  rw [decide_eq_true_eq] at hv
  unfold stepOf
  rcases hk with rfl | rfl
  · rcases hv with hv | hv | hv | hv
    · simp only [if_true]; exact ⟨by omega, by omega, by omega, by omega, by omega, by omega⟩
    all_goals (exfalso; omega)
  · rcases hv with hv | hv | hv | hv
    · exfalso; omega
    · rw [if_neg (by omega)]; exact ⟨by omega, by omega, by omega, by omega, by omega, by omega⟩
    all_goals (exfalso; omega)

/-- Where the first beginning lies. -/
theorem from0_bd {z b h t : Int} (s : Stp z b h) : t - z < from0 z b h t ∧ from0 z b h t ≤ t - z + b := by
  have hb := s.b1
  have e := Int.mul_ediv_add_emod (t - z - h) b
  have m0 := Int.emod_nonneg (t - z - h) (show b ≠ 0 by omega)
  have m1 := Int.emod_lt_of_pos (t - z - h) (show 0 < b by omega)
  have e2 : ((t - z - h) / b + 1) * b = b * ((t - z - h) / b) + b := by rw [Int.add_mul, Int.mul_comm]; omega
  unfold from0
  rw [e2]
  omega

theorem count_bd {a b t : Int} (hb : 1 ≤ b) (ha : a ≤ t) (i : Nat) : i < count a b t ↔ a + i * b ≤ t := by
  have e := Int.mul_ediv_add_emod (t - a) b
  have m0 := Int.emod_nonneg (t - a) (show b ≠ 0 by omega)
  have m1 := Int.emod_lt_of_pos (t - a) (show 0 < b by omega)
  have q0 : 0 ≤ (t - a) / b := Int.ediv_nonneg (by omega) (by omega)
  unfold count
  generalize hq : (t - a) / b = q at *
  constructor
  · intro h
    have h1 : (i : Int) ≤ q := by omega
    have h2 : (i : Int) * b ≤ q * b := Int.mul_le_mul_of_nonneg_right h1 (by omega)
    rw [Int.mul_comm q b] at h2
    omega
  · intro h
    rcases Nat.lt_or_ge i (q + 1).toNat with h1 | h1
    · exact h1
    · have h2 : (q + 1) * b ≤ (i : Int) * b := Int.mul_le_mul_of_nonneg_right (by omega) (by omega)
      rw [Int.add_mul, Int.mul_comm q b] at h2
      omega

theorem count_small {a b t : Int} (hb : 1 ≤ b) (ha : a ≤ t) {m : Nat} (h : t < a + m * b) : count a b t ≤ m := by
  rcases Nat.lt_or_ge m (count a b t) with h1 | h1
  · have := (count_bd hb ha m).1 h1; omega
  · exact h1
end

section
set_option linter.unusedVariables false
set_option linter.unusedSimpArgs false

structure SpC where
  k : Int
  z : Int
  p : Int
  g : Int
  h : Int
def SpC.ok (s : SpC) : Bool := vspec s.k s.z s.p s.g s.h
def tumW : List UInt8 := [116, 117, 109, 98, 108, 105, 110, 103]
def sliW : List UInt8 := [115, 108, 105, 100, 105, 110, 103]
def sesW : List UInt8 := [115, 101, 115, 115, 105, 111, 110]
def gloW : List UInt8 := [103, 108, 111, 98, 97, 108]
/-- The words of a spec's text. -/
def wdsC (s : SpC) : List (List UInt8) :=
  if s.k = 1 then [tumW, Lib.itoa s.z, Lib.itoa s.h] else if s.k = 2 then [sliW, Lib.itoa s.z, Lib.itoa s.p, Lib.itoa s.h] else if s.k = 3 then [sesW, Lib.itoa s.g] else [gloW]
def fmtC (s : SpC) : List UInt8 := if s.ok then joinL (wdsC s) else []
/-- The number that a word is, to the reference; 0 if it is none. -/
def tailN (w : List UInt8) : List UInt8 := if w.head? = some 45 then w.tail else w
def numV (w : List UInt8) : Int := if (tailN w).all isDg && decide ((tailN w).length ≤ 18) then (if w.head? = some 45 then -(dgs 0 (tailN w) : Int) else (dgs 0 (tailN w) : Int)) else 0
/-- .. and to the program. -/
def atV (w : List UInt8) : Int := match Lib.atoiAll w with
  | .ok v => v
  | .syntax => 0
  | .range => Lib.atoiSat w
theorem dec_len : ∀ (m u : Nat), u < 10 ^ (m + 1) → (Lib.decDigits u).length ≤ m + 1
  | 0, u, h => by rw [Lib.decDigits, dif_pos (by simpa using h)]; simp
  | m + 1, u, h => by
    rw [Lib.decDigits]
    split
    · simp
    · have h2 : u / 10 < 10 ^ (m + 1) := by
        rw [Nat.div_lt_iff_lt_mul (by omega)]
        rw [Nat.pow_succ] at h
        exact h
      have := dec_len m (u / 10) h2
      rw [List.length_append]
      simp
      omega
theorem head_dec (u : Nat) : (Lib.decDigits u).head? ≠ some 45 := fun h => by
  obtain ⟨a1, _, _⟩ := dec_all u
  have := a1 45 (List.mem_of_head? h)
  revert this
  decide
theorem num_itoa (n : Int) (h0 : -1000000000000 ≤ n) (h1 : n ≤ 1000000000000) : numV (Lib.itoa n) = n := by
  unfold numV tailN Lib.itoa
  split
  · rename_i hn
    obtain ⟨a1, a2, a3⟩ := dec_all n.natAbs
    have hl := dec_len 17 n.natAbs (by omega)
    simp only [List.head?_cons, if_true, List.tail_cons]
    rw [if_pos (by rw [Bool.and_eq_true, List.all_eq_true, decide_eq_true_eq]; exact ⟨a1, by omega⟩), a2]
    omega
  · rename_i hn
    obtain ⟨a1, a2, a3⟩ := dec_all n.toNat
    have hl := dec_len 17 n.toNat (by omega)
    have hh := head_dec n.toNat
    simp only [if_neg hh]
    rw [if_pos (by rw [Bool.and_eq_true, List.all_eq_true, decide_eq_true_eq]; exact ⟨a1, by omega⟩), a2]
    omega
theorem at_itoa (n : Int) (h0 : -1000000000000 ≤ n) (h1 : n ≤ 1000000000000) : atV (Lib.itoa n) = n := by
  unfold atV
  rw [atoi_itoa n (by omega) (by omega)]
/-- What the reference makes of a text. -/
def candW : List (List UInt8) → SpC
  | [_] => ⟨4, 0, 0, 0, 0⟩
  | [_, a] => ⟨3, 0, 0, numV a, 0⟩
  | [_, a, b] => ⟨1, numV a, 0, 0, numV b⟩
  | [_, a, b, c] => ⟨2, numV a, numV b, 0, numV c⟩
  | _ => ⟨0, 0, 0, 0, 0⟩
def candR (l : List UInt8) : SpC := candW (wordsL l)
/-- .. and what the program makes of it. -/
def nthP (w : List (List UInt8)) (i : Nat) : Int := if i < min w.length 4 then atV (w.getD i []) else 0
def candV (w : List (List UInt8)) : SpC :=
  if w.headD [] = tumW then ⟨1, nthP w 1, 0, 0, nthP w 2⟩ else if w.headD [] = sliW then ⟨2, nthP w 1, nthP w 2, 0, nthP w 3⟩ else if w.headD [] = sesW then ⟨3, 0, 0, nthP w 1, 0⟩ else ⟨4, 0, 0, 0, 0⟩
def candP (l : List UInt8) : SpC := candV (Lib.split l [32])
theorem itoa_no (n : Int) : ∀ c ∈ Lib.itoa n, c ≠ 32 := by
  have key : ∀ u, ∀ c ∈ Lib.decDigits u, c ≠ 32 := fun u c hc e => by
    have := (dec_all u).1 c hc
    subst e
    revert this
    decide
  unfold Lib.itoa
  split
  · intro c hc
    rcases List.mem_cons.1 hc with rfl | hc
    · decide
    · exact key _ c hc
  · exact key _
theorem wds_no (s : SpC) : ∀ v ∈ wdsC s, ∀ c ∈ v, c ≠ 32 := by
  have k1 : ∀ c ∈ tumW, c ≠ 32 := by decide
  have k2 : ∀ c ∈ sliW, c ≠ 32 := by decide
  have k3 : ∀ c ∈ sesW, c ≠ 32 := by decide
  have k4 : ∀ c ∈ gloW, c ≠ 32 := by decide
  unfold wdsC
  split
  · intro v hv
    simp only [List.mem_cons, List.not_mem_nil, or_false] at hv
    rcases hv with rfl | rfl | rfl
    · exact k1
    · exact itoa_no _
    · exact itoa_no _
  · split
    · intro v hv
      simp only [List.mem_cons, List.not_mem_nil, or_false] at hv
      rcases hv with rfl | rfl | rfl | rfl
      · exact k2
      · exact itoa_no _
      · exact itoa_no _
      · exact itoa_no _
    · split
      · intro v hv
        simp only [List.mem_cons, List.not_mem_nil, or_false] at hv
        rcases hv with rfl | rfl
        · exact k3
        · exact itoa_no _
      · intro v hv
        simp only [List.mem_cons, List.not_mem_nil, or_false] at hv
        rcases hv with rfl
        exact k4
theorem count_join (ws : List (List UInt8)) : ∀ (w : List UInt8), (∀ v ∈ w :: ws, ∀ c ∈ v, c ≠ 32) → (joinL (w :: ws)).count 32 = ws.length := by
  have key : ∀ w : List UInt8, (∀ c ∈ w, c ≠ 32) → w.count 32 = 0 := fun w h => List.count_eq_zero.2 fun hm => h 32 hm rfl
  induction ws with
  | nil => intro w h; exact key w (h w List.mem_cons_self)
  | cons v ws ih =>
    intro w h
    show (w ++ 32 :: joinL (v :: ws)).count 32 = _
    rw [List.count_append, key w (h w List.mem_cons_self), List.count_cons_self, ih v fun x hx => h x (List.mem_cons_of_mem _ hx)]
    simp
theorem split_wds {w : List UInt8} {ws : List (List UInt8)} (h : ∀ v ∈ w :: ws, ∀ c ∈ v, c ≠ 32) : Lib.split (joinL (w :: ws)) [32] = w :: ws := by
  unfold Lib.split
  rw [Lib.count_one, count_join ws w h]
  exact split_join ws w h
theorem wds_cons (s : SpC) : ∃ w ws, wdsC s = w :: ws := by
  unfold wdsC
  split
  · exact ⟨_, _, rfl⟩
  · split
    · exact ⟨_, _, rfl⟩
    · split
      · exact ⟨_, _, rfl⟩
      · exact ⟨_, _, rfl⟩
theorem words_fmt {s : SpC} (h : s.ok = true) : wordsL (fmtC s) = wdsC s ∧ Lib.split (fmtC s) [32] = wdsC s := by
  obtain ⟨w, ws, e⟩ := wds_cons s
  have hno := wds_no s
  unfold fmtC
  rw [if_pos h]
  rw [e] at hno ⊢
  exact ⟨words_join hno, split_wds hno⟩
theorem candR_fmt {s : SpC} (h : s.ok = true) : candR (fmtC s) = s := by
  unfold candR
  rw [(words_fmt h).1]
  obtain ⟨k, z, p, g, h'⟩ := s
  unfold SpC.ok vspec at h
  have h := of_decide_eq_true h
  simp only at h
  unfold wdsC
  simp only
  rcases h with ⟨rfl, _, _, _, _, rfl, rfl⟩ | ⟨rfl, _, _, _, _, _, _, _, rfl⟩ | ⟨rfl, _, _, rfl, rfl, rfl⟩ | ⟨rfl, rfl, rfl, rfl, rfl⟩
  · rw [if_pos rfl]
    show (⟨1, numV _, 0, 0, numV _⟩ : SpC) = _
    rw [num_itoa z (by omega) (by omega), num_itoa h' (by omega) (by omega)]
  · rw [if_neg (by omega), if_pos rfl]
    show (⟨2, numV _, numV _, 0, numV _⟩ : SpC) = _
    rw [num_itoa z (by omega) (by omega), num_itoa p (by omega) (by omega), num_itoa h' (by omega) (by omega)]
  · rw [if_neg (by omega), if_neg (by omega), if_pos rfl]
    show (⟨3, 0, 0, numV _, 0⟩ : SpC) = _
    rw [num_itoa g (by omega) (by omega)]
  · rw [if_neg (by omega), if_neg (by omega), if_neg (by omega)]
    rfl
theorem candP_fmt {s : SpC} (h : s.ok = true) : candP (fmtC s) = s := by
  unfold candP
  rw [(words_fmt h).2]
  obtain ⟨k, z, p, g, h'⟩ := s
  unfold SpC.ok vspec at h
  have h := of_decide_eq_true h
  simp only at h
  unfold wdsC
  simp only
  have d1 : sliW ≠ tumW := by decide
  have d2 : sesW ≠ tumW := by decide
  have d3 : sesW ≠ sliW := by decide
  have d4 : gloW ≠ tumW := by decide
  have d5 : gloW ≠ sliW := by decide
  have d6 : gloW ≠ sesW := by decide
  rcases h with ⟨rfl, _, _, _, _, rfl, rfl⟩ | ⟨rfl, _, _, _, _, _, _, _, rfl⟩ | ⟨rfl, _, _, rfl, rfl, rfl⟩ | ⟨rfl, rfl, rfl, rfl, rfl⟩
  · rw [if_pos rfl]
    unfold candV
    rw [if_pos (show List.headD [tumW, Lib.itoa z, Lib.itoa h'] [] = tumW from rfl)]
    show (⟨1, atV (Lib.itoa z), 0, 0, atV (Lib.itoa h')⟩ : SpC) = _
    rw [at_itoa z (by omega) (by omega), at_itoa h' (by omega) (by omega)]
  · rw [if_neg (by omega), if_pos rfl]
    unfold candV
    rw [if_neg (show ¬ List.headD [sliW, Lib.itoa z, Lib.itoa p, Lib.itoa h'] [] = tumW from d1), if_pos (show List.headD [sliW, Lib.itoa z, Lib.itoa p, Lib.itoa h'] [] = sliW from rfl)]
    show (⟨2, atV (Lib.itoa z), atV (Lib.itoa p), 0, atV (Lib.itoa h')⟩ : SpC) = _
    rw [at_itoa z (by omega) (by omega), at_itoa p (by omega) (by omega), at_itoa h' (by omega) (by omega)]
  · rw [if_neg (by omega), if_neg (by omega), if_pos rfl]
    unfold candV
    rw [if_neg (show ¬ List.headD [sesW, Lib.itoa g] [] = tumW from d2), if_neg (show ¬ List.headD [sesW, Lib.itoa g] [] = sliW from d3), if_pos (show List.headD [sesW, Lib.itoa g] [] = sesW from rfl)]
    show (⟨3, 0, 0, atV (Lib.itoa g), 0⟩ : SpC) = _
    rw [at_itoa g (by omega) (by omega)]
  · rw [if_neg (by omega), if_neg (by omega), if_neg (by omega)]
    unfold candV
    rw [if_neg (show ¬ List.headD [gloW] [] = tumW from d4), if_neg (show ¬ List.headD [gloW] [] = sliW from d5), if_neg (show ¬ List.headD [gloW] [] = sesW from d6)]
/-- What is read of a text, by a guess. -/
def parseG (cand : List UInt8 → SpC) (l : List UInt8) : SpC × Int := if l ≠ [] ∧ fmtC (cand l) = l then (cand l, 0) else (⟨0, 0, 0, 0, 0⟩, 2)
theorem fmt_ok {s : SpC} (h : fmtC s ≠ []) : s.ok = true := by
  unfold fmtC at h
  cases e : s.ok
  · rw [e] at h; exact absurd rfl h
  · rfl
theorem parse_same (l : List UInt8) : parseG candP l = parseG candR l := by
  unfold parseG
  by_cases h0 : l = []
  · rw [if_neg (fun h => h.1 h0), if_neg (fun h => h.1 h0)]
  · by_cases h1 : fmtC (candP l) = l
    · have ok := fmt_ok (s := candP l) (by rw [h1]; exact h0)
      have e : candR l = candP l := by
        have := candR_fmt ok
        rwa [h1] at this
      rw [e]
    · by_cases h2 : fmtC (candR l) = l
      · have ok := fmt_ok (s := candR l) (by rw [h2]; exact h0)
        have e : candP l = candR l := by
          have := candP_fmt ok
          rwa [h2] at this
        rw [e] at h1
        exact absurd h2 h1
      · rw [if_neg (fun h => h1 h.2), if_neg (fun h => h2 h.2)]
theorem parse_back {s : SpC} (h : s.ok = true) : parseG candP (fmtC s) = (s, 0) := by
  have hne : fmtC s ≠ [] := by
    unfold fmtC
    rw [if_pos h]
    obtain ⟨w, ws, e⟩ := wds_cons s
    rw [e]
    have hw : w ≠ [] := by
      unfold wdsC at e
      split at e
      · injection e with e _; subst e; decide
      · split at e
        · injection e with e _; subst e; decide
        · split at e
          · injection e with e _; subst e; decide
          · injection e with e _; subst e; decide
    cases ws with
    | nil => exact hw
    | cons v ws =>
      show w ++ 32 :: joinL (v :: ws) ≠ []
      simp
  unfold parseG
  rw [candP_fmt h, if_pos ⟨hne, rfl⟩]
end

end Go.Proofs.YtmpoaegdejhbeaaDoor
