/-
  Graphs as texts, in plain data: what Format writes, what the program and the reference read of a line and of a text, that both read alike, and that they go there and back. No condition.
-/
import Derived.Test.YtmpoaegdejhbeaaDoorTcD
import Derived.Test.YtmpoaegdejhbeaaDoorDkC
import Derived.Lib.CutLaws
namespace Go.Proofs.YtmpoaegdejhbeaaDoor
set_option linter.unusedVariables false
set_option linter.unusedSimpArgs false

/-! Cut at a byte. -/
def cutN (c : UInt8) : List UInt8 → Option (List UInt8 × List UInt8)
  | [] => none
  | b :: l => if b = c then some ([], l) else match cutN c l with
    | none => none
    | some (x, y) => some (b :: x, y)
theorem cutN_app (c : UInt8) : ∀ (x y : List UInt8), (∀ b ∈ x, b ≠ c) → cutN c (x ++ c :: y) = some (x, y)
  | [], y, _ => by simp [cutN]
  | b :: x, y, h => by
    rw [List.cons_append, cutN, if_neg (h b List.mem_cons_self), cutN_app c x y fun d hd => h d (List.mem_cons_of_mem _ hd)]
theorem cutN_some (c : UInt8) : ∀ (l x y : List UInt8), cutN c l = some (x, y) → l = x ++ c :: y ∧ ∀ b ∈ x, b ≠ c
  | [], x, y, h => by cases h
  | b :: l, x, y, h => by
    rw [cutN] at h
    split at h
    · rename_i e
      injection h with h
      injection h with h1 h2
      subst h1 h2 e
      exact ⟨rfl, fun _ hb => by cases hb⟩
    · rename_i e
      split at h
      · cases h
      · rename_i x' y' h2
        injection h with h
        injection h with h3 h4
        subst h3 h4
        obtain ⟨h5, h6⟩ := cutN_some c l x' y' h2
        refine ⟨by rw [h5]; rfl, fun d hd => ?_⟩
        rcases List.mem_cons.1 hd with rfl | hd
        · exact e
        · exact h6 d hd
theorem index_cut (c : UInt8) : ∀ l : List UInt8, Lib.index l [c] = match cutN c l with
    | none => -1
    | some (x, _) => (x.length : Int)
  | [] => by simp [Lib.index, cutN]
  | b :: l => by
    rw [Lib.index, cutN]
    by_cases e : b = c
    · subst e
      rw [if_pos (by simp [List.isPrefixOf]), if_pos rfl]
      rfl
    · rw [if_neg (by simp [List.isPrefixOf]; exact fun h => e h.symm), if_neg e, index_cut c l]
      cases cutN c l with
      | none => rfl
      | some p =>
        obtain ⟨x, y⟩ := p
        simp only [List.length_cons]
        have : ((x.length : Int) == -1) = false := by rw [beq_eq_false_iff_ne]; omega
        rw [this]
        simp
theorem lib_cut (c : UInt8) (l : List UInt8) : Lib.cut l [c] = match cutN c l with
    | none => (l, [], false)
    | some (x, y) => (x, y, true) := by
  unfold Lib.cut
  rw [index_cut]
  cases h : cutN c l with
  | none => simp
  | some p =>
    obtain ⟨x, y⟩ := p
    obtain ⟨h1, _⟩ := cutN_some c l x y h
    simp only
    rw [if_pos (by omega), h1]
    simp
/-! Words of a line. -/
theorem joinL_cons {w : List UInt8} {ws : List (List UInt8)} (h : ws ≠ []) : joinL (w :: ws) = w ++ 32 :: joinL ws := by
  cases ws with
  | nil => exact absurd rfl h
  | cons v ws => rfl
theorem splitK_join : ∀ (k : Nat) (l : List UInt8), Lib.splitK [32] 0 k l ≠ [] ∧ joinL (Lib.splitK [32] 0 k l) = l
  | 0, l => ⟨by simp [Lib.splitK], rfl⟩
  | k + 1, l => by
    rw [Lib.splitK, index_cut]
    cases h : cutN 32 l with
    | none => exact ⟨by simp, by simp [joinL]⟩
    | some p =>
      obtain ⟨x, y⟩ := p
      obtain ⟨h1, _⟩ := cutN_some 32 l x y h
      simp only
      have e : ((x.length : Int) == -1) = false := by rw [beq_eq_false_iff_ne]; omega
      rw [e]
      have ex : l.take ((x.length : Int).toNat + 0) = x := by rw [h1]; simp
      have ey : l.drop ((x.length : Int).toNat + [(32 : UInt8)].length) = y := by rw [h1]; simp
      simp only [Bool.false_eq_true, if_false]
      rw [ex, ey]
      obtain ⟨h2, h3⟩ := splitK_join k y
      exact ⟨by simp, by rw [joinL_cons h2, h3, h1]⟩
theorem split_back (l : List UInt8) : Lib.split l [32] ≠ [] ∧ joinL (Lib.split l [32]) = l := by unfold Lib.split; exact splitK_join _ l
/-! Numbers. -/
/-- The number that a word is, to the program: what Itoa writes back. -/
def numT (w : List UInt8) : Option Int := match Lib.atoiAll w with
  | .ok n => if Lib.itoa n = w then some n else none
  | _ => none
/-- .. and to the reference. -/
def numQ (w : List UInt8) : Option Int :=
  if (tailN w).length = 0 ∨ 18 < (tailN w).length ∨ ((tailN w).head? = some 48 ∧ (1 < (tailN w).length ∨ w.head? = some 45)) then none
  else if (tailN w).all isDg then some (if w.head? = some 45 then -(dgs 0 (tailN w) : Int) else (dgs 0 (tailN w) : Int)) else none
theorem numT_some {w : List UInt8} {n : Int} (h : numT w = some n) : w = Lib.itoa n := by
  unfold numT at h
  split at h
  · split at h
    · rename_i e
      injection h with h
      subst h
      exact e.symm
    · cases h
  · cases h
theorem numT_itoa {n : Int} (h0 : -9223372036854775808 ≤ n) (h1 : n ≤ 9223372036854775807) : numT (Lib.itoa n) = some n := by
  unfold numT
  rw [atoi_itoa n h0 h1]
  simp
theorem dgs_head : ∀ (l : List UInt8) (a : Nat), a * 10 ^ l.length ≤ dgs a l
  | [], a => by simp [dgs]
  | c :: l, a => by
    have := dgs_head l (a * 10 + dgV c)
    show a * 10 ^ (l.length + 1) ≤ dgs (a * 10 + dgV c) l
    have e : a * 10 ^ (l.length + 1) ≤ (a * 10 + dgV c) * 10 ^ l.length := by
      rw [Nat.pow_succ, Nat.add_mul, Nat.mul_comm (10 ^ l.length) 10, ← Nat.mul_assoc]
      omega
    omega
theorem dgs_pos {c : UInt8} {l : List UInt8} (hc : isDg c = true) (h0 : c ≠ 48) : 1 ≤ dgs 0 (c :: l) := by
  unfold isDg at hc
  rw [Bool.and_eq_true, decide_eq_true_eq, decide_eq_true_eq] at hc
  have hv : 1 ≤ dgV c := by
    unfold dgV
    have : c.toNat ≠ 48 := fun e => h0 (UInt8.toNat_inj.1 e)
    omega
  have h := dgs_head l (0 * 10 + dgV c)
  have : 1 ≤ 10 ^ l.length := Nat.one_le_pow _ _ (by omega)
  show 1 ≤ dgs (0 * 10 + dgV c) l
  have : 1 ≤ (0 * 10 + dgV c) * 10 ^ l.length := by
    have := Nat.mul_le_mul (show 1 ≤ 0 * 10 + dgV c by omega) this
    simpa using this
  omega
theorem dec_dgs : ∀ (l : List UInt8), l ≠ [] → (∀ c ∈ l, isDg c = true) → (l.head? = some 48 → l.length = 1) → Lib.decDigits (dgs 0 l) = l := by
  intro l
  induction hl : l.length generalizing l with
  | zero => intro h; exact absurd (List.length_eq_zero_iff.1 hl) h
  | succ m ih =>
    intro hne hd hh
    obtain ⟨k, c, rfl⟩ : ∃ k c, l = k ++ [c] := ⟨l.dropLast, l.getLast hne, (List.dropLast_concat_getLast _).symm⟩
    have hc := hd c (by simp)
    have hc' := hc
    unfold isDg at hc'
    rw [Bool.and_eq_true, decide_eq_true_eq, decide_eq_true_eq] at hc'
    have hcv : UInt8.ofNat (48 + dgV c) = c := by
      apply UInt8.toNat_inj.1
      rw [ofNat_toNat (by unfold dgV; omega)]
      unfold dgV
      omega
    have hv9 : dgV c ≤ 9 := by unfold dgV; omega
    by_cases hk : k = []
    · subst hk
      show Lib.decDigits (0 * 10 + dgV c) = [c]
      rw [Lib.decDigits, dif_pos (by omega)]
      simpa using hcv
    · have hk1 : k.length = m := by rw [List.length_append] at hl; simpa using hl
      obtain ⟨b, r, rfl⟩ : ∃ b r, k = b :: r := List.exists_cons_of_ne_nil hk
      have hb0 : b ≠ 48 := by
        intro e
        have := hh (by rw [e]; rfl)
        have h3 : (b :: r).length = r.length + 1 := rfl
        omega
      have hp := dgs_pos (l := r) (hd b (by simp)) hb0
      have ihk := ih (b :: r) hk1 hk (fun d hd2 => hd d (List.mem_append_left _ hd2)) (fun e => by
        have : b = 48 := by simpa using e
        exact absurd this hb0)
      rw [dgs_snoc, Lib.decDigits, dif_neg (by omega)]
      have e1 : (dgs 0 (b :: r) * 10 + dgV c) / 10 = dgs 0 (b :: r) := by omega
      have e2 : (dgs 0 (b :: r) * 10 + dgV c) % 10 = dgV c := by omega
      rw [e1, e2, ihk, hcv]
theorem numQ_some {w : List UInt8} {n : Int} (h : numQ w = some n) : w = Lib.itoa n ∧ -1000000000000000000 < n ∧ n < 1000000000000000000 := by
  unfold numQ at h
  split at h
  · cases h
  · rename_i h1
    split at h
    · rename_i h2
      rw [List.all_eq_true] at h2
      have hne : tailN w ≠ [] := fun e => h1 (.inl (by rw [e]; rfl))
      have hlen : (tailN w).length ≤ 18 := by omega
      have hd := dec_dgs (tailN w) hne h2 (fun e => by
        have : ¬ 1 < (tailN w).length := fun h3 => h1 (.inr (.inr ⟨e, .inl h3⟩))
        have : 0 < (tailN w).length := List.length_pos_iff.2 hne
        omega)
      have hlt := dgs_lt _ h2
      have hp : 10 ^ (tailN w).length ≤ 10 ^ 18 := Nat.pow_le_pow_right (by omega) hlen
      have h18 : (10 : Nat) ^ 18 = 1000000000000000000 := by decide
      split at h
      · rename_i h45
        injection h with h
        have htl : tailN w = w.tail := by unfold tailN; rw [if_pos h45]
        obtain ⟨c, r, hcr⟩ : ∃ c r, tailN w = c :: r := List.exists_cons_of_ne_nil hne
        have hc0 : c ≠ 48 := fun e => h1 (.inr (.inr ⟨by rw [hcr, e]; rfl, .inr h45⟩))
        have hpos := dgs_pos (l := r) (h2 c (by rw [hcr]; simp)) hc0
        rw [← hcr] at hpos
        refine ⟨?_, by omega, by omega⟩
        unfold Lib.itoa
        rw [if_pos (by omega)]
        have e : n.natAbs = dgs 0 (tailN w) := by omega
        rw [e, hd, htl]
        cases w with
        | nil => cases h45
        | cons b l =>
          have : b = 45 := by simpa using h45
          rw [this]
          rfl
      · rename_i h45
        injection h with h
        have htl : tailN w = w := by unfold tailN; rw [if_neg h45]
        refine ⟨?_, by omega, by omega⟩
        unfold Lib.itoa
        rw [if_neg (by omega)]
        have e : n.toNat = dgs 0 (tailN w) := by omega
        rw [e, hd, htl]
    · cases h
theorem dec_head (u : Nat) (h : (Lib.decDigits u).head? = some 48) : u = 0 := by
  induction u using Nat.strongRecOn with
  | ind u ih =>
    rw [Lib.decDigits] at h
    by_cases hu : u < 10
    · rw [dif_pos hu] at h
      have e : UInt8.ofNat (48 + u) = 48 := by simpa using h
      have := congrArg UInt8.toNat e
      rw [ofNat_toNat (by omega)] at this
      have h48 : (48 : UInt8).toNat = 48 := rfl
      omega
    · rw [dif_neg hu] at h
      have hne := (dec_all (u / 10)).2.2
      obtain ⟨b, r, hbr⟩ := List.exists_cons_of_ne_nil hne
      have := ih (u / 10) (by omega) (by rw [hbr] at h ⊢; simpa using h)
      omega
theorem numQ_itoa (n : Int) (h0 : -1000000000000 ≤ n) (h1 : n ≤ 1000000000000) : numQ (Lib.itoa n) = some n := by
  have hd0 : Lib.decDigits 0 = [48] := by rw [Lib.decDigits, dif_pos (by omega)]; rfl
  unfold numQ tailN Lib.itoa
  split
  · rename_i hn
    obtain ⟨a1, a2, a3⟩ := dec_all n.natAbs
    have hl := dec_len 17 n.natAbs (by omega)
    have hh : (Lib.decDigits n.natAbs).head? ≠ some 48 := fun e => by have := dec_head _ e; omega
    have hp : (Lib.decDigits n.natAbs).length ≠ 0 := fun e => a3 (List.length_eq_zero_iff.1 e)
    simp only [List.head?_cons, if_true, List.tail_cons]
    rw [if_neg (by rintro (e | e | e); exact hp e; omega; exact hh e.1), if_pos (List.all_eq_true.2 a1), a2]
    congr 1
    omega
  · rename_i hn
    obtain ⟨a1, a2, a3⟩ := dec_all n.toNat
    have hl := dec_len 17 n.toNat (by omega)
    have hh := head_dec n.toNat
    have hp : (Lib.decDigits n.toNat).length ≠ 0 := fun e => a3 (List.length_eq_zero_iff.1 e)
    simp only [if_neg hh]
    rw [if_neg (by
      rintro (e | e | ⟨e, e2⟩)
      · exact hp e
      · omega
      · have h00 := dec_head _ e
        rw [h00, hd0] at e2
        rcases e2 with e2 | e2
        · exact absurd e2 (by decide)
        · exact absurd e2 (by decide)), if_pos (List.all_eq_true.2 a1), a2]
    congr 1
    omega
/-- All words as numbers. -/
def numsO (f : List UInt8 → Option Int) : List (List UInt8) → Option (List Int)
  | [] => some []
  | w :: ws => match f w with
    | none => none
    | some n => (numsO f ws).map (n :: ·)
theorem numsO_map {f : List UInt8 → Option Int} : ∀ {ws : List (List UInt8)} {l : List Int}, numsO f ws = some l → ws.length = l.length ∧ ∀ (i : Nat) w, ws[i]? = some w → ∃ n, l[i]? = some n ∧ f w = some n
  | [], l, h => by injection h with h; subst h; exact ⟨rfl, fun i w hw => by cases hw⟩
  | w :: ws, l, h => by
    rw [numsO] at h
    split at h
    · cases h
    · rename_i n hn
      obtain ⟨k, hk, rfl⟩ := Option.map_eq_some_iff.1 h
      obtain ⟨h1, h2⟩ := numsO_map hk
      refine ⟨by simp [h1], fun i v hv => ?_⟩
      cases i with
      | zero => cases hv; exact ⟨n, rfl, hn⟩
      | succ i => exact h2 i v hv
theorem numsO_itoa {f : List UInt8 → Option Int} : ∀ {l : List Int}, (∀ n ∈ l, f (Lib.itoa n) = some n) → numsO f (l.map Lib.itoa) = some l
  | [], _ => rfl
  | n :: l, h => by
    rw [List.map_cons, numsO, h n List.mem_cons_self]
    simp only
    rw [numsO_itoa fun m hm => h m (List.mem_cons_of_mem _ hm)]
    rfl
theorem numsO_back {f : List UInt8 → Option Int} (hf : ∀ w n, f w = some n → w = Lib.itoa n) : ∀ {ws : List (List UInt8)} {l : List Int}, numsO f ws = some l → ws = l.map Lib.itoa
  | [], l, h => by injection h with h; subst h; rfl
  | w :: ws, l, h => by
    rw [numsO] at h
    split at h
    · cases h
    · rename_i n hn
      obtain ⟨k, hk, rfl⟩ := Option.map_eq_some_iff.1 h
      rw [List.map_cons, ← hf w n hn, ← numsO_back hf hk]
theorem numsO_snoc (f : List UInt8 → Option Int) : ∀ (ws : List (List UInt8)) (w : List UInt8), numsO f (ws ++ [w]) = match numsO f ws, f w with
    | some l, some n => some (l ++ [n])
    | _, _ => none
  | [], w => by
    show numsO f [w] = _
    simp only [numsO]
    cases f w <;> rfl
  | v :: ws, w => by
    rw [List.cons_append, numsO, numsO]
    cases f v with
    | none => rfl
    | some m =>
      simp only
      rw [numsO_snoc f ws w]
      cases numsO f ws <;> cases f w <;> rfl
theorem numsO_none (f : List UInt8 → Option Int) : ∀ (ws vs : List (List UInt8)), numsO f ws = none → numsO f (ws ++ vs) = none
  | [], vs, h => by cases h
  | v :: ws, vs, h => by
    rw [List.cons_append, numsO]
    rw [numsO] at h
    cases hv : f v with
    | none => rfl
    | some m =>
      rw [hv] at h
      simp only at h ⊢
      rw [numsO_none f ws vs (by simpa using h)]
      rfl
end Go.Proofs.YtmpoaegdejhbeaaDoor
