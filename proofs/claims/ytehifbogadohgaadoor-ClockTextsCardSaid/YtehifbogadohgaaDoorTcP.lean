/-
  Specs as texts, in plain data: what Format writes, what the program and the reference read of a text, and that both read alike. No program in sight; no condition.
-/
import Derived.Test.YtehifbogadohgaaDoorTcM
import Derived.Test.YtehifbogadohgaaDoorCkMath
namespace Go.Proofs.YtehifbogadohgaaDoor
set_option linter.unusedVariables false
set_option linter.unusedSimpArgs false

structure SpC where
  k : Int
  z : Int
  p : Int
  g : Int
  h : Int
def SpC.ok (s : SpC) : Bool := vspec s.k s.z s.p s.g s.h
def tumW : List UInt8 := [116, 117, 109, 98, 108, 105, 110, 103]
def sliW : List UInt8 := [115, 108, 105, 100, 105, 110, 103]
def sesW : List UInt8 := [115, 101, 115, 115, 105, 111, 110]
def gloW : List UInt8 := [103, 108, 111, 98, 97, 108]
/-- The words of a spec's text. -/
def wdsC (s : SpC) : List (List UInt8) :=
  if s.k = 1 then [tumW, Lib.itoa s.z, Lib.itoa s.h] else if s.k = 2 then [sliW, Lib.itoa s.z, Lib.itoa s.p, Lib.itoa s.h] else if s.k = 3 then [sesW, Lib.itoa s.g] else [gloW]
def fmtC (s : SpC) : List UInt8 := if s.ok then joinL (wdsC s) else []
/-- The number that a word is, to the reference; 0 if it is none. -/
def tailN (w : List UInt8) : List UInt8 := if w.head? = some 45 then w.tail else w
def numV (w : List UInt8) : Int := if (tailN w).all isDg && decide ((tailN w).length ≤ 18) then (if w.head? = some 45 then -(dgs 0 (tailN w) : Int) else (dgs 0 (tailN w) : Int)) else 0
/-- .. and to the program. -/
def atV (w : List UInt8) : Int := match Lib.atoiAll w with
  | .ok v => v
  | .syntax => 0
  | .range => Lib.atoiSat w
theorem dec_len : ∀ (m u : Nat), u < 10 ^ (m + 1) → (Lib.decDigits u).length ≤ m + 1
  | 0, u, h => by rw [Lib.decDigits, dif_pos (by simpa using h)]; simp
  | m + 1, u, h => by
    rw [Lib.decDigits]
    split
    · simp
    · have h2 : u / 10 < 10 ^ (m + 1) := by
        rw [Nat.div_lt_iff_lt_mul (by omega)]
        rw [Nat.pow_succ] at h
        exact h
      have := dec_len m (u / 10) h2
      rw [List.length_append]
      simp
      omega
theorem head_dec (u : Nat) : (Lib.decDigits u).head? ≠ some 45 := fun h => by
  obtain ⟨a1, _, _⟩ := dec_all u
  have := a1 45 (List.mem_of_head? h)
  revert this
  decide
theorem num_itoa (n : Int) (h0 : -1000000000000 ≤ n) (h1 : n ≤ 1000000000000) : numV (Lib.itoa n) = n := by
  unfold numV tailN Lib.itoa
  split
  · rename_i hn
    obtain ⟨a1, a2, a3⟩ := dec_all n.natAbs
    have hl := dec_len 17 n.natAbs (by omega)
    simp only [List.head?_cons, if_true, List.tail_cons]
    rw [if_pos (by rw [Bool.and_eq_true, List.all_eq_true, decide_eq_true_eq]; exact ⟨a1, by omega⟩), a2]
    omega
  · rename_i hn
    obtain ⟨a1, a2, a3⟩ := dec_all n.toNat
    have hl := dec_len 17 n.toNat (by omega)
    have hh := head_dec n.toNat
    simp only [if_neg hh]
    rw [if_pos (by rw [Bool.and_eq_true, List.all_eq_true, decide_eq_true_eq]; exact ⟨a1, by omega⟩), a2]
    omega
theorem at_itoa (n : Int) (h0 : -1000000000000 ≤ n) (h1 : n ≤ 1000000000000) : atV (Lib.itoa n) = n := by
  unfold atV
  rw [atoi_itoa n (by omega) (by omega)]
/-- What the reference makes of a text. -/
def candW : List (List UInt8) → SpC
  | [_] => ⟨4, 0, 0, 0, 0⟩
  | [_, a] => ⟨3, 0, 0, numV a, 0⟩
  | [_, a, b] => ⟨1, numV a, 0, 0, numV b⟩
  | [_, a, b, c] => ⟨2, numV a, numV b, 0, numV c⟩
  | _ => ⟨0, 0, 0, 0, 0⟩
def candR (l : List UInt8) : SpC := candW (wordsL l)
/-- .. and what the program makes of it. -/
def nthP (w : List (List UInt8)) (i : Nat) : Int := if i < min w.length 4 then atV (w.getD i []) else 0
def candV (w : List (List UInt8)) : SpC :=
  if w.headD [] = tumW then ⟨1, nthP w 1, 0, 0, nthP w 2⟩ else if w.headD [] = sliW then ⟨2, nthP w 1, nthP w 2, 0, nthP w 3⟩ else if w.headD [] = sesW then ⟨3, 0, 0, nthP w 1, 0⟩ else ⟨4, 0, 0, 0, 0⟩
def candP (l : List UInt8) : SpC := candV (Lib.split l [32])
theorem itoa_no (n : Int) : ∀ c ∈ Lib.itoa n, c ≠ 32 := by
  have key : ∀ u, ∀ c ∈ Lib.decDigits u, c ≠ 32 := fun u c hc e => by
    have := (dec_all u).1 c hc
    subst e
    revert this
    decide
  unfold Lib.itoa
  split
  · intro c hc
    rcases List.mem_cons.1 hc with rfl | hc
    · decide
    · exact key _ c hc
  · exact key _
theorem wds_no (s : SpC) : ∀ v ∈ wdsC s, ∀ c ∈ v, c ≠ 32 := by
  have k1 : ∀ c ∈ tumW, c ≠ 32 := by decide
  have k2 : ∀ c ∈ sliW, c ≠ 32 := by decide
  have k3 : ∀ c ∈ sesW, c ≠ 32 := by decide
  have k4 : ∀ c ∈ gloW, c ≠ 32 := by decide
  unfold wdsC
  split
  · intro v hv
    simp only [List.mem_cons, List.not_mem_nil, or_false] at hv
    rcases hv with rfl | rfl | rfl
    · exact k1
    · exact itoa_no _
    · exact itoa_no _
  · split
    · intro v hv
      simp only [List.mem_cons, List.not_mem_nil, or_false] at hv
      rcases hv with rfl | rfl | rfl | rfl
      · exact k2
      · exact itoa_no _
      · exact itoa_no _
      · exact itoa_no _
    · split
      · intro v hv
        simp only [List.mem_cons, List.not_mem_nil, or_false] at hv
        rcases hv with rfl | rfl
        · exact k3
        · exact itoa_no _
      · intro v hv
        simp only [List.mem_cons, List.not_mem_nil, or_false] at hv
        rcases hv with rfl
        exact k4
theorem count_join (ws : List (List UInt8)) : ∀ (w : List UInt8), (∀ v ∈ w :: ws, ∀ c ∈ v, c ≠ 32) → (joinL (w :: ws)).count 32 = ws.length := by
  have key : ∀ w : List UInt8, (∀ c ∈ w, c ≠ 32) → w.count 32 = 0 := fun w h => List.count_eq_zero.2 fun hm => h 32 hm rfl
  induction ws with
  | nil => intro w h; exact key w (h w List.mem_cons_self)
  | cons v ws ih =>
    intro w h
    show (w ++ 32 :: joinL (v :: ws)).count 32 = _
    rw [List.count_append, key w (h w List.mem_cons_self), List.count_cons_self, ih v fun x hx => h x (List.mem_cons_of_mem _ hx)]
    simp
theorem split_wds {w : List UInt8} {ws : List (List UInt8)} (h : ∀ v ∈ w :: ws, ∀ c ∈ v, c ≠ 32) : Lib.split (joinL (w :: ws)) [32] = w :: ws := by
  unfold Lib.split
  rw [Lib.count_one, count_join ws w h]
  exact split_join ws w h
theorem wds_cons (s : SpC) : ∃ w ws, wdsC s = w :: ws := by
  unfold wdsC
  split
  · exact ⟨_, _, rfl⟩
  · split
    · exact ⟨_, _, rfl⟩
    · split
      · exact ⟨_, _, rfl⟩
      · exact ⟨_, _, rfl⟩
theorem words_fmt {s : SpC} (h : s.ok = true) : wordsL (fmtC s) = wdsC s ∧ Lib.split (fmtC s) [32] = wdsC s := by
  obtain ⟨w, ws, e⟩ := wds_cons s
  have hno := wds_no s
  unfold fmtC
  rw [if_pos h]
  rw [e] at hno ⊢
  exact ⟨words_join hno, split_wds hno⟩
theorem candR_fmt {s : SpC} (h : s.ok = true) : candR (fmtC s) = s := by
  unfold candR
  rw [(words_fmt h).1]
  obtain ⟨k, z, p, g, h'⟩ := s
  unfold SpC.ok vspec at h
  have h := of_decide_eq_true h
  simp only at h
  unfold wdsC
  simp only
  rcases h with ⟨rfl, _, _, _, _, rfl, rfl⟩ | ⟨rfl, _, _, _, _, _, _, _, rfl⟩ | ⟨rfl, _, _, rfl, rfl, rfl⟩ | ⟨rfl, rfl, rfl, rfl, rfl⟩
  · rw [if_pos rfl]
    show (⟨1, numV _, 0, 0, numV _⟩ : SpC) = _
    rw [num_itoa z (by omega) (by omega), num_itoa h' (by omega) (by omega)]
  · rw [if_neg (by omega), if_pos rfl]
    show (⟨2, numV _, numV _, 0, numV _⟩ : SpC) = _
    rw [num_itoa z (by omega) (by omega), num_itoa p (by omega) (by omega), num_itoa h' (by omega) (by omega)]
  · rw [if_neg (by omega), if_neg (by omega), if_pos rfl]
    show (⟨3, 0, 0, numV _, 0⟩ : SpC) = _
    rw [num_itoa g (by omega) (by omega)]
  · rw [if_neg (by omega), if_neg (by omega), if_neg (by omega)]
    rfl
theorem candP_fmt {s : SpC} (h : s.ok = true) : candP (fmtC s) = s := by
  unfold candP
  rw [(words_fmt h).2]
  obtain ⟨k, z, p, g, h'⟩ := s
  unfold SpC.ok vspec at h
  have h := of_decide_eq_true h
  simp only at h
  unfold wdsC
  simp only
  have d1 : sliW ≠ tumW := by decide
  have d2 : sesW ≠ tumW := by decide
  have d3 : sesW ≠ sliW := by decide
  have d4 : gloW ≠ tumW := by decide
  have d5 : gloW ≠ sliW := by decide
  have d6 : gloW ≠ sesW := by decide
  rcases h with ⟨rfl, _, _, _, _, rfl, rfl⟩ | ⟨rfl, _, _, _, _, _, _, _, rfl⟩ | ⟨rfl, _, _, rfl, rfl, rfl⟩ | ⟨rfl, rfl, rfl, rfl, rfl⟩
  · rw [if_pos rfl]
    unfold candV
    rw [if_pos (show List.headD [tumW, Lib.itoa z, Lib.itoa h'] [] = tumW from rfl)]
    show (⟨1, atV (Lib.itoa z), 0, 0, atV (Lib.itoa h')⟩ : SpC) = _
    rw [at_itoa z (by omega) (by omega), at_itoa h' (by omega) (by omega)]
  · rw [if_neg (by omega), if_pos rfl]
    unfold candV
    rw [if_neg (show ¬ List.headD [sliW, Lib.itoa z, Lib.itoa p, Lib.itoa h'] [] = tumW from d1), if_pos (show List.headD [sliW, Lib.itoa z, Lib.itoa p, Lib.itoa h'] [] = sliW from rfl)]
    show (⟨2, atV (Lib.itoa z), atV (Lib.itoa p), 0, atV (Lib.itoa h')⟩ : SpC) = _
    rw [at_itoa z (by omega) (by omega), at_itoa p (by omega) (by omega), at_itoa h' (by omega) (by omega)]
  · rw [if_neg (by omega), if_neg (by omega), if_pos rfl]
    unfold candV
    rw [if_neg (show ¬ List.headD [sesW, Lib.itoa g] [] = tumW from d2), if_neg (show ¬ List.headD [sesW, Lib.itoa g] [] = sliW from d3), if_pos (show List.headD [sesW, Lib.itoa g] [] = sesW from rfl)]
    show (⟨3, 0, 0, atV (Lib.itoa g), 0⟩ : SpC) = _
    rw [at_itoa g (by omega) (by omega)]
  · rw [if_neg (by omega), if_neg (by omega), if_neg (by omega)]
    unfold candV
    rw [if_neg (show ¬ List.headD [gloW] [] = tumW from d4), if_neg (show ¬ List.headD [gloW] [] = sliW from d5), if_neg (show ¬ List.headD [gloW] [] = sesW from d6)]
/-- What is read of a text, by a guess. -/
def parseG (cand : List UInt8 → SpC) (l : List UInt8) : SpC × Int := if l ≠ [] ∧ fmtC (cand l) = l then (cand l, 0) else (⟨0, 0, 0, 0, 0⟩, 2)
theorem fmt_ok {s : SpC} (h : fmtC s ≠ []) : s.ok = true := by
  unfold fmtC at h
  cases e : s.ok
  · rw [e] at h; exact absurd rfl h
  · rfl
theorem parse_same (l : List UInt8) : parseG candP l = parseG candR l := by
  unfold parseG
  by_cases h0 : l = []
  · rw [if_neg (fun h => h.1 h0), if_neg (fun h => h.1 h0)]
  · by_cases h1 : fmtC (candP l) = l
    · have ok := fmt_ok (s := candP l) (by rw [h1]; exact h0)
      have e : candR l = candP l := by
        have := candR_fmt ok
        rwa [h1] at this
      rw [e]
    · by_cases h2 : fmtC (candR l) = l
      · have ok := fmt_ok (s := candR l) (by rw [h2]; exact h0)
        have e : candP l = candR l := by
          have := candP_fmt ok
          rwa [h2] at this
        rw [e] at h1
        exact absurd h2 h1
      · rw [if_neg (fun h => h1 h.2), if_neg (fun h => h2 h.2)]
theorem parse_back {s : SpC} (h : s.ok = true) : parseG candP (fmtC s) = (s, 0) := by
  have hne : fmtC s ≠ [] := by
    unfold fmtC
    rw [if_pos h]
    obtain ⟨w, ws, e⟩ := wds_cons s
    rw [e]
    have hw : w ≠ [] := by
      unfold wdsC at e
      split at e
      · injection e with e _; subst e; decide
      · split at e
        · injection e with e _; subst e; decide
        · split at e
          · injection e with e _; subst e; decide
          · injection e with e _; subst e; decide
    cases ws with
    | nil => exact hw
    | cons v ws =>
      show w ++ 32 :: joinL (v :: ws) ≠ []
      simp
  unfold parseG
  rw [candP_fmt h, if_pos ⟨hne, rfl⟩]
end Go.Proofs.YtehifbogadohgaaDoor
