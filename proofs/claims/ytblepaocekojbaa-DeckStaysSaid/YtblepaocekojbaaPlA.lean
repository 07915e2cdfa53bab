/-
  Places: what Least, Placed and Right compute, in plain numbers.
  A map that a call makes, told as a function from keys to the values it holds, whatever the values are. Plain theorems over any program.
  The walks of deck.grouped, deck.machines and slices.Max, with their closures.
  The walks of deck.widths and deck.Least.
  The walks of the reference's most, grouped, counts, needs, Least and slotted.
  The walks of within on both sides, and of the reference's Right.
  The walk of the reference's Right.
-/
import Derived.Test.YtblepaocekojbaaDkP
import Derived.Test.YtblepaocekojbaaMem
import Derived.Maps.Own
import Derived.Maps.OwnSet
import Derived.MapViews
import Derived.Test.YtblepaocekojbaaDkV
import Derived.Test.YtblepaocekojbaaDkRg
import Derived.Laws.ResultCell
import Derived.Laws.NewBlocks
import Derived.Laws.Tables
import Derived.Laws.CopyOwn
import Derived.Test.YtblepaocekojbaaDkC
import Derived.Test.YtblepaocekojbaaQbw
namespace Go.Proofs.Ytblepaocekojbaa

section

/-- How many of the first k tasks have operator o. -/
def cntO (op : Nat → Nat) : Nat → Nat → Nat
  | 0, _ => 0
  | k + 1, o => if op k = o then cntO op k o + 1 else cntO op k o
/-- How many slots group j needs for the first k tasks. -/
def widO (op gr : Nat → Nat) : Nat → Nat → Nat
  | 0, _ => 0
  | k + 1, j => if gr (op k) = j then max (widO op gr k j) (cntO op (k + 1) (op k)) else widO op gr k j
theorem cntO_succ (op : Nat → Nat) (k o : Nat) : cntO op (k + 1) o = if op k = o then cntO op k o + 1 else cntO op k o := rfl
theorem widO_succ (op gr : Nat → Nat) (k j : Nat) : widO op gr (k + 1) j = if gr (op k) = j then max (widO op gr k j) (cntO op (k + 1) (op k)) else widO op gr k j := rfl
theorem cntO_mono (op : Nat → Nat) {a b : Nat} (h : a ≤ b) (o : Nat) : cntO op a o ≤ cntO op b o := by
  induction b with
  | zero => obtain rfl : a = 0 := by omega
            exact Nat.le_refl _
  | succ b ih =>
    by_cases e : a = b + 1
    · subst e; exact Nat.le_refl _
    · have := ih (by omega)
      rw [cntO_succ]
      split <;> omega
theorem cntO_le (op : Nat → Nat) (k o : Nat) : cntO op k o ≤ k := by
  induction k with
  | zero => exact Nat.le_refl _
  | succ k ih => rw [cntO_succ]; split <;> omega
theorem widO_le_k (op gr : Nat → Nat) (k j : Nat) : widO op gr k j ≤ k := by
  induction k with
  | zero => exact Nat.le_refl _
  | succ k ih =>
    rw [widO_succ]
    have := cntO_le op (k + 1) (op k)
    split <;> omega
theorem widO_ge (op gr : Nat → Nat) (k o : Nat) : cntO op k o ≤ widO op gr k (gr o) := by
  induction k with
  | zero => exact Nat.le_refl _
  | succ k ih =>
    rw [widO_succ]
    by_cases e : op k = o
    · subst e
      rw [if_pos rfl]
      exact Nat.le_max_right _ _
    · rw [cntO_succ, if_neg e]
      split <;> omega
theorem widO_le (op gr : Nat → Nat) {k n j M : Nat} (hk : k ≤ n) (h : ∀ t, t < k → gr (op t) = j → cntO op n (op t) ≤ M) : widO op gr k j ≤ M := by
  induction k with
  | zero => exact Nat.zero_le _
  | succ k ih =>
    have h1 := ih (by omega) fun t ht => h t (by omega)
    rw [widO_succ]
    by_cases e : gr (op k) = j
    · rw [if_pos e]
      have h2 := h k (by omega) e
      have h3 := cntO_mono op hk (op k)
      omega
    · rw [if_neg e]; exact h1
/-- Sums. -/
def offW (W : Nat → Nat) : Nat → Nat
  | 0 => 0
  | j + 1 => offW W j + W j
theorem offW_succ (W : Nat → Nat) (j : Nat) : offW W (j + 1) = offW W j + W j := rfl
theorem offW_mono (W : Nat → Nat) {a b : Nat} (h : a ≤ b) : offW W a ≤ offW W b := by
  induction b with
  | zero => obtain rfl : a = 0 := by omega
            exact Nat.le_refl _
  | succ b ih =>
    by_cases e : a = b + 1
    · subst e; exact Nat.le_refl _
    · have := ih (by omega)
      rw [offW_succ]; omega
theorem offW_congr {W V : Nat → Nat} {n : Nat} (h : ∀ i, i < n → W i = V i) : offW W n = offW V n := by
  induction n with
  | zero => rfl
  | succ n ih => rw [offW_succ, offW_succ, ih fun i hi => h i (by omega), h n (by omega)]
theorem offW_le {W V : Nat → Nat} {n : Nat} (h : ∀ i, i < n → W i ≤ V i) : offW W n ≤ offW V n := by
  induction n with
  | zero => exact Nat.le_refl _
  | succ n ih => have := ih fun i hi => h i (by omega)
                 have := h n (by omega)
                 rw [offW_succ, offW_succ]; omega
theorem offW_bound {W : Nat → Nat} {n M : Nat} (h : ∀ i, i < n → W i ≤ M) : offW W n ≤ n * M := by
  induction n with
  | zero => simp [offW]
  | succ n ih => have := ih fun i hi => h i (by omega)
                 have := h n (by omega)
                 rw [offW_succ, Nat.succ_mul]; omega
theorem offW_inj {W : Nat → Nat} {j j' s s' : Nat} (h : offW W j + s = offW W j' + s') (hs : s < W j) (hs' : s' < W j') : j = j' ∧ s = s' := by
  rcases Nat.lt_trichotomy j j' with h1 | h1 | h1
  · have := offW_mono W (show j + 1 ≤ j' from h1)
    rw [offW_succ] at this
    omega
  · subst h1; exact ⟨rfl, by omega⟩
  · have := offW_mono W (show j' + 1 ≤ j from h1)
    rw [offW_succ] at this
    omega
theorem offW_find {W : Nat → Nat} {G i : Nat} (h : i < offW W G) : ∃ j s, j < G ∧ s < W j ∧ i = offW W j + s := by
  induction G with
  | zero => exact absurd h (Nat.not_lt_zero _)
  | succ G ih =>
    by_cases h1 : i < offW W G
    · obtain ⟨j, s, h2, h3⟩ := ih h1
      exact ⟨j, s, by omega, h3⟩
    · rw [offW_succ] at h
      exact ⟨G, i - offW W G, by omega, by omega, by omega⟩
/-- The first of the first m machines that has most slots left. -/
def bestM (S U : Nat → Nat) : Nat → Nat
  | 0 => 0
  | m + 1 => if (S (bestM S U m) : Int) - U (bestM S U m) < (S m : Int) - U m then m else bestM S U m
theorem bestM_succ (S U : Nat → Nat) (m : Nat) : bestM S U (m + 1) = if (S (bestM S U m) : Int) - U (bestM S U m) < (S m : Int) - U m then m else bestM S U m := rfl
theorem bestM_one (S U : Nat → Nat) : bestM S U 1 = 0 := by
  rw [bestM_succ]
  show (if (S 0 : Int) - U 0 < (S 0 : Int) - U 0 then 0 else 0) = 0
  split <;> rfl
theorem bestM_lt (S U : Nat → Nat) {m : Nat} (h : 0 < m) : bestM S U m < m := by
  induction m with
  | zero => omega
  | succ m ih =>
    rw [bestM_succ]
    split
    · omega
    · by_cases e : m = 0
      · subst e; exact Nat.zero_lt_one
      · have := ih (by omega); omega
theorem bestM_max (S U : Nat → Nat) {m i : Nat} (h : i < m) : (S i : Int) - U i ≤ (S (bestM S U m) : Int) - U (bestM S U m) := by
  induction m with
  | zero => omega
  | succ m ih =>
    rw [bestM_succ]
    by_cases e : i = m
    · subst e; split <;> omega
    · have := ih (by omega); split <;> omega
/-- How many slots of each machine are used behind i steps. -/
def usedS (S : Nat → Nat) (N : Nat) : Nat → Nat → Nat
  | 0, _ => 0
  | i + 1, m => if m = bestM S (usedS S N i) N then usedS S N i m + 1 else usedS S N i m
def pickS (S : Nat → Nat) (N i : Nat) : Nat := bestM S (usedS S N i) N
theorem usedS_succ (S : Nat → Nat) (N i m : Nat) : usedS S N (i + 1) m = if m = pickS S N i then usedS S N i m + 1 else usedS S N i m := rfl
theorem usedS_mono (S : Nat → Nat) (N : Nat) {a b : Nat} (h : a ≤ b) (m : Nat) : usedS S N a m ≤ usedS S N b m := by
  induction b with
  | zero => obtain rfl : a = 0 := by omega
            exact Nat.le_refl _
  | succ b ih =>
    by_cases e : a = b + 1
    · subst e; exact Nat.le_refl _
    · have := ih (by omega)
      rw [usedS_succ]
      split <;> omega
theorem usedS_le (S : Nat → Nat) (N i m : Nat) : usedS S N i m ≤ i := by
  induction i with
  | zero => exact Nat.le_refl _
  | succ i ih => rw [usedS_succ]; split <;> omega
theorem sum_bump (U : Nat → Nat) (b : Nat) : ∀ n, offW (fun m => if m = b then U m + 1 else U m) n = offW U n + (if b < n then 1 else 0)
  | 0 => rfl
  | n + 1 => by
    rw [offW_succ, offW_succ, sum_bump U b n]
    by_cases e : n = b
    · subst e
      rw [if_pos rfl, if_neg (by omega), if_pos (by omega)]
      omega
    · rw [if_neg e]
      by_cases h : b < n
      · rw [if_pos h, if_pos (by omega)]; omega
      · rw [if_neg h, if_neg (by omega)]; omega
theorem usedS_sum (S : Nat → Nat) {N : Nat} (hN : 0 < N) (i : Nat) : offW (usedS S N i) N = i := by
  induction i with
  | zero => exact Nat.le_zero.1 (Nat.le_trans (offW_bound (M := 0) fun _ _ => Nat.le_refl _) (by simp))
  | succ i ih =>
    have h := sum_bump (usedS S N i) (pickS S N i) N
    rw [if_pos (show pickS S N i < N from bestM_lt S _ hN), ih] at h
    exact h
/-- As long as there are slots, the picked machine has one left. -/
theorem pick_free (S : Nat → Nat) {N i : Nat} (hN : 0 < N) (h : i < offW S N) : usedS S N i (pickS S N i) < S (pickS S N i) := by
  by_cases hc : usedS S N i (pickS S N i) < S (pickS S N i)
  · exact hc
  · exfalso
    have h1 : offW S N ≤ offW (usedS S N i) N := offW_le fun m hm => by
      have := bestM_max S (usedS S N i) hm
      unfold pickS at hc
      omega
    rw [usedS_sum S hN] at h1
    omega
/-- The place of step i. -/
def plP (S : Nat → Nat) (N i : Nat) : Pl := ⟨(pickS S N i : Nat), (usedS S N i (pickS S N i) : Nat)⟩
theorem plP_inj (S : Nat → Nat) (N : Nat) {i j : Nat} (h : plP S N i = plP S N j) : i = j := by
  have key : ∀ a b, a < b → plP S N a ≠ plP S N b := by
    intro a b hab e
    unfold plP at e
    injection e with e1 e2
    have e1' : pickS S N a = pickS S N b := by omega
    rw [← e1'] at e2
    have h1 := usedS_mono S N (show a + 1 ≤ b from hab) (pickS S N a)
    rw [usedS_succ, if_pos rfl] at h1
    omega
  rcases Nat.lt_trichotomy i j with h1 | h1 | h1
  · exact absurd h (key i j h1)
  · exact h1
  · exact absurd h.symm (key j i h1)
/-- The step that gives task t its place. -/
def idxT (op gr W : Nat → Nat) (t : Nat) : Nat := offW W (gr (op t)) + cntO op t (op t)
theorem cnt_lt_wid (op gr : Nat → Nat) {n t : Nat} (h : t < n) : cntO op t (op t) < widO op gr n (gr (op t)) := by
  have h1 := widO_ge op gr n (op t)
  have h2 := cntO_mono op (show t + 1 ≤ n from h) (op t)
  rw [cntO_succ, if_pos rfl] at h2
  omega
theorem idxT_lt (op gr : Nat → Nat) {n t G : Nat} (h : t < n) (hG : gr (op t) < G) : idxT op gr (widO op gr n) t < offW (widO op gr n) G := by
  have h1 := cnt_lt_wid op gr h
  have h2 := offW_mono (widO op gr n) (show gr (op t) + 1 ≤ G from hG)
  rw [offW_succ] at h2
  unfold idxT
  omega
theorem idxT_inj (op gr : Nat → Nat) {n t u : Nat} (ht : t < n) (hu : u < n) (h : idxT op gr (widO op gr n) t = idxT op gr (widO op gr n) u) : gr (op t) = gr (op u) ∧ cntO op t (op t) = cntO op u (op u) :=
  offW_inj h (cnt_lt_wid op gr ht) (cnt_lt_wid op gr hu)
theorem idxT_apart (op gr : Nat → Nat) {n t u : Nat} (ht : t < n) (hu : u < t) (h : idxT op gr (widO op gr n) t = idxT op gr (widO op gr n) u) : op t ≠ op u ∧ gr (op t) = gr (op u) := by
  obtain ⟨h1, h2⟩ := idxT_inj op gr ht (by omega) h
  refine ⟨fun e => ?_, h1⟩
  have h3 := cntO_mono op (show u + 1 ≤ t from hu) (op u)
  rw [cntO_succ, if_pos rfl] at h3
  rw [e] at h2
  omega
theorem cnt_find (op : Nat → Nat) {n o s : Nat} (h : s < cntO op n o) : ∃ t, t < n ∧ op t = o ∧ cntO op t o = s := by
  induction n with
  | zero => exact absurd h (Nat.not_lt_zero _)
  | succ n ih =>
    rw [cntO_succ] at h
    by_cases e : op n = o
    · rw [if_pos e] at h
      by_cases h1 : s < cntO op n o
      · obtain ⟨t, h2, h3⟩ := ih h1
        exact ⟨t, by omega, h3⟩
      · exact ⟨n, by omega, e, by omega⟩
    · rw [if_neg e] at h
      obtain ⟨t, h2, h3⟩ := ih h
      exact ⟨t, by omega, h3⟩
theorem idxT_onto (op gr : Nat → Nat) {n G i : Nat} (h : i < offW (widO op gr n) G) : ∃ t, t < n ∧ idxT op gr (widO op gr n) t = i := by
  obtain ⟨j, s, hj, hs, rfl⟩ := offW_find h
  have : ∃ t, t < n ∧ gr (op t) = j ∧ s < cntO op n (op t) := by
    refine Classical.byContradiction fun hc => ?_
    have := widO_le op gr (k := n) (n := n) (j := j) (M := s) (Nat.le_refl _) fun t ht hg => by
      refine Nat.le_of_not_lt fun hlt => hc ⟨t, ht, hg, hlt⟩
    omega
  obtain ⟨t, ht, hg, hlt⟩ := this
  obtain ⟨u, hu, ho, hc⟩ := cnt_find op hlt
  refine ⟨u, hu, ?_⟩
  unfold idxT
  rw [ho, hg, hc]
/-- The places of a list, each once. -/
def ddP (f : Nat → Pl) : Nat → List Pl
  | 0 => []
  | k + 1 => if f k ∈ ddP f k then ddP f k else ddP f k ++ [f k]
theorem ddP_succ (f : Nat → Pl) (k : Nat) : ddP f (k + 1) = if f k ∈ ddP f k then ddP f k else ddP f k ++ [f k] := rfl
theorem ddP_mem (f : Nat → Pl) (k : Nat) (x : Pl) : x ∈ ddP f k ↔ ∃ t, t < k ∧ f t = x := by
  induction k with
  | zero => exact ⟨fun h => (by cases h), fun ⟨t, h, _⟩ => absurd h (Nat.not_lt_zero _)⟩
  | succ k ih =>
    have key : (∃ t, t < k + 1 ∧ f t = x) ↔ (∃ t, t < k ∧ f t = x) ∨ f k = x := by
      constructor
      · rintro ⟨t, h1, h2⟩
        by_cases e : t = k
        · subst e; exact .inr h2
        · exact .inl ⟨t, by omega, h2⟩
      · rintro (⟨t, h1, h2⟩ | h)
        · exact ⟨t, by omega, h2⟩
        · exact ⟨k, by omega, h⟩
    rw [key, ddP_succ, ← ih]
    by_cases h : f k ∈ ddP f k
    · rw [if_pos h]
      exact ⟨.inl, fun h2 => h2.elim id fun e => e ▸ h⟩
    · rw [if_neg h, List.mem_append, List.mem_singleton]
      exact ⟨fun h2 => h2.imp id Eq.symm, fun h2 => h2.imp id Eq.symm⟩
theorem ddP_nodup (f : Nat → Pl) (k : Nat) : (ddP f k).Nodup := by
  induction k with
  | zero => exact List.nodup_nil
  | succ k ih =>
    rw [ddP_succ]
    by_cases h : f k ∈ ddP f k
    · rw [if_pos h]; exact ih
    · rw [if_neg h, List.nodup_append]
      refine ⟨ih, List.pairwise_singleton _ _, fun a ha b hb e => ?_⟩
      rw [List.mem_singleton] at hb
      exact h (hb ▸ e ▸ ha)
theorem ddP_len (f : Nat → Pl) (k : Nat) : (ddP f k).length ≤ k := by
  induction k with
  | zero => exact Nat.le_refl _
  | succ k ih =>
    rw [ddP_succ]
    split
    · omega
    · rw [List.length_append, List.length_singleton]; omega
theorem nodup_perm {a b : List Pl} (ha : a.Nodup) (hb : b.Nodup) (h : ∀ x, x ∈ a ↔ x ∈ b) : a.Perm b := by
  rw [List.perm_iff_count]
  intro x
  rw [ha.count, hb.count]
  by_cases e : x ∈ a
  · rw [if_pos e, if_pos ((h x).1 e)]
  · rw [if_neg e, if_neg fun k => e ((h x).2 k)]
theorem range_map_nodup {f : Nat → Pl} (hf : ∀ i j, f i = f j → i = j) (n : Nat) : ((List.range n).map f).Nodup := by
  unfold List.Nodup
  rw [List.pairwise_map]
  have h := List.nodup_range (n := n)
  exact h.imp fun hne e => hne (hf _ _ e)
theorem dd_count (S op gr : Nat → Nat) (N n G : Nat) (hG : ∀ t, t < n → gr (op t) < G) :
    (ddP (fun t => plP S N (idxT op gr (widO op gr n) t)) n).length = offW (widO op gr n) G := by
  have h := nodup_perm (ddP_nodup (fun t => plP S N (idxT op gr (widO op gr n) t)) n) (range_map_nodup (fun _ _ => plP_inj S N) (offW (widO op gr n) G)) fun x => by
    rw [ddP_mem, List.mem_map]
    constructor
    · rintro ⟨t, ht, rfl⟩
      exact ⟨_, by rw [List.mem_range]; exact idxT_lt op gr ht (hG t ht), rfl⟩
    · rintro ⟨i, hi, rfl⟩
      rw [List.mem_range] at hi
      obtain ⟨t, ht, e⟩ := idxT_onto op gr hi
      exact ⟨t, ht, by show plP S N (idxT op gr (widO op gr n) t) = _; rw [e]⟩
  rw [h.length_eq]
  simp
end

section
open Go.RowKit Go.Maps

/-- A value as it lies in a map: a token for itself. -/
def Rv (v : Value) : Option (DataW Value × List MemPlace) := some (.held v, [])
/-- Block b of w is a map of at most n entries that holds F. -/
def MapF (w : World) (P : Program) (k : TypeId) (b n : Nat) (F : Lit → Option Value) : Prop :=
  ∃ D : DataW Value, w.ownsMap P k Rv b n D ∧ IsMap D ∧ (∀ kl, Maps.has D kl = (F kl).isSome) ∧ ∀ kl z, D.atKey kl z = match F kl with | some v => .held v | none => z

section
variable {P : Program} {w w' : World} {k : TypeId} {b n : Nat} {F : Lit → Option Value}
theorem MapF.made (w : World) (P : Program) (k : TypeId) : MapF (w.alloc (.map #[] 0)) P k w.heap.size 0 (fun _ => none) :=
  ⟨.map [], World.ownsMap_made _ _ _ _, isMap_empty, fun _ => rfl, fun _ _ => rfl⟩
theorem MapF.kept {row : Option Nat} (h : MapF w P k b n F) (hg : w.grownBy w' row) (hne : some b ≠ row) : MapF w' P k b n F := by
  obtain ⟨D, h1, h2⟩ := h
  exact ⟨D, h1.kept hg hne, h2⟩
theorem MapF.alloc (h : MapF w P k b n F) (o : Obj) : MapF (w.alloc o) P k b n F := by
  obtain ⟨D, h1, h2⟩ := h
  exact ⟨D, h1.alloc o, h2⟩
theorem MapF.drew (h : MapF w P k b n F) : MapF w.drew P k b n F := h
theorem MapF.drewN (h : MapF w P k b n F) (m : Nat) : MapF (w.drewN m) P k b n F := h
theorem MapF.mono (h : MapF w P k b n F) {m : Nat} (hm : n ≤ m) : MapF w P k b m F := by
  obtain ⟨D, h1, h2⟩ := h
  exact ⟨D, h1.mono hm, h2⟩
theorem MapF.lt (h : MapF w P k b n F) : b < w.heap.size := by
  obtain ⟨D, h1, _⟩ := h
  exact h1.lt
theorem MapF.setCell (h : MapF w P k b n F) {a : Addr} (ha : b ≠ a.block) (u : Value) : MapF (w.setCell a u) P k b n F := by
  obtain ⟨D, h1, h2⟩ := h
  exact ⟨D, h1.setCell ha u, h2⟩
theorem MapF.block (h : MapF w P k b n F) (hk : w'.heap[b]? = w.heap[b]?) : MapF w' P k b n F := by
  obtain ⟨D, ⟨es, clock, h1, h2⟩, h3⟩ := h
  exact ⟨D, ⟨es, clock, hk.trans h1, h2⟩, h3⟩
theorem MapF.below {B : Nat} (h : MapF w P k b n F) (hb : Below B w w') (hlt : b < B) : MapF w' P k b n F := h.block (hb.block b hlt)
theorem MapF.look {t e : TypeId} (h : MapF w P k b n F) (K : Keyed P k) (ht : P.underlying t = some (.map k e)) {z : Value} (hz : (zeroValue e).run P w = .ok z w) {key : Value} {kl : Lit} (hkey : keyOf P k key = some kl) :
    (Instr.lookup t (.map (some b)) key false).run P w = .ok ((F kl).getD z) w := by
  obtain ⟨D, h1, h2, h3, h4⟩ := h
  obtain ⟨v, ps, hrun, hv⟩ := h1.lookup K ht hz (show Rv z = some (.held z, []) from rfl) hkey
  rw [h4] at hv
  rw [hrun]
  congr 1
  unfold Rv at hv
  cases hF : F kl with
  | none => rw [hF] at hv; simp at hv; exact hv.1
  | some u => rw [hF] at hv; simp at hv; exact hv.1
theorem MapF.look_ok {t e : TypeId} (h : MapF w P k b n F) (K : Keyed P k) (ht : P.underlying t = some (.map k e)) {z : Value} (hz : (zeroValue e).run P w = .ok z w) {key : Value} {kl : Lit} (hkey : keyOf P k key = some kl) :
    (Instr.lookup t (.map (some b)) key true).run P w = .ok (.tuple #[(F kl).getD z, .bool (F kl).isSome]) w := by
  obtain ⟨D, h1, h2, h3, h4⟩ := h
  obtain ⟨v, ps, hrun, hv⟩ := h1.look_ok K ht hz (show Rv z = some (.held z, []) from rfl) hkey
  rw [h4] at hv
  rw [hrun, h3]
  congr 2
  unfold Rv at hv
  cases hF : F kl with
  | none => rw [hF] at hv; simp at hv; rw [hv.1]; rfl
  | some u => rw [hF] at hv; simp at hv; rw [hv.1]; rfl
open Classical in
/-- One entry more. -/
noncomputable def putF (F : Lit → Option Value) (kl : Lit) (v : Value) : Lit → Option Value := fun x => if x = kl then some v else F x
theorem wpList_putF (w : World) {ops : Array Oper} {rest : List Oper} {o : Oper} {a : Act} {Q : Exit → Act → World → Prop} {b n : Nat} {F : Lit → Option Value} (hg : o.guard = none) (m x v : Operand) (t : TypeId) (hop : o.op = Op.mapUpdate t m x v) (k e : TypeId) (K : Keyed P k) (ht : P.underlying t = some (.map k e))
    (h : MapF w P k b n F) (hn : n < maxLen) (key val : Value) (kl : Lit) (hm : a.eval m = .map (some b)) (hx : a.eval x = key) (hv : a.eval v = val) (hkey : keyOf P k key = some kl)
    (hK : ∀ w', MapF w' P k b (n + 1) (putF F kl val) → w.grownBy w' (some b) → wpList P ops Q rest (a.put o.dst undef) w') : wpList P ops Q (o :: rest) a w := by
  obtain ⟨D, h1, h2, h3, h4⟩ := h
  refine wpList_mapUpdate_own w hg m x v t hop k e K ht Rv b n D hm h1 hn key val kl hx hv hkey (.held val) [] rfl ?_
  intro w' ho hgr
  refine hK w' ⟨_, ho, h2.put _ _, ?_, ?_⟩ hgr
  · intro y
    unfold putF
    by_cases e : y = kl
    · subst e
      rw [if_pos rfl, has_put_same h2 (K.key hkey)]
      rfl
    · rw [if_neg e, has_put_other e, h3]
  · intro y z
    unfold putF
    by_cases e : y = kl
    · subst e
      rw [if_pos rfl, atKey_put_same h2 (K.key hkey)]
    · rw [if_neg e, atKey_put_other e, h4]
end
end

section
open Go.RowKit Go.Shelf
attribute [local go_sem] Oper.semAt_some
set_option linter.unusedVariables false

/-- A number of slots that a machine does not have. -/
def badS (t : Int) : Bool := decide (t < 1) || decide (16 < t)
theorem grp1_any (t : Int) (w : World) :
    Calls Try.prog 88 #[.int .i64 t] w fun e w' => e = .returned (.bool (outT 200 t)) ∧ w = w' := by
  by_cases h : t < 0
  · have hd : outT 200 t = true := by simp [outT, h]
    rw [hd]
    go_enter Try.func88, Try.ntmps88
    go_wp2
    go_ret
    exact ⟨rfl, rfl⟩
  · have hd : outT 200 t = decide ((200 : Int) ≤ t) := by simp [outT, h]
    rw [hd]
    go_enter Try.func88, Try.ntmps88
    go_wp2
    go_ret
    exact ⟨rfl, rfl⟩
set_option maxHeartbeats 1000000 in
theorem idx_grp (A : Option Addr) (n c B : Nat) (xs : List Int) (w : World) (hx : Reads w B 1 A n (xs.map (Value.int .i64))) (hn : n ≤ 9223372036854775807) :
    Calls Try.prog 87 #[.slice A n c, .func (Fn.func 88) #[] #[]] w fun e w' => (∃ i : Int, e = .returned (.int .i64 i) ∧ decide (0 ≤ i) = xs.any (outT 200)) ∧ w = w' := by
  have HL := hide hx.len1
  go_enter Try.func87, Try.ntmps87
  go_wp2
  go_loop [8] (fun i => ∃ k : Nat, k ≤ n ∧ i = .int .i64 k ∧ (xs.take k).any (outT 200) = false) (fun i => n - (intOf i).toNat)
  case atStart => exact ⟨0, Nat.zero_le _, rfl, rfl⟩
  case round =>
    obtain ⟨k, hk, rfl, hany⟩ := hrel
    have HA := hide hany
    clear hany
    by_cases hlt : k < n
    · obtain ⟨b, off, x, rfl, hb, hxk, hc⟩ := hx.at1 hlt
      have HXK := hide hxk
      clear hxk
      cases hq : outT 200 x
      · have HQ := hide hq
        go_wp2_with (go_at_call 88; refine (grp1_any _ _).mono ?_; rintro e w' ⟨rfl, rfl⟩)
        go_round
        case rel => exact ⟨k + 1, by omega, by go_num, any_take' _ _ _ _ HXK.out HQ.out HA.out⟩
        case measure => simp [intOf]; omega
      · have HQ := hide hq
        go_wp2_with (go_at_call 88; refine (grp1_any _ _).mono ?_; rintro e w' ⟨rfl, rfl⟩)
        go_ret
        exact ⟨⟨_, rfl, by rw [any_hit _ _ _ _ HXK.out HQ.out]; simp⟩, rfl⟩
    · obtain rfl : k = n := by omega
      go_wp2
      go_ret
      exact ⟨⟨_, rfl, by
        have := HA.out
        rw [take_all HL.out] at this
        rw [this]; rfl⟩, rfl⟩
theorem con_grp (A : Option Addr) (n c B : Nat) (xs : List Int) (w : World) (hx : Reads w B 1 A n (xs.map (Value.int .i64))) (hn : n ≤ 9223372036854775807) :
    Calls Try.prog 61 #[.slice A n c, .func (Fn.func 88) #[] #[]] w fun e w' => e = .returned (.bool (xs.any (outT 200))) ∧ w = w' := by
  go_enter Try.func61, Try.ntmps61
  go_wp2_with (go_at_call 87; refine (idx_grp A n c B xs _ hx hn).mono ?_; rintro e w' ⟨⟨i, rfl, hi⟩, rfl⟩)
  go_ret
  exact ⟨rfl, rfl⟩
theorem mach1_any (t : Int) (w : World) :
    Calls Try.prog 91 #[.int .i64 t] w fun e w' => e = .returned (.bool (badS t)) ∧ w = w' := by
  by_cases h : t < 1
  · have hd : badS t = true := by simp [badS, h]
    rw [hd]
    go_enter Try.func91, Try.ntmps91
    go_wp2
    go_ret
    exact ⟨rfl, rfl⟩
  · have hd : badS t = decide ((16 : Int) < t) := by simp [badS, h]
    rw [hd]
    go_enter Try.func91, Try.ntmps91
    go_wp2
    go_ret
    exact ⟨rfl, rfl⟩
set_option maxHeartbeats 1000000 in
theorem idx_mach (A : Option Addr) (n c B : Nat) (xs : List Int) (w : World) (hx : Reads w B 1 A n (xs.map (Value.int .i64))) (hn : n ≤ 9223372036854775807) :
    Calls Try.prog 87 #[.slice A n c, .func (Fn.func 91) #[] #[]] w fun e w' => (∃ i : Int, e = .returned (.int .i64 i) ∧ decide (0 ≤ i) = xs.any (badS)) ∧ w = w' := by
  have HL := hide hx.len1
  go_enter Try.func87, Try.ntmps87
  go_wp2
  go_loop [8] (fun i => ∃ k : Nat, k ≤ n ∧ i = .int .i64 k ∧ (xs.take k).any (badS) = false) (fun i => n - (intOf i).toNat)
  case atStart => exact ⟨0, Nat.zero_le _, rfl, rfl⟩
  case round =>
    obtain ⟨k, hk, rfl, hany⟩ := hrel
    have HA := hide hany
    clear hany
    by_cases hlt : k < n
    · obtain ⟨b, off, x, rfl, hb, hxk, hc⟩ := hx.at1 hlt
      have HXK := hide hxk
      clear hxk
      cases hq : badS x
      · have HQ := hide hq
        go_wp2_with (go_at_call 91; refine (mach1_any _ _).mono ?_; rintro e w' ⟨rfl, rfl⟩)
        go_round
        case rel => exact ⟨k + 1, by omega, by go_num, any_take' _ _ _ _ HXK.out HQ.out HA.out⟩
        case measure => simp [intOf]; omega
      · have HQ := hide hq
        go_wp2_with (go_at_call 91; refine (mach1_any _ _).mono ?_; rintro e w' ⟨rfl, rfl⟩)
        go_ret
        exact ⟨⟨_, rfl, by rw [any_hit _ _ _ _ HXK.out HQ.out]; simp⟩, rfl⟩
    · obtain rfl : k = n := by omega
      go_wp2
      go_ret
      exact ⟨⟨_, rfl, by
        have := HA.out
        rw [take_all HL.out] at this
        rw [this]; rfl⟩, rfl⟩
theorem con_mach (A : Option Addr) (n c B : Nat) (xs : List Int) (w : World) (hx : Reads w B 1 A n (xs.map (Value.int .i64))) (hn : n ≤ 9223372036854775807) :
    Calls Try.prog 61 #[.slice A n c, .func (Fn.func 91) #[] #[]] w fun e w' => e = .returned (.bool (xs.any (badS))) ∧ w = w' := by
  go_enter Try.func61, Try.ntmps61
  go_wp2_with (go_at_call 87; refine (idx_mach A n c B xs _ hx hn).mono ?_; rintro e w' ⟨⟨i, rfl, hi⟩, rfl⟩)
  go_ret
  exact ⟨rfl, rfl⟩
/-- Whether slots are those of machines. -/
def slotB (n : Nat) (ss : List Int) : Bool := decide (1 ≤ n) && decide (n ≤ 20) && !ss.any badS
theorem machines_any (A : Option Addr) (n c B : Nat) (ss : List Int) (w : World) (hx : Reads w B 1 A n (ss.map (Value.int .i64))) (hn : n ≤ 9223372036854775807) :
    Calls Try.prog 69 #[.slice A n c] w fun e w' => e = .returned (.bool (slotB n ss)) ∧ w = w' := by
  by_cases h1 : 1 ≤ n
  · by_cases h2 : n ≤ 20
    · cases ho : ss.any badS
      · have HX := hide (show slotB n ss = true by simp [slotB, h1, h2, ho])
        go_enter Try.func69, Try.ntmps69
        go_wp2_with (go_at_call 61; refine (con_mach A n c B ss _ hx hn).mono ?_; rintro e w' ⟨rfl, rfl⟩)
        go_ret
        exact ⟨by rw [HX.out]; rfl, rfl⟩
      · have HX := hide (show slotB n ss = false by simp [slotB, h1, h2, ho])
        go_enter Try.func69, Try.ntmps69
        go_wp2_with (go_at_call 61; refine (con_mach A n c B ss _ hx hn).mono ?_; rintro e w' ⟨rfl, rfl⟩)
        go_ret
        exact ⟨by rw [HX.out]; rfl, rfl⟩
    · have HX := hide (show slotB n ss = false by simp [slotB, h2])
      go_enter Try.func69, Try.ntmps69
      go_wp2
      go_ret
      exact ⟨by rw [HX.out]; rfl, rfl⟩
  · have HX := hide (show slotB n ss = false by simp [slotB, h1])
    go_enter Try.func69, Try.ntmps69
    go_wp2
    go_ret
    exact ⟨by rw [HX.out]; rfl, rfl⟩
/-- A number of a list, as a natural one. -/
def natA (xs : List Int) (t : Nat) : Nat := ((xs[t]?).getD 0).toNat
theorem natA_at {xs : List Int} {t : Nat} {x : Int} (h : xs[t]? = some x) (h0 : 0 ≤ x) : x = ((natA xs t : Nat) : Int) := by
  unfold natA; rw [h]; simp; omega
theorem any_no {f : Int → Bool} {xs : List Int} (h : xs.any f = false) {t : Nat} {x : Int} (hx : xs[t]? = some x) : f x = false := by
  have := List.any_eq_false.1 h x (List.mem_of_getElem? hx)
  simpa using this
theorem outT_no {n : Nat} {t : Int} (h : outT n t = false) : 0 ≤ t ∧ t < (n : Int) := by
  unfold outT at h
  simp at h
  omega
/-- The greatest of the first k numbers, and one. -/
def mxN (op : Nat → Nat) : Nat → Nat
  | 0 => 0
  | k + 1 => max (mxN op k) (op k + 1)
theorem mxN_succ (op : Nat → Nat) (k : Nat) : mxN op (k + 1) = max (mxN op k) (op k + 1) := rfl
theorem mxN_lt (op : Nat → Nat) {t n : Nat} (h : t < n) : op t < mxN op n := by
  induction n with
  | zero => omega
  | succ n ih =>
    rw [mxN_succ]
    by_cases e : t = n
    · subst e; omega
    · have := ih (by omega); omega
theorem mxN_le (op : Nat → Nat) {n M : Nat} (h : ∀ t, t < n → op t < M) : mxN op n ≤ M := by
  induction n with
  | zero => exact Nat.zero_le _
  | succ n ih =>
    have := ih fun t ht => h t (by omega)
    have := h n (by omega)
    rw [mxN_succ]; omega
set_option maxHeartbeats 1000000 in
theorem Max_any (A : Option Addr) (n c B : Nat) (xs : List Int) (w : World) (hx : Reads w B 1 A n (xs.map (Value.int .i64))) (h1 : 1 ≤ n) (hn : n ≤ 1000) (ho : xs.any (outT 200) = false) :
    Calls Try.prog 63 #[.slice A n c] w fun e w' => e = .returned (.int .i64 (((mxN (natA xs) n : Nat) : Int) - 1)) ∧ w = w' := by
  have HL := hide hx.len1
  obtain ⟨b0, off0, x0, hA0, hb0, hx0, hc0⟩ := hx.at1 (show 0 < n by omega)
  have v0 := outT_no (any_no ho hx0)
  have e0 := natA_at hx0 v0.1
  have c0 : w.cell? ⟨b0, off0, none⟩ = some (.int .i64 x0) := by simpa using hc0
  have HM1 := hide (show x0 = ((mxN (natA xs) 1 : Nat) : Int) - 1 by rw [mxN_succ]; show x0 = ((max 0 (natA xs 0 + 1) : Nat) : Int) - 1; omega)
  subst hA0
  have q0 : (0 : Int) < (n : Int) := by omega
  have HO := hide ho
  clear hc0 hx0 ho e0
  go_enter Try.func63, Try.ntmps63
  go_wp2_with fail
  go_loop [3, 4] (fun v i => ∃ k : Nat, 1 ≤ k ∧ k ≤ n ∧ i = .int .i64 k ∧ v = .int .i64 (((mxN (natA xs) k : Nat) : Int) - 1)) (fun _ i => n - (intOf i).toNat)
  case atStart => exact ⟨1, by omega, h1, rfl, by rw [← HM1.out]⟩
  case round =>
    obtain ⟨k, hk1, hk, rfl, rfl⟩ := hrel
    by_cases hlt : k < n
    · obtain ⟨b, off, x, hA, hb, hxk, hc⟩ := hx.at1 hlt
      injection hA with hA
      injection hA with hA1 hA2
      subst hA1 hA2
      have v1 := outT_no (any_no HO.out hxk)
      have e1 := natA_at hxk v1.1
      have HS := hide (show max (((mxN (natA xs) k : Nat) : Int) - 1) x = ((mxN (natA xs) (k + 1) : Nat) : Int) - 1 by rw [mxN_succ]; omega)
      clear hxk e1
      have q1 : (0 : Int) ≤ (k : Int) := by omega
      have q2 : (k : Int) < (n : Int) := by omega
      obtain ⟨mk, hmk⟩ : ∃ mk : Int, ((mxN (natA xs) k : Nat) : Int) - 1 = mk := ⟨_, rfl⟩
      rw [hmk] at HS ⊢
      clear hmk
      go_wp2
      go_round
      case rel => exact ⟨k + 1, by omega, by omega, by go_num, by rw [← HS.out]; simp only [Value.int.injEq, true_and]; omega⟩
      case measure => simp [intOf]; omega
    · obtain rfl : k = n := by omega
      go_wp2
      go_ret
      exact ⟨rfl, rfl⟩
/-- The error of a graph and its sharing groups. -/
def errG (g : Gr) (m : Nat) (gs : List Int) : Int := if validB g then (if m = mxN (natA g.ops) g.n1 then (if gs.any (outT 200) then 7 else 0) else 9) else 1
theorem errG_zero {g : Gr} {m : Nat} {gs : List Int} (h : errG g m gs = 0) : validB g = true ∧ m = mxN (natA g.ops) g.n1 ∧ gs.any (outT 200) = false := by
  unfold errG at h
  split at h
  · split at h
    · split at h
      · omega
      · rename_i h1 h2 h3; exact ⟨h1, h2, by simpa using h3⟩
    · omega
  · omega
theorem valid_ops {g : Gr} (h : validB g = true) : 1 ≤ g.n1 ∧ g.n1 ≤ 200 ∧ g.ops.any (outT 200) = false := by
  unfold validB at h
  simp only [Bool.and_eq_true, decide_eq_true_eq, Bool.not_eq_true'] at h
  exact ⟨by omega, by omega, by simp [h]⟩
set_option maxRecDepth 100000 in
set_option maxHeartbeats 4000000 in
theorem grouped_any (g : Gr) (A : Option Addr) (m c : Nat) (gs : List Int) (w : World) (hg : g.Ok w w.heap.size) (hx : Reads w w.heap.size 1 A m (gs.map (Value.int .i64))) (hn : g.n1 ≤ 4611686018427387904) (hm : g.n2 ≤ 4611686018427387904) (hmm : m ≤ 1000000) :
    Calls Try.prog 65 #[.agg #[g.v1, g.v2], .slice A m c] w (RetV w (.int .i64 (errG g m gs))) := by
  have hB0 : Below w.heap.size w (w.alloc (.cells #[g.v1, g.v2] 30)) := (Below.refl _ _).alloc (Nat.le_refl _) _
  have k0 := Blk.new w 30 #[g.v1, g.v2]
  have hg0 := hg.up hB0
  have hx0 := hx.up hB0
  have HV := hide (Valid_any g _ hg0 hn hm)
  have hwl : w.heap.size < (w.alloc (.cells #[g.v1, g.v2] 30)).heap.size := by simp
  have c1 : (w.alloc (.cells #[g.v1, g.v2] 30)).cell? ⟨w.heap.size, 0, none⟩ = some (.slice g.a1 g.n1 g.c1) := by simp [Gr.v1]
  have c2 : (w.alloc (.cells #[g.v1, g.v2] 30)).cell? ⟨w.heap.size, 1, none⟩ = some (.slice g.a2 g.n2 g.c2) := by simp [Gr.v2]
  obtain ⟨W, hW⟩ : ∃ W, w.alloc (.cells #[g.v1, g.v2] 30) = W := ⟨_, rfl⟩
  rw [hW] at hB0 k0 hg0 hx0 HV hwl c1 c2
  cases hv : validB g
  · have HE := hide (show errG g m gs = 1 by simp [errG, hv])
    rw [hv] at HV
    clear hv
    go_enter Try.func65, Try.ntmps65
    go_wp2_with fail
    refine HV.out.mono ?_
    rintro e W1 ⟨rfl, hB1⟩
    have HB := hide (bstep hB0 hB1)
    clear hB0 hB1 HV
    go_wp2
    go_ret
    exact ⟨by rw [HE.out]; rfl, HB.out⟩
  · obtain ⟨o1, o2, o3⟩ := valid_ops hv
    rw [hv] at HV
    have HVV := hide hv
    have HO := hide o3
    clear hv o3
    go_enter Try.func65, Try.ntmps65
    go_wp2_with fail
    refine HV.out.mono ?_
    rintro e W1 ⟨rfl, hB1⟩
    have hB01 := bstep hB0 hB1
    have hg1 := hg0.up hB1
    have hx1 := hx0.up hB1
    have k1 := k0.below hB1 hwl
    have e1 := k1.cell 0
    simp [Gr.v1, Gr.v2] at e1
    clear hB0 hB1 HV hg0 hx0 k0 c1 c2 hwl k1
    have HMX := hide (Max_any g.a1 g.n1 g.c1 W1.heap.size g.ops W1 hg1.r1 o1 (by omega) HO.out)
    have hb1 : mxN (natA g.ops) g.n1 ≤ 200 := mxN_le _ fun t ht => by
      obtain ⟨x, hx⟩ : ∃ x, g.ops[t]? = some x := ⟨_, List.getElem?_eq_getElem (by rw [hg1.r1.len1]; exact ht)⟩
      have h1 := outT_no (any_no HO.out hx)
      have h2 := natA_at hx h1.1
      omega
    by_cases hs : m = mxN (natA g.ops) g.n1
    · have z : ((m : Int) != ((mxN (natA g.ops) g.n1 : Nat) : Int)) = false := by simp [hs]
      obtain ⟨M, hM⟩ : ∃ M, mxN (natA g.ops) g.n1 = M := ⟨_, rfl⟩
      have HS := hide hs
      have HMM := hide hM
      rw [hM] at HMX z hb1
      have hz1 : ((M : Int) - 1 + 1) = (M : Int) := by omega
      have hz2 : IntKind.i64.wrap ((M : Int) - 1 + 1) = (M : Int) := by rw [hz1, IntKind.wrap_i64]; omega
      clear hs hM
      cases hgo : gs.any (outT 200)
      · have HE := hide (show errG g m gs = 0 by simp [errG, HVV.out, hgo, HS.out])
        go_wp2_with fail
        refine HMX.out.mono ?_
        rintro e w' ⟨rfl, rfl⟩
        go_wp2_with (go_at_call 61; refine (con_grp A m c _ gs _ hx1 (by omega)).mono ?_; rintro e w' ⟨rfl, rfl⟩)
        go_ret
        exact ⟨by rw [HE.out]; rfl, hB01⟩
      · have HE := hide (show errG g m gs = 7 by simp [errG, HVV.out, hgo, HS.out])
        go_wp2_with fail
        refine HMX.out.mono ?_
        rintro e w' ⟨rfl, rfl⟩
        go_wp2_with (go_at_call 61; refine (con_grp A m c _ gs _ hx1 (by omega)).mono ?_; rintro e w' ⟨rfl, rfl⟩)
        go_ret
        exact ⟨by rw [HE.out]; rfl, hB01⟩
    · have z : ((m : Int) != ((mxN (natA g.ops) g.n1 : Nat) : Int)) = true := by simp; omega
      have HE := hide (show errG g m gs = 9 by simp [errG, HVV.out, hs])
      obtain ⟨M, hM⟩ : ∃ M, mxN (natA g.ops) g.n1 = M := ⟨_, rfl⟩
      rw [hM] at HMX z hb1
      have hz1 : ((M : Int) - 1 + 1) = (M : Int) := by omega
      have hz2 : IntKind.i64.wrap ((M : Int) - 1 + 1) = (M : Int) := by rw [hz1, IntKind.wrap_i64]; omega
      clear hs hM
      go_wp2_with fail
      refine HMX.out.mono ?_
      rintro e w' ⟨rfl, rfl⟩
      go_wp2
      go_ret
      exact ⟨by rw [HE.out]; rfl, hB01⟩
end

section
open Go.RowKit Go.Shelf Go.Deep
attribute [local go_sem] Oper.semAt_some
set_option linter.unusedVariables false

/-- What is known of operators and groups where there is no error. -/
structure GrpOk (g : Gr) (m : Nat) (gs : List Int) : Prop where
  n1 : 1 ≤ g.n1
  n2 : g.n1 ≤ 200
  m2 : m ≤ 200
  op : ∀ t, t < g.n1 → g.ops[t]? = some ((natA g.ops t : Nat) : Int)
  opm : ∀ t, t < g.n1 → natA g.ops t < m
  gr : ∀ o, o < m → gs[o]? = some ((natA gs o : Nat) : Int)
  grm : ∀ o, o < m → natA gs o < 200
theorem GrpOk.mk' {g : Gr} {m : Nat} {gs : List Int} {w : World} {A : Option Addr} (hg : g.Ok w w.heap.size) (hx : Reads w w.heap.size 1 A m (gs.map (Value.int .i64))) (h : errG g m gs = 0) : GrpOk g m gs := by
  obtain ⟨hv, hm, hgs⟩ := errG_zero h
  obtain ⟨o1, o2, o3⟩ := valid_ops hv
  have hop : ∀ t, t < g.n1 → g.ops[t]? = some ((natA g.ops t : Nat) : Int) ∧ natA g.ops t < 200 := fun t ht => by
    obtain ⟨x, hx⟩ : ∃ x, g.ops[t]? = some x := ⟨_, List.getElem?_eq_getElem (by rw [hg.r1.len1]; exact ht)⟩
    have h1 := outT_no (any_no o3 hx)
    have h2 := natA_at hx h1.1
    exact ⟨by rw [hx, h2], by omega⟩
  have hgr : ∀ o, o < m → gs[o]? = some ((natA gs o : Nat) : Int) ∧ natA gs o < 200 := fun t ht => by
    obtain ⟨x, hx⟩ : ∃ x, gs[t]? = some x := ⟨_, List.getElem?_eq_getElem (by rw [hx.len1]; exact ht)⟩
    have h1 := outT_no (any_no hgs hx)
    have h2 := natA_at hx h1.1
    exact ⟨by rw [hx, h2], by omega⟩
  refine ⟨o1, o2, ?_, fun t ht => (hop t ht).1, fun t ht => ?_, fun o ho => (hgr o ho).1, fun o ho => (hgr o ho).2⟩
  · rw [hm]; exact mxN_le _ fun t ht => (hop t ht).2
  · rw [hm]; exact mxN_lt _ ht
theorem run_idx200 (cs : Array Value) (i : Nat) (v : Value) (hi : i < 200) (hv : cs[i]? = some v) (w : World) : (Instr.index 97 (.agg cs) (.int .i64 (i : Int))).run Try.prog w = .ok v w := by
  have h1 : (0 : Int) ≤ (i : Int) ∧ (i : Int) < 200 := by omega
  have h2 : (0 : Int) ≤ (i : Int) := by omega
  simp [Instr.index, run_underlying Try.underlying97, asIntOf, part, Try.isAgg3, Try.sizeOf3, h1, hv]
  omega
set_option maxRecDepth 100000 in
set_option maxHeartbeats 8000000 in
theorem widths_any (g : Gr) (A : Option Addr) (m c : Nat) (gs : List Int) (w : World) (hg : g.Ok w w.heap.size) (hx : Reads w w.heap.size 1 A m (gs.map (Value.int .i64))) (hk : GrpOk g m gs) :
    Calls Try.prog 66 #[.agg #[g.v1, g.v2], .slice A m c] w fun e w' => ∃ cs : Array Value, e = .returned (.agg cs) ∧ cs.size = 200 ∧ (∀ j, j < 200 → cs[j]? = some (.int .i64 ((widO (natA g.ops) (natA gs) g.n1 j : Nat) : Int))) ∧ Below w.heap.size w w' := by
  have hB0 : Below w.heap.size w (w.alloc (.cells #[g.v1, g.v2] 30)) := (Below.refl _ _).alloc (Nat.le_refl _) _
  have k0 := (((Blk.new w 30 #[g.v1, g.v2]).alloc (.cells Try.zeroCells97 97)).alloc (.cells Try.zeroCells97 97)).alloc (.cells Try.zeroCells97 97)
  have r1 := roots_new (w.alloc (.cells #[g.v1, g.v2] 30))
  have r2 := roots_new ((w.alloc (.cells #[g.v1, g.v2] 30)).alloc (.cells Try.zeroCells97 97))
  have r3 := roots_new (((w.alloc (.cells #[g.v1, g.v2] 30)).alloc (.cells Try.zeroCells97 97)).alloc (.cells Try.zeroCells97 97))
  have r1' := (r1.alloc (.cells Try.zeroCells97 97)).alloc (.cells Try.zeroCells97 97)
  have r2' := r2.alloc (.cells Try.zeroCells97 97)
  have hB1 := ((hB0.alloc (by simp) (.cells Try.zeroCells97 97)).alloc (by simp; omega) (.cells Try.zeroCells97 97)).alloc (by simp; omega) (.cells Try.zeroCells97 97)
  simp only [World.size_alloc] at r1' r2' r3
  clear r1 r2 hB0
  go_enter Try.func66, Try.ntmps66
  go_upto_region 2 with fail
  obtain ⟨W0, hW0⟩ : ∃ W0, (((w.alloc (.cells #[g.v1, g.v2] 30)).alloc (.cells Try.zeroCells97 97)).alloc (.cells Try.zeroCells97 97)).alloc (.cells Try.zeroCells97 97) = W0 := ⟨_, rfl⟩
  rw [hW0] at k0 hB1 r1' r2' r3 ⊢
  clear hW0
  have c1 := k0.cell 0
  simp [Gr.v1] at c1
  have HK := hide hk
  have hn2 := hk.n2
  clear hk k0
  obtain ⟨bR, hbR⟩ : ∃ bR, w.heap.size + 1 = bR := ⟨_, rfl⟩
  obtain ⟨bC, hbC⟩ : ∃ bC, w.heap.size + 1 + 1 = bC := ⟨_, rfl⟩
  obtain ⟨bO, hbO⟩ : ∃ bO, w.heap.size + 1 + 1 + 1 = bO := ⟨_, rfl⟩
  rw [hbR] at r1'
  rw [hbC] at r2'
  rw [hbO] at r3
  rw [hbO, hbC, hbR]
  have x1 : bR ≠ bC := by omega
  have x2 : bR ≠ bO := by omega
  have x3 : bC ≠ bO := by omega
  have x4 : w.heap.size ≤ bR := by omega
  have x5 : w.heap.size ≤ bC := by omega
  have x6 : w.heap.size ≤ bO := by omega
  clear hbR hbC hbO
  go_wp2_with fail
  clear c1
  go_loopw [8, 12] (fun _ i wr => ∃ k : Nat, k ≤ g.n1 ∧ i = .int .i64 k ∧ wr.rowIs bR 97 200 (fun _ => .int .i64 0) ∧ wr.rowIs bC 97 200 (fun j => .int .i64 ((cntO (natA g.ops) k j : Nat) : Int)) ∧ wr.rowIs bO 97 200 (fun j => .int .i64 ((widO (natA g.ops) (natA gs) k j : Nat) : Int)) ∧ Below w.heap.size w wr) (fun _ i _ => g.n1 - (intOf i).toNat)
  case atStart => exact ⟨0, Nat.zero_le _, rfl, r1', r2', r3, hB1⟩
  case round =>
    clear r1' r2' r3 hB1
    obtain ⟨k, hkk, rfl, rR, rC, rO, hB⟩ := hrel
    by_cases hlt : k < g.n1
    · obtain ⟨b, off, x, ha, hb, hxk, hc⟩ := (hg.r1.below hB).at1 hlt
      have h1 := HK.out.op k hlt
      rw [hxk] at h1
      injection h1 with h1
      subst h1
      have hom := HK.out.opm k hlt
      obtain ⟨o, hoo⟩ : ∃ o, natA g.ops k = o := ⟨_, rfl⟩
      rw [hoo] at hc hom
      have HO := hide hoo
      obtain ⟨b', off', y, hA', hb', hyk, hc'⟩ := (hx.below hB).at1 hom
      have h2 := HK.out.gr o hom
      rw [hyk] at h2
      injection h2 with h2
      subst h2
      have hj := HK.out.grm o hom
      have hm2 := HK.out.m2
      obtain ⟨j, hjj⟩ : ∃ j, natA gs o = j := ⟨_, rfl⟩
      rw [hjj] at hc' hj
      have HJ := hide hjj
      have e0 : wr.cell? ⟨b, off + k, none⟩ = some (.int .i64 (o : Int)) := hc
      have e1 : wr.cell? ⟨b', off' + o, none⟩ = some (.int .i64 (j : Int)) := hc'
      have eC := rC.cell (show o < 200 by omega)
      have fC := rC.frozen o
      have hcl := cntO_le (natA g.ops) k o
      have hwl := widO_le_k (natA g.ops) (natA gs) k j
      obtain ⟨cv, hcv⟩ : ∃ cv, cntO (natA g.ops) k o = cv := ⟨_, rfl⟩
      have HCV := hide hcv
      rw [hcv] at hcl
      simp only [hcv] at eC
      have rC2 : (wr.setCell ⟨bC, o, none⟩ (.int .i64 ((cv : Int) + 1))).rowIs bC 97 200 (fun j => .int .i64 ((cntO (natA g.ops) (k + 1) j : Nat) : Int)) := (rC.set o _).congr fun i _ => by
        rw [cntO_succ, hoo]
        by_cases e : i = o
        · rw [if_pos e, if_pos e.symm, e, hcv]; simp
        · rw [if_neg e, if_neg (fun h => e h.symm)]
      have rO2 : (wr.setCell ⟨bC, o, none⟩ (.int .i64 ((cv : Int) + 1))).rowIs bO 97 200 (fun j => .int .i64 ((widO (natA g.ops) (natA gs) k j : Nat) : Int)) := rO.of_block (blk_setCell_other _ _ _ _ (show bO ≠ bC from fun e => x3 e.symm))
      have rR2 : (wr.setCell ⟨bC, o, none⟩ (.int .i64 ((cv : Int) + 1))).rowIs bR 97 200 (fun _ => .int .i64 0) := rR.of_block (blk_setCell_other _ _ _ _ x1)
      have hB2 := hB.setCell (p := ⟨bC, o, none⟩) x5 (.int .i64 ((cv : Int) + 1))
      clear hxk hyk hc hc' hoo hjj hcv rR rC rO
      rw [ha]
      subst hA'
      have q1 : (0 : Int) ≤ (k : Int) := by omega
      have q2 : (k : Int) < (g.n1 : Int) := by omega
      have q3 : (0 : Int) ≤ (o : Int) := by omega
      have q4 : (o : Int) < 200 := by omega
      have q5 : (o : Int) < (m : Int) := by omega
      have q6 : (0 : Int) ≤ (j : Int) := by omega
      have q7 : (j : Int) < 200 := by omega
      go_upto_region 6 with fail
      have e1w := (hB.cell (p := ⟨b', off' + o, none⟩) hb').symm.trans e1
      clear e0 e1 eC fC hB
      obtain ⟨W2, hW2⟩ : ∃ W2, wr.setCell ⟨bC, o, none⟩ (.int .i64 ((cv : Int) + 1)) = W2 := ⟨_, rfl⟩
      rw [hW2] at rC2 rO2 rR2 hB2 ⊢
      clear hW2
      have eG := (hB2.cell (p := ⟨b', off' + o, none⟩) hb').trans e1w
      have eC2 := rC2.cell (show o < 200 by omega)
      have eO2 := rO2.cell hj
      have fO2 := rO2.frozen j
      have hc3 := cntO_le (natA g.ops) (k + 1) o
      have HW := hide (show widO (natA g.ops) (natA gs) (k + 1) j = max (widO (natA g.ops) (natA gs) k j) (cntO (natA g.ops) (k + 1) o) by rw [widO_succ, HO.out, HJ.out, if_pos rfl])
      have HW2 := hide (show ∀ i, i ≠ j → widO (natA g.ops) (natA gs) (k + 1) i = widO (natA g.ops) (natA gs) k i from fun i hi => by rw [widO_succ, HO.out, HJ.out, if_neg (fun e => hi e.symm)])
      obtain ⟨c2, hc2⟩ : ∃ c2, cntO (natA g.ops) (k + 1) o = c2 := ⟨_, rfl⟩
      obtain ⟨w2, hw2⟩ : ∃ w2, widO (natA g.ops) (natA gs) k j = w2 := ⟨_, rfl⟩
      rw [hc2] at hc3 HW
      rw [hw2] at hwl HW
      simp only [hc2] at eC2
      simp only [hw2] at eO2
      clear hc2 hw2
      go_region
      have rO3 : (W2.setCell ⟨bO, j, none⟩ (.int .i64 (if w2 < c2 then (c2 : Int) else (w2 : Int)))).rowIs bO 97 200 (fun j => .int .i64 ((widO (natA g.ops) (natA gs) (k + 1) j : Nat) : Int)) := (rO2.set j _).congr fun i _ => by
        by_cases e : i = j
        · rw [if_pos e, e, HW.out]
          congr 1
          by_cases h : w2 < c2
          · rw [if_pos h]; omega
          · rw [if_neg h]; omega
        · rw [if_neg e, HW2.out i e]
      have rC3 : (W2.setCell ⟨bO, j, none⟩ (.int .i64 (if w2 < c2 then (c2 : Int) else (w2 : Int)))).rowIs bC 97 200 (fun j => .int .i64 ((cntO (natA g.ops) (k + 1) j : Nat) : Int)) := rC2.of_block (blk_setCell_other _ _ _ _ x3)
      have rR3 : (W2.setCell ⟨bO, j, none⟩ (.int .i64 (if w2 < c2 then (c2 : Int) else (w2 : Int)))).rowIs bR 97 200 (fun _ => .int .i64 0) := rR2.of_block (blk_setCell_other _ _ _ _ x2)
      have hB3 := hB2.setCell (p := ⟨bO, j, none⟩) x6 (.int .i64 (if w2 < c2 then (c2 : Int) else (w2 : Int)))
      clear rO2 rC2 rR2 hB2 eG eC2 eO2 fO2 e1w
      go_wp2
      go_roundw
      case rel => exact ⟨k + 1, by omega, by go_num, rR3, rC3, rO3, hB3.drew⟩
      case measure => simp [intOf]; omega
    · obtain rfl : k = g.n1 := by omega
      obtain ⟨cs, hcs, hsz, hget⟩ := rO
      obtain ⟨rs, hrs, hrsz, _⟩ := rR
      have hi : (Try.prog.info? 97).map (·.size) = some cs.size := by rw [hsz]; kernel_rfl
      have hone : cs.all (·.oneCell') = true := by
        rw [Array.all_eq_true_iff_forall_mem]
        intro v hv
        obtain ⟨i, hi⟩ := Array.mem_iff_getElem?.1 hv
        have hlt2 := (Array.getElem?_eq_some_iff.1 hi).1
        rw [hget i (by omega)] at hi
        injection hi with hi
        rw [← hi]; rfl
      have hld := run_loadVar_row (P := Try.prog) wr bO 97 97 cs (0, 0) _ hcs Try.underlying97 rfl hi
      have hst := run_storeVar_row (P := Try.prog) wr bR 97 97 rs cs hrs hi (by rw [hrsz, hsz]) hone
      have hrow := setRow_heap wr bR rs cs _ _ hrs
      have hBe := below_setRow hB x4 cs
      have HG := hide hget
      have HCS := hide hsz
      clear rC hget hB
      go_wp2_with (first | (refine wpList_load_row rfl 97 _ rfl bO rfl 97 cs (0, 0) _ hcs Try.underlying97 rfl hi ?_) | (refine wpList_store_row rfl 97 _ _ rfl bR cs rfl rfl 97 rs hrs hi (by rw [hrsz, hsz]) hone ?_))
      refine bodyPost_ret_by (results_cell_row rfl _ _ bR 97 cs (0, 0) _ rfl hrow Try.underlying97 rfl hi) rfl ?_
      exact ⟨cs, rfl, HCS.out, HG.out, hBe⟩
/-- How many slots a graph needs. -/
def needG (g : Gr) (gs : List Int) : Nat := offW (widO (natA g.ops) (natA gs) g.n1) 200
theorem needG_le (g : Gr) (gs : List Int) (h : g.n1 ≤ 200) : needG g gs ≤ 40000 := Nat.le_trans (offW_bound (M := 200) fun i _ => Nat.le_trans (widO_le_k _ _ _ _) h) (by omega)
def leastV (g : Gr) (m : Nat) (gs : List Int) : Int := if errG g m gs = 0 then (needG g gs : Int) else 0
set_option maxRecDepth 100000 in
set_option maxHeartbeats 8000000 in
theorem Least_any (g : Gr) (A : Option Addr) (m c : Nat) (gs : List Int) (w : World) (hg : g.Ok w w.heap.size) (hx : Reads w w.heap.size 1 A m (gs.map (Value.int .i64))) (hn : g.n1 ≤ 4611686018427387904) (hm : g.n2 ≤ 4611686018427387904) (hmm : m ≤ 1000000) :
    Calls Try.prog 34 #[.agg #[g.v1, g.v2], .slice A m c] w (RetV w (.tuple #[.int .i64 (leastV g m gs), .int .i64 (errG g m gs)])) := by
  have hB0 : Below w.heap.size w (w.alloc (.cells #[g.v1, g.v2] 30)) := (Below.refl _ _).alloc (Nat.le_refl _) _
  have k0 := Blk.new w 30 #[g.v1, g.v2]
  have hg0 := hg.up hB0
  have hx0 := hx.up hB0
  have HG := hide (grouped_any g A m c gs _ hg0 hx0 hn hm hmm)
  have hwl : w.heap.size < (w.alloc (.cells #[g.v1, g.v2] 30)).heap.size := by simp
  have c1 : (w.alloc (.cells #[g.v1, g.v2] 30)).cell? ⟨w.heap.size, 0, none⟩ = some (.slice g.a1 g.n1 g.c1) := by simp [Gr.v1]
  have c2 : (w.alloc (.cells #[g.v1, g.v2] 30)).cell? ⟨w.heap.size, 1, none⟩ = some (.slice g.a2 g.n2 g.c2) := by simp [Gr.v2]
  obtain ⟨W, hW⟩ : ∃ W, w.alloc (.cells #[g.v1, g.v2] 30) = W := ⟨_, rfl⟩
  rw [hW] at hB0 k0 hg0 hx0 HG hwl c1 c2
  obtain ⟨E, hE⟩ : ∃ E, errG g m gs = E := ⟨_, rfl⟩
  have HE := hide hE
  rw [hE] at HG ⊢
  by_cases h0 : E = 0
  · subst h0
    have hk := GrpOk.mk' hg hx hE
    have HL := hide (show leastV g m gs = (needG g gs : Int) by unfold leastV; rw [if_pos hE])
    have hnl := needG_le g gs hk.n2
    have hn2 := hk.n2
    clear hE
    go_enter Try.func34, Try.ntmps34
    go_wp2_with fail
    refine HG.out.mono ?_
    rintro e W1 ⟨rfl, hB1⟩
    have hB01 := bstep hB0 hB1
    have HWD := hide (widths_any g A m c gs W1 (hg0.up hB1) (hx0.up hB1) hk)
    have k1 := k0.below hB1 hwl
    have d1 := k1.cell 0
    have d2 := k1.cell 1
    simp [Gr.v1, Gr.v2] at d1 d2
    clear hB0 hB1 hg0 hx0 HG k0 k1 c1 c2 hwl
    go_wp2_with fail
    refine HWD.out.mono ?_
    rintro e W2 ⟨cs, rfl, hsz, hget, hB2⟩
    have HB := hide (bstep hB01 hB2)
    clear hB01 hB2 HWD d1 d2
    go_wp2_with fail
    go_loop [7, 9, 19] (fun v _ i => ∃ k : Nat, k ≤ 200 ∧ i = .int .i64 k ∧ v = .int .i64 ((offW (widO (natA g.ops) (natA gs) g.n1) k : Nat) : Int)) (fun _ _ i => 200 - (intOf i).toNat)
    case atStart => exact ⟨0, Nat.zero_le _, rfl, rfl⟩
    case round =>
      obtain ⟨k, hkk, rfl, rfl⟩ := hrel
      by_cases hlt : k < 200
      · have hv := run_idx200 cs k _ hlt (hget k hlt) W2
        have hwk := widO_le_k (natA g.ops) (natA gs) g.n1 k
        have HS := hide (offW_succ (widO (natA g.ops) (natA gs) g.n1) k)
        have hob : offW (widO (natA g.ops) (natA gs) g.n1) (k + 1) ≤ 40200 := Nat.le_trans (offW_bound (M := 200) fun i _ => Nat.le_trans (widO_le_k _ _ _ _) hn2) (by omega)
        obtain ⟨wv, hwv⟩ : ∃ wv, widO (natA g.ops) (natA gs) g.n1 k = wv := ⟨_, rfl⟩
        obtain ⟨ov, hov⟩ : ∃ ov, offW (widO (natA g.ops) (natA gs) g.n1) k = ov := ⟨_, rfl⟩
        rw [hwv] at hv hwk HS
        rw [HS.out, hov] at hob
        rw [hov] at HS ⊢
        clear hwv hov
        have q1 : (0 : Int) ≤ (k : Int) := by omega
        have q2 : (k : Int) < 200 := by omega
        go_wp2
        go_round
        case rel => exact ⟨k + 1, by omega, by go_num, by rw [HS.out]; go_num⟩
        case measure => simp [intOf]; omega
      · obtain rfl : k = 200 := by omega
        go_wp2
        go_ret2
        exact ⟨by rw [HL.out]; rfl, HB.out⟩
  · have z0 : (E != 0) = true := by simpa using h0
    have HL := hide (show leastV g m gs = 0 by unfold leastV; rw [if_neg (by rw [hE]; exact h0)])
    clear hE
    go_enter Try.func34, Try.ntmps34
    go_wp2_with fail
    refine HG.out.mono ?_
    rintro e W1 ⟨rfl, hB1⟩
    have HB := hide (bstep hB0 hB1)
    clear hB0 hB1 hg0 hx0 HG k0 c1 c2 hwl
    go_wp2
    go_ret2
    exact ⟨by rw [HL.out]; rfl, HB.out⟩
end

section
open Go.RowKit Go.Shelf Go.Deep
attribute [local go_sem] Oper.semAt_some
set_option linter.unusedVariables false

/-- What is known of the operators of a valid graph. -/
structure OpsOk (g : Gr) : Prop where
  n1 : 1 ≤ g.n1
  n2 : g.n1 ≤ 200
  op : ∀ t, t < g.n1 → g.ops[t]? = some ((natA g.ops t : Nat) : Int)
  lt : ∀ t, t < g.n1 → natA g.ops t < 200
theorem OpsOk.of {g : Gr} {w : World} (hg : g.Ok w w.heap.size) (hv : validB g = true) : OpsOk g := by
  obtain ⟨o1, o2, o3⟩ := valid_ops hv
  have hop : ∀ t, t < g.n1 → g.ops[t]? = some ((natA g.ops t : Nat) : Int) ∧ natA g.ops t < 200 := fun t ht => by
    obtain ⟨x, hx⟩ : ∃ x, g.ops[t]? = some x := ⟨_, List.getElem?_eq_getElem (by rw [hg.r1.len1]; exact ht)⟩
    have h1 := outT_no (any_no o3 hx)
    have h2 := natA_at hx h1.1
    exact ⟨by rw [hx, h2], by omega⟩
  exact ⟨o1, o2, fun t ht => (hop t ht).1, fun t ht => (hop t ht).2⟩
theorem OpsOk.mx {g : Gr} (h : OpsOk g) : mxN (natA g.ops) g.n1 ≤ 200 := mxN_le _ h.lt
set_option maxHeartbeats 1000000 in
theorem most_any (g : Gr) (w : World) (hg : g.Ok w w.heap.size) (ho : OpsOk g) :
    Calls Try.prog 89 #[.agg #[g.v1, g.v2]] w (RetV w (.int .i64 ((mxN (natA g.ops) g.n1 : Nat) : Int))) := by
  have hB0 : Below w.heap.size w (w.alloc (.cells #[g.v1, g.v2] 25)) := (Below.refl _ _).alloc (Nat.le_refl _) _
  have hg0 := hg.up hB0
  have HO := hide ho
  have hn2 := ho.n2
  have hc1 : (w.alloc (.cells #[g.v1, g.v2] 25)).cell? ⟨w.heap.size, 0, none⟩ = some (.slice g.a1 g.n1 g.c1) := by simp [Gr.v1]
  obtain ⟨W, hW⟩ : ∃ W, w.alloc (.cells #[g.v1, g.v2] 25) = W := ⟨_, rfl⟩
  rw [hW] at hB0 hg0 hc1
  clear ho
  go_enter Try.func89, Try.ntmps89
  go_wp2_with fail
  clear hW
  go_loop [3, 4] (fun v i => ∃ k : Nat, k ≤ g.n1 ∧ i = .int .i64 k ∧ v = .int .i64 ((mxN (natA g.ops) k : Nat) : Int)) (fun _ i => g.n1 - (intOf i).toNat)
  case atStart => exact ⟨0, Nat.zero_le _, rfl, rfl⟩
  case round =>
    obtain ⟨k, hk, rfl, rfl⟩ := hrel
    by_cases hlt : k < g.n1
    · obtain ⟨b, off, x, ha, hb, hxk, hc⟩ := hg0.r1.at1 hlt
      have h1 := HO.out.op k hlt
      have h2 := HO.out.lt k hlt
      rw [hxk] at h1
      injection h1 with h1
      subst h1
      have HS := hide (show max ((mxN (natA g.ops) k : Nat) : Int) (((natA g.ops k : Nat) : Int) + 1) = ((mxN (natA g.ops) (k + 1) : Nat) : Int) by rw [mxN_succ]; omega)
      rw [ha] at hc1
      have HA := hide ha
      clear hxk ha
      obtain ⟨mk, hmk⟩ : ∃ mk : Int, ((mxN (natA g.ops) k : Nat) : Int) = mk := ⟨_, rfl⟩
      obtain ⟨o, hoo⟩ : ∃ o, natA g.ops k = o := ⟨_, rfl⟩
      rw [hoo] at hc h2 HS
      rw [hmk] at HS ⊢
      clear hmk hoo
      have q1 : (0 : Int) ≤ (k : Int) := by omega
      have q2 : (k : Int) < (g.n1 : Int) := by omega
      go_wp2
      go_round
      case rel => exact ⟨k + 1, by omega, by go_num, by rw [← HS.out]; simp only [Value.int.injEq, true_and]; omega⟩
      case measure => simp [intOf]; omega
    · obtain rfl : k = g.n1 := by omega
      go_wp2
      go_ret
      exact ⟨rfl, hB0⟩
set_option maxRecDepth 100000 in
set_option maxHeartbeats 4000000 in
theorem Rgrouped_any (g : Gr) (A : Option Addr) (m c : Nat) (gs : List Int) (w : World) (hg : g.Ok w w.heap.size) (hx : Reads w w.heap.size 1 A m (gs.map (Value.int .i64))) (hn : g.n1 ≤ 4611686018427387904) (hm : g.n2 ≤ 4611686018427387904) (hmm : m ≤ 1000000) :
    Calls Try.prog 67 #[.agg #[g.v1, g.v2], .slice A m c] w (RetV w (.int .i64 (errG g m gs))) := by
  have hB0 : Below w.heap.size w (w.alloc (.cells #[g.v1, g.v2] 25)) := (Below.refl _ _).alloc (Nat.le_refl _) _
  have k0 := Blk.new w 25 #[g.v1, g.v2]
  have hg0 := hg.up hB0
  have hx0 := hx.up hB0
  have HV := hide (RValid_any g _ hg0 hn hm)
  have HLG := hide hx.len1
  have hwl : w.heap.size < (w.alloc (.cells #[g.v1, g.v2] 25)).heap.size := by simp
  have c1 : (w.alloc (.cells #[g.v1, g.v2] 25)).cell? ⟨w.heap.size, 0, none⟩ = some (.slice g.a1 g.n1 g.c1) := by simp [Gr.v1]
  have c2 : (w.alloc (.cells #[g.v1, g.v2] 25)).cell? ⟨w.heap.size, 1, none⟩ = some (.slice g.a2 g.n2 g.c2) := by simp [Gr.v2]
  obtain ⟨W, hW⟩ : ∃ W, w.alloc (.cells #[g.v1, g.v2] 25) = W := ⟨_, rfl⟩
  rw [hW] at hB0 k0 hg0 hx0 HV hwl c1 c2
  cases hv : validB g
  · have HE := hide (show errG g m gs = 1 by simp [errG, hv])
    rw [hv] at HV
    clear hv
    go_enter Try.func67, Try.ntmps67
    go_wp2_with fail
    refine HV.out.mono ?_
    rintro e W1 ⟨rfl, hB1⟩
    have HB := hide (bstep hB0 hB1)
    clear hB0 hB1 HV
    go_wp2
    go_ret
    exact ⟨by rw [HE.out]; rfl, HB.out⟩
  · have ho := OpsOk.of hg hv
    rw [hv] at HV
    have HVV := hide hv
    have hb1 := ho.mx
    clear hv
    go_enter Try.func67, Try.ntmps67
    go_wp2_with fail
    refine HV.out.mono ?_
    rintro e W1 ⟨rfl, hB1⟩
    have hB01 := bstep hB0 hB1
    have hg1 := hg0.up hB1
    have hx1 := hx0.up hB1
    have k1 := k0.below hB1 hwl
    have e1 := k1.cell 0
    have e2 := k1.cell 1
    simp [Gr.v1, Gr.v2] at e1 e2
    have HMX := hide (most_any g W1 hg1 ho)
    clear hB0 hB1 HV hg0 hx0 k0 c1 c2 hwl k1 hg1
    go_wp2_with fail
    refine HMX.out.mono ?_
    rintro e W2 ⟨rfl, hB2⟩
    have hB02 := bstep hB01 hB2
    have hx2 := hx1.up hB2
    clear hB01 hB2 hx1 HMX e1 e2
    obtain ⟨M, hM⟩ : ∃ M, mxN (natA g.ops) g.n1 = M := ⟨_, rfl⟩
    have HM := hide hM
    rw [hM] at hb1 ⊢
    clear hM
    by_cases hs : m = M
    · have z : ((m : Int) != (M : Int)) = false := by simp [hs]
      have HS := hide hs
      clear hs
      go_wp2_with fail
      go_loop [5] (fun i => ∃ k : Nat, k ≤ m ∧ i = .int .i64 k ∧ (gs.take k).any (outT 200) = false) (fun i => m - (intOf i).toNat)
      case atStart => exact ⟨0, Nat.zero_le _, rfl, rfl⟩
      case round =>
        obtain ⟨k, hk, rfl, hany⟩ := hrel
        have HA := hide hany
        clear hany
        by_cases hlt : k < m
        · obtain ⟨b, off, x, rfl, hb, hxk, hc⟩ := hx2.at1 hlt
          have HXK := hide hxk
          clear hxk
          by_cases y0 : x < 0
          · have HE := hide (show errG g m gs = 7 by
              have h1 := any_hit (outT 200) _ _ _ HXK.out (by simp [outT, y0])
              simp [errG, HVV.out, h1, HS.out, HM.out])
            go_wp2
            go_ret
            exact ⟨by rw [HE.out]; rfl, hB02⟩
          · by_cases y1 : 200 ≤ x
            · have HE := hide (show errG g m gs = 7 by
                have h1 := any_hit (outT 200) _ _ _ HXK.out (by simp [outT, y1])
                simp [errG, HVV.out, h1, HS.out, HM.out])
              go_wp2
              go_ret
              exact ⟨by rw [HE.out]; rfl, hB02⟩
            · have HQ := hide (show outT 200 x = false by simp [outT]; omega)
              go_wp2
              go_round
              case rel => exact ⟨k + 1, by omega, by go_num, any_take' _ _ _ _ HXK.out HQ.out HA.out⟩
              case measure => simp [intOf]; omega
        · obtain rfl : k = m := by omega
          have HE := hide (show errG g k gs = 0 by
            have h1 := HA.out
            rw [take_all HLG.out] at h1
            simp [errG, HVV.out, h1, HS.out, HM.out])
          go_wp2
          go_ret
          exact ⟨by rw [HE.out]; rfl, hB02⟩
    · have z : ((m : Int) != (M : Int)) = true := by simp; omega
      have HE := hide (show errG g m gs = 9 by simp [errG, HVV.out, hs, HM.out])
      clear hs
      go_wp2
      go_ret
      exact ⟨by rw [HE.out]; rfl, hB02⟩
set_option maxRecDepth 100000 in
set_option maxHeartbeats 4000000 in
theorem counts_any (g : Gr) (w : World) (hg : g.Ok w w.heap.size) (ho : OpsOk g) :
    Calls Try.prog 90 #[.agg #[g.v1, g.v2]] w fun e w' => ∃ b, e = .returned (.slice (some ⟨b, 0, none⟩) (mxN (natA g.ops) g.n1) (mxN (natA g.ops) g.n1)) ∧ w'.rowIs b 3 (mxN (natA g.ops) g.n1) (fun o => .int .i64 ((cntO (natA g.ops) g.n1 o : Nat) : Int)) ∧ w.heap.size ≤ b ∧ Below w.heap.size w w' := by
  have hB0 : Below w.heap.size w (w.alloc (.cells #[g.v1, g.v2] 25)) := (Below.refl _ _).alloc (Nat.le_refl _) _
  have k0 := Blk.new w 25 #[g.v1, g.v2]
  have hg0 := hg.up hB0
  have HMX := hide (most_any g _ hg0 ho)
  have hwl : w.heap.size < (w.alloc (.cells #[g.v1, g.v2] 25)).heap.size := by simp
  have c1 : (w.alloc (.cells #[g.v1, g.v2] 25)).cell? ⟨w.heap.size, 0, none⟩ = some (.slice g.a1 g.n1 g.c1) := by simp [Gr.v1]
  have c2 : (w.alloc (.cells #[g.v1, g.v2] 25)).cell? ⟨w.heap.size, 1, none⟩ = some (.slice g.a2 g.n2 g.c2) := by simp [Gr.v2]
  obtain ⟨W, hW⟩ : ∃ W, w.alloc (.cells #[g.v1, g.v2] 25) = W := ⟨_, rfl⟩
  rw [hW] at hB0 k0 hg0 HMX hwl c1 c2
  have HO := hide ho
  have hb1 := ho.mx
  have hn2 := ho.n2
  have HMl := hide (fun t (ht : t < g.n1) => mxN_lt (natA g.ops) ht)
  obtain ⟨M, hM⟩ : ∃ M, mxN (natA g.ops) g.n1 = M := ⟨_, rfl⟩
  rw [hM] at hb1 HMX HMl ⊢
  clear hM ho
  have hmk := fun W => run_make_row' (P := Try.prog) 22 3 (.int .i64 0) 8 Try.underlying22 infoInt_dk rfl .i64 .i64 M (by omega) (by omega) W
  go_enter Try.func90, Try.ntmps90
  go_wp2_with fail
  refine HMX.out.mono ?_
  rintro e W1 ⟨rfl, hB1⟩
  have hB01 := bstep hB0 hB1
  have k1 := k0.below hB1 hwl
  have hg1 := hg0.up hB1
  have hsz1 : w.heap.size < W1.heap.size := Nat.lt_of_lt_of_le hwl hB1.size
  clear hB0 hB1 k0 hg0 c1 c2 hwl HMX
  have r0 := World.rowIs_made W1 (.int .i64 0) M 3
  have hB2 := hB01.alloc (by omega) (.cells (madeCells #[.int .i64 0] M) 3)
  have k2 := k1.alloc (.cells (madeCells #[.int .i64 0] M) 3)
  have e1 := k2.cell 0
  simp [Gr.v1] at e1
  go_wp2_with fail
  obtain ⟨W2, hW2⟩ : ∃ W2, W1.alloc (.cells (madeCells #[.int .i64 0] M) 3) = W2 := ⟨_, rfl⟩
  rw [hW2] at r0 hB2 k2 e1 ⊢
  clear hW2
  obtain ⟨bC, hbC⟩ : ∃ bC, W1.heap.size = bC := ⟨_, rfl⟩
  rw [hbC] at r0 hsz1 ⊢
  clear hbC
  go_loopw [4] (fun i wr => ∃ k : Nat, k ≤ g.n1 ∧ i = .int .i64 k ∧ wr.rowIs bC 3 M (fun o => .int .i64 ((cntO (natA g.ops) k o : Nat) : Int)) ∧ Blk wr w.heap.size 25 #[g.v1, g.v2] ∧ Below w.heap.size w wr) (fun i _ => g.n1 - (intOf i).toNat)
  case atStart => exact ⟨0, Nat.zero_le _, rfl, r0, k2, hB2⟩
  case round =>
    clear r0 hB2 k2 e1
    obtain ⟨k, hkk, rfl, rC, kb, hB⟩ := hrel
    have e1 := kb.cell 0
    simp [Gr.v1] at e1
    by_cases hlt : k < g.n1
    · obtain ⟨b, off, x, ha, hb, hxk, hc⟩ := (hg.r1.below hB).at1 hlt
      have h1 := HO.out.op k hlt
      rw [hxk] at h1
      injection h1 with h1
      subst h1
      have hom := HMl.out k hlt
      obtain ⟨o, hoo⟩ : ∃ o, natA g.ops k = o := ⟨_, rfl⟩
      rw [hoo] at hc hom
      have e0 : wr.cell? ⟨b, off + k, none⟩ = some (.int .i64 (o : Int)) := hc
      have eC := rC.cell hom
      have fC := rC.frozen o
      have hcl := cntO_le (natA g.ops) k o
      obtain ⟨cv, hcv⟩ : ∃ cv, cntO (natA g.ops) k o = cv := ⟨_, rfl⟩
      rw [hcv] at hcl
      simp only [hcv] at eC
      have rC2 : (wr.setCell ⟨bC, o, none⟩ (.int .i64 ((cv : Int) + 1))).rowIs bC 3 M (fun j => .int .i64 ((cntO (natA g.ops) (k + 1) j : Nat) : Int)) := (rC.set o _).congr fun i _ => by
        rw [cntO_succ, hoo]
        by_cases e : i = o
        · rw [if_pos e, if_pos e.symm, e, hcv]; simp
        · rw [if_neg e, if_neg (fun h => e h.symm)]
      have hB2 := hB.setCell (p := ⟨bC, o, none⟩) (by show w.heap.size ≤ bC; omega) (.int .i64 ((cv : Int) + 1))
      have kb2 : Blk (wr.setCell ⟨bC, o, none⟩ (.int .i64 ((cv : Int) + 1))) w.heap.size 25 #[g.v1, g.v2] := kb.far (show w.heap.size ≠ bC by omega) _
      have HRC := hide rC2
      have HKB := hide kb2
      clear hxk hc hoo hcv rC rC2 kb kb2
      rw [ha] at e1
      have q1 : (0 : Int) ≤ (k : Int) := by omega
      have q2 : (k : Int) < (g.n1 : Int) := by omega
      have q3 : (0 : Int) ≤ (o : Int) := by omega
      have q5 : (o : Int) < (M : Int) := by omega
      go_wp2
      go_roundw
      case rel => exact ⟨k + 1, by omega, by go_num, HRC.out, HKB.out, hB2⟩
      case measure => simp [intOf]; omega
    · obtain rfl : k = g.n1 := by omega
      have HRC := hide rC
      clear rC kb
      go_wp2
      go_ret
      exact ⟨bC, rfl, HRC.out, by omega, hB⟩
/-- The greatest number of tasks of the first i operators of group j. -/
def ndO (op gr : Nat → Nat) (n j : Nat) : Nat → Nat
  | 0 => 0
  | i + 1 => if gr i = j then max (ndO op gr n j i) (cntO op n i) else ndO op gr n j i
theorem ndO_succ (op gr : Nat → Nat) (n j i : Nat) : ndO op gr n j (i + 1) = if gr i = j then max (ndO op gr n j i) (cntO op n i) else ndO op gr n j i := rfl
theorem ndO_ge (op gr : Nat → Nat) (n : Nat) {i m : Nat} (h : i < m) : cntO op n i ≤ ndO op gr n (gr i) m := by
  induction m with
  | zero => omega
  | succ m ih =>
    rw [ndO_succ]
    by_cases e : i = m
    · subst e; rw [if_pos rfl]; omega
    · have := ih (by omega)
      split <;> omega
theorem ndO_le (op gr : Nat → Nat) (n j m : Nat) : ndO op gr n j m ≤ widO op gr n j := by
  induction m with
  | zero => exact Nat.zero_le _
  | succ m ih =>
    rw [ndO_succ]
    by_cases e : gr m = j
    · rw [if_pos e]
      have := widO_ge op gr n m
      rw [e] at this
      omega
    · rw [if_neg e]; exact ih
theorem ndO_eq (op gr : Nat → Nat) {n m : Nat} (j : Nat) (h : ∀ t, t < n → op t < m) : ndO op gr n j m = widO op gr n j := by
  refine Nat.le_antisymm (ndO_le op gr n j m) (widO_le op gr (Nat.le_refl _) fun t ht e => ?_)
  have := ndO_ge op gr n (h t ht)
  rwa [e] at this
set_option maxRecDepth 100000 in
set_option maxHeartbeats 4000000 in
theorem needs_any (g : Gr) (A : Option Addr) (m c : Nat) (gs : List Int) (j : Nat) (w : World) (hg : g.Ok w w.heap.size) (hx : Reads w w.heap.size 1 A m (gs.map (Value.int .i64))) (hk : GrpOk g m gs) (ho : OpsOk g) (hmx : mxN (natA g.ops) g.n1 = m) :
    Calls Try.prog 68 #[.agg #[g.v1, g.v2], .slice A m c, .int .i64 (j : Int)] w (RetV w (.int .i64 ((widO (natA g.ops) (natA gs) g.n1 j : Nat) : Int))) := by
  have hB0 : Below w.heap.size w (w.alloc (.cells #[g.v1, g.v2] 25)) := (Below.refl _ _).alloc (Nat.le_refl _) _
  have hg0 := hg.up hB0
  have HC := hide (counts_any g _ hg0 ho)
  have c1 : (w.alloc (.cells #[g.v1, g.v2] 25)).cell? ⟨w.heap.size, 0, none⟩ = some (.slice g.a1 g.n1 g.c1) := by simp [Gr.v1]
  have c2 : (w.alloc (.cells #[g.v1, g.v2] 25)).cell? ⟨w.heap.size, 1, none⟩ = some (.slice g.a2 g.n2 g.c2) := by simp [Gr.v2]
  obtain ⟨W, hW⟩ : ∃ W, w.alloc (.cells #[g.v1, g.v2] 25) = W := ⟨_, rfl⟩
  rw [hW] at hB0 hg0 HC c1 c2
  rw [hmx] at HC
  have HK := hide hk
  have hm2 := hk.m2
  have hn2 := ho.n2
  have HND := hide (ndO_eq (natA g.ops) (natA gs) j hk.opm)
  clear hk ho hmx
  go_enter Try.func68, Try.ntmps68
  go_wp2_with fail
  refine HC.out.mono ?_
  rintro e W1 ⟨bC, rfl, rC, hbC, hB1⟩
  have hB01 := bstep hB0 hB1
  have hx1 := hx.up hB01
  clear hB0 hB1 hg0 HC c1 c2
  go_wp2_with fail
  go_loop [7, 9] (fun v i => ∃ k : Nat, k ≤ m ∧ i = .int .i64 k ∧ v = .int .i64 ((ndO (natA g.ops) (natA gs) g.n1 j k : Nat) : Int)) (fun _ i => m - (intOf i).toNat)
  case atStart => exact ⟨0, Nat.zero_le _, rfl, rfl⟩
  case round =>
    obtain ⟨k, hkk, rfl, rfl⟩ := hrel
    by_cases hlt : k < m
    · obtain ⟨b, off, x, hA, hb, hxk, hc⟩ := hx1.at1 hlt
      have h1 := HK.out.gr k hlt
      rw [hxk] at h1
      injection h1 with h1
      subst h1
      have eC := rC.cell hlt
      have hcl := cntO_le (natA g.ops) g.n1 k
      have HS := hide (ndO_succ (natA g.ops) (natA gs) g.n1 j k)
      obtain ⟨G, hG⟩ : ∃ G, natA gs k = G := ⟨_, rfl⟩
      obtain ⟨cv, hcv⟩ : ∃ cv, cntO (natA g.ops) g.n1 k = cv := ⟨_, rfl⟩
      obtain ⟨nv, hnv⟩ : ∃ nv, ndO (natA g.ops) (natA gs) g.n1 j k = nv := ⟨_, rfl⟩
      rw [hG] at hc HS
      rw [hcv] at hcl HS
      rw [hnv] at HS ⊢
      simp only [hcv] at eC
      clear hxk hG hcv hnv
      subst hA
      have q1 : (0 : Int) ≤ (k : Int) := by omega
      have q2 : (k : Int) < (m : Int) := by omega
      by_cases hGj : G = j
      · have z : ((G : Int) == (j : Int)) = true := by simp [hGj]
        rw [if_pos hGj] at HS
        clear hGj
        go_wp2
        go_round
        case rel => exact ⟨k + 1, by omega, by go_num, by rw [HS.out]; simp only [Value.int.injEq, true_and]; omega⟩
        case measure => simp [intOf]; omega
      · have z : ((G : Int) == (j : Int)) = false := by simp; omega
        rw [if_neg hGj] at HS
        clear hGj
        go_wp2
        go_round
        case rel => exact ⟨k + 1, by omega, by go_num, by rw [HS.out]⟩
        case measure => simp [intOf]; omega
    · obtain rfl : k = m := by omega
      go_wp2
      go_ret
      exact ⟨by rw [HND.out]; rfl, hB01⟩
set_option maxRecDepth 100000 in
set_option maxHeartbeats 8000000 in
theorem RLeast_any (g : Gr) (A : Option Addr) (m c : Nat) (gs : List Int) (w : World) (hg : g.Ok w w.heap.size) (hx : Reads w w.heap.size 1 A m (gs.map (Value.int .i64))) (hn : g.n1 ≤ 4611686018427387904) (hm : g.n2 ≤ 4611686018427387904) (hmm : m ≤ 1000000) :
    Calls Try.prog 35 #[.agg #[g.v1, g.v2], .slice A m c] w (RetV w (.tuple #[.int .i64 (leastV g m gs), .int .i64 (errG g m gs)])) := by
  have hB0 : Below w.heap.size w (w.alloc (.cells #[g.v1, g.v2] 25)) := (Below.refl _ _).alloc (Nat.le_refl _) _
  have k0 := Blk.new w 25 #[g.v1, g.v2]
  have hg0 := hg.up hB0
  have hx0 := hx.up hB0
  have HG := hide (Rgrouped_any g A m c gs _ hg0 hx0 hn hm hmm)
  have hwl : w.heap.size < (w.alloc (.cells #[g.v1, g.v2] 25)).heap.size := by simp
  have c1 : (w.alloc (.cells #[g.v1, g.v2] 25)).cell? ⟨w.heap.size, 0, none⟩ = some (.slice g.a1 g.n1 g.c1) := by simp [Gr.v1]
  have c2 : (w.alloc (.cells #[g.v1, g.v2] 25)).cell? ⟨w.heap.size, 1, none⟩ = some (.slice g.a2 g.n2 g.c2) := by simp [Gr.v2]
  obtain ⟨W, hW⟩ : ∃ W, w.alloc (.cells #[g.v1, g.v2] 25) = W := ⟨_, rfl⟩
  rw [hW] at hB0 k0 hg0 hx0 HG hwl c1 c2
  obtain ⟨E, hE⟩ : ∃ E, errG g m gs = E := ⟨_, rfl⟩
  rw [hE] at HG ⊢
  by_cases h0 : E = 0
  · subst h0
    have hk := GrpOk.mk' hg hx hE
    have ho := OpsOk.of hg (errG_zero hE).1
    have hmx : mxN (natA g.ops) g.n1 = m := (errG_zero hE).2.1.symm
    have HL := hide (show leastV g m gs = (needG g gs : Int) by unfold leastV; rw [if_pos hE])
    have HK := hide hk
    have HO := hide ho
    have HMX := hide hmx
    have hn2 := hk.n2
    clear hE hk ho hmx
    go_enter Try.func35, Try.ntmps35
    go_wp2_with fail
    refine HG.out.mono ?_
    rintro e W1 ⟨rfl, hB1⟩
    have hB01 := bstep hB0 hB1
    have k1 := k0.below hB1 hwl
    have hwl1 : w.heap.size < W1.heap.size := Nat.lt_of_lt_of_le hwl hB1.size
    clear hB0 hB1 hg0 hx0 HG k0 c1 c2 hwl
    go_wp2_with fail
    go_loopw [7, 8] (fun v i wr => ∃ k : Nat, k ≤ 200 ∧ i = .int .i64 k ∧ v = .int .i64 ((offW (widO (natA g.ops) (natA gs) g.n1) k : Nat) : Int) ∧ Blk wr w.heap.size 25 #[g.v1, g.v2] ∧ w.heap.size < wr.heap.size ∧ Below w.heap.size w wr) (fun _ i _ => 200 - (intOf i).toNat)
    case atStart => exact ⟨0, Nat.zero_le _, rfl, rfl, k1, hwl1, hB01⟩
    case round =>
      clear k1 hwl1 hB01
      obtain ⟨k, hkk, rfl, rfl, kb, hwl1, hB⟩ := hrel
      have e1 := kb.cell 0
      have e2 := kb.cell 1
      simp [Gr.v1, Gr.v2] at e1 e2
      by_cases hlt : k < 200
      · have HN := hide (needs_any g A m c gs k wr (hg.up hB) (hx.up hB) HK.out HO.out HMX.out)
        have hwk := widO_le_k (natA g.ops) (natA gs) g.n1 k
        have HS := hide (offW_succ (widO (natA g.ops) (natA gs) g.n1) k)
        have hob : offW (widO (natA g.ops) (natA gs) g.n1) (k + 1) ≤ 40200 := Nat.le_trans (offW_bound (M := 200) fun i _ => Nat.le_trans (widO_le_k _ _ _ _) hn2) (by omega)
        obtain ⟨wv, hwv⟩ : ∃ wv, widO (natA g.ops) (natA gs) g.n1 k = wv := ⟨_, rfl⟩
        obtain ⟨ov, hov⟩ : ∃ ov, offW (widO (natA g.ops) (natA gs) g.n1) k = ov := ⟨_, rfl⟩
        rw [hwv] at HN hwk HS
        rw [HS.out, hov] at hob
        rw [hov] at HS ⊢
        clear hwv hov
        have q2 : (k : Int) < 200 := by omega
        go_wp2_with fail
        refine HN.out.mono ?_
        rintro e W3 ⟨rfl, hB3⟩
        have HKB := hide (kb.below hB3 hwl1)
        have HWL := hide (Nat.lt_of_lt_of_le hwl1 hB3.size)
        have HB := hide (bstep hB hB3)
        clear kb e1 e2 hB hB3 HN
        go_wp2
        go_roundw
        case rel => exact ⟨k + 1, by omega, by go_num, by rw [HS.out]; go_num, HKB.out, HWL.out, HB.out⟩
        case measure => simp [intOf]; omega
      · obtain rfl : k = 200 := by omega
        clear kb e1 e2
        go_wp2
        go_ret2
        exact ⟨by rw [HL.out]; rfl, hB⟩
  · have z0 : (E != 0) = true := by simpa using h0
    have HL := hide (show leastV g m gs = 0 by unfold leastV; rw [if_neg (by rw [hE]; exact h0)])
    clear hE
    go_enter Try.func35, Try.ntmps35
    go_wp2_with fail
    refine HG.out.mono ?_
    rintro e W1 ⟨rfl, hB1⟩
    have HB := hide (bstep hB0 hB1)
    clear hB0 hB1 hg0 hx0 HG k0 c1 c2 hwl
    go_wp2
    go_ret2
    exact ⟨by rw [HL.out]; rfl, HB.out⟩
theorem badS_no {t : Int} : badS t = false ↔ 1 ≤ t ∧ t ≤ 16 := by
  unfold badS
  simp
set_option maxHeartbeats 1000000 in
theorem slotted_any (A : Option Addr) (n c B : Nat) (ss : List Int) (w : World) (hx : Reads w B 1 A n (ss.map (Value.int .i64))) (hn : n ≤ 9223372036854775807) :
    Calls Try.prog 70 #[.slice A n c] w fun e w' => e = .returned (.bool (slotB n ss)) ∧ w = w' := by
  have HL := hide hx.len1
  go_enter Try.func70, Try.ntmps70
  go_wp2_with fail
  go_loop [3] (fun i => ∃ k : Nat, k ≤ n ∧ i = .int .i64 k ∧ (ss.take k).any badS = false) (fun i => n - (intOf i).toNat)
  case atStart => exact ⟨0, Nat.zero_le _, rfl, rfl⟩
  case round =>
    obtain ⟨k, hk, rfl, hany⟩ := hrel
    have HA := hide hany
    clear hany
    by_cases hlt : k < n
    · obtain ⟨b, off, x, rfl, hb, hxk, hc⟩ := hx.at1 hlt
      have HXK := hide hxk
      clear hxk
      cases hq : badS x
      · have z : decide (1 ≤ x ∧ x ≤ 16) = true := by simpa using badS_no.1 hq
        have HQ := hide hq
        go_wp2_with (go_at_call 56; refine (In_any _ _ _).mono ?_; rintro e w' ⟨rfl, rfl⟩)
        go_round
        case rel => exact ⟨k + 1, by omega, by go_num, any_take' _ _ _ _ HXK.out HQ.out HA.out⟩
        case measure => simp [intOf]; omega
      · have z : decide (1 ≤ x ∧ x ≤ 16) = false := by
          rw [decide_eq_false_iff_not]; intro h; rw [badS_no.2 h] at hq; cases hq
        have HX := hide (show slotB n ss = false by
          have h1 := any_hit badS _ _ _ HXK.out hq
          simp [slotB, h1])
        go_wp2_with (go_at_call 56; refine (In_any _ _ _).mono ?_; rintro e w' ⟨rfl, rfl⟩)
        go_ret
        exact ⟨by rw [HX.out]; rfl, rfl⟩
    · obtain rfl : k = n := by omega
      have HX := hide (show slotB k ss = (decide (1 ≤ k) && decide (k ≤ 20)) by
        have h1 := HA.out
        rw [take_all HL.out] at h1
        unfold slotB
        rw [h1]
        simp)
      go_wp2_with (go_at_call 56; refine (In_any _ _ _).mono ?_; rintro e w' ⟨rfl, rfl⟩)
      go_ret
      exact ⟨by
        rw [HX.out]
        exact ret_bool (by rw [Bool.eq_iff_iff]; simp only [Bool.and_eq_true, decide_eq_true_eq]; omega), rfl⟩
end

section
open Go.RowKit Go.Shelf
attribute [local go_sem] Oper.semAt_some
set_option linter.unusedVariables false

/-- Whether a place is one of machines with slots. -/
def winB (n : Nat) (ss : List Int) (p : Pl) : Bool := decide (0 ≤ p.m) && (decide (p.m < (n : Int)) && (decide (0 ≤ p.s) && decide (p.s < (ss[p.m.toNat]?).getD 0)))
theorem eqRP (p q : Pl) (w : World) : (binOp .eql 67 (.agg #[.int .i64 p.m, .int .i64 p.s]) (.agg #[.int .i64 q.m, .int .i64 q.s])).run Try.prog w = .ok (.bool (decide (p = q))) w := by
  have u3 := Try.underlying3
  have a3 := Try.isAgg3
  have z3 := Try.sizeOf3
  have hS : Try.prog.underlying 67 = some (.struct (Try.prog.fieldsOf 67)) := by kernel_rfl
  have hp : Try.prog.stoodInHeld 67 = false := by kernel_rfl
  rw [run_eql_struct, show (10000 : Nat) = 9999 + 1 from rfl, run_equalIn_agg w 9999 67 _ _ hS hp]
  simp only [Program.fieldsOf, Try.underlying67]
  go_simp
  obtain ⟨a, b⟩ := p
  obtain ⟨c, d⟩ := q
  by_cases h1 : a = c <;> by_cases h2 : b = d <;> simp [h1, h2]
set_option maxRecDepth 100000 in
set_option maxHeartbeats 2000000 in
theorem within_any (p : Pl) (A : Option Addr) (n c : Nat) (ss : List Int) (w : World) (hx : Reads w w.heap.size 1 A n (ss.map (Value.int .i64))) (hn : n ≤ 9223372036854775807) :
    Calls Try.prog 71 #[.agg #[.int .i64 p.m, .int .i64 p.s], .slice A n c] w (RetV w (.bool (winB n ss p))) := by
  have hB0 : Below w.heap.size w (w.alloc (.cells #[.int .i64 p.m, .int .i64 p.s] 85)) := (Below.refl _ _).alloc (Nat.le_refl _) _
  have hx0 := hx.up hB0
  have c0 : (w.alloc (.cells #[.int .i64 p.m, .int .i64 p.s] 85)).cell? ⟨w.heap.size, 0, none⟩ = some (.int .i64 p.m) := by simp
  have c1 : (w.alloc (.cells #[.int .i64 p.m, .int .i64 p.s] 85)).cell? ⟨w.heap.size, 1, none⟩ = some (.int .i64 p.s) := by simp
  obtain ⟨W, hW⟩ : ∃ W, w.alloc (.cells #[.int .i64 p.m, .int .i64 p.s] 85) = W := ⟨_, rfl⟩
  rw [hW] at hB0 hx0 c0 c1
  by_cases h0 : 0 ≤ p.m
  · have z0 : decide (0 ≤ p.m) = true := by simpa using h0
    by_cases h1 : p.m < (n : Int)
    · have z1 : decide (p.m < (n : Int)) = true := by simpa using h1
      by_cases h2 : 0 ≤ p.s
      · have z2 : decide (0 ≤ p.s) = true := by simpa using h2
        obtain ⟨b, off, x, hA, hb, hxk, hc⟩ := hx0.at1 (show p.m.toNat < n by omega)
        have HX := hide (show winB n ss p = decide (p.s < x) by unfold winB; rw [hxk]; simp [h0, h1, h2])
        have c2 : W.cell? ⟨b, off + p.m.toNat, none⟩ = some (.int .i64 x) := hc
        subst hA
        clear hxk hc
        go_enter Try.func71, Try.ntmps71
        go_wp2_with fail
        go_quiet (fail)
        go_wp2
        go_ret
        exact ⟨by rw [HX.out]; rfl, below_drewN hB0 _⟩
      · have z2 : decide (0 ≤ p.s) = false := by simpa using h2
        have HX := hide (show winB n ss p = false by unfold winB; simp [h2])
        go_enter Try.func71, Try.ntmps71
        go_wp2_with fail
        go_quiet (fail)
        go_wp2
        go_ret
        exact ⟨by rw [HX.out]; rfl, below_drewN hB0 _⟩
    · have z1 : decide (p.m < (n : Int)) = false := by simpa using h1
      have HX := hide (show winB n ss p = false by unfold winB; simp [h1])
      go_enter Try.func71, Try.ntmps71
      go_wp2_with fail
      go_quiet (fail)
      go_wp2
      go_ret
      exact ⟨by rw [HX.out]; rfl, below_drewN hB0 _⟩
  · have z0 : decide (0 ≤ p.m) = false := by simpa using h0
    have HX := hide (show winB n ss p = false by unfold winB; simp [h0])
    go_enter Try.func71, Try.ntmps71
    go_wp2_with fail
    go_quiet (fail)
    go_wp2
    go_ret
    exact ⟨by rw [HX.out]; rfl, below_drewN hB0 _⟩
set_option maxRecDepth 100000 in
set_option maxHeartbeats 2000000 in
theorem Rwithin_any (p : Pl) (A : Option Addr) (n c : Nat) (ss : List Int) (w : World) (hx : Reads w w.heap.size 1 A n (ss.map (Value.int .i64))) (hn : n ≤ 9223372036854775807) :
    Calls Try.prog 72 #[.agg #[.int .i64 p.m, .int .i64 p.s], .slice A n c] w (RetV w (.bool (winB n ss p))) := by
  have hB0 : Below w.heap.size w (w.alloc (.cells #[.int .i64 p.m, .int .i64 p.s] 67)) := (Below.refl _ _).alloc (Nat.le_refl _) _
  have hx0 := hx.up hB0
  have c0 : (w.alloc (.cells #[.int .i64 p.m, .int .i64 p.s] 67)).cell? ⟨w.heap.size, 0, none⟩ = some (.int .i64 p.m) := by simp
  have c1 : (w.alloc (.cells #[.int .i64 p.m, .int .i64 p.s] 67)).cell? ⟨w.heap.size, 1, none⟩ = some (.int .i64 p.s) := by simp
  obtain ⟨W, hW⟩ : ∃ W, w.alloc (.cells #[.int .i64 p.m, .int .i64 p.s] 67) = W := ⟨_, rfl⟩
  rw [hW] at hB0 hx0 c0 c1
  by_cases h0 : 0 ≤ p.m
  · have z0 : decide (0 ≤ p.m) = true := by simpa using h0
    by_cases h1 : p.m < (n : Int)
    · have z1 : decide (p.m < (n : Int)) = true := by simpa using h1
      by_cases h2 : 0 ≤ p.s
      · have z2 : decide (0 ≤ p.s) = true := by simpa using h2
        obtain ⟨b, off, x, hA, hb, hxk, hc⟩ := hx0.at1 (show p.m.toNat < n by omega)
        have HX := hide (show winB n ss p = decide (p.s < x) by unfold winB; rw [hxk]; simp [h0, h1, h2])
        have c2 : W.cell? ⟨b, off + p.m.toNat, none⟩ = some (.int .i64 x) := hc
        subst hA
        clear hxk hc
        go_enter Try.func72, Try.ntmps72
        go_wp2_with fail
        go_quiet (fail)
        go_wp2
        go_ret
        exact ⟨by rw [HX.out]; rfl, below_drewN hB0 _⟩
      · have z2 : decide (0 ≤ p.s) = false := by simpa using h2
        have HX := hide (show winB n ss p = false by unfold winB; simp [h2])
        go_enter Try.func72, Try.ntmps72
        go_wp2_with fail
        go_quiet (fail)
        go_wp2
        go_ret
        exact ⟨by rw [HX.out]; rfl, below_drewN hB0 _⟩
    · have z1 : decide (p.m < (n : Int)) = false := by simpa using h1
      have HX := hide (show winB n ss p = false by unfold winB; simp [h1])
      go_enter Try.func72, Try.ntmps72
      go_wp2_with fail
      go_quiet (fail)
      go_wp2
      go_ret
      exact ⟨by rw [HX.out]; rfl, below_drewN hB0 _⟩
  · have z0 : decide (0 ≤ p.m) = false := by simpa using h0
    have HX := hide (show winB n ss p = false by unfold winB; simp [h0])
    go_enter Try.func72, Try.ntmps72
    go_wp2_with fail
    go_quiet (fail)
    go_wp2
    go_ret
    exact ⟨by rw [HX.out]; rfl, below_drewN hB0 _⟩
/-- Whether two tasks stand where they must not. -/
def badR (op gr : Nat → Nat) (f : Nat → Pl) (t k : Nat) : Bool := decide (f k = f t) && (decide (op t = op k) || decide (gr (op t) ≠ gr (op k)))
def okR (op gr : Nat → Nat) (n : Nat) (ss : List Int) (f : Nat → Pl) (t : Nat) : Bool := winB n ss (f t) && (List.range t).all fun k => !badR op gr f t k
def plA (l : List Pl) (t : Nat) : Pl := (l[t]?).getD ⟨0, 0⟩
/-- Whether a placement is right. -/
def rgtB (g : Gr) (m : Nat) (gs : List Int) (n : Nat) (ss : List Int) (q : Nat) (f : Nat → Pl) : Bool := decide (errG g m gs = 0) && (slotB n ss && (decide (q = g.n1) && (List.range g.n1).all (okR (natA g.ops) (natA gs) n ss f)))
theorem all_more {f : Nat → Bool} {k : Nat} (h : (List.range k).all f = true) (hk : f k = true) : (List.range (k + 1)).all f = true := by
  rw [List.range_succ, List.all_append, h]; simpa using hk
theorem all_less {f : Nat → Bool} {k n : Nat} (hn : k < n) (hk : f k = false) : (List.range n).all f = false := by
  rw [List.all_eq_false]
  exact ⟨k, List.mem_range.2 hn, by simp [hk]⟩
theorem plA_at {l : List Pl} {t : Nat} {p : Pl} (h : l[t]? = some p) : p = plA l t := by unfold plA; rw [h]; rfl
end

section
open Go.RowKit Go.Shelf
attribute [local go_sem] Oper.semAt_some
set_option linter.unusedVariables false

theorem okR_bad {op gr : Nat → Nat} {n : Nat} {ss : List Int} {f : Nat → Pl} {t k : Nat} (hk : k < t) (h : badR op gr f t k = true) : okR op gr n ss f t = false := by
  unfold okR
  rw [all_less hk (by rw [h]; rfl)]
  simp
set_option maxRecDepth 100000 in
set_option maxHeartbeats 8000000 in
theorem RRight_any (g : Gr) (A : Option Addr) (m c : Nat) (gs : List Int) (A2 : Option Addr) (n c2 : Nat) (ss : List Int) (A3 : Option Addr) (q c3 : Nat) (l : List Pl) (w : World) (hg : g.Ok w w.heap.size) (hx : Reads w w.heap.size 1 A m (gs.map (Value.int .i64))) (hs : Reads w w.heap.size 1 A2 n (ss.map (Value.int .i64))) (hl : Reads w w.heap.size 2 A3 q (l.flatMap encPl)) (hn : g.n1 ≤ 4611686018427387904) (hm : g.n2 ≤ 4611686018427387904) (hmm : m ≤ 1000000) (hnn : n ≤ 1000000) (hq : q ≤ 1000000) :
    Calls Try.prog 41 #[.agg #[g.v1, g.v2], .slice A m c, .slice A2 n c2, .slice A3 q c3] w (RetV w (.bool (rgtB g m gs n ss q (plA l)))) := by
  have hB0 : Below w.heap.size w (w.alloc (.cells #[g.v1, g.v2] 25)) := (Below.refl _ _).alloc (Nat.le_refl _) _
  have k0 := Blk.new w 25 #[g.v1, g.v2]
  have hg0 := hg.up hB0
  have hx0 := hx.up hB0
  have HG := hide (Rgrouped_any g A m c gs _ hg0 hx0 hn hm hmm)
  have hwl : w.heap.size < (w.alloc (.cells #[g.v1, g.v2] 25)).heap.size := by simp
  have c1 : (w.alloc (.cells #[g.v1, g.v2] 25)).cell? ⟨w.heap.size, 0, none⟩ = some (.slice g.a1 g.n1 g.c1) := by simp [Gr.v1]
  have c2' : (w.alloc (.cells #[g.v1, g.v2] 25)).cell? ⟨w.heap.size, 1, none⟩ = some (.slice g.a2 g.n2 g.c2) := by simp [Gr.v2]
  obtain ⟨W, hW⟩ : ∃ W, w.alloc (.cells #[g.v1, g.v2] 25) = W := ⟨_, rfl⟩
  rw [hW] at hB0 k0 hg0 hx0 HG hwl c1 c2'
  obtain ⟨E, hE⟩ : ∃ E, errG g m gs = E := ⟨_, rfl⟩
  rw [hE] at HG
  by_cases h0 : E = 0
  · subst h0
    have hk := GrpOk.mk' hg hx hE
    have ho := OpsOk.of hg (errG_zero hE).1
    have HE := hide hE
    have HK := hide hk
    have HO := hide ho
    clear hE hk ho
    cases hsl : slotB n ss
    · have HR := hide (show rgtB g m gs n ss q (plA l) = false by unfold rgtB; rw [hsl]; simp)
      go_enter Try.func41, Try.ntmps41
      go_wp2_with fail
      refine HG.out.mono ?_
      rintro e W1 ⟨rfl, hB1⟩
      have HSL := hide (slotted_any A2 n c2 _ ss W1 (hs.up (bstep hB0 hB1)) (by omega))
      rw [hsl] at HSL
      have HB := hide (bstep hB0 hB1)
      clear hsl hB0 hB1 hg0 hx0 HG k0 c1 c2' hwl
      go_wp2_with (go_at_call 70; refine HSL.out.mono ?_; rintro e w' ⟨rfl, rfl⟩)
      go_ret
      exact ⟨by rw [HR.out]; rfl, HB.out⟩
    · have HSB := hide hsl
      by_cases hqn : q = g.n1
      · have z : ((q : Int) != (g.n1 : Int)) = false := by simp [hqn]
        have HQ := hide hqn
        have HR := hide (show rgtB g m gs n ss q (plA l) = (List.range q).all (okR (natA g.ops) (natA gs) n ss (plA l)) by unfold rgtB; rw [HE.out, HSB.out, hqn]; simp)
        have HL := hide (hl.len encPl_len (by omega))
        clear hqn
        go_enter Try.func41, Try.ntmps41
        go_wp2_with fail
        refine HG.out.mono ?_
        rintro e W1 ⟨rfl, hB1⟩
        have HSL := hide (slotted_any A2 n c2 _ ss W1 (hs.up (bstep hB0 hB1)) (by omega))
        rw [hsl] at HSL
        have hB01 := bstep hB0 hB1
        have k1 := k0.below hB1 hwl
        have hwl1 : w.heap.size < W1.heap.size := Nat.lt_of_lt_of_le hwl hB1.size
        have d1 := k1.cell 0
        simp [Gr.v1, Gr.v2] at d1
        clear hsl hB0 hB1 hg0 hx0 HG k0 c1 c2' hwl
        go_wp2_with (go_at_call 70; refine HSL.out.mono ?_; rintro e w' ⟨rfl, rfl⟩)
        clear d1 z HSL
        go_loopw [9, 10, 11, 12] (fun i _ _ _ wr => ∃ k : Nat, k ≤ q ∧ i = .int .i64 k ∧ (List.range k).all (okR (natA g.ops) (natA gs) n ss (plA l)) = true ∧ Blk wr w.heap.size 25 #[g.v1, g.v2] ∧ w.heap.size < wr.heap.size ∧ Below w.heap.size w wr) (fun i _ _ _ _ => q - (intOf i).toNat)
        case atStart => exact ⟨0, Nat.zero_le _, rfl, rfl, k1, hwl1, hB01⟩
        case round =>
          clear k1 hwl1 hB01
          obtain ⟨t, ht, rfl, hall, kb, hwl1, hB⟩ := hrel
          have HALL := hide hall
          clear hall
          by_cases hlt : t < q
          · obtain ⟨b, off, p, ha, hb, hpk, hcp⟩ := (hl.below hB).elem encPl_len HL.out hlt
            have HP := hide (plA_at hpk)
            have e0 : wr.cell? ⟨b, off + t * 2, none⟩ = some (.int .i64 p.m) := by simpa using hcp 0 _ rfl
            have e1 : wr.cell? ⟨b, off + t * 2 + 1, none⟩ = some (.int .i64 p.s) := by simpa [← Nat.add_assoc] using hcp 1 _ rfl
            have HWI := hide (Rwithin_any p A2 n c2 ss wr (hs.up hB) (by omega))
            clear hcp hpk
            rw [ha]
            have HA := hide ha
            clear ha
            have q1 : (0 : Int) ≤ (t : Int) := by omega
            have q2 : (t : Int) < (q : Int) := by omega
            cases hwi : winB n ss p
            · have HF := hide (show rgtB g m gs n ss q (plA l) = false by
                rw [HR.out]
                refine all_less hlt ?_
                unfold okR
                rw [← HP.out, hwi]; rfl)
              rw [hwi] at HWI
              clear hwi
              go_wp2_with fail
              refine HWI.out.mono ?_
              rintro e W3 ⟨rfl, hB3⟩
              have HB := hide (bstep hB hB3)
              clear hB hB3 HWI e0 e1 kb
              go_wp2
              go_ret
              exact ⟨by rw [HF.out]; rfl, HB.out⟩
            · have HWB := hide hwi
              rw [hwi] at HWI
              clear hwi
              go_wp2_with fail
              refine HWI.out.mono ?_
              rintro e W3 ⟨rfl, hB3⟩
              have hB03 := bstep hB hB3
              have k3 := kb.below hB3 hwl1
              have hwl3 : w.heap.size < W3.heap.size := Nat.lt_of_lt_of_le hwl1 hB3.size
              have HE0 := hide (fun (W : World) (hBW : Below w.heap.size w W) => (hl.below hBW))
              clear hB hB3 HWI e0 e1 kb hwl1
              go_wp2_with fail
              go_loopw [10, 11, 12] (fun i _ _ wr => ∃ k : Nat, k ≤ t ∧ i = .int .i64 k ∧ (List.range k).all (fun k => !badR (natA g.ops) (natA gs) (plA l) t k) = true ∧ Blk wr w.heap.size 25 #[g.v1, g.v2] ∧ w.heap.size < wr.heap.size ∧ Below w.heap.size w wr) (fun i _ _ _ => t - (intOf i).toNat)
              case atStart => exact ⟨0, Nat.zero_le _, rfl, rfl, k3, hwl3, hB03⟩
              case round =>
                clear k3 hwl3 hB03
                obtain ⟨k, hkt, rfl, hall, kb, hwl1, hB⟩ := hrel
                have HAL := hide hall
                clear hall
                have g0 := kb.cell 0
                simp [Gr.v1, Gr.v2] at g0
                by_cases hlt2 : k < t
                · have HLT2 := hide hlt2
                  obtain ⟨b0, off0, p0, ha0, hb0, hpk0, hcp0⟩ := (hl.below hB).elem encPl_len HL.out hlt
                  obtain ⟨b1, off1, r, ha1, hb1, hpk1, hcp1⟩ := (hl.below hB).elem encPl_len HL.out (show k < q by omega)
                  have hp0 : p0 = p := by rw [HP.out, plA_at hpk0]
                  subst hp0
                  rw [HA.out] at ha0 ha1
                  injection ha0 with ha0
                  injection ha0 with ha01 ha02
                  injection ha1 with ha1
                  injection ha1 with ha11 ha12
                  subst ha01 ha02 ha11 ha12
                  have HPR := hide (plA_at hpk1)
                  have e0 : wr.cell? ⟨b, off + t * 2, none⟩ = some (.int .i64 p0.m) := by simpa using hcp0 0 _ rfl
                  have e1 : wr.cell? ⟨b, off + t * 2 + 1, none⟩ = some (.int .i64 p0.s) := by simpa [← Nat.add_assoc] using hcp0 1 _ rfl
                  have f0 : wr.cell? ⟨b, off + k * 2, none⟩ = some (.int .i64 r.m) := by simpa using hcp1 0 _ rfl
                  have f1 : wr.cell? ⟨b, off + k * 2 + 1, none⟩ = some (.int .i64 r.s) := by simpa [← Nat.add_assoc] using hcp1 1 _ rfl
                  obtain ⟨bo, oo, x, hao, hbo, hxo, hco⟩ := (hg.r1.below hB).at1 (show t < g.n1 by rw [← HQ.out]; exact hlt)
                  obtain ⟨bo', oo', y, hao', hbo', hyo, hco'⟩ := (hg.r1.below hB).at1 (show k < g.n1 by rw [← HQ.out]; omega)
                  have h1 := HO.out.op t (by rw [← HQ.out]; exact hlt)
                  have h2 := HO.out.op k (by rw [← HQ.out]; omega)
                  have h3 := HK.out.opm t (by rw [← HQ.out]; exact hlt)
                  have h4 := HK.out.opm k (by rw [← HQ.out]; omega)
                  rw [hxo] at h1
                  rw [hyo] at h2
                  injection h1 with h1
                  injection h2 with h2
                  subst h1 h2
                  rw [hao] at hao'
                  injection hao' with hao'
                  injection hao' with hao1 hao2
                  subst hao1 hao2
                  obtain ⟨u, hu⟩ : ∃ u, natA g.ops t = u := ⟨_, rfl⟩
                  obtain ⟨v, hv⟩ : ∃ v, natA g.ops k = v := ⟨_, rfl⟩
                  have HU := hide hu
                  have HV := hide hv
                  rw [hu] at hco h3
                  rw [hv] at hco' h4
                  obtain ⟨bg, og, x2, hag, hbg, hxg, hcg⟩ := (hx.below hB).at1 h3
                  obtain ⟨bg', og', y2, hag', hbg', hyg, hcg'⟩ := (hx.below hB).at1 h4
                  have h5 := HK.out.gr u h3
                  have h6 := HK.out.gr v h4
                  rw [hxg] at h5
                  rw [hyg] at h6
                  injection h5 with h5
                  injection h6 with h6
                  subst h5 h6
                  rw [hag] at hag'
                  injection hag' with hag'
                  injection hag' with hag1 hag2
                  subst hag1 hag2
                  obtain ⟨u2, hu2⟩ : ∃ u2, natA gs u = u2 := ⟨_, rfl⟩
                  obtain ⟨v2, hv2⟩ : ∃ v2, natA gs v = v2 := ⟨_, rfl⟩
                  have HU2 := hide hu2
                  have HV2 := hide hv2
                  rw [hu2] at hcg
                  rw [hv2] at hcg'
                  have i0 : wr.cell? ⟨bo, oo + t, none⟩ = some (.int .i64 (u : Int)) := hco
                  have i1 : wr.cell? ⟨bo, oo + k, none⟩ = some (.int .i64 (v : Int)) := hco'
                  have i2 : wr.cell? ⟨bg, og + u, none⟩ = some (.int .i64 (u2 : Int)) := hcg
                  have i3 : wr.cell? ⟨bg, og + v, none⟩ = some (.int .i64 (v2 : Int)) := hcg'
                  have hao3 := hao
                  rw [hao3] at g0
                  have HBD := hide (show badR (natA g.ops) (natA gs) (plA l) t k = (decide (r = p0) && (decide (u = v) || decide (u2 ≠ v2))) by unfold badR; rw [← HP.out, ← HPR.out, HU.out, HV.out, HU2.out, HV2.out])
                  rw [hag]
                  clear hcp0 hcp1 hpk0 hpk1 hxo hco hyo hco' hu hv hxg hcg hyg hcg' hu2 hv2 hao hao3 hag
                  have HKB := hide kb
                  have HEQ := eqRP r p0
                  have q3 : (0 : Int) ≤ (k : Int) := by omega
                  have q4 : (k : Int) < (q : Int) := by omega
                  have q5 : (k : Int) < (t : Int) := by omega
                  have q6 : (t : Int) < (g.n1 : Int) := by have := HQ.out; omega
                  have q7 : (k : Int) < (g.n1 : Int) := by omega
                  have q8 : (0 : Int) ≤ (u : Int) := by omega
                  have q9 : (0 : Int) ≤ (v : Int) := by omega
                  have q10 : (u : Int) < (m : Int) := by omega
                  have q11 : (v : Int) < (m : Int) := by omega
                  clear kb
                  have hgt : Try.prog.eqGuardType Try.prog.depth 67 = false := by kernel_rfl
                  by_cases x1 : r = p0
                  · have z1 : decide (r = p0) = true := by simpa using x1
                    rw [z1] at HBD
                    simp only [z1] at HEQ
                    clear x1
                    by_cases x2 : u = v
                    · have z2 : ((u : Int) == (v : Int)) = true := by simp [x2]
                      have z2' : decide ((u : Int) = (v : Int)) = true := by simp [x2]
                      have HF := hide (show rgtB g m gs n ss q (plA l) = false by
                        rw [HR.out]
                        exact all_less hlt (okR_bad HLT2.out (by rw [HBD.out]; simp [x2])))
                      clear x2
                      go_wp2_with fail
                      go_quiet (fail)
                      go_wp2_with fail
                      go_quiet (fail)
                      go_wp2
                      go_ret
                      exact ⟨by rw [HF.out]; rfl, below_drewN (below_drewN hB _) _⟩
                    · have z2 : ((u : Int) == (v : Int)) = false := by simp; omega
                      have z2' : decide ((u : Int) = (v : Int)) = false := by simp; omega
                      by_cases x3 : u2 = v2
                      · have z3 : ((u2 : Int) != (v2 : Int)) = false := by simp [x3]
                        have HNB := hide (show badR (natA g.ops) (natA gs) (plA l) t k = false by rw [HBD.out]; simp [x2, x3])
                        clear x2 x3
                        go_wp2_with fail
                        go_quiet (fail)
                        go_wp2_with fail
                        go_quiet (fail)
                        go_wp2
                        go_roundw
                        case rel => exact ⟨k + 1, by omega, by go_num, all_more HAL.out (by rw [HNB.out]; rfl), HKB.out, hwl1, below_drewN hB _⟩
                        case measure => simp [intOf]; omega
                      · have z3 : ((u2 : Int) != (v2 : Int)) = true := by simp; omega
                        have HF := hide (show rgtB g m gs n ss q (plA l) = false by
                          rw [HR.out]
                          exact all_less hlt (okR_bad HLT2.out (by rw [HBD.out]; simp [x3])))
                        clear x2 x3
                        go_wp2_with fail
                        go_quiet (fail)
                        go_wp2_with fail
                        go_quiet (fail)
                        go_wp2
                        go_ret
                        exact ⟨by rw [HF.out]; rfl, below_drewN (below_drewN hB _) _⟩
                  · have z1 : decide (r = p0) = false := by simpa using x1
                    rw [z1] at HBD
                    simp only [z1] at HEQ
                    clear x1
                    go_wp2_with fail
                    go_quiet (fail)
                    go_wp2_with fail
                    go_quiet (fail)
                    go_wp2
                    go_roundw
                    case rel => exact ⟨k + 1, by omega, by go_num, all_more HAL.out (by rw [HBD.out]; rfl), HKB.out, hwl1, below_drewN hB _⟩
                    case measure => simp [intOf]; omega
                · obtain rfl : k = t := by omega
                  have HOK := hide (show okR (natA g.ops) (natA gs) n ss (plA l) k = true by unfold okR; rw [← HP.out, HWB.out, HAL.out]; rfl)
                  have HKB := hide kb
                  clear kb g0
                  go_wp2
                  go_roundw
                  case rel => exact ⟨k + 1, by omega, by go_num, all_more HALL.out HOK.out, HKB.out, hwl1, hB⟩
                  case measure => simp [intOf]; omega
          · obtain rfl : t = q := by omega
            clear kb
            go_wp2
            go_ret
            exact ⟨by rw [HR.out, HALL.out]; rfl, hB⟩
      · have z : ((q : Int) != (g.n1 : Int)) = true := by simp; omega
        have HR := hide (show rgtB g m gs n ss q (plA l) = false by unfold rgtB; simp [hqn])
        clear hqn
        go_enter Try.func41, Try.ntmps41
        go_wp2_with fail
        refine HG.out.mono ?_
        rintro e W1 ⟨rfl, hB1⟩
        have HSL := hide (slotted_any A2 n c2 _ ss W1 (hs.up (bstep hB0 hB1)) (by omega))
        rw [hsl] at HSL
        have HB := hide (bstep hB0 hB1)
        have k1 := k0.below hB1 hwl
        have d1 := k1.cell 0
        simp [Gr.v1, Gr.v2] at d1
        clear hsl hB0 hB1 hg0 hx0 HG k0 c1 c2' hwl
        go_wp2_with (go_at_call 70; refine HSL.out.mono ?_; rintro e w' ⟨rfl, rfl⟩)
        go_ret
        exact ⟨by rw [HR.out]; rfl, HB.out⟩
  · have z0 : (E != 0) = true := by simpa using h0
    have HR := hide (show rgtB g m gs n ss q (plA l) = false by unfold rgtB; rw [hE]; simp [h0])
    clear hE
    go_enter Try.func41, Try.ntmps41
    go_wp2_with fail
    refine HG.out.mono ?_
    rintro e W1 ⟨rfl, hB1⟩
    have HB := hide (bstep hB0 hB1)
    clear hB0 hB1 hg0 hx0 HG k0 c1 c2' hwl
    go_wp2
    go_ret
    exact ⟨by rw [HR.out]; rfl, HB.out⟩
end

end Go.Proofs.Ytblepaocekojbaa
