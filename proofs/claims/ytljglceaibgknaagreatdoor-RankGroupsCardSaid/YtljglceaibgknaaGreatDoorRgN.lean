/-
  The reference's Groups, step by step, as plain data; a list of bags whose last one is replaced. No program in sight.
-/
import Derived.Test.YtljglceaibgknaaGreatDoorRgG
namespace Go.Proofs.YtljglceaibgknaaGreatDoor
open Go.RowKit
set_option linter.unusedVariables false

/-- The list before the last bag is put together. -/
def preG (out : List Bg) (t : (Rw × Int) × Int) : List Bg := if t.2 = 1 then out ++ [[]] else out
theorem grpS_pre (out : List Bg) (t : (Rw × Int) × Int) : grpS out t = (preG out t).dropLast ++ [putB ((preG out t).getLastD []) t.1.1 t.1.2] := by
  unfold grpS preG
  split
  · rw [List.dropLast_concat, List.getLastD_concat]
  · rfl
/-- Each bag so far is made of some of the lines so far. -/
theorem grp_part {F : List ((Rw × Int) × Int)} : ∀ (q : Nat), ∀ d ∈ (F.take q).foldl grpS [], ∃ xs : Bg, xs.Sublist ((F.take q).map (·.1)) ∧ d = aftB [] xs
  | 0, d, h => by simp at h
  | q + 1, d, h => by
    have ih := grp_part (F := F) q
    by_cases hq : q < F.length
    · have ht : F[q]? = some (F[q]'hq) := List.getElem?_eq_getElem hq
      obtain ⟨t, htt⟩ : ∃ t, F[q]'hq = t := ⟨_, rfl⟩
      rw [htt] at ht
      rw [take_snoc' ht] at h ⊢
      rw [List.foldl_append] at h
      simp only [List.foldl_cons, List.foldl_nil] at h
      rw [List.map_append]
      have hold : ∀ d ∈ (F.take q).foldl grpS [], ∃ xs : Bg, xs.Sublist ((F.take q).map (·.1) ++ [t].map (·.1)) ∧ d = aftB [] xs := fun d hd => by
        obtain ⟨xs, h1, h2⟩ := ih d hd
        exact ⟨xs, h1.trans (List.sublist_append_left _ _), h2⟩
      obtain ⟨D, hD⟩ : ∃ D, (F.take q).foldl grpS [] = D := ⟨_, rfl⟩
      rw [hD] at h hold ih
      unfold grpS at h
      split at h
      · rcases List.mem_append.1 h with h | h
        · exact hold d h
        · obtain rfl := List.mem_singleton.1 h
          exact ⟨[t.1], (List.sublist_append_right _ _), rfl⟩
      · rcases List.mem_append.1 h with h | h
        · exact hold d (List.dropLast_subset _ h)
        · obtain rfl := List.mem_singleton.1 h
          cases hDn : D with
          | nil => exact ⟨[t.1], (List.sublist_append_right _ _), rfl⟩
          | cons z zs =>
            have hl : (z :: zs).getLastD [] ∈ D := by
              rw [hDn, List.getLastD_eq_getLast?, List.getLast?_eq_some_getLast (by simp)]
              exact List.getLast_mem _
            obtain ⟨xs, h1, h2⟩ := ih _ hl
            refine ⟨xs ++ [t.1], h1.append (List.Sublist.refl _), ?_⟩
            rw [aft_snoc, ← h2]
    · rw [List.take_of_length_le (by omega)] at h ⊢
      rw [List.take_of_length_le (by omega)] at ih
      exact ih d h
theorem grp_len {F : List ((Rw × Int) × Int)} (q : Nat) : ((F.take q).foldl grpS []).length ≤ q := by
  induction q with
  | zero => simp
  | succ q ih =>
    by_cases hq : q < F.length
    · have ht : F[q]? = some (F[q]'hq) := List.getElem?_eq_getElem hq
      rw [take_snoc' ht, List.foldl_append]
      simp only [List.foldl_cons, List.foldl_nil]
      obtain ⟨D, hD⟩ : ∃ D, (F.take q).foldl grpS [] = D := ⟨_, rfl⟩
      rw [hD] at ih ⊢
      unfold grpS
      split
      · rw [List.length_append]; simp; omega
      · rw [List.length_append, List.length_dropLast]; simp; omega
    · rw [List.take_of_length_le (by omega)] at ih ⊢
      omega
theorem grp_ne {s : Stp} {b : Bg} {q : Nat} {t : (Rw × Int) × Int} (ht : (lnF s b)[q]? = some t) : preG (((lnF s b).take q).foldl grpS []) t ≠ [] := by
  unfold preG
  split
  · simp
  · rename_i h1
    cases q with
    | zero => exact absurd (lnF_zero ht) h1
    | succ q =>
      obtain ⟨hlt, _⟩ := List.getElem?_eq_some_iff.1 ht
      have h2 : (lnF s b)[q]? = some ((lnF s b)[q]'(by omega)) := List.getElem?_eq_getElem (by omega)
      rw [take_snoc' h2, List.foldl_append]
      simp only [List.foldl_cons, List.foldl_nil]
      unfold grpS
      split <;> simp
/-- The last bag of a list is replaced. -/
theorem GoI.last {w W W' : World} {D : List Bg} {gl : List Gp} {go m c : Nat} {g' : Gp} (hbel : Below w.heap.size w W) (hown : W.ownsRow w.heap.size 26 1 (.slice (some ⟨go, 0, none⟩) (m + 1) c) gl.length (gl.flatMap encGp)) (hm : gl.length = m + 1) (hd : gl.map (fun g => dat g.l) = D)
    (hgl : ∀ g ∈ gl, BagR W w.heap.size g.A g.n g.l ∧ g.n ≤ g.c ∧ ∀ b o, 0 < g.n → g.A = some ⟨b, o, none⟩ → (Value.slice (some ⟨go, 0, none⟩) (m + 1) c).ownBlock ≠ some b)
    (hB : Below W.heap.size W W') (hg : W'.ownsRow W.heap.size 52 2 (.slice g'.A g'.n g'.c) g'.n (g'.l.flatMap encIt)) (hrows : Rows_ W' w.heap.size g'.l) (hc : g'.n ≤ g'.c) (hle : g'.n ≤ 9223372036854775807) :
    GoI w (D.dropLast ++ [dat g'.l]) (.slice (some ⟨go, 0, none⟩) (m + 1) c) (W'.setCell ⟨go, m, none⟩ (.slice g'.A g'.n g'.c)) := by
  have how := hown
  rw [hm] at how
  obtain ⟨hlow, hlt⟩ := how.lt go rfl
  have how2 := own_below how hB
  obtain ⟨cs, fz, hcs⟩ := own_cells how2 (g := go) rfl
  have hrow : ∀ l : List It, Rows_ W' w.heap.size l → Rows_ (W'.setCell ⟨go, m, none⟩ (.slice g'.A g'.n g'.c)) w.heap.size l := fun l hl z hz => (hl z hz).setCell (p := ⟨go, m, none⟩) hcs (by decide) (by show w.heap.size ≤ go; omega) _
  have hbag : ∀ k : Gp, BagR W' w.heap.size k.A k.n k.l → (∀ b o, 0 < k.n → k.A = some ⟨b, o, none⟩ → b ≠ go) → BagR (W'.setCell ⟨go, m, none⟩ (.slice g'.A g'.n g'.c)) w.heap.size k.A k.n k.l := fun k hk hf => by
    refine ⟨⟨hk.rd.1, fun h0 => ?_⟩, hrow _ hk.rows, hk.le⟩
    obtain ⟨b, o, e, h1, h2⟩ := hk.rd.2 h0
    refine ⟨b, o, e, by simpa [World.setCell] using h1, fun j u hu => ?_⟩
    rw [World.cell?_of_block (Below.heap_setCell W' ⟨go, m, none⟩ _ b (hf b o h0 e))]
    exact h2 j u hu
  have hsz := hbel.size
  refine ⟨(hbel.trans (hB.mono hsz)).setCell (p := ⟨go, m, none⟩) (by show w.heap.size ≤ go; omega) _, ⟨gl.dropLast ++ [g'], ?_, ?_, fun k hk => ?_⟩⟩
  · have e1 : gl.dropLast ++ [g'] = gl.set m g' := by
      apply List.ext_getElem?
      intro j
      rw [List.getElem?_set]
      rcases Nat.lt_trichotomy j m with h | h | h
      · rw [List.getElem?_append_left (by rw [List.length_dropLast]; omega), if_neg (by omega), List.getElem?_dropLast, if_pos (by omega)]
      · subst h
        rw [List.getElem?_append_right (by rw [List.length_dropLast]; omega), if_pos rfl, if_pos (by omega), List.length_dropLast, hm]
        simp
      · rw [List.getElem?_append_right (by rw [List.length_dropLast]; omega), if_neg (by omega), List.length_dropLast, hm, List.getElem?_eq_none (by simp; omega), List.getElem?_eq_none (by omega)]
    rw [e1, List.length_set, hm, flat_setG (by omega)]
    exact own_store2 how2 _
  · rw [List.map_append, List.map_dropLast, hd]
    rfl
  · have hgo : ∀ b, (Value.slice (some ⟨go, 0, none⟩) (m + 1) c).ownBlock ≠ some b ↔ b ≠ go := fun b => by
      show some go ≠ some b ↔ b ≠ go
      constructor
      · exact fun h e => h (by rw [e])
      · exact fun h e => h (by injection e with e; exact e.symm)
    rcases List.mem_append.1 hk with hk | hk
    · obtain ⟨a1, a2, a3⟩ := hgl k (List.dropLast_subset _ hk)
      exact ⟨hbag k (a1.below hB) fun b o h0 e => (hgo b).1 (a3 b o h0 e), a2, a3⟩
    · obtain rfl := List.mem_singleton.1 hk
      have hfar : ∀ b o, 0 < k.n → k.A = some ⟨b, o, none⟩ → b ≠ go := fun b o h0 e e2 => by
        have := hg.lt b (by rw [e]; rfl)
        omega
      exact ⟨hbag _ ⟨Reads.of_own hg, hrows, hle⟩ hfar, hc, fun b o h0 e => (hgo b).2 (hfar b o h0 e)⟩
theorem GoI.lastN {w W W' : World} {D : List Bg} {gl : List Gp} {go N m c : Nat} {g' : Gp} (hNm : N = m + 1) (hbel : Below w.heap.size w W) (hown : W.ownsRow w.heap.size 26 1 (.slice (some ⟨go, 0, none⟩) N c) N (gl.flatMap encGp)) (hm : gl.length = N) (hd : gl.map (fun g => dat g.l) = D)
    (hgl : ∀ g ∈ gl, BagR W w.heap.size g.A g.n g.l ∧ g.n ≤ g.c ∧ ∀ b o, 0 < g.n → g.A = some ⟨b, o, none⟩ → go ≠ b)
    (hB : Below W.heap.size W W') (hg : W'.ownsRow W.heap.size 52 2 (.slice g'.A g'.n g'.c) g'.n (g'.l.flatMap encIt)) (hrows : Rows_ W' w.heap.size g'.l) (hc : g'.n ≤ g'.c) (hle : g'.n ≤ 9223372036854775807) :
    GoI w (D.dropLast ++ [dat g'.l]) (.slice (some ⟨go, 0, none⟩) N c) (W'.setCell ⟨go, m, none⟩ (.slice g'.A g'.n g'.c)) := by
  subst hNm
  exact GoI.last hbel (by rw [hm]; exact hown) hm hd (fun g hgm => ⟨(hgl g hgm).1, (hgl g hgm).2.1, fun b o h0 e => by
    show some go ≠ some b
    intro e2
    injection e2 with e2
    exact (hgl g hgm).2.2 b o h0 e e2⟩) hB hg hrows hc hle
end Go.Proofs.YtljglceaibgknaaGreatDoor
