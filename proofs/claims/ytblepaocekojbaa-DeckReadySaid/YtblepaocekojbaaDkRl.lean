/-
  The plain laws behind DeckReady: what Ready answers is one answer; the tasks of the waves below n are no error and whole regions, and each region of wave n can then begin.
-/
import Derived.Test.YtblepaocekojbaaDkDR
import Derived.Test.YtblepaocekojbaaDkLm
namespace Go.Proofs.Ytblepaocekojbaa

/-- What Ready answers: a list and an error. -/
inductive RyOf (g : Gr) (dn : List Int) : List Int → Int → Prop
  | bad (h : errR g dn ≠ 0) : RyOf g dn [] (errR g dn)
  | no (h : errR g dn = 0) (hw : ¬ whole g dn) : RyOf g dn [] 10
  | yes (h : errR g dn = 0) (hw : whole g dn) : RyOf g dn (tkn (rdy g dn) (wvK g)) 0
theorem ry_one (g : Gr) (dn : List Int) : ∃ (ys : List Int) (E : Int), RyOf g dn ys E ∧ ys.length ≤ g.n1 ∧ ∀ w e w', RetRA g dn w e w' → RetSlE w 1 ys.length (intsL ys) E e w' := by
  by_cases h : errR g dn = 0
  · by_cases hw : whole g dn
    · exact ⟨_, 0, .yes h hw, Nat.le_trans (tkn_len _ _) (numb_le _ _), fun w e w' k => by
        rcases k with ⟨k, _⟩ | ⟨_, k⟩
        · exact absurd h k
        · rcases k with ⟨_, k⟩ | ⟨k, _⟩
          · exact k
          · exact absurd hw k⟩
    · exact ⟨[], 10, .no h hw, Nat.zero_le _, fun w e w' k => by
        rcases k with ⟨k, _⟩ | ⟨_, k⟩
        · exact absurd h k
        · rcases k with ⟨k, _⟩ | ⟨_, k⟩
          · exact absurd k hw
          · exact k⟩
  · exact ⟨[], errR g dn, .bad h, Nat.zero_le _, fun w e w' k => by
      rcases k with ⟨_, k⟩ | ⟨k, _⟩
      · exact k
      · exact absurd k h⟩
theorem Like.retRA {g g' : Gr} (h : Like g g') (dn : List Int) (w : World) (e : Ending) (w' : World) : RetRA g' dn w e w' ↔ RetRA g dn w e w' := by
  unfold RetRA RetRy errR whole rdy wvNum wvK
  rw [h.valid, h.es, h.n1]

theorem tkn_asc (p : Nat → Bool) (n : Nat) : (tkn p n).Pairwise (fun a b => a < b) := by
  unfold tkn
  rw [List.pairwise_map]
  refine (List.pairwise_lt_range.filter _).imp fun h => ?_
  show (Int.ofNat _) < (Int.ofNat _)
  simpa using h
theorem tkn_all {n : Nat} {p : Nat → Bool} (h : ∀ t, t < n → p t = true) : (tkn p n).length = n := by
  induction n with
  | zero => rfl
  | succ k ih =>
    rw [tkn_succ, if_pos (h k (by omega)), List.length_append, ih fun t ht => h t (by omega)]; rfl
theorem tkn_or (p q : Nat → Bool) (n : Nat) (hd : ∀ t, t < n → p t = true → q t = false) : (tkn p n ++ tkn q n).Perm (tkn (fun t => p t || q t) n) := by
  induction n with
  | zero => exact .nil
  | succ k ih =>
    have ih' := ih fun t ht => hd t (by omega)
    rw [tkn_succ, tkn_succ, tkn_succ]
    cases hp : p k
    · cases hq : q k
      · simpa using ih'
      · simp only [Bool.false_eq_true, if_false, if_true, Bool.or_true]
        rw [← List.append_assoc]
        exact ih'.append_right _
    · have hq := hd k (by omega) hp
      simp only [hq, Bool.false_eq_true, if_false, if_true, Bool.or_false]
      rw [List.append_assoc]
      refine (List.Perm.append_left _ List.perm_append_comm).trans ?_
      rw [← List.append_assoc]
      exact ih'.append_right _
theorem srt_uniq {a b : List Int} (hp : a.Perm b) (ha : srt a) (hb : srt b) : a = b := by
  induction a generalizing b with
  | nil => exact (List.nil_perm.1 hp).symm
  | cons x r ih =>
    cases b with
    | nil => exact absurd hp.length_eq (by simp)
    | cons y s =>
      unfold srt at ha hb
      rw [List.pairwise_cons] at ha hb
      have h1 : y ≤ x := by
        rcases List.mem_cons.1 (hp.mem_iff.1 List.mem_cons_self) with e | e
        · omega
        · exact hb.1 x e
      have h2 : x ≤ y := by
        rcases List.mem_cons.1 (hp.mem_iff.2 List.mem_cons_self) with e | e
        · omega
        · exact ha.1 y e
      obtain rfl : x = y := by omega
      rw [ih (List.Perm.cons_inv hp) ha.2 hb.2]

/-- The tasks of the waves below n. -/
def dnW (g : Gr) (W : Nat → Nat) (n : Nat) : List Int := tkn (fun t => decide (W (wvNum g t) < n)) g.n1
def nwW (g : Gr) (W : Nat → Nat) (n k : Nat) : List Int := tkn (fun t => decide (W (wvNum g t) = n)) k
theorem dnW_zero (g : Gr) (W : Nat → Nat) : dnW g W 0 = [] := by
  unfold dnW tkn
  simp
theorem dnW_next {g : Gr} {W : Nat → Nat} {n : Nat} {ys : List Int} (hp : ys.Perm (dnW g W n ++ nwW g W n g.n1)) (hs : srt ys) : ys = dnW g W (n + 1) := by
  refine srt_uniq ((hp.trans (tkn_or _ _ _ ?_)).trans (.of_eq ?_)) hs ((tkn_asc _ _).imp fun h => by omega)
  · intro t _ h
    simp only [decide_eq_true_eq, decide_eq_false_iff_not] at h ⊢
    omega
  · unfold dnW
    congr 1
    funext t
    rw [Bool.eq_iff_iff]
    simp only [Bool.or_eq_true, decide_eq_true_eq]
    omega
theorem dnW_has {g : Gr} {W : Nat → Nat} {n t : Nat} (ht : t < g.n1) : hasB (dnW g W n) (t : Int) = decide (W (wvNum g t) < n) := has_tkn ht
theorem dnW_err {g : Gr} (hv : validB g = true) (W : Nat → Nat) (n : Nat) : errR g (dnW g W n) = 0 := by
  have h1 : ascB (dnW g W n) = true := asc_pair.2 (tkn_asc _ _)
  have h2 : (dnW g W n).any (outT g.n1) = false := out_any.2 fun x hx => by
    obtain ⟨t, ht, _, rfl⟩ := mem_tkn.1 hx
    omega
  unfold errR
  rw [hv, h1, h2]; rfl
theorem dnW_whole (g : Gr) (W : Nat → Nat) (n : Nat) : whole g (dnW g W n) := by
  intro i hi
  have hL := Lab.labs g.es
  have hl := hL.le i
  have hn : wvNum g (labs g.es i) = wvNum g i := (numOf_eq hL).2 (hL.idem i)
  rw [dnW_has hi, dnW_has (by omega), hn]
theorem dnW_rdy {g : Gr} (hv : validB g = true) {W : Nat → Nat} (hW : IsWave (Pr (wvNum g) g.es) W) {n p : Nat} (hp : W p = n) : rdy g (dnW g W n) p = true := by
  unfold rdy
  rw [Bool.and_eq_true]
  constructor
  · rw [List.all_eq_true]
    intro i hi
    rw [dnW_has (List.mem_range.1 hi)]
    by_cases h : wvNum g i = p
    · rw [h]; simp [hp]
    · simp [h]
  · rw [Bool.not_eq_true', List.any_eq_false]
    intro e he
    obtain ⟨k, hk⟩ := List.getElem?_of_mem he
    obtain ⟨v1, v2, v3, v4, v5⟩ := ok_edge hv hk
    obtain ⟨f, hf⟩ := Int.eq_ofNat_of_zero_le v1
    unfold holdL
    simp only [Bool.and_eq_true, decide_eq_true_eq, Bool.not_eq_true', not_and, Bool.not_eq_false]
    intro _ ht hne
    have := hW.up _ _ ⟨e, he, rfl, rfl, by rw [ht]; exact hne⟩
    rw [hf, dnW_has (by omega), decide_eq_true_eq]
    rw [ht, hp, hf] at this
    simpa using this
theorem dnW_full {g : Gr} (hv : validB g = true) {W : Nat → Nat} (hW : IsWave (Pr (wvNum g) g.es) W) : (dnW g W (wvK g + 1)).length = g.n1 := by
  unfold dnW
  refine tkn_all fun t ht => ?_
  rw [decide_eq_true_eq]
  have := hW.lt (n := wvK g) (fun a b h => pr_lt hv h) _ (numOf_num (Lab.labs g.es) ht)
  show W (numOf (labs g.es) t) < _
  omega
/-- Ready at the tasks of the waves below n. -/
theorem dnW_ret {g : Gr} (hv : validB g = true) (W : Nat → Nat) (n : Nat) {w : World} {e : Ending} {w' : World} (h : RetRA g (dnW g W n) w e w') :
    RetSlE w 1 (tkn (rdy g (dnW g W n)) (wvK g)).length (intsL (tkn (rdy g (dnW g W n)) (wvK g))) 0 e w' := by
  rcases h with ⟨h, _⟩ | ⟨_, h⟩
  · exact absurd (dnW_err hv W n) h
  · rcases h with ⟨_, h⟩ | ⟨h, _⟩
    · exact h
    · exact absurd (dnW_whole g W n) h
end Go.Proofs.Ytblepaocekojbaa
