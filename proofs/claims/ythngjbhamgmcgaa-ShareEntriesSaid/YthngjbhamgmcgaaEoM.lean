/-
  Entries that are dealt: in plain lists; the grid of the parts.
-/
import Derived.Test.YthngjbhamgmcgaaEnTo
import Derived.Test.YthngjbhamgmcgaaShA
import Derived.Test.YthngjbhamgmcgaaGrid
namespace Go.Proofs.Ythngjbhamgmcgaa
open Go.RowKit Go.Deep

/-- The part of an entry. -/
def pN (P G : Nat) (x : En) : Nat := x.g.toNat * P / G
/-- What part p gets. -/
def dealE (P G : Nat) (s : List En) (p : Nat) : List En := s.filter fun x => decide (pN P G x = p)
theorem dealE_snoc (P G : Nat) (s : List En) (x : En) (p : Nat) : dealE P G (s ++ [x]) p = if p = pN P G x then dealE P G s p ++ [x] else dealE P G s p := by
  unfold dealE
  rw [List.filter_append]
  by_cases h : p = pN P G x
  · subst h; simp
  · rw [if_neg h]
    have : ¬ pN P G x = p := fun e => h e.symm
    simp [this]
theorem dealE_le (P G : Nat) (s : List En) (p : Nat) : (dealE P G s p).length ≤ s.length := List.length_filter_le _ _
theorem dealE_mem {P G : Nat} {s : List En} {p : Nat} {x : En} (h : x ∈ dealE P G s p) : x ∈ s := (List.mem_filter.1 h).1
theorem dealE_perm {P G : Nat} {a b : List En} (h : a.Perm b) (p : Nat) : (dealE P G a p).Perm (dealE P G b p) := h.filter _
theorem dealE_srt {P G : Nat} {s : List En} (h : SrtE s) (p : Nat) : SrtE (dealE P G s p) := List.Pairwise.filter _ h
/-- All entries are of groups that there are. -/
def inG (G : Int) (l : List En) : Bool := l.all fun x => decide (x.g < G)
theorem inG_perm {G : Int} {a b : List En} (h : a.Perm b) : inG G a = inG G b := by unfold inG; exact h.all_eq
theorem inG_of {G : Int} {l : List En} (h : inG G l = true) : ∀ x ∈ l, x.g < G := fun x hx => by
  have := List.all_eq_true.1 h x hx
  simpa using this
theorem okE_g {x : En} (h : okE x = true) : 0 ≤ x.g ∧ x.g < 128 := by
  unfold okE at h
  simp only [Bool.and_eq_true, decide_eq_true_eq] at h
  exact ⟨h.1.1.1.1, h.1.1.1.2⟩
theorem allE_g {l : List En} (h : allE l = true) : ∀ x ∈ l, 0 ≤ x.g ∧ x.g < 128 := fun x hx => okE_g (List.all_eq_true.1 h x hx)
theorem pN_lt {P G : Nat} {x : En} (hP : 1 ≤ P) (h0 : 0 ≤ x.g) (h1 : x.g < G) : pN P G x < P := by
  unfold pN
  have hg : x.g.toNat < G := by omega
  rw [Nat.div_lt_iff_lt_mul (by omega), Nat.mul_comm P]
  exact Nat.mul_lt_mul_of_pos_right hg (by omega)
/-- All parts, one behind the other, are all entries. -/
theorem dealE_all (P G : Nat) (s : List En) (N : Nat) : (((List.range N).map (dealE P G s)).flatten).Perm (s.filter fun x => decide (pN P G x < N)) := by
  induction N with
  | zero => simp
  | succ N ih =>
    rw [List.range_succ, List.map_append, List.flatten_append]
    have h1 := List.filter_append_perm (fun x => decide (pN P G x < N)) (s.filter fun x => decide (pN P G x < N + 1))
    rw [List.filter_filter, List.filter_filter] at h1
    have e1 : (s.filter fun x => decide (pN P G x < N) && decide (pN P G x < N + 1)) = s.filter fun x => decide (pN P G x < N) := by
      apply List.filter_congr
      intro x _
      by_cases h : pN P G x < N
      · simp [h]; omega
      · simp [h]
    have e2 : (s.filter fun x => (!decide (pN P G x < N)) && decide (pN P G x < N + 1)) = dealE P G s N := by
      unfold dealE
      apply List.filter_congr
      intro x _
      by_cases h : pN P G x < N
      · simp [h]; omega
      · by_cases h2 : pN P G x = N
        · simp [h2]
        · simp [h, h2]; omega
    rw [e1, e2] at h1
    refine List.Perm.trans ?_ h1
    simpa using ih.append_right (dealE P G s N)
theorem dealE_whole {P G : Nat} {s : List En} (hP : 1 ≤ P) (ha : allE s = true) (hg : inG G s = true) : (((List.range P).map (dealE P G s)).flatten).Perm s := by
  have h := dealE_all P G s P
  rwa [List.filter_eq_self.2 fun x hx => by
    have h1 := allE_g ha x hx
    have h2 := inG_of hg x hx
    simpa using pN_lt hP h1.1 h2] at h
/-- The error of dealing, and of the entries of a part. -/
def errE (l : List En) (P G : Int) : Int := if allE l = true then (if (rightB P G && inG G l) = true then 0 else 7) else 1
def errN (l : List En) (q P G : Int) : Int := if allE l = true then (if (rightB P G && decide (0 ≤ q) && decide (q < P) && inG G l) = true then 0 else 7) else 1
theorem errE_perm {a b : List En} {P G : Int} (h : a.Perm b) : errE a P G = errE b P G := by
  unfold errE
  rw [allE_perm h, inG_perm h]
theorem errE_zero {l : List En} {P G : Int} (h : errE l P G = 0) : allE l = true ∧ rightB P G = true ∧ inG G l = true := by
  unfold errE at h
  by_cases h1 : allE l = true
  · rw [if_pos h1] at h
    by_cases h2 : (rightB P G && inG G l) = true
    · exact ⟨h1, by simpa using h2⟩
    · rw [if_neg h2] at h; omega
  · rw [if_neg h1] at h; omega
/-- What Dealt tells. -/
def DlE (l : List En) (P G : Int) (X : List (List En)) (E : Int) : Prop := E = errE l P G ∧ ((E ≠ 0 ∧ X = []) ∨ (E = 0 ∧ ∃ s, s.Perm l ∧ SrtE s ∧ X = (List.range P.toNat).map (dealE P.toNat G.toNat s)))
theorem DlE.one {a b : List En} {P G : Int} {X Y : List (List En)} {E F : Int} (hp : a.Perm b) (h : DlE a P G X E) (k : DlE b P G Y F) : X = Y ∧ E = F := by
  have e : E = F := by rw [h.1, k.1, errE_perm hp]
  subst e
  rcases h.2 with ⟨h1, h2⟩ | ⟨h1, s, h2, h3, h4⟩ <;> rcases k.2 with ⟨k1, k2⟩ | ⟨k1, t, k2, k3, k4⟩
  · exact ⟨h2.trans k2.symm, rfl⟩
  · exact absurd k1 h1
  · exact absurd h1 k1
  · have e := sorted_one ((h2.trans hp).trans k2.symm) h3 k3
    subst e
    exact ⟨h4.trans k4.symm, rfl⟩
/-- What Entries tells. -/
def EnE (l : List En) (q P G : Int) (x : List En) (E : Int) : Prop := E = errN l q P G ∧ ((E ≠ 0 ∧ x = []) ∨ (E = 0 ∧ x.Perm (dealE P.toNat G.toNat l q.toNat) ∧ SrtE x))
theorem EnE.one {l : List En} {q P G : Int} {x y : List En} {E F : Int} (h : EnE l q P G x E) (k : EnE l q P G y F) : x = y ∧ E = F := by
  have e : E = F := by rw [h.1, k.1]
  subst e
  rcases h.2 with ⟨h1, h2⟩ | ⟨h1, h2, h3⟩ <;> rcases k.2 with ⟨k1, k2⟩ | ⟨k1, k2, k3⟩
  · exact ⟨h2.trans k2.symm, rfl⟩
  · exact absurd k1 h1
  · exact absurd h1 k1
  · exact ⟨sorted_one (h2.trans k2.symm) h3 k3, rfl⟩
/-- A table's lists. -/
def xsL (R : List Er) : List (List En) := R.map Er.xs
theorem allL_xs (R : List Er) : allL R = (xsL R).flatten := by
  unfold allL xsL
  rw [List.flatMap_def]
theorem ToE.congr {R S : List Er} {x : List En} {E : Int} (h : ToE R x E) (e : xsL R = xsL S) : ToE S x E := by
  have e2 : allL R = allL S := by rw [allL_xs, allL_xs, e]
  unfold ToE at *
  rw [← e2]
  exact h
/-- The grid of N parts, part p with the entries 'X p'. -/
def GridE (w : World) (base b N : Nat) (V : Nat → Value) (X : Nat → List En) : Prop :=
  Grid w base b 50 57 4 N V (fun p => (X p).length) (fun p => flatE (X p))
theorem GridE.made (w : World) (N : Nat) {base : Nat} (hb : base ≤ w.heap.size) : GridE (w.alloc (.cells (madeCells #[.slice none 0 0] N) 50)) base w.heap.size N (fun _ => .slice none 0 0) (fun _ => []) :=
  Grid.made w _ _ 4 N hb
theorem GridE.congr {w : World} {base b N : Nat} {V : Nat → Value} {X Y : Nat → List En} (h : GridE w base b N V X) (e : ∀ p, p < N → X p = Y p) : GridE w base b N V Y :=
  Grid.congr h (fun p hp => by rw [e p hp]) (fun p hp => by rw [e p hp])
/-- One more entry is dealt. -/
theorem GridE.deal {wr w1 : World} {base b P G : Nat} {V : Nat → Value} {M : List En} {p : Nat} {x : En} {v' : Value} (hG : GridE wr base b P V (dealE P G M)) (hm : pN P G x = p) (hp : p < P)
    (hown : w1.ownsRow base 57 4 v' ((dealE P G M p).length + 1) (flatE (dealE P G M p) ++ encE x)) (hg : wr.grownBy w1 (V p).ownBlock)
    (hat : v'.ownBlock = (V p).ownBlock ∨ v'.ownBlock = some wr.heap.size) :
    GridE (w1.setCell ⟨b, p, none⟩ v') base b P (fun j => if j = p then v' else V j) (dealE P G (M ++ [x])) := by
  refine (Grid.step hG hp hown hg hat).congr (fun q _ => ?_) (fun q _ => ?_)
  · rw [dealE_snoc, hm]
    by_cases e : q = p
    · rw [if_pos e, if_pos e, List.length_append]; rfl
    · rw [if_neg e, if_neg e]
  · rw [dealE_snoc, hm]
    by_cases e : q = p
    · rw [if_pos e, if_pos e, flatE_app]; simp [flatE]
    · rw [if_neg e, if_neg e]
/-- A grid read as a table. -/
theorem GridE.tab {w : World} {base b N : Nat} {V : Nat → Value} {X : Nat → List En} (h : GridE w base b N V X) {m : Nat} (hm : ∀ p, p < N → (X p).length ≤ m) :
    ∃ R : List Er, TabE w w.heap.size (some ⟨b, 0, none⟩) N R ∧ xsL R = (List.range N).map X ∧ ∀ r ∈ R, r.n ≤ m := by
  have each : ∀ K, K ≤ N → ∃ R : List Er, R.map Er.val = (List.range K).map V ∧ xsL R = (List.range K).map X ∧ ∀ r ∈ R, Reads w w.heap.size 4 r.a r.n (flatE r.xs) ∧ r.n ≤ m := by
    intro K
    induction K with
    | zero => exact fun _ => ⟨[], rfl, rfl, fun r hr => by cases hr⟩
    | succ K ih =>
      intro hK
      obtain ⟨R, h1, h2, h3⟩ := ih (by omega)
      obtain ⟨A, c, e, hr⟩ := own_form (h.row K (by omega))
      refine ⟨R ++ [⟨A, (X K).length, c, X K⟩], ?_, ?_, fun r hr' => ?_⟩
      · rw [List.map_append, h1, List.range_succ, List.map_append]
        simp [Er.val, e]
      · unfold xsL at h2 ⊢
        rw [List.map_append, h2, List.range_succ, List.map_append]
        simp
      · rcases List.mem_append.1 hr' with h | h
        · exact h3 r h
        · rw [List.mem_singleton.1 h]; exact ⟨hr, hm K (by omega)⟩
  obtain ⟨R, h1, h2, h3⟩ := each N (Nat.le_refl _)
  refine ⟨R, ⟨?_, fun r hr => (h3 r hr).1⟩, h2, fun r hr => (h3 r hr).2⟩
  rw [h1]
  refine ⟨by simp, fun hn => ⟨b, 0, rfl, h.lt, fun j u hu => ?_⟩⟩
  have hj : j < N := by
    have := (List.getElem?_eq_some_iff.1 hu).1
    simpa using this
  rw [List.getElem?_map, List.getElem?_range hj] at hu
  simp only [Option.map_some, Option.some.injEq] at hu
  subst hu
  rw [Nat.zero_add]
  exact h.cell hj
end Go.Proofs.Ythngjbhamgmcgaa
