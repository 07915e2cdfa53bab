/-
  Rankings as plain data: setups, the order in a group, a bag's lines with their first places, groups, Top. No program in sight; no condition.
  Plain laws of groups and of Top: what the statements about them ask. No program in sight; no condition.
  How rank.groups puts rows into groups, as plain data: by the text of their key; sorted, they are the groups of the bag. No program in sight; no condition.
  The reference's lines, as plain data: where a line goes, and the first places one after the other. No program in sight; no condition.
-/
import Derived.Test.YtljglceaibgknaaGreatDoorRsM
namespace Go.Proofs.YtljglceaibgknaaGreatDoor

section
open Go.RowKit
set_option linter.unusedVariables false

structure Stp where
  per : List Int
  by_ : List Int
  dn : Bool
  n : Int
/-- Columns that are there, each once. -/
def colsB (l : List Int) (width : Int) : Bool := l.all (fun c => btw c 0 (width - 1)) && decide l.Nodup
def okS (s : Stp) (width : Int) : Bool := btw width 0 8 && colsB s.per width && decide (0 < s.by_.length) && colsB s.by_ width && btw s.n 1 400
def vat (r : Rw) (c : Int) : Val := (r[c.toNat]?).getD ⟨0, 0, ByteArray.empty⟩
def sgn (dn : Bool) : Int := if dn then -1 else 1
def ordL (dn : Bool) (a b : Rw) : List Int → Int
  | [] => cmpR a b
  | c :: cs => thenC (sgn dn * cmpV (vat a c) (vat b c)) (ordL dn a b cs)
/-- The comparison of two rows of a group. -/
def ordS (s : Stp) (a b : Rw) : Int := ordL s.dn a b s.by_
theorem Tot.flip {α : Type} {f : α → α → Int} (h : Tot f) : Tot (fun x y => -1 * f x y) := by
  refine ⟨fun x y => ?_, fun x y z h1 h2 => ?_, fun x y z h1 h2 => ?_, fun x y z h1 h2 => ?_⟩
  · show -1 * f y x = -(-1 * f x y); have := h.anti x y; omega
  · show -1 * f x z ≤ 0
    have h1 : -1 * f x y ≤ 0 := h1
    have h2 : -1 * f y z ≤ 0 := h2
    have a1 := h.anti x y
    have a2 := h.anti y z
    have a3 := h.anti x z
    have := h.le z y x (by omega) (by omega)
    omega
  · show -1 * f x z < 0
    have h1 : -1 * f x y < 0 := h1
    have h2 : -1 * f y z ≤ 0 := h2
    have a1 := h.anti x y
    have a2 := h.anti y z
    have a3 := h.anti x z
    have := h.lt2 z y x (by omega) (by omega)
    omega
  · show -1 * f x z < 0
    have h1 : -1 * f x y ≤ 0 := h1
    have h2 : -1 * f y z < 0 := h2
    have a1 := h.anti x y
    have a2 := h.anti y z
    have a3 := h.anti x z
    have := h.lt1 z y x (by omega) (by omega)
    omega
theorem Tot.sgn {α : Type} {f : α → α → Int} (h : Tot f) (dn : Bool) : Tot (fun x y => sgn dn * f x y) := by
  cases dn
  · have e : (fun x y => Go.Proofs.YtljglceaibgknaaGreatDoor.sgn false * f x y) = f := by funext x y; show 1 * f x y = f x y; omega
    rw [e]; exact h
  · exact h.flip
theorem ordL_tot (dn : Bool) : ∀ cs : List Int, Tot (fun a b => ordL dn a b cs)
  | [] => Tot.row
  | c :: cs => ((Tot.val.comap fun r => vat r c).sgn dn).seq (ordL_tot dn cs)
theorem ordS_tot (s : Stp) : Tot (ordS s) := ordL_tot s.dn s.by_
theorem ordL_zero {dn : Bool} {a b : Rw} : ∀ {cs : List Int}, ordL dn a b cs = 0 → cmpR a b = 0
  | [], h => h
  | c :: cs, h => ordL_zero (cs := cs) (thenC_zero h).2
/-- What the columns of a group are. -/
def gk (s : Stp) (r : Rw) : Rw := pick r s.per
def lnC (s : Stp) (x y : Rw × Int) : Int := thenC (cmpR (gk s x.1) (gk s y.1)) (ordS s x.1 y.1)
theorem lnC_tot (s : Stp) : Tot (lnC s) := (Tot.row.comap fun x : Rw × Int => gk s x.1).seq ((ordS_tot s).comap fun x : Rw × Int => x.1)
theorem lnC_zero {s : Stp} {x y : Rw × Int} (h : lnC s x y = 0) : cmpR x.1 y.1 = 0 := ordL_zero (thenC_zero h).2

/-! The reference's order of a group. -/
def has (r : Rw) (cols : List Int) : Bool := cols.all fun c => btw c 0 ((r.length : Int) - 1)
theorem has_cons {r : Rw} {c : Int} {cs : List Int} : has r (c :: cs) = (btw c 0 ((r.length : Int) - 1) && has r cs) := rfl
theorem pick_cons {r : Rw} {c : Int} {cs : List Int} (h : btw c 0 ((r.length : Int) - 1) = true) : pick r (c :: cs) = vat r c :: pick r cs := by
  rw [btw_iff] at h
  have h1 : c.toNat < r.length := by omega
  unfold pick vat
  rw [List.filterMap_cons, List.getElem?_eq_getElem h1]
  rfl
def aheadB (s : Stp) (a b : Rw) : Bool :=
  let c := sgn s.dn * cmpR (pick a s.by_) (pick b s.by_)
  decide (c < 0) || (decide (c = 0) && decide (cmpR a b < 0))
theorem ordL_pick (dn : Bool) (a b : Rw) : ∀ {cs : List Int}, has a cs = true → has b cs = true → ordL dn a b cs = thenC (sgn dn * cmpR (pick a cs) (pick b cs)) (cmpR a b)
  | [], _, _ => by
    show cmpR a b = thenC (sgn dn * 0) (cmpR a b)
    unfold thenC
    rw [if_pos (by omega)]
  | c :: cs, h1, h2 => by
    rw [has_cons, Bool.and_eq_true] at h1 h2
    rw [pick_cons h1.1, pick_cons h2.1]
    show thenC (sgn dn * cmpV (vat a c) (vat b c)) (ordL dn a b cs) = thenC (sgn dn * thenC (cmpV (vat a c) (vat b c)) (cmpR (pick a cs) (pick b cs))) (cmpR a b)
    rw [ordL_pick dn a b h1.2 h2.2]
    obtain ⟨v, hv⟩ : ∃ v, cmpV (vat a c) (vat b c) = v := ⟨_, rfl⟩
    obtain ⟨u, hu⟩ : ∃ u, cmpR (pick a cs) (pick b cs) = u := ⟨_, rfl⟩
    rw [hv, hu]
    unfold thenC sgn
    cases dn
    · by_cases h0 : v = 0
      · subst h0; simp
      · simp [h0]
    · by_cases h0 : v = 0
      · subst h0; simp
      · have : ¬ (-1 * v = 0) := by omega
        simp [h0]
theorem ahead_ord {s : Stp} {a b : Rw} (h1 : has a s.by_ = true) (h2 : has b s.by_ = true) : aheadB s a b = decide (ordS s a b < 0) := by
  unfold aheadB ordS
  rw [ordL_pick s.dn a b h1 h2]
  obtain ⟨u, hu⟩ : ∃ u, sgn s.dn * cmpR (pick a s.by_) (pick b s.by_) = u := ⟨_, rfl⟩
  simp only [hu]
  unfold thenC
  by_cases h0 : u = 0
  · simp [h0]
  · simp [h0]

/-! Sorted lists. -/
theorem sort_uniq {α : Type} {f : α → α → Int} (hf : Tot f) : ∀ {a b : List α}, a.Perm b → (∀ x ∈ a, ∀ y ∈ a, f x y = 0 → x = y) → a.Pairwise (fun x y => ¬ f y x < 0) → b.Pairwise (fun x y => ¬ f y x < 0) → a = b
  | [], b, hp, _, _, _ => (List.nil_perm.1 hp).symm
  | x :: l, [], hp, _, _, _ => absurd hp.length_eq (by simp)
  | x :: l, y :: k, hp, h0, h1, h2 => by
    have e : x = y := by
      have hx : x ∈ y :: k := hp.mem_iff.1 List.mem_cons_self
      have hy : y ∈ x :: l := hp.mem_iff.2 List.mem_cons_self
      rcases List.mem_cons.1 hx with e | hx
      · exact e
      · rcases List.mem_cons.1 hy with e | hy'
        · exact e.symm
        · have c1 := (List.pairwise_cons.1 h2).1 x hx
          have c2 := (List.pairwise_cons.1 h1).1 y hy'
          have := hf.anti x y
          exact h0 x List.mem_cons_self y hy (by omega)
    subst e
    rw [sort_uniq hf hp.cons_inv (fun z hz u hu => h0 z (List.mem_cons_of_mem _ hz) u (List.mem_cons_of_mem _ hu)) (List.pairwise_cons.1 h1).2 (List.pairwise_cons.1 h2).2]
/-- Where a line goes: from the end backwards. -/
def atL (s : Stp) (x : Rw × Int) (out : Bg) : Nat → Nat
  | 0 => 0
  | k + 1 => match out[k]? with
    | some y => if lnC s x y < 0 then atL s x out k else k + 1
    | none => k + 1
def stepL (s : Stp) (out : Bg) (x : Rw × Int) : Bg := out.take (atL s x out out.length) ++ x :: out.drop (atL s x out out.length)
/-- The lines of a bag in order. -/
def lnsB (s : Stp) (b : Bg) : Bg := b.foldl (stepL s) []
theorem atL_le (s : Stp) (x : Rw × Int) (out : Bg) : ∀ k, atL s x out k ≤ k
  | 0 => Nat.le_refl _
  | k + 1 => by
    rw [atL]
    split
    · split
      · have := atL_le s x out k; omega
      · omega
    · omega
theorem atL_ge (s : Stp) (x : Rw × Int) (out : Bg) : ∀ k j y, atL s x out k ≤ j → j < k → out[j]? = some y → lnC s x y < 0
  | 0, j, y, _, h, _ => absurd h (by omega)
  | k + 1, j, y, h1, h2, h3 => by
    rw [atL] at h1
    split at h1
    · rename_i z hz
      split at h1
      · rename_i hlt
        rcases Nat.lt_or_ge j k with h | h
        · exact atL_ge s x out k j y h1 h h3
        · obtain rfl : j = k := by omega
          rw [hz] at h3
          injection h3 with h3
          exact h3 ▸ hlt
      · omega
    · omega
theorem atL_lt (s : Stp) (x : Rw × Int) (out : Bg) : ∀ k j y, k ≤ out.length → atL s x out k = j + 1 → out[j]? = some y → ¬ lnC s x y < 0
  | 0, j, y, _, h, _ => by cases h
  | k + 1, j, y, hk, h1, h3 => by
    rw [atL] at h1
    split at h1
    · rename_i z hz
      split at h1
      · exact atL_lt s x out k j y (by omega) h1 h3
      · rename_i hge
        obtain rfl : k = j := by omega
        rw [hz] at h3
        injection h3 with h3
        exact h3 ▸ hge
    · rename_i hz
      rw [List.getElem?_eq_none_iff] at hz
      omega
theorem stepL_perm (s : Stp) (out : Bg) (x : Rw × Int) : (stepL s out x).Perm (x :: out) := by
  unfold stepL
  refine List.perm_middle.trans (List.Perm.cons _ ?_)
  rw [List.take_append_drop]
def SrtL (s : Stp) (l : Bg) : Prop := l.Pairwise fun x y => ¬ lnC s y x < 0
theorem stepL_srt {s : Stp} {out : Bg} (h : SrtL s out) (x : Rw × Int) : SrtL s (stepL s out x) := by
  have hle := atL_le s x out out.length
  have hge := atL_ge s x out out.length
  have hlt := atL_lt s x out out.length
  unfold stepL
  obtain ⟨a, ha⟩ : ∃ a, atL s x out out.length = a := ⟨_, rfl⟩
  rw [ha] at hle hge hlt ⊢
  have hT := lnC_tot s
  have hlow : ∀ y ∈ out.take a, ¬ lnC s x y < 0 := fun y hy => by
    obtain ⟨j, hj⟩ := List.getElem?_of_mem hy
    rw [List.getElem?_take] at hj
    split at hj
    · rename_i hja
      obtain ⟨m, rfl⟩ : ∃ m, a = m + 1 := ⟨a - 1, by omega⟩
      have hz : out[m]? = some (out[m]'(by omega)) := List.getElem?_eq_getElem (by omega)
      have h1 := hlt m _ (Nat.le_refl _) rfl hz
      rcases Nat.lt_or_ge j m with hjm | hjm
      · have hj' := (List.getElem?_eq_some_iff.1 hj)
        obtain ⟨hj1, hj2⟩ := hj'
        have h2 := List.pairwise_iff_getElem.1 h j m hj1 (by omega) hjm
        rw [hj2] at h2
        have a1 := hT.anti y (out[m]'(by omega))
        have a2 := hT.anti x (out[m]'(by omega))
        have a3 := hT.anti x y
        have := hT.le y (out[m]'(by omega)) x (by omega) (by omega)
        omega
      · obtain rfl : j = m := by omega
        rw [hz] at hj
        injection hj with hj
        exact hj ▸ h1
    · cases hj
  have hhigh : ∀ y ∈ out.drop a, lnC s x y < 0 := fun y hy => by
    obtain ⟨j, hj⟩ := List.getElem?_of_mem hy
    rw [List.getElem?_drop] at hj
    have h1 := (List.getElem?_eq_some_iff.1 hj).1
    exact hge (a + j) y (by omega) h1 hj
  unfold SrtL
  rw [List.pairwise_append, List.pairwise_cons]
  refine ⟨List.Pairwise.sublist (List.take_sublist _ _) h, ⟨fun y hy => ?_, List.Pairwise.sublist (List.drop_sublist _ _) h⟩, fun y hy z hz => ?_⟩
  · have := hT.anti x y
    have := hhigh y hy
    omega
  · have h1 := hlow y hy
    rcases List.mem_cons.1 hz with rfl | hz
    · exact h1
    · have h2 := hhigh z hz
      have a1 := hT.anti x y
      have a2 := hT.anti y z
      have := hT.lt2 y x z (by omega) h2
      omega
theorem lns_all (s : Stp) (b : Bg) : (lnsB s b).Perm b ∧ SrtL s (lnsB s b) := by
  have gen : ∀ (b out : Bg), SrtL s out → (b.foldl (stepL s) out).Perm (b ++ out) ∧ SrtL s (b.foldl (stepL s) out) := by
    intro b
    induction b with
    | nil => intro out h; exact ⟨List.Perm.refl _, h⟩
    | cons x b ih =>
      intro out h
      obtain ⟨h1, h2⟩ := ih (stepL s out x) (stepL_srt h x)
      refine ⟨h1.trans ?_, h2⟩
      refine (List.Perm.append_left b (stepL_perm s out x)).trans ?_
      exact List.perm_middle
  obtain ⟨h1, h2⟩ := gen b [] List.Pairwise.nil
  refine ⟨?_, h2⟩
  rw [List.append_nil] at h1
  exact h1
theorem lns_snoc (s : Stp) (b : Bg) (x : Rw × Int) : lnsB s (b ++ [x]) = stepL s (lnsB s b) x := by simp [lnsB]

/-! First places. -/
def scnL (s : Stp) : Option (Rw × Int) → Bg → List ((Rw × Int) × Int)
  | _, [] => []
  | none, x :: l => (x, 1) :: scnL s (some (gk s x.1, 1 + x.2)) l
  | some (k, a), x :: l => if cmpR k (gk s x.1) = 0 then (x, a) :: scnL s (some (gk s x.1, a + x.2)) l else (x, 1) :: scnL s (some (gk s x.1, 1 + x.2)) l
/-- The lines of a bag with their first places. -/
def lnF (s : Stp) (b : Bg) : List ((Rw × Int) × Int) := scnL s none (lnsB s b)
def plcG : Int → Bg → List ((Rw × Int) × Int)
  | _, [] => []
  | a, x :: g => (x, a) :: plcG (a + x.2) g

/-! Groups. -/
structure Grs (s : Stp) (b : Bg) (gs : List Bg) : Prop where
  perm : gs.flatten.Perm b
  ne : ∀ g ∈ gs, g ≠ []
  one : ∀ g ∈ gs, ∀ x ∈ g, ∀ y ∈ g, gk s x.1 = gk s y.1
  up : gs.Pairwise fun g h => ∀ x ∈ g, ∀ y ∈ h, cmpR (gk s x.1) (gk s y.1) < 0
  srt : ∀ g ∈ gs, g.Pairwise fun x y => ¬ ordS s y.1 x.1 < 0
theorem thenC_lt {c d : Int} (h : thenC c d < 0) : c ≤ 0 := by unfold thenC at h; split at h <;> omega
theorem Grs.flat {s : Stp} {b : Bg} {gs : List Bg} (h : Grs s b gs) (hb : Asc b) : gs.flatten = lnsB s b := by
  obtain ⟨p1, p2⟩ := lns_all s b
  refine sort_uniq (lnC_tot s) (h.perm.trans p1.symm) (fun x hx y hy h0 => ?_) ?_ p2
  · have hx := h.perm.mem_iff.1 hx
    have hy := h.perm.mem_iff.1 hy
    have e := okR_eq (hb.ok x hx) (hb.ok y hy) (lnC_zero h0)
    have ex := look_mem hb hx
    have ey := look_mem hb hy
    rw [e, ey] at ex
    exact Prod.ext e ex.symm
  · rw [List.pairwise_flatten]
    refine ⟨fun g hg => ?_, h.up.imp fun {g k} hgk x hx y hy hlt => ?_⟩
    · refine List.Pairwise.imp_of_mem (fun {x y} hx hy hxy hlt => ?_) (h.srt g hg)
      have e := h.one g hg x hx y hy
      unfold lnC thenC at hlt
      rw [e, if_pos (Tot.row.self _)] at hlt
      exact hxy hlt
    · have h1 := hgk x hx y hy
      have h2 := Tot.row.anti (gk s x.1) (gk s y.1)
      have h3 := thenC_lt hlt
      omega
theorem scn_grp (s : Stp) (k : Rw) : ∀ (g : Bg) (a : Int) (rest : Bg), (∀ x ∈ g, gk s x.1 = k) → scnL s (some (k, a)) (g ++ rest) = plcG a g ++ scnL s (some (k, a + tot g)) rest
  | [], a, rest, _ => by
    have : a + tot [] = a := by show a + 0 = a; omega
    rw [this]; rfl
  | x :: g, a, rest, h => by
    have e := h x List.mem_cons_self
    rw [List.cons_append, scnL, if_pos (by rw [e]; exact Tot.row.self _), e, scn_grp s k g (a + x.2) rest fun y hy => h y (List.mem_cons_of_mem _ hy), plcG, List.cons_append]
    have : a + x.2 + tot g = a + tot (x :: g) := by show a + x.2 + tot g = a + (x.2 + tot g); omega
    rw [this]
theorem Grs.lines {s : Stp} {b : Bg} {gs : List Bg} (h : Grs s b gs) (hb : Asc b) : lnF s b = gs.flatMap (plcG 1) := by
  unfold lnF
  rw [← h.flat hb]
  have gen : ∀ (gs : List Bg) (p : Option (Rw × Int)), (∀ g ∈ gs, g ≠ []) → (∀ g ∈ gs, ∀ x ∈ g, ∀ y ∈ g, gk s x.1 = gk s y.1) → (gs.Pairwise fun g h => ∀ x ∈ g, ∀ y ∈ h, cmpR (gk s x.1) (gk s y.1) < 0) → (∀ k a, p = some (k, a) → ∀ g ∈ gs, ∀ x ∈ g, cmpR k (gk s x.1) < 0) → scnL s p gs.flatten = gs.flatMap (plcG 1) := by
    intro gs
    induction gs with
    | nil => intro p _ _ _ _; cases p <;> rfl
    | cons g gs ih =>
      intro p h1 h2 h3 h4
      rw [List.flatten_cons, List.flatMap_cons]
      have hg := h1 g List.mem_cons_self
      obtain ⟨x, g', rfl⟩ : ∃ x g', g = x :: g' := by
        cases g with
        | nil => exact absurd rfl hg
        | cons x g' => exact ⟨x, g', rfl⟩
      have hk : ∀ y ∈ g', gk s y.1 = gk s x.1 := fun y hy => h2 _ List.mem_cons_self y (List.mem_cons_of_mem _ hy) x List.mem_cons_self
      have hrest := ih (some (gk s x.1, 1 + x.2 + tot g')) (fun g hg => h1 g (List.mem_cons_of_mem _ hg)) (fun g hg => h2 g (List.mem_cons_of_mem _ hg)) (List.pairwise_cons.1 h3).2 (fun k a e g hg y hy => by
        injection e with e
        injection e with e1 e2
        rw [← e1]
        exact (List.pairwise_cons.1 h3).1 g hg x List.mem_cons_self y hy)
      have hhead : scnL s p (x :: g' ++ gs.flatten) = (x, 1) :: scnL s (some (gk s x.1, 1 + x.2)) (g' ++ gs.flatten) := by
        rw [List.cons_append]
        cases p with
        | none => rw [scnL]
        | some q =>
          obtain ⟨k, a⟩ := q
          have := h4 k a rfl _ List.mem_cons_self x List.mem_cons_self
          rw [scnL, if_neg (by omega)]
      rw [hhead, scn_grp s (gk s x.1) g' (1 + x.2) gs.flatten hk, hrest, plcG, List.cons_append]
  exact gen gs none h.ne h.one h.up nofun

/-! Top. -/
def capG : Int → Bg → Bg
  | _, [] => []
  | left, x :: g => if 0 < min x.2 left then (x.1, min x.2 left) :: capG (left - min x.2 left) g else capG left g
def capF (n : Int) (t : (Rw × Int) × Int) : Option (Rw × Int) := if 0 < min t.1.2 (n + 1 - t.2) then some (t.1.1, min t.1.2 (n + 1 - t.2)) else none
def topL (s : Stp) (b : Bg) : Bg := (lnF s b).filterMap (capF s.n)
def topB (s : Stp) (b : Bg) : Bg := aftB [] (topL s b)
theorem cap_plc (n : Int) : ∀ (g : Bg) (a : Int), (∀ x ∈ g, 0 < x.2) → (plcG a g).filterMap (capF n) = capG (max 0 (n + 1 - a)) g
  | [], a, _ => rfl
  | x :: g, a, h => by
    have hx := h x List.mem_cons_self
    have ih := cap_plc n g (a + x.2) fun y hy => h y (List.mem_cons_of_mem _ hy)
    rw [plcG, List.filterMap_cons, ih, capG]
    unfold capF
    by_cases h0 : 0 < n + 1 - a
    · rw [if_pos (show 0 < min (x, a).1.2 (n + 1 - (x, a).2) by show 0 < min x.2 (n + 1 - a); omega), if_pos (show 0 < min x.2 (max 0 (n + 1 - a)) by omega)]
      show (x.1, min x.2 (n + 1 - a)) :: capG (max 0 (n + 1 - (a + x.2))) g = _
      have e1 : max 0 (n + 1 - a) = n + 1 - a := by omega
      rw [e1]
      have e2 : n + 1 - a - min x.2 (n + 1 - a) = max 0 (n + 1 - (a + x.2)) := by omega
      rw [e2]
    · rw [if_neg (show ¬ 0 < min (x, a).1.2 (n + 1 - (x, a).2) by show ¬ 0 < min x.2 (n + 1 - a); omega), if_neg (show ¬ 0 < min x.2 (max 0 (n + 1 - a)) by omega)]
      show capG (max 0 (n + 1 - (a + x.2))) g = _
      have e1 : max 0 (n + 1 - a) = 0 := by omega
      have e2 : max 0 (n + 1 - (a + x.2)) = 0 := by omega
      rw [e1, e2]
theorem Grs.top {s : Stp} {b : Bg} {gs : List Bg} (h : Grs s b gs) (hb : Asc b) (hw : ∀ x ∈ b, 0 < x.2) (hn : 0 ≤ s.n) : topL s b = gs.flatMap (capG s.n) := by
  unfold topL
  rw [h.lines hb, List.filterMap_flatMap]
  have hm : ∀ g ∈ gs, ∀ x ∈ g, 0 < x.2 := fun g hg x hx => hw x (h.perm.mem_iff.1 (List.mem_flatten.2 ⟨g, hg, hx⟩))
  clear h
  induction gs with
  | nil => rfl
  | cons g gs ih =>
    rw [List.flatMap_cons, List.flatMap_cons, ih fun k hk => hm k (List.mem_cons_of_mem _ hk), cap_plc s.n g 1 (hm g List.mem_cons_self)]
    have e : max 0 (s.n + 1 - 1) = s.n := by omega
    rw [e]
/-- A sorted list of items, each row once, is the bag of them. -/
theorem done_ok {l d : Bg} (hp : d.Perm l) (hok : ∀ x ∈ l, okR x.1 = true) (hap : l.Pairwise fun x y => x.1 ≠ y.1) (h0 : ∀ x ∈ l, x.2 ≠ 0) (hs : d.Pairwise fun x y => ¬ cmpR y.1 x.1 < 0) : Asc d ∧ d = aftB [] l := by
  have hd : d.Pairwise fun x y => x.1 ≠ y.1 := (hp.pairwise_iff fun h => Ne.symm h).2 hap
  have ha : Asc d := ⟨fun x hx => hok x (hp.mem_iff.1 hx), List.Pairwise.imp_of_mem (fun {x y} hx hy hxy => by
    obtain ⟨h4, h5⟩ := hxy
    have h6 := Tot.row.anti x.1 y.1
    rcases Int.lt_trichotomy (cmpR x.1 y.1) 0 with h7 | h7 | h7
    · exact h7
    · exact absurd (okR_eq (hok x (hp.mem_iff.1 hx)) (hok y (hp.mem_iff.1 hy)) h7) h5
    · omega) (List.pairwise_and_iff.2 ⟨hs, hd⟩)⟩
  refine ⟨ha, ?_⟩
  have k := aft0_all hok
  exact Asc.ext ha k.asc (fun x hx => h0 x (hp.mem_iff.1 hx)) k.ne fun r => by rw [k.sum, sumG_look hap, look_perm hp hap]
end

section
open Go.RowKit
set_option linter.unusedVariables false

/-- Items that are rows apart, valid, none without a number. -/
structure Its (l : Bg) : Prop where
  ok : ∀ x ∈ l, okR x.1 = true
  apart : l.Pairwise fun x y => x.1 ≠ y.1
  ne : ∀ x ∈ l, x.2 ≠ 0
theorem Its.perm {l k : Bg} (h : Its l) (hp : k.Perm l) : Its k := ⟨fun x hx => h.ok x (hp.mem_iff.1 hx), (hp.pairwise_iff fun h => Ne.symm h).2 h.apart, fun x hx => h.ne x (hp.mem_iff.1 hx)⟩
theorem Its.of_asc {b : Bg} (h : Asc b) (h0 : ∀ x ∈ b, x.2 ≠ 0) : Its b := ⟨h.ok, asc_apart h, h0⟩
theorem aft_perm {l : Bg} (h : Its l) : (aftB [] l).Perm l ∧ Asc (aftB [] l) := by
  obtain ⟨h1, h2⟩ := lns_all ⟨[], [], false, 0⟩ l
  have h3 : (lnsB ⟨[], [], false, 0⟩ l).Pairwise fun x y => ¬ cmpR y.1 x.1 < 0 := h2
  obtain ⟨h4, h5⟩ := done_ok h1 h.ok h.apart h.ne h3
  rw [← h5]
  exact ⟨h1, h4⟩
theorem sumG_aft {l : Bg} (h : ∀ x ∈ l, okR x.1 = true) (r : Rw) : sumG (aftB [] l) r = sumG l r := by
  have k := aft0_all h
  rw [sumG_asc k.asc, k.sum]
theorem tot_perm {a b : Bg} (h : a.Perm b) : tot a = tot b := by
  induction h with
  | nil => rfl
  | cons x _ ih => rw [tot, tot, ih]
  | swap x y l => simp only [tot]; omega
  | trans _ _ i1 i2 => rw [i1, i2]

/-! The groups of a bag. -/
theorem Grs.mem {s : Stp} {b : Bg} {gs : List Bg} (h : Grs s b gs) {g : Bg} (hg : g ∈ gs) {x : Rw × Int} (hx : x ∈ g) : x ∈ b := h.perm.mem_iff.1 (List.mem_flatten.2 ⟨g, hg, hx⟩)
theorem Grs.its {s : Stp} {b : Bg} {gs : List Bg} (h : Grs s b gs) (hb : Its b) {g : Bg} (hg : g ∈ gs) : Its g := by
  have hf := hb.perm h.perm
  refine ⟨fun x hx => hb.ok x (h.mem hg hx), ?_, fun x hx => hb.ne x (h.mem hg hx)⟩
  exact (List.pairwise_flatten.1 hf.apart).1 g hg
theorem Grs.sub {s : Stp} {b : Bg} {gs : List Bg} (h : Grs s b gs) (hb : Its b) {g : Bg} (hg : g ∈ gs) : Grs s (aftB [] g) [g] := by
  refine ⟨?_, fun k hk => ?_, fun k hk => ?_, List.pairwise_singleton _ _, fun k hk => ?_⟩
  · rw [List.flatten_cons, List.flatten_nil, List.append_nil]
    exact (aft_perm (h.its hb hg)).1.symm
  · obtain rfl := List.mem_singleton.1 hk; exact h.ne k hg
  · obtain rfl := List.mem_singleton.1 hk; exact h.one k hg
  · obtain rfl := List.mem_singleton.1 hk; exact h.srt k hg
theorem Grs.len {s : Stp} {b : Bg} {gs : List Bg} (h : Grs s b gs) {g : Bg} (hg : g ∈ gs) : g.length ≤ b.length := by
  rw [← h.perm.length_eq]
  exact (List.sublist_flatten_of_mem hg).length_le
theorem Grs.count {s : Stp} {b : Bg} {gs : List Bg} (h : Grs s b gs) : gs.length ≤ b.length := by
  rw [← h.perm.length_eq]
  have hn := h.ne
  clear h
  induction gs with
  | nil => simp
  | cons g gs ih =>
    have := ih fun k hk => hn k (List.mem_cons_of_mem _ hk)
    have h1 := List.length_pos_iff.2 (hn g List.mem_cons_self)
    simp only [List.length_cons, List.flatten_cons, List.length_append]
    omega
theorem grp_ok {s : Stp} {b : Bg} {gs : List Bg} (h : Grs s b gs) (hb : okBag b = true) {g : Bg} (hg : g ∈ gs) : okBag (aftB [] g) = true := by
  obtain ⟨h1, h2, h3⟩ := okBag_asc hb
  have hi := Its.of_asc h1 fun x hx => (numB_ne (h2 x hx)).1
  obtain ⟨hp, ha⟩ := aft_perm (h.its hi hg)
  refine okBag_of ha (fun x hx => h2 x (h.mem hg (hp.mem_iff.1 hx))) ?_
  rw [hp.length_eq]
  exact Nat.le_trans (h.len hg) h3
theorem grp_whole {s : Stp} {b : Bg} {gs : List Bg} (h : Grs s b gs) (hb : Its b) (hw : ∀ x ∈ b, 0 < x.2) {g : Bg} (hg : g ∈ gs) : ∀ x ∈ aftB [] g, 0 < x.2 := fun x hx => hw x (h.mem hg ((aft_perm (h.its hb hg)).1.mem_iff.1 hx))
theorem grp_mem {s : Stp} {b : Bg} {gs : List Bg} (h : Grs s b gs) (hb : Its b) {g : Bg} (hg : g ∈ gs) {x : Rw × Int} (hx : x ∈ aftB [] g) : x ∈ b := h.mem hg ((aft_perm (h.its hb hg)).1.mem_iff.1 hx)

/-! What the reference's Groups puts together. -/
def grpS (out : List Bg) (t : (Rw × Int) × Int) : List Bg := if t.2 = 1 then out ++ [putB [] t.1.1 t.1.2] else out.dropLast ++ [putB (out.getLastD []) t.1.1 t.1.2]
def grpF (s : Stp) (b : Bg) : List Bg := (lnF s b).foldl grpS []
theorem grp_rest : ∀ (g : Bg) (a : Int) (out : List Bg) (z : Bg), 1 < a → (∀ x ∈ g, 0 < x.2) → (plcG a g).foldl grpS (out ++ [z]) = out ++ [aftB z g]
  | [], a, out, z, _, _ => rfl
  | x :: g, a, out, z, ha, h => by
    rw [plcG, List.foldl_cons]
    have e : grpS (out ++ [z]) (x, a) = out ++ [putB z x.1 x.2] := by
      unfold grpS
      rw [if_neg (show ¬ (x, a).2 = 1 by show ¬ a = 1; omega), List.dropLast_concat, List.getLastD_concat]
    have hx := h x List.mem_cons_self
    rw [e, grp_rest g (a + x.2) out _ (by omega) fun y hy => h y (List.mem_cons_of_mem _ hy)]
    rfl
theorem grp_one {g : Bg} (hg : g ≠ []) (h : ∀ x ∈ g, 0 < x.2) (out : List Bg) : (plcG 1 g).foldl grpS out = out ++ [aftB [] g] := by
  cases g with
  | nil => exact absurd rfl hg
  | cons x g =>
    rw [plcG, List.foldl_cons]
    have e : grpS out (x, 1) = out ++ [putB [] x.1 x.2] := by unfold grpS; rw [if_pos rfl]
    have hx := h x List.mem_cons_self
    rw [e, grp_rest g (1 + x.2) out _ (by omega) fun y hy => h y (List.mem_cons_of_mem _ hy)]
    rfl
theorem Grs.groups {s : Stp} {b : Bg} {gs : List Bg} (h : Grs s b gs) (hb : Asc b) (hw : ∀ x ∈ b, 0 < x.2) : grpF s b = gs.map (aftB []) := by
  unfold grpF
  rw [h.lines hb]
  have hm : ∀ g ∈ gs, ∀ x ∈ g, 0 < x.2 := fun g hg x hx => hw x (h.mem hg hx)
  have gen : ∀ (gs : List Bg) (out : List Bg), (∀ g ∈ gs, g ≠ []) → (∀ g ∈ gs, ∀ x ∈ g, 0 < x.2) → (gs.flatMap (plcG 1)).foldl grpS out = out ++ gs.map (aftB []) := by
    intro gs
    induction gs with
    | nil => intro out _ _; simp
    | cons g gs ih =>
      intro out h1 h2
      rw [List.flatMap_cons, List.foldl_append, grp_one (h1 g List.mem_cons_self) (h2 g List.mem_cons_self), ih _ (fun k hk => h1 k (List.mem_cons_of_mem _ hk)) fun k hk => h2 k (List.mem_cons_of_mem _ hk)]
      simp
  have := gen gs [] h.ne hm
  simpa using this

/-! Top. -/
theorem cap_mem : ∀ {g : Bg} {left : Int} {y : Rw × Int}, y ∈ capG left g → ∃ x ∈ g, y.1 = x.1 ∧ 0 < y.2 ∧ y.2 ≤ x.2 ∧ y.2 ≤ left
  | [], _, _, h => by cases h
  | x :: g, left, y, h => by
    rw [capG] at h
    split at h
    · rename_i h0
      rcases List.mem_cons.1 h with rfl | h
      · exact ⟨x, List.mem_cons_self, rfl, h0, by show min x.2 left ≤ x.2; omega, by show min x.2 left ≤ left; omega⟩
      · obtain ⟨z, hz, e1, e2, e3, e4⟩ := cap_mem h
        exact ⟨z, List.mem_cons_of_mem _ hz, e1, e2, e3, by omega⟩
    · obtain ⟨z, hz, e⟩ := cap_mem h
      exact ⟨z, List.mem_cons_of_mem _ hz, e⟩
theorem cap_apart : ∀ {g : Bg} {left : Int}, (g.Pairwise fun x y => x.1 ≠ y.1) → (capG left g).Pairwise fun x y => x.1 ≠ y.1
  | [], _, _ => List.Pairwise.nil
  | x :: g, left, h => by
    obtain ⟨h1, h2⟩ := List.pairwise_cons.1 h
    rw [capG]
    split
    · refine List.pairwise_cons.2 ⟨fun y hy => ?_, cap_apart h2⟩
      obtain ⟨z, hz, e, _⟩ := cap_mem hy
      rw [e]
      exact h1 z hz
    · exact cap_apart h2
theorem cap_len : ∀ (g : Bg) (left : Int), (capG left g).length ≤ g.length
  | [], _ => by simp [capG]
  | x :: g, left => by
    rw [capG]
    split
    · have := cap_len g (left - min x.2 left); simp only [List.length_cons]; omega
    · have := cap_len g left; simp only [List.length_cons]; omega
theorem cap_zero : ∀ (g : Bg), capG 0 g = []
  | [] => rfl
  | x :: g => by rw [capG, if_neg (by omega)]; exact cap_zero g
/-- The rows that Top keeps are apart. -/
theorem tops_its {s : Stp} {b : Bg} {gs : List Bg} (h : Grs s b gs) (hb : Its b) (n : Int) : Its (gs.flatMap (capG n)) := by
  have hf := hb.perm h.perm
  obtain ⟨a1, a2⟩ := List.pairwise_flatten.1 hf.apart
  refine ⟨fun y hy => ?_, ?_, fun y hy => ?_⟩
  · obtain ⟨g, hg, hy⟩ := List.mem_flatMap.1 hy
    obtain ⟨x, hx, e, _⟩ := cap_mem hy
    rw [e]
    exact hb.ok x (h.mem hg hx)
  · rw [List.flatMap_def, List.pairwise_flatten]
    refine ⟨fun g hg => ?_, ?_⟩
    · obtain ⟨k, hk, rfl⟩ := List.mem_map.1 hg
      exact cap_apart (a1 k hk)
    · rw [List.pairwise_map]
      refine a2.imp fun {g k} hgk x hx y hy => ?_
      obtain ⟨x', hx', e1, _⟩ := cap_mem hx
      obtain ⟨y', hy', e2, _⟩ := cap_mem hy
      rw [e1, e2]
      exact hgk x' hx' y' hy'
  · obtain ⟨g, hg, hy⟩ := List.mem_flatMap.1 hy
    obtain ⟨x, hx, _, e, _⟩ := cap_mem hy
    omega
theorem caps_len (n : Int) (gs : List Bg) : (gs.flatMap (capG n)).length ≤ gs.flatten.length := by
  induction gs with
  | nil => simp
  | cons g gs ih =>
    have := cap_len g n
    simp only [List.flatMap_cons, List.length_append, List.flatten_cons]
    omega
/-- Top of a valid whole bag is a valid bag. -/
theorem top_ok {s : Stp} {b : Bg} {gs : List Bg} (h : Grs s b gs) (hb : okBag b = true) (hw : ∀ x ∈ b, 0 < x.2) (hn : 0 ≤ s.n) : okBag (topB s b) = true ∧ (topB s b).Perm (gs.flatMap (capG s.n)) := by
  obtain ⟨h1, h2, h3⟩ := okBag_asc hb
  have hi := Its.of_asc h1 fun x hx => (numB_ne (h2 x hx)).1
  have ht := tops_its h hi s.n
  obtain ⟨hp, ha⟩ := aft_perm ht
  unfold topB
  rw [h.top h1 hw hn]
  refine ⟨okBag_of ha (fun y hy => ?_) ?_, hp⟩
  · obtain ⟨g, hg, hy⟩ := List.mem_flatMap.1 (hp.mem_iff.1 hy)
    obtain ⟨x, hx, e1, e2, e3, e4⟩ := cap_mem hy
    have := numB_ne (h2 x (h.mem hg hx))
    unfold numB
    simp
    omega
  · rw [hp.length_eq]
    have := caps_len s.n gs
    have := h.perm.length_eq
    omega
/-- The tops of the groups together are Top. -/
theorem tops_sum {s : Stp} {b : Bg} {gs : List Bg} (h : Grs s b gs) (hb : okBag b = true) (hw : ∀ x ∈ b, 0 < x.2) (hn : 0 ≤ s.n) (r : Rw) : ∀ {g : Bg}, g ∈ gs → sumG (topB s (aftB [] g)) r = sumG (capG s.n g) r := by
  intro g hg
  obtain ⟨h1, h2, h3⟩ := okBag_asc hb
  have hi := Its.of_asc h1 fun x hx => (numB_ne (h2 x hx)).1
  have hs := h.sub hi hg
  have hg1 := (aft_perm (h.its hi hg)).2
  have hw1 := grp_whole h hi hw hg
  have ht := tops_its hs (Its.of_asc hg1 fun x hx => by have := hw1 x hx; omega) s.n
  unfold topB
  rw [hs.top hg1 hw1 hn, sumG_aft ht.ok]
  simp
/-- What the bag keeps, or has kept all of before. -/
theorem cap_left {s : Stp} : ∀ {g : Bg} {left : Int} {x : Rw × Int}, 0 ≤ left → (∀ y ∈ g, 0 < y.2) → (g.Pairwise fun x y => x.1 ≠ y.1) → (g.Pairwise fun x y => ¬ ordS s y.1 x.1 < 0) → x ∈ g → look (capG left g) x.1 ≠ x.2 →
    tot (capG left g) = left ∧ ∀ y ∈ capG left g, ¬ ordS s x.1 y.1 < 0
  | [], _, _, _, _, _, _, h, _ => by cases h
  | z :: g, left, x, h0, hp, ha, hs, hx, hl => by
    obtain ⟨a1, a2⟩ := List.pairwise_cons.1 ha
    obtain ⟨s1, s2⟩ := List.pairwise_cons.1 hs
    have hz := hp z List.mem_cons_self
    rw [capG] at hl ⊢
    by_cases h1 : 0 < left
    · rw [if_pos (show 0 < min z.2 left by omega)] at hl ⊢
      rcases List.mem_cons.1 hx with rfl | hx'
      · rw [look, if_pos rfl] at hl
        have hl' : min x.2 left ≠ x.2 := hl
        have e : left - min x.2 left = 0 := by omega
        rw [e, cap_zero]
        refine ⟨?_, fun y hy => ?_⟩
        · show min x.2 left + 0 = left; omega
        · obtain rfl := List.mem_singleton.1 hy
          have := (ordS_tot s).self x.1
          show ¬ ordS s x.1 x.1 < 0
          omega
      · rw [look, if_neg (show ¬ (z.1, min z.2 left).1 = x.1 from a1 x hx')] at hl
        obtain ⟨i1, i2⟩ := cap_left (by omega) (fun y hy => hp y (List.mem_cons_of_mem _ hy)) a2 s2 hx' hl
        refine ⟨?_, fun y hy => ?_⟩
        · show min z.2 left + tot (capG (left - min z.2 left) g) = left; omega
        · rcases List.mem_cons.1 hy with rfl | hy
          · exact s1 x hx'
          · exact i2 y hy
    · obtain rfl : left = 0 := by omega
      rw [if_neg (show ¬ 0 < min z.2 0 by omega), cap_zero]
      exact ⟨rfl, nofun⟩
end

section
open Go.RowKit
set_option linter.unusedVariables false

/-- The key of a group: that of its first row. -/
def hkr (s : Stp) : Bg → Rw
  | [] => []
  | x :: _ => gk s x.1
def gix (s : Stp) (gs : List Bg) (t : List UInt8) : Option Nat := gs.findIdx? fun g => decide (rowT (hkr s g) = t)
def gstL (s : Stp) (gs : List Bg) (x : Rw × Int) : List Bg := match gix s gs (rowT (gk s x.1)) with
  | some i => gs.set i (gs.getD i [] ++ [x])
  | none => gs ++ [[x]]
def gsB (s : Stp) (b : Bg) : List Bg := b.foldl (gstL s) []
theorem gs_snoc (s : Stp) (b : Bg) (x : Rw × Int) : gsB s (b ++ [x]) = gstL s (gsB s b) x := by simp [gsB]
theorem gix_some {s : Stp} {gs : List Bg} {t : List UInt8} {i : Nat} (h : gix s gs t = some i) : ∃ g, gs[i]? = some g ∧ rowT (hkr s g) = t := by
  unfold gix at h
  obtain ⟨h1, h2, _⟩ := List.findIdx?_eq_some_iff_getElem.1 h
  exact ⟨gs[i], List.getElem?_eq_getElem h1, by simpa using h2⟩
theorem gix_none {s : Stp} {gs : List Bg} {t : List UInt8} (h : gix s gs t = none) : ∀ g ∈ gs, rowT (hkr s g) ≠ t := by
  unfold gix at h
  rw [List.findIdx?_eq_none_iff] at h
  intro g hg e
  have := h g hg
  simp [e] at this
theorem gix_snoc {s : Stp} {gs : List Bg} {x : Rw × Int} (h : gix s gs (rowT (gk s x.1)) = none) (t : List UInt8) : gix s (gs ++ [[x]]) t = if t = rowT (gk s x.1) then some gs.length else gix s gs t := by
  unfold gix at h ⊢
  rw [List.findIdx?_append]
  by_cases e : t = rowT (gk s x.1)
  · subst e
    rw [h, if_pos rfl]
    simp [hkr]
  · rw [if_neg e]
    have e2 : ¬ rowT (gk s x.1) = t := fun h => e h.symm
    cases gs.findIdx? fun g => decide (rowT (hkr s g) = t) with
    | some i => rfl
    | none => simp [hkr, e2]
theorem gix_keys {s : Stp} {gs gs' : List Bg} (h : gs.map (hkr s) = gs'.map (hkr s)) (t : List UInt8) : gix s gs t = gix s gs' t := by
  have gen : ∀ (l : List Bg), (l.findIdx? fun g => decide (rowT (hkr s g) = t)) = (l.map (hkr s)).findIdx? fun r => decide (rowT r = t) := by
    intro l
    rw [List.findIdx?_map]
    rfl
  unfold gix
  rw [gen, gen, h]
theorem set_hkr {s : Stp} {gs : List Bg} {i : Nat} {g : Bg} {x : Rw × Int} (h : gs[i]? = some g) (hne : g ≠ []) : (gs.set i (g ++ [x])).map (hkr s) = gs.map (hkr s) := by
  rw [List.map_set]
  have : hkr s (g ++ [x]) = hkr s g := by
    cases g with
    | nil => exact absurd rfl hne
    | cons y g => rfl
  rw [this]
  apply List.ext_getElem?
  intro j
  rw [List.getElem?_set]
  split
  · rename_i e
    subst e
    split
    · rw [List.getElem?_map, h]; rfl
    · rename_i hlt
      rw [List.length_map] at hlt
      have := (List.getElem?_eq_some_iff.1 h).1
      omega
  · rfl
/-- What is known of the groups before they are sorted. -/
structure Gsk (s : Stp) (xs : Bg) (gs : List Bg) : Prop where
  perm : gs.flatten.Perm xs
  ne : ∀ g ∈ gs, g ≠ []
  one : ∀ g ∈ gs, ∀ x ∈ g, gk s x.1 = hkr s g
  apart : gs.Pairwise fun g h => hkr s g ≠ hkr s h
theorem Gsk.nil (s : Stp) : Gsk s [] [] := ⟨List.Perm.refl _, nofun, nofun, List.Pairwise.nil⟩
theorem hkr_mem {s : Stp} {g : Bg} (h : g ≠ []) : ∃ x ∈ g, gk s x.1 = hkr s g := by
  cases g with
  | nil => exact absurd rfl h
  | cons x g => exact ⟨x, List.mem_cons_self, rfl⟩
theorem Gsk.step {s : Stp} {xs : Bg} {gs : List Bg} {x : Rw × Int} (h : Gsk s xs gs) (hk : ∀ y ∈ xs, okR (gk s y.1) = true) (hx : okR (gk s x.1) = true) : Gsk s (xs ++ [x]) (gstL s gs x) := by
  have hok : ∀ g ∈ gs, okR (hkr s g) = true := fun g hg => by
    obtain ⟨y, hy, e⟩ := hkr_mem (s := s) (h.ne g hg)
    rw [← e]
    exact hk y (h.perm.mem_iff.1 (List.mem_flatten.2 ⟨g, hg, hy⟩))
  unfold gstL
  cases hi : gix s gs (rowT (gk s x.1)) with
  | none =>
    have hn := gix_none hi
    refine ⟨?_, fun g hg => ?_, fun g hg => ?_, ?_⟩
    · rw [List.flatten_append]
      exact h.perm.append (by simp)
    · rcases List.mem_append.1 hg with hg | hg
      · exact h.ne g hg
      · obtain rfl := List.mem_singleton.1 hg; simp
    · rcases List.mem_append.1 hg with hg | hg
      · exact h.one g hg
      · obtain rfl := List.mem_singleton.1 hg
        intro y hy
        obtain rfl := List.mem_singleton.1 hy
        rfl
    · rw [List.pairwise_append]
      refine ⟨h.apart, List.pairwise_singleton _ _, fun g hg k hk' e => ?_⟩
      obtain rfl := List.mem_singleton.1 hk'
      exact hn g hg (by rw [e]; rfl)
  | some i =>
    obtain ⟨g, hg, he⟩ := gix_some hi
    obtain ⟨hlt, hge⟩ := List.getElem?_eq_some_iff.1 hg
    have hgm : g ∈ gs := List.mem_of_getElem? hg
    have hek : hkr s g = gk s x.1 := rowT_inj (hok g hgm) hx he
    have hgd : gs.getD i [] = g := by rw [List.getD_eq_getElem?_getD, hg]; rfl
    simp only [hgd]
    have hkeys := set_hkr (s := s) (x := x) hg (h.ne g hgm)
    refine ⟨?_, fun k hk' => ?_, fun k hk' => ?_, ?_⟩
    · have hs : gs.set i (g ++ [x]) = gs.take i ++ (g ++ [x]) :: gs.drop (i + 1) := List.set_eq_take_append_cons_drop.trans (if_pos hlt)
      have hs2 : gs = gs.take i ++ g :: gs.drop (i + 1) := by
        conv => lhs; rw [← List.take_append_drop i gs]
        rw [List.drop_eq_getElem_cons hlt, hge]
      rw [hs]
      refine List.Perm.trans ?_ (h.perm.append_right [x])
      conv => rhs; rw [hs2]
      simp only [List.flatten_append, List.flatten_cons, List.append_assoc]
      refine List.Perm.append_left _ (List.Perm.append_left _ ?_)
      exact List.perm_append_comm
    · rcases List.mem_or_eq_of_mem_set hk' with hk' | rfl
      · exact h.ne k hk'
      · simp
    · rcases List.mem_or_eq_of_mem_set hk' with hk' | rfl
      · exact h.one k hk'
      · have e2 : hkr s (g ++ [x]) = hkr s g := by
          have := h.ne g hgm
          cases g with
          | nil => exact absurd rfl this
          | cons y g => rfl
        intro y hy
        rw [e2]
        rcases List.mem_append.1 hy with hy | hy
        · exact h.one g hgm y hy
        · obtain rfl := List.mem_singleton.1 hy
          exact hek.symm
    · have := h.apart
      rw [← List.pairwise_map (f := hkr s) (R := fun a b => a ≠ b)] at this ⊢
      rw [hkeys]
      exact this
theorem gsB_ok {s : Stp} {b : Bg} (hk : ∀ y ∈ b, okR (gk s y.1) = true) (k : Nat) : Gsk s (b.take k) (gsB s (b.take k)) := by
  induction k with
  | zero => exact Gsk.nil s
  | succ k ih =>
    by_cases h : k < b.length
    · have hx : b[k]? = some (b[k]) := List.getElem?_eq_getElem h
      rw [take_snoc' hx, gs_snoc]
      exact ih.step (fun y hy => hk y (List.mem_of_mem_take hy)) (hk _ (List.mem_of_getElem? hx))
    · rw [List.take_of_length_le (by omega)] at ih ⊢
      exact ih
theorem flat_perm : ∀ {a b : List Bg}, a.length = b.length → (∀ (i : Nat) g k, a[i]? = some g → b[i]? = some k → k.Perm g) → b.flatten.Perm a.flatten
  | [], [], _, _ => List.Perm.refl _
  | [], _ :: _, h, _ => by cases h
  | _ :: _, [], h, _ => by cases h
  | g :: a, k :: b, h, hp => by
    rw [List.flatten_cons, List.flatten_cons]
    exact (hp 0 g k rfl rfl).append (flat_perm (by simpa using h) fun i g' k' h1 h2 => hp (i + 1) g' k' (by simpa using h1) (by simpa using h2))
/-- Sorted, outside and inside, they are the groups of the bag. -/
theorem Gsk.grs {s : Stp} {b : Bg} {gs g1 g2 : List Bg} (h : Gsk s b gs) (hk : ∀ y ∈ b, okR (gk s y.1) = true) (hp : g1.Perm gs) (hs : g1.Pairwise fun g k => ¬ cmpR (hkr s k) (hkr s g) < 0) (hl : g1.length = g2.length)
    (hi : ∀ (i : Nat) g k, g1[i]? = some g → g2[i]? = some k → k.Perm g ∧ k.Pairwise fun x y => ¬ ordS s y.1 x.1 < 0) : Grs s b g2 := by
  have hfl : g2.flatten.Perm b := (flat_perm hl fun i g k a c => (hi i g k a c).1).trans (hp.flatten.trans h.perm)
  have h1 : ∀ (i : Nat) k, g2[i]? = some k → ∃ g, g1[i]? = some g ∧ g ∈ gs ∧ k.Perm g ∧ k.Pairwise fun x y => ¬ ordS s y.1 x.1 < 0 := fun i k hk' => by
    have hlt := (List.getElem?_eq_some_iff.1 hk').1
    have hg : g1[i]? = some (g1[i]'(by omega)) := List.getElem?_eq_getElem (by omega)
    exact ⟨_, hg, hp.mem_iff.1 (List.mem_of_getElem? hg), hi i _ k hg hk'⟩
  have h2 : ∀ k ∈ g2, ∃ g, g ∈ gs ∧ k.Perm g ∧ k.Pairwise fun x y => ¬ ordS s y.1 x.1 < 0 := fun k hk' => by
    obtain ⟨i, hik⟩ := List.getElem?_of_mem hk'
    obtain ⟨g, _, e1, e2, e3⟩ := h1 i k hik
    exact ⟨g, e1, e2, e3⟩
  have hok : ∀ g ∈ gs, okR (hkr s g) = true := fun g hg => by
    obtain ⟨y, hy, e⟩ := hkr_mem (s := s) (h.ne g hg)
    rw [← e]
    exact hk y (h.perm.mem_iff.1 (List.mem_flatten.2 ⟨g, hg, hy⟩))
  have hap : g1.Pairwise fun g k => hkr s g ≠ hkr s k := (hp.pairwise_iff fun e => Ne.symm e).2 h.apart
  refine ⟨hfl, fun k hk' e => ?_, fun k hk' x hx y hy => ?_, ?_, fun k hk' => ?_⟩
  · obtain ⟨g, hg, hpm, _⟩ := h2 k hk'
    subst e
    exact h.ne g hg (List.nil_perm.1 hpm)
  · obtain ⟨g, hg, hpm, _⟩ := h2 k hk'
    rw [h.one g hg x (hpm.mem_iff.1 hx), h.one g hg y (hpm.mem_iff.1 hy)]
  · rw [List.pairwise_iff_getElem]
    intro i j hi' hj' hij x hx y hy
    obtain ⟨g, a1, a2, a3, _⟩ := h1 i _ (List.getElem?_eq_getElem hi')
    obtain ⟨k, c1, c2, c3, _⟩ := h1 j _ (List.getElem?_eq_getElem hj')
    rw [h.one g a2 x (a3.mem_iff.1 hx), h.one k c2 y (c3.mem_iff.1 hy)]
    obtain ⟨b1, b2⟩ := List.getElem?_eq_some_iff.1 a1
    obtain ⟨d1, d2⟩ := List.getElem?_eq_some_iff.1 c1
    have e1 := List.pairwise_iff_getElem.1 hs i j b1 d1 hij
    have e2 := List.pairwise_iff_getElem.1 hap i j b1 d1 hij
    rw [b2, d2] at e1 e2
    have e3 := Tot.row.anti (hkr s g) (hkr s k)
    rcases Int.lt_trichotomy (cmpR (hkr s g) (hkr s k)) 0 with h7 | h7 | h7
    · exact h7
    · exact absurd (okR_eq (hok g a2) (hok k c2) h7) e2
    · omega
  · obtain ⟨g, _, _, e⟩ := h2 k hk'
    exact e
end

section
open Go.RowKit
set_option linter.unusedVariables false

theorem lnC_neg {s : Stp} {x y : Rw × Int} (h1 : has x.1 s.by_ = true) (h2 : has y.1 s.by_ = true) : (lnC s x y < 0) ↔ (0 < cmpR (gk s y.1) (gk s x.1) ∨ (cmpR (gk s y.1) (gk s x.1) = 0 ∧ aheadB s x.1 y.1 = true)) := by
  have h3 := Tot.row.anti (gk s x.1) (gk s y.1)
  rw [ahead_ord h1 h2, decide_eq_true_eq]
  unfold lnC thenC
  by_cases h0 : cmpR (gk s x.1) (gk s y.1) = 0
  · rw [if_pos h0]
    constructor
    · exact fun h => .inr ⟨by omega, h⟩
    · rintro (h | ⟨_, h⟩)
      · omega
      · exact h
  · rw [if_neg h0]
    constructor
    · exact fun h => .inl (by omega)
    · rintro (h | ⟨h, _⟩) <;> omega
theorem atL_stop {s : Stp} {x y : Rw × Int} {out : Bg} {k : Nat} (hy : out[k]? = some y) (h : ¬ lnC s x y < 0) : atL s x out (k + 1) = k + 1 := by
  rw [atL, hy]; exact if_neg h
theorem atL_go {s : Stp} {x y : Rw × Int} {out : Bg} {k : Nat} (hy : out[k]? = some y) (h : lnC s x y < 0) : atL s x out (k + 1) = atL s x out k := by
  rw [atL, hy]; exact if_pos h
theorem stepL_at {s : Stp} {x : Rw × Int} {out : Bg} {j : Nat} (h : atL s x out out.length = j) : stepL s out x = out.take j ++ [x] ++ out.drop j := by
  unfold stepL
  rw [h]
  simp
theorem stepL_len (s : Stp) (out : Bg) (x : Rw × Int) : (stepL s out x).length = out.length + 1 := by
  have := (stepL_perm s out x).length_eq
  simpa using this
theorem lns_len (s : Stp) (b : Bg) : (lnsB s b).length = b.length := (lns_all s b).1.length_eq

/-! First places. -/
def f0 (s : Stp) (p : Option (Rw × Int)) (x : Rw × Int) : Int := match p with
  | none => 1
  | some (k, a) => if cmpR k (gk s x.1) = 0 then a else 1
theorem scn_cons (s : Stp) (p : Option (Rw × Int)) (x : Rw × Int) (l : Bg) : scnL s p (x :: l) = (x, f0 s p x) :: scnL s (some (gk s x.1, f0 s p x + x.2)) l := by
  cases p with
  | none => rw [scnL]; rfl
  | some q =>
    obtain ⟨k, a⟩ := q
    rw [scnL]
    unfold f0
    by_cases h : cmpR k (gk s x.1) = 0
    · simp only [if_pos h]
    · simp only [if_neg h]
theorem scn_len (s : Stp) : ∀ (l : Bg) (p : Option (Rw × Int)), (scnL s p l).length = l.length
  | [], p => by cases p <;> rfl
  | x :: l, p => by rw [scn_cons, List.length_cons, List.length_cons, scn_len s l]
theorem scn_fst (s : Stp) : ∀ (l : Bg) (p : Option (Rw × Int)), (scnL s p l).map (·.1) = l
  | [], p => by cases p <;> rfl
  | x :: l, p => by rw [scn_cons, List.map_cons, scn_fst s l]
theorem scn_succ (s : Stp) : ∀ (l : Bg) (p : Option (Rw × Int)) (j : Nat) (t u : (Rw × Int) × Int), (scnL s p l)[j]? = some t → (scnL s p l)[j + 1]? = some u → u.2 = if cmpR (gk s t.1.1) (gk s u.1.1) = 0 then t.2 + t.1.2 else 1
  | [], p, j, t, u, h, _ => by cases p <;> simp [scnL] at h
  | [x], p, j, t, u, h, h2 => by
    rw [scn_cons] at h2
    simp [scnL] at h2
  | x :: y :: l, p, 0, t, u, h, h2 => by
    rw [scn_cons] at h h2
    rw [scn_cons] at h2
    obtain rfl : (x, f0 s p x) = t := by simpa using h
    obtain rfl : _ = u := by simpa using h2
    rfl
  | x :: y :: l, p, j + 1, t, u, h, h2 => by
    rw [scn_cons] at h h2
    exact scn_succ s (y :: l) _ j t u (by simpa using h) (by simpa using h2)
theorem lnF_len (s : Stp) (b : Bg) : (lnF s b).length = b.length := by unfold lnF; rw [scn_len, lns_len]
theorem lnF_fst (s : Stp) (b : Bg) : (lnF s b).map (·.1) = lnsB s b := scn_fst s _ none
theorem lnF_at {s : Stp} {b : Bg} {j : Nat} {t : (Rw × Int) × Int} (h : (lnF s b)[j]? = some t) : (lnsB s b)[j]? = some t.1 := by
  rw [← lnF_fst, List.getElem?_map, h]; rfl
theorem lnF_zero {s : Stp} {b : Bg} {t : (Rw × Int) × Int} (h : (lnF s b)[0]? = some t) : t.2 = 1 := by
  unfold lnF at h
  cases hl : lnsB s b with
  | nil => rw [hl] at h; simp [scnL] at h
  | cons x l =>
    rw [hl, scn_cons] at h
    obtain rfl : _ = t := by simpa using h
    rfl
theorem lnF_succ {s : Stp} {b : Bg} {j : Nat} {t u : (Rw × Int) × Int} (h : (lnF s b)[j]? = some t) (h2 : (lnF s b)[j + 1]? = some u) : u.2 = if cmpR (gk s t.1.1) (gk s u.1.1) = 0 then t.2 + t.1.2 else 1 := scn_succ s _ none j t u h h2
theorem lnF_mem {s : Stp} {b : Bg} {t : (Rw × Int) × Int} (h : t ∈ lnF s b) : t.1 ∈ b := by
  obtain ⟨j, hj⟩ := List.getElem?_of_mem h
  exact (lns_all s b).1.mem_iff.1 (List.mem_of_getElem? (lnF_at hj))
/-- First places are at least 1, and not large. -/
theorem lnF_bound {s : Stp} {b : Bg} (hb : ∀ x ∈ b, 0 < x.2 ∧ x.2 ≤ 1000000) : ∀ (j : Nat) (t : (Rw × Int) × Int), (lnF s b)[j]? = some t → 1 ≤ t.2 ∧ t.2 ≤ 1 + 1000000 * (j : Int)
  | 0, t, h => by rw [lnF_zero h]; omega
  | j + 1, t, h => by
    obtain ⟨hlt, _⟩ := List.getElem?_eq_some_iff.1 h
    have hp : (lnF s b)[j]? = some ((lnF s b)[j]'(by omega)) := List.getElem?_eq_getElem (by omega)
    have ih := lnF_bound hb j _ hp
    have hm := hb _ (lnF_mem (List.mem_of_getElem? hp))
    rw [lnF_succ hp h]
    split <;> omega
end

end Go.Proofs.YtljglceaibgknaaGreatDoor
