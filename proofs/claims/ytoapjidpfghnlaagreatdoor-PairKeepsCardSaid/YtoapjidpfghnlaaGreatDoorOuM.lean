/-
  The version join as plain data: the newest version, what Versions answers. No program in sight; no condition.
  The outer join as plain data: what is told, one behind the other; what Outer answers; equal rows that lie side by side added up. No program in sight; no condition.
-/
import Derived.Test.YtoapjidpfghnlaaGreatDoorPrK
import Derived.Test.YtoapjidpfghnlaaGreatDoorRngH
import Derived.Test.YtoapjidpfghnlaaGreatDoorNetM
namespace Go.Proofs.YtoapjidpfghnlaaGreatDoor

section
open Go.RowKit
set_option linter.unusedVariables false

def nullV : Val := ⟨0, 0, ByteArray.empty⟩
def nullR (n : Nat) : Rw := List.replicate n nullV
/-- The newest version so far, with one more. -/
def newS (x : Te) (b : Option Te) (y : Te) : Option Te := if y.1 ≤ x.1 then (match b with
  | none => some y
  | some z => if 0 < cmpE y z then some y else some z) else b
def newF (x : Te) (l : List Te) : Option Te := l.foldl (newS x) none
def newN (on others : List Int) (x : Te) (r : List Te) : Option Te := newF x (r.filter fun y => eqK on others x.2 y.2)
def rowN (n : Nat) (b : Option Te) : Rw := (b.map fun y => y.2).getD (nullR n)
def verO (on others : List Int) (n : Nat) (x : Te) (r : List Te) : Te := (x.1, x.2 ++ rowN n (newN on others x r))
def wideB (r : List Te) (width : Int) : Bool := r.all fun y => decide ((y.2.length : Int) = width)
def overB (l : List Te) (n : Nat) : Bool := l.any fun x => decide (8 < x.2.length + n)
def verE (on others : List Int) (width : Int) (l r : List Te) : Int :=
  if evsB l && evsB r then (if fitK on others && wideB r width then (if btw width 0 8 && (insK on 8 && (insK others width && hasE l on)) then (if overB l width.toNat then 4 else 0) else 7) else 9) else 1
/-- What Versions answers. -/
def verB (on others : List Int) (width : Int) (l r : List Te) : List Te × Int := (if verE on others width l r = 0 then srtG cmpE (l.map fun x => verO on others width.toNat x r) else [], verE on others width l r)
theorem nullR_len (n : Nat) : (nullR n).length = n := by simp [nullR]
theorem nullR_okV (n : Nat) : (nullR n).all okV = true := by
  rw [List.all_eq_true]
  intro v hv
  obtain ⟨_, rfl⟩ := List.mem_replicate.1 (by exact hv : v ∈ List.replicate n nullV)
  decide
/-- A row that is as wide as the columns ask has them all. -/
theorem hasC_wide {r : Rw} {others : List Int} {width : Int} (h : (r.length : Int) = width) (hi : insK others width = true) : hasC r others = true := by
  unfold insK at hi
  unfold hasC
  rw [h]
  exact hi
end

section
open Go.RowKit
set_option linter.unusedVariables false

/-- What a left row is joined to. -/
def pairL (on others : List Int) (x : Rw × Int) (r : Bg) : Bg := (r.filter fun y => eqK on others x.1 y.1).map fun y => (x.1 ++ y.1, x.2 * y.2)
def meets (on others : List Int) (x : Rw × Int) (r : Bg) : Bool := r.any fun y => eqK on others x.1 y.1
/-- What a left row tells. -/
def leftL (lf : Bool) (on others : List Int) (width : Nat) (x : Rw × Int) (r : Bg) : Bg := pairL on others x r ++ if lf && !meets on others x r then [(x.1 ++ nullR width, x.2)] else []
/-- A right row that no left one met. -/
def loneB (on others : List Int) (l : Bg) (y : Rw × Int) : Bool := !(l.any fun x => eqK on others x.1 y.1)
def rightL (rt : Bool) (on others : List Int) (wide : Nat) (l r : Bg) : Bg := (r.filter fun y => rt && loneB on others l y).map fun y => (nullR wide ++ y.1, y.2)
def leftsL (lf : Bool) (on others : List Int) (width : Nat) (l r : Bg) : Bg := l.flatMap fun x => leftL lf on others width x r
def joinL (lf rt : Bool) (on others : List Int) (wide width : Nat) (l r : Bg) : Bg := leftsL lf on others width l r ++ rightL rt on others wide l r
theorem pairL_snoc (on others : List Int) (x : Rw × Int) (r : Bg) (y : Rw × Int) : pairL on others x (r ++ [y]) = pairL on others x r ++ if eqK on others x.1 y.1 then [(x.1 ++ y.1, x.2 * y.2)] else [] := by
  unfold pairL
  rw [List.filter_append, List.map_append]
  congr 1
  cases h : eqK on others x.1 y.1 <;> simp [h]
theorem meets_snoc (on others : List Int) (x : Rw × Int) (r : Bg) (y : Rw × Int) : meets on others x (r ++ [y]) = (meets on others x r || eqK on others x.1 y.1) := by unfold meets; rw [List.any_append]; simp
theorem loneB_snoc (on others : List Int) (l : Bg) (x y : Rw × Int) : loneB on others (l ++ [x]) y = (loneB on others l y && !eqK on others x.1 y.1) := by unfold loneB; rw [List.any_append]; simp
theorem leftsL_snoc (lf : Bool) (on others : List Int) (width : Nat) (l r : Bg) (x : Rw × Int) : leftsL lf on others width (l ++ [x]) r = leftsL lf on others width l r ++ leftL lf on others width x r := by simp [leftsL]
theorem rightL_snoc (rt : Bool) (on others : List Int) (wide : Nat) (l r : Bg) (y : Rw × Int) : rightL rt on others wide l (r ++ [y]) = rightL rt on others wide l r ++ if rt && loneB on others l y then [(nullR wide ++ y.1, y.2)] else [] := by
  unfold rightL
  rw [List.filter_append, List.map_append]
  congr 1
  cases h : (rt && loneB on others l y) <;> simp [h]
/-- All rows of a bag have a width. -/
def wideG (b : Bg) (n : Int) : Bool := b.all fun x => decide ((x.1.length : Int) = n)
/-- Two widths are too much together. -/
def widerB (a b : Int) : Bool := if 0 < a ∧ 0 < b then (decide (8 < a) || (decide (8 < b) || decide (8 < a + b))) else if a < 0 ∧ b < 0 then false else decide (8 < IntKind.i64.wrap (a + b))
def outE (kind : Int) (on others : List Int) (wide width : Int) (l r : Bg) : Int :=
  if okBag l && okBag r then (if fitK on others && (wideG l wide && (wideG r width && !widerB wide width)) then (if btw wide 0 8 && (btw width 0 8 && (btw kind 0 3 && (insK on wide && insK others width))) then
    (if wholeB l && wholeB r then (if okBag (aftB [] (joinL (decide (kind % 2 = 1)) (decide (2 ≤ kind)) on others wide.toNat width.toNat l r)) then 0 else 4) else 10) else 7) else 9) else 1
/-- What Outer answers. -/
def outB (kind : Int) (on others : List Int) (wide width : Int) (l r : Bg) : Bg × Int :=
  (if outE kind on others wide width l r = 0 then aftB [] (joinL (decide (kind % 2 = 1)) (decide (2 ≤ kind)) on others wide.toNat width.toNat l r) else [], outE kind on others wide width l r)
/-! Equal rows that lie side by side, added up. -/
def mrgS (out : Bg) (x : Rw × Int) : Bg := match out.getLast? with
  | some y => if cmpR y.1 x.1 = 0 then out.dropLast ++ [(y.1, y.2 + x.2)] else out ++ [x]
  | none => [x]
def mrgB (xs : Bg) : Bg := xs.foldl mrgS []
theorem mrg_snoc (xs : Bg) (x : Rw × Int) : mrgB (xs ++ [x]) = mrgS (mrgB xs) x := by simp [mrgB]
theorem mrgS_nil (x : Rw × Int) : mrgS [] x = [x] := rfl
theorem mrgS_snoc (o : Bg) (y x : Rw × Int) : mrgS (o ++ [y]) x = if cmpR y.1 x.1 = 0 then o ++ [(y.1, y.2 + x.2)] else (o ++ [y]) ++ [x] := by
  unfold mrgS
  simp
structure MrgOk (xs d : Bg) : Prop where
  asc : Asc d
  pos : ∀ x ∈ d, 0 < x.2
  sum : ∀ r, look d r = sumG xs r
  top : ∀ y ∈ d, ∃ x ∈ xs, x.1 = y.1
theorem asc_snoc {d : Bg} {x : Rw × Int} (h : Asc d) (hx : okR x.1 = true) (hd : ∀ y ∈ d, cmpR y.1 x.1 < 0) : Asc (d ++ [x]) :=
  ⟨fun y hy => by
    rcases List.mem_append.1 hy with hy | hy
    · exact h.ok y hy
    · obtain rfl : y = x := by simpa using hy
      exact hx, List.pairwise_append.2 ⟨h.up, by simp, fun y hy z hz => by
    obtain rfl : z = x := by simpa using hz
    exact hd y hy⟩⟩
theorem mrg_ok {xs : Bg} (h : ∀ x ∈ xs, okR x.1 = true ∧ 0 < x.2) (hs : xs.Pairwise fun x y => ¬ cmpR y.1 x.1 < 0) : MrgOk xs (mrgB xs) := by
  have key : ∀ n, ∀ xs : Bg, xs.length = n → (∀ x ∈ xs, okR x.1 = true ∧ 0 < x.2) → xs.Pairwise (fun x y => ¬ cmpR y.1 x.1 < 0) → MrgOk xs (mrgB xs) ∧ (∀ o y, mrgB xs = o ++ [y] → ∃ z, xs.getLast? = some z ∧ z.1 = y.1) := by
    intro n
    induction n with
    | zero =>
      intro xs hn _ _
      obtain rfl := List.length_eq_zero_iff.1 hn
      exact ⟨⟨Asc.nil, (by intro x hx; cases hx), fun r => rfl, (by intro y hy; cases hy)⟩, fun o y e => by simp [mrgB] at e⟩
    | succ n ih =>
      intro xs hn h hs
      rcases List.eq_nil_or_concat xs with rfl | ⟨ys, x, rfl⟩
      · simp at hn
      rw [List.concat_eq_append] at *
      have hys : ys.length = n := by simpa using hn
      have h1 : ∀ z ∈ ys, okR z.1 = true ∧ 0 < z.2 := fun z hz => h z (List.mem_append_left _ hz)
      obtain ⟨hp1, _, hp2⟩ := List.pairwise_append.1 hs
      obtain ⟨hk, hlast⟩ := ih ys hys h1 hp1
      obtain ⟨hx1, hx2⟩ := h x (by simp)
      rw [mrg_snoc]
      obtain ⟨d, hd⟩ : ∃ d, mrgB ys = d := ⟨_, rfl⟩
      rw [hd] at hk hlast ⊢
      have hge : ∀ y ∈ d, ¬ cmpR x.1 y.1 < 0 := fun y hy => by
        obtain ⟨z, hz, e⟩ := hk.top y hy
        rw [← e]
        exact hp2 z hz x (by simp)
      rcases List.eq_nil_or_concat d with rfl | ⟨o, y, rfl⟩
      · rw [mrgS_nil]
        refine ⟨⟨asc_snoc Asc.nil hx1 (by intro y hy; cases hy), by simpa using hx2, fun r => ?_, by simp⟩, fun o y e => ?_⟩
        · rw [sumG_app, ← hk.sum r, sumG_one]
          simp [look]
        · have : o = [] ∧ x = y := by
            cases o with
            | nil => simpa using e
            | cons a o => simp at e
          exact ⟨x, by simp, by rw [this.2]⟩
      · rw [List.concat_eq_append] at *
        rw [mrgS_snoc]
        have hym : y ∈ o ++ [y] := by simp
        have hdis := asc_apart hk.asc
        by_cases hc : cmpR y.1 x.1 = 0
        · rw [if_pos hc]
          have exy : y.1 = x.1 := okR_eq (hk.asc.ok y hym) hx1 hc
          have hup := List.pairwise_append.1 hk.asc.up
          refine ⟨⟨asc_snoc ⟨fun z hz => hk.asc.ok z (List.mem_append_left _ hz), hup.1⟩ (by show okR y.1 = true; exact hk.asc.ok y hym) (fun z hz => hup.2.2 z hz y (by simp)), fun z hz => ?_, fun r => ?_, fun z hz => ?_⟩, fun o' y' e => ?_⟩
          · rcases List.mem_append.1 hz with hz | hz
            · exact hk.pos z (List.mem_append_left _ hz)
            · obtain rfl : z = (y.1, y.2 + x.2) := by simpa using hz
              have := hk.pos y hym
              show 0 < y.2 + x.2
              omega
          · rw [sumG_app, sumG_one, ← hk.sum r]
            have ho : ∀ z ∈ o, z.1 ≠ y.1 := fun z hz => cmp_ne (hup.2.2 z hz y (by simp))
            rw [look_snoc (x := (y.1, y.2 + x.2)) ho, look_snoc ho, exy]
            by_cases hr : x.1 = r
            · rw [if_pos hr, if_pos hr, if_pos hr]
            · rw [if_neg hr, if_neg hr, if_neg hr]
              omega
          · rcases List.mem_append.1 hz with hz | hz
            · obtain ⟨u, hu, e⟩ := hk.top z (List.mem_append_left _ hz)
              exact ⟨u, List.mem_append_left _ hu, e⟩
            · obtain rfl : z = (y.1, y.2 + x.2) := by simpa using hz
              exact ⟨x, by simp, exy.symm⟩
          · have e2 := List.append_inj' e rfl
            have : (y.1, y.2 + x.2) = y' := by simpa using e2.2
            exact ⟨x, by simp, by rw [← this]; exact exy.symm⟩
        · rw [if_neg hc]
          have hlt : ∀ z ∈ o ++ [y], cmpR z.1 x.1 < 0 := fun z hz => by
            obtain ⟨u, hu, eu⟩ := hlast o y rfl
            have hyx : cmpR y.1 x.1 < 0 := by
              have h9 := hge y hym
              have h8 := Tot.row.anti x.1 y.1
              omega
            rcases List.mem_append.1 hz with hz | hz
            · exact Tot.row.lt1 _ _ _ ((List.pairwise_append.1 hk.asc.up).2.2 z hz y (by simp)) (Int.le_of_lt hyx)
            · obtain rfl : z = y := by simpa using hz
              exact hyx
          refine ⟨⟨asc_snoc hk.asc hx1 hlt, fun z hz => ?_, fun r => ?_, fun z hz => ?_⟩, fun o' y' e => ?_⟩
          · rcases List.mem_append.1 hz with hz | hz
            · exact hk.pos z hz
            · obtain rfl : z = x := by simpa using hz
              exact hx2
          · rw [sumG_app, sumG_one, ← hk.sum r, look_snoc (fun z hz => cmp_ne (hlt z hz))]
            by_cases hr : x.1 = r
            · rw [if_pos hr, if_pos hr, ← hr, look_far (fun z hz => cmp_ne (hlt z hz))]
              omega
            · rw [if_neg hr, if_neg hr]
              omega
          · rcases List.mem_append.1 hz with hz | hz
            · obtain ⟨u, hu, e⟩ := hk.top z hz
              exact ⟨u, List.mem_append_left _ hu, e⟩
            · obtain rfl : z = x := by simpa using hz
              exact ⟨z, by simp, rfl⟩
          · have e2 := List.append_inj' e rfl
            have : x = y' := by simpa using e2.2
            exact ⟨x, by simp, by rw [this]⟩
  exact (key _ xs rfl h hs).1
/-- Both ways to add up come to the same bag. -/
theorem mrg_aft {xs ys : Bg} (h : ∀ x ∈ xs, okR x.1 = true ∧ 0 < x.2) (hp : ys.Perm xs) (hs : ys.Pairwise fun x y => ¬ cmpR y.1 x.1 < 0) : mrgB ys = aftB [] xs := by
  have h1 := mrg_ok (xs := ys) (fun x hx => h x (hp.mem_iff.1 hx)) hs
  have h2 := aft_ok (b := []) (l := xs) (fun x hx => (h x hx).1) Asc.nil (by simp)
  exact Net.same (xs := ys) (ys := [] ++ xs) ⟨h1.asc, fun x hx => by have := h1.pos x hx; omega, h1.sum⟩ h2 fun r => by rw [List.nil_append]; exact sumG_perm hp r
/-- What is told is valid, and there at least once. -/
theorem join_ok {lf rt : Bool} {on others : List Int} {wide width : Nat} {l r : Bg} (hl : ∀ x ∈ l, okR x.1 = true ∧ 0 < x.2 ∧ x.1.length = wide) (hr : ∀ y ∈ r, okR y.1 = true ∧ 0 < y.2 ∧ y.1.length = width) (hw : wide + width ≤ 8) : ∀ c ∈ joinL lf rt on others wide width l r, okR c.1 = true ∧ 0 < c.2 := by
  have h8 : ∀ {a b : Rw}, a.all okV = true → b.all okV = true → a.length + b.length ≤ 8 → okR (a ++ b) = true := fun {a b} h1 h2 h3 => by
    unfold okR
    rw [Bool.and_eq_true, decide_eq_true_eq, List.all_append, h1, h2, List.length_append]
    exact ⟨rfl, h3⟩
  intro c hc
  unfold joinL at hc
  rcases List.mem_append.1 hc with hc | hc
  · unfold leftsL at hc
    obtain ⟨x, hx, hc⟩ := List.mem_flatMap.1 hc
    obtain ⟨a1, a2, a3⟩ := hl x hx
    unfold leftL at hc
    rcases List.mem_append.1 hc with hc | hc
    · unfold pairL at hc
      obtain ⟨y, hy, rfl⟩ := List.mem_map.1 hc
      obtain ⟨b1, b2, b3⟩ := hr y (List.mem_filter.1 hy).1
      exact ⟨h8 (okR_vals a1) (okR_vals b1) (by omega), Int.mul_pos a2 b2⟩
    · split at hc
      · obtain rfl : c = (x.1 ++ nullR width, x.2) := by simpa using hc
        exact ⟨h8 (okR_vals a1) (nullR_okV _) (by rw [nullR_len]; omega), a2⟩
      · cases hc
  · unfold rightL at hc
    obtain ⟨y, hy, rfl⟩ := List.mem_map.1 hc
    obtain ⟨b1, b2, b3⟩ := hr y (List.mem_filter.1 hy).1
    exact ⟨h8 (nullR_okV _) (okR_vals b1) (by rw [nullR_len]; omega), b2⟩
end

end Go.Proofs.YtoapjidpfghnlaaGreatDoor
