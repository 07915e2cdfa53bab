/-
  Plain laws of entries: their order, and that a sorted list is told by what is in it.
-/
import Derived.Test.YthngjbhamgmcgaaBgA
namespace Go.Proofs.Ythngjbhamgmcgaa
set_option linter.unusedVariables false

structure En where
  g : Int
  nm : ByteArray
  ky : ByteArray
  vl : ByteArray
def encE (x : En) : List Value := [.int .i64 x.g, .string x.nm, .string x.ky, .string x.vl]
theorem encE_len (x : En) : (encE x).length = 4 := rfl
def En.v (x : En) : Value := .agg #[.int .i64 x.g, .string x.nm, .string x.ky, .string x.vl]
/-- The order of places, and of entries. -/
def plE (a b : En) : Int := thenC (cmpI a.g b.g) (thenC (cmpS a.nm b.nm) (cmpS a.ky b.ky))
def cmE (a b : En) : Int := thenC (plE a b) (cmpS a.vl b.vl)
theorem Tot.pl : Tot plE := (Tot.int.comap En.g).seq ((Tot.str.comap En.nm).seq (Tot.str.comap En.ky))
theorem Tot.en : Tot cmE := Tot.pl.seq (Tot.str.comap En.vl)
theorem cmE_eq {a b : En} (h : cmE a b = 0) : a = b := by
  obtain ⟨h1, h4⟩ := thenC_zero h
  obtain ⟨h1, h2⟩ := thenC_zero h1
  obtain ⟨h2, h3⟩ := thenC_zero h2
  cases a; cases b
  have e1 := cmpI_zero h1
  have e2 := cmpS_zero h2
  have e3 := cmpS_zero h3
  have e4 := cmpS_zero h4
  simp only at e1 e2 e3 e4
  rw [e1, e2, e3, e4]
def SrtE (l : List En) : Prop := l.Pairwise fun a b => cmE a b ≤ 0
theorem sorted_one : ∀ {a b : List En}, a.Perm b → SrtE a → SrtE b → a = b
  | [], b, hp, _, _ => (List.nil_perm.1 hp).symm
  | x :: l, [], hp, _, _ => absurd hp.length_eq (by simp)
  | x :: l, y :: k, hp, h1, h2 => by
    have e : x = y := by
      have hx : x ∈ y :: k := hp.mem_iff.1 List.mem_cons_self
      have hy : y ∈ x :: l := hp.mem_iff.2 List.mem_cons_self
      rcases List.mem_cons.1 hx with e | hx
      · exact e
      · rcases List.mem_cons.1 hy with e | hy
        · exact e.symm
        · have c1 := (List.pairwise_cons.1 h2).1 x hx
          have c2 := (List.pairwise_cons.1 h1).1 y hy
          have := Tot.en.anti x y
          exact cmE_eq (by omega)
    subst e
    rw [sorted_one hp.cons_inv (List.pairwise_cons.1 h1).2 (List.pairwise_cons.1 h2).2]
/-- Two neighbours have one place. -/
def twB : List En → Bool
  | x :: y :: l => decide (plE x y = 0) || twB (y :: l)
  | _ => false
theorem twB_yes {l : List En} {k : Nat} {x y : En} (hx : l[k]? = some x) (hy : l[k + 1]? = some y) (h : plE x y = 0) : twB l = true := by
  induction l generalizing k with
  | nil => simp at hx
  | cons a l ih =>
    cases k with
    | zero =>
      cases l with
      | nil => simp at hy
      | cons b l =>
        simp at hx hy
        subst hx hy
        simp [twB, h]
    | succ k =>
      have h1 := ih (k := k) (by simpa using hx) (by simpa using hy)
      cases l with
      | nil => simp at hx
      | cons b l => simp [twB, h1]
theorem twB_no {l : List En} (h : ∀ (k : Nat) (x y : En), l[k]? = some x → l[k + 1]? = some y → plE x y ≠ 0) : twB l = false := by
  induction l with
  | nil => rfl
  | cons a l ih =>
    have h1 := ih fun k x y hx hy => h (k + 1) x y (by simpa using hx) (by simpa using hy)
    cases l with
    | nil => rfl
    | cons b l => simp [twB, h1, h 0 a b rfl rfl]
def okS (s : ByteArray) : Bool := decide (s.size ≤ 1000000)
end Go.Proofs.Ythngjbhamgmcgaa
