/-
  Plain laws for ClockMerges: what the law's loops reckon; two windows exchanged.
-/
import Derived.Test.YtehifbogadohgaaMgMrg
import Derived.Test.YtehifbogadohgaaSameW
namespace Go.Proofs.Ytehifbogadohgaa
open Go.RowKit
set_option linter.unusedVariables false

theorem perm_swap {l : List Wd} {i j : Nat} {a b : Wd} (ha : l[i]? = some a) (hb : l[j]? = some b) : ((l.set i b).set j a).Perm l := by
  obtain ⟨hi, rfl⟩ := List.getElem?_eq_some_iff.1 ha
  obtain ⟨hj, rfl⟩ := List.getElem?_eq_some_iff.1 hb
  have h := Array.swap_perm (xs := l.toArray) (i := i) (j := j) (by simpa using hi) (by simpa using hj)
  have h2 := h.toList
  rw [Array.swap_def] at h2
  simpa using h2
theorem flatW_cons (x : Wd) (l : List Wd) : flatW (x :: l) = .int .i64 x.1 :: .int .i64 x.2 :: flatW l := rfl
theorem flatW_setw : ∀ (l : List Wd) (i : Nat) (y : Wd), ((flatW l).set (i * 2) (.int .i64 y.1)).set (i * 2 + 1) (.int .i64 y.2) = flatW (l.set i y)
  | [], i, y => by simp [flatW]
  | x :: l, 0, y => by rw [flatW_cons]; rfl
  | x :: l, i + 1, y => by
    rw [flatW_cons, List.set_cons_succ, flatW_cons, ← flatW_setw l i y, show (i + 1) * 2 = i * 2 + 1 + 1 by omega]
    simp only [List.set_cons_succ]
/-- Within one of them. -/
def inAny (x : Wd) (l : List Wd) : Bool := l.any fun o => decide (o.1 ≤ x.1) && decide (x.2 ≤ o.2)
theorem inAny_next {x : Wd} {l : List Wd} {k : Nat} {o : Wd} (h : l[k]? = some o) : inAny x (l.take (k + 1)) = (inAny x (l.take k) || (decide (o.1 ≤ x.1) && decide (x.2 ≤ o.2))) := by
  unfold inAny
  rw [take_snoc' h, List.any_append]
  simp
theorem Mg.inAny {l out : List Wd} (h : Mg l out) {w : Wd} (hw : w ∈ l) (h0 : w.1 < w.2) : inAny w out = true := by
  obtain ⟨o, ho, h1, h2⟩ := h.within hw h0
  exact List.any_eq_true.2 ⟨o, ho, by simp [h1, h2]⟩
theorem okMg_parts {l : List Wd} (h : okMg l = true) : l.length ≤ 400 ∧ AllV l := by
  unfold okMg at h
  rw [Bool.and_eq_true] at h
  exact ⟨by simpa using h.1, okWs_all h.2⟩
theorem okMg_of {l : List Wd} (h : l.length ≤ 400) (hv : AllV l) : okMg l = true := by
  unfold okMg okWs
  rw [Bool.and_eq_true]
  exact ⟨by simpa using h, List.all_eq_true.2 hv⟩
theorem Mg.allV {l out : List Wd} (h : Mg l out) (hv : AllV l) : AllV out := fun x hx => by
  obtain ⟨a, ha, e1⟩ := h.lo x hx
  obtain ⟨b, hb, e2⟩ := h.hi x hx
  have h1 := hv a ha
  have h2 := hv b hb
  have h3 := h.dis.1 x hx
  unfold vwin at h1 h2 ⊢
  rw [decide_eq_true_iff] at h1 h2 ⊢
  omega
theorem MgE.of_ok {l out : List Wd} {E : Int} (h : MgE l out E) (ho : okMg l = true) : E = 0 ∧ Mg l out := by unfold MgE at h; rw [ho] at h; exact h
theorem MgE.of_bad {l out : List Wd} {E : Int} (h : MgE l out E) (ho : okMg l = false) : E = 1 ∧ out = [] := by unfold MgE at h; rw [ho] at h; exact h
theorem okMg_perm {l k : List Wd} (hp : k.Perm l) (h : okMg l = true) : okMg k = true := by
  obtain ⟨h1, h2⟩ := okMg_parts h
  exact okMg_of (by rw [hp.length_eq]; exact h1) fun x hx => h2 x (hp.mem_iff.1 hx)
theorem SameW_v (A A' : Option Addr) (n m c c' : Nat) (xs ys : List Wd) (w : World) (hx : Reads w w.heap.size 2 A n (flatW xs)) (hy : Reads w w.heap.size 2 A' m (flatW ys)) (hn : n ≤ 4611686018427387904) (hm : m ≤ 4611686018427387904) (he : xs = ys) :
    Calls Try.prog 11 #[.slice A n c, .slice A' m c'] w (RetV w (.bool true)) :=
  (SameW_any A A' n m c c' _ _ xs ys w hx hy hn hm).mono fun e w' ⟨h1, k, h2⟩ => by
    subst h2
    rw [he] at h1
    exact ⟨by rw [h1]; simp, below_drewN (Below.refl _ _) k⟩
theorem own_cell {w : World} {base : Nat} {e : TypeId} {size g c n j : Nat} {xs : List Value} {u : Value} (h : w.ownsRow base e size (.slice (some ⟨g, 0, none⟩) n c) n xs) (hu : xs[j]? = some u) : w.cell? ⟨g, j, none⟩ = some u := by
  have hn : 0 < n := by
    rcases Nat.eq_zero_or_pos n with h0 | h0
    · have := h.1
      subst h0
      have h1 := (List.getElem?_eq_some_iff.1 hu).1
      omega
    · exact h0
  obtain ⟨b, off, e, hb, hc⟩ := (Reads.of_own h).2 hn
  injection e with e
  injection e with e1 e2
  subst e1 e2
  have := hc j u hu
  rwa [Nat.zero_add] at this
/-- Two windows of a row of the call's own exchanged, store by store. -/
structure Swp (X : World) (base g c n k kk : Nat) (lr : List Wd) (x y : Wd) : Prop where
  c0 : X.cell? ⟨g, k * 2, none⟩ = some (.int .i64 x.1)
  f0 : X.frozen? ⟨g, k * 2, none⟩ = false
  c1 : ∃ u, (X.setCell ⟨g, k * 2, none⟩ (.int .i64 y.1)).cell? ⟨g, k * 2 + 1, none⟩ = some u
  f1 : (X.setCell ⟨g, k * 2, none⟩ (.int .i64 y.1)).frozen? ⟨g, k * 2 + 1, none⟩ = false
  c2 : ∃ u, ((X.setCell ⟨g, k * 2, none⟩ (.int .i64 y.1)).setCell ⟨g, k * 2 + 1, none⟩ (.int .i64 y.2)).cell? ⟨g, kk * 2, none⟩ = some u
  f2 : ((X.setCell ⟨g, k * 2, none⟩ (.int .i64 y.1)).setCell ⟨g, k * 2 + 1, none⟩ (.int .i64 y.2)).frozen? ⟨g, kk * 2, none⟩ = false
  c3 : ∃ u, (((X.setCell ⟨g, k * 2, none⟩ (.int .i64 y.1)).setCell ⟨g, k * 2 + 1, none⟩ (.int .i64 y.2)).setCell ⟨g, kk * 2, none⟩ (.int .i64 x.1)).cell? ⟨g, kk * 2 + 1, none⟩ = some u
  f3 : (((X.setCell ⟨g, k * 2, none⟩ (.int .i64 y.1)).setCell ⟨g, k * 2 + 1, none⟩ (.int .i64 y.2)).setCell ⟨g, kk * 2, none⟩ (.int .i64 x.1)).frozen? ⟨g, kk * 2 + 1, none⟩ = false
  own : ((((X.setCell ⟨g, k * 2, none⟩ (.int .i64 y.1)).setCell ⟨g, k * 2 + 1, none⟩ (.int .i64 y.2)).setCell ⟨g, kk * 2, none⟩ (.int .i64 x.1)).setCell ⟨g, kk * 2 + 1, none⟩ (.int .i64 x.2)).ownsRow base 35 2 (.slice (some ⟨g, 0, none⟩) n c) n (flatW ((lr.set k y).set kk x))
theorem some_at {xs : List Value} {j : Nat} (h : j < xs.length) : ∃ u, xs[j]? = some u := ⟨_, List.getElem?_eq_getElem h⟩
theorem Swp.of {X : World} {base g c n k kk : Nat} {lr : List Wd} {x y : Wd} (h : X.ownsRow base 35 2 (.slice (some ⟨g, 0, none⟩) n c) n (flatW lr)) (hx : lr[k]? = some x) (hk : k < n) (hkk : kk < n) : Swp X base g c n k kk lr x y := by
  have hl := h.1
  have s1 := own_store (j := k * 2) h (by omega) (.int .i64 y.1)
  have s2 := own_store (j := k * 2 + 1) s1 (by omega) (.int .i64 y.2)
  rw [flatW_setw] at s2
  have s3 := own_store (j := kk * 2) s2 (by omega) (.int .i64 x.1)
  have s4 := own_store (j := kk * 2 + 1) s3 (by omega) (.int .i64 x.2)
  rw [flatW_setw] at s4
  have l2 := s2.1
  obtain ⟨u1, h1⟩ := some_at (xs := (flatW lr).set (k * 2) (.int .i64 y.1)) (j := k * 2 + 1) (by rw [List.length_set]; omega)
  obtain ⟨u2, h2⟩ := some_at (xs := flatW (lr.set k y)) (j := kk * 2) (by omega)
  obtain ⟨u3, h3⟩ := some_at (xs := (flatW (lr.set k y)).set (kk * 2) (.int .i64 x.1)) (j := kk * 2 + 1) (by rw [List.length_set]; omega)
  exact ⟨own_cell h (flatW_get hx).1, h.frozenAt _, ⟨u1, own_cell s1 h1⟩, s1.frozenAt _, ⟨u2, own_cell s2 h2⟩, s2.frozenAt _, ⟨u3, own_cell s3 h3⟩, s3.frozenAt _, s4⟩
theorem short_any (n : Int) (w : World) : Calls Try.prog 32 #[.int .i64 n] w fun e w' => e = .returned (.bool (decide (n ≤ 500))) ∧ w = w' := by
  go_enter Try.func32, Try.ntmps32
  go_wp2
  go_ret
  exact ⟨rfl, rfl⟩
end Go.Proofs.Ytehifbogadohgaa
