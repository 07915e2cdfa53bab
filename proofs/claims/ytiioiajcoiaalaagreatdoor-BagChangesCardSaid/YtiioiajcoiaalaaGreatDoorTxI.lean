/-
  A valid row's text tells the row.
-/
import Derived.Test.YtiioiajcoiaalaaGreatDoorTxM
namespace Go.Proofs.YtiioiajcoiaalaaGreatDoor
set_option linter.unusedSimpArgs false

/-- The number that digits tell. -/
def dval (l : List UInt8) : Nat := l.foldl (fun a c => 10 * a + (c.toNat - 48)) 0
theorem dval_snoc (l : List UInt8) (c : UInt8) : dval (l ++ [c]) = 10 * dval l + (c.toNat - 48) := by simp [dval]
theorem dig_nat {d : Nat} (h : d < 10) : (UInt8.ofNat (48 + d)).toNat = 48 + d := by
  rw [UInt8.toNat_ofNat']
  omega
theorem dec_all (u : Nat) : (∀ c ∈ Lib.decDigits u, 48 ≤ c.toNat ∧ c.toNat ≤ 57) ∧ dval (Lib.decDigits u) = u ∧ Lib.decDigits u ≠ [] := by
  induction u using Nat.strongRecOn with
  | _ u ih =>
    rw [Lib.decDigits]
    split
    · rename_i h
      refine ⟨fun c hc => ?_, ?_, by simp⟩
      · rw [List.mem_singleton] at hc
        subst hc
        rw [dig_nat h]; omega
      · show 10 * 0 + ((UInt8.ofNat (48 + u)).toNat - 48) = u
        rw [dig_nat h]; omega
    · rename_i h
      obtain ⟨h1, h2, h3⟩ := ih (u / 10) (by omega)
      have hm : u % 10 < 10 := Nat.mod_lt _ (by omega)
      refine ⟨fun c hc => ?_, ?_, by simp⟩
      · rcases List.mem_append.1 hc with hc | hc
        · exact h1 c hc
        · rw [List.mem_singleton] at hc
          subst hc
          rw [dig_nat hm]; omega
      · rw [dval_snoc, h2, dig_nat hm]; omega
theorem itoa_all (n : Int) : ∃ c l, Lib.itoa n = c :: l ∧ (c.toNat = 45 ∨ (48 ≤ c.toNat ∧ c.toNat ≤ 57)) ∧ ∀ x ∈ Lib.itoa n, x.toNat ≠ 44 := by
  unfold Lib.itoa
  split
  · obtain ⟨h1, _, _⟩ := dec_all n.natAbs
    refine ⟨45, _, rfl, .inl rfl, fun x hx => ?_⟩
    rcases List.mem_cons.1 hx with rfl | hx
    · decide
    · have := h1 x hx; omega
  · obtain ⟨h1, _, h3⟩ := dec_all n.toNat
    cases hd : Lib.decDigits n.toNat with
    | nil => exact absurd hd h3
    | cons c l =>
      rw [hd] at h1
      exact ⟨c, l, rfl, .inr (h1 c List.mem_cons_self), fun x hx => by have := h1 x hx; omega⟩
theorem itoa_inj {a b : Int} (h : Lib.itoa a = Lib.itoa b) : a = b := by
  unfold Lib.itoa at h
  obtain ⟨h1, h2, h3⟩ := dec_all a.natAbs
  obtain ⟨k1, k2, k3⟩ := dec_all b.natAbs
  obtain ⟨h1', h2', h3'⟩ := dec_all a.toNat
  obtain ⟨k1', k2', k3'⟩ := dec_all b.toNat
  split at h
  · split at h
    · have := congrArg dval (List.cons.inj h).2
      rw [h2, k2] at this
      omega
    · exfalso
      have := k1' 45 (by rw [← h]; exact List.mem_cons_self)
      simp at this
  · split at h
    · exfalso
      have := h1' 45 (by rw [h]; exact List.mem_cons_self)
      simp at this
    · have := congrArg dval h
      rw [h2', k2'] at this
      omega

/-- A text that stands in front of nothing or of a comma. -/
def Fin_ (s : List UInt8) : Prop := s = [] ∨ ∃ r, s = 44 :: r
theorem pre_inj {x y s t : List UInt8} (hx : ∀ c ∈ x, c.toNat ≠ 44) (hy : ∀ c ∈ y, c.toNat ≠ 44) (hs : Fin_ s) (ht : Fin_ t) (h : x ++ s = y ++ t) : x = y ∧ s = t := by
  induction x generalizing y with
  | nil =>
    cases y with
    | nil => exact ⟨rfl, h⟩
    | cons c y =>
      exfalso
      rcases hs with rfl | ⟨r, rfl⟩
      · simp at h
      · simp at h
        have := hy c List.mem_cons_self
        rw [← h.1] at this
        exact this rfl
  | cons c x ih =>
    cases y with
    | nil =>
      exfalso
      rcases ht with rfl | ⟨r, rfl⟩
      · simp at h
      · simp at h
        have := hx c List.mem_cons_self
        rw [h.1] at this
        exact this rfl
    | cons d y =>
      simp at h
      obtain ⟨rfl, h⟩ := h
      obtain ⟨h1, h2⟩ := ih (fun c hc => hx c (List.mem_cons_of_mem _ hc)) (fun c hc => hy c (List.mem_cons_of_mem _ hc)) h
      exact ⟨by rw [h1], h2⟩

/-- A byte within quotes, read again. -/
def hexV (c : UInt8) : Nat := if c.toNat < 58 then c.toNat - 48 else c.toNat - 87
theorem hexV_B : ∀ d : Fin 16, hexV (hexB d.val) = d.val := by decide
def deq : List UInt8 → Option (UInt8 × List UInt8)
  | [] => none
  | c :: r => if c = 92 then (match r with
      | [] => none
      | d :: r => if d = 120 then (match r with
          | a :: b :: r => some (UInt8.ofNat (16 * hexV a + hexV b), r)
          | _ => none) else if d = 110 then some (10, r) else some (d, r)) else some (c, r)
theorem u8_of {c : UInt8} {n : Nat} (hn : n < 256) (h : c.toNat = n) : c = UInt8.ofNat n := by
  apply UInt8.toNat_inj.1
  rw [h, UInt8.toNat_ofNat']
  omega
theorem deq_qB (c : UInt8) (x : List UInt8) : deq (qB c ++ x) = some (c, x) := by
  have hc := c.toNat_lt
  unfold qB
  split
  · rename_i h
    rcases h with h | h
    · obtain rfl : c = 34 := u8_of (n := 34) (by decide) h
      rfl
    · obtain rfl : c = 92 := u8_of (n := 92) (by decide) h
      rfl
  · rename_i h
    split
    · rename_i h2
      obtain rfl : c = 10 := u8_of (n := 10) (by decide) h2
      rfl
    · split
      · have h1 := hexV_B ⟨c.toNat / 16, by omega⟩
        have h2 := hexV_B ⟨c.toNat % 16, by omega⟩
        show deq (92 :: 120 :: hexB (c.toNat / 16) :: hexB (c.toNat % 16) :: x) = _
        simp only [deq, if_true]
        rw [h1, h2]
        have h3 : 16 * (c.toNat / 16) + c.toNat % 16 = c.toNat := by omega
        show some (UInt8.ofNat (16 * (c.toNat / 16) + c.toNat % 16), x) = _
        rw [h3, ← u8_of hc rfl]
      · have h3 : c ≠ 92 := fun e => by subst e; exact h (.inr rfl)
        show deq (c :: x) = _
        simp only [deq, if_neg h3]
theorem qB_head (c : UInt8) : ∃ d r, qB c = d :: r ∧ d ≠ 34 := by
  unfold qB
  split
  · exact ⟨92, [c], rfl, by decide⟩
  · rename_i h
    split
    · exact ⟨92, [110], rfl, by decide⟩
    · split
      · exact ⟨92, _, rfl, by decide⟩
      · exact ⟨c, [], rfl, fun e => by subst e; exact h (.inl rfl)⟩
theorem quo_inj : ∀ {l m s t : List UInt8}, l.flatMap qB ++ 34 :: s = m.flatMap qB ++ 34 :: t → l = m ∧ s = t
  | [], [], s, t, h => by simpa using h
  | [], c :: m, s, t, h => by
    obtain ⟨d, r, h1, h2⟩ := qB_head c
    rw [List.flatMap_cons, h1] at h
    simp at h
    exact absurd h.1.symm h2
  | c :: l, [], s, t, h => by
    obtain ⟨d, r, h1, h2⟩ := qB_head c
    rw [List.flatMap_cons, h1] at h
    simp at h
    exact absurd h.1 h2
  | c :: l, d :: m, s, t, h => by
    rw [List.flatMap_cons, List.flatMap_cons, List.append_assoc, List.append_assoc] at h
    have h1 := congrArg deq h
    rw [deq_qB, deq_qB] at h1
    injection h1 with h1
    injection h1 with h1 h2
    obtain ⟨h3, h4⟩ := quo_inj h2
    exact ⟨by rw [h1, h3], h4⟩

theorem valT_inj {a b : Val} (ha : okV a = true) (hb : okV b = true) {s t : List UInt8} (hs : Fin_ s) (ht : Fin_ t) (h : valT a ++ s = valT b ++ t) : a = b ∧ s = t := by
  obtain ⟨ak, an, as⟩ := a
  obtain ⟨bk, bn, bs⟩ := b
  obtain ⟨c, l, e1, e2, e3⟩ := itoa_all an
  obtain ⟨d, m, f1, f2, f3⟩ := itoa_all bn
  rcases okV_cases ha with ⟨h0, h1, h2⟩ | ⟨h0, h1, _⟩ | ⟨h0, h1, _⟩ <;> rcases okV_cases hb with ⟨k0, k1, k2⟩ | ⟨k0, k1, _⟩ | ⟨k0, k1, _⟩ <;> simp only at h0 h1 k0 k1 <;> subst h0 k0 <;> simp only [valT] at h
  · simp at h
    simp only at h2 k2
    rw [h1, k1, empty_of_size h2, empty_of_size k2]
    exact ⟨rfl, h⟩
  · exfalso
    rw [f1] at h
    simp at h
    rw [← h.1] at f2
    simp at f2
  · exfalso
    simp [quoB] at h
  · exfalso
    rw [e1] at h
    simp at h
    rw [h.1] at e2
    simp at e2
  · simp at h
    obtain ⟨h3, h4⟩ := pre_inj e3 f3 hs ht h
    have := itoa_inj h3
    rw [this, empty_of_size h1, empty_of_size k1]
    exact ⟨rfl, h4⟩
  · exfalso
    rw [e1] at h
    simp [quoB] at h
    rw [h.1] at e2
    simp at e2
  · exfalso
    simp [quoB] at h
  · exfalso
    rw [f1] at h
    simp [quoB] at h
    rw [← h.1] at f2
    simp at f2
  · simp only [quoB, List.cons_append, List.append_assoc, List.singleton_append] at h
    simp at h
    obtain ⟨h3, h4⟩ := quo_inj (s := s) (t := t) (by simpa using h)
    have : as = bs := by
      obtain ⟨⟨as⟩⟩ := as
      obtain ⟨⟨bs⟩⟩ := bs
      simpa using h3
    rw [h1, k1, this]
    exact ⟨rfl, h4⟩
theorem tail_fin (r : Rw) : Fin_ (Lib.joinTail [44] (r.map valT)) := by
  cases r with
  | nil => exact .inl rfl
  | cons v r => exact .inr ⟨_, rfl⟩
theorem valT_ne {v : Val} : ∃ c l, valT v = c :: l := by
  unfold valT
  split
  · obtain ⟨c, l, h, _⟩ := itoa_all v.n
    exact ⟨c, l, h⟩
  · split
    · exact ⟨_, _, rfl⟩
    · exact ⟨_, _, rfl⟩
theorem tail_inj : ∀ {x y : Rw}, x.all okV = true → y.all okV = true → Lib.joinTail [44] (x.map valT) = Lib.joinTail [44] (y.map valT) → x = y
  | [], [], _, _, _ => rfl
  | [], b :: y, _, _, h => by simp [Lib.joinTail] at h
  | a :: x, [], _, _, h => by simp [Lib.joinTail] at h
  | a :: x, b :: y, hx, hy, h => by
    rw [List.all_cons, Bool.and_eq_true] at hx hy
    have h1 : valT a ++ Lib.joinTail [44] (x.map valT) = valT b ++ Lib.joinTail [44] (y.map valT) := by simpa [Lib.joinTail] using h
    obtain ⟨h2, h3⟩ := valT_inj hx.1 hy.1 (tail_fin x) (tail_fin y) h1
    rw [h2, tail_inj hx.2 hy.2 h3]
/-- A valid row's text tells the row. -/
theorem rowT_inj {x y : Rw} (hx : okR x = true) (hy : okR y = true) (h : rowT x = rowT y) : x = y := by
  unfold rowT at h
  rw [if_pos hx, if_pos hy] at h
  have ax := okR_all hx
  have ay := okR_all hy
  cases x with
  | nil =>
    cases y with
    | nil => rfl
    | cons b y =>
      exfalso
      rw [List.map_cons, Lib.join_cons] at h
      obtain ⟨c, l, e⟩ := valT_ne (v := b)
      rw [e] at h
      simp [Lib.join_nil] at h
  | cons a x =>
    cases y with
    | nil =>
      exfalso
      rw [List.map_cons, Lib.join_cons] at h
      obtain ⟨c, l, e⟩ := valT_ne (v := a)
      rw [e] at h
      simp [Lib.join_nil] at h
    | cons b y =>
      rw [List.map_cons, List.map_cons, Lib.join_cons, Lib.join_cons] at h
      rw [List.all_cons, Bool.and_eq_true] at ax ay
      obtain ⟨h2, h3⟩ := valT_inj ax.1 ay.1 (tail_fin x) (tail_fin y) h
      rw [h2, tail_inj ax.2 ay.2 h3]
end Go.Proofs.YtiioiajcoiaalaaGreatDoor
