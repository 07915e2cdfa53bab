/-
  Bags as plain data: the rows of two bags, each once (what the program goes through), a row put into a bag (what the reference does), and that both tell the same.
-/
import Derived.Test.YtiioiajcoiaalaaGreatDoorBgA
namespace Go.Proofs.YtiioiajcoiaalaaGreatDoor

abbrev Pr2 := Rw × Int × Int
def prs : Bg → Bg → List Pr2
  | [], b => b.map fun y => (y.1, 0, y.2)
  | x :: a, [] => (x.1, x.2, 0) :: prs a []
  | x :: a, y :: b => if cmpR x.1 y.1 < 0 then (x.1, x.2, 0) :: prs a (y :: b) else if 0 < cmpR x.1 y.1 then (y.1, 0, y.2) :: prs (x :: a) b else (y.1, x.2, y.2) :: prs a b
termination_by a b => a.length + b.length
def both (f : Int → Int → Int) : List Pr2 → Bg
  | [] => []
  | t :: l => if f t.2.1 t.2.2 = 0 then both f l else (t.1, f t.2.1 t.2.2) :: both f l

/-- What prs holds, of bags that ascend. -/
structure Prs (a b : Bg) (l : List Pr2) : Prop where
  up : l.Pairwise (fun x y => cmpR x.1 y.1 < 0)
  val : ∀ t ∈ l, t.2.1 = look a t.1 ∧ t.2.2 = look b t.1
  key : ∀ t ∈ l, (∃ x ∈ a, x.1 = t.1) ∨ ∃ y ∈ b, y.1 = t.1
  all : ∀ r, ((∃ x ∈ a, x.1 = r) ∨ ∃ y ∈ b, y.1 = r) → ∃ t ∈ l, t.1 = r
theorem look_mem {l : Bg} (h : Asc l) {x : Rw × Int} (hx : x ∈ l) : look l x.1 = x.2 := by
  induction l with
  | nil => cases hx
  | cons y l ih =>
    rw [look]
    rcases List.mem_cons.1 hx with rfl | hx
    · rw [if_pos rfl]
    · rw [if_neg (cmp_ne (h.head x hx)), ih h.tail hx]
theorem Asc.above {x : Rw × Int} {l : Bg} (h : Asc (x :: l)) {r : Rw} (hr : cmpR r x.1 < 0) : ∀ y ∈ x :: l, cmpR r y.1 < 0 := fun y hy => by
  rcases List.mem_cons.1 hy with rfl | hy
  · exact hr
  · exact Tot.row.lt1 _ _ _ hr (Int.le_of_lt (h.head y hy))
theorem Prs.cons {a b a' b' : Bg} {l : List Pr2} {t : Pr2} (h : Prs a' b' l) (hup : ∀ z, (∃ x ∈ a', x.1 = z) ∨ (∃ y ∈ b', y.1 = z) → cmpR t.1 z < 0) (hv : t.2.1 = look a t.1 ∧ t.2.2 = look b t.1)
    (hk : (∃ x ∈ a, x.1 = t.1) ∨ ∃ y ∈ b, y.1 = t.1) (ha : ∀ z, z ≠ t.1 → look a z = look a' z) (hb : ∀ z, z ≠ t.1 → look b z = look b' z)
    (ka : ∀ z, z ≠ t.1 → ((∃ x ∈ a, x.1 = z) ↔ ∃ x ∈ a', x.1 = z)) (kb : ∀ z, z ≠ t.1 → ((∃ x ∈ b, x.1 = z) ↔ ∃ x ∈ b', x.1 = z)) : Prs a b (t :: l) := by
  have hne : ∀ s ∈ l, s.1 ≠ t.1 := fun s hs e => by
    have := hup s.1 (h.key s hs)
    exact cmp_ne this e.symm
  refine ⟨List.pairwise_cons.2 ⟨fun s hs => hup _ (h.key s hs), h.up⟩, fun s hs => ?_, fun s hs => ?_, fun r hr => ?_⟩
  · rcases List.mem_cons.1 hs with rfl | hs
    · exact hv
    · rw [ha _ (hne s hs), hb _ (hne s hs)]; exact h.val s hs
  · rcases List.mem_cons.1 hs with rfl | hs
    · exact hk
    · rw [ka _ (hne s hs), kb _ (hne s hs)]; exact h.key s hs
  · by_cases e : r = t.1
    · exact ⟨t, by simp, e.symm⟩
    · rw [ka _ e, kb _ e] at hr
      obtain ⟨s, h1, h2⟩ := h.all r hr
      exact ⟨s, List.mem_cons_of_mem _ h1, h2⟩
theorem keys_cons {x : Rw × Int} {l : Bg} {z : Rw} (hz : z ≠ x.1) : (∃ y ∈ x :: l, y.1 = z) ↔ ∃ y ∈ l, y.1 = z := by
  constructor
  · rintro ⟨y, hy, e⟩
    rcases List.mem_cons.1 hy with rfl | hy
    · exact absurd e.symm hz
    · exact ⟨y, hy, e⟩
  · rintro ⟨y, hy, e⟩
    exact ⟨y, List.mem_cons_of_mem _ hy, e⟩
theorem look_cons {x : Rw × Int} {l : Bg} {z : Rw} (hz : z ≠ x.1) : look (x :: l) z = look l z := by rw [look, if_neg fun e => hz e.symm]
theorem look_hd {x : Rw × Int} {l : Bg} : look (x :: l) x.1 = x.2 := by rw [look, if_pos rfl]
theorem key_gt {l : Bg} {p z : Rw} (h : ∀ y ∈ l, cmpR p y.1 < 0) (hz : ∃ y ∈ l, y.1 = z) : cmpR p z < 0 := by obtain ⟨y, hy, rfl⟩ := hz; exact h y hy
theorem prs_ok : ∀ (a b : Bg), Asc a → Asc b → Prs a b (prs a b)
  | [], b, _, hb => by
    rw [prs]
    refine ⟨?_, fun t ht => ?_, fun t ht => ?_, fun r hr => ?_⟩
    · rw [List.pairwise_map]; exact hb.up
    · obtain ⟨y, hy, rfl⟩ := List.mem_map.1 ht
      exact ⟨rfl, (look_mem hb hy).symm⟩
    · obtain ⟨y, hy, rfl⟩ := List.mem_map.1 ht
      exact .inr ⟨y, hy, rfl⟩
    · rcases hr with ⟨x, hx, _⟩ | ⟨y, hy, rfl⟩
      · cases hx
      · exact ⟨_, List.mem_map.2 ⟨y, hy, rfl⟩, rfl⟩
  | x :: a, [], ha, hb => by
    rw [prs]
    refine (prs_ok a [] ha.tail hb).cons (fun z hz => ?_) ⟨look_hd.symm, rfl⟩ (.inl ⟨x, by simp, rfl⟩) (fun z hz => look_cons hz) (fun _ _ => rfl) (fun z hz => keys_cons hz) (fun _ _ => Iff.rfl)
    rcases hz with hz | ⟨y, hy, _⟩
    · exact key_gt ha.head hz
    · cases hy
  | x :: a, y :: b, ha, hb => by
    rw [prs]
    split
    · rename_i hlt
      refine (prs_ok a (y :: b) ha.tail hb).cons (fun z hz => ?_) ⟨look_hd.symm, (look_none (hb.above hlt)).symm⟩ (.inl ⟨x, by simp, rfl⟩) (fun z hz => look_cons hz) (fun _ _ => rfl) (fun z hz => keys_cons hz) (fun _ _ => Iff.rfl)
      rcases hz with hz | hz
      · exact key_gt ha.head hz
      · exact key_gt (hb.above hlt) hz
    · rename_i hge
      split
      · rename_i hgt
        have hlt : cmpR y.1 x.1 < 0 := by have := Tot.row.anti x.1 y.1; omega
        refine (prs_ok (x :: a) b ha hb.tail).cons (fun z hz => ?_) ⟨(look_none (ha.above hlt)).symm, look_hd.symm⟩ (.inr ⟨y, by simp, rfl⟩) (fun _ _ => rfl) (fun z hz => look_cons hz) (fun _ _ => Iff.rfl) (fun z hz => keys_cons hz)
        rcases hz with hz | hz
        · exact key_gt (ha.above hlt) hz
        · exact key_gt hb.head hz
      · rename_i hle
        have he : x.1 = y.1 := okR_eq (ha.ok x (by simp)) (hb.ok y (by simp)) (by omega)
        refine (prs_ok a b ha.tail hb.tail).cons (fun z hz => ?_) ⟨by rw [← he]; exact look_hd.symm, look_hd.symm⟩ (.inr ⟨y, by simp, rfl⟩) (fun z hz => look_cons (by rw [he]; exact hz)) (fun z hz => look_cons hz) (fun z hz => keys_cons (by rw [he]; exact hz)) (fun z hz => keys_cons hz)
        rcases hz with hz | hz
        · have := key_gt ha.head hz
          rwa [he] at this
        · exact key_gt hb.head hz
termination_by a b => a.length + b.length
theorem both_key {f : Int → Int → Int} : ∀ {l : List Pr2} {x : Rw × Int}, x ∈ both f l → ∃ t ∈ l, t.1 = x.1 ∧ x.2 = f t.2.1 t.2.2 ∧ x.2 ≠ 0
  | t :: l, x, h => by
    rw [both] at h
    split at h
    · obtain ⟨s, h1, h2⟩ := both_key h
      exact ⟨s, List.mem_cons_of_mem _ h1, h2⟩
    · rename_i hf
      rcases List.mem_cons.1 h with rfl | h
      · exact ⟨t, by simp, rfl, rfl, hf⟩
      · obtain ⟨s, h1, h2⟩ := both_key h
        exact ⟨s, List.mem_cons_of_mem _ h1, h2⟩
theorem both_up {f : Int → Int → Int} : ∀ {l : List Pr2}, l.Pairwise (fun x y => cmpR x.1 y.1 < 0) → (both f l).Pairwise (fun x y => cmpR x.1 y.1 < 0)
  | [], _ => List.Pairwise.nil
  | t :: l, h => by
    obtain ⟨h1, h2⟩ := List.pairwise_cons.1 h
    rw [both]
    split
    · exact both_up h2
    · refine List.pairwise_cons.2 ⟨fun y hy => ?_, both_up h2⟩
      obtain ⟨s, hs, e, _⟩ := both_key hy
      rw [← e]; exact h1 s hs
theorem both_look {f : Int → Int → Int} : ∀ {l : List Pr2}, l.Pairwise (fun x y => cmpR x.1 y.1 < 0) → ∀ r, look (both f l) r = match l.find? (fun t => decide (t.1 = r)) with
    | some t => f t.2.1 t.2.2
    | none => 0
  | [], _, r => rfl
  | t :: l, h, r => by
    obtain ⟨h1, h2⟩ := List.pairwise_cons.1 h
    rw [both, List.find?_cons]
    by_cases e : t.1 = r
    · rw [decide_eq_true e]
      split
      · rename_i hz
        rw [look_none fun x hx => ?_]
        · exact hz.symm
        · obtain ⟨s, hs, es, _⟩ := both_key hx
          rw [← es, ← e]; exact h1 s hs
      · rw [look, if_pos e]
    · rw [decide_eq_false e]
      split
      · exact both_look h2 r
      · rw [look, if_neg e]; exact both_look h2 r
/-- What is told of a row by two bags put together. -/
theorem both_prs {f : Int → Int → Int} (hf : f 0 0 = 0) {a b : Bg} (ha : Asc a) (hb : Asc b) : Asc (both f (prs a b)) ∧ (∀ x ∈ both f (prs a b), x.2 ≠ 0) ∧ ∀ r, look (both f (prs a b)) r = f (look a r) (look b r) := by
  have hp := prs_ok a b ha hb
  refine ⟨⟨fun x hx => ?_, both_up hp.up⟩, fun x hx => ?_, fun r => ?_⟩
  · obtain ⟨t, ht, e, _⟩ := both_key hx
    rcases hp.key t ht with ⟨y, hy, e2⟩ | ⟨y, hy, e2⟩
    · rw [← e, ← e2]; exact ha.ok y hy
    · rw [← e, ← e2]; exact hb.ok y hy
  · obtain ⟨t, ht, _, _, h⟩ := both_key hx
    exact h
  · rw [both_look hp.up]
    cases hq : (prs a b).find? fun t => decide (t.1 = r) with
    | none =>
      have hn : ∀ z ∈ prs a b, z.1 ≠ r := fun z hz e => by
        have := List.find?_eq_none.1 hq z hz
        simp [e] at this
      have h1 : look a r = 0 := look_far fun x hx e => by
        obtain ⟨t, ht, e2⟩ := hp.all r (.inl ⟨x, hx, e⟩)
        exact hn t ht e2
      have h2 : look b r = 0 := look_far fun x hx e => by
        obtain ⟨t, ht, e2⟩ := hp.all r (.inr ⟨x, hx, e⟩)
        exact hn t ht e2
      rw [h1, h2, hf]
    | some t =>
      have e : t.1 = r := by simpa using List.find?_some hq
      have := hp.val t (List.mem_of_find?_eq_some hq)
      rw [← e, ← this.1, ← this.2]

/-! A row put into a bag. -/
/-- One round: (what is written, whether the row has been put). -/
def putS (r : Rw) (n : Int) (st : Bg × Bool) (y : Rw × Int) : Bg × Bool :=
  if cmpR r y.1 = 0 then (if y.2 + n ≠ 0 then st.1 ++ [(r, y.2 + n)] else st.1, true)
  else if cmpR r y.1 < 0 ∧ st.2 = false then ((if n ≠ 0 then st.1 ++ [(r, n)] else st.1) ++ [y], true)
  else (st.1 ++ [y], st.2)
def putE (r : Rw) (n : Int) (st : Bg × Bool) : Bg := if st.2 = false ∧ n ≠ 0 then st.1 ++ [(r, n)] else st.1
def putB (b : Bg) (r : Rw) (n : Int) : Bg := putE r n (b.foldl (putS r n) ([], false))
/-- The same, by recursion. -/
def insB (r : Rw) (n : Int) : Bg → Bg
  | [] => if n ≠ 0 then [(r, n)] else []
  | y :: b => if cmpR r y.1 = 0 then (if y.2 + n ≠ 0 then (r, y.2 + n) :: b else b) else if cmpR r y.1 < 0 then (if n ≠ 0 then (r, n) :: y :: b else y :: b) else y :: insB r n b
theorem put_done {r : Rw} {n : Int} {b o : Bg} (h : ∀ y ∈ b, cmpR r y.1 ≠ 0) : b.foldl (putS r n) (o, true) = (o ++ b, true) := by
  induction b generalizing o with
  | nil => simp
  | cons y b ih =>
    rw [List.foldl_cons]
    have : putS r n (o, true) y = (o ++ [y], true) := by
      unfold putS
      rw [if_neg (h y (by simp)), if_neg (by simp)]
    rw [this, ih fun z hz => h z (List.mem_cons_of_mem _ hz)]
    simp
theorem putB_ins {r : Rw} {n : Int} {b : Bg} (h : b.Pairwise (fun x y => cmpR x.1 y.1 < 0)) : putB b r n = insB r n b := by
  unfold putB
  suffices key : ∀ o : Bg, putE r n (b.foldl (putS r n) (o, false)) = o ++ insB r n b by simpa using key []
  induction b with
  | nil =>
    intro o
    unfold putE insB
    by_cases h0 : n = 0 <;> simp [h0]
  | cons y b ih =>
    intro o
    obtain ⟨h1, h2⟩ := List.pairwise_cons.1 h
    rw [List.foldl_cons, insB]
    by_cases c0 : cmpR r y.1 = 0
    · have hb : ∀ z ∈ b, cmpR r z.1 ≠ 0 := fun z hz => by
        have := Tot.row.lt2 r y.1 z.1 (by omega) (h1 z hz)
        omega
      unfold putS
      rw [if_pos c0, if_pos c0]
      have := fun o => put_done (r := r) (n := n) (o := o) hb
      rw [show (fun (st : Bg × Bool) (y : Rw × Int) => if cmpR r y.1 = 0 then (if y.2 + n ≠ 0 then st.1 ++ [(r, y.2 + n)] else st.1, true) else if cmpR r y.1 < 0 ∧ st.2 = false then ((if n ≠ 0 then st.1 ++ [(r, n)] else st.1) ++ [y], true) else (st.1 ++ [y], st.2)) = putS r n from rfl, this]
      unfold putE
      by_cases h0 : y.2 + n = 0 <;> simp [h0]
    · by_cases c1 : cmpR r y.1 < 0
      · have hb : ∀ z ∈ b, cmpR r z.1 ≠ 0 := fun z hz => by
          have := Tot.row.lt1 r y.1 z.1 c1 (Int.le_of_lt (h1 z hz))
          omega
        have hs : putS r n (o, false) y = ((if n ≠ 0 then o ++ [(r, n)] else o) ++ [y], true) := by
          unfold putS
          rw [if_neg c0, if_pos ⟨c1, rfl⟩]
        rw [hs, put_done hb, if_neg c0, if_pos c1]
        unfold putE
        by_cases h0 : n = 0 <;> simp [h0]
      · have hs : putS r n (o, false) y = (o ++ [y], false) := by
          unfold putS
          rw [if_neg c0, if_neg (fun e => c1 e.1)]
        rw [hs, ih h2, if_neg c0, if_neg c1]
        simp
theorem ins_key {r : Rw} {n : Int} : ∀ {b : Bg} {x : Rw × Int}, x ∈ insB r n b → x.1 = r ∨ ∃ y ∈ b, y.1 = x.1
  | [], x, h => by
    unfold insB at h
    split at h
    · rw [List.mem_singleton] at h; subst h; exact .inl rfl
    · cases h
  | y :: b, x, h => by
    unfold insB at h
    split at h
    · split at h
      · rcases List.mem_cons.1 h with rfl | h
        · exact .inl rfl
        · exact .inr ⟨x, List.mem_cons_of_mem _ h, rfl⟩
      · exact .inr ⟨x, List.mem_cons_of_mem _ h, rfl⟩
    · split at h
      · split at h
        · rcases List.mem_cons.1 h with rfl | h
          · exact .inl rfl
          · exact .inr ⟨x, h, rfl⟩
        · exact .inr ⟨x, h, rfl⟩
      · rcases List.mem_cons.1 h with rfl | h
        · exact .inr ⟨x, by simp, rfl⟩
        · rcases ins_key h with h | ⟨z, hz, e⟩
          · exact .inl h
          · exact .inr ⟨z, List.mem_cons_of_mem _ hz, e⟩
theorem ins_ok {r : Rw} (hr : okR r = true) (n : Int) : ∀ {b : Bg}, Asc b → (∀ x ∈ b, x.2 ≠ 0) → Asc (insB r n b) ∧ (∀ x ∈ insB r n b, x.2 ≠ 0) ∧ ∀ z, look (insB r n b) z = if r = z then look b r + n else look b z
  | [], _, _ => by
    unfold insB
    by_cases h0 : n = 0
    · subst h0
      refine ⟨Asc.nil, by simp, fun z => ?_⟩
      simp [look]
    · rw [if_pos h0]
      refine ⟨⟨by simpa using hr, by simp⟩, by simpa using h0, fun z => ?_⟩
      simp [look]
  | y :: b, hb, hz => by
    unfold insB
    have hz' : ∀ x ∈ b, x.2 ≠ 0 := fun x hx => hz x (List.mem_cons_of_mem _ hx)
    by_cases c0 : cmpR r y.1 = 0
    · have he : r = y.1 := okR_eq hr (hb.ok y (by simp)) c0
      rw [if_pos c0]
      by_cases h0 : y.2 + n = 0
      · rw [if_neg (by simpa using h0)]
        refine ⟨hb.tail, hz', fun z => ?_⟩
        by_cases e : r = z
        · rw [if_pos e, ← e, he, look_hd, look_none hb.head]; omega
        · rw [if_neg e, look_cons (fun e2 => e (by rw [he, e2]))]
      · rw [if_pos h0]
        refine ⟨⟨fun x hx => ?_, List.pairwise_cons.2 ⟨fun x hx => by rw [he]; exact hb.head x hx, hb.tail.up⟩⟩, fun x hx => ?_, fun z => ?_⟩
        · rcases List.mem_cons.1 hx with rfl | hx
          · exact hr
          · exact hb.tail.ok x hx
        · rcases List.mem_cons.1 hx with rfl | hx
          · exact h0
          · exact hz' x hx
        · rw [look]
          by_cases e : r = z
          · rw [if_pos e, if_pos e, he, look_hd]
          · rw [if_neg e, if_neg e, look_cons (fun e2 => e (by rw [he, e2]))]
    · rw [if_neg c0]
      have hne : ∀ z, z = r → z ≠ y.1 := fun z e e2 => c0 (by rw [← e, e2]; exact Tot.row.self _)
      by_cases c1 : cmpR r y.1 < 0
      · rw [if_pos c1]
        have hn := hb.above c1
        by_cases h0 : n = 0
        · rw [if_neg (by simpa using h0)]
          refine ⟨hb, hz, fun z => ?_⟩
          by_cases e : r = z
          · rw [if_pos e, ← e, h0]; omega
          · rw [if_neg e]
        · rw [if_pos h0]
          refine ⟨⟨fun x hx => ?_, List.pairwise_cons.2 ⟨hn, hb.up⟩⟩, fun x hx => ?_, fun z => ?_⟩
          · rcases List.mem_cons.1 hx with rfl | hx
            · exact hr
            · exact hb.ok x hx
          · rcases List.mem_cons.1 hx with rfl | hx
            · exact h0
            · exact hz x hx
          · rw [look]
            by_cases e : r = z
            · rw [if_pos e, if_pos e, look_none hn]; simp
            · rw [if_neg e, if_neg e]
      · rw [if_neg c1]
        have hlt : cmpR y.1 r < 0 := by have := Tot.row.anti r y.1; omega
        obtain ⟨i1, i2, i3⟩ := ins_ok hr n hb.tail hz'
        refine ⟨⟨fun x hx => ?_, List.pairwise_cons.2 ⟨fun x hx => ?_, i1.up⟩⟩, fun x hx => ?_, fun z => ?_⟩
        · rcases List.mem_cons.1 hx with rfl | hx
          · exact hb.ok x (by simp)
          · exact i1.ok x hx
        · rcases ins_key hx with e | ⟨w, hw, e⟩
          · rw [e]; exact hlt
          · rw [← e]; exact hb.head w hw
        · rcases List.mem_cons.1 hx with rfl | hx
          · exact hz x (by simp)
          · exact i2 x hx
        · rw [look]
          by_cases e : y.1 = z
          · rw [if_pos e, if_neg (fun e2 => hne z e2.symm e.symm), ← e, look_hd]
          · rw [if_neg e, i3, look_cons (fun e2 => e e2.symm)]
            by_cases e2 : r = z
            · rw [if_pos e2, if_pos e2, look_cons (hne r rfl)]
            · rw [if_neg e2, if_neg e2]
/-- a and n times b. -/
def plusB (a b : Bg) (n : Int) : Bg := b.foldl (fun o y => putB o y.1 (n * y.2)) a
theorem plus_ok {n : Int} : ∀ {b a : Bg}, Asc a → (∀ x ∈ a, x.2 ≠ 0) → Asc b → Asc (plusB a b n) ∧ (∀ x ∈ plusB a b n, x.2 ≠ 0) ∧ ∀ r, look (plusB a b n) r = look a r + n * look b r
  | [], a, ha, hz, _ => ⟨ha, hz, fun r => by simp [plusB, look]⟩
  | y :: b, a, ha, hz, hb => by
    obtain ⟨i1, i2, i3⟩ := ins_ok (hb.ok y (by simp)) (n * y.2) ha hz
    have hp : putB a y.1 (n * y.2) = insB y.1 (n * y.2) a := putB_ins ha.up
    obtain ⟨j1, j2, j3⟩ := plus_ok (n := n) i1 i2 hb.tail
    have he : plusB a (y :: b) n = plusB (insB y.1 (n * y.2) a) b n := by
      unfold plusB
      rw [List.foldl_cons, hp]
    rw [he]
    refine ⟨j1, j2, fun r => ?_⟩
    rw [j3, i3]
    by_cases e : y.1 = r
    · rw [if_pos e, ← e, look_hd, look_none hb.head]; simp
    · rw [if_neg e, look_cons (fun e2 => e e2.symm)]
/-- Two bags put together, row by row, are what the reference adds up. -/
theorem plus_both {a b : Bg} (ha : okBag a = true) (hb : okBag b = true) (n : Int) : both (fun m k => m + n * k) (prs a b) = plusB a b n := by
  obtain ⟨a1, a2, _⟩ := okBag_asc ha
  obtain ⟨b1, b2, _⟩ := okBag_asc hb
  obtain ⟨i1, i2, i3⟩ := both_prs (f := fun m k => m + n * k) (by simp) a1 b1
  obtain ⟨j1, j2, j3⟩ := plus_ok (n := n) a1 (fun x hx => (numB_ne (a2 x hx)).1) b1
  exact i1.ext j1 i2 j2 fun r => by rw [i3, j3]
end Go.Proofs.YtiioiajcoiaalaaGreatDoor
