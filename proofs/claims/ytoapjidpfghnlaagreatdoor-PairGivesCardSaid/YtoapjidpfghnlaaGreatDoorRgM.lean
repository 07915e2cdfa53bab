/-
  'for k, v := range m' over a map of the call's own that is told as a function, where a round stores at the key that it got, or takes it out. Plain theorems over any program; no condition.
-/
import Derived.Test.YtoapjidpfghnlaaGreatDoorRngH
import Derived.Maps.RangeWalk
namespace Go.Proofs.YtoapjidpfghnlaaGreatDoor
open Go.RowKit Go.Maps
open Go.ChangeMaps Go.MapKept Go.WideShapes
open Go.WideElems (Fit rd rg pl rd_key rd_val rg_of other_key)
set_option linter.unusedVariables false
set_option linter.unusedSimpArgs false

section
variable {H : Type} {P : Program} {k : TypeId} {R : Value → Option (DataW H × List MemPlace)} {w : World} {b r n : Nat} {D : DataW H} {left : Lit → Bool} {cnt : Nat}
/-- A store at a key that is there, in the round. -/
theorem ranges_store {t e : TypeId} (h : w.ranges P k R b r n D left cnt) (K : Keyed P k) (ht : P.underlying t = some (.map k e)) (hn : n < maxLen) {key val : Value} {kl : Lit} {d : DataW H} {ps : List MemPlace}
    (hkey : keyOf P k key = some kl) (hv : R val = some (d, ps)) (hin : Maps.has D kl = true) :
    ∃ w', (Instr.mapUpdate t (.map (some b)) key val).run P w = .ok () w' ∧ w'.ranges P k R b r n (D.put kl d) left cnt ∧ w.grownBy w' (some b) ∧ w'.heap.size = w.heap.size := by
  have hne := h.ne
  obtain ⟨es, clock, since, seen, c0, hb, F, hs, rfl, hr, hold, rfl, hl1, hl2, hsc, hsk⟩ := h
  obtain ⟨x0, hx0, hk0⟩ : ∃ x ∈ es.toList, x.key = key := by
    obtain ⟨p, hp, hpk⟩ := List.any_eq_true.1 hin
    obtain ⟨x, hx, rfl⟩ := List.mem_map.1 (mem_sorted.1 hp)
    obtain ⟨y, hy⟩ := F.reads x hx
    refine ⟨x, hx, K.inj (rd_key hy) ?_⟩
    rw [hkey, ← WideAt.sameKey_eq hpk, rg_of hy]
  rcases K.find w hkey es.toList F.keys with ⟨h1, h2⟩ | ⟨j, e0, h1, h2, h3⟩
  · exact absurd hk0 (h2 x0 hx0)
  obtain ⟨es2, clock2, hrun2, F2, hput, _⟩ := Maps.fit_store (R' := R) K ht hb F (Nat.lt_of_le_of_lt hs hn) (fun _ _ _ _ hz => hz) hkey hv
  have hj : es[j]? = some e0 := by simpa using h2
  have hrun : (Instr.mapUpdate t (.map (some b)) key val).run P w = .ok () (setBlock w b (.map (es.modify j (fun e' => { e' with key := key, val := val })) clock)) := by
    simp [Instr.mapUpdate, run_underlying ht, MapKept.run_getObj_map hb, K.check w false hkey, h1, hj, h3, K.stays w hkey, MapKept.run_setObj_map _ hb, Result.andThen, setBlock]
  have heq : es2 = es.modify j (fun e' => { e' with key := key, val := val }) ∧ clock2 = clock := by
    rw [hrun] at hrun2
    injection hrun2 with _ hw
    have e1 := heap_setBlock_same hb (.map (es.modify j (fun e' => { e' with key := key, val := val })) clock)
    rw [hw, heap_setBlock_same hb] at e1
    injection e1 with e1
    injection e1 with e1 e2
    exact ⟨e1, e2⟩
  obtain ⟨rfl, rfl⟩ := heq
  have hlist : (es.modify j (fun e' => { e' with key := key, val := val })).toList = es.toList.set j { e0 with key := key, val := val } := by rw [Array.toList_modify, modify_eq_set _ _ _ _ h2]
  have hjl : j < es.toList.length := (List.getElem?_eq_some_iff.1 h2).1
  have he0 : e0 ∈ es.toList := List.mem_of_getElem? h2
  have hg0 : (rg P k R e0).1 = kl := by
    obtain ⟨y, hy⟩ := F.reads e0 he0
    have := rd_key hy
    rw [h3, hkey] at this
    rw [rg_of hy]
    exact (Option.some.inj this).symm
  have hg1 : (rg P k R { e0 with key := key, val := val }).1 = kl := by
    obtain ⟨y, hy⟩ := F2.reads { e0 with key := key, val := val } (by rw [hlist]; exact List.mem_set hjl _)
    have := rd_key hy
    rw [show ({ e0 with key := key, val := val } : MapEntry).key = key from rfl, hkey] at this
    rw [rg_of hy]
    exact (Option.some.inj this).symm
  have who : ∀ x ∈ es.toList.set j { e0 with key := key, val := val }, ∃ y ∈ es.toList, y.born = x.born ∧ (rg P k R y).1 = (rg P k R x).1 := by
    intro x hx
    obtain ⟨i, hi, ex⟩ := List.getElem_of_mem hx
    rw [List.getElem_set] at ex
    split at ex
    · rw [← ex]
      exact ⟨e0, he0, rfl, by rw [hg0, hg1]⟩
    · rw [← ex]
      exact ⟨_, List.getElem_mem (by simpa using hi), rfl, rfl⟩
  have hborn : (es.toList.set j { e0 with key := key, val := val }).map (·.born) = es.toList.map (·.born) := by
    refine List.ext_getElem (by simp) fun i h1 h2' => ?_
    rw [List.getElem_map, List.getElem_map, List.getElem_set]
    split
    · rename_i e
      subst e
      have : es.toList[j]'hjl = e0 := by
        have := List.getElem?_eq_getElem hjl
        rw [h2] at this
        exact (Option.some.inj this).symm
      rw [this]
    · rfl
  refine ⟨_, hrun, ⟨_, clock2, since, seen, c0, heap_setBlock_same hb _, F2, by simpa using hs, by rw [DataW.put_eq, hput], (heap_setBlock_other hb _ hne).trans hr, fun x hx => ?_, ?_, fun x hx => ?_, fun y hy => ?_, hsc, hsk⟩, ⟨rfl, rfl, rfl, by simp [setBlock], fun i _ hi => heap_setBlock_other hb _ (fun e => hi (by rw [e]))⟩, by simp [setBlock]⟩
  · rw [hlist] at hx
    obtain ⟨y, hy, e1, _⟩ := who x hx
    rw [← e1]
    exact hold y hy
  · have e1 : ∀ a : Array MapEntry, (leftOf a seen).size = ((a.toList.map (·.born)).filter fun q => !seen.contains q).length := fun a => by
      unfold leftOf
      rw [← Array.length_toList, Array.toList_filter, List.filter_map, List.length_map]
      rfl
    rw [e1, e1, hlist, hborn]
  · rw [hlist] at hx
    obtain ⟨y, hy, e1, e2⟩ := who x hx
    rw [← e2, ← e1]
    exact hl1 y hy
  · obtain ⟨x, hx, e1⟩ := hl2 y hy
    rw [hlist]
    obtain ⟨i, hi, ex⟩ := List.getElem_of_mem hx
    by_cases e : i = j
    · subst e
      refine ⟨_, List.mem_set hjl _, ?_⟩
      rw [hg1, ← e1, ← hg0]
      have := List.getElem?_eq_getElem hi
      rw [h2, ex] at this
      rw [Option.some.inj this]
    · exact ⟨x, by
        rw [← ex]
        have h5 : (es.toList.set j { e0 with key := key, val := val })[i]'(by simpa using hi) = es.toList[i] := List.getElem_set_ne (fun h => e h.symm) _
        rw [← h5]
        exact List.getElem_mem _, e1⟩
end

/-- A range over a map that holds F: 'left' tells which keys are still to come. -/
def RngF (w : World) (P : Program) (k : TypeId) (b r n : Nat) (F : Lit → Option Value) (left : Lit → Bool) (cnt : Nat) : Prop :=
  ∃ D : DataW Value, w.ranges P k Rv b r n D left cnt ∧ IsMap D ∧ (∀ kl, Maps.has D kl = (F kl).isSome) ∧ ∀ kl z, D.atKey kl z = match F kl with | some v => .held v | none => z
section
variable {P : Program} {w w' : World} {k : TypeId} {b r n cnt : Nat} {F : Lit → Option Value} {left : Lit → Bool}
theorem RngF.map (h : RngF w P k b r n F left cnt) : MapF w P k b n F := by
  obtain ⟨D, h1, h2⟩ := h
  exact ⟨D, h1.owns, h2⟩
theorem RngF.kept {row : Option Nat} (h : RngF w P k b r n F left cnt) (hg : w.grownBy w' row) (hb : some b ≠ row) (hr : some r ≠ row) : RngF w' P k b r n F left cnt := by
  obtain ⟨D, h1, h2⟩ := h
  exact ⟨D, h1.kept hg hb hr, h2⟩
theorem RngF.lt (h : RngF w P k b r n F left cnt) : r < w.heap.size := by
  obtain ⟨D, h1, h2⟩ := h
  exact h1.lt
theorem RngF.left_eq (h : RngF w P k b r n F left cnt) : w.rangeLeft b r = cnt := by
  obtain ⟨D, h1, h2⟩ := h
  exact h1.left_eq
/-- 'range m'. -/
theorem MapF.range {t e : TypeId} (h : MapF w P k b n F) (K : Keyed P k) (ht : P.underlying t = some (.map k e)) :
    ∃ w' cnt, (Instr.range t (.map (some b))).run P w = .ok (.pointer (some ⟨w.heap.size, 0, none⟩)) w' ∧ RngF w' P k b w.heap.size n F (fun kl => (F kl).isSome) cnt ∧ w.grownBy w' none ∧ w'.heap.size = w.heap.size + 1 := by
  obtain ⟨D, h1, h2, h3, h4⟩ := h
  obtain ⟨w', hrun, hrg, hg, hs⟩ := h1.range K ht
  have e : Maps.has D = fun kl => (F kl).isSome := funext h3
  rw [e] at hrg
  exact ⟨w', _, hrun, ⟨D, hrg, h2, h3, h4⟩, hg, hs⟩
/-- The step. -/
theorem RngF.next (h : RngF w P k b r n F left cnt) (K : Keyed P k) (ty : TypeId) :
    (cnt = 0 ∧ (∀ kl, left kl = false) ∧ (Instr.next (.pointer (some ⟨r, 0, none⟩)) false ty).run P w = .ok (.tuple #[.bool false]) w) ∨
    ∃ key v kl w' cnt', keyOf P k key = some kl ∧ left kl = true ∧ F kl = some v ∧ (Instr.next (.pointer (some ⟨r, 0, none⟩)) false ty).run P w = .ok (.tuple #[.bool true, key, v]) w' ∧
      RngF w' P k b r n F (fun x => left x && !x.sameKey kl) cnt' ∧ cnt' < cnt ∧ w.grownBy w' (some r) ∧ w'.heap.size = w.heap.size ∧ (Instr.entry (.pointer (some ⟨r, 0, none⟩))).run P w' = .ok (.tuple #[key, v]) w' := by
  obtain ⟨D, h1, h2, h3, h4⟩ := h
  rcases h1.next K ty with h5 | ⟨key, v, kl, y, w', cnt', a1, a2, a3, a4, a5, a6, a7, a8, a9, a10⟩
  · exact .inl h5
  · refine .inr ⟨key, v, kl, w', cnt', a1, a2, ?_, a5, ⟨D, a6, h2, h3, h4⟩, a7, a8, a9, a10⟩
    have e := a4 (.map [])
    rw [h4] at e
    have hy : y.1 = .held v := by
      unfold Rv at a3
      injection a3 with a3
      rw [← a3]
    cases hF : F kl with
    | none => rw [hF, hy] at e; cases e
    | some u =>
      rw [hF, hy] at e
      injection e with e
      rw [e]
/-- A store at a key that is there. -/
theorem RngF.store {t e : TypeId} (h : RngF w P k b r n F left cnt) (K : Keyed P k) (ht : P.underlying t = some (.map k e)) (hn : n < maxLen) {key : Value} {kl : Lit} (hkey : keyOf P k key = some kl) (hin : (F kl).isSome = true) (val : Value) :
    ∃ w', (Instr.mapUpdate t (.map (some b)) key val).run P w = .ok () w' ∧ RngF w' P k b r n (putF F kl val) left cnt ∧ w.grownBy w' (some b) ∧ w'.heap.size = w.heap.size := by
  obtain ⟨D, h1, h2, h3, h4⟩ := h
  obtain ⟨w', hrun, hrg, hg, hs⟩ := ranges_store h1 K ht hn hkey (show Rv val = some (.held val, []) from rfl) (by rw [h3]; exact hin)
  refine ⟨w', hrun, ⟨_, hrg, h2.put _ _, ?_, ?_⟩, hg, hs⟩
  · intro y
    unfold putF
    by_cases e : y = kl
    · subst e
      rw [if_pos rfl, has_put_same h2 (K.key hkey)]
      rfl
    · rw [if_neg e, has_put_other e, h3]
  · intro y z
    unfold putF
    by_cases e : y = kl
    · subst e
      rw [if_pos rfl, atKey_put_same h2 (K.key hkey)]
    · rw [if_neg e, atKey_put_other e, h4]
open Classical in
/-- One entry less. -/
noncomputable def delF (F : Lit → Option Value) (kl : Lit) : Lit → Option Value := fun x => if x = kl then none else F x
/-- 'delete(m, k)' of the key that came last. -/
theorem RngF.drop {t e : TypeId} (h : RngF w P k b r n F left cnt) (K : Keyed P k) (ht : P.underlying t = some (.map k e)) {key : Value} {kl : Lit} (hkey : keyOf P k key = some kl) (ty : TypeId) :
    ∃ w' cnt', (Builtin.delete_ #[t, k] ty #[.map (some b), key]).run P w = .ok (.tuple #[]) w' ∧ RngF w' P k b r n (delF F kl) (fun x => left x && !x.sameKey kl) cnt' ∧ cnt' ≤ cnt ∧ w.grownBy w' (some b) := by
  obtain ⟨D, h1, h2, h3, h4⟩ := h
  obtain ⟨w', cnt', hrun, hrg, hc, hg⟩ := h1.drop K ht hkey ty
  refine ⟨w', cnt', hrun, ⟨_, hrg, h2.del _, ?_, ?_⟩, hc, hg.grown⟩
  · intro y
    unfold delF
    by_cases e : y = kl
    · subst e
      rw [if_pos rfl, has_del_same]
      rfl
    · rw [if_neg e, has_del_other e, h3]
  · intro y z
    unfold delF
    by_cases e : y = kl
    · subst e
      rw [if_pos rfl, atKey_del_same]
    · rw [if_neg e, atKey_del_other e, h4]
end
end Go.Proofs.YtoapjidpfghnlaaGreatDoor
