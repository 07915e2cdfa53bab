/-
  The walk of the reference's Words. No condition.
-/
import Derived.Test.YtehifbogadohgaaDoorTcE
import Derived.Test.YtehifbogadohgaaDoorApp
import Derived.Test.YtehifbogadohgaaDoorOrdT
import Derived.LoopTactic
namespace Go.Proofs.YtehifbogadohgaaDoor
open Go.RowKit
set_option linter.unusedVariables false
set_option linter.unusedSimpArgs false

def strV (x : List UInt8) : Value := .string ⟨x.toArray⟩
theorem bytes_of (s : ByteArray) : (⟨s.data.toList.toArray⟩ : ByteArray) = s := by cases s; simp
theorem ext_one (s : ByteArray) (i : Nat) (h : i < s.size) : (s.extract i (i + 1)).data.toList = [s[i]] := by
  rw [ByteArray.data_extract, Array.toList_extract]
  have := Lib.data_getElem? s i h
  rw [List.extract_eq_take_drop]
  have e : i + 1 - i = 1 := by omega
  rw [e]
  cases hd : s.data.toList.drop i with
  | nil =>
    have := List.drop_eq_nil_iff.1 hd
    simp at this
    have : s.size ≤ i := this
    omega
  | cons c r =>
    have h2 : (s.data.toList.drop i)[0]? = s.data.toList[i]? := by rw [List.getElem?_drop]; simp
    rw [hd, this] at h2
    simp at h2
    simp [h2]
theorem word_more (w : List UInt8) (s : ByteArray) (i : Nat) (h : i < s.size) : (⟨w.toArray⟩ : ByteArray) ++ s.extract i (i + 1) = ⟨(w ++ [s[i]]).toArray⟩ := by
  refine ByteArray.ext ?_
  rw [ByteArray.data_append]
  apply Array.toList_inj.1
  rw [Array.toList_append, ext_one s i h]
theorem info_partsW {t : TypeId} {z : Value} {s b : Nat} (h : (Tryd.prog.info? t).map (fun i => (i.zero, i.size, i.bytes)) = some (some z, s, b)) : ∃ i, Tryd.prog.info? t = some i ∧ i.zero = some z ∧ i.size = s ∧ i.bytes = b := by
  obtain ⟨i, hi, hz⟩ := Option.map_eq_some_iff.1 h
  simp only [Prod.mk.injEq] at hz
  exact ⟨i, hi, hz.1, hz.2.1, hz.2.2⟩
theorem infoStrW : (Tryd.prog.info? 9).map (fun i => (i.zero, i.size, i.bytes)) = some (some (.string ByteArray.empty), 1, 16) := by kernel_rfl
/-- A list of words grows by one that is empty. -/
theorem wd_app {X : World} {N : Nat} {A : Option Addr} {n c : Nat} {ws : List (List UInt8)} (hown : X.ownsRow N 9 1 (.slice A n c) n (ws.map strV)) (hN : N ≤ X.heap.size) (hl : n ≤ 1000000) :
    ∃ A' c' X', (Builtin.append_ #[37, 37] 37 #[.slice A n c, .slice (some ⟨X.heap.size, 0, none⟩) 1 1]).run Tryd.prog (X.alloc (.cells #[.string ⟨#[]⟩] 9)) = .ok (.slice A' (n + 1) c') X' ∧
      X'.ownsRow N 9 1 (.slice A' (n + 1) c') (n + 1) ((ws ++ [[]]).map strV) ∧ Below N X X' := by
  obtain ⟨i0, hi, hz0, hz1, hz2⟩ := info_partsW infoStrW
  obtain ⟨o, ho⟩ : ∃ o : Obj, (.cells #[.string ⟨#[]⟩] 9 : Obj) = o := ⟨_, rfl⟩
  have hs : (X.alloc o).heap.size = X.heap.size + 1 := World.size_alloc _ _
  have kq := Blk.new X 9 #[.string ⟨#[]⟩]
  have hba : Below X.heap.size X (X.alloc (.cells #[.string ⟨#[]⟩] 9)) := (Below.refl _ _).alloc (Nat.le_refl _) _
  rw [ho] at kq hba ⊢
  have hown1 := own_below hown hba
  have hrd : Reads (X.alloc o) (X.alloc o).heap.size 1 (some ⟨X.heap.size, 0, none⟩) 1 [.string ⟨#[]⟩] := ⟨rfl, fun _ => ⟨X.heap.size, 0, rfl, by omega, fun j u hu => by rw [Nat.zero_add, kq.cell j]; simpa using hu⟩⟩
  obtain ⟨v', X', hrun, h2, h3, h4⟩ := run_append_any (P := Tryd.prog) (X.alloc o) N 37 37 9 i0 _ 1 16 Tryd.underlying37 hi hz0 hz1 hz2 rfl (by decide) (.slice A n c) n (ws.map strV) hown1 (X.alloc o).heap.size (some ⟨X.heap.size, 0, none⟩) 1 1 [.string ⟨#[]⟩] hrd (by
    intro u hu
    obtain rfl : u = .string ⟨#[]⟩ := by simpa using hu
    rfl) (by unfold maxLen; omega) (by omega) (by omega)
  obtain ⟨A', c', rfl, _⟩ := own_form h2
  exact ⟨A', c', X', hrun, by rw [List.map_append]; exact h2, below_append (hba.mono hN) hown1 (by omega) h3⟩
theorem wp_append_isW {P : Program} {w w' : World} {o : Oper} {a : Act} {K : Act → World → Prop} {Q : Exit → Act → World → Prop} (s x : Operand) (t : TypeId)
    (ho : o.op = .call { callee := .builtin .append, args := #[s, x], argTypes := #[t, t] }) {v u v' : Value} (hs : a.eval s = v) (hx : a.eval x = u) {ty : TypeId} (hty : o.type = ty)
    (hrun : (Builtin.append_ #[t, t] ty #[v, u]).run P w = .ok v' w') (h : K (a.put o.dst v') w') : o.wp P a w K Q := by
  subst hty
  unfold Oper.wp execOp
  simp only [ho, resolve, invoke, builtin, Sem.run_bind, Sem.run_pure, Result.andThen_ok, List.map_toArray, List.map_cons, List.map_nil, hs, hx, hrun]
  exact h
theorem wpList_append_isW {P : Program} {w w' : World} {ops : Array Oper} {rest : List Oper} {o : Oper} {a : Act} {Q : Exit → Act → World → Prop} (hgd : o.guard = none) (s x : Operand) (t : TypeId)
    (ho : o.op = .call { callee := .builtin .append, args := #[s, x], argTypes := #[t, t] }) {v u v' : Value} (hs : a.eval s = v) (hx : a.eval x = u) {ty : TypeId} (hty : o.type = ty)
    (hrun : (Builtin.append_ #[t, t] ty #[v, u]).run P w = .ok v' w') (h : wpList P ops Q rest (a.put o.dst v') w') : wpList P ops Q (o :: rest) a w :=
  wpList_plain hgd fun _ hK => wp_append_isW s x t ho hs hx hty hrun (hK _ _ h)
/-- The last word of an own list is stored anew. -/
theorem wd_last {w : World} {base g c n : Nat} {ws : List (List UInt8)} {v x : List UInt8} (h : w.ownsRow base 9 1 (.slice (some ⟨g, 0, none⟩) n c) n ((ws ++ [v]).map strV)) (hn : n = ws.length + 1) :
    w.cell? ⟨g, ws.length, none⟩ = some (strV v) ∧ w.frozen? ⟨g, ws.length, none⟩ = false ∧ base ≤ g ∧ g < w.heap.size ∧ (w.setCell ⟨g, ws.length, none⟩ (strV x)).ownsRow base 9 1 (.slice (some ⟨g, 0, none⟩) n c) n ((ws ++ [x]).map strV) := by
  rcases h.2 with ⟨he, _⟩ | ⟨g', cap, cur, he, hb, hg, h1, h2, h3, h4⟩
  · cases he
  · injection he with he1 he2 he3
    injection he1 with he1
    injection he1 with he1
    subst he1 he3
    have hlt := (Array.getElem?_eq_some_iff.1 hg).1
    have hk : Blk w g 9 cur := hg
    have hc : cur[ws.length]? = some (strV v) := by
      have e : (cur.toList.take (n * 1))[ws.length]? = some (strV v) := by rw [h4]; simp
      rw [List.getElem?_take] at e
      split at e
      · simpa using e
      · cases e
    refine ⟨by rw [hk.cell]; exact hc, hk.frozen _, hb, hlt, by simp [hn], .inr ⟨g, c, cur.setIfInBounds ws.length (strV x), rfl, hb, hk.set_ _ _, h1, h2, by rw [Array.size_setIfInBounds]; exact h3, ?_⟩⟩
    rw [Array.toList_setIfInBounds, List.take_set]
    have e2 : (cur.toList.take (n * 1)).set ws.length (strV x) = (ws ++ [x]).map strV := by
      rw [h4]
      simp
    exact e2
end Go.Proofs.YtehifbogadohgaaDoor
