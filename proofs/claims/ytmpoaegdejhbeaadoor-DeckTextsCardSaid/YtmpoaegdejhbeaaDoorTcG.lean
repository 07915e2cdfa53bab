/-
  The walks of the reference's Number and number. No condition.
  append of a slice that came in (nil, empty or not) to a row of the call's own. The lines are those of the kit's extra-words, section 3, turned to this family's 'Reads'.
  A region that draws its order and whose last operation writes a cell that the region loads: one condition S on the world, asked of every operation but that last one, s. Own theorems over the kit's 'wpOp'; no condition.
  The walk of the reference's Words. No condition.
  The walk of the reference's Words. No condition.
-/
import Derived.Test.YtmpoaegdejhbeaaDoorTcD
import Derived.Test.YtmpoaegdejhbeaaDoorMem
import Derived.Test.YtmpoaegdejhbeaaDoorProg
import Derived.WalkKit
import Derived.Deep.Cut
import Derived.Deep.CutRange
import Derived.Handy
import Derived.BigQuiet
import Derived.Maps.AppendAt
import Derived.Deep.AppendLies
import Derived.RegionTactic
import Derived.OwnWalk
import Derived.OrdersHeld
import Derived.Deep.RegionHeld
import Derived.LoopTactic
namespace Go.Proofs.YtmpoaegdejhbeaaDoor

section
open Go.RowKit
set_option linter.unusedVariables false
set_option linter.unusedSimpArgs false

def RetNu (w : World) (n : Int) (e : Ending) (w' : World) : Prop := ∃ b : Bool, e = .returned (.tuple #[.int .i64 n, .bool b]) ∧ w = w'
theorem head_at (s : ByteArray) (h : 0 < s.size) : s.data.toList.head? = some s[0] := by
  rw [List.head?_eq_getElem?, Lib.data_getElem? s 0 h]
theorem isDg_lo {c : UInt8} (h : (c.toNat : Int) < 48) : isDg c = false := by unfold isDg; rw [Bool.and_eq_false_iff]; exact .inl (by rw [decide_eq_false_iff_not]; omega)
theorem isDg_hi {c : UInt8} (h : 57 < (c.toNat : Int)) : isDg c = false := by unfold isDg; rw [Bool.and_eq_false_iff]; exact .inr (by rw [decide_eq_false_iff_not]; omega)
end

section
open Go.RowKit

section
variable {P : Program} (w : World)

theorem run_append_of_nil (base : Nat) (t ty e : TypeId) (i : TypeInfo) (size : Nat) (ht : P.underlying t = some (.slice e)) (hi : P.info? e = some i)
    (v : Value) (n : Nat) (xs : List Value) (hown : w.ownsRow base e size v n xs) (c : Nat) : (Builtin.append_ #[t, t] ty #[v, .slice none 0 c]).run P w = .ok v w := by
  rcases hown.2 with ⟨rfl, rfl⟩ | ⟨g, cap, cur, rfl, _, _, hnc, _⟩
  · simp [Builtin.append_, run_underlying ht, sizeOf, typeInfo, hi, Builtin.lenOf, Builtin.firstCells]
  · simp [Builtin.append_, run_underlying ht, sizeOf, typeInfo, hi, Builtin.lenOf, Builtin.firstCells, hnc, storeCells]

theorem run_append_any (base : Nat) (t ty e : TypeId) (i : TypeInfo) (z : Value) (size bytes : Nat) (ht : P.underlying t = some (.slice e)) (hi : P.info? e = some i) (hz : i.zero = some z)
    (hsize : i.size = size) (hby : i.bytes = bytes) (hzs : z.cells.size = size) (hsz : 0 < size)
    (v : Value) (n : Nat) (xs : List Value) (hown : w.ownsRow base e size v n xs)
    (B : Nat) (A : Option Addr) (m c : Nat) (news : List Value) (hr : Reads w B size A m news) (h1 : ∀ u ∈ news, u.oneCell' = true)
    (h63 : n + m ≤ maxLen) (hbytes : (n + m) * bytes ≤ 140737488355328) (hbase : base ≤ w.heap.size) :
    ∃ v' w', (Builtin.append_ #[t, t] ty #[v, .slice A m c]).run P w = .ok v' w' ∧ w'.ownsRow base e size v' (n + m) (xs ++ news) ∧ w.grownBy w' v.ownBlock ∧
      (v'.ownBlock = v.ownBlock ∨ v'.ownBlock = some w.heap.size) := by
  rcases A with _ | ad
  · have hm : m = 0 := by
      rcases Nat.eq_zero_or_pos m with h0 | h0
      · exact h0
      · obtain ⟨_, _, h, _⟩ := hr.2 h0
        cases h
    subst hm
    have hn : news = [] := List.eq_nil_of_length_eq_zero (by simpa using hr.1)
    subst hn
    exact ⟨v, w, run_append_of_nil w base t ty e i size ht hi v n xs hown c, by simpa using hown, World.grownBy.refl w _, .inl rfl⟩
  · have hcells : ∀ j u, news[j]? = some u → w.cell? (ad.add j) = some u := by
      intro j u hu
      rcases Nat.eq_zero_or_pos m with h0 | h0
      · subst h0
        have hn : news = [] := List.eq_nil_of_length_eq_zero (by simpa using hr.1)
        subst hn
        simp at hu
      · obtain ⟨b, off, h, _, hc⟩ := hr.2 h0
        injection h with h
        subst h
        rw [add_plain]
        exact hc j u hu
    obtain ⟨v', w', hrun, h2, h3, _, h5⟩ := run_append_own_at (P := P) w base t ty e i z size bytes ht hi hz hsize hby hzs hsz v n xs hown ad m c news hr.1 hcells h1 h63 hbytes hbase
    exact ⟨v', w', hrun, h2, h3, h5⟩

theorem wp_append_any {o : Oper} {a : Act} {K : Act → World → Prop} {Q : Exit → Act → World → Prop} (s x : Operand) (t : TypeId)
    (ho : o.op = .call { callee := .builtin .append, args := #[s, x], argTypes := #[t, t] })
    (base : Nat) (e : TypeId) (i : TypeInfo) (z : Value) (size bytes : Nat) (ht : P.underlying t = some (.slice e)) (hi : P.info? e = some i) (hz : i.zero = some z)
    (hsize : i.size = size) (hby : i.bytes = bytes) (hzs : z.cells.size = size) (hsz : 0 < size)
    (v : Value) (n : Nat) (xs : List Value) (hs : a.eval s = v) (hown : w.ownsRow base e size v n xs)
    (B : Nat) (A : Option Addr) (m c : Nat) (news : List Value) (hx : a.eval x = .slice A m c) (hr : Reads w B size A m news) (h1 : ∀ u ∈ news, u.oneCell' = true)
    (h63 : n + m ≤ maxLen) (hbytes : (n + m) * bytes ≤ 140737488355328) (hbase : base ≤ w.heap.size)
    (h : ∀ v' w', w'.ownsRow base e size v' (n + m) (xs ++ news) → w.grownBy w' v.ownBlock → (v'.ownBlock = v.ownBlock ∨ v'.ownBlock = some w.heap.size) → K (a.put o.dst v') w') : o.wp P a w K Q := by
  obtain ⟨v', w', hrun, h2, h3, h4⟩ := run_append_any (P := P) w base t o.type e i z size bytes ht hi hz hsize hby hzs hsz v n xs hown B A m c news hr h1 h63 hbytes hbase
  unfold Oper.wp execOp
  simp only [ho, resolve, invoke, builtin, Sem.run_bind, Sem.run_pure, Result.andThen_ok, List.map_toArray, List.map_cons, List.map_nil, hs, hx, hrun]
  exact h v' w' h2 h3 h4

theorem wpList_append_any {ops : Array Oper} {rest : List Oper} {o : Oper} {a : Act} {Q : Exit → Act → World → Prop} (hgd : o.guard = none) (s x : Operand) (t : TypeId)
    (ho : o.op = .call { callee := .builtin .append, args := #[s, x], argTypes := #[t, t] })
    (base : Nat) (e : TypeId) (i : TypeInfo) (z : Value) (size bytes : Nat) (ht : P.underlying t = some (.slice e)) (hi : P.info? e = some i) (hz : i.zero = some z)
    (hsize : i.size = size) (hby : i.bytes = bytes) (hzs : z.cells.size = size) (hsz : 0 < size)
    (v : Value) (n : Nat) (xs : List Value) (hs : a.eval s = v) (hown : w.ownsRow base e size v n xs)
    (B : Nat) (A : Option Addr) (m c : Nat) (news : List Value) (hx : a.eval x = .slice A m c) (hr : Reads w B size A m news) (h1 : ∀ u ∈ news, u.oneCell' = true)
    (h63 : n + m ≤ maxLen) (hbytes : (n + m) * bytes ≤ 140737488355328) (hbase : base ≤ w.heap.size)
    (h : ∀ v' w', w'.ownsRow base e size v' (n + m) (xs ++ news) → w.grownBy w' v.ownBlock → (v'.ownBlock = v.ownBlock ∨ v'.ownBlock = some w.heap.size) → wpList P ops Q rest (a.put o.dst v') w') : wpList P ops Q (o :: rest) a w :=
  wpList_plain hgd fun _ hK => wp_append_any w s x t ho base e i z size bytes ht hi hz hsize hby hzs hsz v n xs hs hown B A m c news hx hr h1 h63 hbytes hbase fun v' w' h2 h3 h4 => hK _ _ (h v' w' h2 h3 h4)

theorem step_append_any {ops : Array Oper} {o : Oper} {a : Act} {K : Act → World → Prop} {Q : Exit → Act → World → Prop} {E : Prop} (hgd : o.guard = none) (s x : Operand) (t : TypeId)
    (ho : o.op = .call { callee := .builtin .append, args := #[s, x], argTypes := #[t, t] })
    (base : Nat) (e : TypeId) (i : TypeInfo) (z : Value) (size bytes : Nat) (ht : P.underlying t = some (.slice e)) (hi : P.info? e = some i) (hz : i.zero = some z)
    (hsize : i.size = size) (hby : i.bytes = bytes) (hzs : z.cells.size = size) (hsz : 0 < size)
    (v : Value) (n : Nat) (xs : List Value) (hs : a.eval s = v) (hown : w.ownsRow base e size v n xs)
    (B : Nat) (A : Option Addr) (m c : Nat) (news : List Value) (hx : a.eval x = .slice A m c) (hr : Reads w B size A m news) (h1 : ∀ u ∈ news, u.oneCell' = true)
    (h63 : n + m ≤ maxLen) (hbytes : (n + m) * bytes ≤ 140737488355328) (hbase : base ≤ w.heap.size)
    (h : ∀ v' w', w'.ownsRow base e size v' (n + m) (xs ++ news) → w.grownBy w' v.ownBlock → (v'.ownBlock = v.ownBlock ∨ v'.ownBlock = some w.heap.size) → K (a.put o.dst v') w') :
    if Region.wanted o (yielded ops a.tmps) = true then Oper.wp P o a w K Q else E := by
  have hw : Region.wanted o (yielded ops a.tmps) = true := by simp [Region.wanted, hgd]
  rw [if_pos hw]
  exact wp_append_any w s x t ho base e i z size bytes ht hi hz hsize hby hzs hsz v n xs hs hown B A m c news hx hr h1 h63 hbytes hbase h
end
end

section
open Go

section
variable {P : Program} {ops : Array Oper} {Q : Exit → Act → World → Prop} {md : Region.Mode} {S : World → Prop} {s : Nat}

/-- Every order from here on is good; behind each operation but s the world meets S. -/
def Held (P : Program) (md : Region.Mode) (ops : Array Oper) (Q : Exit → Act → World → Prop) (S : World → Prop) (s : Nat) : Nat → Array Bool → Act → World → Prop
  | 0, l, a, w => Region.ready md ops l = [] ∧ Q .normal a w
  | n + 1, l, a, w => (Region.ready md ops l = [] → Q .normal a w) ∧
      ∀ i ∈ Region.ready md ops l, wpOp P ops Q i (fun b x => (i ≠ s → S x) ∧ Held P md ops Q S s n (l.setIfInBounds i true) b x) a w

theorem Held.any : ∀ (n : Nat) (l : Array Bool) (a : Act) (w : World), Held P md ops Q S s n l a w → wpAny P md ops Q n l a w := by
  intro n
  induction n with
  | zero => intro l a w h; exact h
  | succ n ih => intro l a w h; exact ⟨h.1, fun i hi => wpOp_mono (fun b x hx => ih _ b x hx.2) (h.2 i hi)⟩

/-- An operation that s waits for, and that yields v wherever S holds, may go first. -/
theorem Held.first {i : Nat} {o : Oper} {v : Value} (hi : ops[i]? = some o) (hsel : ∀ (j : Nat) (o : Oper) cs b, ops[j]? = some o → o.op ≠ .select cs b)
    (hQ : ∀ c a w, Q (.panic c) (a.put o.dst v) w → Q (.panic c) a w) (hs : ∀ os, ops[s]? = some os → ∃ e ∈ os.after, Region.binds md e = true ∧ e.on = i) (n : Nat) :
    ∀ (l : Array Bool) (a : Act) (w : World),
      (∀ j oj, ops[j]? = some oj → j ≠ i → l.getD j true = false → (∀ e ∈ oj.after, Region.binds md e = true → e.on ≠ i) → o.apart ops oj = true) →
      i ∈ Region.ready md ops l → YieldsIf P ops S o v a → S w → Held P md ops Q S s n (l.setIfInBounds i true) (a.put o.dst v) w → Held P md ops Q S s (n + 1) l a w := by
  induction n with
  | zero =>
    intro l a w _ hr hy hS H
    constructor
    · intro h; rw [h] at hr; cases hr
    · intro j hj
      by_cases e : j = i
      · subst e; exact hy.wpOp hi hS ⟨fun _ => hS, H⟩
      · have h0 := ready_mono hj e
        rw [H.1] at h0; cases h0
  | succ n ih =>
    intro l a w hf hr hy hS H
    constructor
    · intro h; rw [h] at hr; cases hr
    · intro j hj
      by_cases e : j = i
      · subst e; exact hy.wpOp hi hS ⟨fun _ => hS, H⟩
      · obtain ⟨hun, oj, hoj, hall⟩ := mem_ready.1 hj
        have hno : ∀ e ∈ oj.after, Region.binds md e = true → e.on ≠ i := by
          intro x hx hb heq
          have g1 := hall x hx hb
          have g0 := (mem_ready.1 hr).1
          rw [heq] at g1
          by_cases hlt : i < l.size
          · simp [hlt] at g0 g1; rw [g0] at g1; cases g1
          · simp [Array.getElem?_eq_none (Nat.le_of_not_lt hlt)] at g1
        have hjs : j ≠ s := by
          rintro rfl
          obtain ⟨x, hx, hb, heq⟩ := hs oj hoj
          exact hno x hx hb heq
        have key := wpOp_putIf hoj (hf j oj hoj e hun hno) (fun cs b => hsel i o cs b hi) (fun cs b => hsel j oj cs b hoj) hQ hy (H.2 j (ready_mono hj e))
        refine wpOp_mono (fun b x hx => ⟨hx.2.1, ih _ b x ?_ (ready_mono hr (Ne.symm e)) hx.1 (hx.2.1 hjs) ?_⟩) key
        · intro k ok hk hki hu hn
          refine hf k ok hk hki ?_ hn
          by_cases ek : j = k
          · subst ek; exact hun
          · rwa [getD_set_ne true ek] at hu
        · rw [Array.setIfInBounds_comm _ _ e]; exact hx.2.2

/-- s waits for i: as a Bool that the kernel reckons. -/
def waitsB (md : Region.Mode) (ops : Array Oper) (s i : Nat) : Bool := match ops[s]? with
  | some o => o.after.any fun e => Region.binds md e && e.on == i
  | none => true
theorem waitsB_spec {s i : Nat} (h : waitsB md ops s i = true) : ∀ os, ops[s]? = some os → ∃ e ∈ os.after, Region.binds md e = true ∧ e.on = i := by
  intro os ho
  unfold waitsB at h
  rw [ho] at h
  obtain ⟨e, he, hb⟩ := Array.any_eq_true'.1 h
  simp only [Bool.and_eq_true, beq_iff_eq] at hb
  exact ⟨e, he, hb.1, hb.2⟩
theorem Held.take {i : Nat} {o : Oper} (v : Value) {n : Nat} {l : Array Bool} {a : Act} {w : World} (hi : ops[i]? = some o) (hS : S w)
    (hse : Region.noSelect ops = true) (hf : Region.free md ops l i = true) (hr : (Region.ready md ops l).contains i = true) (hw : waitsB md ops s i = true)
    (hQ : ∀ c a w, Q (.panic c) (a.put o.dst v) w → Q (.panic c) a w) (hg : o.guard = none) (hy : ∀ x, S x → (execOp a.eval o).run P x = .ok (.value v) x)
    (h : Held P md ops Q S s n (l.setIfInBounds i true) (a.put o.dst v) w) : Held P md ops Q S s (n + 1) l a w :=
  Held.first hi (Region.noSelect_spec hse) hQ (waitsB_spec hw) n l a w (Region.free_spec hi hf) (by simpa using hr) (.inl ⟨by simp [Region.wanted, hg], hy⟩) hS h
/-- One operation alone may come up: it is carried out where it stands. -/
theorem Held.one {i : Nat} {o : Oper} {n : Nat} {l : Array Bool} {a : Act} {w : World} (ho : ops[i]? = some o) (hr : Region.ready md ops l = [i]) (hg : o.guard = none)
    (h : ∀ K : Act → World → Prop, (∀ b x, (i ≠ s → S x) → Held P md ops Q S s n (l.setIfInBounds i true) b x → K b x) → Oper.wp P o a w K Q) : Held P md ops Q S s (n + 1) l a w := by
  constructor
  · intro h0; rw [hr] at h0; cases h0
  · intro j hj
    rw [hr] at hj
    obtain rfl : j = i := by simpa using hj
    refine wpOp_step ho (fun K hK => ?_)
    rw [if_pos (by simp [Region.wanted, hg])]
    exact h K (fun b x h1 h2 => hK b x ⟨h1, h2⟩)
/-- Two operations may come up. -/
theorem Held.two {i j : Nat} {o o' : Oper} {n : Nat} {l : Array Bool} {a : Act} {w : World} (ho : ops[i]? = some o) (ho' : ops[j]? = some o') (hr : Region.ready md ops l = [i, j]) (hg : o.guard = none) (hg' : o'.guard = none)
    (h : ∀ K : Act → World → Prop, (∀ b x, (i ≠ s → S x) → Held P md ops Q S s n (l.setIfInBounds i true) b x → K b x) → Oper.wp P o a w K Q)
    (h' : ∀ K : Act → World → Prop, (∀ b x, (j ≠ s → S x) → Held P md ops Q S s n (l.setIfInBounds j true) b x → K b x) → Oper.wp P o' a w K Q) : Held P md ops Q S s (n + 1) l a w := by
  constructor
  · intro h0; rw [hr] at h0; cases h0
  · intro k hk
    rw [hr] at hk
    simp only [List.mem_cons, List.not_mem_nil, or_false] at hk
    rcases hk with rfl | rfl
    · refine wpOp_step ho (fun K hK => ?_)
      rw [if_pos (by simp [Region.wanted, hg])]
      exact h K (fun b x h1 h2 => hK b x ⟨h1, h2⟩)
    · refine wpOp_step ho' (fun K hK => ?_)
      rw [if_pos (by simp [Region.wanted, hg'])]
      exact h' K (fun b x h1 h2 => hK b x ⟨h1, h2⟩)
theorem Held.done {n : Nat} {l : Array Bool} {a : Act} {w : World} (hr : Region.ready md ops l = []) (h : Q .normal a w) : Held P md ops Q S s n l a w := by
  cases n with
  | zero => exact ⟨hr, h⟩
  | succ n => exact ⟨fun _ => h, by rw [hr]; simp⟩
theorem Held.begin {id : Nat} {a : Act} {w : World} (S : World → Prop) (s : Nat) (hm : P.follows .mixedOrders = true)
    (h : Held P .any ops Q S s ops.size (Array.replicate ops.size false) a w.drew) : (Code.region id ops true).wp P Q a w :=
  wp_region_any hm (Held.any _ _ _ _ h)
end
end

section
open Go.RowKit
set_option linter.unusedVariables false
set_option linter.unusedSimpArgs false

def strV (x : List UInt8) : Value := .string ⟨x.toArray⟩
theorem bytes_of (s : ByteArray) : (⟨s.data.toList.toArray⟩ : ByteArray) = s := by cases s; simp
theorem ext_one (s : ByteArray) (i : Nat) (h : i < s.size) : (s.extract i (i + 1)).data.toList = [s[i]] := by
  rw [ByteArray.data_extract, Array.toList_extract]
  have := Lib.data_getElem? s i h
  rw [List.extract_eq_take_drop]
  have e : i + 1 - i = 1 := by omega
  rw [e]
  cases hd : s.data.toList.drop i with
  | nil =>
    have := List.drop_eq_nil_iff.1 hd
    simp at this
    have : s.size ≤ i := this
    omega
  | cons c r =>
    have h2 : (s.data.toList.drop i)[0]? = s.data.toList[i]? := by rw [List.getElem?_drop]; simp
    rw [hd, this] at h2
    simp at h2
    simp [h2]
theorem word_more (w : List UInt8) (s : ByteArray) (i : Nat) (h : i < s.size) : (⟨w.toArray⟩ : ByteArray) ++ s.extract i (i + 1) = ⟨(w ++ [s[i]]).toArray⟩ := by
  refine ByteArray.ext ?_
  rw [ByteArray.data_append]
  apply Array.toList_inj.1
  rw [Array.toList_append, ext_one s i h]
theorem info_partsW {t : TypeId} {z : Value} {s b : Nat} (h : (Tryd.prog.info? t).map (fun i => (i.zero, i.size, i.bytes)) = some (some z, s, b)) : ∃ i, Tryd.prog.info? t = some i ∧ i.zero = some z ∧ i.size = s ∧ i.bytes = b := by
  obtain ⟨i, hi, hz⟩ := Option.map_eq_some_iff.1 h
  simp only [Prod.mk.injEq] at hz
  exact ⟨i, hi, hz.1, hz.2.1, hz.2.2⟩
theorem infoStrW : (Tryd.prog.info? 9).map (fun i => (i.zero, i.size, i.bytes)) = some (some (.string ByteArray.empty), 1, 16) := by kernel_rfl
/-- A list of words grows by one that is empty. -/
theorem wd_app {X : World} {N : Nat} {A : Option Addr} {n c : Nat} {ws : List (List UInt8)} (hown : X.ownsRow N 9 1 (.slice A n c) n (ws.map strV)) (hN : N ≤ X.heap.size) (hl : n ≤ 1000000) :
    ∃ A' c' X', (Builtin.append_ #[55, 55] 55 #[.slice A n c, .slice (some ⟨X.heap.size, 0, none⟩) 1 1]).run Tryd.prog (X.alloc (.cells #[.string ⟨#[]⟩] 9)) = .ok (.slice A' (n + 1) c') X' ∧
      X'.ownsRow N 9 1 (.slice A' (n + 1) c') (n + 1) ((ws ++ [[]]).map strV) ∧ Below N X X' := by
  obtain ⟨i0, hi, hz0, hz1, hz2⟩ := info_partsW infoStrW
  obtain ⟨o, ho⟩ : ∃ o : Obj, (.cells #[.string ⟨#[]⟩] 9 : Obj) = o := ⟨_, rfl⟩
  have hs : (X.alloc o).heap.size = X.heap.size + 1 := World.size_alloc _ _
  have kq := Blk.new X 9 #[.string ⟨#[]⟩]
  have hba : Below X.heap.size X (X.alloc (.cells #[.string ⟨#[]⟩] 9)) := (Below.refl _ _).alloc (Nat.le_refl _) _
  rw [ho] at kq hba ⊢
  have hown1 := own_below hown hba
  have hrd : Reads (X.alloc o) (X.alloc o).heap.size 1 (some ⟨X.heap.size, 0, none⟩) 1 [.string ⟨#[]⟩] := ⟨rfl, fun _ => ⟨X.heap.size, 0, rfl, by omega, fun j u hu => by rw [Nat.zero_add, kq.cell j]; simpa using hu⟩⟩
  obtain ⟨v', X', hrun, h2, h3, h4⟩ := run_append_any (P := Tryd.prog) (X.alloc o) N 55 55 9 i0 _ 1 16 Tryd.underlying55 hi hz0 hz1 hz2 rfl (by decide) (.slice A n c) n (ws.map strV) hown1 (X.alloc o).heap.size (some ⟨X.heap.size, 0, none⟩) 1 1 [.string ⟨#[]⟩] hrd (by
    intro u hu
    obtain rfl : u = .string ⟨#[]⟩ := by simpa using hu
    rfl) (by unfold maxLen; omega) (by omega) (by omega)
  obtain ⟨A', c', rfl, _⟩ := own_form h2
  exact ⟨A', c', X', hrun, by rw [List.map_append]; exact h2, below_append (hba.mono hN) hown1 (by omega) h3⟩
theorem wp_append_isW {P : Program} {w w' : World} {o : Oper} {a : Act} {K : Act → World → Prop} {Q : Exit → Act → World → Prop} (s x : Operand) (t : TypeId)
    (ho : o.op = .call { callee := .builtin .append, args := #[s, x], argTypes := #[t, t] }) {v u v' : Value} (hs : a.eval s = v) (hx : a.eval x = u) {ty : TypeId} (hty : o.type = ty)
    (hrun : (Builtin.append_ #[t, t] ty #[v, u]).run P w = .ok v' w') (h : K (a.put o.dst v') w') : o.wp P a w K Q := by
  subst hty
  unfold Oper.wp execOp
  simp only [ho, resolve, invoke, builtin, Sem.run_bind, Sem.run_pure, Result.andThen_ok, List.map_toArray, List.map_cons, List.map_nil, hs, hx, hrun]
  exact h
theorem wpList_append_isW {P : Program} {w w' : World} {ops : Array Oper} {rest : List Oper} {o : Oper} {a : Act} {Q : Exit → Act → World → Prop} (hgd : o.guard = none) (s x : Operand) (t : TypeId)
    (ho : o.op = .call { callee := .builtin .append, args := #[s, x], argTypes := #[t, t] }) {v u v' : Value} (hs : a.eval s = v) (hx : a.eval x = u) {ty : TypeId} (hty : o.type = ty)
    (hrun : (Builtin.append_ #[t, t] ty #[v, u]).run P w = .ok v' w') (h : wpList P ops Q rest (a.put o.dst v') w') : wpList P ops Q (o :: rest) a w :=
  wpList_plain hgd fun _ hK => wp_append_isW s x t ho hs hx hty hrun (hK _ _ h)
/-- The last word of an own list is stored anew. -/
theorem wd_last {w : World} {base g c n : Nat} {ws : List (List UInt8)} {v x : List UInt8} (h : w.ownsRow base 9 1 (.slice (some ⟨g, 0, none⟩) n c) n ((ws ++ [v]).map strV)) (hn : n = ws.length + 1) :
    w.cell? ⟨g, ws.length, none⟩ = some (strV v) ∧ w.frozen? ⟨g, ws.length, none⟩ = false ∧ base ≤ g ∧ g < w.heap.size ∧ (w.setCell ⟨g, ws.length, none⟩ (strV x)).ownsRow base 9 1 (.slice (some ⟨g, 0, none⟩) n c) n ((ws ++ [x]).map strV) := by
  rcases h.2 with ⟨he, _⟩ | ⟨g', cap, cur, he, hb, hg, h1, h2, h3, h4⟩
  · cases he
  · injection he with he1 he2 he3
    injection he1 with he1
    injection he1 with he1
    subst he1 he3
    have hlt := (Array.getElem?_eq_some_iff.1 hg).1
    have hk : Blk w g 9 cur := hg
    have hc : cur[ws.length]? = some (strV v) := by
      have e : (cur.toList.take (n * 1))[ws.length]? = some (strV v) := by rw [h4]; simp
      rw [List.getElem?_take] at e
      split at e
      · simpa using e
      · cases e
    refine ⟨by rw [hk.cell]; exact hc, hk.frozen _, hb, hlt, by simp [hn], .inr ⟨g, c, cur.setIfInBounds ws.length (strV x), rfl, hb, hk.set_ _ _, h1, h2, by rw [Array.size_setIfInBounds]; exact h3, ?_⟩⟩
    rw [Array.toList_setIfInBounds, List.take_set]
    have e2 : (cur.toList.take (n * 1)).set ws.length (strV x) = (ws ++ [x]).map strV := by
      rw [h4]
      simp
    exact e2
end

section
open Go.RowKit
set_option linter.unusedVariables false
set_option linter.unusedSimpArgs false

def RetWd (w : World) (ws : List (List UInt8)) (e : Ending) (w' : World) : Prop := ∃ A c, e = .returned (.slice A ws.length c) ∧ w'.ownsRow w.heap.size 9 1 (.slice A ws.length c) ws.length (ws.map strV) ∧ Below w.heap.size w w'
theorem own_someW {w : World} {base : Nat} {A : Option Addr} {n c : Nat} {xs : List Value} (h : w.ownsRow base 9 1 (.slice A n c) n xs) (hn : 0 < n) : ∃ g, A = some ⟨g, 0, none⟩ := by
  rcases h.2 with ⟨he, h0⟩ | ⟨g', cap, cur, he, _⟩
  · injection he with _ h1 _; omega
  · injection he with h1 _ _; exact ⟨g', h1⟩
theorem take_snocB (s : ByteArray) (k : Nat) (h : k < s.size) : s.data.toList.take (k + 1) = s.data.toList.take k ++ [s[k]] := by
  rw [List.take_succ_eq_append_getElem (by simpa using h)]; rfl
theorem words_short : ∀ (l : List UInt8), ∀ v ∈ wordsL l, v.length ≤ l.length := by
  intro l
  induction hl : l.length generalizing l with
  | zero =>
    obtain rfl := List.length_eq_zero_iff.1 hl
    intro v hv
    obtain rfl : v = [] := by simpa [wordsL] using hv
    exact Nat.le_refl _
  | succ m ih =>
    obtain ⟨k, c, rfl⟩ : ∃ k c, l = k ++ [c] := ⟨l.dropLast, l.getLast (by intro e; rw [e] at hl; cases hl), (List.dropLast_concat_getLast _).symm⟩
    have hk : k.length = m := by rw [List.length_append] at hl; simpa using hl
    have h1 := ih k hk
    have hL : (k ++ [c]).length = k.length + 1 := by simp
    intro v hv
    rw [words_snoc, stW] at hv
    split at hv
    · rcases List.mem_append.1 hv with hv | hv
      · have := h1 v hv; omega
      · obtain rfl : v = [] := by simpa using hv
        exact Nat.zero_le _
    · rcases List.mem_append.1 hv with hv | hv
      · have := h1 v (List.dropLast_subset _ hv); omega
      · obtain rfl : v = (wordsL k).getLastD [] ++ [c] := by simpa using hv
        have h2 : (wordsL k).getLastD [] ∈ wordsL k := by
          rw [List.getLastD_eq_getLast?, List.getLast?_eq_some_getLast (words_ne k)]
          exact List.getLast_mem _
        have h3 := h1 _ h2
        have h4 : ((wordsL k).getLastD [] ++ [c]).length = ((wordsL k).getLastD []).length + 1 := by simp
        omega
end

end Go.Proofs.YtmpoaegdejhbeaaDoor
