/-
  The facts of this seat that the library contract of the sort at bags asks for (printed by lay-plain for items, turned to bags); slices.SortFunc over a list of bags.
  rank.order, the comparisons that rank.groups and rank.done hand over, rank.done.
  The comparisons that rank.groups hands over: of two items of a group, and of two groups by their keys; rank.done.
  A slice of slices that the call itself makes, whose rows grow by append: Grid. Plain memory; no program.
  A list of groups that a call makes and lets grow: a slice of slices of items. Plain memory.
  Groups in memory: the first row of a group, while the list of groups is sorted.
  A list of groups while its groups are sorted one by one. Plain memory; no condition.
  A region that draws its order: an operation that the last one waits for over others (Held.takeU, as Held.take). Own theorems over the kit's 'wpOp'; no condition.
-/
import Derived.Test.YtljglceaibgknaaGreatDoorRkL
import Derived.Test.YtljglceaibgknaaGreatDoorRngH
import Derived.Test.YtljglceaibgknaaGreatDoorGb
import Derived.Test.YtljglceaibgknaaGreatDoorRkP
import Derived.Test.YtljglceaibgknaaGreatDoorQbw
import Derived.Deep.OwnRows
namespace Go.Proofs.YtljglceaibgknaaGreatDoor

section
open Go.Shelf Go.Proofs Go.Lib Go.Sort
open Go.RowKit (Below)
attribute [local go_sem] Oper.semAt_some
set_option linter.unusedVariables false
set_option linter.unusedSimpArgs false

def sortB_ren : Go.Shelf.Ren := ⟨fun | 6 => 113 | 14 => 158 | 20 => 195 | 21 => 196 | 22 => 197 | 23 => 198 | 24 => 199 | 25 => 200 | 26 => 201 | 27 => 202 | 46 => 221 | 47 => 216 | 48 => 217 | 49 => 222 | 50 => 223 | 15 => 137 | 57 => 234 | 28 => 181 | 29 => 182 | n => n, fun | 24 => 26 | 22 => 29 | 3 => 3 | 25 => 146 | 4 => 4 | 0 => 0 | 46 => 202 | 45 => 201 | 50 => 120 | 66 => 229 | 39 => 163 | 55 => 210 | 70 => 233 | 76 => 247 | 77 => 248 | 53 => 208 | 5 => 5 | 9 => 9 | n => n, fun | n => n⟩
theorem sortB : Go.Proofs.SlLaysF.n6 Tryz.prog sortB_ren := {
  f6 := ⟨Tryz.f113.name, by decide, Tryz.func113.trans (congrArg some (by kernel_rfl))⟩
  a24 := Tryz.isAgg26
  z24 := Tryz.sizeOf26
  mixed := by kernel_rfl
  f14 := ⟨Tryz.f158.name, by decide, Tryz.func158.trans (congrArg some (by kernel_rfl))⟩
  f15 := Tryz.func137.trans (congrArg some (by kernel_rfl))
  f20 := ⟨Tryz.f195.name, by decide, Tryz.func195.trans (congrArg some (by kernel_rfl))⟩
  f21 := ⟨Tryz.f196.name, by decide, Tryz.func196.trans (congrArg some (by kernel_rfl))⟩
  f22 := ⟨Tryz.f197.name, by decide, Tryz.func197.trans (congrArg some (by kernel_rfl))⟩
  f23 := ⟨Tryz.f198.name, by decide, Tryz.func198.trans (congrArg some (by kernel_rfl))⟩
  f24 := ⟨Tryz.f199.name, by decide, Tryz.func199.trans (congrArg some (by kernel_rfl))⟩
  f25 := ⟨Tryz.f200.name, by decide, Tryz.func200.trans (congrArg some (by kernel_rfl))⟩
  f26 := ⟨Tryz.f201.name, by decide, Tryz.func201.trans (congrArg some (by kernel_rfl))⟩
  f27 := ⟨Tryz.f202.name, by decide, Tryz.func202.trans (congrArg some (by kernel_rfl))⟩
  f28 := Tryz.func181.trans (congrArg some (by kernel_rfl))
  f29 := Tryz.func182.trans (congrArg some (by kernel_rfl))
  f46 := ⟨Tryz.f221.name, by decide, Tryz.func221.trans (congrArg some (by kernel_rfl))⟩
  f47 := Tryz.func216.trans (congrArg some (by kernel_rfl))
  f48 := Tryz.func217.trans (congrArg some (by kernel_rfl))
  f49 := ⟨Tryz.f222.name, by decide, Tryz.func222.trans (congrArg some (by kernel_rfl))⟩
  f50 := ⟨Tryz.f223.name, by decide, Tryz.func223.trans (congrArg some (by kernel_rfl))⟩
  f57 := ⟨Tryz.f234.name, by decide, Tryz.func234.trans (congrArg some (by kernel_rfl))⟩
  t0 := Tryz.underlying0
  a0 := Tryz.isAgg0
  z0 := Tryz.sizeOf0
  v0 := Tryz.zeroValue0
  t3 := Tryz.underlying3
  a3 := Tryz.isAgg3
  z3 := Tryz.sizeOf3
  v3 := Tryz.zeroValue3
  t4 := Tryz.underlying4
  a4 := Tryz.isAgg4
  z4 := Tryz.sizeOf4
  v4 := Tryz.zeroValue4
  t5 := Tryz.underlying5
  a5 := Tryz.isAgg5
  z5 := Tryz.sizeOf5
  v5 := Tryz.zeroValue5
  t9 := Tryz.underlying9
  a9 := Tryz.isAgg9
  z9 := Tryz.sizeOf9
  v9 := Tryz.zeroValue9
  t22 := Tryz.underlying29
  a22 := Tryz.isAgg29
  z22 := Tryz.sizeOf29
  v22 := Tryz.zeroValue29
  t25 := Tryz.underlying146
  a25 := Tryz.isAgg146
  z25 := Tryz.sizeOf146
  v25 := Tryz.zeroValue146
  t39 := Tryz.underlying163
  a39 := Tryz.isAgg163
  z39 := Tryz.sizeOf163
  v39 := Tryz.zeroValue163
  t45 := Tryz.underlying201
  a45 := Tryz.isAgg201
  z45 := Tryz.sizeOf201
  v45 := Tryz.zeroValue201
  t46 := Tryz.underlying202
  a46 := Tryz.isAgg202
  z46 := Tryz.sizeOf202
  v46 := Tryz.zeroValue202
  t50 := Tryz.underlying120
  a50 := Tryz.isAgg120
  z50 := Tryz.sizeOf120
  v50 := Tryz.zeroValue120
  t53 := Tryz.underlying208
  a53 := Tryz.isAgg208
  z53 := Tryz.sizeOf208
  v53 := Tryz.zeroValue208
  t55 := Tryz.underlying210
  a55 := Tryz.isAgg210
  z55 := Tryz.sizeOf210
  v55 := Tryz.zeroValue210
  t66 := Tryz.underlying229
  a66 := Tryz.isAgg229
  z66 := Tryz.sizeOf229
  v66 := Tryz.zeroValue229
  t70 := Tryz.underlying233
  a70 := Tryz.isAgg233
  z70 := Tryz.sizeOf233
  v70 := Tryz.zeroValue233
  t76 := Tryz.underlying247
  a76 := Tryz.isAgg247
  z76 := Tryz.sizeOf247
  v76 := Tryz.zeroValue247
  t77 := Tryz.underlying248
  a77 := Tryz.isAgg248
  z77 := Tryz.sizeOf248
  v77 := Tryz.zeroValue248 }
/-- A group in memory. -/
structure Gp where
  A : Option Addr
  n : Nat
  c : Nat
  l : List It
def encGp (g : Gp) : List Value := [.slice g.A g.n g.c]
theorem encGp_len (g : Gp) : (encGp g).length = 1 := rfl
theorem infoGp : (Tryz.prog.info? 26).map (fun i => (i.zero, i.size, i.bytes)) = some (some (.slice none 0 0), 1, 24) := by kernel_rfl
/-- What the sort leaves. -/
def RetSortG (w : World) (v : Value) (l : List Gp) (cf : Gp → Gp → Int) (e : Ending) (w' : World) : Prop := e = .returned (.tuple #[]) ∧ ∃ (l' : List Gp) (A : Option Addr) (n c : Nat), v = .slice A n c ∧ l'.Perm l ∧ l'.Pairwise (fun x y => ¬ cf y x < 0) ∧ Reads w' w'.heap.size 1 A n (l'.flatMap encGp) ∧ Bar w.heap.size (obl v) w w'
theorem sortWorld_K {α : Type} [Inhabited α] (f : α → Value) (w : World) (g m : Nat) (d : Array α) (os : Array Obj) : sortWorld f w g 0 m d os = sortWorldK (fun x => [f x]) 1 w g 0 m d os := by
  unfold sortWorld sortWorldK putRowK
  congr 1
  unfold putRow
  congr 1
  funext cs
  unfold putCells
  simp only [size_flatK, Nat.mul_one, id]
  congr 1
  funext j x
  simp only [Nat.zero_le, true_and, Nat.zero_add, Nat.sub_zero]
  split
  · rename_i h
    rw [get_flatK _ _ _ _ (by omega), Nat.div_one, Nat.mod_one]
    rfl
  · rfl
theorem SortG_any (base n : Nat) (v : Value) (l : List Gp) (w : World) (h : w.ownsRow base 26 1 v n (l.flatMap encGp)) (hn : n ≤ 100000) (pf : Nat) (caps : Array Value)
    (eg : ∀ args w, (callFunc pf args).run Tryz.prog w = .ok (.enter pf args) w) (cf : Gp → Gp → Int) (hO : SWO (ltOf cf))
    (hc : ∀ (x y : Gp) (W : World), x ∈ l → y ∈ l → Bar w.heap.size (obl v) w W → Calls Tryz.prog pf (#[.slice x.A x.n x.c, .slice y.A y.n y.c] ++ caps) W (RetG W (.int .i64 (cf x y)))) :
    Calls Tryz.prog 113 #[v, .func (Fn.func pf) #[] caps] w (RetSortG w v l cf) := by
  have hlen : l.length = n := by
    have := h.1
    rw [flat_length encGp_len] at this
    omega
  rcases h.2 with ⟨he, hn0⟩ | ⟨g, cap, cur, he, hb, _, hcap, _⟩
  · subst he
    obtain rfl : n = 0 := by
      have := h.1
      rw [hn0] at this
      simp at this
      omega
    obtain rfl : l = [] := List.eq_nil_of_length_eq_zero hlen
    refine (AnyF.slices_SortFunc_none (P := Tryz.prog) (ρ := sortB_ren) { sortB with } none 0 _ w).mono ?_
    rintro e w' ⟨rfl, rfl⟩
    exact ⟨rfl, [], none, 0, 0, rfl, List.Perm.refl _, List.Pairwise.nil, Reads.none_, Bar.refl _ _ _⟩
  · subst he
    rcases Nat.eq_zero_or_pos n with hn0 | hn0
    · subst hn0
      obtain rfl : l = [] := List.eq_nil_of_length_eq_zero hlen
      refine (AnyF.slices_SortFunc_none (P := Tryz.prog) (ρ := sortB_ren) { sortB with } _ cap _ w).mono ?_
      rintro e w' ⟨rfl, rfl⟩
      exact ⟨rfl, [], _, 0, cap, rfl, List.Perm.refl _, List.Pairwise.nil, ⟨rfl, fun h => absurd h (by omega)⟩, Bar.refl _ _ _⟩
    · obtain ⟨x0, hx0⟩ : ∃ x, x ∈ l := by
        cases l with
        | nil => simp at hlen; omega
        | cons x l => exact ⟨x, List.mem_cons_self⟩
      haveI : Inhabited {x : Gp // x ∈ l} := ⟨⟨x0, hx0⟩⟩
      let f : {x : Gp // x ∈ l} → Value := fun x => .slice x.1.A x.1.n x.1.c
      let enc : {x : Gp // x ∈ l} → List Value := fun x => encGp x.1
      let ls : List {x : Gp // x ∈ l} := l.attach
      have hls : ls.map (·.1) = l := List.attach_map_subtype_val l
      have hfl : ls.flatMap enc = l.flatMap encGp := by
        have : l.flatMap encGp = (ls.map (·.1)).flatMap encGp := by rw [hls]
        rw [this, List.flatMap_map]
      have hlsn : ls.length = n := by rw [← hlen]; exact List.length_attach
      have h' : w.ownsRow base 26 1 (.slice (some ⟨g, 0, none⟩) n cap) n (ls.flatMap enc) := by rw [hfl]; exact h
      obtain ⟨hH, hg, hbg⟩ := holds_ownG (enc := enc) (fun x => encGp_len x.1) (by omega) h'
      have hsz : ls.toArray.size = n := by simpa using hlsn
      have hO' : SWO (ltOf fun x y : {x : Gp // x ∈ l} => cf x.1 y.1) := ⟨fun x => hO.irrefl x.1, fun x y z => hO.trans x.1 y.1 z.1, fun x y z => hO.ntrans x.1 y.1 z.1⟩
      have h1 : OneCell f := fun x => rfl
      have hHo : Holds f w g 0 ls.toArray := fun j hj => by
        have := hH j (by rw [size_flatK]; simpa using hj)
        rw [get_flatK _ _ _ _ (by simpa using hj), Nat.div_one, Nat.mod_one] at this
        exact this
      have hcmp : CmpLays1 Tryz.prog pf caps f (fun x y : {x : Gp // x ∈ l} => cf x.1 y.1) g 0 ls.toArray.size w := by
        intro m os dk hdk x y
        have hbar := below_sortG (enc := enc) (k := 1) (w := w) (g := g) (m := m) (d := dk) (os := os)
        rw [sortWorld_K]
        refine (hc x.1 y.1 _ x.2 y.2 hbar).mono ?_
        rintro e w' ⟨he, hgb⟩
        exact ⟨he, hgb.grow⟩
      have hp := Any.slices_SortFunc (P := Tryz.prog) (ρ := sortB_ren) sortB f h1 (fun x y : {x : Gp // x ∈ l} => cf x.1 y.1) hO' pf caps g 0 cap ls.toArray w eg hcmp hHo hg (by rw [hsz]; omega)
      rw [hsz] at hp
      refine Calls.mono hp ?_
      rintro e w' ⟨rfl, d', m, os, hpm, hst, rfl⟩
      have hdn : d'.size = n := by rw [hpm.1, hsz]
      rw [sortWorld_K]
      have hbar := below_sortG (enc := enc) (k := 1) (w := w) (g := g) (m := m) (d := d') (os := os)
      have hperm : d'.toList.Perm ls := by
        have := hpm.2.2
        rw [← hsz] at this
        simp only [Array.extract_size] at this
        rw [hsz, ← hdn, Array.extract_size] at this
        simpa using this
      have hl'p : (d'.toList.map (·.1)).Perm l := by
        have := hperm.map (·.1)
        rwa [hls] at this
      refine ⟨rfl, d'.toList.map (·.1), _, _, _, rfl, hl'p, ?_, ?_, hbar⟩
      · rw [List.pairwise_map, List.pairwise_iff_getElem]
        intro i j hi hj hij
        have hi' : i < d'.size := by simpa using hi
        have hj' : j < d'.size := by simpa using hj
        have := hst i j (Nat.zero_le _) hij (by omega)
        have h2 : decide (cf (d'[j]!).1 (d'[i]!).1 < 0) = false := this
        rw [decide_eq_false_iff_not, getElem!_pos d' i hi', getElem!_pos d' j hj'] at h2
        simpa using h2
      · have hH' := holdsK_sortWorldK_c enc 1 w g 0 ls.toArray d' m os hH hg (by rw [hdn, hsz])
        have := reads_holdsG (enc := enc) (fun x => encGp_len x.1) (by omega) hH' (Nat.lt_of_lt_of_le hg hbar.size)
        rw [hdn] at this
        rw [List.flatMap_map]
        exact this
end

section
open Go.RowKit
attribute [local go_sem] Oper.semAt_some
set_option linter.unusedVariables false
set_option linter.unusedSimpArgs false

theorem done1_any (x y : It) (B : Nat) (w : World) (hx : RowK w B x.A x.n x.r) (hy : RowK w B y.A y.n y.r) : Calls Tryz.prog 117 #[.agg #[.slice x.A x.n x.c, .int .i64 x.m], .agg #[.slice y.A y.n y.c, .int .i64 y.m]] w (RetG w (.int .i64 (cmpR x.r y.r))) := by
  have hB := gb_two (w := w) (.cells #[.slice x.A x.n x.c, .int .i64 x.m] 52) (.cells #[.slice y.A y.n y.c, .int .i64 y.m] 52)
  have k1 := (Blk.new w 52 #[.slice x.A x.n x.c, .int .i64 x.m]).alloc (.cells #[.slice y.A y.n y.c, .int .i64 y.m] 52)
  have k2 := Blk.new (w.alloc (.cells #[.slice x.A x.n x.c, .int .i64 x.m] 52)) 52 #[.slice y.A y.n y.c, .int .i64 y.m]
  rw [World.size_alloc] at k2
  have hx1 := hx.below hB.b
  have hy1 := hy.below hB.b
  go_enter Tryz.func117, Tryz.ntmps117
  go_upto_region 1 with fail
  obtain ⟨W, hW⟩ : ∃ W, (w.alloc (.cells #[.slice x.A x.n x.c, .int .i64 x.m] 52)).alloc (.cells #[.slice y.A y.n y.c, .int .i64 y.m] 52) = W := ⟨_, rfl⟩
  rw [hW] at hB k1 k2 hx1 hy1 ⊢
  clear hW
  have c1 := k1.cell 0
  have c2 := k2.cell 0
  simp at c1 c2
  have HC := hide (Compare_g x.A x.n x.c x.r y.A y.n y.c y.r W hx1.rd hy1.rd hx1.le)
  go_wp2_with fail
  refine HC.out.mono ?_
  rintro e W1 ⟨rfl, hB1⟩
  have HB := hide (gstep hB hB1)
  clear hB hB1
  go_wp2_with fail
  go_ret
  exact ⟨rfl, HB.out⟩
/-- A comparison that rank.order has made. -/
structure OrdF (w : World) (bs bg : Nat) (k : Sk) (s : Stp) : Prop where
  box : BoxS w bs k s
  sg : w.cell? ⟨bg, 0, none⟩ = some (.int .i64 (sgn s.dn))
theorem OrdF.keep {w w' : World} {bs bg : Nat} {k : Sk} {s : Stp} (h : OrdF w bs bg k s) (hk : ∀ o, w'.cell? ⟨bs, o, none⟩ = w.cell? ⟨bs, o, none⟩) (hg : w'.cell? ⟨bg, 0, none⟩ = w.cell? ⟨bg, 0, none⟩) : OrdF w' bs bg k s := ⟨h.box.keep hk, hg.trans h.sg⟩
theorem OrdF.below {w w' : World} {bs bg : Nat} {k : Sk} {s : Stp} (h : OrdF w bs bg k s) (hb : Below w.heap.size w w') : OrdF w' bs bg k s := ⟨h.box.below hb, (hb.cell (p := ⟨bg, 0, none⟩) (World.block_lt_of_cell? _ _ h.sg)).trans h.sg⟩
def ordV (bs bg : Nat) : Value := .func (Fn.func 122) #[] #[.pointer (some ⟨bs, 0, none⟩), .pointer (some ⟨bg, 0, none⟩)]
def RetOrd (w : World) (k : Sk) (s : Stp) (e : Ending) (w' : World) : Prop := ∃ bs bg, e = .returned (ordV bs bg) ∧ w.heap.size ≤ bs ∧ w.heap.size ≤ bg ∧ OrdF w' bs bg k s ∧ Below w.heap.size w w'
theorem order_any (k : Sk) (s : Stp) (w : World) : Calls Tryz.prog 67 #[k.v s] w (RetOrd w k s) := by
  obtain ⟨per, by_, dn, n⟩ := s
  unfold Sk.v
  have k1 := Blk.new w 24 #[.slice k.A k.n k.c, .slice k.A' k.n' k.c', .bool dn, .int .i64 n]
  have hB1 := below_val (w := w) #[.slice k.A k.n k.c, .slice k.A' k.n' k.c', .bool dn, .int .i64 n] 24
  have k2 := Blk.new (w.alloc (.cells #[.slice k.A k.n k.c, .slice k.A' k.n' k.c', .bool dn, .int .i64 n] 24)) 3 #[.int .i64 0]
  have k3 := k1.alloc (.cells #[.int .i64 0] 3)
  have hs : (w.alloc (.cells #[.slice k.A k.n k.c, .slice k.A' k.n' k.c', .bool dn, .int .i64 n] 24)).heap.size = w.heap.size + 1 := by simp
  have hB2 := bstep hB1 (below_val (w := w.alloc (.cells #[.slice k.A k.n k.c, .slice k.A' k.n' k.c', .bool dn, .int .i64 n] 24)) #[.int .i64 0] 3)
  rw [hs] at k2
  obtain ⟨W2, hW2⟩ : ∃ W2, (w.alloc (.cells #[.slice k.A k.n k.c, .slice k.A' k.n' k.c', .bool dn, .int .i64 n] 24)).alloc (.cells #[.int .i64 0] 3) = W2 := ⟨_, rfl⟩
  have HW2 := hide hW2
  rw [hW2] at k2 k3 hB2
  have hne : w.heap.size ≠ w.heap.size + 1 := by omega
  have FIN := hide (show ∀ (v : Int) (W3 : World), v = sgn dn → Blk W3 w.heap.size 24 #[.slice k.A k.n k.c, .slice k.A' k.n' k.c', .bool dn, .int .i64 n] → Blk W3 (w.heap.size + 1) 3 #[.int .i64 v] → Below w.heap.size w W3 → RetOrd w k ⟨per, by_, dn, n⟩ (.returned (ordV w.heap.size (w.heap.size + 1))) W3 from fun v W3 hv j1 j2 hB => by
    refine ⟨_, _, rfl, Nat.le_refl _, by omega, ⟨⟨by simpa using j1.cell 0, by simpa using j1.cell 1, by simpa using j1.cell 2, by simpa using j1.cell 3⟩, ?_⟩, hB⟩
    show W3.cell? _ = some (.int .i64 (sgn dn))
    rw [← hv]
    simpa using j2.cell 0)
  have f2 := k2.frozen 0
  have d2 := k2.cell 0
  simp at d2
  have k2a := k2.set_ 0 (.int .i64 1)
  have k3a := k3.far (p := ⟨w.heap.size + 1, 0, none⟩) hne (.int .i64 1)
  have hB3 := hB2.setCell (p := ⟨w.heap.size + 1, 0, none⟩) (by show w.heap.size ≤ w.heap.size + 1; omega) (.int .i64 1)
  simp at k2a
  obtain ⟨W3, hW3⟩ : ∃ W3, W2.setCell ⟨w.heap.size + 1, 0, none⟩ (.int .i64 1) = W3 := ⟨_, rfl⟩
  rw [hW3] at k2a k3a hB3
  have c2 := k3a.cell 2
  simp at c2
  have f3 := k2a.frozen 0
  have d3 := k2a.cell 0
  simp at d3
  cases dn
  · have HE := hide (FIN.out 1 W3 rfl k3a k2a hB3)
    clear k1 hB1 k2 hs k3 hB2 FIN k2a k3a hB3
    go_enter Tryz.func67, Tryz.ntmps67
    go_wp2
    go_ret
    exact HE.out
  · have k2b := k2a.set_ 0 (.int .i64 (-1))
    have k3b := k3a.far (p := ⟨w.heap.size + 1, 0, none⟩) hne (.int .i64 (-1))
    simp at k2b
    have HE := hide (FIN.out (-1) _ rfl k3b k2b (hB3.setCell (p := ⟨w.heap.size + 1, 0, none⟩) (by show w.heap.size ≤ w.heap.size + 1; omega) (.int .i64 (-1))))
    clear k1 hB1 k2 hs k3 hB2 FIN k2a k3a hB3 k2b k3b
    go_enter Tryz.func67, Tryz.ntmps67
    go_wp2
    go_ret
    exact HE.out
end

section
open Go.RowKit
attribute [local go_sem] Oper.semAt_some
set_option linter.unusedVariables false
set_option linter.unusedSimpArgs false

set_option maxHeartbeats 1000000 in
theorem grp2_g (x y : It) (k : Sk) (s : Stp) (bf bs bg B : Nat) (w : World) (hs : SetK w w.heap.size k s) (ho : OrdF w bs bg k s) (hf : w.cell? ⟨bf, 0, none⟩ = some (ordV bs bg)) (hx : RowK w B x.A x.n x.r) (hy : RowK w B y.A y.n y.r) (h1 : has x.r s.by_ = true) (h2 : has y.r s.by_ = true) :
    Calls Tryz.prog 116 #[.agg #[.slice x.A x.n x.c, .int .i64 x.m], .agg #[.slice y.A y.n y.c, .int .i64 y.m], .pointer (some ⟨bf, 0, none⟩)] w (RetG w (.int .i64 (ordS s x.r y.r))) := by
  have hB := gb_two (w := w) (.cells #[.slice x.A x.n x.c, .int .i64 x.m] 52) (.cells #[.slice y.A y.n y.c, .int .i64 y.m] 52)
  have k1 := (Blk.new w 52 #[.slice x.A x.n x.c, .int .i64 x.m]).alloc (.cells #[.slice y.A y.n y.c, .int .i64 y.m] 52)
  have k2 := Blk.new (w.alloc (.cells #[.slice x.A x.n x.c, .int .i64 x.m] 52)) 52 #[.slice y.A y.n y.c, .int .i64 y.m]
  rw [World.size_alloc] at k2
  have hx1 := hx.below hB.b
  have hy1 := hy.below hB.b
  have hs1 := hs.up hB.b
  have ho1 := ho.below hB.b
  have hf1 := (hB.b.cell (p := ⟨bf, 0, none⟩) (World.block_lt_of_cell? _ _ hf)).trans hf
  clear hf ho hs hx hy
  go_enter Tryz.func116, Tryz.ntmps116
  go_upto_region 1 with fail
  obtain ⟨W, hW⟩ : ∃ W, (w.alloc (.cells #[.slice x.A x.n x.c, .int .i64 x.m] 52)).alloc (.cells #[.slice y.A y.n y.c, .int .i64 y.m] 52) = W := ⟨_, rfl⟩
  rw [hW] at hB k1 k2 hx1 hy1 hs1 ho1 hf1 ⊢
  clear hW
  have c1 := k1.cell 0
  have c2 := k2.cell 0
  simp at c1 c2
  have HC := hide (ord_g k s bs bg x.A x.n x.c x.r y.A y.n y.c y.r W hs1 ho1.box ho1.sg hx1.rd hy1.rd hx1.le hy1.le h1 h2)
  unfold ordV at hf1
  clear hs1 ho1 hx1 hy1
  go_wp2_with fail
  refine HC.out.mono ?_
  rintro e W1 ⟨rfl, hB1⟩
  have HB := hide (gstep hB hB1)
  clear hB hB1
  go_wp2_with fail
  go_ret
  exact ⟨rfl, HB.out⟩
/-- The first row of a group, as the comparison of groups finds it. -/
structure Fst (w : World) (g : Gp) (b off : Nat) (i : It) : Prop where
  a : g.A = some ⟨b, off, none⟩
  n : 0 < g.n
  c : w.cell? ⟨b, off, none⟩ = some (.slice i.A i.n i.c)
set_option maxRecDepth 100000 in
set_option maxHeartbeats 8000000 in
theorem grp1_g (x y : Gp) (bx ox by' oy : Nat) (i j : It) (k : Sk) (s : Stp) (bs B : Nat) (w : World) (hs : SetK w w.heap.size k s) (hb : BoxS w bs k s) (hx : Fst w x bx ox i) (hy : Fst w y by' oy j) (hi : RowK w B i.A i.n i.r) (hj : RowK w B j.A j.n j.r) (h1 : has i.r s.per = true) (h2 : has j.r s.per = true) (hxn : x.n ≤ 9223372036854775807) (hyn : y.n ≤ 9223372036854775807) :
    Calls Tryz.prog 114 #[.slice x.A x.n x.c, .slice y.A y.n y.c, .pointer (some ⟨bs, 0, none⟩)] w (RetG w (.int .i64 (cmpR (gk s i.r) (gk s j.r)))) := by
  obtain ⟨xA, xn, xc, xl⟩ := x
  obtain ⟨yA, yn, yc, yl⟩ := y
  obtain ⟨ax, nx, cx⟩ := hx
  obtain ⟨ay, ny, cy⟩ := hy
  simp only at ax nx ay ny hxn hyn ⊢
  subst ax ay
  have c0 := hb.c0
  have HK1 := hide (fun (X : World) (hX : GB w.heap.size w X) => key_any i.A i.n i.c i.r k.A k.n k.c s.per X (hi.below hX.b).rd hi.le (hs.up hX.b).p hs.np h1)
  have HK2 := hide (fun (X : World) (hX : GB w.heap.size w X) => key_any j.A j.n j.c j.r k.A k.n k.c s.per X (hj.below hX.b).rd hj.le (hs.up hX.b).p hs.np h2)
  have hnp := hs.np
  obtain ⟨cc, hcc⟩ : ∃ cc, cmpR (gk s i.r) (gk s j.r) = cc := ⟨_, rfl⟩
  rw [hcc]
  have HCC := hide hcc
  have q1 : (0 : Int) < (xn : Int) := by omega
  have q2 : (0 : Int) < (yn : Int) := by omega
  clear hcc hb hs hi hj
  go_enter Tryz.func114, Tryz.ntmps114
  go_wp2_with fail
  refine Held.begin (fun z => z.cell? ⟨bs, 0, none⟩ = some (.slice k.A k.n k.c) ∧ z.cell? ⟨bx, ox, none⟩ = some (.slice i.A i.n i.c) ∧ z.cell? ⟨by', oy, none⟩ = some (.slice j.A j.n j.c)) 100 (by kernel_rfl) ?_
  have hG : GB w.heap.size w w.drew := (GB.refl _ _).drew
  obtain ⟨X1, hX1⟩ : ∃ X1, w.drew = X1 := ⟨_, rfl⟩
  have hS : X1.cell? ⟨bs, 0, none⟩ = some (.slice k.A k.n k.c) ∧ X1.cell? ⟨bx, ox, none⟩ = some (.slice i.A i.n i.c) ∧ X1.cell? ⟨by', oy, none⟩ = some (.slice j.A j.n j.c) := by rw [← hX1]; exact ⟨c0, cx, cy⟩
  rw [hX1] at hG ⊢
  clear hX1 c0 cx cy
  refine Held.take (i := 0) (.pointer (some ⟨bs, 0, none⟩)) rfl hS (by kernel_rfl) (by kernel_rfl) (by kernel_rfl) (by kernel_rfl) (fun _ _ _ h => h) rfl (fun y hy => by obtain ⟨x1, x2, x3⟩ := hy; go_simp) ?_
  try simp only [Act.put]
  refine Held.take (i := 1) (.slice k.A k.n k.c) rfl hS (by kernel_rfl) (by kernel_rfl) (by kernel_rfl) (by kernel_rfl) (fun _ _ _ h => h) rfl (fun y hy => by obtain ⟨x1, x2, x3⟩ := hy; go_simp) ?_
  try simp only [Act.put]
  refine Held.take (i := 2) (.slice (some ⟨bx, ox, none⟩) xn xc) rfl hS (by kernel_rfl) (by kernel_rfl) (by kernel_rfl) (by kernel_rfl) (fun _ _ _ h => h) rfl (fun y hy => by obtain ⟨x1, x2, x3⟩ := hy; go_simp) ?_
  try simp only [Act.put]
  refine Held.take (i := 3) (.pointer (some ⟨bx, ox, none⟩)) rfl hS (by kernel_rfl) (by kernel_rfl) (by kernel_rfl) (by kernel_rfl) (fun _ _ _ h => h) rfl (fun y hy => by obtain ⟨x1, x2, x3⟩ := hy; go_simp) ?_
  try simp only [Act.put]
  refine Held.take (i := 4) (.pointer (some ⟨bx, ox, none⟩)) rfl hS (by kernel_rfl) (by kernel_rfl) (by kernel_rfl) (by kernel_rfl) (fun _ _ _ h => h) rfl (fun y hy => by obtain ⟨x1, x2, x3⟩ := hy; go_simp) ?_
  try simp only [Act.put]
  refine Held.take (i := 5) (.slice i.A i.n i.c) rfl hS (by kernel_rfl) (by kernel_rfl) (by kernel_rfl) (by kernel_rfl) (fun _ _ _ h => h) rfl (fun y hy => by obtain ⟨x1, x2, x3⟩ := hy; go_simp) ?_
  try simp only [Act.put]
  refine Held.take (i := 7) (.pointer (some ⟨bs, 0, none⟩)) rfl hS (by kernel_rfl) (by kernel_rfl) (by kernel_rfl) (by kernel_rfl) (fun _ _ _ h => h) rfl (fun y hy => by obtain ⟨x1, x2, x3⟩ := hy; go_simp) ?_
  try simp only [Act.put]
  refine Held.take (i := 8) (.slice k.A k.n k.c) rfl hS (by kernel_rfl) (by kernel_rfl) (by kernel_rfl) (by kernel_rfl) (fun _ _ _ h => h) rfl (fun y hy => by obtain ⟨x1, x2, x3⟩ := hy; go_simp) ?_
  try simp only [Act.put]
  refine Held.take (i := 9) (.slice (some ⟨by', oy, none⟩) yn yc) rfl hS (by kernel_rfl) (by kernel_rfl) (by kernel_rfl) (by kernel_rfl) (fun _ _ _ h => h) rfl (fun y hy => by obtain ⟨x1, x2, x3⟩ := hy; go_simp) ?_
  try simp only [Act.put]
  refine Held.take (i := 10) (.pointer (some ⟨by', oy, none⟩)) rfl hS (by kernel_rfl) (by kernel_rfl) (by kernel_rfl) (by kernel_rfl) (fun _ _ _ h => h) rfl (fun y hy => by obtain ⟨x1, x2, x3⟩ := hy; go_simp) ?_
  try simp only [Act.put]
  refine Held.take (i := 11) (.pointer (some ⟨by', oy, none⟩)) rfl hS (by kernel_rfl) (by kernel_rfl) (by kernel_rfl) (by kernel_rfl) (fun _ _ _ h => h) rfl (fun y hy => by obtain ⟨x1, x2, x3⟩ := hy; go_simp) ?_
  try simp only [Act.put]
  refine Held.take (i := 12) (.slice j.A j.n j.c) rfl hS (by kernel_rfl) (by kernel_rfl) (by kernel_rfl) (by kernel_rfl) (fun _ _ _ h => h) rfl (fun y hy => by obtain ⟨x1, x2, x3⟩ := hy; go_simp) ?_
  try simp only [Act.put]
  refine Held.one (i := 6) rfl (by kernel_rfl) rfl (fun K hK => ?_)
  unfold Oper.wp
  go_simp
  refine (HK1.out X1 hG).mono ?_
  rintro e X2 ⟨Ap, cp, rfl, hrd1, hB2⟩
  have hG2 := gstep hG hB2
  have hS2 : X2.cell? ⟨bs, 0, none⟩ = some (.slice k.A k.n k.c) ∧ X2.cell? ⟨bx, ox, none⟩ = some (.slice i.A i.n i.c) ∧ X2.cell? ⟨by', oy, none⟩ = some (.slice j.A j.n j.c) := ⟨(hB2.b.cell (World.block_lt_of_cell? _ _ hS.1)).trans hS.1, (hB2.b.cell (World.block_lt_of_cell? _ _ hS.2.1)).trans hS.2.1, (hB2.b.cell (World.block_lt_of_cell? _ _ hS.2.2)).trans hS.2.2⟩
  refine hK _ _ (fun _ => hS2) ?_
  try simp only [Act.put]
  clear hK K hS hB2 hG
  refine Held.one (i := 13) rfl (by kernel_rfl) rfl (fun K hK => ?_)
  unfold Oper.wp
  go_simp
  refine (HK2.out X2 hG2).mono ?_
  rintro e X3 ⟨Aq, cq, rfl, hrd2, hB3⟩
  have hG3 := gstep hG2 hB3
  have hrd1 := hrd1.up hB3.b
  have hS3 : X3.cell? ⟨bs, 0, none⟩ = some (.slice k.A k.n k.c) ∧ X3.cell? ⟨bx, ox, none⟩ = some (.slice i.A i.n i.c) ∧ X3.cell? ⟨by', oy, none⟩ = some (.slice j.A j.n j.c) := ⟨(hB3.b.cell (World.block_lt_of_cell? _ _ hS2.1)).trans hS2.1, (hB3.b.cell (World.block_lt_of_cell? _ _ hS2.2.1)).trans hS2.2.1, (hB3.b.cell (World.block_lt_of_cell? _ _ hS2.2.2)).trans hS2.2.2⟩
  refine hK _ _ (fun _ => hS3) ?_
  try simp only [Act.put]
  clear hK K hS2 hB3 hG2 HK1 HK2
  have HCM := hide (Compare_g Ap k.n cp (pick i.r s.per) Aq k.n cq (pick j.r s.per) X3 hrd1 hrd2 (by omega))
  have hcc2 : cmpR (pick i.r s.per) (pick j.r s.per) = cc := HCC.out
  rw [hcc2] at HCM
  refine Held.one (i := 14) rfl (by kernel_rfl) rfl (fun K hK => ?_)
  unfold Oper.wp
  go_simp
  refine HCM.out.mono ?_
  rintro e X4 ⟨rfl, hB4⟩
  have hG4 := gstep hG3 hB4
  have hS : X4.cell? ⟨bs, 0, none⟩ = some (.slice k.A k.n k.c) ∧ X4.cell? ⟨bx, ox, none⟩ = some (.slice i.A i.n i.c) ∧ X4.cell? ⟨by', oy, none⟩ = some (.slice j.A j.n j.c) := ⟨(hB4.b.cell (World.block_lt_of_cell? _ _ hS3.1)).trans hS3.1, (hB4.b.cell (World.block_lt_of_cell? _ _ hS3.2.1)).trans hS3.2.1, (hB4.b.cell (World.block_lt_of_cell? _ _ hS3.2.2)).trans hS3.2.2⟩
  refine hK _ _ (fun _ => hS) ?_
  try simp only [Act.put]
  clear hK K hS3 hB4 hG3 hrd1 hrd2 HCM
  refine Held.one (i := 15) rfl (by kernel_rfl) rfl (fun K hK => ?_)
  unfold Oper.wp
  go_simp
  refine hK _ _ (fun _ => hS) ?_
  try simp only [Act.put]
  clear hK K
  refine Held.done (by kernel_rfl) ?_
  go_wp2
  go_ret
  exact ⟨rfl, hG4⟩
/-- What rank.done answers. -/
def doneB (l : Bg) : Bg × Int := if okBag l then (l, 0) else ([], 4)
/-- What rank.done leaves. -/
def RetDone (w : World) (B : Nat) (v : Value) (l : List It) (e : Ending) (w' : World) : Prop := ∃ d : Bg, d.Perm (dat l) ∧ d.Pairwise (fun x y => ¬ cmpR y.1 x.1 < 0) ∧ (∃ (A : Option Addr) (n c : Nat) (l' : List It), e = .returned (.tuple #[.slice A n c, .int .i64 (doneB d).2]) ∧ dat l' = (doneB d).1 ∧ BagR w' B A n l' ∧ n ≤ c) ∧ Bar w.heap.size (obl v) w w'
theorem done_any (base n B : Nat) (v : Value) (l : List It) (w : World) (h : w.ownsRow base 52 2 v n (l.flatMap encIt)) (hn : n ≤ 100000) (hr : Rows_ w B l) (hB : B ≤ base) :
    Calls Tryz.prog 54 #[v] w (RetDone w B v l) := by
  have HS := hide (SortV base n B v l w h hn hr hB 117 #[] (enters_of Tryz.func117 (by kernel_rfl) rfl) (fun x y => cmpR x.r y.r) (swo_tot (Tot.row.comap It.r)) (fun x y W _ _ h1 h2 _ => done1_any x y B W h1 h2))
  have h0 := h.1
  clear h hr
  go_enter Tryz.func54, Tryz.ntmps54
  go_wp2_with fail
  refine HS.out.mono ?_
  rintro e W1 ⟨rfl, l', A, n1, c, rfl, hnc, hpm, hpw, hrd, hrows, hbar⟩
  clear HS
  have hl1 : l'.length = n1 := hrd.len encIt_len (by omega)
  have hl2 : l.length = n := by
    have := h0
    rw [flat_length encIt_len] at this
    omega
  have hl3 := hpm.length_eq
  have hbag : BagR W1 B A n1 l' := ⟨hrd, hrows, by omega⟩
  have HD1 := hide (show (dat l').Perm (dat l) from hpm.map _)
  have HD2 := hide (show (dat l').Pairwise (fun x y => ¬ cmpR y.1 x.1 < 0) from by
    unfold dat
    rw [List.pairwise_map]
    exact hpw)
  have HV := hide (BagValid_any A n1 c B l' W1 hbag)
  obtain ⟨d, hd⟩ : ∃ d, dat l' = d := ⟨_, rfl⟩
  rw [hd] at HV HD1 HD2
  clear hpm hpw hrd hrows
  cases ho : okBag d
  · rw [ho] at HV
    have HE := hide (show doneB d = ([], 4) by unfold doneB; rw [ho]; rfl)
    go_wp2_with fail
    refine HV.out.mono ?_
    rintro e W2 ⟨rfl, hB2⟩
    have HR := hide (hbar.trans (Bar.of_below (hB2.mono hbar.size) _))
    clear hbar hB2 HV hbag
    go_wp2
    go_ret2
    refine ⟨d, HD1.out, HD2.out.imp (fun h => by omega), ?_, HR.out⟩
    rw [HE.out]
    exact ⟨none, 0, 0, [], rfl, rfl, BagR.nil _ _, Nat.le_refl _⟩
  · rw [ho] at HV
    have HE := hide (show doneB d = (d, 0) by unfold doneB; rw [ho]; rfl)
    go_wp2_with fail
    refine HV.out.mono ?_
    rintro e W2 ⟨rfl, hB2⟩
    have HR := hide (hbar.trans (Bar.of_below (hB2.mono hbar.size) _))
    have HG := hide (hbag.below hB2)
    clear hbar hB2 HV hbag
    go_wp2
    go_ret2
    refine ⟨d, HD1.out, HD2.out.imp (fun h => by omega), ?_, HR.out⟩
    rw [HE.out]
    exact ⟨A, n1, c, l', rfl, hd, HG.out, hnc⟩
end

section
open Go.RowKit Go.Deep

theorem own_block {w w' : World} {base : Nat} {e : TypeId} {size n : Nat} {v : Value} {xs : List Value} (h : w.ownsRow base e size v n xs) (hk : ∀ g, v.ownBlock = some g → w'.heap[g]? = w.heap[g]?) : w'.ownsRow base e size v n xs := by
  refine ⟨h.1, ?_⟩
  rcases h.2 with h1 | ⟨g, cap, cur, rfl, h2, h3, h4⟩
  · exact .inl h1
  · exact .inr ⟨g, cap, cur, rfl, h2, (hk g rfl).trans h3, h4⟩

/-- Block b holds N slices 'V p', each owning a row of 'L p' elements with the cells 'G p'; no two lie in one block, none in b. -/
structure Grid (w : World) (base b : Nat) (te e : TypeId) (sz N : Nat) (V : Nat → Value) (L : Nat → Nat) (G : Nat → List Value) : Prop where
  low : base ≤ b
  top : w.rowIs b te N V
  row : ∀ p, p < N → w.ownsRow base e sz (V p) (L p) (G p)
  away : ∀ p, p < N → (V p).ownBlock ≠ some b
  apart : ∀ p q, p < N → q < N → p ≠ q → (V p).ownBlock = none ∨ (V p).ownBlock ≠ (V q).ownBlock

section
variable {w w' : World} {base b sz N : Nat} {te e : TypeId} {V V' : Nat → Value} {L L' : Nat → Nat} {G G' : Nat → List Value}

theorem Grid.cell (h : Grid w base b te e sz N V L G) {p : Nat} (hp : p < N) : w.cell? ⟨b, p, none⟩ = some (V p) := h.top.cell hp
theorem Grid.frozen (h : Grid w base b te e sz N V L G) (p : Nat) : w.frozen? ⟨b, p, none⟩ = false := h.top.frozen p
theorem Grid.drewN (h : Grid w base b te e sz N V L G) (n : Nat) : Grid (w.drewN n) base b te e sz N V L G := ⟨h.low, h.top, h.row, h.away, h.apart⟩
theorem Grid.drew (h : Grid w base b te e sz N V L G) : Grid w.drew base b te e sz N V L G := ⟨h.low, h.top, h.row, h.away, h.apart⟩
theorem Grid.lt (h : Grid w base b te e sz N V L G) : b < w.heap.size := h.top.lt
theorem Grid.made (w : World) (te e : TypeId) (sz N : Nat) (hb : base ≤ w.heap.size) :
    Grid (w.alloc (.cells (madeCells #[.slice none 0 0] N) te)) base w.heap.size te e sz N (fun _ => .slice none 0 0) (fun _ => 0) (fun _ => []) :=
  ⟨hb, World.rowIs_made w _ N te, fun _ _ => World.ownsRow_nil _ _ _ _, fun _ _ => by simp [Value.ownBlock], fun _ _ _ _ _ => .inl rfl⟩
/-- A world that keeps all blocks that were there. -/
theorem Grid.kept (h : Grid w base b te e sz N V L G) (hk : ∀ g, g < w.heap.size → w'.heap[g]? = w.heap[g]?) : Grid w' base b te e sz N V L G :=
  ⟨h.low, h.top.of_block (hk _ h.lt), fun p hp => own_block (h.row p hp) fun g hg => hk g ((h.row p hp).lt g hg).2, h.away, h.apart⟩
theorem Grid.alloc (h : Grid w base b te e sz N V L G) (o : Obj) : Grid (w.alloc o) base b te e sz N V L G := h.kept fun _ hg => blk_alloc_lt _ _ _ hg
theorem Grid.below (h : Grid w base b te e sz N V L G) (hb : Below w.heap.size w w') : Grid w' base b te e sz N V L G := h.kept fun g hg => hb.block g hg
theorem Grid.congr (h : Grid w base b te e sz N V L G) (hL : ∀ p, p < N → L p = L' p) (hG : ∀ p, p < N → G p = G' p) : Grid w base b te e sz N V L' G' :=
  ⟨h.low, h.top, fun p hp => by rw [← hL p hp, ← hG p hp]; exact h.row p hp, h.away, h.apart⟩

/-- Row p grows: an append to it, and the store of what comes back. -/
theorem Grid.step (h : Grid w base b te e sz N V L G) {p m : Nat} {news : List Value} {v' : Value} (hp : p < N) (hown : w'.ownsRow base e sz v' (L p + m) (G p ++ news)) (hg : w.grownBy w' (V p).ownBlock)
    (hat : v'.ownBlock = (V p).ownBlock ∨ v'.ownBlock = some w.heap.size) :
    Grid (w'.setCell ⟨b, p, none⟩ v') base b te e sz N (fun j => if j = p then v' else V j) (fun j => if j = p then L j + m else L j) (fun j => if j = p then G j ++ news else G j) := by
  have hbl := h.lt
  have hb : w'.heap[b]? = w.heap[b]? := hg.block b hbl (fun e => h.away p hp e.symm)
  have hvb : v'.ownBlock ≠ some b := by
    rcases hat with e | e
    · rw [e]; exact h.away p hp
    · rw [e]; intro e'; injection e' with e'; omega
  have keep : ∀ q, q < N → q ≠ p → ∀ g, (V q).ownBlock = some g → (w'.setCell ⟨b, p, none⟩ v').heap[g]? = w.heap[g]? := by
    intro q hq hne g hgq
    have h1 : g ≠ b := fun e => h.away q hq (by rw [hgq, e])
    rw [blk_setCell_other _ _ _ _ h1]
    refine hg.block g ((h.row q hq).lt g hgq).2 fun e => ?_
    rcases h.apart q p hq hp hne with h2 | h2
    · rw [hgq] at h2; cases h2
    · exact h2 (by rw [hgq, e])
  have sep : ∀ q, q < N → q ≠ p → (V q).ownBlock = none ∨ (V q).ownBlock ≠ v'.ownBlock := by
    intro q hq hne
    rcases hat with e | e
    · rw [e]; exact h.apart q p hq hp hne
    · cases hv : (V q).ownBlock with
      | none => exact .inl rfl
      | some g => right; rw [e]; intro e'; injection e' with e'; have := ((h.row q hq).lt g hv).2; omega
  refine ⟨h.low, (h.top.of_block hb).set p v', fun q hq => ?_, fun q hq => ?_, fun q r hq hr hne => ?_⟩
  · by_cases e : q = p
    · subst e
      simp only [if_true]
      refine own_block hown fun g hg' => blk_setCell_other _ _ _ _ (fun e' => hvb (by rw [hg']; exact congrArg some e'))
    · simp only [if_neg e]
      exact own_block (h.row q hq) (keep q hq e)
  · by_cases e : q = p
    · subst e; simpa using hvb
    · simpa [if_neg e] using h.away q hq
  · by_cases e : q = p
    · subst e
      have hrq : ¬ r = q := fun h => hne h.symm
      simp only [if_true, if_neg hrq]
      rcases sep r hr (fun h => hne h.symm) with h1 | h1
      · cases hv : v'.ownBlock with
        | none => exact .inl rfl
        | some g => right; rw [h1]; simp
      · exact .inr fun e => h1 e.symm
    · by_cases e2 : r = p
      · subst e2
        simp only [if_true, if_neg e]
        exact sep q hq e
      · simp only [if_neg e, if_neg e2]
        exact h.apart q r hq hr hne

/-- The step keeps what lay below. -/
theorem Grid.step_below (h : Grid w base b te e sz N V L G) {B p : Nat} {a : World} {v' : Value} (hp : p < N) (hg : w.grownBy w' (V p).ownBlock) (hB : Below B a w) (hbase : B ≤ base) :
    Below B a (w'.setCell ⟨b, p, none⟩ v') := by
  have hb := h.low
  have hlt := h.lt
  refine (hB.grown hg (by omega) fun k hk => ?_).setCell (by show B ≤ b; omega) _
  have := ((h.row p hp).lt k hk).1
  omega
end
end

section
open Go.RowKit
set_option linter.unusedVariables false

def Gp.v (g : Gp) : Value := .slice g.A g.n g.c
/-- The groups so far: v holds them; each owns its row; no two rows lie in one block. -/
structure GlI (N B : Nat) (gl : List Gp) (v : Value) (W : World) : Prop where
  own : W.ownsRow N 26 1 v gl.length (gl.flatMap encGp)
  row : ∀ g ∈ gl, W.ownsRow N 52 2 g.v g.n (g.l.flatMap encIt)
  rows : ∀ g ∈ gl, Rows_ W B g.l
  apart : gl.Pairwise fun g h => g.v.ownBlock = none ∨ g.v.ownBlock ≠ h.v.ownBlock
theorem GlI.nil (N B : Nat) (W : World) : GlI N B [] (.slice none 0 0) W := ⟨World.ownsRow_nil _ _ _ _, nofun, nofun, List.Pairwise.nil⟩
theorem GlI.below {N B : Nat} {gl : List Gp} {v : Value} {W W' : World} (h : GlI N B gl v W) (hb : Below W.heap.size W W') : GlI N B gl v W' := ⟨own_below h.own hb, fun g hg => own_below (h.row g hg) hb, fun g hg => (h.rows g hg).below hb, h.apart⟩
theorem own_types {W : World} {N N' : Nat} {e e' : TypeId} {sz sz' n n' : Nat} {v v' : Value} {xs ys : List Value} (h : W.ownsRow N e sz v n xs) (h' : W.ownsRow N' e' sz' v' n' ys) (hne : e ≠ e') {b : Nat} (hb : v.ownBlock = some b) : v'.ownBlock ≠ some b := fun hb' => by
  obtain ⟨c, fz, h1⟩ := own_cells h hb
  obtain ⟨c', fz', h2⟩ := own_cells h' hb'
  rw [h1] at h2
  injection h2 with h2
  injection h2 with _ h3
  exact hne h3
theorem Rows_.grown {w w' : World} {B base : Nat} {l : List It} {e : TypeId} {size k : Nat} {v : Value} {xs : List Value} (h : Rows_ w B l) (hown : w.ownsRow base e size v k xs) (he : e ≠ 68) (hB : B ≤ base) (hg : w.grownBy w' v.ownBlock) : Rows_ w' B l := fun i hi => (h i hi).grown hown he hB hg
/-- One group more, empty. -/
theorem GlI.push {N B : Nat} {gl : List Gp} {v v' : Value} {W W' : World} (h : GlI N B gl v W) (hBN : B ≤ N) (hN : N ≤ W.heap.size) (hown : W'.ownsRow N 26 1 v' (gl.length + 1) (gl.flatMap encGp ++ [.slice none 0 0])) (hg : W.grownBy W' v.ownBlock) : GlI N B (gl ++ [⟨none, 0, 0, []⟩]) v' W' := by
  have hkeep : ∀ g ∈ gl, ∀ b, g.v.ownBlock = some b → W'.heap[b]? = W.heap[b]? := fun g hgm b hb => by
    refine hg.block b ((h.row g hgm).lt b hb).2 fun e => ?_
    exact own_types (h.row g hgm) h.own (by decide) hb e.symm
  refine ⟨?_, fun g hgm => ?_, fun g hgm => ?_, ?_⟩
  · rw [List.length_append, List.flatMap_append]
    exact hown
  · rcases List.mem_append.1 hgm with hgm | hgm
    · exact own_block (h.row g hgm) (hkeep g hgm)
    · obtain rfl := List.mem_singleton.1 hgm
      exact World.ownsRow_nil _ _ _ _
  · rcases List.mem_append.1 hgm with hgm | hgm
    · exact (h.rows g hgm).grown h.own (by decide) hBN hg
    · obtain rfl := List.mem_singleton.1 hgm
      exact nofun
  · rw [List.pairwise_append]
    refine ⟨h.apart, List.pairwise_singleton _ _, fun g hgm k hk => ?_⟩
    obtain rfl := List.mem_singleton.1 hk
    cases hb : g.v.ownBlock with
    | none => exact .inl rfl
    | some b => exact .inr (by simp [Gp.v, Value.ownBlock])
theorem flat_setG {gl : List Gp} {i : Nat} {g : Gp} (hi : i < gl.length) : (gl.set i g).flatMap encGp = (gl.flatMap encGp).set i g.v := by
  induction gl generalizing i with
  | nil => simp at hi
  | cons x gl ih =>
    cases i with
    | zero => rfl
    | succ i =>
      have := ih (i := i) (by simpa using hi)
      simp only [List.set_cons_succ, List.flatMap_cons, this]
      rfl
/-- An item more in one group. -/
theorem GlI.step {N B : Nat} {gl : List Gp} {b n c i : Nat} {W W' : World} {g : Gp} {x : It} {A1 : Option Addr} {c1 : Nat} (h : GlI N B gl (.slice (some ⟨b, 0, none⟩) n c) W) (hBN : B ≤ N) (hn : gl.length = n) (hN : N ≤ W.heap.size) (hi : gl[i]? = some g)
    (hx : RowK W B x.A x.n x.r) (hown : W'.ownsRow N 52 2 (.slice A1 (g.n + 1) c1) (g.n + 1) (g.l.flatMap encIt ++ encIt x)) (hg : W.grownBy W' g.v.ownBlock) (hat : (Value.slice A1 (g.n + 1) c1).ownBlock = g.v.ownBlock ∨ (Value.slice A1 (g.n + 1) c1).ownBlock = some W.heap.size) :
    GlI N B (gl.set i ⟨A1, g.n + 1, c1, g.l ++ [x]⟩) (.slice (some ⟨b, 0, none⟩) n c) (W'.setCell ⟨b, i, none⟩ (.slice A1 (g.n + 1) c1)) := by
  obtain ⟨hlt, hge⟩ := List.getElem?_eq_some_iff.1 hi
  have hgm : g ∈ gl := List.mem_of_getElem? hi
  have hb : b < W.heap.size := (h.own.lt b rfl).2
  have hNb : N ≤ b := (h.own.lt b rfl).1
  have hgb : g.v.ownBlock ≠ some b := own_types (b := b) h.own (h.row g hgm) (by decide) rfl
  have hblk : W'.heap[b]? = W.heap[b]? := hg.block b hb fun e => hgb e.symm
  have hown2 := own_block h.own (w' := W') fun k hk => by
    obtain rfl : b = k := by simpa [Value.ownBlock] using hk
    exact hblk
  obtain ⟨cc, fz, hcells⟩ := own_cells hown2 (g := b) rfl
  have hvb : (Value.slice A1 (g.n + 1) c1).ownBlock ≠ some b := by
    rcases hat with e | e
    · rw [e]; exact hgb
    · rw [e]; intro e'; injection e' with e'; omega
  have hother : ∀ k ∈ gl, k.v.ownBlock ≠ some b := fun k hk => own_types (b := b) h.own (h.row k hk) (by decide) rfl
  have happ : ∀ j k, gl[j]? = some k → j ≠ i → k.v.ownBlock = none ∨ k.v.ownBlock ≠ g.v.ownBlock := fun j k hj hne => by
    obtain ⟨jl, je⟩ := List.getElem?_eq_some_iff.1 hj
    rcases Nat.lt_or_gt_of_ne hne with hji | hji
    · have := List.pairwise_iff_getElem.1 h.apart j i jl hlt hji
      rw [je, hge] at this
      exact this
    · have := List.pairwise_iff_getElem.1 h.apart i j hlt jl hji
      rw [je, hge] at this
      rcases this with e | e
      · cases hk : k.v.ownBlock with
        | none => exact .inl rfl
        | some q => exact .inr (by rw [e]; simp)
      · exact .inr fun e' => e e'.symm
  have hkeep : ∀ j k, gl[j]? = some k → j ≠ i → ∀ q, k.v.ownBlock = some q → (W'.setCell ⟨b, i, none⟩ (.slice A1 (g.n + 1) c1)).heap[q]? = W.heap[q]? := fun j k hj hne q hq => by
    have hkm := List.mem_of_getElem? hj
    have hqb : q ≠ b := fun e => hother k hkm (by rw [hq, e])
    rw [Below.heap_setCell _ _ _ _ hqb]
    refine hg.block q ((h.row k hkm).lt q hq).2 fun e => ?_
    rcases happ j k hj hne with h2 | h2
    · rw [hq] at h2; cases h2
    · exact h2 (by rw [hq, e])
  have hsep : ∀ j k, gl[j]? = some k → j ≠ i → k.v.ownBlock = none ∨ k.v.ownBlock ≠ (Value.slice A1 (g.n + 1) c1).ownBlock := fun j k hj hne => by
    rcases hat with e | e
    · rw [e]; exact happ j k hj hne
    · cases hk : k.v.ownBlock with
      | none => exact .inl rfl
      | some q =>
        right
        rw [e]
        intro e'
        injection e' with e'
        have := ((h.row k (List.mem_of_getElem? hj)).lt q hk).2
        omega
  have hrows : ∀ l : List It, Rows_ W B l → Rows_ (W'.setCell ⟨b, i, none⟩ (.slice A1 (g.n + 1) c1)) B l := fun l hl z hz =>
    ((hl z hz).grown (h.row g hgm) (by decide) hBN hg).setCell (p := ⟨b, i, none⟩) hcells (by decide) (Nat.le_trans hBN hNb) _
  refine ⟨?_, fun k hk => ?_, fun k hk => ?_, ?_⟩
  · rw [List.length_set, flat_setG hlt, hn]
    rw [hn] at hown2
    exact own_store2 hown2 _
  · obtain ⟨j, hj⟩ := List.getElem?_of_mem hk
    rw [List.getElem?_set] at hj
    split at hj
    · · injection hj with hj
        subst hj
        show (W'.setCell ⟨b, i, none⟩ _).ownsRow N 52 2 (.slice A1 (g.n + 1) c1) (g.n + 1) ((g.l ++ [x]).flatMap encIt)
        rw [List.flatMap_append]
        refine own_block (by simpa using hown) fun q hq => Below.heap_setCell _ _ _ _ fun e => hvb (by rw [hq, e])
    · rename_i hne
      exact own_block (h.row k (List.mem_of_getElem? hj)) (hkeep j k hj fun e => hne e.symm)
  · obtain ⟨j, hj⟩ := List.getElem?_of_mem hk
    rw [List.getElem?_set] at hj
    split at hj
    · · injection hj with hj
        subst hj
        refine hrows _ fun z hz => ?_
        rcases List.mem_append.1 hz with hz | hz
        · exact h.rows g hgm z hz
        · obtain rfl := List.mem_singleton.1 hz
          exact hx
    · exact hrows _ (h.rows k (List.mem_of_getElem? hj))
  · rw [List.pairwise_iff_getElem]
    intro j k hj hk hjk
    have hj' : j < gl.length := by simpa using hj
    have hk' : k < gl.length := by simpa using hk
    rw [List.getElem_set, List.getElem_set]
    by_cases e1 : i = j
    · have e2 : ¬ i = k := by omega
      rw [if_pos e1, if_neg e2]
      rcases hsep k gl[k] (List.getElem?_eq_getElem hk') (fun e => e2 e.symm) with h3 | h3
      · cases hq : (Value.slice A1 (g.n + 1) c1).ownBlock with
        | none => exact .inl hq
        | some q =>
          right
          show (Value.slice A1 (g.n + 1) c1).ownBlock ≠ gl[k].v.ownBlock
          rw [h3, hq]
          simp
      · exact .inr fun e => h3 e.symm
    · rw [if_neg e1]
      by_cases e2 : i = k
      · rw [if_pos e2]
        exact hsep j gl[j] (List.getElem?_eq_getElem hj') (fun e => e1 e.symm)
      · rw [if_neg e2]
        have := List.pairwise_iff_getElem.1 h.apart j k hj' hk' hjk
        exact this
/-- A map below is written. -/
theorem GlI.mapped {N B m : Nat} {gl : List Gp} {v : Value} {W W' : World} (h : GlI N B gl v W) (hm : m < N) (hBm : B ≤ m) (hg : W.grownBy W' (some m)) (ho : ∃ o : Obj, W.heap[m]? = some o ∧ o.isCells = false) : GlI N B gl v W' := by
  have hk : ∀ {e : TypeId} {sz n : Nat} {u : Value} {xs : List Value}, W.ownsRow N e sz u n xs → W'.ownsRow N e sz u n xs := fun {e sz n u xs} hu => own_block hu fun q hq => by
    have := hu.lt q hq
    exact hg.block q this.2 fun e => by injection e with e; omega
  exact ⟨hk h.own, fun g hgm => hk (h.row g hgm), fun g hgm i hi => (h.rows g hgm i hi).others hg fun k e => by cases e; exact ⟨hBm, ho⟩, h.apart⟩
end

section
open Go.RowKit
set_option linter.unusedVariables false

/-- The first row of a group, in a world where the list of groups alone may be turned. -/
theorem GlI.fst {N B : Nat} {gl : List Gp} {v : Value} {W W' : World} (h : GlI N B gl v W) (hb : Bar W.heap.size (obl v) W W') {g : Gp} (hg : g ∈ gl) (hBN : B ≤ N) (hne : g.l ≠ []) :
    ∃ bx ox i, i ∈ g.l ∧ g.l.head? = some i ∧ Fst W' g bx ox i ∧ RowK W' B i.A i.n i.r := by
  have hrow := h.row g hg
  have hob : ∀ q, g.v.ownBlock = some q → q ∉ obl v := fun q hq hm => by
    cases hv : v.ownBlock with
    | none => unfold obl at hm; rw [hv] at hm; cases hm
    | some r =>
      unfold obl at hm
      rw [hv] at hm
      obtain rfl : q = r := by simpa using hm
      exact own_types h.own hrow (by decide) hv hq
  have hrow' := own_block hrow (w' := W') fun q hq => hb.block q (hrow.lt q hq).2 (hob q hq)
  obtain ⟨i, r, e⟩ : ∃ i r, g.l = i :: r := by
    cases hl : g.l with
    | nil => exact absurd hl hne
    | cons i r => exact ⟨i, r, rfl⟩
  have hlen := hrow.1
  rw [flat_length encIt_len, e, List.length_cons] at hlen
  have hn : 0 < g.n := by omega
  obtain ⟨q, cap, hv, _, hlt⟩ := hrow'.form hn
  have hc := hrow'.cells (g := q) (by rw [hv]; rfl) 0 (.slice i.A i.n i.c) (by rw [e]; rfl)
  have hA : g.A = some ⟨q, 0, none⟩ := by unfold Gp.v at hv; injection hv
  refine ⟨q, 0, i, by rw [e]; exact List.mem_cons_self, by rw [e]; rfl, ⟨hA, hn, by simpa [Addr.add] using hc⟩, ?_⟩
  have hri := h.rows g hg i (by rw [e]; exact List.mem_cons_self)
  refine hri.keep (p := fun k => k ∈ obl v) (fun k hk hp => hb.block k hk hp) hb.size fun k hk => ?_
  cases hv2 : v.ownBlock with
  | none => unfold obl at hk; rw [hv2] at hk; cases hk
  | some r =>
    unfold obl at hk
    rw [hv2] at hk
    obtain rfl : k = r := by simpa using hk
    refine ⟨Nat.le_trans hBN (h.own.lt k hv2).1, fun c fz hc2 => ?_⟩
    obtain ⟨c', fz', h'⟩ := own_cells h.own hv2
    rw [h'] at hc2
    injection hc2 with hc2
    injection hc2 with _ h3
    exact absurd h3 (by decide)
end

section
open Go.RowKit
set_option linter.unusedVariables false

theorem obl_mem {v : Value} {q : Nat} (h : q ∈ obl v) : v.ownBlock = some q := by
  unfold obl at h
  cases hv : v.ownBlock with
  | none => rw [hv] at h; cases h
  | some r => rw [hv] at h; exact congrArg some (by simpa using h : q = r).symm
theorem mem_obl {v : Value} {q : Nat} (h : v.ownBlock = some q) : q ∈ obl v := by unfold obl; rw [h]; simp
/-- Blocks of items or of bags, none below B. -/
def OffX (W : World) (B : Nat) (X : List Nat) : Prop := ∀ k ∈ X, B ≤ k ∧ ∀ c fz, W.heap[k]? ≠ some (.cells c 68 fz)
theorem OffX.own {W : World} {N B : Nat} {e : TypeId} {sz n : Nat} {v : Value} {xs : List Value} (h : W.ownsRow N e sz v n xs) (he : e ≠ 68) (hB : B ≤ N) : OffX W B (obl v) := fun k hk => by
  have hk := obl_mem hk
  refine ⟨Nat.le_trans hB (h.lt k hk).1, fun c fz hc => ?_⟩
  obtain ⟨c', fz', h'⟩ := own_cells h hk
  rw [h'] at hc
  injection hc with hc
  injection hc with _ h2
  exact he h2
theorem RowK.bar {W W' : World} {B n : Nat} {A : Option Addr} {r : Rw} {X : List Nat} (h : RowK W B A n r) (hb : Bar W.heap.size X W W') (hx : OffX W B X) : RowK W' B A n r :=
  h.keep (p := fun k => k ∈ X) (fun k hk hp => hb.block k hk hp) hb.size hx
theorem Rows_.bar {W W' : World} {B : Nat} {l : List It} {X : List Nat} (h : Rows_ W B l) (hb : Bar W.heap.size X W W') (hx : OffX W B X) : Rows_ W' B l := fun i hi => (h i hi).bar hb hx
theorem own_bar {W W' : World} {N : Nat} {e : TypeId} {sz n : Nat} {v : Value} {xs : List Value} {X : List Nat} (h : W.ownsRow N e sz v n xs) (hb : Bar W.heap.size X W W') (hx : ∀ q, v.ownBlock = some q → q ∉ X) : W'.ownsRow N e sz v n xs :=
  own_block h fun q hq => hb.block q (h.lt q hq).2 (hx q hq)
theorem Reads.bar {W W' : World} {sz n : Nat} {A : Option Addr} {xs : List Value} {X : List Nat} (h : Reads W W.heap.size sz A n xs) (hb : Bar W.heap.size X W W') (hx : 0 < n → ∀ b o, A = some ⟨b, o, none⟩ → b ∉ X) : Reads W' W'.heap.size sz A n xs := by
  refine ⟨h.1, fun h0 => ?_⟩
  obtain ⟨b, off, e, hlt, hc⟩ := h.2 h0
  refine ⟨b, off, e, by have := hb.size; omega, fun j u hu => ?_⟩
  rw [World.cell?_of_block (hb.block b hlt (hx h0 b off e))]
  exact hc j u hu
/-- The list reads; each group owns its row; the groups lie apart. -/
structure GlS (N B : Nat) (gl : List Gp) (A : Option Addr) (n : Nat) (W : World) : Prop where
  rd : Reads W W.heap.size 1 A n (gl.flatMap encGp)
  off : 0 < n → ∀ b o, A = some ⟨b, o, none⟩ → ∀ g ∈ gl, g.v.ownBlock ≠ some b
  row : ∀ g ∈ gl, W.ownsRow N 52 2 g.v g.n (g.l.flatMap encIt)
  rows : ∀ g ∈ gl, Rows_ W B g.l
  apart : gl.Pairwise fun g h => g.v.ownBlock = none ∨ g.v.ownBlock ≠ h.v.ownBlock
theorem GlI.sorted {N B n c : Nat} {gl gl' : List Gp} {A : Option Addr} {W W' : World} (h : GlI N B gl (.slice A n c) W) (hBN : B ≤ N) (hp : gl'.Perm gl) (hrd : Reads W' W'.heap.size 1 A n (gl'.flatMap encGp)) (hb : Bar W.heap.size (obl (.slice A n c)) W W') : GlS N B gl' A n W' := by
  have hne : ∀ g ∈ gl, ∀ q, g.v.ownBlock = some q → q ∉ obl (.slice A n c) := fun g hg q hq hm => own_types h.own (h.row g hg) (by decide) (obl_mem hm) hq
  refine ⟨hrd, fun h0 b o e g hg hq => ?_, fun g hg => ?_, fun g hg => ?_, ?_⟩
  · have hl : 0 < gl.length := by
      have := hrd.1
      rw [flat_length encGp_len] at this
      have := hp.length_eq
      omega
    obtain ⟨q, cap, hv, _⟩ := h.own.form hl
    injection hv with e1 _ _
    rw [e1] at e
    injection e with e
    injection e with e2
    refine hne g (hp.mem_iff.1 hg) b hq ?_
    rw [e1, ← e2]
    exact mem_obl rfl
  · have hg := hp.mem_iff.1 hg
    exact own_bar (h.row g hg) hb (hne g hg)
  · exact (h.rows g (hp.mem_iff.1 hg)).bar hb (OffX.own h.own (by decide) hBN)
  · refine (hp.pairwise_iff fun {g k} hgk => ?_).2 h.apart
    rcases hgk with e | e
    · cases hk : k.v.ownBlock with
      | none => exact .inl rfl
      | some q => exact .inr (by rw [e]; simp)
    · exact .inr fun e' => e e'.symm
theorem GlS.below {N B n : Nat} {gl : List Gp} {A : Option Addr} {W W' : World} (h : GlS N B gl A n W) (hb : Below W.heap.size W W') : GlS N B gl A n W' :=
  ⟨h.rd.up hb, h.off, fun g hg => own_below (h.row g hg) hb, fun g hg => (h.rows g hg).below hb, h.apart⟩
/-- The blocks of the first m groups. -/
def gX (gl : List Gp) (m : Nat) : List Nat := (gl.take m).flatMap fun g => obl g.v
theorem gX_mem {gl : List Gp} {m k : Nat} (h : k ∈ gX gl m) : ∃ i g, i < m ∧ gl[i]? = some g ∧ g.v.ownBlock = some k := by
  obtain ⟨g, hg, hk⟩ := List.mem_flatMap.1 h
  obtain ⟨i, hi⟩ := List.getElem?_of_mem hg
  rw [List.getElem?_take] at hi
  split at hi
  · exact ⟨i, g, by assumption, hi, obl_mem hk⟩
  · cases hi
theorem gX_succ {gl : List Gp} {m : Nat} {g : Gp} (h : gl[m]? = some g) : gX gl (m + 1) = gX gl m ++ obl g.v := by
  unfold gX
  rw [take_snoc' h, List.flatMap_append]
  simp
/-- The first m groups are sorted. -/
structure GsI (s : Stp) (B : Nat) (gl gl2 : List Gp) (m : Nat) (W0 W : World) : Prop where
  len : gl2.length = gl.length
  hd : ∀ (i : Nat) (g g2 : Gp), gl[i]? = some g → gl2[i]? = some g2 → g2.A = g.A ∧ g2.n = g.n ∧ g2.c = g.c
  fin : ∀ (i : Nat) (g g2 : Gp), i < m → gl[i]? = some g → gl2[i]? = some g2 → BagR W B g2.A g2.n g2.l ∧ (dat g2.l).Perm (dat g.l) ∧ (dat g2.l).Pairwise fun x y => ¬ ordS s y.1 x.1 < 0
  rest : ∀ (i : Nat), m ≤ i → gl2[i]? = gl[i]?
  bar : Bar W0.heap.size (gX gl m) W0 W
theorem GsI.nil (s : Stp) (B : Nat) (gl : List Gp) (W : World) : GsI s B gl gl 0 W W := ⟨rfl, fun i g g2 h1 h2 => by rw [h1] at h2; injection h2 with h2; subst h2; exact ⟨rfl, rfl, rfl⟩, fun i g g2 h => absurd h (by omega), fun i _ => rfl, Bar.refl _ _ _⟩
theorem GlS.offX {N B n : Nat} {gl : List Gp} {A : Option Addr} {W : World} (h : GlS N B gl A n W) (hBN : B ≤ N) (m : Nat) : OffX W B (gX gl m) := fun k hk => by
  obtain ⟨i, g, _, hg, hq⟩ := gX_mem hk
  exact OffX.own (h.row g (List.mem_of_getElem? hg)) (by decide) hBN k (mem_obl hq)
theorem GlS.apart_at {N B n : Nat} {gl : List Gp} {A : Option Addr} {W : World} (h : GlS N B gl A n W) {i j : Nat} {g k : Gp} (hi : gl[i]? = some g) (hj : gl[j]? = some k) (hij : i < j) {q : Nat} (hq : g.v.ownBlock = some q) : k.v.ownBlock ≠ some q := fun hk => by
  obtain ⟨i1, e1⟩ := List.getElem?_eq_some_iff.1 hi
  obtain ⟨j1, e2⟩ := List.getElem?_eq_some_iff.1 hj
  have := List.pairwise_iff_getElem.1 h.apart i j i1 j1 hij
  rw [e1, e2, hq, hk] at this
  rcases this with e | e
  · cases e
  · exact e rfl
/-- What is there of group m, which is still to be sorted. -/
theorem GsI.at_ {s : Stp} {N B n m : Nat} {gl gl2 : List Gp} {A : Option Addr} {W0 W : World} (h : GsI s B gl gl2 m W0 W) (hS : GlS N B gl A n W0) (hBN : B ≤ N) {g : Gp} (hg : gl[m]? = some g) :
    W.ownsRow N 52 2 g.v g.n (g.l.flatMap encIt) ∧ Rows_ W B g.l ∧ ∃ b off, A = some ⟨b, off, none⟩ ∧ W.cell? ⟨b, off + m, none⟩ = some (.slice g.A g.n g.c) := by
  have hgm := List.mem_of_getElem? hg
  have hlt := (List.getElem?_eq_some_iff.1 hg).1
  refine ⟨own_bar (hS.row g hgm) h.bar fun q hq hm => ?_, (hS.rows g hgm).bar h.bar (hS.offX hBN m), ?_⟩
  · obtain ⟨i, k, him, hk, hkq⟩ := gX_mem hm
    exact hS.apart_at hk hg him hkq hq
  · have hn : gl.length = n := by
      have := hS.rd.1
      rw [flat_length encGp_len] at this
      omega
    have hrd := hS.rd.bar h.bar fun h0 b o e hm => by
      obtain ⟨i, k, him, hk, hkq⟩ := gX_mem hm
      exact hS.off h0 b o e k (List.mem_of_getElem? hk) hkq
    obtain ⟨b, off, e, _, hc⟩ := hrd.2 (by omega)
    refine ⟨b, off, e, hc m _ ?_⟩
    have := flat_get encGp_len gl m 0 g hg (by omega)
    rw [Nat.mul_one, Nat.add_zero] at this
    rw [this]
    rfl
/-- One group more is sorted. -/
theorem GsI.step {s : Stp} {N B n m : Nat} {gl gl2 : List Gp} {A : Option Addr} {W0 W W' : World} (h : GsI s B gl gl2 m W0 W) (hS : GlS N B gl A n W0) (hBN : B ≤ N) {g : Gp} (hg : gl[m]? = some g) {l' : List It}
    (hgn : g.n ≤ 9223372036854775807) (hrd : Reads W' W'.heap.size 2 g.A g.n (l'.flatMap encIt)) (hrows : Rows_ W' B l') (hpm : l'.Perm g.l) (hsrt : l'.Pairwise fun x y => ¬ ordS s y.r x.r < 0) (hb : Bar W.heap.size (obl g.v) W W') :
    GsI s B gl (gl2.set m ⟨g.A, g.n, g.c, l'⟩) (m + 1) W0 W' := by
  have hgm := List.mem_of_getElem? hg
  have hml := (List.getElem?_eq_some_iff.1 hg).1
  have hown := (h.at_ hS hBN hg).1
  have hoff : OffX W B (obl g.v) := OffX.own hown (by decide) hBN
  refine ⟨by rw [List.length_set]; exact h.len, fun i k k2 h1 h2 => ?_, fun i k k2 hi h1 h2 => ?_, fun i hi => ?_, ?_⟩
  · rw [List.getElem?_set] at h2
    split at h2
    · rename_i e
      subst e
      rw [hg] at h1
      injection h1 with h1
      subst h1
      split at h2
      · injection h2 with h2; subst h2; exact ⟨rfl, rfl, rfl⟩
      · cases h2
    · exact h.hd i k k2 h1 h2
  · rw [List.getElem?_set] at h2
    split at h2
    · rename_i e
      subst e
      rw [hg] at h1
      injection h1 with h1
      subst h1
      split at h2
      · injection h2 with h2
        subst h2
        refine ⟨⟨hrd, hrows, hgn⟩, hpm.map _, ?_⟩
        unfold dat
        rw [List.pairwise_map]
        exact hsrt
      · cases h2
    · rename_i hne
      have him : i < m := by omega
      obtain ⟨f1, f2, f3⟩ := h.fin i k k2 him h1 h2
      obtain ⟨e1, e2, e3⟩ := h.hd i k k2 h1 h2
      refine ⟨⟨f1.rd.bar hb fun h0 b o e hm => ?_, f1.rows.bar hb hoff, f1.le⟩, f2, f3⟩
      have hkr := hS.row k (List.mem_of_getElem? h1)
      rw [e1] at e
      rw [e2] at h0
      obtain ⟨q, cap, hv, _⟩ := hkr.form h0
      have hA : k.A = some ⟨q, 0, none⟩ := by unfold Gp.v at hv; injection hv
      rw [hA] at e
      injection e with e
      injection e with e4
      subst e4
      exact hS.apart_at h1 hg him (q := q) (by rw [hv]; rfl) (obl_mem hm)
  · rw [List.getElem?_set, if_neg (by omega)]
    exact h.rest i (by omega)
  · rw [gX_succ hg]
    refine ⟨hb.os.trans h.bar.os, hb.tape.trans h.bar.tape, hb.output.trans h.bar.output, Nat.le_trans h.bar.size hb.size, fun k hk hx => ?_⟩
    rw [List.mem_append] at hx
    exact (hb.block k (by have := h.bar.size; omega) fun hm => hx (.inr hm)).trans (h.bar.block k hk fun hm => hx (.inl hm))
theorem GsI.far {s : Stp} {B m : Nat} {gl gl2 : List Gp} {W0 W : World} (h : GsI s B gl gl2 m W0 W) {z : Nat} (hz : z < W0.heap.size) (hn : ∀ g ∈ gl, g.v.ownBlock ≠ some z) : W.heap[z]? = W0.heap[z]? :=
  h.bar.block z hz fun hm => by
    obtain ⟨i, g, _, hg, hq⟩ := gX_mem hm
    exact hn g (List.mem_of_getElem? hg) hq
theorem flat_count : ∀ (gs : List Bg), (∀ g ∈ gs, g ≠ []) → gs.length ≤ gs.flatten.length
  | [], _ => by simp
  | g :: gs, h => by
    have := flat_count gs fun k hk => h k (List.mem_cons_of_mem _ hk)
    have h1 := List.length_pos_iff.2 (h g List.mem_cons_self)
    simp only [List.length_cons, List.flatten_cons, List.length_append]
    omega
theorem hkr_head {s : Stp} {l : List It} {i : It} (h : l.head? = some i) : hkr s (dat l) = gk s i.r := by
  cases l with
  | nil => cases h
  | cons x l =>
    obtain rfl : x = i := by simpa using h
    rfl
/-- What is known when all groups are sorted. -/
theorem GsI.done {s : Stp} {N B n : Nat} {gl gl2 : List Gp} {A : Option Addr} {W0 W : World} (h : GsI s B gl gl2 gl.length W0 W) (hS : GlS N B gl A n W0) :
    Reads W W.heap.size 1 A n (gl2.flatMap encGp) ∧ (∀ g ∈ gl2, BagR W B g.A g.n g.l) ∧ ∀ (i : Nat) g k, (gl.map fun g => dat g.l)[i]? = some g → (gl2.map fun g => dat g.l)[i]? = some k → k.Perm g ∧ k.Pairwise fun x y => ¬ ordS s y.1 x.1 < 0 := by
  refine ⟨?_, fun g hg => ?_, fun i g k h1 h2 => ?_⟩
  · have e : gl2.flatMap encGp = gl.flatMap encGp := by
      have hl := h.len
      have hd := h.hd
      clear h hS
      induction gl generalizing gl2 with
      | nil => rw [List.eq_nil_of_length_eq_zero hl]
      | cons g gl ih =>
        cases gl2 with
        | nil => cases hl
        | cons g2 gl2 =>
          obtain ⟨e1, e2, e3⟩ := hd 0 g g2 rfl rfl
          rw [List.flatMap_cons, List.flatMap_cons, ih (by simpa using hl) fun i g k h1 h2 => hd (i + 1) g k (by simpa using h1) (by simpa using h2)]
          unfold encGp
          rw [e1, e2, e3]
    rw [e]
    exact hS.rd.bar h.bar fun h0 b o e hm => by
      obtain ⟨i, k, him, hk, hkq⟩ := gX_mem hm
      exact hS.off h0 b o e k (List.mem_of_getElem? hk) hkq
  · obtain ⟨i, hi⟩ := List.getElem?_of_mem hg
    have hlt := (List.getElem?_eq_some_iff.1 hi).1
    rw [h.len] at hlt
    exact (h.fin i _ g hlt (List.getElem?_eq_getElem hlt) hi).1
  · rw [List.getElem?_map] at h1 h2
    cases hg : gl[i]? with
    | none => rw [hg] at h1; cases h1
    | some g1 =>
      cases hk : gl2[i]? with
      | none => rw [hk] at h2; cases h2
      | some k1 =>
        rw [hg] at h1
        rw [hk] at h2
        injection h1 with h1
        injection h2 with h2
        subst h1 h2
        exact (h.fin i g1 k1 (List.getElem?_eq_some_iff.1 hg).1 hg hk).2
end

section
open Go

section
variable {P : Program} {ops : Array Oper} {Q : Exit → Act → World → Prop} {md : Region.Mode} {S : World → Prop} {s : Nat}
/-- Each of U waits for i or for another of U. -/
def waitsU (md : Region.Mode) (ops : Array Oper) (U : List Nat) (i : Nat) : Bool := U.all fun u => match ops[u]? with
  | some o => o.after.any fun e => Region.binds md e && (e.on == i || U.contains e.on)
  | none => true
theorem Held.firstU {i : Nat} {o : Oper} {v : Value} (U : List Nat) (hi : ops[i]? = some o) (hsel : ∀ (j : Nat) (o : Oper) cs b, ops[j]? = some o → o.op ≠ .select cs b)
    (hQ : ∀ c a w, Q (.panic c) (a.put o.dst v) w → Q (.panic c) a w) (hU : ∀ u ∈ U, ∀ ou, ops[u]? = some ou → ∃ e ∈ ou.after, Region.binds md e = true ∧ (e.on = i ∨ e.on ∈ U)) (hsU : s ∈ U) (n : Nat) :
    ∀ (l : Array Bool) (a : Act) (w : World),
      (∀ j oj, ops[j]? = some oj → j ≠ i → l.getD j true = false → (∀ e ∈ oj.after, Region.binds md e = true → e.on ≠ i) → o.apart ops oj = true) →
      (∀ u ∈ U, l.getD u false = false) → l.getD i false = false →
      i ∈ Region.ready md ops l → YieldsIf P ops S o v a → S w → Held P md ops Q S s n (l.setIfInBounds i true) (a.put o.dst v) w → Held P md ops Q S s (n + 1) l a w := by
  induction n with
  | zero =>
    intro l a w _ _ _ hr hy hS H
    constructor
    · intro h; rw [h] at hr; cases hr
    · intro j hj
      by_cases e : j = i
      · subst e; exact hy.wpOp hi hS ⟨fun _ => hS, H⟩
      · have h0 := ready_mono hj e
        rw [H.1] at h0; cases h0
  | succ n ih =>
    intro l a w hf hu0 hi0 hr hy hS H
    constructor
    · intro h; rw [h] at hr; cases hr
    · intro j hj
      by_cases e : j = i
      · subst e; exact hy.wpOp hi hS ⟨fun _ => hS, H⟩
      · obtain ⟨hun, oj, hoj, hall⟩ := mem_ready.1 hj
        have hno : ∀ e ∈ oj.after, Region.binds md e = true → e.on ≠ i := by
          intro x hx hb heq
          have g1 := hall x hx hb
          rw [heq, hi0] at g1
          cases g1
        have hjU : j ∉ U := fun hm => by
          obtain ⟨x, hx, hb, h1⟩ := hU j hm oj hoj
          have g1 := hall x hx hb
          rcases h1 with h1 | h1
          · rw [h1, hi0] at g1; cases g1
          · rw [hu0 _ h1] at g1; cases g1
        have hjs : j ≠ s := fun e => hjU (e ▸ hsU)
        have key := wpOp_putIf hoj (hf j oj hoj e hun hno) (fun cs b => hsel i o cs b hi) (fun cs b => hsel j oj cs b hoj) hQ hy (H.2 j (ready_mono hj e))
        refine wpOp_mono (fun b x hx => ⟨hx.2.1, ih _ b x ?_ (fun u hu => by
          have hne : j ≠ u := fun e => hjU (by rw [e]; exact hu)
          rw [getD_set_ne false hne]; exact hu0 u hu) (by rw [getD_set_ne false e]; exact hi0) (ready_mono hr (Ne.symm e)) hx.1 (hx.2.1 hjs) ?_⟩) key
        · intro k ok hk hki hu hn
          refine hf k ok hk hki ?_ hn
          by_cases ek : j = k
          · subst ek; exact hun
          · rwa [getD_set_ne true ek] at hu
        · rw [Array.setIfInBounds_comm _ _ e]; exact hx.2.2
theorem Held.takeU {i : Nat} {o : Oper} (U : List Nat) (v : Value) {n : Nat} {l : Array Bool} {a : Act} {w : World} (hi : ops[i]? = some o) (hS : S w)
    (hse : Region.noSelect ops = true) (hf : Region.free md ops l i = true) (hr : (Region.ready md ops l).contains i = true) (hw : waitsU md ops U i = true) (hsU : U.contains s = true) (hu : U.all (fun u => !l.getD u false) = true) (hl : l.getD i false = false)
    (hQ : ∀ c a w, Q (.panic c) (a.put o.dst v) w → Q (.panic c) a w) (hg : o.guard = none) (hy : ∀ x, S x → (execOp a.eval o).run P x = .ok (.value v) x)
    (h : Held P md ops Q S s n (l.setIfInBounds i true) (a.put o.dst v) w) : Held P md ops Q S s (n + 1) l a w :=
  Held.firstU U hi (Region.noSelect_spec hse) hQ (fun u hu ou ho => by
    have h1 := List.all_eq_true.1 hw u hu
    rw [ho] at h1
    obtain ⟨e, he, hb⟩ := Array.any_eq_true'.1 h1
    simp only [Bool.and_eq_true, Bool.or_eq_true, beq_iff_eq, List.contains_iff_mem] at hb
    exact ⟨e, he, hb.1, hb.2⟩) (by simpa using hsU) n l a w (Region.free_spec hi hf) (fun u hm => by simpa using List.all_eq_true.1 hu u hm) hl (by simpa using hr) (.inl ⟨by simp [Region.wanted, hg], hy⟩) hS h
end
end

end Go.Proofs.YtljglceaibgknaaGreatDoor
