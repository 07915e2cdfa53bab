/-
  The facts of this seat that the library contract of the sort asks for, and slices.SortFunc over a list of Ev that the call made, by whatever comparison. (Printed by gen_srt.)
  The walk of pair.compare, with the draws counted; the sort of events by it. No condition.
-/
import Derived.Test.YtoapjidpfghnlaaGreatDoorIns
import Derived.Test.YtoapjidpfghnlaaGreatDoorRngH
import Derived.Test.YtoapjidpfghnlaaGreatDoorGb
import Derived.Test.YtoapjidpfghnlaaGreatDoorPrO
namespace Go.Proofs.YtoapjidpfghnlaaGreatDoor

section
open Go.Shelf Go.Proofs Go.Lib Go.Sort
open Go.RowKit (Below)
attribute [local go_sem] Oper.semAt_some
set_option linter.unusedVariables false
set_option linter.unusedSimpArgs false

def sortE_ren : Go.Shelf.Ren := ⟨fun | 6 => 70 | 14 => 126 | 20 => 170 | 21 => 171 | 22 => 172 | 23 => 173 | 24 => 174 | 25 => 175 | 26 => 176 | 27 => 177 | 46 => 215 | 47 => 216 | 48 => 217 | 49 => 218 | 50 => 219 | 15 => 127 | 57 => 245 | 28 => 178 | 29 => 179 | n => n, fun | 24 => 36 | 22 => 25 | 3 => 3 | 25 => 104 | 4 => 4 | 0 => 0 | 46 => 203 | 45 => 202 | 50 => 207 | 66 => 245 | 39 => 166 | 55 => 212 | 70 => 249 | 76 => 265 | 77 => 77 | 53 => 210 | 5 => 5 | 9 => 9 | n => n, fun | n => n⟩
theorem sortE : Go.Proofs.SlLaysF0.n6 Tryz.prog sortE_ren := {
  mixed := by kernel_rfl
  f6 := ⟨Tryz.f70.name, by decide, Tryz.func70.trans (congrArg some (by kernel_rfl))⟩
  f14 := ⟨Tryz.f126.name, by decide, Tryz.func126.trans (congrArg some (by kernel_rfl))⟩
  f15 := Tryz.func127.trans (congrArg some (by kernel_rfl))
  f20 := ⟨Tryz.f170.name, by decide, Tryz.func170.trans (congrArg some (by kernel_rfl))⟩
  f21 := ⟨Tryz.f171.name, by decide, Tryz.func171.trans (congrArg some (by kernel_rfl))⟩
  f22 := ⟨Tryz.f172.name, by decide, Tryz.func172.trans (congrArg some (by kernel_rfl))⟩
  f23 := ⟨Tryz.f173.name, by decide, Tryz.func173.trans (congrArg some (by kernel_rfl))⟩
  f24 := ⟨Tryz.f174.name, by decide, Tryz.func174.trans (congrArg some (by kernel_rfl))⟩
  f25 := ⟨Tryz.f175.name, by decide, Tryz.func175.trans (congrArg some (by kernel_rfl))⟩
  f26 := ⟨Tryz.f176.name, by decide, Tryz.func176.trans (congrArg some (by kernel_rfl))⟩
  f27 := ⟨Tryz.f177.name, by decide, Tryz.func177.trans (congrArg some (by kernel_rfl))⟩
  f28 := Tryz.func178.trans (congrArg some (by kernel_rfl))
  f29 := Tryz.func179.trans (congrArg some (by kernel_rfl))
  f46 := ⟨Tryz.f215.name, by decide, Tryz.func215.trans (congrArg some (by kernel_rfl))⟩
  f47 := Tryz.func216.trans (congrArg some (by kernel_rfl))
  f48 := Tryz.func217.trans (congrArg some (by kernel_rfl))
  f49 := ⟨Tryz.f218.name, by decide, Tryz.func218.trans (congrArg some (by kernel_rfl))⟩
  f50 := ⟨Tryz.f219.name, by decide, Tryz.func219.trans (congrArg some (by kernel_rfl))⟩
  f57 := ⟨Tryz.f245.name, by decide, Tryz.func245.trans (congrArg some (by kernel_rfl))⟩
  t0 := Tryz.underlying0
  a0 := Tryz.isAgg0
  z0 := Tryz.sizeOf0
  v0 := Tryz.zeroValue0
  t3 := Tryz.underlying3
  a3 := Tryz.isAgg3
  z3 := Tryz.sizeOf3
  v3 := Tryz.zeroValue3
  t4 := Tryz.underlying4
  a4 := Tryz.isAgg4
  z4 := Tryz.sizeOf4
  v4 := Tryz.zeroValue4
  t5 := Tryz.underlying5
  a5 := Tryz.isAgg5
  z5 := Tryz.sizeOf5
  v5 := Tryz.zeroValue5
  t9 := Tryz.underlying9
  a9 := Tryz.isAgg9
  z9 := Tryz.sizeOf9
  v9 := Tryz.zeroValue9
  t22 := Tryz.underlying25
  a22 := Tryz.isAgg25
  z22 := Tryz.sizeOf25
  v22 := Tryz.zeroValue25
  t25 := Tryz.underlying104
  a25 := Tryz.isAgg104
  z25 := Tryz.sizeOf104
  v25 := Tryz.zeroValue104
  t39 := Tryz.underlying166
  a39 := Tryz.isAgg166
  z39 := Tryz.sizeOf166
  v39 := Tryz.zeroValue166
  t45 := Tryz.underlying202
  a45 := Tryz.isAgg202
  z45 := Tryz.sizeOf202
  v45 := Tryz.zeroValue202
  t46 := Tryz.underlying203
  a46 := Tryz.isAgg203
  z46 := Tryz.sizeOf203
  v46 := Tryz.zeroValue203
  t50 := Tryz.underlying207
  a50 := Tryz.isAgg207
  z50 := Tryz.sizeOf207
  v50 := Tryz.zeroValue207
  t53 := Tryz.underlying210
  a53 := Tryz.isAgg210
  z53 := Tryz.sizeOf210
  v53 := Tryz.zeroValue210
  t55 := Tryz.underlying212
  a55 := Tryz.isAgg212
  z55 := Tryz.sizeOf212
  v55 := Tryz.zeroValue212
  t66 := Tryz.underlying245
  a66 := Tryz.isAgg245
  z66 := Tryz.sizeOf245
  v66 := Tryz.zeroValue245
  t70 := Tryz.underlying249
  a70 := Tryz.isAgg249
  z70 := Tryz.sizeOf249
  v70 := Tryz.zeroValue249
  t76 := Tryz.underlying265
  a76 := Tryz.isAgg265
  z76 := Tryz.sizeOf265
  v76 := Tryz.zeroValue265
  t77 := Tryz.underlying77
  a77 := Tryz.isAgg77
  z77 := Tryz.sizeOf77
  v77 := Tryz.zeroValue77 }
/-- What the sort leaves. -/
def RetSortE (w : World) (v : Value) (l : List Ev) (cf : Ev → Ev → Int) (e : Ending) (w' : World) : Prop := e = .returned (.tuple #[]) ∧ ∃ (l' : List Ev) (A : Option Addr) (n c : Nat), v = .slice A n c ∧ l'.Perm l ∧ l'.Pairwise (fun x y => ¬ cf y x < 0) ∧ Reads w' w'.heap.size 2 A n (l'.flatMap encEv) ∧ Bar w.heap.size (obl v) w w'
set_option maxHeartbeats 1000000 in
theorem SortE_any (base n : Nat) (v : Value) (l : List Ev) (w : World) (h : w.ownsRow base 36 2 v n (l.flatMap encEv)) (hn : n ≤ 100000) (pf : Nat) (caps : Array Value)
    (eg : ∀ args w, (callFunc pf args).run Tryz.prog w = .ok (.enter pf args) w) (cf : Ev → Ev → Int) (hO : SWO (ltOf cf))
    (hc : ∀ (x y : Ev) (W : World), x ∈ l → y ∈ l → Bar w.heap.size (obl v) w W → Calls Tryz.prog pf (#[.agg (encEv x).toArray, .agg (encEv y).toArray] ++ caps) W (RetG W (.int .i64 (cf x y)))) :
    Calls Tryz.prog 70 #[v, .func (Fn.func pf) #[] caps] w (RetSortE w v l cf) := by
  have hlen : l.length = n := by
    have := h.1
    rw [flat_length encEv_len] at this
    omega
  rcases h.2 with ⟨he, hn0⟩ | ⟨g, cap, cur, he, hb, _, hcap, _⟩
  · subst he
    obtain rfl : n = 0 := by
      have := h.1
      rw [hn0] at this
      simp at this
      omega
    obtain rfl : l = [] := List.eq_nil_of_length_eq_zero hlen
    refine (AnyF.slices_SortFunc_none (P := Tryz.prog) (ρ := sortE_ren) { sortE with } none 0 _ w).mono ?_
    rintro e w' ⟨rfl, rfl⟩
    exact ⟨rfl, [], none, 0, 0, rfl, List.Perm.refl _, List.Pairwise.nil, Reads.none_, Bar.refl _ _ _⟩
  · subst he
    rcases Nat.eq_zero_or_pos n with hn0 | hn0
    · subst hn0
      obtain rfl : l = [] := List.eq_nil_of_length_eq_zero hlen
      refine (AnyF.slices_SortFunc_none (P := Tryz.prog) (ρ := sortE_ren) { sortE with } _ cap _ w).mono ?_
      rintro e w' ⟨rfl, rfl⟩
      exact ⟨rfl, [], _, 0, cap, rfl, List.Perm.refl _, List.Pairwise.nil, ⟨rfl, fun h => absurd h (by omega)⟩, Bar.refl _ _ _⟩
    · obtain ⟨x0, hx0⟩ : ∃ x, x ∈ l := by
        cases l with
        | nil => simp at hlen; omega
        | cons x l => exact ⟨x, List.mem_cons_self⟩
      haveI : Inhabited {x : Ev // x ∈ l} := ⟨⟨x0, hx0⟩⟩
      let enc : {x : Ev // x ∈ l} → List Value := fun x => encEv x.1
      let ls : List {x : Ev // x ∈ l} := l.attach
      have hls : ls.map (·.1) = l := List.attach_map_subtype_val l
      have hfl : ls.flatMap enc = l.flatMap encEv := by
        have : l.flatMap encEv = (ls.map (·.1)).flatMap encEv := by rw [hls]
        rw [this, List.flatMap_map]
      have hlsn : ls.length = n := by rw [← hlen]; exact List.length_attach
      have h' : w.ownsRow base 36 2 (.slice (some ⟨g, 0, none⟩) n cap) n (ls.flatMap enc) := by rw [hfl]; exact h
      obtain ⟨hH, hg, hbg⟩ := holds_ownG (enc := enc) (fun x => encEv_len x.1) (by omega) h'
      have hsz : ls.toArray.size = n := by simpa using hlsn
      have hO' : SWO (ltOf fun x y : {x : Ev // x ∈ l} => cf x.1 y.1) := ⟨fun x => hO.irrefl x.1, fun x y z => hO.trans x.1 y.1 z.1, fun x y z => hO.ntrans x.1 y.1 z.1⟩
      have h1 : ∀ x : {x : Ev // x ∈ l}, ∀ v ∈ enc x, v.oneCell' = true := fun x v hv => by
        have hv' : v ∈ encEv x.1 := hv
        unfold encEv at hv'
        simp only [List.mem_cons, List.not_mem_nil, or_false] at hv'
        rcases hv' with rfl | rfl <;> rfl
      have hcmp : CmpLays Tryz.prog pf caps enc 2 (fun x y : {x : Ev // x ∈ l} => cf x.1 y.1) g 0 ls.toArray.size w := by
        intro m os dk hdk x y
        have hbar := below_sortG (enc := enc) (k := 2) (w := w) (g := g) (m := m) (d := dk) (os := os)
        refine (hc x.1 y.1 _ x.2 y.2 hbar).mono ?_
        rintro e w' ⟨he, hgb⟩
        exact ⟨he, hgb.grow⟩
      have hp := AnyQ.slices_SortFunc (P := Tryz.prog) (ρ := sortE_ren) sortE 2 Tryz.isAgg36 Tryz.sizeOf36 enc (fun x => encEv_len x.1) h1 (fun x y : {x : Ev // x ∈ l} => cf x.1 y.1) hO' pf caps g 0 cap ls.toArray w eg hcmp hH hg (by rw [hsz]; omega)
      rw [hsz] at hp
      refine Calls.mono hp ?_
      rintro e w' ⟨rfl, d', m, os, hpm, hst, rfl⟩
      have hdn : d'.size = n := by rw [hpm.1, hsz]
      have hbar := below_sortG (enc := enc) (k := 2) (w := w) (g := g) (m := m) (d := d') (os := os)
      have hperm : d'.toList.Perm ls := by
        have := hpm.2.2
        rw [← hsz] at this
        simp only [Array.extract_size] at this
        rw [hsz, ← hdn, Array.extract_size] at this
        simpa using this
      have hl'p : (d'.toList.map (·.1)).Perm l := by
        have := hperm.map (·.1)
        rwa [hls] at this
      refine ⟨rfl, d'.toList.map (·.1), _, _, _, rfl, hl'p, ?_, ?_, hbar⟩
      · rw [List.pairwise_map, List.pairwise_iff_getElem]
        intro i j hi hj hij
        have hi' : i < d'.size := by simpa using hi
        have hj' : j < d'.size := by simpa using hj
        have := hst i j (Nat.zero_le _) hij (by omega)
        have h2 : decide (cf (d'[j]!).1 (d'[i]!).1 < 0) = false := this
        rw [decide_eq_false_iff_not, getElem!_pos d' i hi', getElem!_pos d' j hj'] at h2
        simpa using h2
      · have hH' := holdsK_sortWorldK_c enc 2 w g 0 ls.toArray d' m os hH hg (by rw [hdn, hsz])
        have := reads_holdsG (enc := enc) (fun x => encEv_len x.1) (by omega) hH' (Nat.lt_of_lt_of_le hg hbar.size)
        rw [hdn] at this
        rw [List.flatMap_map]
        exact this
end

section
open Go.RowKit
attribute [local go_sem] Oper.semAt_some wide_fn wide_depth
set_option linter.unusedVariables false
set_option linter.unusedSimpArgs false

set_option maxRecDepth 100000 in
set_option maxHeartbeats 4000000 in
theorem compare_g (x y : Ev) (w : World) (hx : RowK w w.heap.size x.A x.n x.r) (hy : RowK w w.heap.size y.A y.n y.r) :
    Calls Tryz.prog 71 #[.agg #[.int .i64 x.t, .slice x.A x.n x.c], .agg #[.int .i64 y.t, .slice y.A y.n y.c]] w (RetG w (.int .i64 (cmpE (x.t, x.r) (y.t, y.r)))) := by
  have hB := gb_two (w := w) (.cells #[.int .i64 x.t, .slice x.A x.n x.c] 36) (.cells #[.int .i64 y.t, .slice y.A y.n y.c] 36)
  have k1 := (Blk.new w 36 #[.int .i64 x.t, .slice x.A x.n x.c]).alloc (.cells #[.int .i64 y.t, .slice y.A y.n y.c] 36)
  have k2 := Blk.new (w.alloc (.cells #[.int .i64 x.t, .slice x.A x.n x.c] 36)) 36 #[.int .i64 y.t, .slice y.A y.n y.c]
  rw [World.size_alloc] at k2
  have hx1 := (hx.below hB.b).mono hB.size
  have hy1 := (hy.below hB.b).mono hB.size
  obtain ⟨v, hv⟩ : ∃ v, cmpE (x.t, x.r) (y.t, y.r) = v := ⟨_, rfl⟩
  rw [hv]
  have HV := hide hv
  clear hv hx hy
  go_enter Tryz.func71, Tryz.ntmps71
  go_upto_region 1 with fail
  obtain ⟨W, hW⟩ : ∃ W, (w.alloc (.cells #[.int .i64 x.t, .slice x.A x.n x.c] 36)).alloc (.cells #[.int .i64 y.t, .slice y.A y.n y.c] 36) = W := ⟨_, rfl⟩
  obtain ⟨bx, hbx⟩ : ∃ bx, w.heap.size = bx := ⟨_, rfl⟩
  rw [hW] at hB k1 k2 hx1 hy1 ⊢
  rw [hbx] at k1 k2 ⊢
  clear hW
  refine Held.begin (fun z => z.cell? ⟨bx, 0, none⟩ = some (.int .i64 x.t) ∧ z.cell? ⟨bx, 1, none⟩ = some (.slice x.A x.n x.c) ∧ z.cell? ⟨bx + 1, 0, none⟩ = some (.int .i64 y.t) ∧ z.cell? ⟨bx + 1, 1, none⟩ = some (.slice y.A y.n y.c)) 100 (by kernel_rfl) ?_
  obtain ⟨X1, hX1⟩ : ∃ X1, W.drew = X1 := ⟨_, rfl⟩
  have hD : GB W.heap.size W X1 := by rw [← hX1]; exact (GB.refl _ _).drew
  rw [hX1]
  have hB1 := gstep hB hD
  have hx2 := (hx1.below hD.b).mono hD.size
  have hy2 := (hy1.below hD.b).mono hD.size
  have k3 := k1.below hD.b k1.lt
  have k4 := k2.below hD.b k2.lt
  have hS : X1.cell? ⟨bx, 0, none⟩ = some (.int .i64 x.t) ∧ X1.cell? ⟨bx, 1, none⟩ = some (.slice x.A x.n x.c) ∧ X1.cell? ⟨bx + 1, 0, none⟩ = some (.int .i64 y.t) ∧ X1.cell? ⟨bx + 1, 1, none⟩ = some (.slice y.A y.n y.c) := ⟨by simpa using k3.cell 0, by simpa using k3.cell 1, by simpa using k4.cell 0, by simpa using k4.cell 1⟩
  clear hX1 hD k1 k2 hx1 hy1 hB
  refine Held.take (i := 0) (.pointer (some ⟨bx, 0, none⟩)) rfl hS (by kernel_rfl) (by kernel_rfl) (by kernel_rfl) (by kernel_rfl) (fun _ _ _ h => h) rfl (fun y hy => by obtain ⟨x1, x2, x3, x4⟩ := hy; go_simp) ?_
  try simp only [Act.put]
  refine Held.take (i := 1) (.int .i64 x.t) rfl hS (by kernel_rfl) (by kernel_rfl) (by kernel_rfl) (by kernel_rfl) (fun _ _ _ h => h) rfl (fun y hy => by obtain ⟨x1, x2, x3, x4⟩ := hy; go_simp) ?_
  try simp only [Act.put]
  refine Held.take (i := 2) (.pointer (some ⟨bx + 1, 0, none⟩)) rfl hS (by kernel_rfl) (by kernel_rfl) (by kernel_rfl) (by kernel_rfl) (fun _ _ _ h => h) rfl (fun y hy => by obtain ⟨x1, x2, x3, x4⟩ := hy; go_simp) ?_
  try simp only [Act.put]
  refine Held.take (i := 3) (.int .i64 y.t) rfl hS (by kernel_rfl) (by kernel_rfl) (by kernel_rfl) (by kernel_rfl) (fun _ _ _ h => h) rfl (fun y hy => by obtain ⟨x1, x2, x3, x4⟩ := hy; go_simp) ?_
  try simp only [Act.put]
  refine Held.take (i := 5) (.pointer (some ⟨bx, 1, none⟩)) rfl hS (by kernel_rfl) (by kernel_rfl) (by kernel_rfl) (by kernel_rfl) (fun _ _ _ h => h) rfl (fun y hy => by obtain ⟨x1, x2, x3, x4⟩ := hy; go_simp) ?_
  try simp only [Act.put]
  refine Held.take (i := 6) (.slice x.A x.n x.c) rfl hS (by kernel_rfl) (by kernel_rfl) (by kernel_rfl) (by kernel_rfl) (fun _ _ _ h => h) rfl (fun y hy => by obtain ⟨x1, x2, x3, x4⟩ := hy; go_simp) ?_
  try simp only [Act.put]
  refine Held.take (i := 7) (.pointer (some ⟨bx + 1, 1, none⟩)) rfl hS (by kernel_rfl) (by kernel_rfl) (by kernel_rfl) (by kernel_rfl) (fun _ _ _ h => h) rfl (fun y hy => by obtain ⟨x1, x2, x3, x4⟩ := hy; go_simp) ?_
  try simp only [Act.put]
  refine Held.take (i := 8) (.slice y.A y.n y.c) rfl hS (by kernel_rfl) (by kernel_rfl) (by kernel_rfl) (by kernel_rfl) (fun _ _ _ h => h) rfl (fun y hy => by obtain ⟨x1, x2, x3, x4⟩ := hy; go_simp) ?_
  try simp only [Act.put]
  refine Held.one (i := 4) rfl (by kernel_rfl) rfl (fun K hK => ?_)
  unfold Oper.wp
  go_simp
  refine (cmpi_any x.t y.t X1).mono ?_
  rintro e X2 ⟨rfl, rfl⟩
  refine hK _ _ (fun _ => hS) ?_
  try simp only [Act.put]
  clear hK K
  refine Held.one (i := 9) rfl (by kernel_rfl) rfl (fun K hK => ?_)
  unfold Oper.wp
  go_simp
  refine (Compare_g x.A x.n x.c x.r y.A y.n y.c y.r X1 hx2.rd hy2.rd hx2.le).mono ?_
  rintro e X2 ⟨rfl, hG2⟩
  have hB2 := gstep hB1 hG2
  have k5 := k3.below hG2.b k3.lt
  have k6 := k4.below hG2.b k4.lt
  have hS : X2.cell? ⟨bx, 0, none⟩ = some (.int .i64 x.t) ∧ X2.cell? ⟨bx, 1, none⟩ = some (.slice x.A x.n x.c) ∧ X2.cell? ⟨bx + 1, 0, none⟩ = some (.int .i64 y.t) ∧ X2.cell? ⟨bx + 1, 1, none⟩ = some (.slice y.A y.n y.c) := ⟨by simpa using k5.cell 0, by simpa using k5.cell 1, by simpa using k6.cell 0, by simpa using k6.cell 1⟩
  refine hK _ _ (fun _ => hS) ?_
  try simp only [Act.put]
  clear hK K hG2 hB1 k3 k4 hx2 hy2
  refine Held.one (i := 10) rfl (by kernel_rfl) rfl (fun K hK => ?_)
  unfold Oper.wp
  go_simp
  have hB3 := gb_val (w := X2) #[.int .i64 (cmpI x.t y.t), .int .i64 (cmpR x.r y.r)] 3
  have kz := Blk.new X2 3 #[.int .i64 (cmpI x.t y.t), .int .i64 (cmpR x.r y.r)]
  have k7 := k5.below hB3.b k5.lt
  have k8 := k6.below hB3.b k6.lt
  have hB4 := gstep hB2 hB3
  obtain ⟨X3, hX3⟩ : ∃ X3, X2.alloc (.cells #[.int .i64 (cmpI x.t y.t), .int .i64 (cmpR x.r y.r)] 3) = X3 := ⟨_, rfl⟩
  rw [hX3] at kz k7 k8 hB4 ⊢
  have hS : X3.cell? ⟨bx, 0, none⟩ = some (.int .i64 x.t) ∧ X3.cell? ⟨bx, 1, none⟩ = some (.slice x.A x.n x.c) ∧ X3.cell? ⟨bx + 1, 0, none⟩ = some (.int .i64 y.t) ∧ X3.cell? ⟨bx + 1, 1, none⟩ = some (.slice y.A y.n y.c) := ⟨by simpa using k7.cell 0, by simpa using k7.cell 1, by simpa using k8.cell 0, by simpa using k8.cell 1⟩
  refine hK _ _ (fun _ => hS) ?_
  try simp only [Act.put]
  clear hK K hX3 hB3 hB2 k5 k6 k7 k8
  refine Held.one (i := 11) rfl (by kernel_rfl) rfl (fun K hK => ?_)
  unfold Oper.wp
  go_simp
  refine (OrI_any X2.heap.size (cmpI x.t y.t) (cmpR x.r y.r) X3 (by simpa using kz.cell 0) (by simpa using kz.cell 1)).mono ?_
  rintro e X4 ⟨rfl, rfl⟩
  refine hK _ _ (fun _ => hS) ?_
  try simp only [Act.put]
  clear hK K kz
  have HX := hide (show thenC (cmpI x.t y.t) (cmpR x.r y.r) = v from HV.out)
  rw [HX.out]
  refine Held.one (i := 12) rfl (by kernel_rfl) rfl (fun K hK => ?_)
  unfold Oper.wp
  go_simp
  refine hK _ _ (fun _ => hS) ?_
  try simp only [Act.put]
  clear hK K
  refine Held.done (by kernel_rfl) ?_
  clear hS
  go_wp2
  go_ret
  exact ⟨rfl, hB4⟩
end

end Go.Proofs.YtoapjidpfghnlaaGreatDoor
