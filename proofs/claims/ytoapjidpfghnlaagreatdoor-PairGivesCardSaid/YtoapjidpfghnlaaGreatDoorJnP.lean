/-
  The walk of a side's put. No condition.
-/
import Derived.Test.YtoapjidpfghnlaaGreatDoorJnE
import Derived.Test.YtoapjidpfghnlaaGreatDoorPrO
import Derived.Test.YtoapjidpfghnlaaGreatDoorRngH
namespace Go.Proofs.YtoapjidpfghnlaaGreatDoor
open Go.RowKit
attribute [local go_sem] Oper.semAt_some wide_fn wide_depth
set_option linter.unusedVariables false
set_option linter.unusedSimpArgs false

def pSame (t : Int) (r : Rw) (x : Hd) : Bool := decide (x.t = t) && decide (cmpR x.r r = 0)
theorem pSame_is {t : Int} {r : Rw} {x : Hd} {m : Int} (h1 : okR x.r = true) (h2 : okR r = true) : pSame t r x = sameT (thD x) ⟨t, m, r⟩ := by
  unfold pSame sameT
  congr 1
  rw [decide_eq_decide]
  constructor
  · exact fun h => okR_eq h1 h2 h
  · intro h
    have h : x.r = r := h
    rw [h]; exact Tot.row.self r
set_option maxRecDepth 100000 in
set_option maxHeartbeats 2000000 in
theorem put1_any (x : Hd) (t : Int) (A : Option Addr) (n c : Nat) (r : Rw) (m : Int) (cb : Nat) (w : World) (hk : Blk w cb 57 #[.int .i64 t, .slice A n c, .int .i64 m])
    (hx : RowK w w.heap.size x.A x.n x.r) (hr : RowK w w.heap.size A n r) :
    Calls Tryz.prog 198 #[.agg #[.int .i64 x.t, .int .i64 x.m, .slice x.A x.n x.c], .pointer (some ⟨cb, 0, none⟩)] w (RetV w (.bool (pSame t r x))) := by
  have hB := below_val (w := w) #[.int .i64 x.t, .int .i64 x.m, .slice x.A x.n x.c] 144
  have kx := Blk.new w 144 #[.int .i64 x.t, .int .i64 x.m, .slice x.A x.n x.c]
  have kc := hk.below hB hk.lt
  have HC := hide (Compare_any x.A x.n x.c x.r A n c r _ (hx.below hB).rd (hr.below hB).rd hx.le)
  have x0 := kx.cell 0
  have x2 := kx.cell 2
  have c0 := kc.cell 0
  have c1 := kc.cell 1
  simp at x0 x2 c0 c1
  have HB := hide hB
  clear hB hx hr kx kc hk
  by_cases h : x.t = t
  · subst h
    have HP := hide (show pSame x.t r x = decide (cmpR x.r r = 0) by unfold pSame; simp)
    go_enter Tryz.func198, Tryz.ntmps198
    go_wp2_with fail
    refine HC.out.mono ?_
    rintro e W ⟨rfl, hB1⟩
    have HF := hide (bstep HB.out hB1)
    clear hB1
    go_wp2
    go_ret
    refine ⟨ret_bool ?_, HF.out⟩
    rw [HP.out]
    by_cases h : cmpR x.r r = 0 <;> simp [h]
  · have HP := hide (show pSame t r x = false by unfold pSame; simp [h])
    have z : (x.t == t) = false := by simpa using h
    go_enter Tryz.func198, Tryz.ntmps198
    go_wp2_with fail
    go_ret
    exact ⟨ret_bool HP.out.symm, HB.out⟩
/-- What put hands back, and what it makes of the side. -/
def RetJp (w : World) (base bM i : Nat) (f : List UInt8 → List Hd) (S : Nat → Prop) (q : List UInt8) (c : Th) (e : Ending) (w' : World) : Prop := e = .returned (.bool true) ∧
  ∃ l' S', l'.map thD = putT ((f q).map thD) c ∧ HmM w' base bM (i + 1) (fun q' => if q' = q then l' else f q') S' ∧ (∀ k, S' k → S k ∨ w.heap.size ≤ k) ∧ FrJ S bM w w'
theorem flat_setM {l : List Hd} {i : Nat} {x : Hd} (hx : l[i]? = some x) (m : Int) : (l.set i ⟨x.t, m, x.A, x.n, x.c, x.r⟩).flatMap encHd = (l.flatMap encHd).set (i * 3 + 1) (.int .i64 m) := by
  induction l generalizing i with
  | nil => cases hx
  | cons y l ih =>
    cases i with
    | zero =>
      have e : y = x := by simpa using hx
      subst e; rfl
    | succ i =>
      rw [List.set_cons_succ, List.flatMap_cons, List.flatMap_cons, ih (by simpa using hx)]
      rw [show (i + 1) * 3 + 1 = (i * 3 + 1) + 3 by omega]
      rfl
theorem put_lists {l : List Hd} {k : Nat} {x0 : Hd} {c : Th} (hx : l[k]? = some x0) (hs : sameT (thD x0) c = true) (hf : ∀ j x, j < k → l[j]? = some x → sameT (thD x) c = false) :
    (x0.m + c.m = 0 → ((l.set k ⟨x0.t, x0.m + c.m, x0.A, x0.n, x0.c, x0.r⟩).eraseIdx k).map thD = putT (l.map thD) c) ∧ (x0.m + c.m ≠ 0 → (l.set k ⟨x0.t, x0.m + c.m, x0.A, x0.n, x0.c, x0.r⟩).map thD = putT (l.map thD) c) := by
  have hk : k < l.length := (List.getElem?_eq_some_iff.1 hx).1
  have h1 := putT_at (l := l.map thD) (i := k) (h := thD x0) (c := c) (by rw [List.getElem?_map, hx]; rfl) hs (fun j x hj hjx => by
    rw [List.getElem?_map] at hjx
    cases hy : l[j]? with
    | none => rw [hy] at hjx; cases hjx
    | some y =>
      rw [hy] at hjx
      injection hjx with hjx
      rw [← hjx]
      exact hf j y hj hy)
  refine ⟨fun h0 => ?_, fun h0 => ?_⟩
  · rw [h1, if_pos (show (thD x0).m + c.m = 0 from h0), List.eraseIdx_set_eq, List.eraseIdx_eq_take_drop_succ, List.map_append, List.map_take, List.map_drop, List.append_nil]
  · rw [h1, if_neg (show ¬ (thD x0).m + c.m = 0 from h0), List.set_eq_take_append_cons_drop, if_pos hk, List.map_append, List.map_cons, List.map_take, List.map_drop]
    simp [thD, Th.of]
/-- A list of a new block is stored. -/
theorem put_fin {w V1 V4 : World} {base bM i : Nat} {f : List UInt8 → List Hd} {S : Nat → Prop} {s : ByteArray} {v v' : Value} {l' : List Hd} {c : Th} (h : HmM V1 base bM i f S) (hi : i < 1000) (hs : s.data.size ≤ maxLen) (hW : Below w.heap.size w V1) (hB : Below V1.heap.size V1 V4)
    (hv : (Instr.lookup 136 (.map (some bM)) (.string s) false).run Tryz.prog V1 = .ok v V1) (hbase : base ≤ V1.heap.size)
    (hown : V4.ownsRow V1.heap.size 144 3 v' l'.length (l'.flatMap encHd)) (hrows : RowsH V1 base l') (hP : l'.map thD = putT ((f s.data.toList).map thD) c) :
    ∃ V5, (Instr.mapUpdate 136 (.map (some bM)) (.string s) v').run Tryz.prog V4 = .ok () V5 ∧ RetJp w base bM i f S s.data.toList c (.returned (.bool true)) V5 := by
  have hat : v'.ownBlock = none ∨ ∃ g, v'.ownBlock = some g ∧ V1.heap.size ≤ g := by
    cases e : v'.ownBlock with
    | none => exact .inl rfl
    | some g => exact .inr ⟨g, rfl, (hown.lt g e).1⟩
  obtain ⟨V5, hrun, hm, hg⟩ := h.put (w1 := V4) (by omega) hs hv (fun k hk _ => hB.block k hk) hB.size (own_mono hown hbase) (hrows.below hB) (hat.imp id .inr)
  refine ⟨V5, hrun, rfl, l', _, hP, hm, fun k hk => ?_, (FrJ.of_below S bM (bstep hW hB)).grown hg fun k e => .inl (Option.some.inj e).symm⟩
  rcases hk with ⟨h5, _⟩ | h5
  · exact .inl h5
  · rcases hat with e | ⟨g, e, hg⟩
    · rw [e] at h5; cases h5
    · rw [e] at h5
      injection h5 with h5
      have := hW.size
      right; omega
theorem rows_set {w : World} {B : Nat} {l : List Hd} (h : RowsH w B l) {k : Nat} {x0 : Hd} (hx : l[k]? = some x0) (m : Int) : RowsH w B (l.set k ⟨x0.t, m, x0.A, x0.n, x0.c, x0.r⟩) := by
  intro y hy
  rcases List.mem_or_eq_of_mem_set hy with hy | rfl
  · exact h y hy
  · exact h x0 (List.mem_of_getElem? hx)
set_option maxRecDepth 100000 in
set_option maxHeartbeats 8000000 in
theorem jput_any {sb so base bM i : Nat} {f : List UInt8 → List Hd} {S : Nat → Prop} (s : ByteArray) (t : Int) (Ar : Option Addr) (nr cr : Nat) (x : Rw) (m : Int) (w : World)
    (hc : w.cell? ⟨sb, so + 1, none⟩ = some (.map (some bM))) (hSb : ¬ S sb) (h : HmM w base bM i f S) (hi : i < 1000) (hs : s.data.size ≤ maxLen) (hbase : base ≤ w.heap.size)
    (hr : RowK w w.heap.size Ar nr x) (hnr : nr ≤ 1000) (hxo : okR x = true) (hm : -1000 ≤ m ∧ m ≤ 1000) (hl : (f s.data.toList).length ≤ 1000) (hf : ∀ y ∈ f s.data.toList, okR y.r = true ∧ -100000 ≤ y.m ∧ y.m ≤ 100000) :
    Calls Tryz.prog 152 #[.pointer (some ⟨sb, so, none⟩), .string s, .agg #[.int .i64 t, .slice Ar nr cr, .int .i64 m]] w (RetJp w base bM i f S s.data.toList ⟨t, m, x⟩) := by
  have hB0 := below_val (w := w) #[.int .i64 t, .slice Ar nr cr, .int .i64 m] 57
  have kb := Blk.new w 57 #[.int .i64 t, .slice Ar nr cr, .int .i64 m]
  have hsb := World.block_lt_of_cell? _ _ hc
  have c0 := (hB0.cell (p := ⟨sb, so + 1, none⟩) hsb).trans hc
  have h0 := h.below hB0
  have hr0 := hr.below hB0
  obtain ⟨W0, hW0⟩ : ∃ W0, w.alloc (.cells #[.int .i64 t, .slice Ar nr cr, .int .i64 m] 57) = W0 := ⟨_, rfl⟩
  obtain ⟨cb, hcb⟩ : ∃ cb, w.heap.size = cb := ⟨_, rfl⟩
  rw [hW0] at hB0 kb c0 h0 hr0
  rw [hcb] at kb
  obtain ⟨v, hlk, hown, hnb, hvS⟩ := h0.look s hs
  obtain ⟨L, hL⟩ : ∃ L, f s.data.toList = L := ⟨_, rfl⟩
  have hrows := h0.rows s.data.toList
  rw [hL] at hown hl hf hrows
  obtain ⟨A, c, rfl, hrd⟩ := own_form hown
  have hlk0 := hlk W0 rfl
  have HF := hide hf
  have HI := hide (idxH_any A L.length c L W0 hrd (by omega) 198 #[.pointer (some ⟨cb, 0, none⟩)] (pSame t x) (fun _ _ => rfl) (fun y hy W hB => put1_any y t Ar nr cr x m cb W (kb.below hB kb.lt) (((hrows y hy).1.below hB).mono (Nat.le_trans hbase (Nat.le_trans hB0.size hB.size))) ((hr0.below hB).mono (Nat.le_trans hB0.size hB.size))))
  clear hf
  go_enter Tryz.func152, Tryz.ntmps152
  go_wp2_with fail
  refine HI.out.mono ?_
  rintro e W1 ⟨⟨j, rfl, hfi⟩, hB1⟩
  clear HI hlk0
  have hsb0 : sb < W0.heap.size := Nat.lt_of_lt_of_le hsb hB0.size
  have hW01 := bstep hB0 hB1
  have c1 := (hB1.cell (p := ⟨sb, so + 1, none⟩) hsb0).trans c0
  have kb1 := kb.below hB1 kb.lt
  have h1 := h0.below hB1
  have hr1 := (hr0.below hB1).mono (Nat.le_trans hB0.size hB1.size)
  have hown1 := own_below hown hB1
  have hrows1 := hrows.below hB1
  have hlk1 := hlk W1 (hB1.block bM h0.lt)
  have b0 := kb1.cell 0
  have b1 := kb1.cell 1
  have b2 := kb1.cell 2
  simp at b0 b1 b2
  have hvsb : (Value.slice A L.length c).ownBlock ≠ some sb := fun e => hSb (hvS sb e)
  have hvcb : (Value.slice A L.length c).ownBlock ≠ some cb := fun e => by have := (h.typ (hvS cb e)).2.1; omega
  have hbase1 : base ≤ W1.heap.size := Nat.le_trans hbase hW01.size
  have hbm1 := hB1.block bM h0.lt
  clear hB0 hB1 kb c0 h0 hr0 hown hrows hrd hW0 hr hsb0 hsb
  obtain ⟨i0, hi0, hz0, hz1, hz2⟩ := info_parts3 infoHd
  rcases hfi with ⟨hall, rfl⟩ | ⟨k, rfl, hall, x0, hx0, hp0⟩
  · have HPT := hide (show putT (L.map thD) ⟨t, m, x⟩ = L.map thD ++ [⟨t, m, x⟩] from putT_none fun y hy => by
      obtain ⟨z, hz, rfl⟩ := List.mem_map.1 hy
      rw [← pSame_is (m := m) (HF.out z hz).1 hxo]
      exact hall z hz)
    clear hall
    go_wp2_with fail
    refine Held.begin (fun z => z.cell? ⟨sb, so + 1, none⟩ = some (.map (some bM)) ∧ z.cell? ⟨cb, 0, none⟩ = some (.int .i64 t) ∧ z.cell? ⟨cb, 1, none⟩ = some (.slice Ar nr cr) ∧ z.cell? ⟨cb, 2, none⟩ = some (.int .i64 m)) 16 (by kernel_rfl) ?_
    have hbd := (Below.refl W1.heap.size W1).drew
    obtain ⟨X1, hXe⟩ : ∃ X1, W1.drew = X1 := ⟨_, rfl⟩
    rw [hXe] at hbd ⊢
    have h2 := h1.below hbd
    have hown2 := own_below hown1 hbd
    have hrows2 := hrows1.below hbd
    have hr2 := (hr1.below hbd).mono hbd.size
    have hS : X1.cell? ⟨sb, so + 1, none⟩ = some (.map (some bM)) ∧ X1.cell? ⟨cb, 0, none⟩ = some (.int .i64 t) ∧ X1.cell? ⟨cb, 1, none⟩ = some (.slice Ar nr cr) ∧ X1.cell? ⟨cb, 2, none⟩ = some (.int .i64 m) :=
      ⟨(hbd.cell (World.block_lt_of_cell? _ _ c1)).trans c1, (hbd.cell (World.block_lt_of_cell? _ _ b0)).trans b0, (hbd.cell (World.block_lt_of_cell? _ _ b1)).trans b1, (hbd.cell (World.block_lt_of_cell? _ _ b2)).trans b2⟩
    have hB2 := bstep hW01 hbd
    have hbm2 := (hbd.block bM h1.lt).trans hbm1
    clear hXe hbd h1 hown1 hrows1 hr1 c1 b0 b1 b2 hW01 kb1 hlk1
    refine Held.take (i := 0) (.pointer (some ⟨sb, so, none⟩)) rfl hS (by kernel_rfl) (by kernel_rfl) (by kernel_rfl) (by kernel_rfl) (fun _ _ _ h => h) rfl (fun y hy => by obtain ⟨x1, x2, x3, x4⟩ := hy; go_simp) ?_
    try simp only [Act.put]
    refine Held.take (i := 1) (.pointer (some ⟨sb, so, none⟩)) rfl hS (by kernel_rfl) (by kernel_rfl) (by kernel_rfl) (by kernel_rfl) (fun _ _ _ h => h) rfl (fun y hy => by obtain ⟨x1, x2, x3, x4⟩ := hy; go_simp) ?_
    try simp only [Act.put]
    refine Held.take (i := 2) (.pointer (some ⟨sb, so + 1, none⟩)) rfl hS (by kernel_rfl) (by kernel_rfl) (by kernel_rfl) (by kernel_rfl) (fun _ _ _ h => h) rfl (fun y hy => by obtain ⟨x1, x2, x3, x4⟩ := hy; go_simp) ?_
    try simp only [Act.put]
    refine Held.take (i := 3) (.map (some bM)) rfl hS (by kernel_rfl) (by kernel_rfl) (by kernel_rfl) (by kernel_rfl) (fun _ _ _ h => h) rfl (fun y hy => by obtain ⟨x1, x2, x3, x4⟩ := hy; go_simp) ?_
    try simp only [Act.put]
    refine Held.take (i := 4) (.string s) rfl hS (by kernel_rfl) (by kernel_rfl) (by kernel_rfl) (by kernel_rfl) (fun _ _ _ h => h) rfl (fun y hy => by obtain ⟨x1, x2, x3, x4⟩ := hy; go_simp) ?_
    try simp only [Act.put]
    refine Held.take (i := 5) (.slice A L.length c) rfl hS (by kernel_rfl) (by kernel_rfl) (by kernel_rfl) (by kernel_rfl) (fun _ _ _ h => h) rfl (fun y hy => by obtain ⟨x1, x2, x3, x4⟩ := hy; go_simp) ?_
    try simp only [Act.put]
    refine Held.take (i := 6) (.pointer (some ⟨cb, 0, none⟩)) rfl hS (by kernel_rfl) (by kernel_rfl) (by kernel_rfl) (by kernel_rfl) (fun _ _ _ h => h) rfl (fun y hy => by obtain ⟨x1, x2, x3, x4⟩ := hy; go_simp) ?_
    try simp only [Act.put]
    refine Held.take (i := 7) (.int .i64 t) rfl hS (by kernel_rfl) (by kernel_rfl) (by kernel_rfl) (by kernel_rfl) (fun _ _ _ h => h) rfl (fun y hy => by obtain ⟨x1, x2, x3, x4⟩ := hy; go_simp) ?_
    try simp only [Act.put]
    refine Held.take (i := 8) (.pointer (some ⟨cb, 2, none⟩)) rfl hS (by kernel_rfl) (by kernel_rfl) (by kernel_rfl) (by kernel_rfl) (fun _ _ _ h => h) rfl (fun y hy => by obtain ⟨x1, x2, x3, x4⟩ := hy; go_simp) ?_
    try simp only [Act.put]
    refine Held.take (i := 9) (.int .i64 m) rfl hS (by kernel_rfl) (by kernel_rfl) (by kernel_rfl) (by kernel_rfl) (fun _ _ _ h => h) rfl (fun y hy => by obtain ⟨x1, x2, x3, x4⟩ := hy; go_simp) ?_
    try simp only [Act.put]
    refine Held.take (i := 10) (.pointer (some ⟨cb, 1, none⟩)) rfl hS (by kernel_rfl) (by kernel_rfl) (by kernel_rfl) (by kernel_rfl) (fun _ _ _ h => h) rfl (fun y hy => by obtain ⟨x1, x2, x3, x4⟩ := hy; go_simp) ?_
    try simp only [Act.put]
    refine Held.take (i := 11) (.slice Ar nr cr) rfl hS (by kernel_rfl) (by kernel_rfl) (by kernel_rfl) (by kernel_rfl) (fun _ _ _ h => h) rfl (fun y hy => by obtain ⟨x1, x2, x3, x4⟩ := hy; go_simp) ?_
    try simp only [Act.put]
    refine Held.one (i := 12) rfl (by kernel_rfl) rfl (fun K hK => ?_)
    unfold Oper.wp
    go_simp
    refine (CloneC_any Ar nr cr X1.heap.size 0 x X1 hr2 hnr).mono ?_
    rintro e X2 ⟨A', c', rfl, hrow, hcc, hb2⟩
    have h3 := h2.below hb2
    have hown3 := own_below hown2 hb2
    have hrows3 := hrows2.below hb2
    have hB3 := bstep hB2 hb2
    have hbm3 := (hb2.block bM h2.lt).trans hbm2
    have hS2 : X2.cell? ⟨sb, so + 1, none⟩ = some (.map (some bM)) ∧ X2.cell? ⟨cb, 0, none⟩ = some (.int .i64 t) ∧ X2.cell? ⟨cb, 1, none⟩ = some (.slice Ar nr cr) ∧ X2.cell? ⟨cb, 2, none⟩ = some (.int .i64 m) :=
      ⟨(hb2.cell (World.block_lt_of_cell? _ _ hS.1)).trans hS.1, (hb2.cell (World.block_lt_of_cell? _ _ hS.2.1)).trans hS.2.1, (hb2.cell (World.block_lt_of_cell? _ _ hS.2.2.1)).trans hS.2.2.1, (hb2.cell (World.block_lt_of_cell? _ _ hS.2.2.2)).trans hS.2.2.2⟩
    refine hK _ _ (fun _ => hS2) ?_
    try simp only [Act.put]
    clear hK K hS hb2 h2 hown2 hrows2 hr2 hB2
    refine Held.one (i := 13) rfl (by kernel_rfl) rfl (fun K hK => ?_)
    unfold Oper.wp
    go_simp
    refine hK _ _ (fun _ => hS2) ?_
    try simp only [Act.put]
    clear hK K
    refine Held.one (i := 14) rfl (by kernel_rfl) rfl (fun K hK => ?_)
    have hbr := below_val (w := X2) #[.int .i64 t, .int .i64 m, .slice A' nr c'] 144
    have kq := Blk.new X2 144 #[.int .i64 t, .int .i64 m, .slice A' nr c']
    unfold Oper.wp
    go_simp
    obtain ⟨X3, hXe⟩ : ∃ X3, X2.alloc (.cells #[.int .i64 t, .int .i64 m, .slice A' nr c'] 144) = X3 := ⟨_, rfl⟩
    obtain ⟨qb, hqb⟩ : ∃ qb, X2.heap.size = qb := ⟨_, rfl⟩
    have hqx : qb < X3.heap.size := by rw [← hXe, ← hqb]; simp
    rw [hXe] at hbr kq ⊢
    rw [hqb] at kq ⊢
    have h4 := h3.below hbr
    have hown4 := own_below hown3 hbr
    have hrows4 := hrows3.below hbr
    have hrow4 := hrow.below hbr
    have hB4 := bstep hB3 hbr
    have hbm4 := (hbr.block bM h3.lt).trans hbm3
    have hS3 : X3.cell? ⟨sb, so + 1, none⟩ = some (.map (some bM)) ∧ X3.cell? ⟨cb, 0, none⟩ = some (.int .i64 t) ∧ X3.cell? ⟨cb, 1, none⟩ = some (.slice Ar nr cr) ∧ X3.cell? ⟨cb, 2, none⟩ = some (.int .i64 m) :=
      ⟨(hbr.cell (World.block_lt_of_cell? _ _ hS2.1)).trans hS2.1, (hbr.cell (World.block_lt_of_cell? _ _ hS2.2.1)).trans hS2.2.1, (hbr.cell (World.block_lt_of_cell? _ _ hS2.2.2.1)).trans hS2.2.2.1, (hbr.cell (World.block_lt_of_cell? _ _ hS2.2.2.2)).trans hS2.2.2.2⟩
    refine hK _ _ (fun _ => hS3) ?_
    try simp only [Act.put]
    clear hK K hS2 hbr h3 hown3 hrows3 hrow hB3 hXe hqb
    have hrd4 : Reads X3 X3.heap.size 3 (some ⟨qb, 0, none⟩) 1 [.int .i64 t, .int .i64 m, .slice A' nr c'] := ⟨rfl, fun _ => ⟨qb, 0, rfl, hqx, fun j u hu => by rw [Nat.zero_add, kq.cell j]; simpa using hu⟩⟩
    have hbase4 : base ≤ X3.heap.size := Nat.le_trans hbase hB4.size
    refine Held.one (i := 15) rfl (by kernel_rfl) rfl (fun K hK => ?_)
    refine wp_append_any X3 _ _ 184 rfl base 144 i0 _ 3 40 Tryz.underlying184 hi0 hz0 hz1 hz2 rfl (by decide) (.slice A L.length c) L.length (L.flatMap encHd) rfl hown4 X3.heap.size (some ⟨qb, 0, none⟩) 1 1 [.int .i64 t, .int .i64 m, .slice A' nr c'] rfl hrd4 (by
      intro u hu
      simp only [List.mem_cons, List.not_mem_nil, or_false] at hu
      rcases hu with rfl | rfl | rfl <;> rfl) (by unfold maxLen; omega) (by omega) hbase4 ?_
    intro v' X4 hown5 hg5 hat5
    have hS4 : X4.cell? ⟨sb, so + 1, none⟩ = some (.map (some bM)) ∧ X4.cell? ⟨cb, 0, none⟩ = some (.int .i64 t) ∧ X4.cell? ⟨cb, 1, none⟩ = some (.slice Ar nr cr) ∧ X4.cell? ⟨cb, 2, none⟩ = some (.int .i64 m) := by
      have key : ∀ (b o : Nat) (u : Value), X3.cell? ⟨b, o, none⟩ = some u → (Value.slice A L.length c).ownBlock ≠ some b → X4.cell? ⟨b, o, none⟩ = some u := fun b o u hu hne =>
        (World.cell?_of_block (hg5.block b (World.block_lt_of_cell? _ _ hu) fun e => hne e.symm)).trans hu
      exact ⟨key _ _ _ hS3.1 hvsb, key _ _ _ hS3.2.1 hvcb, key _ _ _ hS3.2.2.1 hvcb, key _ _ _ hS3.2.2.2 hvcb⟩
    refine hK _ _ (fun _ => hS4) ?_
    try simp only [Act.put]
    clear hK K hS3
    have hown6 : X4.ownsRow base 144 3 v' (L ++ [(⟨t, m, A', nr, c', x⟩ : Hd)]).length ((L ++ [(⟨t, m, A', nr, c', x⟩ : Hd)]).flatMap encHd) := by
      rw [List.length_append, List.flatMap_append]
      exact hown5
    have hrows6 : RowsH X4 base (L ++ [(⟨t, m, A', nr, c', x⟩ : Hd)]) := by
      intro y hy
      rcases List.mem_append.1 hy with hy | hy
      · exact ⟨(hrows4 y hy).1.grown hown4 (by decide) (Nat.le_refl _) hg5, (hrows4 y hy).2⟩
      · obtain rfl : y = ⟨t, m, A', nr, c', x⟩ := by simpa using hy
        exact ⟨(hrow4.grown hown4 (by decide) (Nat.zero_le _) hg5).mono (Nat.zero_le _), hcc⟩
    have hlk5 := hlk X3 hbm4
    obtain ⟨X5, hrun, hm6, hg6⟩ := h4.put (by omega) hs hlk5 (fun k hk hne => hg5.block k hk fun e => hne e.symm) hg5.size hown6 hrows6 (by
      rcases hat5 with e | e
      · exact .inr (.inl e)
      · exact .inr (.inr ⟨_, e, Nat.le_refl _⟩))
    have HS' := hide (show ∀ k, ((S k ∧ (Value.slice A L.length c).ownBlock ≠ some k) ∨ v'.ownBlock = some k) → S k ∨ w.heap.size ≤ k from fun k hk => by
      rcases hk with ⟨h5, _⟩ | h5
      · exact .inl h5
      · rcases hat5 with e | e
        · exact .inl (hvS k (e ▸ h5))
        · right
          rw [e] at h5
          injection h5 with h5
          have := hB4.size
          omega)
    have HFR := hide (((FrJ.of_below S bM hB4).grown hg5 (fun k e => .inr (.inl (hvS k e)))).grown hg6 (fun k e => .inl (by injection e with e; exact e.symm)))
    have HM := hide hm6
    clear hown5 hat5 hown6 hrows6 hg5 hg6 hm6 hlk5 h4 hown4 hrows4 hrow4 hrd4 kq hlk
    refine Held.one (i := 16) rfl (by kernel_rfl) rfl (fun K hK => ?_)
    unfold Oper.wp
    go_simp
    refine hK _ _ (fun h => absurd rfl h) ?_
    try simp only [Act.put]
    clear hK K hS4 hrun
    refine Held.done (by kernel_rfl) ?_
    go_wp2_with fail
    go_ret
    unfold RetJp
    rw [hL]
    exact ⟨rfl, L ++ [(⟨t, m, A', nr, c', x⟩ : Hd)], _, by rw [HPT.out, List.map_append]; rfl, HM.out, HS'.out, HFR.out⟩
  · have hk : k < L.length := (List.getElem?_eq_some_iff.1 hx0).1
    obtain ⟨b, off, x0', hA, hb, hx0', hcx⟩ := (Reads.of_own hown1).elem encHd_len rfl hk
    rw [hx0] at hx0'
    injection hx0' with hx0'
    subst hx0'
    subst hA
    have e1 : W1.cell? ⟨b, off + k * 3 + 1, none⟩ = some (.int .i64 x0.m) := by simpa [← Nat.add_assoc] using hcx 1 _ rfl
    obtain ⟨hxok, hm1, hm2⟩ := HF.out x0 (List.mem_of_getElem? hx0)
    have HLS := hide (put_lists (c := ⟨t, m, x⟩) hx0 (by rw [← pSame_is hxok hxo]; exact hp0) (fun j y hj hy => by
      rw [← pSame_is (HF.out y (List.mem_of_getElem? hy)).1 hxo]
      refine hall y ?_
      rw [← List.getElem?_take_of_lt hj] at hy
      exact List.mem_of_getElem? hy))
    obtain ⟨nm, hnm⟩ : ∃ nm, x0.m + m = nm := ⟨_, rfl⟩
    have HX0 := hide hx0
    have HNM := hide hnm
    have hnr2 : -1000000 ≤ nm ∧ nm ≤ 1000000 := by omega
    have hwr : IntKind.i64.wrap (x0.m + m) = nm := by rw [IntKind.wrap_i64]; omega
    have hbt : btw nm (-1000000) 1000000 = true := btw_iff.2 hnr2
    have q1 : (0 : Int) ≤ (k : Int) := by omega
    have q2 : (k : Int) < (L.length : Int) := by omega
    have HLK := hide hlk
    have HVS := hide hvS
    have HM1 := hide h1
    have HR1 := hide hrows1
    have HO1 := hide hown1
    clear hall hp0 hx0 hcx hnm hlk hlk1 hvS hrows1 hown1 hnb hvsb hvcb h1 hnr2 hr1 kb1 b0 b1 hm1 hm2 hxok hm
    go_wp2_with fail
    go_quiet (fail)
    obtain ⟨V1, hV1⟩ : ∃ V, W1.drewN nq = V := ⟨_, rfl⟩
    have hBV : Below W1.heap.size W1 V1 := by rw [← hV1]; exact below_drewN (Below.refl _ _) _
    rw [hV1]
    have hownV := own_below HO1.out hBV
    have cV := (hBV.cell (World.block_lt_of_cell? _ _ c1)).trans c1
    have hsbV := World.block_lt_of_cell? _ _ cV
    have hWV := bstep hW01 hBV
    have HMV := hide (HM1.out.below hBV)
    have HRV := hide (HR1.out.below hBV)
    have HLV := hide (HLK.out V1 ((hBV.block bM HM1.out.lt).trans hbm1))
    have hbaseV : base ≤ V1.heap.size := Nat.le_trans hbase hWV.size
    clear hV1 hBV hW01 c1 e1 b2 HLK HM1 HR1 HO1 hbase1 hb hbm1
    go_wp2_with (go_at_call 68; refine (pwithin_any nm _ _ _).mono ?_; rintro e w' ⟨rfl, rfl⟩; rw [hbt])
    refine (CloneH_any V1 hownV (by omega)).mono ?_
    rintro e V2 ⟨A2, c2, rfl, hown2, hB2⟩
    obtain ⟨g2, cap2, hv2, hg2, hg2'⟩ := hown2.form (by omega)
    injection hv2 with hA2 _ hc2
    subst hA2 hc2
    have c2' := (hB2.cell hsbV).trans cV
    have y1 : V2.cell? ⟨g2, k * 3 + 1, none⟩ = some (.int .i64 x0.m) := by
      obtain ⟨b', off', x', hA', _, hx', hc'⟩ := (Reads.of_own hown2).elem encHd_len rfl hk
      rw [HX0.out] at hx'
      injection hx' with hx'
      subst hx'
      injection hA' with hA'
      injection hA' with e1 e2
      subst e1 e2
      simpa using hc' 1 _ rfl
    obtain ⟨cur, hcur⟩ := own_blk hown2
    have fz := hcur.frozen (k * 3 + 1)
    have hown3 := own_store2 (j := k * 3 + 1) hown2 (.int .i64 nm)
    rw [← flat_setM HX0.out nm] at hown3
    have hB3 : Below V1.heap.size V1 (V2.setCell ⟨g2, k * 3 + 1, none⟩ (.int .i64 nm)) := hB2.setCell (p := ⟨g2, k * 3 + 1, none⟩) hg2 _
    have c3 : (V2.setCell ⟨g2, k * 3 + 1, none⟩ (.int .i64 nm)).cell? ⟨sb, so + 1, none⟩ = some (.map (some bM)) := (hB3.cell hsbV).trans cV
    have HLS2 := hide (HLS.out.imp (fun h (e : nm = 0) => by have := h (HNM.out.trans e); rw [HNM.out] at this; exact this) (fun h (e : nm ≠ 0) => by have := h (fun e2 => e (HNM.out.symm.trans e2)); rw [HNM.out] at this; exact this))
    have HR3 := hide (rows_set HRV.out HX0.out nm)
    have hlen3 : (L.set k ⟨x0.t, nm, x0.A, x0.n, x0.c, x0.r⟩).length = L.length := List.length_set
    obtain ⟨L1, hL1⟩ : ∃ L1, L.set k (⟨x0.t, nm, x0.A, x0.n, x0.c, x0.r⟩ : Hd) = L1 := ⟨_, rfl⟩
    rw [hL1] at HLS2 HR3 hown3 hlen3
    clear hownV hown2 hcur hB2 hg2' HLS hL1 HRV
    go_upto_region 11 with fail
    obtain ⟨V3, hV3⟩ : ∃ V3, V2.setCell ⟨g2, k * 3 + 1, none⟩ (.int .i64 nm) = V3 := ⟨_, rfl⟩
    rw [hV3] at hown3 hB3 c3 ⊢
    clear hV3 y1 fz c2'
    by_cases hz : nm = 0
    · subst hz
      have hP := HLS2.out.1 rfl
      go_wp2_with fail
      refine (DeleteH_any V1.heap.size g2 L.length c2 k L1 V3 hown3 (by omega) hk).mono ?_
      rintro e V4 ⟨rfl, hown4, hbar4⟩
      have hB4 : Below V1.heap.size V1 V4 := hB3.trans (hbar4.below hB3.size (by intro x hx; rw [List.mem_singleton.1 hx]; exact hg2))
      have c4 := (hB4.cell hsbV).trans cV
      rw [← hL] at hP
      obtain ⟨V5, hrun, hret⟩ := put_fin HMV.out hi hs hWV hB4 HLV.out hbaseV hown4 (HR3.out.sub fun y hy => List.mem_of_mem_eraseIdx hy) hP
      have HRT := hide hret
      clear hown4 hbar4 hB4 hret hP hown3 hB3 c3 cV
      go_wp2_with fail
      go_ret
      exact HRT.out
    · have hP := HLS2.out.2 hz
      have z : (nm == 0) = false := by simpa using hz
      rw [← hL] at hP
      obtain ⟨V5, hrun, hret⟩ := put_fin HMV.out hi hs hWV hB3 HLV.out hbaseV (by rw [hlen3]; exact hown3) HR3.out hP
      have HRT := hide hret
      clear hret hP hown3 hB3 cV hz
      go_wp2_with fail
      go_ret
      exact HRT.out
end Go.Proofs.YtoapjidpfghnlaaGreatDoor
