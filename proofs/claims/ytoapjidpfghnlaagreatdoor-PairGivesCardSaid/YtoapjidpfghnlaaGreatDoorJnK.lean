/-
  The walks of a joiner's Left and Right. No condition. (Printed by gen_jnL.)
  The walks of a joiner's Mark and Held. No condition.
-/
import Derived.Test.YtoapjidpfghnlaaGreatDoorJnV
import Derived.Test.YtoapjidpfghnlaaGreatDoorJnC
import Derived.StillTailTactics
namespace Go.Proofs.YtoapjidpfghnlaaGreatDoor

section
open Go.RowKit
attribute [local go_sem] Oper.semAt_some wide_fn wide_depth
set_option linter.unusedVariables false
set_option linter.unusedSimpArgs false

def mapT (f : List UInt8 → List Hd) : List UInt8 → List Th := fun k => (f k).map thD
def ownJ (left : Bool) (s : JoS) : List Int := if left then s.on else s.others
def othF (left : Bool) (fL fR : List UInt8 → List Hd) : List UInt8 → List Hd := if left then fR else fL
/-- What Left and Right hand back, and what they make of the joiner. -/
def RetLf (left : Bool) (w : World) (base b bL bR : Nat) (s : JoS) (mk : Int) (i : Nat) (fL fR : List UInt8 → List Hd) (SL SR : Nat → Prop) (c : Th) (e : Ending) (w' : World) : Prop :=
  ∃ A n cc lst E, e = .returned (.tuple #[.slice A n cc, .int .i64 E]) ∧ E = tlE left (ownJ left s) s.lo s.hi mk c (mapT (othF left fL fR) (keyJ (ownJ left s) c.r)) ∧ NC w' w.heap.size base A n lst ∧ FrP (jP b bL bR SL SR) w w' ∧
    (E ≠ 0 → lst = [] ∧ JO w' base b bL bR s mk i fL fR SL SR) ∧
    (E = 0 → (lst.map thC).Perm (rawJ left (ownJ left s) s.lo s.hi c (mapT (othF left fL fR) (keyJ (ownJ left s) c.r))) ∧ lst.Pairwise (fun x y => ¬ cmpT (thC y) (thC x) < 0) ∧
      ∃ fL' fR' SL' SR', JO w' base b bL bR s mk (i + 1) fL' fR' SL' SR' ∧ mapT fL' = (if left then putF' s.on (mapT fL) c else mapT fL) ∧ mapT fR' = (if left then mapT fR else putF' s.others (mapT fR) c))
theorem NC.far_mono {W : World} {N N' B n : Nat} {A : Option Addr} {l : List Ch} (h : NC W N B A n l) (hN : N' ≤ N) : NC W N' B A n l := ⟨h.rd, fun h0 b off m e => Nat.le_trans hN (h.far h0 b off m e), h.rows, h.le⟩
theorem JSt.len_l {on others : List Int} {q : Nat} {L R : List Th} {f g : List UInt8 → List Hd} (h : JSt on others q L R (mapT f) (mapT g)) (k : List UInt8) : (f k).length ≤ q ∧ (g k).length ≤ q := by
  have h1 := h.jl.len k
  have h2 := h.jr.len k
  have h3 := h.bl.len
  have h4 := h.br.len
  unfold mapT at h1 h2
  rw [List.length_map] at h1 h2
  omega
theorem JSt.at_l {on others : List Int} {q : Nat} {L R : List Th} {f g : List UInt8 → List Hd} (h : JSt on others q L R (mapT f) (mapT g)) (hq : q ≤ 40) (k : List UInt8) {y : Hd} (hy : y ∈ f k) : okR y.r = true ∧ -4000 ≤ y.m ∧ y.m ≤ 4000 ∧ -1000000000000 ≤ y.t ∧ y.t ≤ 1000000000000 := by
  have hin : thD y ∈ L := h.jl.mem (k := k) (List.mem_map.2 ⟨y, hy, rfl⟩)
  have h1 := h.bl.ok _ hin
  have h2 := h.bl.num _ hin
  have h3 : (thD y).m = y.m := rfl
  have h4 : (thD y).t = y.t := rfl
  exact ⟨h1.1, by omega, by omega, by omega, by omega⟩
theorem JSt.at_r {on others : List Int} {q : Nat} {L R : List Th} {f g : List UInt8 → List Hd} (h : JSt on others q L R (mapT f) (mapT g)) (hq : q ≤ 40) (k : List UInt8) {y : Hd} (hy : y ∈ g k) : okR y.r = true ∧ -4000 ≤ y.m ∧ y.m ≤ 4000 ∧ -1000000000000 ≤ y.t ∧ y.t ≤ 1000000000000 := by
  have hin : thD y ∈ R := h.jr.mem (k := k) (List.mem_map.2 ⟨y, hy, rfl⟩)
  have h1 := h.br.ok _ hin
  have h2 := h.br.num _ hin
  have h3 : (thD y).m = y.m := rfl
  have h4 : (thD y).t = y.t := rfl
  exact ⟨h1.1, by omega, by omega, by omega, by omega⟩
theorem JOk.len_r {x : Rw} {n : Nat} {w : World} {B : Nat} {A : Option Addr} (h : RowK w B A n x) (hx : okR x = true) : n ≤ 8 := by
  have h1 := okR_len hx
  have h2 : x.length = n := h.len
  omega
theorem jLeft_nil (t : Int) (Ar : Option Addr) (nr cr : Nat) (m : Int) (w : World) : Calls Tryz.prog 38 #[.pointer none, .agg #[.int .i64 t, .slice Ar nr cr, .int .i64 m]] w (fun e w' => e = .returned (.tuple #[.slice none 0 0, .int .i64 1]) ∧ Below w.heap.size w w') := by
  have hb1 := below_val (w := w) #[.pointer none] 64
  have hb2 := below_val (w := w.alloc (.cells #[.pointer none] 64)) #[.int .i64 t, .slice Ar nr cr, .int .i64 m] 57
  have HB := hide (bstep hb1 hb2)
  have k1 := (Blk.new w 64 #[.pointer none]).below hb2 (by simp)
  have c1 := k1.cell 0
  simp at c1
  clear hb1 hb2 k1
  go_enter Tryz.func38, Tryz.ntmps38
  go_wp2
  refine bodyPost_ret (results_tmp2 rfl _ _ _) rfl ?_
  exact ⟨rfl, HB.out⟩
set_option maxRecDepth 100000 in
set_option maxHeartbeats 8000000 in
theorem jLeft_any {base b bL bR i q : Nat} {s : JoS} {mk : Int} {fL fR : List UInt8 → List Hd} {SL SR : Nat → Prop} {LT RT : List Th} (t : Int) (Ar : Option Addr) (nr cr : Nat) (x : Rw) (m : Int) (w : World)
    (h : JO w base b bL bR s mk i fL fR SL SR) (hJ : JSt s.on s.others q LT RT (mapT fL) (mapT fR)) (hq : q ≤ 40) (hi : i < 1000) (hbase : base ≤ w.heap.size) (hn1 : s.n1 ≤ 1000) (hn2 : s.n2 ≤ 1000)
    (hr : RowK w w.heap.size Ar nr x) (hrc : nr ≤ cr) (ht : Tab w) (hm : -100 ≤ m ∧ m ≤ 100) :
    Calls Tryz.prog 38 #[.pointer (some ⟨b, 0, none⟩), .agg #[.int .i64 t, .slice Ar nr cr, .int .i64 m]] w (RetLf true w base b bL bR s mk i fL fR SL SR ⟨t, m, x⟩) := by
  have hb1 := below_val (w := w) #[.pointer (some ⟨b, 0, none⟩)] 64
  have hb2 := below_val (w := w.alloc (.cells #[.pointer (some ⟨b, 0, none⟩)] 64)) #[.int .i64 t, .slice Ar nr cr, .int .i64 m] 57
  have hB0 := bstep hb1 hb2
  have k1 := (Blk.new w 64 #[.pointer (some ⟨b, 0, none⟩)]).below hb2 (by simp)
  have k2 := Blk.new (w.alloc (.cells #[.pointer (some ⟨b, 0, none⟩)] 64)) 57 #[.int .i64 t, .slice Ar nr cr, .int .i64 m]
  rw [World.size_alloc] at k2
  have h0 := h.below hB0
  have hr0 := (hr.below hB0).mono hB0.size
  have ht0 := ht.below hB0
  have hlt := fun k (hk : jP b bL bR SL SR k) => h.lt hk
  clear hb1 hb2 h hr ht
  go_enter Tryz.func38, Tryz.ntmps38
  go_upto_region 1 with fail
  obtain ⟨W0, hW0⟩ : ∃ W0, (w.alloc (.cells #[.pointer (some ⟨b, 0, none⟩)] 64)).alloc (.cells #[.int .i64 t, .slice Ar nr cr, .int .i64 m] 57) = W0 := ⟨_, rfl⟩
  obtain ⟨jx, hjx⟩ : ∃ jx, w.heap.size = jx := ⟨_, rfl⟩
  rw [hW0] at hB0 k1 k2 h0 hr0 ht0 ⊢
  rw [hjx] at k1 k2 ⊢
  clear hW0
  have c0 : W0.cell? ⟨jx, 0, none⟩ = some (.pointer (some ⟨b, 0, none⟩)) := by simpa using k1.cell 0
  have HLT := hide hlt
  clear hlt
  go_upto_region 3 with fail
  refine Held.begin (fun z => z.cell? ⟨jx, 0, none⟩ = some (.pointer (some ⟨b, 0, none⟩)) ∧ z.cell? ⟨jx + 1, 0, none⟩ = some (.int .i64 t) ∧ z.cell? ⟨jx + 1, 1, none⟩ = some (.slice Ar nr cr) ∧ z.cell? ⟨jx + 1, 2, none⟩ = some (.int .i64 m)) 13 (by kernel_rfl) ?_
  have hbd := (Below.refl W0.heap.size W0).drew
  obtain ⟨X1, hXe⟩ : ∃ X1, W0.drew = X1 := ⟨_, rfl⟩
  rw [hXe] at hbd ⊢
  have kx1 := k1.below hbd k1.lt
  have kx2 := k2.below hbd k2.lt
  have hJ1 := h0.below hbd
  have hr1 := (hr0.below hbd).mono hbd.size
  have ht1 := ht0.below hbd
  have hB1 := bstep hB0 hbd
  have hS : X1.cell? ⟨jx, 0, none⟩ = some (.pointer (some ⟨b, 0, none⟩)) ∧ X1.cell? ⟨jx + 1, 0, none⟩ = some (.int .i64 t) ∧ X1.cell? ⟨jx + 1, 1, none⟩ = some (.slice Ar nr cr) ∧ X1.cell? ⟨jx + 1, 2, none⟩ = some (.int .i64 m) := ⟨by simpa using kx1.cell 0, by simpa using kx2.cell 0, by simpa using kx2.cell 1, by simpa using kx2.cell 2⟩
  clear hXe hbd k1 k2 h0 hr0 ht0 hB0 c0
  refine Held.take (i := 0) (.pointer (some ⟨b, 0, none⟩)) rfl hS (by kernel_rfl) (by kernel_rfl) (by kernel_rfl) (by kernel_rfl) (fun _ _ _ h => h) rfl (fun y hy => by obtain ⟨x1, x2, x3, x4⟩ := hy; go_simp) ?_
  try simp only [Act.put]
  refine Held.take (i := 1) (.pointer (some ⟨b, 0, none⟩)) rfl hS (by kernel_rfl) (by kernel_rfl) (by kernel_rfl) (by kernel_rfl) (fun _ _ _ h => h) rfl (fun y hy => by obtain ⟨x1, x2, x3, x4⟩ := hy; go_simp) ?_
  try simp only [Act.put]
  refine Held.take (i := 2) (.pointer (some ⟨b, 0, none⟩)) rfl hS (by kernel_rfl) (by kernel_rfl) (by kernel_rfl) (by kernel_rfl) (fun _ _ _ h => h) rfl (fun y hy => by obtain ⟨x1, x2, x3, x4⟩ := hy; go_simp) ?_
  try simp only [Act.put]
  refine Held.take (i := 3) (.pointer (some ⟨b, 0, none⟩)) rfl hS (by kernel_rfl) (by kernel_rfl) (by kernel_rfl) (by kernel_rfl) (fun _ _ _ h => h) rfl (fun y hy => by obtain ⟨x1, x2, x3, x4⟩ := hy; go_simp) ?_
  try simp only [Act.put]
  refine Held.take (i := 4) (.pointer (some ⟨b, 0, none⟩)) rfl hS (by kernel_rfl) (by kernel_rfl) (by kernel_rfl) (by kernel_rfl) (fun _ _ _ h => h) rfl (fun y hy => by obtain ⟨x1, x2, x3, x4⟩ := hy; go_simp) ?_
  try simp only [Act.put]
  refine Held.take (i := 5) (.pointer (some ⟨b, 0, none⟩)) rfl hS (by kernel_rfl) (by kernel_rfl) (by kernel_rfl) (by kernel_rfl) (fun _ _ _ h => h) rfl (fun y hy => by obtain ⟨x1, x2, x3, x4⟩ := hy; go_simp) ?_
  try simp only [Act.put]
  refine Held.take (i := 6) (.pointer (some ⟨b, 2, none⟩)) rfl hS (by kernel_rfl) (by kernel_rfl) (by kernel_rfl) (by kernel_rfl) (fun _ _ _ h => h) rfl (fun y hy => by obtain ⟨x1, x2, x3, x4⟩ := hy; go_simp) ?_
  try simp only [Act.put]
  refine Held.take (i := 7) (.agg #[.int .i64 t, .slice Ar nr cr, .int .i64 m]) rfl hS (by kernel_rfl) (by kernel_rfl) (by kernel_rfl) (by kernel_rfl) (fun _ _ _ h => h) rfl (fun y hy => by obtain ⟨x1, x2, x3, x4⟩ := hy; go_simp) ?_
  try simp only [Act.put]
  refine Held.take (i := 8) (.func (Fn.func 108) #[] #[.pointer (some ⟨jx + 1, 0, none⟩), .pointer (some ⟨jx, 0, none⟩)]) rfl hS (by kernel_rfl) (by kernel_rfl) (by kernel_rfl) (by kernel_rfl) (fun _ _ _ h => h) rfl (fun y hy => by obtain ⟨x1, x2, x3, x4⟩ := hy; go_simp) ?_
  try simp only [Act.put]
  have j0 := hJ1.blk.cell 0
  have j1 := hJ1.blk.cell (0 + 1)
  have j2 := hJ1.blk.cell (2 + 1)
  have j4 := hJ1.blk.cell 4
  have j5 := hJ1.blk.cell 5
  have j6 := hJ1.blk.cell 6
  simp [JoS.cells] at j0 j1 j2 j4 j5 j6
  have HTL := hide (jtell_any true (so := 0) (oo := 2) (base := base) s.A1 s.n1 s.c1 s.on s.lo s.hi mk t Ar nr cr x m X1 j0 j1 j2 j6 hJ1.far.2.2.1.1 hJ1.l hJ1.r hi (Nat.le_trans hbase hB1.size) hJ1.on.rd hn1 hr1 hrc ht1 hm
    (fun k => by have := (hJ.len_l k).1; omega) (fun k y hy => by have h9 := hJ.at_l hq k hy; exact ⟨h9.1, by omega, by omega⟩) (fun k => by have := (hJ.len_l k).2; omega) (fun k y hy => by have h9 := hJ.at_r hq k hy; exact ⟨h9.1, by omega, by omega⟩)
    108 #[.pointer (some ⟨jx + 1, 0, none⟩), .pointer (some ⟨jx, 0, none⟩)] (fun _ _ => rfl)
    (fun hok k y hy W hB => by
      have h9 := hJ.at_r hq k hy
      obtain ⟨hxo, _, ht8, ht9⟩ := okCh_at (c := ⟨t, m, x⟩) hok
      have hyr := (((hJ1.r.rows k) y hy).1.below hB).mono (Nat.le_trans hbase (Nat.le_trans hB1.size hB.size))
      have hrW := (hr1.below hB).mono hB.size
      have hn8 := JOk.len_r hrW hxo
      have hy8 := JOk.len_r hyr h9.1
      have hlen : (jnT true ⟨t, m, x⟩ (thD y)).r.length = nr + y.n := by
        have e1 : x.length = nr := hrW.len
        have e2 : y.r.length = y.n := hyr.len
        simp [jnT, thD, e1, e2]
      rw [hlen]
      have hbl : b < X1.heap.size := hJ1.blk.lt
      exact jLeft1_any (jx + 1) jx b Ar nr cr t m x y s.lo s.hi W ((hB.cell (p := ⟨jx + 1, 0, none⟩) kx2.lt).trans hS.2.1) ((hB.cell (p := ⟨jx + 1, 1, none⟩) kx2.lt).trans hS.2.2.1) ((hB.cell (p := ⟨jx, 0, none⟩) kx1.lt).trans hS.1) ((hB.cell (p := ⟨b, 4, none⟩) hbl).trans j4) ((hB.cell (p := ⟨b, 5, none⟩) hbl).trans j5) hrW hyr (by omega) (by omega) ⟨ht8, ht9⟩ ⟨h9.2.2.2.1, h9.2.2.2.2⟩))
  clear j0 j1 j2 j4 j5 j6
  refine Held.one (i := 9) rfl (by kernel_rfl) rfl (fun K hK => ?_)
  unfold Oper.wp
  go_simp
  refine HTL.out.mono ?_
  rintro e X2 ⟨A, n, cc, lst, rfl, hnc, hbad, hok⟩
  obtain ⟨E, hE⟩ : ∃ E, tlE true s.on s.lo s.hi mk ⟨t, m, x⟩ ((fR (keyJ s.on (⟨t, m, x⟩ : Th).r)).map thD) = E := ⟨_, rfl⟩
  rw [hE] at hbad hok ⊢
  have hfr : FrJ SL bL X1 X2 := by
    by_cases h0 : E = 0
    · obtain ⟨_, _, _, _, _, _, _, h9⟩ := hok h0
      exact h9
    · exact FrJ.of_below _ _ (hbad h0).2
  have hkp : ∀ k, jx ≤ k → k < X1.heap.size → X2.heap[k]? = X1.heap[k]? := fun k h1 h2 => hfr.block k h2 (fun e => by have := HLT.out bL (show jP b bL bR SL SR _ from .inr (.inl rfl)); omega) fun e => by have := HLT.out k ((fun (h : SL _) => (show jP b bL bR SL SR _ from .inr (.inr (.inr (.inl h))))) e); omega
  have hS2 : X2.cell? ⟨jx, 0, none⟩ = some (.pointer (some ⟨b, 0, none⟩)) ∧ X2.cell? ⟨jx + 1, 0, none⟩ = some (.int .i64 t) ∧ X2.cell? ⟨jx + 1, 1, none⟩ = some (.slice Ar nr cr) ∧ X2.cell? ⟨jx + 1, 2, none⟩ = some (.int .i64 m) :=
    ⟨(World.cell?_of_block (a := ⟨jx, 0, none⟩) (hkp jx (by omega) kx1.lt)).trans hS.1, (World.cell?_of_block (a := ⟨jx + 1, 0, none⟩) (hkp (jx + 1) (by omega) kx2.lt)).trans hS.2.1, (World.cell?_of_block (a := ⟨jx + 1, 1, none⟩) (hkp (jx + 1) (by omega) kx2.lt)).trans hS.2.2.1, (World.cell?_of_block (a := ⟨jx + 1, 2, none⟩) (hkp (jx + 1) (by omega) kx2.lt)).trans hS.2.2.2⟩
  have HRES := hide (show RetLf true w base b bL bR s mk i fL fR SL SR ⟨t, m, x⟩ (.returned (.tuple #[.slice A n cc, .int .i64 E])) X2 from by
    have hb1 : w.heap.size ≤ X1.heap.size := hB1.size
    refine ⟨A, n, cc, lst, E, rfl, hE.symm, hnc.far_mono hb1, (FrP.of_below hB1).trans (hfr.frp) (fun k hk => .inl ?_), fun h0 => ⟨(hbad h0).1, hJ1.below (hbad h0).2⟩, fun h0 => ?_⟩
    · rcases hk with hk | hk
      · rw [hk]; exact (show jP b bL bR SL SR _ from .inr (.inl rfl))
      · exact (fun (h : SL _) => (show jP b bL bR SL SR _ from .inr (.inr (.inr (.inl h))))) hk
    · obtain ⟨hp, hpw, l', S2, hl2, hm2, hS2, hfr2⟩ := hok h0
      refine ⟨hp, hpw, (fun k => if k = keyJ s.on x then l' else fL k), fR, S2, SR, hJ1.left (Nat.le_succ i) hfr2 hm2 (fun k hk => hS2 k hk), ?_, ?_⟩
      all_goals first | rfl | (funext k; unfold mapT putF'; by_cases e : k = keyJ s.on x <;> simp [e]; exact hl2))
  refine hK _ _ (fun _ => hS2) ?_
  try simp only [Act.put]
  clear hK K hS HTL hnc hbad hok hfr hkp hE kx1 kx2 hJ1 hr1 ht1
  have hS := hS2
  refine Held.take (i := 10) (.slice A n cc) rfl hS (by kernel_rfl) (by kernel_rfl) (by kernel_rfl) (by kernel_rfl) (fun _ _ _ h => h) rfl (fun y hy => by obtain ⟨x1, x2, x3, x4⟩ := hy; go_simp) ?_
  try simp only [Act.put]
  refine Held.take (i := 11) (.int .i64 E) rfl hS (by kernel_rfl) (by kernel_rfl) (by kernel_rfl) (by kernel_rfl) (fun _ _ _ h => h) rfl (fun y hy => by obtain ⟨x1, x2, x3, x4⟩ := hy; go_simp) ?_
  try simp only [Act.put]
  refine Held.one (i := 12) rfl (by kernel_rfl) rfl (fun K hK => ?_)
  unfold Oper.wp
  go_simp
  refine hK _ _ (fun _ => hS2) ?_
  try simp only [Act.put]
  clear hK K
  refine Held.one (i := 13) rfl (by kernel_rfl) rfl (fun K hK => ?_)
  unfold Oper.wp
  go_simp
  refine hK _ _ (fun _ => hS2) ?_
  try simp only [Act.put]
  clear hK K
  refine Held.done (by kernel_rfl) ?_
  clear hS hS2
  go_wp2
  refine bodyPost_ret (results_tmp2 rfl _ _ _) rfl ?_
  exact HRES.out
theorem jRight_nil (t : Int) (Ar : Option Addr) (nr cr : Nat) (m : Int) (w : World) : Calls Tryz.prog 39 #[.pointer none, .agg #[.int .i64 t, .slice Ar nr cr, .int .i64 m]] w (fun e w' => e = .returned (.tuple #[.slice none 0 0, .int .i64 1]) ∧ Below w.heap.size w w') := by
  have hb1 := below_val (w := w) #[.pointer none] 64
  have hb2 := below_val (w := w.alloc (.cells #[.pointer none] 64)) #[.int .i64 t, .slice Ar nr cr, .int .i64 m] 57
  have HB := hide (bstep hb1 hb2)
  have k1 := (Blk.new w 64 #[.pointer none]).below hb2 (by simp)
  have c1 := k1.cell 0
  simp at c1
  clear hb1 hb2 k1
  go_enter Tryz.func39, Tryz.ntmps39
  go_wp2
  refine bodyPost_ret (results_tmp2 rfl _ _ _) rfl ?_
  exact ⟨rfl, HB.out⟩
set_option maxRecDepth 100000 in
set_option maxHeartbeats 8000000 in
theorem jRight_any {base b bL bR i q : Nat} {s : JoS} {mk : Int} {fL fR : List UInt8 → List Hd} {SL SR : Nat → Prop} {LT RT : List Th} (t : Int) (Ar : Option Addr) (nr cr : Nat) (x : Rw) (m : Int) (w : World)
    (h : JO w base b bL bR s mk i fL fR SL SR) (hJ : JSt s.on s.others q LT RT (mapT fL) (mapT fR)) (hq : q ≤ 40) (hi : i < 1000) (hbase : base ≤ w.heap.size) (hn1 : s.n1 ≤ 1000) (hn2 : s.n2 ≤ 1000)
    (hr : RowK w w.heap.size Ar nr x) (hrc : nr ≤ cr) (ht : Tab w) (hm : -100 ≤ m ∧ m ≤ 100) :
    Calls Tryz.prog 39 #[.pointer (some ⟨b, 0, none⟩), .agg #[.int .i64 t, .slice Ar nr cr, .int .i64 m]] w (RetLf false w base b bL bR s mk i fL fR SL SR ⟨t, m, x⟩) := by
  have hb1 := below_val (w := w) #[.pointer (some ⟨b, 0, none⟩)] 64
  have hb2 := below_val (w := w.alloc (.cells #[.pointer (some ⟨b, 0, none⟩)] 64)) #[.int .i64 t, .slice Ar nr cr, .int .i64 m] 57
  have hB0 := bstep hb1 hb2
  have k1 := (Blk.new w 64 #[.pointer (some ⟨b, 0, none⟩)]).below hb2 (by simp)
  have k2 := Blk.new (w.alloc (.cells #[.pointer (some ⟨b, 0, none⟩)] 64)) 57 #[.int .i64 t, .slice Ar nr cr, .int .i64 m]
  rw [World.size_alloc] at k2
  have h0 := h.below hB0
  have hr0 := (hr.below hB0).mono hB0.size
  have ht0 := ht.below hB0
  have hlt := fun k (hk : jP b bL bR SL SR k) => h.lt hk
  clear hb1 hb2 h hr ht
  go_enter Tryz.func39, Tryz.ntmps39
  go_upto_region 1 with fail
  obtain ⟨W0, hW0⟩ : ∃ W0, (w.alloc (.cells #[.pointer (some ⟨b, 0, none⟩)] 64)).alloc (.cells #[.int .i64 t, .slice Ar nr cr, .int .i64 m] 57) = W0 := ⟨_, rfl⟩
  obtain ⟨jx, hjx⟩ : ∃ jx, w.heap.size = jx := ⟨_, rfl⟩
  rw [hW0] at hB0 k1 k2 h0 hr0 ht0 ⊢
  rw [hjx] at k1 k2 ⊢
  clear hW0
  have c0 : W0.cell? ⟨jx, 0, none⟩ = some (.pointer (some ⟨b, 0, none⟩)) := by simpa using k1.cell 0
  have HLT := hide hlt
  clear hlt
  go_upto_region 3 with fail
  refine Held.begin (fun z => z.cell? ⟨jx, 0, none⟩ = some (.pointer (some ⟨b, 0, none⟩)) ∧ z.cell? ⟨jx + 1, 0, none⟩ = some (.int .i64 t) ∧ z.cell? ⟨jx + 1, 1, none⟩ = some (.slice Ar nr cr) ∧ z.cell? ⟨jx + 1, 2, none⟩ = some (.int .i64 m)) 13 (by kernel_rfl) ?_
  have hbd := (Below.refl W0.heap.size W0).drew
  obtain ⟨X1, hXe⟩ : ∃ X1, W0.drew = X1 := ⟨_, rfl⟩
  rw [hXe] at hbd ⊢
  have kx1 := k1.below hbd k1.lt
  have kx2 := k2.below hbd k2.lt
  have hJ1 := h0.below hbd
  have hr1 := (hr0.below hbd).mono hbd.size
  have ht1 := ht0.below hbd
  have hB1 := bstep hB0 hbd
  have hS : X1.cell? ⟨jx, 0, none⟩ = some (.pointer (some ⟨b, 0, none⟩)) ∧ X1.cell? ⟨jx + 1, 0, none⟩ = some (.int .i64 t) ∧ X1.cell? ⟨jx + 1, 1, none⟩ = some (.slice Ar nr cr) ∧ X1.cell? ⟨jx + 1, 2, none⟩ = some (.int .i64 m) := ⟨by simpa using kx1.cell 0, by simpa using kx2.cell 0, by simpa using kx2.cell 1, by simpa using kx2.cell 2⟩
  clear hXe hbd k1 k2 h0 hr0 ht0 hB0 c0
  refine Held.take (i := 0) (.pointer (some ⟨b, 0, none⟩)) rfl hS (by kernel_rfl) (by kernel_rfl) (by kernel_rfl) (by kernel_rfl) (fun _ _ _ h => h) rfl (fun y hy => by obtain ⟨x1, x2, x3, x4⟩ := hy; go_simp) ?_
  try simp only [Act.put]
  refine Held.take (i := 1) (.pointer (some ⟨b, 0, none⟩)) rfl hS (by kernel_rfl) (by kernel_rfl) (by kernel_rfl) (by kernel_rfl) (fun _ _ _ h => h) rfl (fun y hy => by obtain ⟨x1, x2, x3, x4⟩ := hy; go_simp) ?_
  try simp only [Act.put]
  refine Held.take (i := 2) (.pointer (some ⟨b, 0, none⟩)) rfl hS (by kernel_rfl) (by kernel_rfl) (by kernel_rfl) (by kernel_rfl) (fun _ _ _ h => h) rfl (fun y hy => by obtain ⟨x1, x2, x3, x4⟩ := hy; go_simp) ?_
  try simp only [Act.put]
  refine Held.take (i := 3) (.pointer (some ⟨b, 2, none⟩)) rfl hS (by kernel_rfl) (by kernel_rfl) (by kernel_rfl) (by kernel_rfl) (fun _ _ _ h => h) rfl (fun y hy => by obtain ⟨x1, x2, x3, x4⟩ := hy; go_simp) ?_
  try simp only [Act.put]
  refine Held.take (i := 4) (.pointer (some ⟨b, 0, none⟩)) rfl hS (by kernel_rfl) (by kernel_rfl) (by kernel_rfl) (by kernel_rfl) (fun _ _ _ h => h) rfl (fun y hy => by obtain ⟨x1, x2, x3, x4⟩ := hy; go_simp) ?_
  try simp only [Act.put]
  refine Held.take (i := 5) (.pointer (some ⟨b, 0, none⟩)) rfl hS (by kernel_rfl) (by kernel_rfl) (by kernel_rfl) (by kernel_rfl) (fun _ _ _ h => h) rfl (fun y hy => by obtain ⟨x1, x2, x3, x4⟩ := hy; go_simp) ?_
  try simp only [Act.put]
  refine Held.take (i := 6) (.pointer (some ⟨b, 0, none⟩)) rfl hS (by kernel_rfl) (by kernel_rfl) (by kernel_rfl) (by kernel_rfl) (fun _ _ _ h => h) rfl (fun y hy => by obtain ⟨x1, x2, x3, x4⟩ := hy; go_simp) ?_
  try simp only [Act.put]
  refine Held.take (i := 7) (.agg #[.int .i64 t, .slice Ar nr cr, .int .i64 m]) rfl hS (by kernel_rfl) (by kernel_rfl) (by kernel_rfl) (by kernel_rfl) (fun _ _ _ h => h) rfl (fun y hy => by obtain ⟨x1, x2, x3, x4⟩ := hy; go_simp) ?_
  try simp only [Act.put]
  refine Held.take (i := 8) (.func (Fn.func 109) #[] #[.pointer (some ⟨jx + 1, 0, none⟩), .pointer (some ⟨jx, 0, none⟩)]) rfl hS (by kernel_rfl) (by kernel_rfl) (by kernel_rfl) (by kernel_rfl) (fun _ _ _ h => h) rfl (fun y hy => by obtain ⟨x1, x2, x3, x4⟩ := hy; go_simp) ?_
  try simp only [Act.put]
  have j0 := hJ1.blk.cell 2
  have j1 := hJ1.blk.cell (2 + 1)
  have j2 := hJ1.blk.cell (0 + 1)
  have j4 := hJ1.blk.cell 4
  have j5 := hJ1.blk.cell 5
  have j6 := hJ1.blk.cell 6
  simp [JoS.cells] at j0 j1 j2 j4 j5 j6
  have HTL := hide (jtell_any false (so := 2) (oo := 0) (base := base) s.A2 s.n2 s.c2 s.others s.lo s.hi mk t Ar nr cr x m X1 j0 j1 j2 j6 hJ1.far.2.2.1.2 hJ1.r hJ1.l hi (Nat.le_trans hbase hB1.size) hJ1.ot.rd hn2 hr1 hrc ht1 hm
    (fun k => by have := (hJ.len_l k).2; omega) (fun k y hy => by have h9 := hJ.at_r hq k hy; exact ⟨h9.1, by omega, by omega⟩) (fun k => by have := (hJ.len_l k).1; omega) (fun k y hy => by have h9 := hJ.at_l hq k hy; exact ⟨h9.1, by omega, by omega⟩)
    109 #[.pointer (some ⟨jx + 1, 0, none⟩), .pointer (some ⟨jx, 0, none⟩)] (fun _ _ => rfl)
    (fun hok k y hy W hB => by
      have h9 := hJ.at_l hq k hy
      obtain ⟨hxo, _, ht8, ht9⟩ := okCh_at (c := ⟨t, m, x⟩) hok
      have hyr := (((hJ1.l.rows k) y hy).1.below hB).mono (Nat.le_trans hbase (Nat.le_trans hB1.size hB.size))
      have hrW := (hr1.below hB).mono hB.size
      have hn8 := JOk.len_r hrW hxo
      have hy8 := JOk.len_r hyr h9.1
      have hlen : (jnT false ⟨t, m, x⟩ (thD y)).r.length = y.n + nr := by
        have e1 : x.length = nr := hrW.len
        have e2 : y.r.length = y.n := hyr.len
        simp [jnT, thD, e1, e2]
      rw [hlen]
      have hbl : b < X1.heap.size := hJ1.blk.lt
      exact jRight1_any (jx + 1) jx b Ar nr cr t m x y s.lo s.hi W ((hB.cell (p := ⟨jx + 1, 0, none⟩) kx2.lt).trans hS.2.1) ((hB.cell (p := ⟨jx + 1, 1, none⟩) kx2.lt).trans hS.2.2.1) ((hB.cell (p := ⟨jx, 0, none⟩) kx1.lt).trans hS.1) ((hB.cell (p := ⟨b, 4, none⟩) hbl).trans j4) ((hB.cell (p := ⟨b, 5, none⟩) hbl).trans j5) hrW hyr (by omega) (by omega) ⟨ht8, ht9⟩ ⟨h9.2.2.2.1, h9.2.2.2.2⟩))
  clear j0 j1 j2 j4 j5 j6
  refine Held.one (i := 9) rfl (by kernel_rfl) rfl (fun K hK => ?_)
  unfold Oper.wp
  go_simp
  refine HTL.out.mono ?_
  rintro e X2 ⟨A, n, cc, lst, rfl, hnc, hbad, hok⟩
  obtain ⟨E, hE⟩ : ∃ E, tlE false s.others s.lo s.hi mk ⟨t, m, x⟩ ((fL (keyJ s.others (⟨t, m, x⟩ : Th).r)).map thD) = E := ⟨_, rfl⟩
  rw [hE] at hbad hok ⊢
  have hfr : FrJ SR bR X1 X2 := by
    by_cases h0 : E = 0
    · obtain ⟨_, _, _, _, _, _, _, h9⟩ := hok h0
      exact h9
    · exact FrJ.of_below _ _ (hbad h0).2
  have hkp : ∀ k, jx ≤ k → k < X1.heap.size → X2.heap[k]? = X1.heap[k]? := fun k h1 h2 => hfr.block k h2 (fun e => by have := HLT.out bR (show jP b bL bR SL SR _ from .inr (.inr (.inl rfl))); omega) fun e => by have := HLT.out k ((fun (h : SR _) => (show jP b bL bR SL SR _ from .inr (.inr (.inr (.inr h))))) e); omega
  have hS2 : X2.cell? ⟨jx, 0, none⟩ = some (.pointer (some ⟨b, 0, none⟩)) ∧ X2.cell? ⟨jx + 1, 0, none⟩ = some (.int .i64 t) ∧ X2.cell? ⟨jx + 1, 1, none⟩ = some (.slice Ar nr cr) ∧ X2.cell? ⟨jx + 1, 2, none⟩ = some (.int .i64 m) :=
    ⟨(World.cell?_of_block (a := ⟨jx, 0, none⟩) (hkp jx (by omega) kx1.lt)).trans hS.1, (World.cell?_of_block (a := ⟨jx + 1, 0, none⟩) (hkp (jx + 1) (by omega) kx2.lt)).trans hS.2.1, (World.cell?_of_block (a := ⟨jx + 1, 1, none⟩) (hkp (jx + 1) (by omega) kx2.lt)).trans hS.2.2.1, (World.cell?_of_block (a := ⟨jx + 1, 2, none⟩) (hkp (jx + 1) (by omega) kx2.lt)).trans hS.2.2.2⟩
  have HRES := hide (show RetLf false w base b bL bR s mk i fL fR SL SR ⟨t, m, x⟩ (.returned (.tuple #[.slice A n cc, .int .i64 E])) X2 from by
    have hb1 : w.heap.size ≤ X1.heap.size := hB1.size
    refine ⟨A, n, cc, lst, E, rfl, hE.symm, hnc.far_mono hb1, (FrP.of_below hB1).trans (hfr.frp) (fun k hk => .inl ?_), fun h0 => ⟨(hbad h0).1, hJ1.below (hbad h0).2⟩, fun h0 => ?_⟩
    · rcases hk with hk | hk
      · rw [hk]; exact (show jP b bL bR SL SR _ from .inr (.inr (.inl rfl)))
      · exact (fun (h : SR _) => (show jP b bL bR SL SR _ from .inr (.inr (.inr (.inr h))))) hk
    · obtain ⟨hp, hpw, l', S2, hl2, hm2, hS2, hfr2⟩ := hok h0
      refine ⟨hp, hpw, fL, (fun k => if k = keyJ s.others x then l' else fR k), SL, S2, hJ1.right (Nat.le_succ i) hfr2 hm2 (fun k hk => hS2 k hk), ?_, ?_⟩
      all_goals first | rfl | (funext k; unfold mapT putF'; by_cases e : k = keyJ s.others x <;> simp [e]; exact hl2))
  refine hK _ _ (fun _ => hS2) ?_
  try simp only [Act.put]
  clear hK K hS HTL hnc hbad hok hfr hkp hE kx1 kx2 hJ1 hr1 ht1
  have hS := hS2
  refine Held.take (i := 10) (.slice A n cc) rfl hS (by kernel_rfl) (by kernel_rfl) (by kernel_rfl) (by kernel_rfl) (fun _ _ _ h => h) rfl (fun y hy => by obtain ⟨x1, x2, x3, x4⟩ := hy; go_simp) ?_
  try simp only [Act.put]
  refine Held.take (i := 11) (.int .i64 E) rfl hS (by kernel_rfl) (by kernel_rfl) (by kernel_rfl) (by kernel_rfl) (fun _ _ _ h => h) rfl (fun y hy => by obtain ⟨x1, x2, x3, x4⟩ := hy; go_simp) ?_
  try simp only [Act.put]
  refine Held.one (i := 12) rfl (by kernel_rfl) rfl (fun K hK => ?_)
  unfold Oper.wp
  go_simp
  refine hK _ _ (fun _ => hS2) ?_
  try simp only [Act.put]
  clear hK K
  refine Held.one (i := 13) rfl (by kernel_rfl) rfl (fun K hK => ?_)
  unfold Oper.wp
  go_simp
  refine hK _ _ (fun _ => hS2) ?_
  try simp only [Act.put]
  clear hK K
  refine Held.done (by kernel_rfl) ?_
  clear hS hS2
  go_wp2
  refine bodyPost_ret (results_tmp2 rfl _ _ _) rfl ?_
  exact HRES.out
end

section
open Go.RowKit
attribute [local go_sem] Oper.semAt_some wide_fn wide_depth
set_option linter.unusedVariables false
set_option linter.unusedSimpArgs false

theorem frp_set {w : World} {b o : Nat} {u v : Value} (h : w.cell? ⟨b, o, none⟩ = some u) : FrP (fun k => k = b) w (w.setCell ⟨b, o, none⟩ v) :=
  ⟨rfl, rfl, rfl, by simp [World.setCell], fun k _ hk => Below.heap_setCell _ _ _ k hk⟩
theorem JO.setMark {w : World} {base b bL bR i : Nat} {s : JoS} {mk : Int} {fL fR : List UInt8 → List Hd} {SL SR : Nat → Prop} (h : JO w base b bL bR s mk i fL fR SL SR) (m : Int) :
    JO (w.setCell ⟨b, 6, none⟩ (.int .i64 m)) base b bL bR s m i fL fR SL SR ∧ FrP (jP b bL bR SL SR) w (w.setCell ⟨b, 6, none⟩ (.int .i64 m)) := by
  have c6 := h.blk.cell 6
  simp [JoS.cells] at c6
  have hf := frp_set (v := .int .i64 m) c6
  have hq : Quiet w base (fun k => k = b) := fun k hk => h.quiet k (.inl hk)
  obtain ⟨f1, f2, ⟨f3, f4⟩, _⟩ := h.far
  refine ⟨⟨by simpa [JoS.cells] using h.blk.set_ 6 (.int .i64 m), h.on.frp hf hq, h.ot.frp hf hq, ?_, ?_, h.ne, h.dj, h.low⟩, hf.mono fun k hk => .inl hk⟩
  · refine h.l.keepS (P := fun k => k = b) hf.block hf.size ?_
    rintro k rfl
    exact ⟨h.low, f1, f3, (hq k rfl).2.1⟩
  · refine h.r.keepS (P := fun k => k = b) hf.block hf.size ?_
    rintro k rfl
    exact ⟨h.low, f2, f4, (hq k rfl).2.1⟩
def mkE (mk m : Int) : Int := if btw m mk 1000000000001 then 0 else 7
def keepL (hi m : Int) (x : Th) : Bool := !decide (x.t + hi < m)
/-- What Mark hands back, and what it makes of the joiner. -/
def RetMj (w : World) (base b bL bR : Nat) (s : JoS) (mk m : Int) (i : Nat) (fL fR : List UInt8 → List Hd) (SL SR : Nat → Prop) (e : Ending) (w' : World) : Prop :=
  ∃ E, e = .returned (.tuple #[.slice none 0 0, .int .i64 E]) ∧ E = mkE mk m ∧ FrP (jP b bL bR SL SR) w w' ∧ (E ≠ 0 → JO w' base b bL bR s mk i fL fR SL SR) ∧
    (E = 0 → ∃ fL' fR' SL' SR', JO w' base b bL bR s m i fL' fR' SL' SR' ∧ mapT fL' = (fun k => (mapT fL k).filter (keepL s.hi m)) ∧ mapT fR' = fun k => (mapT fR k).filter (keepL (-s.lo) m))
theorem jMark_nil (m : Int) (w : World) : Calls Tryz.prog 40 #[.pointer none, .int .i64 m] w (fun e w' => e = .returned (.tuple #[.slice none 0 0, .int .i64 1]) ∧ Below w.heap.size w w') := by
  go_enter Tryz.func40, Tryz.ntmps40
  go_wp2
  refine bodyPost_ret (results_tmp2 rfl _ _ _) rfl ?_
  exact ⟨rfl, Below.refl _ _⟩
theorem map_filt (f : List UInt8 → List Hd) (p : Th → Bool) (q : Hd → Bool) (h : ∀ x, p (thD x) = q x) : mapT (fun k => (f k).filter q) = fun k => (mapT f k).filter p := by
  funext k
  unfold mapT
  rw [List.filter_map]
  congr 1
  exact List.filter_congr fun x _ => (h x).symm
set_option maxRecDepth 100000 in
set_option maxHeartbeats 8000000 in
theorem jMark_any {base b bL bR i q : Nat} {s : JoS} {mk : Int} {fL fR : List UInt8 → List Hd} {SL SR : Nat → Prop} {LT RT : List Th} (m : Int) (w : World)
    (h : JO w base b bL bR s mk i fL fR SL SR) (hJ : JSt s.on s.others q LT RT (mapT fL) (mapT fR)) (hq : q ≤ 40) (hi : i < 1000) (hbase : base ≤ w.heap.size) (hlo : -1000000000 ≤ s.lo ∧ s.lo ≤ 1000000000) (hhi : -1000000000 ≤ s.hi ∧ s.hi ≤ 1000000000) :
    Calls Tryz.prog 40 #[.pointer (some ⟨b, 0, none⟩), .int .i64 m] w (RetMj w base b bL bR s mk m i fL fR SL SR) := by
  have c6 := h.blk.cell 6
  simp [JoS.cells] at c6
  have f6 := h.blk.frozen 6
  have HJO := hide h
  clear h
  go_enter Tryz.func40, Tryz.ntmps40
  go_wp2_with fail
  refine (pwithin_any m mk 1000000000001 w).mono ?_
  rintro e w' ⟨rfl, rfl⟩
  cases hq1 : btw m mk 1000000000001
  · have HE := hide (show mkE mk m = 7 from by unfold mkE; rw [hq1]; rfl)
    clear hq1 c6 f6
    go_wp2
    refine bodyPost_ret (results_tmp2 rfl _ _ _) rfl ?_
    exact ⟨7, rfl, HE.out.symm, FrP.of_below (Below.refl _ _), fun _ => HJO.out, fun h => absurd h (by decide)⟩
  have HE := hide (show mkE mk m = 0 from by unfold mkE; rw [hq1]; rfl)
  obtain ⟨hs1, hf1⟩ := HJO.out.setMark m
  have HS1 := hide hs1
  have HF1 := hide hf1
  clear hq1 hs1 hf1
  go_upto_region 6 with fail
  obtain ⟨W1, hW1⟩ : ∃ W1, w.setCell ⟨b, 6, none⟩ (.int .i64 m) = W1 := ⟨_, rfl⟩
  rw [hW1] at HS1 HF1 ⊢
  clear hW1 c6 f6
  have hsz := HF1.out.size
  have c5' := HS1.out.blk.cell 5
  simp [JoS.cells] at c5'
  go_still_tail 8, (by kernel_rfl)
  change wpList _ _ _ _ _ W1.drew
  have hbd := (Below.refl W1.heap.size W1).drew
  obtain ⟨X1, hXe⟩ : ∃ X1, W1.drew = X1 := ⟨_, rfl⟩
  rw [hXe] at hbd ⊢
  have hJ1 := HS1.out.below hbd
  have hsz1 := Nat.le_trans hsz hbd.size
  have c1 := hJ1.blk.cell 1
  simp [JoS.cells] at c1
  have HF2 := hide (HF1.out.below hbd)
  clear hXe hbd HS1 HF1 c5'
  have HD := hide (jdrop_any (sb := b) (so := 0) s.hi m X1 c1 hJ1.far.2.2.1.1 hJ1.l hi (Nat.le_trans hbase hsz1) hhi (fun k => by have := (hJ.len_l k).1; omega) (fun k y hy => (hJ.at_l hq k hy).2.2.2))
  have HJ1 := hide hJ1
  clear c1 hJ1
  go_wp2_with fail
  refine HD.out.mono ?_
  rintro e X2 ⟨rfl, S2, hm2, hS2, hfr2⟩
  have hJ2 := HJ1.out.left (Nat.le_refl i) hfr2 hm2 hS2
  have HF3 := hide (HF2.out.trans hfr2.frp fun k hk => .inl (by
    rcases hk with rfl | hk
    · exact .inr (.inl rfl)
    · exact .inr (.inr (.inr (.inl hk)))))
  have hsz2 := Nat.le_trans hsz1 hfr2.size
  clear HD HF2 hm2 hS2 hfr2 HJ1
  go_upto_region 7 with fail
  have hnw : IntKind.i64.wrap (-s.lo) = -s.lo := by rw [IntKind.wrap_i64]; omega
  have c4' := hJ2.blk.cell 4
  simp [JoS.cells] at c4'
  go_still_tail 9, (by kernel_rfl)
  change wpList _ _ _ _ _ X2.drew
  have hbd := (Below.refl X2.heap.size X2).drew
  obtain ⟨X3, hXe⟩ : ∃ X3, X2.drew = X3 := ⟨_, rfl⟩
  rw [hXe] at hbd ⊢
  have hJ3 := hJ2.below hbd
  have hsz3 := Nat.le_trans hsz2 hbd.size
  have c3 := hJ3.blk.cell 3
  simp [JoS.cells] at c3
  have HF4 := hide (HF3.out.below hbd)
  clear hXe hbd c4' HF3 hJ2
  have HD := hide (jdrop_any (sb := b) (so := 2) (-s.lo) m X3 c3 hJ3.far.2.2.1.2 hJ3.r hi (Nat.le_trans hbase hsz3) (by omega) (fun k => by have := (hJ.len_l k).2; omega) (fun k y hy => (hJ.at_r hq k hy).2.2.2))
  have HJ3 := hide hJ3
  clear c3 hJ3
  go_wp2_with fail
  refine HD.out.mono ?_
  rintro e X4 ⟨rfl, S4, hm4, hS4, hfr4⟩
  have hJ4 := HJ3.out.right (Nat.le_refl i) hfr4 hm4 hS4
  have HRES := hide (show RetMj w base b bL bR s mk m i fL fR SL SR (.returned (.tuple #[.slice none 0 0, .int .i64 0])) X4 from
    ⟨0, rfl, HE.out.symm, HF4.out.trans hfr4.frp fun k hk => .inl (by
      rcases hk with rfl | hk
      · exact .inr (.inr (.inl rfl))
      · exact .inr (.inr (.inr (.inr hk)))), fun h => absurd rfl h, fun _ => ⟨_, _, _, _, hJ4, map_filt _ _ _ fun x => rfl, map_filt _ _ _ fun x => rfl⟩⟩)
  clear HD HF4 hm4 hS4 hfr4 HJ3 hJ4
  go_wp2
  refine bodyPost_ret (results_tmp2 rfl _ _ _) rfl ?_
  exact HRES.out
theorem jHeld_nil (w : World) : Calls Tryz.prog 48 #[.pointer none] w (RetV w (.tuple #[.int .i64 0, .int .i64 0])) := by
  go_enter Tryz.func48, Tryz.ntmps48
  go_wp2
  refine bodyPost_ret (results_tmp2 rfl _ _ _) rfl ?_
  exact ⟨rfl, Below.refl _ _⟩
set_option maxRecDepth 100000 in
set_option maxHeartbeats 4000000 in
theorem jHeld_any {base b bL bR i q : Nat} {s : JoS} {mk : Int} {fL fR : List UInt8 → List Hd} {SL SR : Nat → Prop} {LT RT : List Th} (w : World)
    (h : JO w base b bL bR s mk i fL fR SL SR) (hJ : JSt s.on s.others q LT RT (mapT fL) (mapT fR)) (hq : q ≤ 40) :
    Calls Tryz.prog 48 #[.pointer (some ⟨b, 0, none⟩)] w (RetV w (.tuple #[.int .i64 LT.length, .int .i64 RT.length])) := by
  have hl := hJ.bl.len
  have hr := hJ.br.len
  have C1 := hide (fun (p : BW w) => calls_bw (p := p) (jcount_any (sb := b) (so := 0) s.on LT p.x (by have := (h.below p.h).blk.cell 1; simpa [JoS.cells] using this) (h.below p.h).l hJ.jl (by omega)))
  have C2 := hide (fun (p : BW w) => calls_bw (p := p) (jcount_any (sb := b) (so := 2) s.others RT p.x (by have := (h.below p.h).blk.cell 3; simpa [JoS.cells] using this) (h.below p.h).r hJ.jr (by omega)))
  clear h hJ
  go_enter Tryz.func48, Tryz.ntmps48
  go_wp2_with fail
  (refine wp_region_quiet_bw (by kernel_rfl) (by kernel_rfl) ?_
   repeat (first | go_big_quiet_step (((go_at_call 113; first | with_reducible exact C1.out _ | with_reducible exact C2.out _))) | quiet_step (((go_at_call 113; first | with_reducible exact C1.out _ | with_reducible exact C2.out _))))
   refine wpQuiet_nil ?_
   intro wq hw'
   obtain ⟨⟨_, hbq⟩, hw''⟩ := hw'
   subst hw'')
  have HB := hide hbq
  clear hbq C1 C2
  go_wp2
  refine bodyPost_ret (results_tmp2 rfl _ _ _) rfl ?_
  exact ⟨rfl, HB.out⟩
end

end Go.Proofs.YtoapjidpfghnlaaGreatDoor
