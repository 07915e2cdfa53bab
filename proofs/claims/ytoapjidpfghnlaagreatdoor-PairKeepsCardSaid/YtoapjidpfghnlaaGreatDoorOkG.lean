/-
  The four kinds of the outer join as plain data: the full one is the left one and the right one less the inner one; the inner one is within both. No condition.
  The walk of the reference's Plus, for lists that ascend, whose numbers may be greater than a bag's. (Lines of XBgS8.) No condition.
  A list of bags that a law gathers; what an answer without error says of an outer join. No condition.
-/
import Derived.Test.YtoapjidpfghnlaaGreatDoorOuN
import Derived.Test.YtoapjidpfghnlaaGreatDoorLatM
import Derived.Test.YtoapjidpfghnlaaGreatDoorQbw
import Derived.Test.YtoapjidpfghnlaaGreatDoorOuP
import Derived.Test.YtoapjidpfghnlaaGreatDoorNetM
import Derived.Test.YtoapjidpfghnlaaGreatDoorOuW
import Derived.Test.YtoapjidpfghnlaaGreatDoorBgL
namespace Go.Proofs.YtoapjidpfghnlaaGreatDoor

section
open Go.RowKit
set_option linter.unusedVariables false

/-- The left rows without partners. -/
def lonesL (on others : List Int) (width : Nat) (l r : Bg) : Bg := l.flatMap fun x => if !meets on others x r then [(x.1 ++ nullR width, x.2)] else []
section
variable {on others : List Int} {wide width : Nat} {l r : Bg}
/-- The joined bag of a kind. -/
def kndB (on others : List Int) (wide width : Nat) (l r : Bg) (lf rt : Bool) : Bg := aftB [] (joinL lf rt on others wide width l r)
theorem knd_net (hl : SideOk l on wide) (hr : SideOk r others width) (hw : wide + width ≤ 8) (lf rt : Bool) : Net (joinL lf rt on others wide width l r) (kndB on others wide width l r lf rt) :=
  told_net fun c hc => (join_ok (fun x hx => ⟨(hl.row x hx).1, by have := hl.num x hx; omega, (hl.row x hx).2.1⟩) (fun x hx => ⟨(hr.row x hx).1, by have := hr.num x hx; omega, (hr.row x hx).2.1⟩) hw c hc).1
end
end

section
open Go.RowKit
attribute [local go_sem] Oper.semAt_some
set_option linter.unusedVariables false

/-- A list that ascends, whose numbers are not too great. -/
def BigL (d : Bg) : Prop := Asc d ∧ (∀ x ∈ d, x.2 ≠ 0 ∧ -1000000000000000000 ≤ x.2 ∧ x.2 ≤ 1000000000000000000) ∧ d.length ≤ 2000
theorem bigL_of {d : Bg} (h : okBag d = true) : BigL d := ⟨(okBag_asc h).1, fun x hx => by have := numB_ne ((okBag_asc h).2.1 x hx); omega, by have := (okBag_asc h).2.2; omega⟩
theorem mul_one {x y : Int} (hx : -1 ≤ x ∧ x ≤ 1) (hy : -1000000000000000000 ≤ y ∧ y ≤ 1000000000000000000) : -1000000000000000000 ≤ x * y ∧ x * y ≤ 1000000000000000000 := by
  have h3 : x = -1 ∨ x = 0 ∨ x = 1 := by omega
  rcases h3 with rfl | rfl | rfl <;> omega
theorem look_boundL {d : Bg} (h : ∀ x ∈ d, -1000000000000000000 ≤ x.2 ∧ x.2 ≤ 1000000000000000000) (r : Rw) : -1000000000000000000 ≤ look d r ∧ look d r ≤ 1000000000000000000 := by
  induction d with
  | nil => simp [look]
  | cons y d ih =>
    rw [look]
    split
    · exact h y (by simp)
    · exact ih fun z hz => h z (List.mem_cons_of_mem _ hz)
theorem plusL_num {a b : Bg} (ha : BigL a) (hb : BigL b) {n : Int} (hn : -1 ≤ n ∧ n ≤ 1) (k : Nat) {x : Rw × Int} (hx : x ∈ plusB a (b.take k) n) : -2000000000000000000 ≤ x.2 ∧ x.2 ≤ 2000000000000000000 := by
  have hp := plus_ok (n := n) ha.1 (fun x hx => (ha.2.1 x hx).1) (asc_take hb.1 k)
  have hl := look_mem hp.1 hx
  rw [hp.2.2] at hl
  have b1 := look_boundL (fun y hy => (ha.2.1 y hy).2) x.1
  have b2 := mul_one hn (look_boundL (d := b.take k) (fun y hy => (hb.2.1 y (List.mem_of_mem_take hy)).2) x.1)
  omega
theorem plusL_len {a b : Bg} (ha : BigL a) (hb : BigL b) (n : Int) : ∀ k, k ≤ b.length → (plusB a (b.take k) n).length ≤ a.length + k
  | 0, _ => by simp [plusB]
  | k + 1, hk => by
    have ih := plusL_len ha hb n k (by omega)
    have hp := plus_ok (n := n) ha.1 (fun x hx => (ha.2.1 x hx).1) (asc_take hb.1 k)
    have hg : b[k]? = some b[k] := List.getElem?_eq_getElem (by omega)
    rw [take_snoc' hg, plus_snoc]
    have := put_len hp.1 (b[k]).1 (n * (b[k]).2)
    omega
set_option maxRecDepth 100000 in
set_option maxHeartbeats 1000000 in
theorem RPlusL_any (A1 : Option Addr) (n1 c1 : Nat) (la : List It) (A2 : Option Addr) (n2 c2 : Nat) (lb : List It) (x : Int) (w : World) (ha : BagR w w.heap.size A1 n1 la) (hb : BagR w w.heap.size A2 n2 lb)
    (oa : BigL (dat la)) (ob : BigL (dat lb)) (hx : -1 ≤ x ∧ x ≤ 1) :
    Calls Tryz.prog 25 #[.slice A1 n1 c1, .slice A2 n2 c2, .int .i64 x] w (RetB w (plusB (dat la) (dat lb) x)) := by
  obtain ⟨i0, hi, hz0, hz1, hz2⟩ := info_parts3 infoItem
  have hla : n1 ≤ 2000 := by have := oa.2.2; rw [dat_len, ha.len] at this; exact this
  have hlb : n2 ≤ 2000 := by have := ob.2.2; rw [dat_len, hb.len] at this; exact this
  have OA := hide oa
  have OB := hide ob
  clear oa ob
  go_enter Tryz.func25, Tryz.ntmps25
  go_wp2_with (at_builtin; refine wpList_append_any _ rfl _ _ 40 rfl w.heap.size 119 i0 _ 2 32 Tryz.underlying40 hi hz0 hz1 hz2 rfl (by decide) (.slice none 0 0) 0 [] rfl (World.ownsRow_nil _ _ _ _) w.heap.size A1 n1 c1 (la.flatMap encIt) rfl ha.rd one_cellI (by unfold maxLen; omega) (by omega) (by simp) ?_; intro v' W1 hown hgrow _; rw [Nat.zero_add, List.nil_append] at hown)
  have hB1 : Below w.heap.size w W1 := below_append (Below.refl _ _) (World.ownsRow_nil w w.heap.size 119 2) (Nat.le_refl _) hgrow
  obtain ⟨A', c', rfl, hR⟩ := own_form hown
  have hbag : BagR W1 W1.heap.size A' n1 la := ⟨Reads.of_own hown, (ha.rows.below hB1).mono hB1.size, ha.le⟩
  have hcap := own_cap hown
  clear hR hown hgrow
  go_wp2_with fail
  go_loopw [7, 8] (fun v i wr => ∃ (k : Nat) (A : Option Addr) (n c : Nat) (l : List It), k ≤ n2 ∧ i = .int .i64 k ∧ .slice A n c = v ∧ BagR wr wr.heap.size A n l ∧ n ≤ c ∧ dat l = plusB (dat la) ((dat lb).take k) x ∧ Below w.heap.size w wr) (fun _ i _ => n2 - (intOf i).toNat)
  case atStart => exact ⟨0, _, _, _, la, Nat.zero_le _, rfl, rfl, hbag, hcap, rfl, hB1⟩
  case round =>
    clear hbag hcap hB1
    obtain ⟨k, A, n, c, l, hk, rfl, rfl, hbg, hcp, hdl, hBw⟩ := hrel
    by_cases hlt : k < n2
    · obtain ⟨b, off, y0, rfl, hbl, hyk, e0, e1, hy⟩ := (hb.below hBw).at_ hlt
      have hyd := dat_at hyk
      have hmem := List.mem_of_getElem? hyd
      have hym := OB.out.2.1 _ hmem
      simp only at hym
      have hyr := OB.out.1.ok _ hmem
      have hy8 : y0.n ≤ 1000 := by
        have h1 : y0.r.length ≤ 8 := by unfold okR at hyr; rw [Bool.and_eq_true, decide_eq_true_eq] at hyr; exact hyr.2
        rw [hy.len] at h1
        omega
      have hmul : -1000000000000000000 ≤ x * y0.m ∧ x * y0.m ≤ 1000000000000000000 := mul_one hx ⟨hym.2.1, hym.2.2⟩
      have hw1 : IntKind.i64.wrap (x * y0.m) = x * y0.m := by rw [IntKind.wrap_i64]; omega
      have hp := plus_ok (n := x) OA.out.1 (fun z hz => (OA.out.2.1 z hz).1) (asc_take OB.out.1 k)
      have hpl := plusL_len OA.out OB.out x k (by rw [dat_len, hb.len]; exact hk)
      have HN := hide (show plusB (dat la) ((dat lb).take (k + 1)) x = putB (dat l) y0.r (x * y0.m) from by rw [take_snoc' hyd, plus_snoc, hdl])
      have hnl : n ≤ 4000 := by rw [← hdl, dat_len, dat_len, hbg.len, ha.len] at hpl; omega
      have HR := hide (show ∀ z ∈ dat l, z.1.length ≤ 1000 from fun z hz => by
        rw [hdl] at hz
        have h1 := hp.1.ok z hz
        unfold okR at h1
        rw [Bool.and_eq_true, decide_eq_true_eq] at h1
        omega)
      have HM := hide (show ∀ z ∈ dat l, -4000000000000000000 ≤ z.2 ∧ z.2 ≤ 4000000000000000000 from fun z hz => by rw [hdl] at hz; have := plusL_num OA.out OB.out hx k hz; omega)
      have q1 : (0 : Int) ≤ (k : Int) := by omega
      have q2 : (k : Int) < (n2 : Int) := by omega
      clear hp hpl hyd hmem hyr hdl
      go_wp2_with fail
      refine Held.begin (fun y => y.cell? ⟨b, off + k * 2, none⟩ = some (.slice y0.A y0.n y0.c) ∧ y.cell? ⟨b, off + k * 2 + 1, none⟩ = some (.int .i64 y0.m)) 100 (by kernel_rfl) ?_
      obtain ⟨X1, hX1⟩ : ∃ X1, wr.drew = X1 := ⟨_, rfl⟩
      have hD : Below wr.heap.size wr X1 := by rw [← hX1]; exact (Below.refl _ _).drew
      have hS : X1.cell? ⟨b, off + k * 2, none⟩ = some (.slice y0.A y0.n y0.c) ∧ X1.cell? ⟨b, off + k * 2 + 1, none⟩ = some (.int .i64 y0.m) := by rw [← hX1]; exact ⟨e0, e1⟩
      rw [hX1]
      clear hX1 e0 e1
      refine Held.take (i := 0) (.slice A n c) rfl hS (by kernel_rfl) (by kernel_rfl) (by kernel_rfl) (by kernel_rfl) (fun _ _ _ h => h) rfl (fun y hy => by obtain ⟨x1, x2⟩ := hy; go_simp) ?_
      try simp only [Act.put]
      refine Held.take (i := 1) (.slice (some ⟨b, off, none⟩) n2 c2) rfl hS (by kernel_rfl) (by kernel_rfl) (by kernel_rfl) (by kernel_rfl) (fun _ _ _ h => h) rfl (fun y hy => by obtain ⟨x1, x2⟩ := hy; go_simp) ?_
      try simp only [Act.put]
      refine Held.take (i := 2) (.int .i64 (k : Int)) rfl hS (by kernel_rfl) (by kernel_rfl) (by kernel_rfl) (by kernel_rfl) (fun _ _ _ h => h) rfl (fun y hy => by obtain ⟨x1, x2⟩ := hy; go_simp) ?_
      try simp only [Act.put]
      refine Held.take (i := 3) (.pointer (some ⟨b, off + k * 2, none⟩)) rfl hS (by kernel_rfl) (by kernel_rfl) (by kernel_rfl) (by kernel_rfl) (fun _ _ _ h => h) rfl (fun y hy => by obtain ⟨x1, x2⟩ := hy; go_simp) ?_
      try simp only [Act.put]
      refine Held.take (i := 4) (.pointer (some ⟨b, off + k * 2, none⟩)) rfl hS (by kernel_rfl) (by kernel_rfl) (by kernel_rfl) (by kernel_rfl) (fun _ _ _ h => h) rfl (fun y hy => by obtain ⟨x1, x2⟩ := hy; go_simp) ?_
      try simp only [Act.put]
      refine Held.take (i := 5) (.slice y0.A y0.n y0.c) rfl hS (by kernel_rfl) (by kernel_rfl) (by kernel_rfl) (by kernel_rfl) (fun _ _ _ h => h) rfl (fun y hy => by obtain ⟨x1, x2⟩ := hy; go_simp) ?_
      try simp only [Act.put]
      refine Held.take (i := 6) (.int .i64 x) rfl hS (by kernel_rfl) (by kernel_rfl) (by kernel_rfl) (by kernel_rfl) (fun _ _ _ h => h) rfl (fun y hy => by obtain ⟨x1, x2⟩ := hy; go_simp) ?_
      try simp only [Act.put]
      refine Held.take (i := 7) (.slice (some ⟨b, off, none⟩) n2 c2) rfl hS (by kernel_rfl) (by kernel_rfl) (by kernel_rfl) (by kernel_rfl) (fun _ _ _ h => h) rfl (fun y hy => by obtain ⟨x1, x2⟩ := hy; go_simp) ?_
      try simp only [Act.put]
      refine Held.take (i := 8) (.int .i64 (k : Int)) rfl hS (by kernel_rfl) (by kernel_rfl) (by kernel_rfl) (by kernel_rfl) (fun _ _ _ h => h) rfl (fun y hy => by obtain ⟨x1, x2⟩ := hy; go_simp) ?_
      try simp only [Act.put]
      refine Held.take (i := 9) (.pointer (some ⟨b, off + k * 2, none⟩)) rfl hS (by kernel_rfl) (by kernel_rfl) (by kernel_rfl) (by kernel_rfl) (fun _ _ _ h => h) rfl (fun y hy => by obtain ⟨x1, x2⟩ := hy; go_simp) ?_
      try simp only [Act.put]
      refine Held.take (i := 10) (.pointer (some ⟨b, off + k * 2 + 1, none⟩)) rfl hS (by kernel_rfl) (by kernel_rfl) (by kernel_rfl) (by kernel_rfl) (fun _ _ _ h => h) rfl (fun y hy => by obtain ⟨x1, x2⟩ := hy; go_simp) ?_
      try simp only [Act.put]
      refine Held.take (i := 11) (.int .i64 y0.m) rfl hS (by kernel_rfl) (by kernel_rfl) (by kernel_rfl) (by kernel_rfl) (fun _ _ _ h => h) rfl (fun y hy => by obtain ⟨x1, x2⟩ := hy; go_simp) ?_
      try simp only [Act.put]
      refine Held.take (i := 12) (.int .i64 (x * y0.m)) rfl hS (by kernel_rfl) (by kernel_rfl) (by kernel_rfl) (by kernel_rfl) (fun _ _ _ h => h) rfl (fun y hy => by obtain ⟨x1, x2⟩ := hy; go_simp) ?_
      try simp only [Act.put]
      refine Held.one (i := 13) rfl (by kernel_rfl) rfl (fun K hK => ?_)
      unfold Oper.wp
      go_simp
      refine (RPutL_any A n c l y0.A y0.n y0.c y0.r (x * y0.m) X1 ((hbg.below hD).mono hD.size) (by omega) ((hy.below hD).mono (Nat.le_trans hBw.size hD.size)) hy8 HR.out HM.out (by omega)).mono ?_
      rintro e X2 ⟨A2', n2', c2', l2', rfl, hd2, hb2, hc2, hB2⟩
      have hS2 : X2.cell? ⟨b, off + k * 2, none⟩ = some (.slice y0.A y0.n y0.c) ∧ X2.cell? ⟨b, off + k * 2 + 1, none⟩ = some (.int .i64 y0.m) := ⟨(hB2.cell (World.block_lt_of_cell? _ _ hS.1)).trans hS.1, (hB2.cell (World.block_lt_of_cell? _ _ hS.2)).trans hS.2⟩
      refine hK _ _ (fun _ => hS2) ?_
      try simp only [Act.put]
      have hBf := bstep (bstep hBw hD) hB2
      clear hK K hS hB2 hD hBw hbg
      refine Held.one (i := 14) rfl (by kernel_rfl) rfl (fun K hK => ?_)
      unfold Oper.wp
      go_simp
      refine hK _ _ (fun _ => hS2) ?_
      try simp only [Act.put]
      clear hK K hS2
      refine Held.done (by kernel_rfl) ?_
      go_wp2
      go_roundw
      case rel => exact ⟨k + 1, _, _, _, l2', by omega, by go_num, rfl, hb2, hc2, by rw [HN.out]; exact hd2, hBf⟩
      case measure => simp [intOf]; omega
    · obtain rfl : k = n2 := by omega
      have HX := hide (show dat l = plusB (dat la) (dat lb) x from by rw [hdl, take_all (by rw [dat_len, hb.len])])
      clear hdl
      go_wp2
      go_ret
      exact ⟨A, n, c, l, rfl, HX.out, hbg, hcp, hBw⟩
end

section
open Go.RowKit
set_option linter.unusedVariables false
set_option linter.unusedSimpArgs false

def encBn (g : Bn) : Value := .slice g.A g.n g.c
/-- A list of bags that the call makes. -/
structure KdI (w : World) (d : List Bg) (v : Value) (W : World) : Prop where
  bel : Below w.heap.size w W
  ow : ∃ gl : List Bn, W.ownsRow w.heap.size 40 1 v gl.length (gl.map encBn) ∧ gl.map (fun g => dat g.l) = d ∧ ∀ g ∈ gl, BagR W 0 g.A g.n g.l ∧ g.n ≤ g.c ∧ ∀ b o, 0 < g.n → g.A = some ⟨b, o, none⟩ → v.ownBlock ≠ some b
theorem KdI.nil (w : World) : KdI w [] (.slice none 0 0) w := ⟨Below.refl _ _, [], World.ownsRow_nil _ _ _ _, rfl, nofun⟩
theorem Same_datK {A : Option Addr} {n c : Nat} {A' : Option Addr} {n' c' B B' : Nat} {l l' : List It} {w : World} (hx : BagR w B A n l) (hy : BagR w B' A' n' l') (hd : dat l = dat l') :
    Calls Tryz.prog 24 #[.slice A n c, .slice A' n' c'] w (RetV w (.bool true)) := by
  have hn : n' = n := by rw [← hx.len, ← hy.len, ← dat_len, ← dat_len, hd]
  subst hn
  exact BagSame_one A n' c A' c' B B' l l' w hx hy hd
end

end Go.Proofs.YtoapjidpfghnlaaGreatDoor
