/-
  The walk of bag.Times, for every bag and number.
  Plain bounds for the walk of the reference's Plus.
  The walk of the reference's Plus, for every two valid bags and a number in range. (Printed by gen_bgs8.)
  The walks of the reference's After and Apply. (Printed by gen_aft.)
  Plain laws of the changes between two bags.
  Plain laws of Netted: the last time of each row, and what netted changes make of a bag.
-/
import Derived.Test.YtoapjidpfghnlaaGreatDoorBgL
import Derived.Test.YtoapjidpfghnlaaGreatDoorApl
import Derived.Test.YtoapjidpfghnlaaGreatDoorBgS5
namespace Go.Proofs.YtoapjidpfghnlaaGreatDoor

section
open Go.RowKit
attribute [local go_sem] Oper.semAt_some

theorem mul_bound {m n : Int} (h1 : -1000000 ≤ m ∧ m ≤ 1000000) (h2 : -1000000 ≤ n ∧ n ≤ 1000000) : -1000000000000 ≤ m * n ∧ m * n ≤ 1000000000000 := by
  have ha : (m * n).natAbs ≤ 1000000 * 1000000 := by
    rw [Int.natAbs_mul]
    exact Nat.mul_le_mul (by omega) (by omega)
  omega
/-- What Times tells. -/
def timesB (b : Bg) (n : Int) : Bg × Int := if okBag b then (if btw n (-1000000) 1000000 then comb (fun m _ => m * n) b [] else ([], 7)) else ([], 1)
end

section
open Go.RowKit

theorem ins_len (r : Rw) (n : Int) : ∀ b : Bg, (insB r n b).length ≤ b.length + 1
  | [] => by unfold insB; split <;> simp
  | y :: b => by
    have := ins_len r n b
    unfold insB
    split
    · split <;> simp <;> omega
    · split
      · split <;> simp
      · simp; omega
theorem asc_take {b : Bg} (h : Asc b) (k : Nat) : Asc (b.take k) := ⟨fun y hy => h.ok y (List.mem_of_mem_take hy), h.up.sublist (List.take_sublist _ _)⟩
theorem plus_snoc (a b : Bg) (x : Rw × Int) (n : Int) : plusB a (b ++ [x]) n = putB (plusB a b n) x.1 (n * x.2) := by unfold plusB; rw [List.foldl_append]; rfl
theorem put_len {b : Bg} (h : Asc b) (r : Rw) (n : Int) : (putB b r n).length ≤ b.length + 1 := by rw [putB_ins h.up]; exact ins_len r n b
theorem look_bound {d : Bg} (hd : ∀ x ∈ d, numB x.2 = true) (r : Rw) : -1000000 ≤ look d r ∧ look d r ≤ 1000000 := by
  induction d with
  | nil => unfold look; omega
  | cons y d ih =>
    rw [look]
    split
    · have := numB_ne (hd y (by simp)); omega
    · exact ih fun z hz => hd z (List.mem_cons_of_mem _ hz)
/-- A bag that ascends, whose numbers are a bag's, and that is not too long. -/
def BigB (d : Bg) : Prop := Asc d ∧ (∀ x ∈ d, numB x.2 = true) ∧ d.length ≤ 1000
theorem big_of {d : Bg} (h : okBag d = true) : BigB d := ⟨(okBag_asc h).1, (okBag_asc h).2.1, by have := (okBag_asc h).2.2; omega⟩
theorem plusG_num {a b : Bg} (ha : BigB a) (hb : BigB b) {n : Int} (hn : -1000000 ≤ n ∧ n ≤ 1000000) (k : Nat) {x : Rw × Int} (hx : x ∈ plusB a (b.take k) n) : -4000000000000 ≤ x.2 ∧ x.2 ≤ 4000000000000 := by
  have h1 := ha
  have h2 := hb
  have hp := plus_ok (n := n) h1.1 (fun x hx => (numB_ne (h1.2.1 x hx)).1) (asc_take h2.1 k)
  have hl := look_mem hp.1 hx
  rw [hp.2.2] at hl
  have b1 := look_bound h1.2.1 x.1
  have b2 := mul_bound hn (look_bound (d := b.take k) (fun y hy => h2.2.1 y (List.mem_of_mem_take hy)) x.1)
  omega
theorem plusG_len {a b : Bg} (ha : BigB a) (hb : BigB b) (n : Int) : ∀ k, k ≤ b.length → (plusB a (b.take k) n).length ≤ a.length + k
  | 0, _ => by simp [plusB]
  | k + 1, hk => by
    have h1 := ha
    have ih := plusG_len ha hb n k (by omega)
    have hp := plus_ok (n := n) h1.1 (fun x hx => (numB_ne (h1.2.1 x hx)).1) (asc_take hb.1 k)
    have hg : b[k]? = some b[k] := List.getElem?_eq_getElem (by omega)
    rw [take_snoc' hg, plus_snoc]
    have := put_len hp.1 (b[k]).1 (n * (b[k]).2)
    omega
theorem plus_num {a b : Bg} (ha : okBag a = true) (hb : okBag b = true) {n : Int} (hn : -1000000 ≤ n ∧ n ≤ 1000000) (k : Nat) {x : Rw × Int} (hx : x ∈ plusB a (b.take k) n) : -4000000000000 ≤ x.2 ∧ x.2 ≤ 4000000000000 := plusG_num (big_of ha) (big_of hb) hn k hx
theorem plus_len {a b : Bg} (ha : okBag a = true) (hb : okBag b = true) (n : Int) (k : Nat) (hk : k ≤ b.length) : (plusB a (b.take k) n).length ≤ a.length + k := plusG_len (big_of ha) (big_of hb) n k hk
end

section
open Go.RowKit
attribute [local go_sem] Oper.semAt_some

theorem one_cellI {l : List It} : ∀ u ∈ l.flatMap encIt, u.oneCell' = true := by
  intro u hu
  obtain ⟨v, _, hv⟩ := List.mem_flatMap.1 hu
  unfold encIt at hv
  simp only [List.mem_cons, List.not_mem_nil, or_false] at hv
  rcases hv with rfl | rfl <;> rfl
set_option maxRecDepth 100000 in
set_option maxHeartbeats 1000000 in
theorem RPlusG_any (A1 : Option Addr) (n1 c1 : Nat) (la : List It) (A2 : Option Addr) (n2 c2 : Nat) (lb : List It) (x : Int) (w : World) (ha : BagR w w.heap.size A1 n1 la) (hb : BagR w w.heap.size A2 n2 lb)
    (oa : BigB (dat la)) (ob : BigB (dat lb)) (hx : -1000000 ≤ x ∧ x ≤ 1000000) :
    Calls Tryz.prog 25 #[.slice A1 n1 c1, .slice A2 n2 c2, .int .i64 x] w (RetB w (plusB (dat la) (dat lb) x)) := by
  obtain ⟨i0, hi, hz0, hz1, hz2⟩ := info_parts3 infoItem
  have hla : n1 ≤ 1000 := by have := oa.2.2; rw [dat_len, ha.len] at this; exact this
  have hlb : n2 ≤ 1000 := by have := ob.2.2; rw [dat_len, hb.len] at this; exact this
  have OA := hide oa
  have OB := hide ob
  clear oa ob
  go_enter Tryz.func25, Tryz.ntmps25
  go_wp2_with (at_builtin; refine wpList_append_any _ rfl _ _ 40 rfl w.heap.size 119 i0 _ 2 32 Tryz.underlying40 hi hz0 hz1 hz2 rfl (by decide) (.slice none 0 0) 0 [] rfl (World.ownsRow_nil _ _ _ _) w.heap.size A1 n1 c1 (la.flatMap encIt) rfl ha.rd one_cellI (by unfold maxLen; omega) (by omega) (by simp) ?_; intro v' W1 hown hgrow _; rw [Nat.zero_add, List.nil_append] at hown)
  have hB1 : Below w.heap.size w W1 := below_append (Below.refl _ _) (World.ownsRow_nil w w.heap.size 119 2) (Nat.le_refl _) hgrow
  obtain ⟨A', c', rfl, hR⟩ := own_form hown
  have hbag : BagR W1 W1.heap.size A' n1 la := ⟨Reads.of_own hown, (ha.rows.below hB1).mono hB1.size, ha.le⟩
  have hcap := own_cap hown
  clear hR hown hgrow
  go_wp2_with fail
  go_loopw [7, 8] (fun v i wr => ∃ (k : Nat) (A : Option Addr) (n c : Nat) (l : List It), k ≤ n2 ∧ i = .int .i64 k ∧ .slice A n c = v ∧ BagR wr wr.heap.size A n l ∧ n ≤ c ∧ dat l = plusB (dat la) ((dat lb).take k) x ∧ Below w.heap.size w wr) (fun _ i _ => n2 - (intOf i).toNat)
  case atStart => exact ⟨0, _, _, _, la, Nat.zero_le _, rfl, rfl, hbag, hcap, rfl, hB1⟩
  case round =>
    clear hbag hcap hB1
    obtain ⟨k, A, n, c, l, hk, rfl, rfl, hbg, hcp, hdl, hBw⟩ := hrel
    by_cases hlt : k < n2
    · obtain ⟨b, off, y0, rfl, hbl, hyk, e0, e1, hy⟩ := (hb.below hBw).at_ hlt
      have hyd := dat_at hyk
      have hmem := List.mem_of_getElem? hyd
      have hym := numB_ne (OB.out.2.1 _ hmem)
      have hyr := OB.out.1.ok _ hmem
      have hy8 : y0.n ≤ 1000 := by
        have h1 : y0.r.length ≤ 8 := by unfold okR at hyr; rw [Bool.and_eq_true, decide_eq_true_eq] at hyr; exact hyr.2
        rw [hy.len] at h1
        omega
      have hmul : -1000000000000 ≤ x * y0.m ∧ x * y0.m ≤ 1000000000000 := mul_bound hx ⟨hym.2.1, hym.2.2⟩
      have hw1 : IntKind.i64.wrap (x * y0.m) = x * y0.m := by rw [IntKind.wrap_i64]; omega
      have hp := plus_ok (n := x) OA.out.1 (fun z hz => (numB_ne (OA.out.2.1 z hz)).1) (asc_take OB.out.1 k)
      have hpl := plusG_len OA.out OB.out x k (by rw [dat_len, hb.len]; exact hk)
      have HN := hide (show plusB (dat la) ((dat lb).take (k + 1)) x = putB (dat l) y0.r (x * y0.m) from by rw [take_snoc' hyd, plus_snoc, hdl])
      have hnl : n ≤ 2000 := by rw [← hdl, dat_len, dat_len, hbg.len, ha.len] at hpl; omega
      have HR := hide (show ∀ z ∈ dat l, z.1.length ≤ 1000 from fun z hz => by
        rw [hdl] at hz
        have h1 := hp.1.ok z hz
        unfold okR at h1
        rw [Bool.and_eq_true, decide_eq_true_eq] at h1
        omega)
      have HM := hide (show ∀ z ∈ dat l, -4000000000000 ≤ z.2 ∧ z.2 ≤ 4000000000000 from fun z hz => by rw [hdl] at hz; exact plusG_num OA.out OB.out hx k hz)
      have q1 : (0 : Int) ≤ (k : Int) := by omega
      have q2 : (k : Int) < (n2 : Int) := by omega
      clear hp hpl hyd hmem hyr hdl
      go_wp2_with fail
      refine Held.begin (fun y => y.cell? ⟨b, off + k * 2, none⟩ = some (.slice y0.A y0.n y0.c) ∧ y.cell? ⟨b, off + k * 2 + 1, none⟩ = some (.int .i64 y0.m)) 100 (by kernel_rfl) ?_
      obtain ⟨X1, hX1⟩ : ∃ X1, wr.drew = X1 := ⟨_, rfl⟩
      have hD : Below wr.heap.size wr X1 := by rw [← hX1]; exact (Below.refl _ _).drew
      have hS : X1.cell? ⟨b, off + k * 2, none⟩ = some (.slice y0.A y0.n y0.c) ∧ X1.cell? ⟨b, off + k * 2 + 1, none⟩ = some (.int .i64 y0.m) := by rw [← hX1]; exact ⟨e0, e1⟩
      rw [hX1]
      clear hX1 e0 e1
      refine Held.take (i := 0) (.slice A n c) rfl hS (by kernel_rfl) (by kernel_rfl) (by kernel_rfl) (by kernel_rfl) (fun _ _ _ h => h) rfl (fun y hy => by obtain ⟨x1, x2⟩ := hy; go_simp) ?_
      try simp only [Act.put]
      refine Held.take (i := 1) (.slice (some ⟨b, off, none⟩) n2 c2) rfl hS (by kernel_rfl) (by kernel_rfl) (by kernel_rfl) (by kernel_rfl) (fun _ _ _ h => h) rfl (fun y hy => by obtain ⟨x1, x2⟩ := hy; go_simp) ?_
      try simp only [Act.put]
      refine Held.take (i := 2) (.int .i64 (k : Int)) rfl hS (by kernel_rfl) (by kernel_rfl) (by kernel_rfl) (by kernel_rfl) (fun _ _ _ h => h) rfl (fun y hy => by obtain ⟨x1, x2⟩ := hy; go_simp) ?_
      try simp only [Act.put]
      refine Held.take (i := 3) (.pointer (some ⟨b, off + k * 2, none⟩)) rfl hS (by kernel_rfl) (by kernel_rfl) (by kernel_rfl) (by kernel_rfl) (fun _ _ _ h => h) rfl (fun y hy => by obtain ⟨x1, x2⟩ := hy; go_simp) ?_
      try simp only [Act.put]
      refine Held.take (i := 4) (.pointer (some ⟨b, off + k * 2, none⟩)) rfl hS (by kernel_rfl) (by kernel_rfl) (by kernel_rfl) (by kernel_rfl) (fun _ _ _ h => h) rfl (fun y hy => by obtain ⟨x1, x2⟩ := hy; go_simp) ?_
      try simp only [Act.put]
      refine Held.take (i := 5) (.slice y0.A y0.n y0.c) rfl hS (by kernel_rfl) (by kernel_rfl) (by kernel_rfl) (by kernel_rfl) (fun _ _ _ h => h) rfl (fun y hy => by obtain ⟨x1, x2⟩ := hy; go_simp) ?_
      try simp only [Act.put]
      refine Held.take (i := 6) (.int .i64 x) rfl hS (by kernel_rfl) (by kernel_rfl) (by kernel_rfl) (by kernel_rfl) (fun _ _ _ h => h) rfl (fun y hy => by obtain ⟨x1, x2⟩ := hy; go_simp) ?_
      try simp only [Act.put]
      refine Held.take (i := 7) (.slice (some ⟨b, off, none⟩) n2 c2) rfl hS (by kernel_rfl) (by kernel_rfl) (by kernel_rfl) (by kernel_rfl) (fun _ _ _ h => h) rfl (fun y hy => by obtain ⟨x1, x2⟩ := hy; go_simp) ?_
      try simp only [Act.put]
      refine Held.take (i := 8) (.int .i64 (k : Int)) rfl hS (by kernel_rfl) (by kernel_rfl) (by kernel_rfl) (by kernel_rfl) (fun _ _ _ h => h) rfl (fun y hy => by obtain ⟨x1, x2⟩ := hy; go_simp) ?_
      try simp only [Act.put]
      refine Held.take (i := 9) (.pointer (some ⟨b, off + k * 2, none⟩)) rfl hS (by kernel_rfl) (by kernel_rfl) (by kernel_rfl) (by kernel_rfl) (fun _ _ _ h => h) rfl (fun y hy => by obtain ⟨x1, x2⟩ := hy; go_simp) ?_
      try simp only [Act.put]
      refine Held.take (i := 10) (.pointer (some ⟨b, off + k * 2 + 1, none⟩)) rfl hS (by kernel_rfl) (by kernel_rfl) (by kernel_rfl) (by kernel_rfl) (fun _ _ _ h => h) rfl (fun y hy => by obtain ⟨x1, x2⟩ := hy; go_simp) ?_
      try simp only [Act.put]
      refine Held.take (i := 11) (.int .i64 y0.m) rfl hS (by kernel_rfl) (by kernel_rfl) (by kernel_rfl) (by kernel_rfl) (fun _ _ _ h => h) rfl (fun y hy => by obtain ⟨x1, x2⟩ := hy; go_simp) ?_
      try simp only [Act.put]
      refine Held.take (i := 12) (.int .i64 (x * y0.m)) rfl hS (by kernel_rfl) (by kernel_rfl) (by kernel_rfl) (by kernel_rfl) (fun _ _ _ h => h) rfl (fun y hy => by obtain ⟨x1, x2⟩ := hy; go_simp) ?_
      try simp only [Act.put]
      refine Held.one (i := 13) rfl (by kernel_rfl) rfl (fun K hK => ?_)
      unfold Oper.wp
      go_simp
      refine (RPut_any A n c l y0.A y0.n y0.c y0.r (x * y0.m) X1 ((hbg.below hD).mono hD.size) hnl ((hy.below hD).mono (Nat.le_trans hBw.size hD.size)) hy8 HR.out HM.out (by omega)).mono ?_
      rintro e X2 ⟨A2', n2', c2', l2', rfl, hd2, hb2, hc2, hB2⟩
      have hS2 : X2.cell? ⟨b, off + k * 2, none⟩ = some (.slice y0.A y0.n y0.c) ∧ X2.cell? ⟨b, off + k * 2 + 1, none⟩ = some (.int .i64 y0.m) := ⟨(hB2.cell (World.block_lt_of_cell? _ _ hS.1)).trans hS.1, (hB2.cell (World.block_lt_of_cell? _ _ hS.2)).trans hS.2⟩
      refine hK _ _ (fun _ => hS2) ?_
      try simp only [Act.put]
      have hBf := bstep (bstep hBw hD) hB2
      clear hK K hS hB2 hD hBw hbg
      refine Held.one (i := 14) rfl (by kernel_rfl) rfl (fun K hK => ?_)
      unfold Oper.wp
      go_simp
      refine hK _ _ (fun _ => hS2) ?_
      try simp only [Act.put]
      clear hK K hS2
      refine Held.done (by kernel_rfl) ?_
      go_wp2
      go_roundw
      case rel => exact ⟨k + 1, _, _, _, l2', by omega, by go_num, rfl, hb2, hc2, by rw [HN.out]; exact hd2, hBf⟩
      case measure => simp [intOf]; omega
    · obtain rfl : k = n2 := by omega
      have HX := hide (show dat l = plusB (dat la) (dat lb) x from by rw [hdl, take_all (by rw [dat_len, hb.len])])
      clear hdl
      go_wp2
      go_ret
      exact ⟨A, n, c, l, rfl, HX.out, hbg, hcp, hBw⟩
theorem RPlus_any (A1 : Option Addr) (n1 c1 : Nat) (la : List It) (A2 : Option Addr) (n2 c2 : Nat) (lb : List It) (x : Int) (w : World) (ha : BagR w w.heap.size A1 n1 la) (hb : BagR w w.heap.size A2 n2 lb)
    (oa : okBag (dat la) = true) (ob : okBag (dat lb) = true) (hx : -1000000 ≤ x ∧ x ≤ 1000000) :
    Calls Tryz.prog 25 #[.slice A1 n1 c1, .slice A2 n2 c2, .int .i64 x] w (RetB w (plusB (dat la) (dat lb) x)) :=
  RPlusG_any A1 n1 c1 la A2 n2 c2 lb x w ha hb (big_of oa) (big_of ob) hx
end

section
open Go.RowKit
attribute [local go_sem] Oper.semAt_some

theorem aft_part {a : Bg} {lc : List Ch} (ha : okBag a = true) (hc : okChs lc = true) (k : Nat) : Net (a ++ (chD lc).take k) (aftB a ((chD lc).take k)) :=
  aft_ok (fun x hx => ((chs_in hc).1 x (List.mem_of_mem_take hx)).1) (okBag_asc ha).1 fun x hx => (numB_ne ((okBag_asc ha).2.1 x hx)).1
theorem aft_len {a : Bg} {lc : List Ch} (ha : okBag a = true) (hc : okChs lc = true) : ∀ k, k ≤ (chD lc).length → (aftB a ((chD lc).take k)).length ≤ a.length + k
  | 0, _ => by simp [aftB]
  | k + 1, hk => by
    have ih := aft_len ha hc k (by omega)
    have h1 : (chD lc)[k]? = some ((chD lc)[k]'(by omega)) := List.getElem?_eq_getElem (by omega)
    rw [take_snoc' h1, aft_snoc]
    have := put_len (aft_part ha hc k).asc ((chD lc)[k]'(by omega)).1 ((chD lc)[k]'(by omega)).2
    omega
theorem aft_num {a : Bg} {lc : List Ch} (ha : okBag a = true) (hc : okChs lc = true) (k : Nat) : ∀ x ∈ aftB a ((chD lc).take k), -4000000000000 ≤ x.2 ∧ x.2 ≤ 4000000000000 := by
  intro x hx
  have hn := aft_part ha hc k
  have h1 := sum_abs (xs := a ++ (chD lc).take k) (fun z hz => by
    rcases List.mem_append.1 hz with h | h
    · exact (numB_ne ((okBag_asc ha).2.1 z h)).2
    · exact (numB_ne ((chs_in hc).1 z (List.mem_of_mem_take h)).2).2) x.1
  rw [← hn.sum, look_in (asc_apart hn.asc) hx] at h1
  have h2 : (a ++ (chD lc).take k).length ≤ 800 := by
    rw [List.length_append, List.length_take, chD_len]
    have := (okBag_asc ha).2.2
    have := (chs_in hc).2
    omega
  omega
set_option maxRecDepth 100000 in
set_option maxHeartbeats 1000000 in
theorem RAfter_any (A1 : Option Addr) (n1 c1 : Nat) (la : List It) (A2 : Option Addr) (n2 c2 : Nat) (lc : List Ch) (w : World) (ha : BagR w w.heap.size A1 n1 la) (hcp1 : n1 ≤ c1) (hb : ChgR w w.heap.size A2 n2 lc)
    (oa : okBag (dat la) = true) (ob : okChs lc = true) :
    Calls Tryz.prog 56 #[.slice A1 n1 c1, .slice A2 n2 c2] w (RetB w (aftB (dat la) (chD lc))) := by
  have hla : n1 ≤ 400 := by have := (okBag_asc oa).2.2; rw [dat_len, ha.len] at this; exact this
  have hlb : n2 ≤ 400 := by have := (chs_in ob).2; rw [hb.len] at this; exact this
  have OA := hide oa
  have OB := hide ob
  clear oa ob
  go_enter Tryz.func56, Tryz.ntmps56
  go_wp2_with fail
  go_loopw [5, 6] (fun v i wr => ∃ (k : Nat) (A : Option Addr) (n c : Nat) (l : List It), k ≤ n2 ∧ i = .int .i64 k ∧ .slice A n c = v ∧ BagR wr wr.heap.size A n l ∧ n ≤ c ∧ dat l = aftB (dat la) ((chD lc).take k) ∧ Below w.heap.size w wr) (fun _ i _ => n2 - (intOf i).toNat)
  case atStart => exact ⟨0, _, _, _, la, Nat.zero_le _, rfl, rfl, ha, hcp1, rfl, Below.refl _ _⟩
  case round =>
    obtain ⟨k, A, n, c, l, hk, rfl, rfl, hbg, hcp, hdl, hBw⟩ := hrel
    by_cases hlt : k < n2
    · obtain ⟨b, off, y0, rfl, hbl, hyk, _, e0, e1, hy⟩ := (hb.below hBw).at_ hlt
      have hyd := chD_at hyk
      have hmem := List.mem_of_getElem? hyd
      have hym := numB_ne ((chs_in OB.out).1 _ hmem).2
      have hyr := ((chs_in OB.out).1 _ hmem).1
      have hy8 : y0.n ≤ 1000 := by
        have h1 : y0.r.length ≤ 8 := by unfold okR at hyr; rw [Bool.and_eq_true, decide_eq_true_eq] at hyr; exact hyr.2
        rw [hy.len] at h1
        omega
      have hp := aft_part OA.out OB.out k
      have hpl := aft_len OA.out OB.out k (by rw [chD_len, hb.len]; exact hk)
      have HN := hide (show aftB (dat la) ((chD lc).take (k + 1)) = putB (dat l) y0.r y0.m from by rw [take_snoc' hyd, aft_snoc, hdl])
      have hnl : n ≤ 2000 := by rw [← hdl, dat_len, dat_len, hbg.len, ha.len] at hpl; omega
      have HR := hide (show ∀ z ∈ dat l, z.1.length ≤ 1000 from fun z hz => by
        rw [hdl] at hz
        have h1 := hp.asc.ok z hz
        unfold okR at h1
        rw [Bool.and_eq_true, decide_eq_true_eq] at h1
        omega)
      have HM := hide (show ∀ z ∈ dat l, -4000000000000 ≤ z.2 ∧ z.2 ≤ 4000000000000 from fun z hz => by rw [hdl] at hz; exact aft_num OA.out OB.out k z hz)
      have q1 : (0 : Int) ≤ (k : Int) := by omega
      have q2 : (k : Int) < (n2 : Int) := by omega
      clear hp hpl hyd hmem hyr hdl
      go_wp2_with fail
      refine Held.begin (fun y => y.cell? ⟨b, off + k * 3 + 1, none⟩ = some (.slice y0.A y0.n y0.c) ∧ y.cell? ⟨b, off + k * 3 + 2, none⟩ = some (.int .i64 y0.m)) 100 (by kernel_rfl) ?_
      obtain ⟨X1, hX1⟩ : ∃ X1, wr.drew = X1 := ⟨_, rfl⟩
      have hD : Below wr.heap.size wr X1 := by rw [← hX1]; exact (Below.refl _ _).drew
      have hS : X1.cell? ⟨b, off + k * 3 + 1, none⟩ = some (.slice y0.A y0.n y0.c) ∧ X1.cell? ⟨b, off + k * 3 + 2, none⟩ = some (.int .i64 y0.m) := by rw [← hX1]; exact ⟨e0, e1⟩
      rw [hX1]
      clear hX1 e0 e1
      refine Held.take (i := 0) (.slice A n c) rfl hS (by kernel_rfl) (by kernel_rfl) (by kernel_rfl) (by kernel_rfl) (fun _ _ _ h => h) rfl (fun y hy => by obtain ⟨x1, x2⟩ := hy; go_simp) ?_
      try simp only [Act.put]
      refine Held.take (i := 1) (.slice (some ⟨b, off, none⟩) n2 c2) rfl hS (by kernel_rfl) (by kernel_rfl) (by kernel_rfl) (by kernel_rfl) (fun _ _ _ h => h) rfl (fun y hy => by obtain ⟨x1, x2⟩ := hy; go_simp) ?_
      try simp only [Act.put]
      refine Held.take (i := 2) (.int .i64 (k : Int)) rfl hS (by kernel_rfl) (by kernel_rfl) (by kernel_rfl) (by kernel_rfl) (fun _ _ _ h => h) rfl (fun y hy => by obtain ⟨x1, x2⟩ := hy; go_simp) ?_
      try simp only [Act.put]
      refine Held.take (i := 3) (.pointer (some ⟨b, off + k * 3, none⟩)) rfl hS (by kernel_rfl) (by kernel_rfl) (by kernel_rfl) (by kernel_rfl) (fun _ _ _ h => h) rfl (fun y hy => by obtain ⟨x1, x2⟩ := hy; go_simp) ?_
      try simp only [Act.put]
      refine Held.take (i := 4) (.pointer (some ⟨b, off + k * 3 + 1, none⟩)) rfl hS (by kernel_rfl) (by kernel_rfl) (by kernel_rfl) (by kernel_rfl) (fun _ _ _ h => h) rfl (fun y hy => by obtain ⟨x1, x2⟩ := hy; go_simp) ?_
      try simp only [Act.put]
      refine Held.take (i := 5) (.slice y0.A y0.n y0.c) rfl hS (by kernel_rfl) (by kernel_rfl) (by kernel_rfl) (by kernel_rfl) (fun _ _ _ h => h) rfl (fun y hy => by obtain ⟨x1, x2⟩ := hy; go_simp) ?_
      try simp only [Act.put]
      refine Held.take (i := 6) (.slice (some ⟨b, off, none⟩) n2 c2) rfl hS (by kernel_rfl) (by kernel_rfl) (by kernel_rfl) (by kernel_rfl) (fun _ _ _ h => h) rfl (fun y hy => by obtain ⟨x1, x2⟩ := hy; go_simp) ?_
      try simp only [Act.put]
      refine Held.take (i := 7) (.int .i64 (k : Int)) rfl hS (by kernel_rfl) (by kernel_rfl) (by kernel_rfl) (by kernel_rfl) (fun _ _ _ h => h) rfl (fun y hy => by obtain ⟨x1, x2⟩ := hy; go_simp) ?_
      try simp only [Act.put]
      refine Held.take (i := 8) (.pointer (some ⟨b, off + k * 3, none⟩)) rfl hS (by kernel_rfl) (by kernel_rfl) (by kernel_rfl) (by kernel_rfl) (fun _ _ _ h => h) rfl (fun y hy => by obtain ⟨x1, x2⟩ := hy; go_simp) ?_
      try simp only [Act.put]
      refine Held.take (i := 9) (.pointer (some ⟨b, off + k * 3 + 2, none⟩)) rfl hS (by kernel_rfl) (by kernel_rfl) (by kernel_rfl) (by kernel_rfl) (fun _ _ _ h => h) rfl (fun y hy => by obtain ⟨x1, x2⟩ := hy; go_simp) ?_
      try simp only [Act.put]
      refine Held.take (i := 10) (.int .i64 y0.m) rfl hS (by kernel_rfl) (by kernel_rfl) (by kernel_rfl) (by kernel_rfl) (fun _ _ _ h => h) rfl (fun y hy => by obtain ⟨x1, x2⟩ := hy; go_simp) ?_
      try simp only [Act.put]
      refine Held.one (i := 11) rfl (by kernel_rfl) rfl (fun K hK => ?_)
      unfold Oper.wp
      go_simp
      refine (RPut_any A n c l y0.A y0.n y0.c y0.r y0.m X1 ((hbg.below hD).mono hD.size) hnl ((hy.below hD).mono (Nat.le_trans hBw.size hD.size)) hy8 HR.out HM.out (by omega)).mono ?_
      rintro e X2 ⟨A2', n2', c2', l2', rfl, hd2, hb2, hc2, hB2⟩
      have hS2 : X2.cell? ⟨b, off + k * 3 + 1, none⟩ = some (.slice y0.A y0.n y0.c) ∧ X2.cell? ⟨b, off + k * 3 + 2, none⟩ = some (.int .i64 y0.m) := ⟨(hB2.cell (World.block_lt_of_cell? _ _ hS.1)).trans hS.1, (hB2.cell (World.block_lt_of_cell? _ _ hS.2)).trans hS.2⟩
      refine hK _ _ (fun _ => hS2) ?_
      try simp only [Act.put]
      have hBf := bstep (bstep hBw hD) hB2
      clear hK K hS hB2 hD hBw hbg
      refine Held.one (i := 12) rfl (by kernel_rfl) rfl (fun K hK => ?_)
      unfold Oper.wp
      go_simp
      refine hK _ _ (fun _ => hS2) ?_
      try simp only [Act.put]
      clear hK K hS2
      refine Held.done (by kernel_rfl) ?_
      go_wp2
      go_roundw
      case rel => exact ⟨k + 1, _, _, _, l2', by omega, by go_num, rfl, hb2, hc2, by rw [HN.out]; exact hd2, hBf⟩
      case measure => simp [intOf]; omega
    · obtain rfl : k = n2 := by omega
      have HX := hide (show dat l = aftB (dat la) (chD lc) from by rw [hdl, take_all (by rw [chD_len, hb.len])])
      clear hdl
      go_wp2
      go_ret
      exact ⟨A, n, c, l, rfl, HX.out, hbg, hcp, hBw⟩
end

section
open Go.RowKit

theorem ascI_of : ∀ {l : Bg} {p : Rw}, Asc l → (∀ x ∈ l, numB x.2 = true) → (∀ x ∈ l, cmpR p x.1 < 0) → ascI (some p) l = true
  | [], _, _, _, _ => rfl
  | x :: l, p, h, hn, hp => by
    rw [ascI, hn x (by simp), h.ok x (by simp)]
    have h1 := hp x (by simp)
    have h2 := ascI_of (l := l) (p := x.1) h.tail (fun y hy => hn y (List.mem_cons_of_mem _ hy)) (fun y hy => h.head y hy)
    simp [h1, h2]
theorem okBag_of {l : Bg} (h : Asc l) (hn : ∀ x ∈ l, numB x.2 = true) (hl : l.length ≤ 400) : okBag l = true := by
  unfold okBag
  rw [Bool.and_eq_true, decide_eq_true_eq]
  refine ⟨?_, hl⟩
  cases l with
  | nil => rfl
  | cons x l =>
    rw [ascI, hn x (by simp), h.ok x (by simp)]
    have h2 := ascI_of (l := l) (p := x.1) h.tail (fun y hy => hn y (List.mem_cons_of_mem _ hy)) (fun y hy => h.head y hy)
    simp [h2]
theorem okBag_bad {l : Bg} {x : Rw × Int} (hx : x ∈ l) (hn : numB x.2 = false) : okBag l = false := by
  cases h : okBag l
  · rfl
  · rw [(okBag_asc h).2.1 x hx] at hn
    cases hn
theorem okBag_long {l : Bg} (h : 400 < l.length) : okBag l = false := by
  unfold okBag
  rw [Bool.and_eq_false_iff]
  right
  simp
  omega
theorem diff_asc {a b : Bg} (ha : okBag a = true) (hb : okBag b = true) : Asc (both (fun m k => k - m) (prs a b)) := (both_prs (f := fun m k => k - m) (by simp) (okBag_asc ha).1 (okBag_asc hb).1).1
theorem diff_look {a b : Bg} (ha : okBag a = true) (hb : okBag b = true) (r : Rw) : look (both (fun m k => k - m) (prs a b)) r = look b r - look a r := (both_prs (f := fun m k => k - m) (by simp) (okBag_asc ha).1 (okBag_asc hb).1).2.2 r
theorem diff_eq {a b : Bg} (ha : okBag a = true) (hb : okBag b = true) : both (fun m k => k - m) (prs a b) = plusB b a (-1) := by
  obtain ⟨i1, i2, i3⟩ := both_prs (f := fun m k => k - m) (by simp) (okBag_asc ha).1 (okBag_asc hb).1
  obtain ⟨j1, j2, j3⟩ := plus_ok (n := -1) (okBag_asc hb).1 (fun x hx => (numB_ne ((okBag_asc hb).2.1 x hx)).1) (okBag_asc ha).1
  refine Asc.ext i1 j1 i2 j2 fun r => ?_
  rw [i3, j3]
  omega
/-- What Changes tells. -/
def diffB (a b : Bg) (T : Int) : Bg × Int := if okBag a && okBag b then (if btw T (-1000000000000) 1000000000000 then toldB (both (fun m k => k - m) (prs a b)) else ([], 7)) else ([], 1)
/-- The changes from a to b make b of a. -/
theorem apply_diff {a b : Bg} {T : Int} {lc : List Ch} (h0 : (diffB a b T).2 = 0) (hd : chD lc = (diffB a b T).1) (ht : ∀ i ∈ lc, i.t = T) : applyB a lc = (b, 0) := by
  unfold diffB at h0 hd
  cases ha : okBag a
  · rw [ha] at h0; cases h0
  cases hb : okBag b
  · rw [ha, hb] at h0; cases h0
  cases hT : btw T (-1000000000000) 1000000000000
  · rw [ha, hb, hT] at h0; cases h0
  rw [ha, hb, hT] at h0 hd
  simp only [Bool.and_self, if_true] at h0 hd
  unfold toldB at h0 hd
  cases hk : okBag (both (fun m k => k - m) (prs a b))
  · rw [hk] at h0; cases h0
  rw [hk] at hd
  simp only [if_true] at hd
  have hc : okChs lc = true := by
    unfold okChs
    rw [Bool.and_eq_true, decide_eq_true_eq, List.all_eq_true]
    refine ⟨by rw [← chD_len, hd]; exact (okBag_asc hk).2.2, fun i hi => ?_⟩
    have hm : (i.r, i.m) ∈ chD lc := List.mem_map.2 ⟨i, hi, rfl⟩
    rw [hd] at hm
    unfold chV okCh
    rw [ht i hi, hT, (okBag_asc hk).1.ok _ hm, (okBag_asc hk).2.1 _ hm]
    rfl
  have hn : aftB a (chD lc) = b := (aft_net ha hc).same (Net.one hb) fun r => by
    rw [sumG_app, hd, sumG_asc (okBag_asc ha).1, sumG_asc (diff_asc ha hb), diff_look ha hb, sumG_asc (okBag_asc hb).1]
    omega
  unfold applyB
  rw [ha, hc, hn]
  unfold toldB
  rw [hb]
  rfl
end

section
open Go.RowKit

/-- The greatest time at which a row with this text changes. -/
def lstS (t : List UInt8) (o : Option Int) (i : Ch) : Option Int := if rowT i.r = t then (match o with
  | none => some i.t
  | some s => if s < i.t then some i.t else some s) else o
def lst (l : List Ch) (t : List UInt8) : Option Int := l.foldl (lstS t) none
theorem lst_snoc (l : List Ch) (i : Ch) (t : List UInt8) : lst (l ++ [i]) t = lstS t (lst l t) i := by unfold lst; rw [List.foldl_append]; rfl
theorem lst_from {l : List Ch} {t : List UInt8} {s : Int} (h : lst l t = some s) : ∃ i ∈ l, i.t = s := by
  have gen : ∀ (l : List Ch) (o : Option Int), l.foldl (lstS t) o = some s → o = some s ∨ ∃ i ∈ l, i.t = s := by
    intro l
    induction l with
    | nil => intro o h; exact .inl h
    | cons x l ih =>
      intro o h
      rcases ih _ h with h1 | ⟨i, hi, e⟩
      · unfold lstS at h1
        split at h1
        · cases o with
          | none =>
            simp only at h1
            injection h1 with h1
            exact .inr ⟨x, by simp, h1⟩
          | some v =>
            simp only at h1
            split at h1
            · injection h1 with h1
              exact .inr ⟨x, by simp, h1⟩
            · exact .inl h1
        · exact .inl h1
      · exact .inr ⟨i, List.mem_cons_of_mem _ hi, e⟩
  rcases gen l none h with h | h
  · cases h
  · exact h
/-- The time that Netted tells of a row. -/
def tim (l : List Ch) (r : Rw) : Int := (lst l (rowT r)).getD 0
theorem tim_ok {l : List Ch} (h : okChs l = true) (r : Rw) : btw (tim l r) (-1000000000000) 1000000000000 = true := by
  unfold tim
  cases he : lst l (rowT r) with
  | none => rfl
  | some s =>
    obtain ⟨i, hi, rfl⟩ := lst_from he
    unfold okChs at h
    rw [Bool.and_eq_true, List.all_eq_true] at h
    have h1 := h.2 i hi
    unfold chV okCh at h1
    simp only [Bool.and_eq_true] at h1
    exact h1.1.1
/-- What Netted tells. -/
def netB (l : List Ch) : List (Rw × Int × Int) × Int := if okChs l then (if okBag (aftB [] (chD l)) then ((aftB [] (chD l)).map fun x => (x.1, tim l x.1, x.2), 0) else ([], 4)) else ([], 1)
theorem aft_nil {l : List Ch} (h : okChs l = true) : Net (chD l) (aftB [] (chD l)) := by
  have := aft_net (a := []) (lc := l) rfl h
  simpa using this
theorem datC_chD (l : List Ch) : (datC l).map (fun x => (x.1, x.2.2)) = chD l := by
  unfold datC chD
  rw [List.map_map]
  rfl
/-- Netted changes make the same bag. -/
theorem apply_net {a : Bg} {l c : List Ch} (h0 : (netB l).2 = 0) (hd : datC c = (netB l).1) : applyB a c = applyB a l := by
  unfold netB at h0 hd
  cases hl : okChs l
  · rw [hl] at h0; cases h0
  cases hk : okBag (aftB [] (chD l))
  · rw [hl, hk] at h0; cases h0
  rw [hl, hk] at hd
  simp only [if_true] at hd
  have hcd : chD c = aftB [] (chD l) := by
    rw [← datC_chD, hd, List.map_map]
    exact List.map_id'' (fun x => rfl) _
  have hc : okChs c = true := by
    unfold okChs
    rw [Bool.and_eq_true, decide_eq_true_eq, List.all_eq_true]
    refine ⟨by rw [← chD_len, hcd]; exact (okBag_asc hk).2.2, fun i hi => ?_⟩
    have hm : (i.r, i.t, i.m) ∈ datC c := List.mem_map.2 ⟨i, hi, rfl⟩
    rw [hd] at hm
    obtain ⟨x, hx, e⟩ := List.mem_map.1 hm
    injection e with e1 e2
    injection e2 with e2 e3
    unfold chV okCh
    rw [← e1, ← e2, ← e3, tim_ok hl, (okBag_asc hk).1.ok _ hx, (okBag_asc hk).2.1 _ hx]
    rfl
  unfold applyB
  rw [hl, hc]
  cases ha : okBag a
  · rfl
  have he : aftB a (chD c) = aftB a (chD l) := (aft_net ha hc).same (aft_net ha hl) fun r => by
    rw [sumG_app, sumG_app, hcd, sumG_asc (okBag_asc hk).1, (aft_nil hl).sum]
  rw [he]
theorem sumG_perm {a b : Bg} (h : a.Perm b) (r : Rw) : sumG a r = sumG b r := by
  induction h with
  | nil => rfl
  | cons x _ ih => simp only [sumG, ih]
  | swap x y l => simp only [sumG]; omega
  | trans _ _ h1 h2 => exact h1.trans h2
/-- The order in which changes are told does not matter. -/
theorem apply_perm {a : Bg} {l c : List Ch} (hp : c.Perm l) : applyB a c = applyB a l := by
  have hok : okChs c = okChs l := by
    unfold okChs
    rw [hp.length_eq]
    congr 1
    rw [Bool.eq_iff_iff, List.all_eq_true, List.all_eq_true]
    exact ⟨fun h x hx => h x (hp.mem_iff.2 hx), fun h x hx => h x (hp.mem_iff.1 hx)⟩
  unfold applyB
  rw [hok]
  cases hl : okChs l
  · simp
  cases ha : okBag a
  · rfl
  have he : aftB a (chD c) = aftB a (chD l) := (aft_net ha (hok.trans hl)).same (aft_net ha hl) fun r => by
    rw [sumG_app, sumG_app, sumG_perm (show (chD c).Perm (chD l) from hp.map _)]
  rw [he]
end

end Go.Proofs.YtoapjidpfghnlaaGreatDoor
