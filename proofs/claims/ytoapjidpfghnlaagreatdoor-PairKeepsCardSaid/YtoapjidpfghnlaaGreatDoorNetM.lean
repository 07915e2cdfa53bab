/-
  The walk of bag.Times, for every bag and number.
  Plain bounds for the walk of the reference's Plus.
  The walk of the reference's Plus, for every two valid bags and a number in range. (Printed by gen_bgs8.)
  The walks of the reference's After and Apply. (Printed by gen_aft.)
  Plain laws of the changes between two bags.
  Plain laws of Netted: the last time of each row, and what netted changes make of a bag.
-/
import Derived.Test.YtoapjidpfghnlaaGreatDoorBgL
import Derived.Test.YtoapjidpfghnlaaGreatDoorApl
import Derived.Test.YtoapjidpfghnlaaGreatDoorBgS5
namespace Go.Proofs.YtoapjidpfghnlaaGreatDoor

section
open Go.RowKit
attribute [local go_sem] Oper.semAt_some

/-- What Times tells. -/
def timesB (b : Bg) (n : Int) : Bg × Int := if okBag b then (if btw n (-1000000) 1000000 then comb (fun m _ => m * n) b [] else ([], 7)) else ([], 1)
end

section
open Go.RowKit

theorem ins_len (r : Rw) (n : Int) : ∀ b : Bg, (insB r n b).length ≤ b.length + 1
  | [] => by unfold insB; split <;> simp
  | y :: b => by
    have := ins_len r n b
    unfold insB
    split
    · split <;> simp <;> omega
    · split
      · split <;> simp
      · simp; omega
theorem asc_take {b : Bg} (h : Asc b) (k : Nat) : Asc (b.take k) := ⟨fun y hy => h.ok y (List.mem_of_mem_take hy), h.up.sublist (List.take_sublist _ _)⟩
theorem plus_snoc (a b : Bg) (x : Rw × Int) (n : Int) : plusB a (b ++ [x]) n = putB (plusB a b n) x.1 (n * x.2) := by unfold plusB; rw [List.foldl_append]; rfl
theorem put_len {b : Bg} (h : Asc b) (r : Rw) (n : Int) : (putB b r n).length ≤ b.length + 1 := by rw [putB_ins h.up]; exact ins_len r n b
theorem look_bound {d : Bg} (hd : ∀ x ∈ d, numB x.2 = true) (r : Rw) : -1000000 ≤ look d r ∧ look d r ≤ 1000000 := by
  induction d with
  | nil => unfold look; omega
  | cons y d ih =>
    rw [look]
    split
    · have := numB_ne (hd y (by simp)); omega
    · exact ih fun z hz => hd z (List.mem_cons_of_mem _ hz)
/-- A bag that ascends, whose numbers are a bag's, and that is not too long. -/
def BigB (d : Bg) : Prop := Asc d ∧ (∀ x ∈ d, numB x.2 = true) ∧ d.length ≤ 1000
end

section
open Go.RowKit
attribute [local go_sem] Oper.semAt_some

theorem one_cellI {l : List It} : ∀ u ∈ l.flatMap encIt, u.oneCell' = true := by
  intro u hu
  obtain ⟨v, _, hv⟩ := List.mem_flatMap.1 hu
  unfold encIt at hv
  simp only [List.mem_cons, List.not_mem_nil, or_false] at hv
  rcases hv with rfl | rfl <;> rfl
end

section
open Go.RowKit
attribute [local go_sem] Oper.semAt_some

theorem aft_part {a : Bg} {lc : List Ch} (ha : okBag a = true) (hc : okChs lc = true) (k : Nat) : Net (a ++ (chD lc).take k) (aftB a ((chD lc).take k)) :=
  aft_ok (fun x hx => ((chs_in hc).1 x (List.mem_of_mem_take hx)).1) (okBag_asc ha).1 fun x hx => (numB_ne ((okBag_asc ha).2.1 x hx)).1
theorem aft_len {a : Bg} {lc : List Ch} (ha : okBag a = true) (hc : okChs lc = true) : ∀ k, k ≤ (chD lc).length → (aftB a ((chD lc).take k)).length ≤ a.length + k
  | 0, _ => by simp [aftB]
  | k + 1, hk => by
    have ih := aft_len ha hc k (by omega)
    have h1 : (chD lc)[k]? = some ((chD lc)[k]'(by omega)) := List.getElem?_eq_getElem (by omega)
    rw [take_snoc' h1, aft_snoc]
    have := put_len (aft_part ha hc k).asc ((chD lc)[k]'(by omega)).1 ((chD lc)[k]'(by omega)).2
    omega
theorem aft_num {a : Bg} {lc : List Ch} (ha : okBag a = true) (hc : okChs lc = true) (k : Nat) : ∀ x ∈ aftB a ((chD lc).take k), -4000000000000 ≤ x.2 ∧ x.2 ≤ 4000000000000 := by
  intro x hx
  have hn := aft_part ha hc k
  have h1 := sum_abs (xs := a ++ (chD lc).take k) (fun z hz => by
    rcases List.mem_append.1 hz with h | h
    · exact (numB_ne ((okBag_asc ha).2.1 z h)).2
    · exact (numB_ne ((chs_in hc).1 z (List.mem_of_mem_take h)).2).2) x.1
  rw [← hn.sum, look_in (asc_apart hn.asc) hx] at h1
  have h2 : (a ++ (chD lc).take k).length ≤ 800 := by
    rw [List.length_append, List.length_take, chD_len]
    have := (okBag_asc ha).2.2
    have := (chs_in hc).2
    omega
  omega
set_option maxRecDepth 100000 in
set_option maxHeartbeats 1000000 in
theorem RAfter_any (A1 : Option Addr) (n1 c1 : Nat) (la : List It) (A2 : Option Addr) (n2 c2 : Nat) (lc : List Ch) (w : World) (ha : BagR w w.heap.size A1 n1 la) (hcp1 : n1 ≤ c1) (hb : ChgR w w.heap.size A2 n2 lc)
    (oa : okBag (dat la) = true) (ob : okChs lc = true) :
    Calls Tryz.prog 56 #[.slice A1 n1 c1, .slice A2 n2 c2] w (RetB w (aftB (dat la) (chD lc))) := by
  have hla : n1 ≤ 400 := by have := (okBag_asc oa).2.2; rw [dat_len, ha.len] at this; exact this
  have hlb : n2 ≤ 400 := by have := (chs_in ob).2; rw [hb.len] at this; exact this
  have OA := hide oa
  have OB := hide ob
  clear oa ob
  go_enter Tryz.func56, Tryz.ntmps56
  go_wp2_with fail
  go_loopw [5, 6] (fun v i wr => ∃ (k : Nat) (A : Option Addr) (n c : Nat) (l : List It), k ≤ n2 ∧ i = .int .i64 k ∧ .slice A n c = v ∧ BagR wr wr.heap.size A n l ∧ n ≤ c ∧ dat l = aftB (dat la) ((chD lc).take k) ∧ Below w.heap.size w wr) (fun _ i _ => n2 - (intOf i).toNat)
  case atStart => exact ⟨0, _, _, _, la, Nat.zero_le _, rfl, rfl, ha, hcp1, rfl, Below.refl _ _⟩
  case round =>
    obtain ⟨k, A, n, c, l, hk, rfl, rfl, hbg, hcp, hdl, hBw⟩ := hrel
    by_cases hlt : k < n2
    · obtain ⟨b, off, y0, rfl, hbl, hyk, _, e0, e1, hy⟩ := (hb.below hBw).at_ hlt
      have hyd := chD_at hyk
      have hmem := List.mem_of_getElem? hyd
      have hym := numB_ne ((chs_in OB.out).1 _ hmem).2
      have hyr := ((chs_in OB.out).1 _ hmem).1
      have hy8 : y0.n ≤ 1000 := by
        have h1 : y0.r.length ≤ 8 := by unfold okR at hyr; rw [Bool.and_eq_true, decide_eq_true_eq] at hyr; exact hyr.2
        rw [hy.len] at h1
        omega
      have hp := aft_part OA.out OB.out k
      have hpl := aft_len OA.out OB.out k (by rw [chD_len, hb.len]; exact hk)
      have HN := hide (show aftB (dat la) ((chD lc).take (k + 1)) = putB (dat l) y0.r y0.m from by rw [take_snoc' hyd, aft_snoc, hdl])
      have hnl : n ≤ 2000 := by rw [← hdl, dat_len, dat_len, hbg.len, ha.len] at hpl; omega
      have HR := hide (show ∀ z ∈ dat l, z.1.length ≤ 1000 from fun z hz => by
        rw [hdl] at hz
        have h1 := hp.asc.ok z hz
        unfold okR at h1
        rw [Bool.and_eq_true, decide_eq_true_eq] at h1
        omega)
      have HM := hide (show ∀ z ∈ dat l, -4000000000000 ≤ z.2 ∧ z.2 ≤ 4000000000000 from fun z hz => by rw [hdl] at hz; exact aft_num OA.out OB.out k z hz)
      have q1 : (0 : Int) ≤ (k : Int) := by omega
      have q2 : (k : Int) < (n2 : Int) := by omega
      clear hp hpl hyd hmem hyr hdl
      go_wp2_with fail
      refine Held.begin (fun y => y.cell? ⟨b, off + k * 3 + 1, none⟩ = some (.slice y0.A y0.n y0.c) ∧ y.cell? ⟨b, off + k * 3 + 2, none⟩ = some (.int .i64 y0.m)) 100 (by kernel_rfl) ?_
      obtain ⟨X1, hX1⟩ : ∃ X1, wr.drew = X1 := ⟨_, rfl⟩
      have hD : Below wr.heap.size wr X1 := by rw [← hX1]; exact (Below.refl _ _).drew
      have hS : X1.cell? ⟨b, off + k * 3 + 1, none⟩ = some (.slice y0.A y0.n y0.c) ∧ X1.cell? ⟨b, off + k * 3 + 2, none⟩ = some (.int .i64 y0.m) := by rw [← hX1]; exact ⟨e0, e1⟩
      rw [hX1]
      clear hX1 e0 e1
      refine Held.take (i := 0) (.slice A n c) rfl hS (by kernel_rfl) (by kernel_rfl) (by kernel_rfl) (by kernel_rfl) (fun _ _ _ h => h) rfl (fun y hy => by obtain ⟨x1, x2⟩ := hy; go_simp) ?_
      try simp only [Act.put]
      refine Held.take (i := 1) (.slice (some ⟨b, off, none⟩) n2 c2) rfl hS (by kernel_rfl) (by kernel_rfl) (by kernel_rfl) (by kernel_rfl) (fun _ _ _ h => h) rfl (fun y hy => by obtain ⟨x1, x2⟩ := hy; go_simp) ?_
      try simp only [Act.put]
      refine Held.take (i := 2) (.int .i64 (k : Int)) rfl hS (by kernel_rfl) (by kernel_rfl) (by kernel_rfl) (by kernel_rfl) (fun _ _ _ h => h) rfl (fun y hy => by obtain ⟨x1, x2⟩ := hy; go_simp) ?_
      try simp only [Act.put]
      refine Held.take (i := 3) (.pointer (some ⟨b, off + k * 3, none⟩)) rfl hS (by kernel_rfl) (by kernel_rfl) (by kernel_rfl) (by kernel_rfl) (fun _ _ _ h => h) rfl (fun y hy => by obtain ⟨x1, x2⟩ := hy; go_simp) ?_
      try simp only [Act.put]
      refine Held.take (i := 4) (.pointer (some ⟨b, off + k * 3 + 1, none⟩)) rfl hS (by kernel_rfl) (by kernel_rfl) (by kernel_rfl) (by kernel_rfl) (fun _ _ _ h => h) rfl (fun y hy => by obtain ⟨x1, x2⟩ := hy; go_simp) ?_
      try simp only [Act.put]
      refine Held.take (i := 5) (.slice y0.A y0.n y0.c) rfl hS (by kernel_rfl) (by kernel_rfl) (by kernel_rfl) (by kernel_rfl) (fun _ _ _ h => h) rfl (fun y hy => by obtain ⟨x1, x2⟩ := hy; go_simp) ?_
      try simp only [Act.put]
      refine Held.take (i := 6) (.slice (some ⟨b, off, none⟩) n2 c2) rfl hS (by kernel_rfl) (by kernel_rfl) (by kernel_rfl) (by kernel_rfl) (fun _ _ _ h => h) rfl (fun y hy => by obtain ⟨x1, x2⟩ := hy; go_simp) ?_
      try simp only [Act.put]
      refine Held.take (i := 7) (.int .i64 (k : Int)) rfl hS (by kernel_rfl) (by kernel_rfl) (by kernel_rfl) (by kernel_rfl) (fun _ _ _ h => h) rfl (fun y hy => by obtain ⟨x1, x2⟩ := hy; go_simp) ?_
      try simp only [Act.put]
      refine Held.take (i := 8) (.pointer (some ⟨b, off + k * 3, none⟩)) rfl hS (by kernel_rfl) (by kernel_rfl) (by kernel_rfl) (by kernel_rfl) (fun _ _ _ h => h) rfl (fun y hy => by obtain ⟨x1, x2⟩ := hy; go_simp) ?_
      try simp only [Act.put]
      refine Held.take (i := 9) (.pointer (some ⟨b, off + k * 3 + 2, none⟩)) rfl hS (by kernel_rfl) (by kernel_rfl) (by kernel_rfl) (by kernel_rfl) (fun _ _ _ h => h) rfl (fun y hy => by obtain ⟨x1, x2⟩ := hy; go_simp) ?_
      try simp only [Act.put]
      refine Held.take (i := 10) (.int .i64 y0.m) rfl hS (by kernel_rfl) (by kernel_rfl) (by kernel_rfl) (by kernel_rfl) (fun _ _ _ h => h) rfl (fun y hy => by obtain ⟨x1, x2⟩ := hy; go_simp) ?_
      try simp only [Act.put]
      refine Held.one (i := 11) rfl (by kernel_rfl) rfl (fun K hK => ?_)
      unfold Oper.wp
      go_simp
      refine (RPut_any A n c l y0.A y0.n y0.c y0.r y0.m X1 ((hbg.below hD).mono hD.size) hnl ((hy.below hD).mono (Nat.le_trans hBw.size hD.size)) hy8 HR.out HM.out (by omega)).mono ?_
      rintro e X2 ⟨A2', n2', c2', l2', rfl, hd2, hb2, hc2, hB2⟩
      have hS2 : X2.cell? ⟨b, off + k * 3 + 1, none⟩ = some (.slice y0.A y0.n y0.c) ∧ X2.cell? ⟨b, off + k * 3 + 2, none⟩ = some (.int .i64 y0.m) := ⟨(hB2.cell (World.block_lt_of_cell? _ _ hS.1)).trans hS.1, (hB2.cell (World.block_lt_of_cell? _ _ hS.2)).trans hS.2⟩
      refine hK _ _ (fun _ => hS2) ?_
      try simp only [Act.put]
      have hBf := bstep (bstep hBw hD) hB2
      clear hK K hS hB2 hD hBw hbg
      refine Held.one (i := 12) rfl (by kernel_rfl) rfl (fun K hK => ?_)
      unfold Oper.wp
      go_simp
      refine hK _ _ (fun _ => hS2) ?_
      try simp only [Act.put]
      clear hK K hS2
      refine Held.done (by kernel_rfl) ?_
      go_wp2
      go_roundw
      case rel => exact ⟨k + 1, _, _, _, l2', by omega, by go_num, rfl, hb2, hc2, by rw [HN.out]; exact hd2, hBf⟩
      case measure => simp [intOf]; omega
    · obtain rfl : k = n2 := by omega
      have HX := hide (show dat l = aftB (dat la) (chD lc) from by rw [hdl, take_all (by rw [chD_len, hb.len])])
      clear hdl
      go_wp2
      go_ret
      exact ⟨A, n, c, l, rfl, HX.out, hbg, hcp, hBw⟩
end

section
open Go.RowKit

theorem ascI_of : ∀ {l : Bg} {p : Rw}, Asc l → (∀ x ∈ l, numB x.2 = true) → (∀ x ∈ l, cmpR p x.1 < 0) → ascI (some p) l = true
  | [], _, _, _, _ => rfl
  | x :: l, p, h, hn, hp => by
    rw [ascI, hn x (by simp), h.ok x (by simp)]
    have h1 := hp x (by simp)
    have h2 := ascI_of (l := l) (p := x.1) h.tail (fun y hy => hn y (List.mem_cons_of_mem _ hy)) (fun y hy => h.head y hy)
    simp [h1, h2]
theorem okBag_of {l : Bg} (h : Asc l) (hn : ∀ x ∈ l, numB x.2 = true) (hl : l.length ≤ 400) : okBag l = true := by
  unfold okBag
  rw [Bool.and_eq_true, decide_eq_true_eq]
  refine ⟨?_, hl⟩
  cases l with
  | nil => rfl
  | cons x l =>
    rw [ascI, hn x (by simp), h.ok x (by simp)]
    have h2 := ascI_of (l := l) (p := x.1) h.tail (fun y hy => hn y (List.mem_cons_of_mem _ hy)) (fun y hy => h.head y hy)
    simp [h2]
theorem okBag_bad {l : Bg} {x : Rw × Int} (hx : x ∈ l) (hn : numB x.2 = false) : okBag l = false := by
  cases h : okBag l
  · rfl
  · rw [(okBag_asc h).2.1 x hx] at hn
    cases hn
theorem okBag_long {l : Bg} (h : 400 < l.length) : okBag l = false := by
  unfold okBag
  rw [Bool.and_eq_false_iff]
  right
  simp
  omega
theorem diff_asc {a b : Bg} (ha : okBag a = true) (hb : okBag b = true) : Asc (both (fun m k => k - m) (prs a b)) := (both_prs (f := fun m k => k - m) (by simp) (okBag_asc ha).1 (okBag_asc hb).1).1
theorem diff_eq {a b : Bg} (ha : okBag a = true) (hb : okBag b = true) : both (fun m k => k - m) (prs a b) = plusB b a (-1) := by
  obtain ⟨i1, i2, i3⟩ := both_prs (f := fun m k => k - m) (by simp) (okBag_asc ha).1 (okBag_asc hb).1
  obtain ⟨j1, j2, j3⟩ := plus_ok (n := -1) (okBag_asc hb).1 (fun x hx => (numB_ne ((okBag_asc hb).2.1 x hx)).1) (okBag_asc ha).1
  refine Asc.ext i1 j1 i2 j2 fun r => ?_
  rw [i3, j3]
  omega
/-- What Changes tells. -/
def diffB (a b : Bg) (T : Int) : Bg × Int := if okBag a && okBag b then (if btw T (-1000000000000) 1000000000000 then toldB (both (fun m k => k - m) (prs a b)) else ([], 7)) else ([], 1)
end

section
open Go.RowKit

/-- The greatest time at which a row with this text changes. -/
def lstS (t : List UInt8) (o : Option Int) (i : Ch) : Option Int := if rowT i.r = t then (match o with
  | none => some i.t
  | some s => if s < i.t then some i.t else some s) else o
def lst (l : List Ch) (t : List UInt8) : Option Int := l.foldl (lstS t) none
/-- The time that Netted tells of a row. -/
def tim (l : List Ch) (r : Rw) : Int := (lst l (rowT r)).getD 0
/-- What Netted tells. -/
def netB (l : List Ch) : List (Rw × Int × Int) × Int := if okChs l then (if okBag (aftB [] (chD l)) then ((aftB [] (chD l)).map fun x => (x.1, tim l x.1, x.2), 0) else ([], 4)) else ([], 1)
theorem sumG_perm {a b : Bg} (h : a.Perm b) (r : Rw) : sumG a r = sumG b r := by
  induction h with
  | nil => rfl
  | cons x _ ih => simp only [sumG, ih]
  | swap x y l => simp only [sumG]; omega
  | trans _ _ h1 h2 => exact h1.trans h2
end

end Go.Proofs.YtoapjidpfghnlaaGreatDoor
