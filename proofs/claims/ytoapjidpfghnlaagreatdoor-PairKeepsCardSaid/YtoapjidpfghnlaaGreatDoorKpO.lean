/-
  What PairKeeps asks, in plain Lean: two bags that are told one change after the other, and their join. No program in sight; no condition.
  The walk of bag.Apply, told with the room that each row of the answer has. (Printed by gen_kpA.) No condition.
  'Turn X w w'': w' is w but for new blocks and for slices that were written in blocks of the list X, where no item and no change lies. What reads as rows, bags, changes or numbers reads so behind it. No condition.
  Keepers in memory: the program's and the reference's; bags that are held by the way, with room. No condition.
-/
import Derived.Test.YtoapjidpfghnlaaGreatDoorOkG
import Derived.Test.YtoapjidpfghnlaaGreatDoorOuH
import Derived.Test.YtoapjidpfghnlaaGreatDoorNetM
import Derived.Test.YtoapjidpfghnlaaGreatDoorApl
import Derived.Test.YtoapjidpfghnlaaGreatDoorGat
import Derived.Test.YtoapjidpfghnlaaGreatDoorGb
import Derived.Test.YtoapjidpfghnlaaGreatDoorBgP1
import Derived.Test.YtoapjidpfghnlaaGreatDoorBgL
import Derived.Test.YtoapjidpfghnlaaGreatDoorBgS1
namespace Go.Proofs.YtoapjidpfghnlaaGreatDoor

section
open Go.RowKit
set_option linter.unusedVariables false

theorem okCh_inK {t : Int} {r : Rw} {m : Int} (h : okCh t r m = true) : btw t (-1000000000000) 1000000000000 = true ∧ okR r = true ∧ numB m = true := by
  unfold okCh at h
  rw [Bool.and_eq_true, Bool.and_eq_true] at h
  exact ⟨h.1.1, h.1.2, h.2⟩
/-- What a keeper is made of. -/
structure Kst where
  kind : Int
  on : List Int
  others : List Int
  a : Nat
  b : Nat
/-- The joined bag. -/
def kpJ (k : Kst) (l r : Bg) : Bg := kndB k.on k.others k.a k.b l r (decide (k.kind % 2 = 1)) (decide (2 ≤ k.kind))
def own2 (left : Bool) (l r : Bg) : Bg := if left then l else r
def lft2 (left : Bool) (l d : Bg) : Bg := if left then d else l
def rgt2 (left : Bool) (r d : Bg) : Bg := if left then r else d
/-- The error of a change that is told. -/
def kpE (k : Kst) (left : Bool) (l r : Bg) (t : Int) (x : Rw) (m : Int) : Int :=
  if okCh t x m then (if x.length = (if left then k.a else k.b) then (if look (own2 left l r) x + m < 0 then 10 else
    (if okBag (putB (own2 left l r) x m) then (if okBag (kpJ k (lft2 left l (putB (own2 left l r) x m)) (rgt2 left r (putB (own2 left l r) x m))) then
      (if okBag (plusB (kpJ k (lft2 left l (putB (own2 left l r) x m)) (rgt2 left r (putB (own2 left l r) x m))) (kpJ k l r) (-1)) then 0 else 4) else 4) else 4)) else 9) else 1
/-- Both sides behind it. -/
def kpL (k : Kst) (left : Bool) (l r : Bg) (t : Int) (x : Rw) (m : Int) : Bg := if kpE k left l r t x m = 0 then lft2 left l (putB (own2 left l r) x m) else l
def kpR (k : Kst) (left : Bool) (l r : Bg) (t : Int) (x : Rw) (m : Int) : Bg := if kpE k left l r t x m = 0 then rgt2 left r (putB (own2 left l r) x m) else r
/-- What it makes of the join. -/
def kpC (k : Kst) (left : Bool) (l r : Bg) (t : Int) (x : Rw) (m : Int) : Bg := if kpE k left l r t x m = 0 then plusB (kpJ k (lft2 left l (putB (own2 left l r) x m)) (rgt2 left r (putB (own2 left l r) x m))) (kpJ k l r) (-1) else []
/-- A setup that is not refused. -/
structure KstOk (k : Kst) : Prop where
  kind : 0 ≤ k.kind ∧ k.kind ≤ 3
  fit : fitK k.on k.others = true
  wide : k.a + k.b ≤ 8
  ion : insK k.on (k.a : Int) = true
  iot : insK k.others (k.b : Int) = true
/-- A side behind some changes. -/
structure Sd (d : Bg) (n q : Nat) : Prop where
  bag : okBag d = true
  len : ∀ x ∈ d, x.1.length = n
  pos : ∀ x ∈ d, 1 ≤ x.2
  cnt : d.length ≤ q
theorem Sd.nil (n : Nat) : Sd [] n 0 := ⟨rfl, nofun, nofun, Nat.le_refl _⟩
theorem Sd.mono {d : Bg} {n q q' : Nat} (h : Sd d n q) (hq : q ≤ q') : Sd d n q' := ⟨h.bag, h.len, h.pos, Nat.le_trans h.cnt hq⟩
theorem Sd.side {d : Bg} {n q : Nat} {cols : List Int} (h : Sd d n q) (hi : insK cols (n : Int) = true) : SideOk d cols n :=
  ⟨fun x hx => ⟨(okBag_asc h.bag).1.ok x hx, h.len x hx, hasC_wide (by rw [h.len x hx]) hi⟩, fun x hx => by have h1 := h.pos x hx; have h2 := numB_ne ((okBag_asc h.bag).2.1 x hx); omega, (okBag_asc h.bag).2.2⟩
theorem Sd.whole {d : Bg} {n q : Nat} (h : Sd d n q) : wholeB d = true := by
  unfold wholeB posB
  rw [h.bag, Bool.true_and, List.all_eq_true]
  intro x hx
  have := h.pos x hx
  simp
  omega
theorem Sd.wide {d : Bg} {n q : Nat} (h : Sd d n q) : wideG d (n : Int) = true := by
  unfold wideG
  rw [List.all_eq_true]
  intro x hx
  have := h.len x hx
  simp
  omega
/-- What is known of a side with one change more, valid or not. -/
theorem sd_put {d : Bg} {n q : Nat} (h : Sd d n q) {x : Rw} {m : Int} (hx : okR x = true) (hm : numB m = true) (hn : x.length = n) (h3 : 0 ≤ look d x + m) :
    Asc (putB d x m) ∧ (∀ y ∈ putB d x m, y.1.length = n ∧ 1 ≤ y.2 ∧ y.2 ≤ 2000000) ∧ (putB d x m).length ≤ q + 1 ∧ look (putB d x m) x = look d x + m := by
  obtain ⟨d1, d2, d3⟩ := okBag_asc h.bag
  have hz : ∀ y ∈ d, y.2 ≠ 0 := fun y hy => (numB_ne (d2 y hy)).1
  obtain ⟨i1, i2, i3⟩ := ins_ok hx m d1 hz
  have he : putB d x m = insB x m d := putB_ins d1.up
  rw [he]
  have hval : ∀ y ∈ insB x m d, y.2 = if x = y.1 then look d x + m else look d y.1 := fun y hy => by
    rw [← i3, look_in (asc_apart i1) hy]
  have hmm := numB_ne hm
  refine ⟨i1, fun y hy => ?_, ?_, by rw [i3, if_pos rfl]⟩
  · have h5 := hval y hy
    have h6 := i2 y hy
    by_cases e : x = y.1
    · rw [if_pos e] at h5
      refine ⟨by rw [← e]; exact hn, by omega, ?_⟩
      have hb : look d x ≤ 1000000 := by
        by_cases hc : ∃ z ∈ d, z.1 = x
        · obtain ⟨z, hz1, hz2⟩ := hc
          rw [← hz2, look_in (asc_apart d1) hz1]
          have := numB_ne (d2 z hz1)
          omega
        · rw [look_far fun z hz1 ez => hc ⟨z, hz1, ez⟩]; omega
      omega
    · rw [if_neg e] at h5
      by_cases hc : ∃ z ∈ d, z.1 = y.1
      · obtain ⟨z, hz1, hz2⟩ := hc
        rw [← hz2, look_in (asc_apart d1) hz1] at h5
        have h7 := h.pos z hz1
        have h8 := numB_ne (d2 z hz1)
        exact ⟨by rw [← hz2]; exact h.len z hz1, by omega, by omega⟩
      · rw [look_far fun z hz1 ez => hc ⟨z, hz1, ez⟩] at h5
        exact absurd h5 h6
  · have := put_len d1 x m
    rw [he] at this
    have := h.cnt
    omega
theorem Sd.put {d : Bg} {n q : Nat} (h : Sd d n q) {x : Rw} {m : Int} (hx : okR x = true) (hm : numB m = true) (hn : x.length = n) (h3 : 0 ≤ look d x + m) (h4 : okBag (putB d x m) = true) : Sd (putB d x m) n (q + 1) := by
  obtain ⟨_, h5, h6, _⟩ := sd_put h hx hm hn h3
  exact ⟨h4, fun y hy => (h5 y hy).1, fun y hy => (h5 y hy).2.1, h6⟩
/-- Both sides, and their join. -/
structure Kp2 (k : Kst) (l r : Bg) (q : Nat) : Prop where
  ok : KstOk k
  sl : Sd l k.a q
  sr : Sd r k.b q
  j : okBag (kpJ k l r) = true
theorem Kp2.nil {k : Kst} (h : KstOk k) : Kp2 k [] [] 0 := ⟨h, Sd.nil _, Sd.nil _, rfl⟩
theorem kp_in {k : Kst} {left : Bool} {l r : Bg} {t : Int} {x : Rw} {m : Int} (h : kpE k left l r t x m = 0) :
    okCh t x m = true ∧ x.length = (if left then k.a else k.b) ∧ 0 ≤ look (own2 left l r) x + m ∧ okBag (putB (own2 left l r) x m) = true ∧ okBag (kpJ k (lft2 left l (putB (own2 left l r) x m)) (rgt2 left r (putB (own2 left l r) x m))) = true ∧
      okBag (plusB (kpJ k (lft2 left l (putB (own2 left l r) x m)) (rgt2 left r (putB (own2 left l r) x m))) (kpJ k l r) (-1)) = true := by
  unfold kpE at h
  by_cases h1 : okCh t x m = true
  case neg => rw [if_neg h1] at h; cases h
  rw [if_pos h1] at h
  by_cases h2 : x.length = (if left then k.a else k.b)
  case neg => rw [if_neg h2] at h; cases h
  rw [if_pos h2] at h
  by_cases h3 : look (own2 left l r) x + m < 0
  case pos => rw [if_pos h3] at h; cases h
  rw [if_neg h3] at h
  by_cases h4 : okBag (putB (own2 left l r) x m) = true
  case neg => rw [if_neg h4] at h; cases h
  rw [if_pos h4] at h
  by_cases h5 : okBag (kpJ k (lft2 left l (putB (own2 left l r) x m)) (rgt2 left r (putB (own2 left l r) x m))) = true
  case neg => rw [if_neg h5] at h; cases h
  rw [if_pos h5] at h
  by_cases h6 : okBag (plusB (kpJ k (lft2 left l (putB (own2 left l r) x m)) (rgt2 left r (putB (own2 left l r) x m))) (kpJ k l r) (-1)) = true
  case neg => rw [if_neg h6] at h; cases h
  exact ⟨h1, h2, by omega, h4, h5, h6⟩
theorem Kp2.own {k : Kst} {l r : Bg} {q : Nat} (h : Kp2 k l r q) (left : Bool) : Sd (own2 left l r) (if left then k.a else k.b) q := by
  cases left
  · exact h.sr
  · exact h.sl
theorem Kp2.tell {k : Kst} {l r : Bg} {q : Nat} (h : Kp2 k l r q) (left : Bool) (t : Int) (x : Rw) (m : Int) : Kp2 k (kpL k left l r t x m) (kpR k left l r t x m) (q + 1) := by
  by_cases h0 : kpE k left l r t x m = 0
  · obtain ⟨h1, h2, h3, h4, h5, h6⟩ := kp_in h0
    obtain ⟨_, hr, hm⟩ := okCh_inK h1
    have hs := (h.own left).put hr hm h2 h3 h4
    unfold kpL kpR
    rw [if_pos h0, if_pos h0]
    refine ⟨h.ok, ?_, ?_, h5⟩
    · cases left
      · exact h.sl.mono (by omega)
      · exact hs
    · cases left
      · exact hs
      · exact h.sr.mono (by omega)
  · unfold kpL kpR
    rw [if_neg h0, if_neg h0]
    exact ⟨h.ok, h.sl.mono (by omega), h.sr.mono (by omega), h.j⟩
/-- The changes make one join of the other. -/
theorem kp_after {a b : Bg} (ha : okBag a = true) (hb : okBag b = true) : aftB a (plusB b a (-1)) = b := by
  have a1 := okBag_asc ha
  have b1 := okBag_asc hb
  obtain ⟨i1, i2, i3⟩ := plus_ok (n := -1) b1.1 (fun x hx => (numB_ne (b1.2.1 x hx)).1) a1.1
  have k := aft_ok (b := a) (l := plusB b a (-1)) i1.ok a1.1 fun x hx => (numB_ne (a1.2.1 x hx)).1
  refine Asc.ext k.asc b1.1 k.ne (fun x hx => (numB_ne (b1.2.1 x hx)).1) fun r => ?_
  rw [k.sum, sumG_app, sumG_asc a1.1, sumG_asc i1, i3]
  omega
theorem Kp2.after {k : Kst} {l r : Bg} {q : Nat} (h : Kp2 k l r q) (left : Bool) (t : Int) (x : Rw) (m : Int) : aftB (kpJ k l r) (kpC k left l r t x m) = kpJ k (kpL k left l r t x m) (kpR k left l r t x m) := by
  unfold kpC kpL kpR
  by_cases h0 : kpE k left l r t x m = 0
  · rw [if_pos h0, if_pos h0, if_pos h0]
    exact kp_after h.j (kp_in h0).2.2.2.2.1
  · rw [if_neg h0, if_neg h0, if_neg h0]
    rfl
/-- What Outer answers of both sides. -/
theorem Kp2.outer {k : Kst} {l r : Bg} {q : Nat} (h : Kp2 k l r q) : outB k.kind k.on k.others (k.a : Int) (k.b : Int) l r = (kpJ k l r, 0) := by
  have hw := h.ok.wide
  have e : outE k.kind k.on k.others (k.a : Int) (k.b : Int) l r = 0 := by
    have hwd : widerB (k.a : Int) (k.b : Int) = false := by
      unfold widerB
      split
      · simp; omega
      · split
        · rfl
        · rw [IntKind.wrap_i64]; simp; omega
    have hj : okBag (aftB [] (joinL (decide (k.kind % 2 = 1)) (decide (2 ≤ k.kind)) k.on k.others k.a k.b l r)) = true := h.j
    unfold outE
    rw [h.sl.bag, h.sr.bag, h.ok.fit, h.sl.wide, h.sr.wide, hwd, btw_iff.2 (show 0 ≤ (k.a : Int) ∧ (k.a : Int) ≤ 8 by omega), btw_iff.2 (show 0 ≤ (k.b : Int) ∧ (k.b : Int) ≤ 8 by omega), btw_iff.2 h.ok.kind, h.ok.ion, h.ok.iot, h.sl.whole, h.sr.whole]
    simp only [Int.toNat_natCast, hj, Bool.and_self, Bool.not_false, if_true]
  unfold outB
  rw [e]
  simp only [Int.toNat_natCast, if_true]
  rfl
end

section
open Go.RowKit
attribute [local go_sem] Oper.semAt_some
set_option linter.unusedVariables false
set_option linter.unusedSimpArgs false

/-- A bag and an error, handed back; the rows have room. -/
def RetBagK (w : World) (d : Bg) (E : Int) (e : Ending) (w' : World) : Prop :=
  ∃ A n c l, e = .returned (.tuple #[.slice A n c, .int .i64 E]) ∧ dat l = d ∧ BagR w' w'.heap.size A n l ∧ n ≤ c ∧ Caps l ∧ Below w.heap.size w w'
theorem putK_any (A : Option Addr) (n c B : Nat) (l : List It) (w : World) (hb : BagR w B A n l) (hB : B ≤ w.heap.size) (hc : n ≤ c) (hk : Caps l) :
    Calls Tryz.prog 204 #[.slice A n c] w (RetBagK w (if okBag (dat l) then dat l else []) (if okBag (dat l) then 0 else 4)) := by
  cases ho : okBag (dat l)
  · have HO := hide ho
    show Calls _ _ _ _ (RetBagK w [] 4)
    clear ho
    go_enter Tryz.func204, Tryz.ntmps204
    go_wp2_with fail
    refine (BagValid_any A n c B l w hb).mono ?_
    rintro e w' ⟨rfl, hB1⟩
    rw [HO.out]
    go_wp2
    go_ret2
    exact ⟨none, 0, 0, [], rfl, rfl, BagR.nil _ _, Nat.le_refl _, nofun, hB1⟩
  · have HO := hide ho
    show Calls _ _ _ _ (RetBagK w (dat l) 0)
    clear ho
    go_enter Tryz.func204, Tryz.ntmps204
    go_wp2_with fail
    refine (BagValid_any A n c B l w hb).mono ?_
    rintro e w' ⟨rfl, hB1⟩
    rw [HO.out]
    have hb' := (hb.below hB1).mono (Nat.le_trans hB hB1.size)
    go_wp2
    go_ret2
    exact ⟨A, n, c, l, rfl, rfl, hb', hc, hk, hB1⟩
theorem told_retK {w w1 w2 : World} {d : Bg} {e : Ending} (hB : Below w.heap.size w w1) (h : RetBagK w1 (if okBag d then d else []) (if okBag d then 0 else 4) e w2) : RetBagK w (toldB d).1 (toldB d).2 e w2 := by
  have : RetBagK w1 (toldB d).1 (toldB d).2 e w2 := by
    unfold toldB
    cases ho : okBag d <;> rw [ho] at h <;> exact h
  obtain ⟨A, n, c, l, h1, h2, h3, h4, h6, h5⟩ := this
  exact ⟨A, n, c, l, h1, h2, h3, h4, h6, bstep hB h5⟩
set_option maxRecDepth 100000 in
set_option maxHeartbeats 4000000 in
theorem ApplyK_any (A : Option Addr) (n c : Nat) (la : List It) (A' : Option Addr) (n' c' : Nat) (lc : List Ch) (w : World) (ha : BagR w w.heap.size A n la) (hc : ChgR w w.heap.size A' n' lc) (ht : Tab w) :
    Calls Tryz.prog 161 #[.slice A n c, .slice A' n' c'] w (RetBagK w (applyB (dat la) lc).1 (applyB (dat la) lc).2) := by
  obtain ⟨p, hp⟩ : ∃ p, applyB (dat la) lc = p := ⟨_, rfl⟩
  rw [hp]
  have HP := hide hp
  clear hp
  have b1 := (Boxed.new w 40 (.slice A n c)).alloc (.cells #[.slice A' n' c'] 67)
  have b2 := Boxed.new (w.alloc (.cells #[.slice A n c] 40)) 67 (.slice A' n' c')
  simp only [World.size_alloc] at b2
  have hB1 : Below w.heap.size w ((w.alloc (.cells #[.slice A n c] 40)).alloc (.cells #[.slice A' n' c'] 67)) := ((Below.refl _ _).alloc (Nat.le_refl _) _).alloc (by simp) _
  have k1 := b1.cell
  go_enter Tryz.func161, Tryz.ntmps161
  go_wp2_with fail
  obtain ⟨W1, hW1⟩ : ∃ W1, (w.alloc (.cells #[.slice A n c] 40)).alloc (.cells #[.slice A' n' c'] 67) = W1 := ⟨_, rfl⟩
  rw [hW1] at b1 b2 hB1 k1 ⊢
  clear hW1
  refine (BagValid_any A n c _ la W1 (ha.below hB1)).mono ?_
  rintro e W2 ⟨rfl, hB2⟩
  have hB02 := bstep hB1 hB2
  have b1' : Boxed W2 w.heap.size 40 (.slice A n c) := (hB2.block _ b1.lt).trans b1
  have b2' : Boxed W2 (w.heap.size + 1) 67 (.slice A' n' c') := (hB2.block _ b2.lt).trans b2
  have k2 := b2'.cell
  clear hB1 hB2 k1 b1 b2
  cases oa : okBag (dat la)
  · have hq : p = ([], 1) := by rw [← HP.out]; unfold applyB; rw [oa]; rfl
    have HQ := hide hq
    clear oa hq
    go_wp2
    go_ret2
    rw [HQ.out]
    exact ⟨none, 0, 0, [], rfl, rfl, BagR.nil _ _, Nat.le_refl _, nofun, hB02⟩
  · have OA := hide oa
    clear oa
    go_wp2_with fail
    refine (changes_any A' n' c' _ lc W2 (hc.below hB02) hB02.size).mono ?_
    rintro e W3 ⟨rfl, hB3⟩
    have hB03 := bstep hB02 hB3
    have b1 : Boxed W3 w.heap.size 40 (.slice A n c) := (hB3.block _ b1'.lt).trans b1'
    have b2 : Boxed W3 (w.heap.size + 1) 67 (.slice A' n' c') := (hB3.block _ b2'.lt).trans b2'
    clear hB02 hB3 k2 b1' b2'
    cases ob : okChs lc
    · have hq : p = ([], 1) := by rw [← HP.out]; unfold applyB; rw [OA.out, ob]; rfl
      have HQ := hide hq
      clear ob hq
      go_wp2
      go_ret2
      rw [HQ.out]
      exact ⟨none, 0, 0, [], rfl, rfl, BagR.nil _ _, Nat.le_refl _, nofun, hB03⟩
    · have hq : p = toldB (aftB (dat la) (chD lc)) := by rw [← HP.out]; unfold applyB; rw [OA.out, ob]; rfl
      have HQ := hide hq
      have OB := hide ob
      clear ob hq
      have hb3 := (ha.below hB03).mono hB03.size
      have hc3 : ChgR W3 W3.heap.size A' n' lc := ⟨(hc.below hB03).rd, fun i hi => ((hc.below hB03).rows i hi).mono hB03.size, hc.le⟩
      have ht3 := ht.below hB03
      go_wp2_with fail
      refine (callsIn_wide.1 (gathered_in 206 #[.pointer (some ⟨w.heap.size, 0, none⟩), .pointer (some ⟨w.heap.size + 1, 0, none⟩)] (dat la ++ chD lc) W3.heap.size [] W3 (fun W hW => ht3.below (bar_nil hW)) (enters_of Tryz.func206 (by kernel_rfl) rfl)
        (fun W hW hs => apply1_iter 7 (by omega) w.heap.size (w.heap.size + 1) A n c la A' n' c' lc W3 W W3.heap.size W3.heap.size (W3.heap.size + 5) b1 b2 hb3 hc3 (Nat.le_refl _) (by omega) (by omega) (by omega) hW)
        (fun x hx => by
          rcases List.mem_append.1 hx with h | h
          · exact ⟨(okBag_asc OA.out).1.ok x h, (numB_ne ((okBag_asc OA.out).2.1 x h)).2⟩
          · exact ⟨((chs_in OB.out).1 x h).1, (numB_ne ((chs_in OB.out).1 x h).2).2⟩)
        (by rw [List.length_append, chD_len]; have := (okBag_asc OA.out).2.2; have := (chs_in OB.out).2; omega) (Nat.le_refl _) (by simp))).mono ?_
      rintro e W4 ⟨A4, n4, c4, l4, rfl, hnet, hbag, hcap, hlk, hbar⟩
      have hB04 := bstep hB03 (bar_nil hbar)
      have hd4 : dat l4 = aftB (dat la) (chD lc) := hnet.same (aft_net OA.out OB.out) fun _ => rfl
      have hsz := hbar.size
      clear hB03 hbar hnet b1 b2 hb3 hc3 ht3
      go_wp2_with fail
      refine (putK_any A4 n4 c4 W3.heap.size l4 W4 hbag hsz hcap hlk.2).mono ?_
      intro e W5 h
      rw [hd4] at h
      obtain ⟨A5, n5, c5, l5, rfl, r2, r3, r4, r6, r5⟩ := told_retK hB04 h
      have HE := hide r5
      clear r5 h hB04
      go_wp2
      go_ret2
      rw [HQ.out]
      exact ⟨A5, n5, c5, l5, rfl, r2, r3, r4, r6, HE.out⟩
end

section
open Go.RowKit
set_option linter.unusedVariables false
set_option linter.unusedSimpArgs false

theorem bar_mono {N N' : Nat} {X : List Nat} {a w : World} (h : Bar N X a w) (hN : N' ≤ N) : Bar N' X a w := ⟨h.os, h.tape, h.output, h.size, fun k hk hx => h.block k (by omega) hx⟩
theorem bar_more {N : Nat} {X X' : List Nat} {a w : World} (h : Bar N X a w) (hX : ∀ x ∈ X, x ∈ X') : Bar N X' a w := ⟨h.os, h.tape, h.output, h.size, fun k hk hx => h.block k hk fun hm => hx (hX k hm)⟩
def NoSl (u : Value) : Prop := ∀ A n c, u ≠ .slice A n c
structure Turn (X : List Nat) (w w' : World) : Prop where
  bar : Bar w.heap.size X w w'
  keep : ∀ p u, w.cell? p = some u → NoSl u → w'.cell? p = some u
  item : ∀ b o A n c k m, w.cell? ⟨b, o, none⟩ = some (.slice A n c) → w.cell? ⟨b, o + 1, none⟩ = some (.int k m) → w'.cell? ⟨b, o, none⟩ = some (.slice A n c)
  typ : ∀ (b : Nat) (c : Array Value) (t : TypeId) (fz : Nat × Nat), w.heap[b]? = some (.cells c t fz) → ∃ c', w'.heap[b]? = some (.cells c' t fz)
  tab : Tab w → Tab w'
section
variable {X X' : List Nat} {w w' w'' : World}
theorem Turn.of_below (h : Below w.heap.size w w') : Turn X w w' :=
  ⟨Bar.of_below h X, fun p u hu _ => (h.cell (World.block_lt_of_cell? _ _ hu)).trans hu, fun b o A n c k m hs _ => (h.cell (p := ⟨b, o, none⟩) (World.block_lt_of_cell? _ _ hs)).trans hs,
    fun b c t fz hb => ⟨c, (h.block b (Array.getElem?_eq_some_iff.1 hb).1).trans hb⟩, fun ht => ht.below h⟩
theorem Turn.refl (X : List Nat) (w : World) : Turn X w w := Turn.of_below (Below.refl _ _)
theorem Turn.size (h : Turn X w w') : w.heap.size ≤ w'.heap.size := h.bar.size
theorem Turn.trans (h : Turn X w w') (k : Turn X w' w'') : Turn X w w'' :=
  ⟨h.bar.trans (bar_mono k.bar h.size), fun p u hu hn => k.keep p u (h.keep p u hu hn) hn,
    fun b o A n c k' m hs hi => k.item b o A n c k' m (h.item b o A n c k' m hs hi) (h.keep _ _ hi nofun),
    fun b c t fz hb => (h.typ b c t fz hb).elim fun c' h' => k.typ b c' t fz h', fun ht => k.tab (h.tab ht)⟩
theorem Turn.more (h : Turn X w w') (hX : ∀ x ∈ X, x ∈ X') : Turn X' w w' := ⟨bar_more h.bar hX, h.keep, h.item, h.typ, h.tab⟩
theorem Turn.below (h : Turn X w w') (k : Below w'.heap.size w' w'') : Turn X w w'' := h.trans (Turn.of_below k)
/-- A slice is written where neither an item nor a change lies. -/
theorem Turn.spot {b o : Nat} {A0 : Option Addr} {n0 c0 : Nat} (h5 : w.cell? ⟨b, o, none⟩ = some (.slice A0 n0 c0)) (h6 : ∀ k m, w.cell? ⟨b, o + 1, none⟩ ≠ some (.int k m)) (v : Value) : Turn [b] w (w.setCell ⟨b, o, none⟩ v) := by
  have hz : (w.setCell ⟨b, o, none⟩ v).heap.size = w.heap.size := by simp [World.setCell]
  refine ⟨(Bar.refl _ _ w).setCell (.inr (by simp)) v, fun p u hu hn => ?_, fun b' o' A n c k m hs hi => ?_, fun b' c t fz hb => ?_, fun ht => ?_⟩
  · refine (World.cell?_setCell_other w _ _ v (fun e => ?_)).trans hu
    rw [← e, h5] at hu
    injection hu with hu
    exact hn _ _ _ hu.symm
  · refine (World.cell?_setCell_other w _ _ v (fun e => ?_)).trans hs
    injection e with e1 e2
    subst e1 e2
    exact h6 k m hi
  · by_cases e : b = b'
    · subst e
      exact ⟨_, by simp [World.setCell, Array.getElem?_modify, hb]; rfl⟩
    · exact ⟨c, (Below.heap_setCell w ⟨b, o, none⟩ v b' (fun h => e h.symm)).trans hb⟩
  · unfold Tab Lib.TabIs World.var? at *
    cases hg : Tryz.prog.globalNamed "internal/strconv.uint64pow10" with
    | none => simp [hg] at ht
    | some g =>
      simp only [hg, Option.bind_some] at ht ⊢
      have hne : g ≠ b := by
        rintro rfl
        cases hh : w.heap[g]? with
        | none => rw [hh] at ht; cases ht
        | some ob =>
          rw [hh] at ht
          cases ob with
          | cells cs t fz =>
            injection ht with ht
            have hc : w.cell? ⟨g, o, none⟩ = cs[o]? := cell_of_row w g o cs t fz hh
            rw [hc, ht] at h5
            simp at h5
          | _ => cases ht
      rw [Below.heap_setCell w ⟨b, o, none⟩ v g hne]
      exact ht
theorem Reads.turn {size n : Nat} {A : Option Addr} {xs : List Value} (h : Reads w w.heap.size size A n xs) (hx : ∀ u ∈ xs, NoSl u) (ht : Turn X w w') : Reads w' w'.heap.size size A n xs :=
  ⟨h.1, fun hn => by
    obtain ⟨b, off, e, hb, hc⟩ := h.2 hn
    exact ⟨b, off, e, Nat.lt_of_lt_of_le hb ht.size, fun j u hj => ht.keep _ _ (hc j u hj) (hx u (List.mem_of_getElem? hj))⟩⟩
theorem RowK.turn {A : Option Addr} {n : Nat} {r : Rw} (h : RowK w w.heap.size A n r) (ht : Turn X w w') : RowK w' w'.heap.size A n r :=
  ⟨h.rd.turn (fun u hu => by
    obtain ⟨y, _, hy⟩ := List.mem_flatMap.1 hu
    unfold encV at hy
    simp only [List.mem_cons, List.not_mem_nil, or_false] at hy
    rcases hy with rfl | rfl | rfl <;> exact nofun) ht, fun h0 b off m e => by
      rcases h.at_ h0 b off m e with h1 | ⟨c, fz, h1⟩
      · exact .inl (Nat.lt_of_lt_of_le h1 ht.size)
      · obtain ⟨c', h2⟩ := ht.typ _ _ _ _ h1
        exact .inr ⟨c', fz, h2⟩, h.le⟩
theorem nextIt {l : List It} : ∀ {j : Nat} {A : Option Addr} {n c : Nat}, (l.flatMap encIt)[j]? = some (.slice A n c) → ∃ k m, (l.flatMap encIt)[j + 1]? = some (.int k m) := by
  induction l with
  | nil => intro j A n c h; cases h
  | cons x l ih =>
    intro j A n c h
    rw [List.flatMap_cons] at h ⊢
    match j with
    | 0 => exact ⟨.i64, x.m, rfl⟩
    | 1 =>
      have : some (Value.int .i64 x.m) = some (.slice A n c) := h
      cases this
    | j + 2 =>
      have h' : (l.flatMap encIt)[j]? = some (.slice A n c) := h
      exact ih h'
theorem nextCh {l : List Ch} : ∀ {j : Nat} {A : Option Addr} {n c : Nat}, (l.flatMap encCh)[j]? = some (.slice A n c) → ∃ k m, (l.flatMap encCh)[j + 1]? = some (.int k m) := by
  induction l with
  | nil => intro j A n c h; cases h
  | cons x l ih =>
    intro j A n c h
    rw [List.flatMap_cons] at h ⊢
    match j with
    | 0 =>
      have : some (Value.int .i64 x.t) = some (.slice A n c) := h
      cases this
    | 1 => exact ⟨.i64, x.m, rfl⟩
    | 2 =>
      have : some (Value.int .i64 x.m) = some (.slice A n c) := h
      cases this
    | j + 3 =>
      have h' : (l.flatMap encCh)[j]? = some (.slice A n c) := h
      exact ih h'
/-- A list in which each slice has a number behind it. -/
theorem Reads.turnI {size n : Nat} {A : Option Addr} {xs : List Value} (h : Reads w w.heap.size size A n xs) (hx : ∀ j A n c, xs[j]? = some (.slice A n c) → ∃ k m, xs[j + 1]? = some (.int k m)) (ht : Turn X w w') : Reads w' w'.heap.size size A n xs :=
  ⟨h.1, fun hn => by
    obtain ⟨b, off, e, hb, hc⟩ := h.2 hn
    refine ⟨b, off, e, Nat.lt_of_lt_of_le hb ht.size, fun j u hj => ?_⟩
    by_cases hu : NoSl u
    · exact ht.keep _ _ (hc j u hj) hu
    · have : ∃ A n c, u = .slice A n c := by
        cases u with
        | slice A n c => exact ⟨A, n, c, rfl⟩
        | _ => exact absurd (fun _ _ _ h => by cases h) hu
      obtain ⟨A', n', c', rfl⟩ := this
      obtain ⟨k, m, hk⟩ := hx j A' n' c' hj
      exact ht.item _ _ _ _ _ k m (hc j _ hj) (by have := hc (j + 1) _ hk; rwa [← Nat.add_assoc] at this)⟩
theorem BagR.turn {A : Option Addr} {n : Nat} {l : List It} (h : BagR w w.heap.size A n l) (ht : Turn X w w') : BagR w' w'.heap.size A n l :=
  ⟨h.rd.turnI (fun j A n c hj => nextIt hj) ht, fun i hi => (h.rows i hi).turn ht, h.le⟩
theorem ChgR.turn {A : Option Addr} {n : Nat} {l : List Ch} (h : ChgR w w.heap.size A n l) (ht : Turn X w w') : ChgR w' w'.heap.size A n l :=
  ⟨h.rd.turnI (fun j A n c hj => nextCh hj) ht, fun i hi => (h.rows i hi).turn ht, h.le⟩
theorem Blk.turn {g : Nat} {t : TypeId} {cs : Array Value} (h : Blk w g t cs) (ht : Turn X w w') (hg : g ∉ X) : Blk w' g t cs := (ht.bar.block g h.lt hg).trans h
end
end

section
open Go.RowKit
set_option linter.unusedVariables false
set_option linter.unusedSimpArgs false

/-- A bag held in a variable; its rows have room. -/
def BgV (W : World) (v : Value) (d : Bg) : Prop := ∃ A n c l, v = .slice A n c ∧ dat l = d ∧ BagR W W.heap.size A n l ∧ n ≤ c ∧ Caps l
theorem BgV.nil (W : World) : BgV W (.slice none 0 0) [] := ⟨none, 0, 0, [], rfl, rfl, BagR.nil _ _, Nat.le_refl _, nofun⟩
theorem BgV.turn {X : List Nat} {W W' : World} {v : Value} {d : Bg} (h : BgV W v d) (ht : Turn X W W') : BgV W' v d := by
  obtain ⟨A, n, c, l, h1, h2, h3, h4, h5⟩ := h
  exact ⟨A, n, c, l, h1, h2, h3.turn ht, h4, h5⟩
/-- A bag whose rows' room is not known. -/
def BgW (W : World) (v : Value) (d : Bg) : Prop := ∃ A n c l, v = .slice A n c ∧ dat l = d ∧ BagR W W.heap.size A n l ∧ n ≤ c
theorem BgV.w {W : World} {v : Value} {d : Bg} (h : BgV W v d) : BgW W v d := by
  obtain ⟨A, n, c, l, h1, h2, h3, h4, h5⟩ := h
  exact ⟨A, n, c, l, h1, h2, h3, h4⟩
theorem BgW.turn {X : List Nat} {W W' : World} {v : Value} {d : Bg} (h : BgW W v d) (ht : Turn X W W') : BgW W' v d := by
  obtain ⟨A, n, c, l, h1, h2, h3, h4⟩ := h
  exact ⟨A, n, c, l, h1, h2, h3.turn ht, h4⟩
theorem BgW.slice {W : World} {v : Value} {d : Bg} (h : BgW W v d) : ∃ A n c, v = .slice A n c := by
  obtain ⟨A, n, c, l, h1, _⟩ := h
  exact ⟨A, n, c, h1⟩
theorem BgV.slice {W : World} {v : Value} {d : Bg} (h : BgV W v d) : ∃ A n c, v = .slice A n c := h.w.slice
/-- The slices of a keeper's columns. -/
structure KS where
  A : Option Addr
  n : Nat
  c : Nat
  A' : Option Addr
  n' : Nat
  c' : Nat
structure KSr (W : World) (s : KS) (k : Kst) : Prop where
  on : Reads W W.heap.size 1 s.A s.n (k.on.map (Value.int .i64))
  ot : Reads W W.heap.size 1 s.A' s.n' (k.others.map (Value.int .i64))
  n1 : s.n ≤ 1000
  n2 : s.n' ≤ 1000
theorem KSr.turn {X : List Nat} {W W' : World} {s : KS} {k : Kst} (h : KSr W s k) (ht : Turn X W W') : KSr W' s k :=
  ⟨h.on.turn (fun u hu => by obtain ⟨y, _, rfl⟩ := List.mem_map.1 hu; exact nofun) ht, h.ot.turn (fun u hu => by obtain ⟨y, _, rfl⟩ := List.mem_map.1 hu; exact nofun) ht, h.n1, h.n2⟩
theorem KSr.below {W W' : World} {s : KS} {k : Kst} (h : KSr W s k) (hb : Below W.heap.size W W') : KSr W' s k := h.turn (X := []) (Turn.of_below hb)
theorem KSr.same {W : World} {s : KS} {k : Kst} (h : KSr W s k) (ok : KstOk k) : s.n = s.n' := by
  have h1 := ok.fit
  unfold fitK at h1
  rw [Bool.and_eq_true, decide_eq_true_eq] at h1
  rw [← h.on.len1, ← h.ot.len1]
  exact h1.1
/-- The program's keeper. -/
structure KpO (W : World) (b : Nat) (s : KS) (k : Kst) (vL vR vN : Value) (l r j : Bg) : Prop where
  blk : Blk W b 153 #[.slice s.A s.n s.c, .slice s.A' s.n' s.c', .int .i64 k.kind, .int .i64 (k.a : Int), .int .i64 (k.b : Int), vL, vR, vN]
  st : KSr W s k
  l : BgV W vL l
  r : BgV W vR r
  j : BgW W vN j
section
variable {X : List Nat} {W W' : World} {b : Nat} {s : KS} {k : Kst} {vL vR vN : Value} {l r j : Bg}
theorem KpO.turn (h : KpO W b s k vL vR vN l r j) (ht : Turn X W W') (hb : b ∉ X) : KpO W' b s k vL vR vN l r j := ⟨h.blk.turn ht hb, h.st.turn ht, h.l.turn ht, h.r.turn ht, h.j.turn ht⟩
theorem KpO.below (h : KpO W b s k vL vR vN l r j) (hb : Below W.heap.size W W') : KpO W' b s k vL vR vN l r j := h.turn (X := []) (Turn.of_below hb) nofun
theorem KpO.lt (h : KpO W b s k vL vR vN l r j) : b < W.heap.size := h.blk.lt
/-- Where a side lies. -/
def sideAt (left : Bool) : Nat := if left then 5 else 6
theorem KpO.at_ (h : KpO W b s k vL vR vN l r j) (left : Bool) : W.cell? ⟨b, sideAt left, none⟩ = some (if left then vL else vR) := by
  cases left
  · exact h.blk.cell 6
  · exact h.blk.cell 5
theorem KpO.spot (h : KpO W b s k vL vR vN l r j) (left : Bool) (v : Value) : Turn [b] W (W.setCell ⟨b, sideAt left, none⟩ v) := by
  have hs : ∃ A n c, (if left then vL else vR) = .slice A n c := by
    cases left
    · exact h.r.slice
    · exact h.l.slice
  obtain ⟨A, n, c, e⟩ := hs
  have h5 := h.at_ left
  rw [e] at h5
  refine Turn.spot h5 (fun kk m e6 => ?_) v
  have h6 : W.cell? ⟨b, sideAt left + 1, none⟩ = some (if left then vR else vN) := by
    cases left
    · exact h.blk.cell 7
    · exact h.blk.cell 6
  have hs2 : ∃ A n c, (if left then vR else vN) = .slice A n c := by
    cases left
    · exact h.j.slice
    · exact h.r.slice
  obtain ⟨A2, n2, c2, e2⟩ := hs2
  rw [h6, e2] at e6
  cases e6
/-- A side is written. -/
theorem KpO.side (h : KpO W b s k vL vR vN l r j) (left : Bool) {v : Value} {d : Bg} (hv : BgV W v d) : KpO (W.setCell ⟨b, sideAt left, none⟩ v) b s k (if left then v else vL) (if left then vR else v) vN (lft2 left l d) (rgt2 left r d) j := by
  have ht := h.spot left v
  refine ⟨?_, h.st.turn ht, ?_, ?_, h.j.turn ht⟩
  · cases left
    · exact h.blk.set_ 6 v
    · exact h.blk.set_ 5 v
  · cases left
    · exact h.l.turn ht
    · exact hv.turn ht
  · cases left
    · exact hv.turn ht
    · exact h.r.turn ht
/-- The joined bag is written. -/
theorem KpO.spotN (h : KpO W b s k vL vR vN l r j) (v : Value) : Turn [b] W (W.setCell ⟨b, 7, none⟩ v) := by
  obtain ⟨A, n, c, e⟩ := h.j.slice
  have h7 : W.cell? ⟨b, 7, none⟩ = some vN := h.blk.cell 7
  rw [e] at h7
  refine Turn.spot h7 (fun kk m e8 => ?_) v
  have h8 : W.cell? ⟨b, 7 + 1, none⟩ = none := h.blk.cell 8
  rw [h8] at e8
  cases e8
theorem KpO.now (h : KpO W b s k vL vR vN l r j) {v : Value} {d : Bg} (hv : BgW W v d) : KpO (W.setCell ⟨b, 7, none⟩ v) b s k vL vR v l r d := by
  have ht := h.spotN v
  exact ⟨h.blk.set_ 7 v, h.st.turn ht, h.l.turn ht, h.r.turn ht, hv.turn ht⟩
end
/-- The reference's keeper. -/
structure KrO (W : World) (b : Nat) (s : KS) (k : Kst) (vL vR : Value) (l r : Bg) : Prop where
  blk : Blk W b 155 #[.int .i64 k.kind, .int .i64 (k.a : Int), .int .i64 (k.b : Int), .slice s.A s.n s.c, .slice s.A' s.n' s.c', vL, vR]
  st : KSr W s k
  l : BgW W vL l
  r : BgW W vR r
section
variable {X : List Nat} {W W' : World} {b : Nat} {s : KS} {k : Kst} {vL vR : Value} {l r : Bg}
theorem KrO.turn (h : KrO W b s k vL vR l r) (ht : Turn X W W') (hb : b ∉ X) : KrO W' b s k vL vR l r := ⟨h.blk.turn ht hb, h.st.turn ht, h.l.turn ht, h.r.turn ht⟩
theorem KrO.below (h : KrO W b s k vL vR l r) (hb : Below W.heap.size W W') : KrO W' b s k vL vR l r := h.turn (X := []) (Turn.of_below hb) nofun
theorem KrO.lt (h : KrO W b s k vL vR l r) : b < W.heap.size := h.blk.lt
/-- Both sides are written. -/
theorem KrO.set (h : KrO W b s k vL vR l r) {v u : Value} {d e : Bg} (hv : BgW W v d) (hu : BgW W u e) : Turn [b] W ((W.setCell ⟨b, 5, none⟩ v).setCell ⟨b, 6, none⟩ u) ∧ KrO ((W.setCell ⟨b, 5, none⟩ v).setCell ⟨b, 6, none⟩ u) b s k v u d e := by
  obtain ⟨A, n, c, e1⟩ := h.l.slice
  obtain ⟨A2, n2, c2, e2⟩ := h.r.slice
  have h5 : W.cell? ⟨b, 5, none⟩ = some vL := h.blk.cell 5
  have h6 : W.cell? ⟨b, 6, none⟩ = some vR := h.blk.cell 6
  rw [e1] at h5
  rw [e2] at h6
  have t1 : Turn [b] W (W.setCell ⟨b, 5, none⟩ v) := Turn.spot h5 (fun kk m e6 => by
    have : W.cell? ⟨b, 5 + 1, none⟩ = some (.slice A2 n2 c2) := h6
    rw [this] at e6; cases e6) v
  have b1 := h.blk.set_ 5 v
  have h6' : (W.setCell ⟨b, 5, none⟩ v).cell? ⟨b, 6, none⟩ = some (.slice A2 n2 c2) := by rw [← e2]; exact b1.cell 6
  have t2 : Turn [b] (W.setCell ⟨b, 5, none⟩ v) ((W.setCell ⟨b, 5, none⟩ v).setCell ⟨b, 6, none⟩ u) := Turn.spot h6' (fun kk m e7 => by
    have : (W.setCell ⟨b, 5, none⟩ v).cell? ⟨b, 6 + 1, none⟩ = none := b1.cell 7
    rw [this] at e7; cases e7) u
  have ht := t1.trans t2
  exact ⟨ht, b1.set_ 6 u, h.st.turn ht, hv.turn ht, hu.turn ht⟩
end
end

end Go.Proofs.YtoapjidpfghnlaaGreatDoor
