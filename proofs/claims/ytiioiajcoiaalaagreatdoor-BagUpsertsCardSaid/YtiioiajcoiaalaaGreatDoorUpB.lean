/-
  The walk of bag.Upserts, for every bag, changes and key.
-/
import Derived.Test.YtiioiajcoiaalaaGreatDoorUpA
import Derived.Test.YtiioiajcoiaalaaGreatDoorNetA
import Derived.Test.YtiioiajcoiaalaaGreatDoorRwL
import Derived.Laws.EntriesVeiled
namespace Go.Proofs.YtiioiajcoiaalaaGreatDoor
open Go.RowKit
attribute [local go_sem] Oper.semAt_some
set_option linter.unusedVariables false
set_option linter.unusedSimpArgs false

theorem put_same (A : Option Addr) (n c B : Nat) (l : List It) (w : World) (hb : BagR w B A n l) (hB : B ≤ w.heap.size) :
    Calls Tryz.prog 45 #[.slice A n c] w fun e w' => e = .returned (.tuple #[if okBag (dat l) then .slice A n c else .slice none 0 0, .int .i64 (if okBag (dat l) then 0 else 4)]) ∧ Below w.heap.size w w' := by
  have HV := hide (BagValid_any A n c B l w hb)
  obtain ⟨o, ho⟩ : ∃ o, okBag (dat l) = o := ⟨_, rfl⟩
  rw [ho] at HV ⊢
  clear ho
  cases o
  · go_enter Tryz.func45, Tryz.ntmps45
    go_wp2_with fail
    refine HV.out.mono ?_
    rintro e W1 ⟨rfl, hB1⟩
    go_wp2
    go_ret2
    exact ⟨rfl, hB1⟩
  · go_enter Tryz.func45, Tryz.ntmps45
    go_wp2_with fail
    refine HV.out.mono ?_
    rintro e W1 ⟨rfl, hB1⟩
    go_wp2
    go_ret2
    exact ⟨rfl, hB1⟩
/-- A bag, an error, and that every row has room. -/
def RetCc (w : World) (p : Bg × Int) (e : Ending) (w' : World) : Prop :=
  ∃ A n c l, e = .returned (.tuple #[.slice A n c, .int .i64 p.2]) ∧ dat l = p.1 ∧ BagR w' w'.heap.size A n l ∧ n ≤ c ∧ Caps l ∧ Below w.heap.size w w'
theorem caps_nil : Caps [] := nofun
def CapsC (l : List Ch) : Prop := ∀ i ∈ l, i.n ≤ i.c
theorem ofT_has {key : List Int} {r : Rw} (h : hasB r key = true) : ofT key r = ⟨(keyT key r).toArray⟩ := by unfold ofT; rw [if_pos h]
theorem ofT_iff {key : List Int} {x y : Rw} (h : hasB x key = true) (k : hasB y key = true) : decide (ofT key x = ofT key y) = (keyT key x == keyT key y) := by
  rw [ofT_has h, ofT_has k, Bool.eq_iff_iff, decide_eq_true_eq, beq_iff_eq]
  constructor
  · intro h
    have := congrArg (fun b : ByteArray => b.data.toList) h
    simpa using this
  · intro h
    rw [h]
theorem up_filter {key : List Int} {lo : List It} {c : Rw} (h : ∀ i ∈ lo, hasB i.r key = true) (hc : hasB c key = true) : dat (lo.filter fun x => !decide (ofT key x.r = ofT key c)) = (dat lo).filter fun x => !(keyT key x.1 == keyT key c) := by
  unfold dat
  rw [List.filter_map]
  congr 1
  apply List.filter_congr
  intro i hi
  show (!decide (ofT key i.r = ofT key c)) = !(keyT key i.r == keyT key c)
  rw [ofT_iff (h i hi) hc]
/-- What lies in memory between two changes. -/
structure UpI (w W4 : World) (key : List Int) (d : Bg) (v : Value) (lo : List It) (W : World) : Prop where
  bel : Below W4.heap.size W4 W
  own : W.ownsRow W4.heap.size 62 2 v lo.length (lo.flatMap encIt)
  dat : dat lo = d
  rows : Rows_ w w.heap.size lo
  caps : Caps lo
  ok : ∀ i ∈ lo, okR i.r = true ∧ hasB i.r key = true
theorem UpI.below {w W4 W W' : World} {key : List Int} {d : Bg} {v : Value} {lo : List It} (h : UpI w W4 key d v lo W) (hb : Below W.heap.size W W') : UpI w W4 key d v lo W' :=
  ⟨bstep h.bel hb, own_below h.own hb, h.dat, h.rows, h.caps, h.ok⟩
theorem upi_app {w W4 X2 X3 : World} {key : List Int} {d : Bg} {v v' : Value} {lo : List It} {x : It} (h : UpI w W4 key d v lo X2) (hrow : RowK w w.heap.size x.A x.n x.r) (hcap : x.n ≤ x.c) (hok : okR x.r = true ∧ hasB x.r key = true)
    (hown : X3.ownsRow W4.heap.size 62 2 v' (lo.length + 1) (lo.flatMap encIt ++ [.slice x.A x.n x.c, .int .i64 x.m])) (hgrow : (X2.alloc (.cells #[.slice x.A x.n x.c, .int .i64 x.m] 62)).grownBy X3 v.ownBlock) : UpI w W4 key (d ++ [(x.r, x.m)]) v' (lo ++ [x]) X3 := by
  have hs := h.bel.size
  have mem : ∀ {p : It → Prop}, (∀ i ∈ lo, p i) → p x → ∀ i ∈ lo ++ [x], p i := fun {p} h1 h2 i hi => by
    rcases List.mem_append.1 hi with hi | hi
    · exact h1 i hi
    · rw [List.mem_singleton.1 hi]; exact h2
  refine ⟨below_append (h.bel.alloc hs _) (h.own.alloc _) (by simp; omega) hgrow, ?_, by rw [dat_snoc, h.dat], mem h.rows hrow, mem h.caps hcap, mem h.ok hok⟩
  rw [List.length_append, List.flatMap_append]
  simpa [encIt] using hown
theorem not_item {W : World} {base g : Nat} {v : Value} {n : Nat} {xs : List Value} {cs : Array Value} {t : TypeId} (h : W.ownsRow base 62 2 v n xs) (hb : Blk W g t cs) (ht : t ≠ 62) : v.ownBlock ≠ some g := fun e => by
  obtain ⟨cs', fz, hc⟩ := own_cells h e
  unfold Blk at hb
  rw [hb] at hc
  injection hc with hc
  injection hc with _ hc2
  exact ht hc2
set_option maxRecDepth 100000 in
set_option maxHeartbeats 8000000 in
theorem Upserts_any (A : Option Addr) (n c : Nat) (l : List It) (A2 : Option Addr) (n2 c2 : Nat) (lc : List Ch) (A3 : Option Addr) (n3 c3 : Nat) (key : List Int) (w : World) (hb : BagR w w.heap.size A n l) (hcb : Caps l) (hx : ChgR w w.heap.size A2 n2 lc) (hcx : CapsC lc)
    (hkr : Reads w w.heap.size 1 A3 n3 (key.map (Value.int .i64))) (hn3 : n3 ≤ 1000) (ht : Tab w) :
    Calls Tryz.prog 26 #[.slice A n c, .slice A2 n2 c2, .slice A3 n3 c3] w (RetCc w (upsB (dat l) lc key)) := by
  obtain ⟨i0, hi, hz0, hz1, hz2⟩ := info_parts3 infoItem
  obtain ⟨p, hp⟩ : ∃ p, upsB (dat l) lc key = p := ⟨_, rfl⟩
  rw [hp]
  have HP := hide hp
  clear hp
  have HLK := hide hkr.len1
  have HLB := hide hb.len
  have HLC := hide hx.len
  have hB0 := below_val (w := w) #[.slice A3 n3 c3] 38
  have c0 := Boxed.new w 38 (.slice A3 n3 c3)
  go_enter Tryz.func26, Tryz.ntmps26
  go_wp2_with fail
  obtain ⟨W0, hW0⟩ : ∃ W0, w.alloc (.cells #[.slice A3 n3 c3] 38) = W0 := ⟨_, rfl⟩
  rw [hW0] at hB0 c0 ⊢
  clear hW0
  refine (BagValid_any A n c _ l W0 (hb.below hB0)).mono ?_
  rintro e W1 ⟨rfl, hB1⟩
  have hB01 := bstep hB0 hB1
  have c1 : Boxed W1 w.heap.size 38 (.slice A3 n3 c3) := (hB1.block _ c0.lt).trans c0
  cases oa : okBag (dat l)
  · have HQ := hide (show p = ([], 1) by rw [← HP.out]; unfold upsB; rw [oa]; rfl)
    clear oa hB0 hB1 c0 c1
    go_wp2
    go_ret2
    rw [HQ.out]
    exact ⟨none, 0, 0, [], rfl, rfl, BagR.nil _ _, Nat.le_refl _, caps_nil, hB01⟩
  have OA := hide oa
  clear oa hB0 hB1 c0
  go_wp2_with fail
  refine (changes_any A2 n2 c2 _ lc W1 (hx.below hB01) hB01.size).mono ?_
  rintro e W2 ⟨rfl, hB2⟩
  have hB02 := bstep hB01 hB2
  have c2' : Boxed W2 w.heap.size 38 (.slice A3 n3 c3) := (hB2.block _ c1.lt).trans c1
  cases ob : okChs lc
  · have HQ := hide (show p = ([], 1) by rw [← HP.out]; unfold upsB; rw [OA.out, ob]; rfl)
    clear ob hB01 hB2 c1 c2'
    go_wp2
    go_ret2
    rw [HQ.out]
    exact ⟨none, 0, 0, [], rfl, rfl, BagR.nil _ _, Nat.le_refl _, caps_nil, hB02⟩
  have OB := hide ob
  have HBAD := hide (show upOK key (dat l) lc = false → p = ([], 7) from fun h => by rw [← HP.out]; unfold upsB; rw [OA.out, OB.out, h]; rfl)
  have k2 := c2'.cell
  clear ob hB01 hB2 c1
  by_cases h0 : n3 = 0
  · have z : ((n3 : Int) == 0) = true := by simpa using h0
    have HQ := hide (HBAD.out (by
      unfold upOK okK
      have : key = [] := List.eq_nil_of_length_eq_zero (by rw [HLK.out]; exact h0)
      rw [this]
      rfl))
    clear h0 c2'
    go_wp2
    go_ret2
    rw [HQ.out]
    exact ⟨none, 0, 0, [], rfl, rfl, BagR.nil _ _, Nat.le_refl _, caps_nil, hB02⟩
  have z : ((n3 : Int) == 0) = false := by simpa using h0
  have HCI := hide (con_ints A3 n3 c3 _ key W2 (hkr.up hB02) (by omega) (Nat.le_refl _) 71 #[] (fun x => !btw x 0 7) (enters_of Tryz.func71 (by kernel_rfl) rfl) (fun x _ W _ => up1_any x W))
  obtain ⟨kb, hkb⟩ : ∃ kb, key.any (fun x => !btw x 0 7) = kb := ⟨_, rfl⟩
  rw [hkb] at HCI
  have HKB := hide hkb
  clear hkb
  go_wp2_with fail
  refine HCI.out.mono ?_
  rintro e W3 ⟨rfl, hB3⟩
  have hB03 := bstep hB02 hB3
  have c3' : Boxed W3 w.heap.size 38 (.slice A3 n3 c3) := (hB3.block _ c2'.lt).trans c2'
  clear HCI hB02 hB3 c2' k2
  cases kb
  case true =>
    have HQ := hide (HBAD.out (by
      unfold upOK okK
      have h1 : (key.all fun c => btw c 0 7) = false := by
        obtain ⟨x, hx, h⟩ := List.any_eq_true.1 HKB.out
        rw [List.all_eq_false]
        exact ⟨x, hx, by rw [Bool.not_eq_true]; simpa using h⟩
      rw [h1]
      simp))
    clear c3'
    go_wp2
    go_ret2
    rw [HQ.out]
    exact ⟨none, 0, 0, [], rfl, rfl, BagR.nil _ _, Nat.le_refl _, caps_nil, hB03⟩
  have HK := hide (show okK key = true by
    unfold okK
    rw [Bool.and_eq_true]
    refine ⟨?_, ?_⟩
    · cases hk : key with
      | nil => exact absurd (by have := HLK.out; rw [hk] at this; exact this.symm) h0
      | cons x y => rfl
    · rw [List.all_eq_true]
      intro x hx
      have := List.any_eq_false.1 HKB.out x hx
      simpa using this)
  have HPOS := hide (fun c hc => (okK_pos HK.out c hc).1)
  have HOKR := hide (show ∀ x ∈ dat l, okR x.1 = true from fun x hx => (okBag_asc OA.out).1.ok x hx)
  have HOKC := hide (show ∀ i ∈ lc, okR i.r = true from fun i hi => ((chs_in OB.out).1 (i.r, i.m) (List.mem_map.2 ⟨i, hi, rfl⟩)).1)
  have hn4 : n ≤ 400 := by have := (okBag_asc OA.out).2.2; rw [dat_len, HLB.out] at this; exact this
  have hm4 : n2 ≤ 400 := by have := (chs_in OB.out).2; rw [HLC.out] at this; exact this
  obtain ⟨Bo, hBo⟩ : ∃ Bo, W3.heap.size = Bo := ⟨_, rfl⟩
  have f4 := Boxed.new W3 91 (.func (Fn.func 72) #[] #[.pointer (some ⟨w.heap.size, 0, none⟩)])
  have c4 := c3'.alloc (.cells #[.func (Fn.func 72) #[] #[.pointer (some ⟨w.heap.size, 0, none⟩)]] 91)
  have hB34 := below_val (w := W3) #[.func (Fn.func 72) #[] #[.pointer (some ⟨w.heap.size, 0, none⟩)]] 91
  have hB04 := bstep hB03 hB34
  clear h0 c3' hB03 hB34
  go_wp2_with fail
  obtain ⟨W4, hW4⟩ : ∃ W4, W3.alloc (.cells #[.func (Fn.func 72) #[] #[.pointer (some ⟨w.heap.size, 0, none⟩)]] 91) = W4 := ⟨_, rfl⟩
  rw [hW4] at f4 c4 hB04 ⊢
  rw [hBo] at f4
  clear hW4
  have HB04 := hide hB04
  have HF4 := hide f4
  have HC4 := hide c4
  have hlo := f4.lt
  -- what every world from here on knows
  have HBEL := hide (show ∀ (W : World), Below W4.heap.size W4 W → Below w.heap.size w W ∧ Boxed W Bo 91 (.func (Fn.func 72) #[] #[.pointer (some ⟨w.heap.size, 0, none⟩)]) ∧ Boxed W w.heap.size 38 (.slice A3 n3 c3) ∧ Reads W W.heap.size 1 A3 n3 (key.map (Value.int .i64)) ∧ Tab W from fun W h =>
    ⟨bstep HB04.out h, (h.block _ HF4.out.lt).trans HF4.out, (h.block _ HC4.out.lt).trans HC4.out, hkr.up (bstep HB04.out h), ht.below (bstep HB04.out h)⟩)
  have HOF := hide (fun (A : Option Addr) (n c : Nat) (r : Rw) (W : World) (hW : Below W4.heap.size W4 W) (hr : RowK w w.heap.size A n r) (hnc : n ≤ c) (ho : okR r = true) =>
    up2_any A n c r w.heap.size A3 n3 c3 key w.heap.size W (hr.below (HBEL.out _ hW).1) hnc ho (HBEL.out _ hW).2.2.1 (HBEL.out _ hW).2.2.2.1 hn3 HPOS.out (HBEL.out _ hW).2.2.2.2)
  have u0 : UpI w W4 key (dat (l.take 0)) (.slice none 0 0) (l.take 0) W4 := ⟨Below.refl _ _, World.ownsRow_nil _ _ _ _, rfl, nofun, nofun, nofun⟩
  clear f4 c4 hB04 HF4 HC4
  have HNO := hide (fun (x : Rw × Int) (hx : x ∈ dat l) (h : hasB x.1 key = false) => HBAD.out (show upOK key (dat l) lc = false by
    unfold upOK
    have : ((dat l).all fun x => hasB x.1 key) = false := by rw [List.all_eq_false]; exact ⟨x, hx, by rw [h]; decide⟩
    rw [this]
    simp))
  have HNOC := hide (fun (x : Ch) (hx : x ∈ lc) (h : hasB x.r key = false) => HBAD.out (show upOK key (dat l) lc = false by
    unfold upOK
    have : (lc.all fun x => hasB x.r key) = false := by rw [List.all_eq_false]; exact ⟨x, hx, by rw [h]; decide⟩
    rw [this]
    simp))
  have HK2 := hide HK.out
  clear HBAD HK HB04 hlo hBo
  go_wp2_with fail
  go_loopw [9, 40] (fun v i wr => ∃ (k : Nat) (v' : Value), k ≤ n ∧ i = .int .i64 k ∧ v' = v ∧ ((dat l).take k).all (fun x => hasB x.1 key) = true ∧ UpI w W4 key (dat (l.take k)) v' (l.take k) wr) (fun _ i _ => n - (intOf i).toNat)
  case atStart => exact ⟨0, _, Nat.zero_le _, rfl, rfl, rfl, u0⟩
  case round =>
    clear u0
    obtain ⟨k, v, hk, rfl, rfl, hal, hI⟩ := hrel
    have HAL := hide hal
    clear hal
    by_cases hlt : k < n
    · obtain ⟨b, off, x, rfl, hbl, hxk, e0, e1, hrow⟩ := hb.at_ hlt
      have hmem := List.mem_of_getElem? hxk
      have hcap := hcb x hmem
      have HXD := hide (dat_at hxk)
      have hxok := HOKR.out _ (List.mem_of_getElem? HXD.out)
      simp only at hxok
      have hBel := (HBEL.out _ hI.bel).1
      have e0 := (hBel.cell (p := ⟨b, off + k * 2, none⟩) hbl).trans e0
      have e1 := (hBel.cell (p := ⟨b, off + k * 2 + 1, none⟩) hbl).trans e1
      have HTK := hide (take_snoc' hxk)
      have hbx := below_val (w := wr) #[.slice x.A x.n x.c, .int .i64 x.m] 62
      have kx := Blk.new wr 62 #[.slice x.A x.n x.c, .int .i64 x.m]
      have hI1 := hI.below hbx
      have kf := (HBEL.out _ hI1.bel).2.1.cell
      have hll : (l.take k).length ≤ 400 := by rw [List.length_take]; omega
      obtain ⟨lo, hlo⟩ : ∃ lo, l.take k = lo := ⟨_, rfl⟩
      rw [hlo] at hI1 hll HTK
      have q1 : (0 : Int) ≤ (k : Int) := by omega
      have q2 : (k : Int) < (n : Int) := by omega
      have HC := hide (HOF.out x.A x.n x.c x.r _ hI1.bel hrow hcap hxok)
      obtain ⟨hh, hhe⟩ : ∃ hh, hasB x.r key = hh := ⟨_, rfl⟩
      rw [hhe] at HC
      have HHE := hide hhe
      obtain ⟨T, hT⟩ : ∃ T, ofT key x.r = T := ⟨_, rfl⟩
      rw [hT] at HC
      clear hxk hI hbx hlo hBel hhe hT
      go_wp2_with fail
      obtain ⟨X0, hX0⟩ : ∃ X0, wr.alloc (.cells #[.slice x.A x.n x.c, .int .i64 x.m] 62) = X0 := ⟨_, rfl⟩
      obtain ⟨xb, hxb⟩ : ∃ xb, wr.heap.size = xb := ⟨_, rfl⟩
      rw [hX0] at hI1 kx HC kf ⊢
      rw [hxb] at kx ⊢
      clear hX0 e0 e1
      refine HC.out.mono ?_
      rintro e X1 ⟨rfl, hB1⟩
      have hI2 := hI1.below hB1
      have kx1 : Blk X1 xb 62 #[.slice x.A x.n x.c, .int .i64 x.m] := (hB1.block _ kx.lt).trans kx
      clear hI1 kx hB1 HC kf
      cases hh
      · have HQ := hide (HNO.out _ (List.mem_of_getElem? HXD.out) HHE.out)
        have HE := hide (HBEL.out _ hI2.bel).1
        clear hI2 kx1
        go_wp2
        go_ret2
        rw [HQ.out]
        exact ⟨none, 0, 0, [], rfl, rfl, BagR.nil _ _, Nat.le_refl _, caps_nil, HE.out⟩
      · have k0 : X1.cell? ⟨xb, 0, none⟩ = some (.slice x.A x.n x.c) := by simpa using kx1.cell 0
        have k1 : X1.cell? ⟨xb, 1, none⟩ = some (.int .i64 x.m) := by simpa using kx1.cell 1
        have hrd := one_reads X1 62 [.slice x.A x.n x.c, .int .i64 x.m] 2 rfl
        have hle := hI2.bel.size
        have hown := hI2.own
        have HI2 := hide hI2
        clear hI2 kx1 hxb
        go_wp2_with (at_builtin; refine wpList_append_any _ rfl _ _ 23 rfl W4.heap.size 62 i0 _ 2 32 Tryz.underlying23 hi hz0 hz1 hz2 rfl (by decide) v lo.length _ rfl (hown.alloc _) (X1.heap.size + 1) (some ⟨X1.heap.size, 0, none⟩) 1 1 [.slice x.A x.n x.c, .int .i64 x.m] rfl hrd (by simp [Value.oneCell']) (by unfold maxLen; omega) (by omega) (by simp; omega) ?_; intro v' X3 hown1 hgrow _)
        have HI3 := hide (upi_app HI2.out hrow hcap ⟨hxok, HHE.out⟩ hown1 hgrow)
        have HA2 := hide (show ((dat l).take (k + 1)).all (fun x => hasB x.1 key) = true by rw [take_snoc' HXD.out, List.all_append, HAL.out]; simp [HHE.out])
        clear hown hown1 hgrow hrd k0 k1 hle
        go_wp2
        go_roundw
        case rel => exact ⟨k + 1, _, by omega, by go_num, rfl, HA2.out, by rw [HTK.out, dat_snoc, ← HI2.out.dat]; have h := HI3.out; rw [← HI2.out.dat] at h; exact h⟩
        case measure => simp [intOf] <;> omega
    · obtain rfl : k = n := by omega
      have HALD := hide (show (dat l).all (fun x => hasB x.1 key) = true by have := HAL.out; rwa [take_all (by rw [dat_len]; exact HLB.out)] at this)
      rw [take_all HLB.out] at hI
      go_wp2_with fail
      go_loopw [60] (fun i wx => ∃ j : Nat, j ≤ n2 ∧ i = .int .i64 j ∧ (lc.take j).all (fun x => hasB x.r key) = true ∧ UpI w W4 key (dat l) v l wx) (fun i _ => n2 - (intOf i).toNat)
      case atStart => exact ⟨0, Nat.zero_le _, rfl, rfl, hI⟩
      case round =>
        clear hI
        obtain ⟨j, hj, rfl, hal, hI⟩ := hrel
        have HALJ := hide hal
        clear hal
        by_cases hlt2 : j < n2
        · obtain ⟨b, off, x, rfl, hbl, hxk, e0, e1, e2, hrow⟩ := hx.at_ hlt2
          have hmem := List.mem_of_getElem? hxk
          have HMEM := hide hmem
          have hcap := hcx x hmem
          have hxok := HOKC.out x hmem
          have hBel := (HBEL.out _ hI.bel).1
          have e0 := (hBel.cell (p := ⟨b, off + j * 3, none⟩) hbl).trans e0
          have e1 := (hBel.cell (p := ⟨b, off + j * 3 + 1, none⟩) hbl).trans e1
          have e2 := (hBel.cell (p := ⟨b, off + j * 3 + 2, none⟩) hbl).trans e2
          have HTK := hide (take_snoc' hxk)
          have hbx := below_val (w := wr) #[.int .i64 x.t, .slice x.A x.n x.c, .int .i64 x.m] 45
          have kx := Blk.new wr 45 #[.int .i64 x.t, .slice x.A x.n x.c, .int .i64 x.m]
          have hI1 := hI.below hbx
          have kf := (HBEL.out _ hI1.bel).2.1.cell
          have q1 : (0 : Int) ≤ (j : Int) := by omega
          have q2 : (j : Int) < (n2 : Int) := by omega
          have HC := hide (HOF.out x.A x.n x.c x.r _ hI1.bel hrow hcap hxok)
          obtain ⟨hh, hhe⟩ : ∃ hh, hasB x.r key = hh := ⟨_, rfl⟩
          rw [hhe] at HC
          have HHE := hide hhe
          obtain ⟨T, hT⟩ : ∃ T, ofT key x.r = T := ⟨_, rfl⟩
          rw [hT] at HC
          clear hxk hI hbx hBel hhe hT hmem
          go_wp2_with fail
          refine HC.out.mono ?_
          rintro e X1 ⟨rfl, hB1⟩
          have hI2 := hI1.below hB1
          clear hI1 kx hB1 HC kf e0 e1 e2
          cases hh
          · have HQ := hide (HNOC.out x HMEM.out HHE.out)
            have HE := hide (HBEL.out _ hI2.bel).1
            clear hI2
            go_wp2
            go_ret2
            rw [HQ.out]
            exact ⟨none, 0, 0, [], rfl, rfl, BagR.nil _ _, Nat.le_refl _, caps_nil, HE.out⟩
          · have HA2 := hide (show (lc.take (j + 1)).all (fun x => hasB x.r key) = true by rw [HTK.out, List.all_append, HALJ.out]; simp [HHE.out])
            have HI2 := hide hI2
            clear hI2
            go_wp2
            go_roundw
            case rel => exact ⟨j + 1, by omega, by go_num, HA2.out, HI2.out⟩
            case measure => simp [intOf] <;> omega
        · obtain rfl : j = n2 := by omega
          have HALC := hide (show ∀ x ∈ lc, hasB x.r key = true by have := HALJ.out; rw [take_all HLC.out] at this; exact List.all_eq_true.1 this)
          have HUP := hide (show upOK key (dat l) lc = true by
            unfold upOK
            rw [HALD.out, List.all_eq_true.2 HALC.out, HK2.out]
            rfl)
          have HQ := hide (show p = toldB (upQ key (dat l) lc) by rw [← HP.out]; unfold upsB; rw [OA.out, OB.out, HUP.out]; rfl)
          have HALL := hide (up_all OA.out OB.out HUP.out)
          go_wp2_with fail
          go_loopw [9, 76] (fun v i wx => ∃ (q : Nat) (v' : Value) (lo : List It), q ≤ j ∧ i = .int .i64 q ∧ v' = v ∧ UpI w W4 key (upP key (dat l) (lc.take q)) v' lo wx) (fun _ i _ => j - (intOf i).toNat)
          case atStart => exact ⟨0, _, l, Nat.zero_le _, rfl, rfl, hI⟩
          case round =>
            clear hI
            obtain ⟨q, v, lo, hq, rfl, rfl, hI⟩ := hrel
            have hll : lo.length ≤ 800 := by
              have := upP_len key (dat l) lc q
              rw [← hI.dat, dat_len, dat_len, HLB.out] at this
              omega
            by_cases hlt3 : q < j
            · obtain ⟨b, off, x, rfl, hbl, hxk, e0, e1, e2, hrow⟩ := hx.at_ hlt3
              have hmem := List.mem_of_getElem? hxk
              have hcap := hcx x hmem
              have hxok := HOKC.out x hmem
              have hhe := HALC.out x hmem
              have hBel := (HBEL.out _ hI.bel).1
              have e0 := (hBel.cell (p := ⟨b, off + q * 3, none⟩) hbl).trans e0
              have e1 := (hBel.cell (p := ⟨b, off + q * 3 + 1, none⟩) hbl).trans e1
              have e2 := (hBel.cell (p := ⟨b, off + q * 3 + 2, none⟩) hbl).trans e2
              have HTK := hide (show upP key (dat l) (lc.take (q + 1)) = upS key (upP key (dat l) (lc.take q)) x by rw [take_snoc' hxk, upP_snoc])
              have hbx := below_val (w := wr) #[.int .i64 x.t, .slice x.A x.n x.c, .int .i64 x.m] 45
              have kx := Blk.new wr 45 #[.int .i64 x.t, .slice x.A x.n x.c, .int .i64 x.m]
              have hI1 := hI.below hbx
              have kf := (HBEL.out _ hI1.bel).2.1.cell
              have q1 : (0 : Int) ≤ (q : Int) := by omega
              have q2 : (q : Int) < (j : Int) := by omega
              have HC := hide (HOF.out x.A x.n x.c x.r _ hI1.bel hrow hcap hxok)
              rw [hhe] at HC
              obtain ⟨T, hT⟩ : ∃ T, ofT key x.r = T := ⟨_, rfl⟩
              rw [hT] at HC
              have HT := hide hT
              have HHE := hide hhe
              obtain ⟨P, hP⟩ : ∃ P, upP key (dat l) (lc.take q) = P := ⟨_, rfl⟩
              rw [hP] at hI1 HTK
              clear hxk hI hbx hBel hhe hT hmem hP
              go_wp2_with fail
              obtain ⟨X0, hX0⟩ : ∃ X0, wr.alloc (.cells #[.int .i64 x.t, .slice x.A x.n x.c, .int .i64 x.m] 45) = X0 := ⟨_, rfl⟩
              obtain ⟨xb, hxb⟩ : ∃ xb, wr.heap.size = xb := ⟨_, rfl⟩
              rw [hX0] at hI1 kx HC kf ⊢
              rw [hxb] at kx ⊢
              clear hX0 e0 e1 e2
              refine HC.out.mono ?_
              rintro e X1 ⟨rfl, hB1⟩
              have hbs := below_val (w := X1) #[.string T] 9
              have hI2 := (hI1.below hB1).below hbs
              have kx2 := (show Blk X1 xb 45 #[.int .i64 x.t, .slice x.A x.n x.c, .int .i64 x.m] from (hB1.block _ kx.lt).trans kx).alloc (.cells #[.string T] 9)
              have s2 := Boxed.new X1 9 (.string T)
              clear hI1 kx hB1 HC kf hbs hxb
              go_wp2_with fail
              obtain ⟨X2, hX2⟩ : ∃ X2, X1.alloc (.cells #[.string T] 9) = X2 := ⟨_, rfl⟩
              obtain ⟨sb, hsb⟩ : ∃ sb, X1.heap.size = sb := ⟨_, rfl⟩
              rw [hX2] at hI2 kx2 s2 ⊢
              rw [hsb] at s2 ⊢
              clear hX2 hsb
              have hobl : ∀ g ∈ obl v, W4.heap.size ≤ g := fun g hg => by
                have : v.ownBlock = some g := by unfold obl at hg; simpa using hg
                exact (hI2.own.lt g this).1
              have hns : sb ∉ obl v := fun h => by
                have : v.ownBlock = some sb := by unfold obl at h; simpa using h
                exact not_item hI2.own s2 (by decide) this
              have hnx : xb ∉ obl v := fun h => by
                have : v.ownBlock = some xb := by unfold obl at h; simpa using h
                exact not_item hI2.own kx2 (by decide) this
              have hbar : ∀ {V : World}, Bar X2.heap.size (obl v) X2 V → Below W4.heap.size W4 V := fun {V} hV => hI2.bel.trans (hV.below hI2.bel.size hobl)
              have HD := hide (DeleteV W4.heap.size lo.length v lo X2 hI2.own (by omega) 75 #[.pointer (some ⟨Bo, 0, none⟩), .pointer (some ⟨sb, 0, none⟩)] (fun y => decide (ofT key y.r = T)) (enters_of Tryz.func75 (by kernel_rfl) rfl)
                (fun y hy V hV => up3_any y Bo sb w.heap.size A3 n3 c3 key T w.heap.size V ((hI2.rows y hy).below (HBEL.out _ (hbar hV)).1) (hI2.caps y hy) (hI2.ok y hy).1 (HBEL.out _ (hbar hV)).2.2.1 (HBEL.out _ (hbar hV)).2.2.2.1 hn3 HPOS.out (HBEL.out _ (hbar hV)).2.1 ((hV.block _ s2.lt hns).trans s2) (HBEL.out _ (hbar hV)).2.2.2.2))
              go_wp2_with fail
              refine HD.out.mono ?_
              rintro e X3 ⟨v1, rfl, hown1, hob1, hb1⟩
              have hI3 : UpI w W4 key (P.filter fun y => !(keyT key y.1 == keyT key x.r)) v1 (lo.filter fun y => !decide (ofT key y.r = T)) X3 :=
                ⟨hbar hb1, hown1, by rw [← HT.out, up_filter (fun i hi => (hI2.ok i hi).2) HHE.out, hI2.dat], fun i hi => hI2.rows i (List.mem_filter.1 hi).1, fun i hi => hI2.caps i (List.mem_filter.1 hi).1, fun i hi => hI2.ok i (List.mem_filter.1 hi).1⟩
              have kx3 : Blk X3 xb 45 #[.int .i64 x.t, .slice x.A x.n x.c, .int .i64 x.m] := (hb1.block _ kx2.lt hnx).trans kx2
              have hlf : (lo.filter fun y => !decide (ofT key y.r = T)).length ≤ 800 := Nat.le_trans (List.length_filter_le _ _) hll
              obtain ⟨lf, hlf'⟩ : ∃ lf, (lo.filter fun y => !decide (ofT key y.r = T)) = lf := ⟨_, rfl⟩
              rw [hlf'] at hI3 hlf
              have k1 : X3.cell? ⟨xb, 1, none⟩ = some (.slice x.A x.n x.c) := by simpa using kx3.cell 1
              have k2 : X3.cell? ⟨xb, 2, none⟩ = some (.int .i64 x.m) := by simpa using kx3.cell 2
              clear HD hb1 hob1 hown1 kx2 s2 hns hnx hbar hobl hI2 hlf' kx3
              by_cases h0 : 0 < x.m
              · have z0 : decide (0 < x.m) = true := by simpa using h0
                have HUS := hide (show upS key P x = (P.filter fun y => !(keyT key y.1 == keyT key x.r)) ++ [(x.r, 1)] by unfold upS; rw [if_pos h0])
                have hrd := one_reads X3 62 [.slice x.A x.n x.c, .int .i64 1] 2 rfl
                have hle := hI3.bel.size
                have hown := hI3.own
                have HI3 := hide hI3
                clear hI3 h0
                go_wp2_with (at_builtin; refine wpList_append_any _ rfl _ _ 23 rfl W4.heap.size 62 i0 _ 2 32 Tryz.underlying23 hi hz0 hz1 hz2 rfl (by decide) v1 lf.length _ rfl (hown.alloc _) (X3.heap.size + 1) (some ⟨X3.heap.size, 0, none⟩) 1 1 [.slice x.A x.n x.c, .int .i64 1] rfl hrd (by simp [Value.oneCell']) (by unfold maxLen; omega) (by omega) (by simp; omega) ?_; intro v' X5 hown1 hgrow _)
                have HI5 := hide (upi_app (x := ⟨x.A, x.n, x.c, x.r, 1⟩) HI3.out hrow hcap ⟨hxok, HHE.out⟩ hown1 hgrow)
                clear hown hown1 hgrow hrd k1 k2 hle
                go_wp2
                go_roundw
                case rel => exact ⟨q + 1, _, _, by omega, by go_num, rfl, by rw [HTK.out, HUS.out]; exact HI5.out⟩
                case measure => simp [intOf] <;> omega
              · have z0 : decide (0 < x.m) = false := by simpa using h0
                have HUS := hide (show upS key P x = P.filter fun y => !(keyT key y.1 == keyT key x.r) by unfold upS; rw [if_neg h0, List.append_nil])
                have HI3 := hide hI3
                clear hI3 h0
                go_wp2
                go_roundw
                case rel => exact ⟨q + 1, _, _, by omega, by go_num, rfl, by rw [HTK.out, HUS.out]; exact HI3.out⟩
                case measure => simp [intOf] <;> omega
            · obtain rfl : q = j := by omega
              rw [take_all HLC.out] at hI
              have hall := HALL.out lc.length
              rw [List.take_length] at hall
              obtain ⟨Av, cv, rfl, hrdv⟩ := own_form hI.own
              obtain ⟨nv, hnv⟩ : ∃ nv, lo.length = nv := ⟨_, rfl⟩
              rw [hnv] at hrdv ⊢
              have hBv := (HBEL.out _ hI.bel).1
              have hbv : BagR wr wr.heap.size Av nv lo := ⟨hrdv, fun i hi => ((hI.rows i hi).below hBv).mono hBv.size, by omega⟩
              have htv := (HBEL.out _ hI.bel).2.2.2.2
              have HNET := hide (show Net (dat lo) (upQ key (dat l) lc) by rw [hI.dat]; exact hall.net)
              have HOKL := hide (show ∀ y ∈ dat lo, okR y.1 = true ∧ -1000000 ≤ y.2 ∧ y.2 ≤ 1000000 from fun y hy => by
                rw [hI.dat] at hy
                refine ⟨(hall.ok y hy).1, ?_⟩
                have := upP_num (key := key) (l := lc) (fun x hx => (numB_ne ((okBag_asc OA.out).2.1 x hx)).2) lc.length
                rw [List.take_length] at this
                exact this y hy)
              have hdl : (dat lo).length ≤ 1000 := by rw [dat_len]; omega
              clear hI hrdv hall hnv
              go_wp2_with fail
              refine (items_any Av nv cv wr).mono ?_
              rintro e Z ⟨rfl, hZ⟩
              have hz0' := Boxed.new wr 23 (.slice Av nv cv)
              have hBZ := below_val (w := wr) #[.slice Av nv cv] 23
              rw [← hZ] at hz0' hBZ
              have hBvZ := bstep hBv hBZ
              have HGI := hide (gathered_items wr.heap.size Av nv cv lo Z hz0' ((hbv.below hBZ).mono hBZ.size) (htv.below hBZ) HOKL.out hdl)
              clear hZ hz0' hBZ hbv htv hBv
              go_wp2_with fail
              refine HGI.out.mono ?_
              rintro e V ⟨A4, n4, c4, l4, rfl, hnet, hbag, hcap4, ⟨_, hcaps⟩, hbar⟩
              have hBV := bstep hBvZ (bar_nil hbar)
              have HD4 := hide (show dat l4 = upQ key (dat l) lc from hnet.same HNET.out fun _ => rfl)
              have hsz := hbar.size
              have HBAG := hide hbag
              have HCAPS := hide hcaps
              clear hbar hnet HGI hBvZ hcaps
              have HPU := hide (put_same A4 n4 c4 Z.heap.size l4 V hbag hsz)
              clear hbag
              rw [HD4.out] at HPU
              obtain ⟨o, ho⟩ : ∃ o, okBag (upQ key (dat l) lc) = o := ⟨_, rfl⟩
              rw [ho] at HPU
              have HO := hide ho
              clear ho
              go_wp2_with fail
              refine HPU.out.mono ?_
              rintro e U ⟨rfl, hBU⟩
              have hBF := bstep hBV hBU
              have HBG := hide ((HBAG.out.below hBU).mono (Nat.le_trans hsz hBU.size))
              clear hBV hBU HPU HBAG hsz
              cases o
              · have HX := hide (show p = ([], 4) by rw [HQ.out]; unfold toldB; rw [HO.out]; rfl)
                go_wp2
                go_ret2
                rw [HX.out]
                exact ⟨none, 0, 0, [], rfl, rfl, BagR.nil _ _, Nat.le_refl _, caps_nil, hBF⟩
              · have HX := hide (show p = (upQ key (dat l) lc, 0) by rw [HQ.out]; unfold toldB; rw [HO.out]; rfl)
                go_wp2
                go_ret2
                rw [HX.out]
                exact ⟨A4, n4, c4, l4, rfl, HD4.out, HBG.out, hcap4, HCAPS.out, hBF⟩
end Go.Proofs.YtiioiajcoiaalaaGreatDoor
