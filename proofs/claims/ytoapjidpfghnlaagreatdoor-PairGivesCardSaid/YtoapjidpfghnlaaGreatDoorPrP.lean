/-
  The walks of pair.partners: the iterator over the events that have a key. No condition.
-/
import Derived.Test.YtoapjidpfghnlaaGreatDoorPrO
import Derived.Test.YtoapjidpfghnlaaGreatDoorBgP2
import Derived.Test.YtoapjidpfghnlaaGreatDoorApl
namespace Go.Proofs.YtoapjidpfghnlaaGreatDoor
open Go.RowKit
attribute [local go_sem] Oper.semAt_some wide_fn wide_depth
set_option linter.unusedVariables false
set_option linter.unusedSimpArgs false

theorem bytes_eq {a b : ByteArray} (h : a = b) : (a.toList == b.toList) = true := by rw [str_eq0]; simpa using h
theorem bytes_ne {a b : ByteArray} (h : a ≠ b) : (a.toList == b.toList) = false := by rw [str_eq0]; simpa using h
theorem filter_one {α : Type} (p : α → Bool) (x : α) : [x].filter p = if p x then [x] else [] := by cases h : p x <;> simp [h]
/-- An event has the key. -/
def mtE (xs : List Int) (key : ByteArray) (y : Ev) : Bool := nonul (pick y.r xs) && decide (ofS xs y.r = key)
def encEa (y : Ev) : Array Value := #[.agg #[.int .i64 y.t, .slice y.A y.n y.c]]
/-- What partners hands to its iterator. -/
structure PrZ (b1 b2 b3 : Nat) (A : Option Addr) (n c : Nat) (l : List Ev) (A' : Option Addr) (n' c' : Nat) (xs : List Int) (key : ByteArray) (W : World) : Prop where
  k1 : Boxed W b1 25 (.slice A n c)
  k2 : Boxed W b2 22 (.slice A' n' c')
  k3 : Boxed W b3 9 (.string key)
  ev : EvR W W.heap.size A n l
  xs : Reads W W.heap.size 1 A' n' (xs.map (Value.int .i64))
  tab : Tab W
theorem PrZ.below {b1 b2 b3 : Nat} {A : Option Addr} {n c : Nat} {l : List Ev} {A' : Option Addr} {n' c' : Nat} {xs : List Int} {key : ByteArray} {W W' : World} (h : PrZ b1 b2 b3 A n c l A' n' c' xs key W) (hB : Below W.heap.size W W') : PrZ b1 b2 b3 A n c l A' n' c' xs key W' :=
  ⟨(hB.block _ h.k1.lt).trans h.k1, (hB.block _ h.k2.lt).trans h.k2, (hB.block _ h.k3.lt).trans h.k3, h.ev.step hB, h.xs.up hB, h.tab.below hB⟩
theorem partners_any (A : Option Addr) (n c : Nat) (A' : Option Addr) (n' c' : Nat) (key : ByteArray) (w : World) :
    Calls Tryz.prog 67 #[.slice A n c, .slice A' n' c', .string key] w fun e w' => e = .returned (.func (Fn.func 124) #[] #[.pointer (some ⟨w.heap.size, 0, none⟩), .pointer (some ⟨w.heap.size + 1, 0, none⟩), .pointer (some ⟨w.heap.size + 1 + 1, 0, none⟩)]) ∧
      w' = ((w.alloc (.cells #[.slice A n c] 25)).alloc (.cells #[.slice A' n' c'] 22)).alloc (.cells #[.string key] 9) := by
  go_enter Tryz.func67, Tryz.ntmps67
  go_wp2
  go_ret
  exact ⟨rfl, rfl⟩
set_option maxRecDepth 100000 in
set_option maxHeartbeats 8000000 in
theorem partners1_iter (m : Nat) (hm : 1 ≤ m) (b1 b2 b3 : Nat) (A : Option Addr) (n c : Nat) (l : List Ev) (A' : Option Addr) (n' c' : Nat) (xs : List Int) (key : ByteArray) (W0 : World) (Kp : World → World → Prop) (Z : World → Prop)
    (hZ : ∀ W, Z W → PrZ b1 b2 b3 A n c l A' n' c' xs key W) (hZk : ∀ X Y, Z X → Kp X Y → Z Y) (hZw : ∀ X Y, Z X → Below X.heap.size X Y → Z Y) (h00 : Z W0)
    (hok : ∀ x ∈ l, okR x.r = true ∧ hasC x.r xs = true ∧ x.n ≤ x.c) (hn' : n' ≤ 1000) :
    IterOf Fence.wide m Tryz.prog 124 #[.pointer (some ⟨b1, 0, none⟩), .pointer (some ⟨b2, 0, none⟩), .pointer (some ⟨b3, 0, none⟩)] encEa (l.filter (mtE xs key)) (fun X Y => Below X.heap.size X Y) Kp W0 := by
  intro l0 J Jx hJw hJxw hY h0
  have HZ := hide hZ
  have HZk := hide hZk
  have HZw := hide hZw
  have hz0 := hZ W0 h00
  have HL := hide hz0.ev.len
  have HY := hide hY
  have HJ := hide hJw
  have HOK := hide hok
  have hle := hz0.ev.le
  have kb := hz0.k1.cell
  clear hZ hZk hZw hz0 hY hJw hJxw hok
  refine callsIn_of_wp Tryz.func124 rfl trivial ?_ rfl
  simp only [Tryz.ntmps124, List.size_toArray, List.length_cons, List.length_nil, Nat.reduceAdd, Nat.reduceSub, Array.replicate_succ, Array.replicate_zero, List.push_toArray, List.append_toArray, List.nil_append, List.cons_append]
  gi_wp2_with fail
  gi_loopw [11] (fun i wr => ∃ k : Nat, k ≤ n ∧ i = .int .i64 k ∧ J ((l.take k).filter (mtE xs key)) wr ∧ Z wr) (fun i _ => n - (intOf i).toNat)
  case atStart => exact ⟨0, Nat.zero_le _, rfl, h0, h00⟩
  case round =>
    clear h0 h00 kb
    obtain ⟨k, hk, rfl, hJ, hz⟩ := hrel
    by_cases hlt : k < n
    · have hzz := HZ.out wr hz
      obtain ⟨b, off, x, hA, hbb, hxk, e0, e1, hrow⟩ := hzz.ev.at_ hlt
      obtain ⟨ho1, ho2, ho3⟩ := HOK.out x (List.mem_of_getElem? hxk)
      have HX := hide hxk
      have HTK := hide (show (l.take (k + 1)).filter (mtE xs key) = (l.take k).filter (mtE xs key) ++ if mtE xs key x then [x] else [] by
        rw [take_snoc' hxk, List.filter_append, filter_one])
      have hB1 := below_val (w := wr) #[.int .i64 x.t, .slice x.A x.n x.c] 36
      have kx := Blk.new wr 36 #[.int .i64 x.t, .slice x.A x.n x.c]
      have q1 : (0 : Int) ≤ (k : Int) := by omega
      have q2 : (k : Int) < (n : Int) := by omega
      rw [hA]
      have HA := hide hA
      clear hxk hA
      have c2 := hzz.k2.cell
      have c2' := (hB1.cell (p := ⟨b2, 0, none⟩) hzz.k2.lt).trans c2
      have hz1 := HZw.out _ _ hz hB1
      have hzz1 := hzz.below hB1
      have hJ1 := HJ.out _ _ _ hJ hB1
      have hrow1 := (hrow.below hB1).mono hB1.size
      clear hz hzz hJ hrow c2
      gi_wp2_with fail
      obtain ⟨W1, hW1⟩ : ∃ W1, wr.alloc (.cells #[.int .i64 x.t, .slice x.A x.n x.c] 36) = W1 := ⟨_, rfl⟩
      rw [hW1] at kx hz1 hzz1 hJ1 hrow1 ⊢
      refine (callsIn_wide.2 (of_any A' n' c' xs x.A x.n x.c x.r W1 hzz1.xs hn' hrow1 ho3 ho1 ho2 hzz1.tab)).mono ?_
      rintro e W2 ⟨rfl, hB2⟩
      have hz2 := HZw.out _ _ hz1 hB2
      have hzz2 := hzz1.below hB2
      have hJ2 := HJ.out _ _ _ hJ1 hB2
      have kx2 := kx.below hB2 kx.lt
      have c3 := hzz2.k3.cell
      have d0 : W2.cell? ⟨wr.heap.size, 0, none⟩ = some (.int .i64 x.t) := by simpa using kx2.cell 0
      have d1 : W2.cell? ⟨wr.heap.size, 1, none⟩ = some (.slice x.A x.n x.c) := by simpa using kx2.cell 1
      clear hW1 hB1 hB2 kx kx2 hz1 hzz1 hJ1 hrow1 e0 e1 c2' hzz2 ho1 ho2 ho3
      obtain ⟨S, hS⟩ : ∃ S, ofS xs x.r = S := ⟨_, rfl⟩
      rw [hS]
      by_cases hnn : nonul (pick x.r xs) = true
      · rw [hnn]
        by_cases hke : S = key
        · have z := bytes_eq hke
          have HM := hide (show mtE xs key x = true by unfold mtE; rw [hnn, hS]; simp [hke])
          rw [HM.out, if_pos rfl] at HTK
          have HPR := hide (show (l.take k).filter (mtE xs key) ++ [x] <+: l.filter (mtE xs key) by
            have h1 := take_pre HX.out
            have h2 := h1.filter (mtE xs key)
            rw [List.filter_append, filter_one, HM.out, if_pos rfl] at h2
            exact h2)
          obtain ⟨fn', tmps', assign', body', hy, hR⟩ := HY.out _ x W2 HPR.out hJ2
          unfold encEa at hy
          clear hke hnn hS
          gi_wp2_with fail
          refine hR.mono ?_
          clear hy hR d0 d1 hJ2 c3
          rintro e W3 (⟨rfl, hJ4, hk4⟩ | ⟨rfl, hJx4⟩)
          · have hB4 := HZk.out _ _ hz2 hk4
            rw [← HTK.out] at hJ4
            clear hk4 hz2
            gi_wp2_with fail
            go_roundw
            case rel => exact ⟨k + 1, by omega, by go_num, hJ4, hB4⟩
            case measure => simp [intOf]; omega
          · have HJX := hide hJx4
            clear hJx4 hz2
            gi_wp2_with fail
            refine bodyPost_ret (results_none rfl _ _ _) rfl ?_
            exact ⟨⟨_, rfl⟩, .inr ⟨_, HPR.out, HJX.out⟩⟩
        · have z := bytes_ne hke
          have HM := hide (show mtE xs key x = false by unfold mtE; rw [hnn, hS]; simp [hke])
          rw [HM.out] at HTK
          have hJ3 : J ((l.take (k + 1)).filter (mtE xs key)) W2 := by rw [HTK.out]; simpa using hJ2
          clear hke hnn hS hJ2 d0 d1
          gi_wp2_with fail
          go_roundw
          case rel => exact ⟨k + 1, by omega, by go_num, hJ3, hz2⟩
          case measure => simp [intOf]; omega
      · have hnn' : nonul (pick x.r xs) = false := by simpa using hnn
        rw [hnn']
        have HM := hide (show mtE xs key x = false by unfold mtE; rw [hnn']; rfl)
        rw [HM.out] at HTK
        have hJ3 : J ((l.take (k + 1)).filter (mtE xs key)) W2 := by rw [HTK.out]; simpa using hJ2
        clear hnn hnn' hS hJ2 d0 d1 c3
        gi_wp2_with fail
        go_roundw
        case rel => exact ⟨k + 1, by omega, by go_num, hJ3, hz2⟩
        case measure => simp [intOf]; omega
    · obtain rfl : k = n := by omega
      rw [take_all HL.out] at hJ
      have HJE := hide hJ
      clear hJ
      gi_wp2_with fail
      go_end0
      exact ⟨⟨_, rfl⟩, .inl HJE.out⟩
end Go.Proofs.YtoapjidpfghnlaaGreatDoor
