/-
  (In seats that hold the bag's texts: these stand in BgS1 and BgS3.)
  The walk of the reference's Quoted.
  The walks of Text on both sides.
  The walk of bag.gathered, whatever iterator is handed to it.
-/
import Derived.Test.YtoapjidpfghnlaaGreatDoorBgS3
import Derived.Test.YtoapjidpfghnlaaGreatDoorBgS1
import Derived.Laws.Strings2
import Derived.Laws.Concat
import Derived.Test.YtoapjidpfghnlaaGreatDoorGb
import Derived.Test.YtoapjidpfghnlaaGreatDoorRngH
import Derived.Carry
import Derived.Maps.Keyed
namespace Go.Proofs.YtoapjidpfghnlaaGreatDoor

section
open Go.RowKit Go.Proofs
attribute [local go_sem] Oper.semAt_some
set_option linter.unusedVariables false
set_option linter.unusedSimpArgs false

theorem ba_ext {a b : ByteArray} (h : a.data.toList = b.data.toList) : a = b := by
  apply ByteArray.ext
  exact Array.toList_inj.1 h
theorem ba_app (a b : ByteArray) : (a ++ b).data.toList = a.data.toList ++ b.data.toList := by simp [ByteArray.data_append]
theorem ba_list (a : ByteArray) : a.data.toList.length = a.size := rfl
end

section
open Go.RowKit Go.Proofs
attribute [local go_sem] Oper.semAt_some
set_option linter.unusedVariables false
set_option linter.unusedSimpArgs false

theorem infoS : (Tryz.prog.info? 9).map (fun i => (i.zero, i.size, i.bytes)) = some (some (.string .empty), 1, 16) := by kernel_rfl
/-- A value's text as a string. -/
def valS (v : Val) : ByteArray := ⟨(valT v).toArray⟩
theorem rd_one (X : World) (a : Value) (t : TypeId) : Reads (X.alloc (.cells #[a] t)) (X.heap.size + 1) 1 (some ⟨X.heap.size, 0, none⟩) 1 [a] :=
  ⟨rfl, fun _ => ⟨X.heap.size, 0, rfl, by omega, fun j u hu => by rw [Nat.zero_add]; exact ((Blk.new X t #[a]).cell j).trans (by simpa using hu)⟩⟩
theorem own_capT {w : World} {base : Nat} {e : TypeId} {size n c : Nat} {A : Option Addr} {xs : List Value} (h : w.ownsRow base e size (.slice A n c) n xs) : n ≤ c := by
  rcases h.2 with ⟨h1, _⟩ | ⟨g, cap, cur, h1, _, _, h4, _⟩
  · injection h1 with _ h2 h3
    omega
  · injection h1 with _ _ h3
    subst h3
    exact h4
set_option maxRecDepth 100000 in
set_option maxHeartbeats 4000000 in
theorem Text_any (A : Option Addr) (n c : Nat) (r : Rw) (w : World) (hr : Reads w w.heap.size 3 A n (r.flatMap encV)) (hn : n ≤ 9223372036854775807) (ht : Tab w) :
    Calls Tryz.prog 123 #[.slice A n c] w (RetV w (.string ⟨(rowT r).toArray⟩)) := by
  have HL := hide (hr.len encV_len (by omega))
  have HV := hide (RowValid_any A n c _ r w hr (Nat.le_refl _) hn)
  obtain ⟨i0, hi, hz0, hz1, hz2⟩ := info_parts infoS
  cases hok : okR r
  · have HR := hide (show rowT r = [] by unfold rowT; rw [hok]; simp)
    rw [hok] at HV
    clear hok
    go_enter Tryz.func123, Tryz.ntmps123
    go_wp2_with fail
    refine HV.out.mono ?_
    rintro e W1 ⟨rfl, hB1⟩
    go_wp2_with fail
    go_ret
    exact ⟨by rw [HR.out]; rfl, hB1⟩
  · have HR := hide (show rowT r = Lib.join (r.map valT) [44] by unfold rowT; rw [if_pos hok])
    have HM := hide (fun v (hv : v ∈ r) => okR_mem hok hv)
    have HP := hide (part_len hok r.length)
    have hn8 : n ≤ 8 := by rw [← HL.out]; exact okR_len hok
    rw [hok] at HV
    clear hok
    go_enter Tryz.func123, Tryz.ntmps123
    go_wp2_with fail
    refine HV.out.mono ?_
    rintro e W1 ⟨rfl, hB1⟩
    clear HV
    go_wp2_with fail
    have ow0 : W1.ownsRow W1.heap.size 9 1 (.slice none 0 0) 0 [] := World.ownsRow_nil _ _ _ _
    go_loopw [3, 5, 11] (fun v _ i wr => ∃ k : Nat, k ≤ n ∧ i = .int .i64 k ∧ wr.ownsRow W1.heap.size 9 1 v k ((r.take k).map fun x => Value.string (valS x)) ∧ Below W1.heap.size W1 wr) (fun _ _ i _ => n - (intOf i).toNat)
    case atStart => exact ⟨0, Nat.zero_le _, rfl, ow0, Below.refl _ _⟩
    case round =>
      clear ow0
      obtain ⟨k, hk, rfl, hown, hBr⟩ := hrel
      have hB := bstep hB1 hBr
      by_cases hlt : k < n
      · obtain ⟨b, off, x, hA, hb, hxk, hcx⟩ := (hr.below hB).elem encV_len HL.out hlt
        have HS := hide (show (r.take (k + 1)).map (fun x => Value.string (valS x)) = (r.take k).map (fun x => Value.string (valS x)) ++ [.string (valS x)] by rw [take_snoc' hxk, List.map_append]; rfl)
        have hok := HM.out x (List.mem_of_getElem? hxk)
        have e0 : wr.cell? ⟨b, off + k * 3, none⟩ = some (.int .i64 x.k) := by simpa using hcx 0 _ rfl
        have e1 : wr.cell? ⟨b, off + k * 3 + 1, none⟩ = some (.int .i64 x.n) := by simpa [← Nat.add_assoc] using hcx 1 _ rfl
        have e2 : wr.cell? ⟨b, off + k * 3 + 2, none⟩ = some (.string x.s) := by simpa [← Nat.add_assoc] using hcx 2 _ rfl
        clear hcx hxk
        rw [hA]
        have HA := hide hA
        clear hA
        have q1 : (0 : Int) ≤ (k : Int) := by omega
        have q2 : (k : Int) < (n : Int) := by omega
        have kP := Blk.new wr 102 #[.int .i64 x.k, .int .i64 x.n, .string x.s]
        have hownA := hown.alloc (.cells #[.int .i64 x.k, .int .i64 x.n, .string x.s] 102)
        have hBA := hBr.alloc hBr.size (.cells #[.int .i64 x.k, .int .i64 x.n, .string x.s] 102)
        go_upto_region 7 with fail
        obtain ⟨W3, hW3⟩ : ∃ W3, wr.alloc (.cells #[.int .i64 x.k, .int .i64 x.n, .string x.s] 102) = W3 := ⟨_, rfl⟩
        obtain ⟨bP, hbP⟩ : ∃ bP, wr.heap.size = bP := ⟨_, rfl⟩
        rw [hW3] at kP hownA hBA ⊢
        rw [hbP] at kP ⊢
        clear hW3 hbP hown hBr e0 e1 e2
        have p0 := kP.cell 0
        have p1 := kP.cell 1
        have p2 := kP.cell 2
        simp at p0 p1 p2
        obtain ⟨PL, hPL⟩ : ∃ PL, (r.take k).map (fun x => Value.string (valS x)) = PL := ⟨_, rfl⟩
        have HPL := hide hPL
        rw [hPL] at hownA
        clear hPL
        have hB3 := bstep hB1 hBA
        have ht3 : Tab W3 := ht.below hB3
        by_cases h1 : x.k = 1
        · have z1 : (x.k == 1) = true := by simp [h1]
          have hT : valS x = ⟨(Lib.itoa x.n).toArray⟩ := by unfold valS valT; rw [if_pos h1]
          rcases okV_cases hok with ⟨h, _⟩ | ⟨_, _, hn1, hn2⟩ | ⟨h, _⟩
          · omega
          · have HC := hide (itoa_any x.n (by omega) (by omega) W3 ht3)
            rw [← hT] at HC
            clear hT h1
            go_wp2_with fail
            refine HC.out.mono ?_
            rintro e W4 ⟨rfl, hB4⟩
            have vA := own_below hownA hB4
            have bA := bstep hBA hB4
            clear hownA hBA hB4 HC p0 p1 p2 kP
            have vA2 := vA.alloc (.cells #[.string (valS x)] 9)
            have bA2 := bA.alloc bA.size (.cells #[.string (valS x)] 9)
            have xs : W1.heap.size ≤ (W4.alloc (.cells #[.string (valS x)] 9)).heap.size := bA2.size
            go_wp2_with (at_builtin; refine wpList_append_any _ rfl _ _ 197 rfl W1.heap.size 9 i0 _ 1 16 Tryz.underlying197 hi hz0 hz1 hz2 rfl (by decide) _ k PL rfl vA2 (W4.heap.size + 1) (some ⟨W4.heap.size, 0, none⟩) 1 1 [.string (valS x)] rfl (rd_one W4 _ _) (by simp [Value.oneCell']) (by unfold maxLen; omega) (by omega) xs ?_; intro v3 w3 hown3 hgrow hat)
            have hBe : Below W1.heap.size W1 w3 := below_append bA2 vA2 xs hgrow
            have HO := hide (show w3.ownsRow W1.heap.size 9 1 v3 (k + 1) ((r.take (k + 1)).map fun x => Value.string (valS x)) by rw [HS.out, HPL.out]; exact hown3)
            clear hown3 hgrow hat bA vA bA2 vA2
            go_wp2_with fail
            go_roundw
            case rel => exact ⟨k + 1, by omega, by go_num, HO.out, hBe⟩
            case measure => simp [intOf]; omega
          · omega
        · have z1 : (x.k == 1) = false := by simp [h1]
          by_cases h2 : x.k = 2
          · have z2 : (x.k == 2) = true := by simp [h2]
            have hT : valS x = ⟨(quoB x.s.data.toList).toArray⟩ := by unfold valS valT; rw [if_neg h1, if_pos h2]
            rcases okV_cases hok with ⟨h, _⟩ | ⟨h, _⟩ | ⟨_, _, hsz⟩
            · omega
            · omega
            · have HC := hide (quoted_any x.s W3 (by omega))
              rw [← hT] at HC
              clear hT h1 h2
              go_wp2_with fail
              refine HC.out.mono ?_
              rintro e W4 ⟨rfl, hB4⟩
              have vA := own_below hownA hB4
              have bA := bstep hBA hB4
              clear hownA hBA hB4 HC p0 p1 p2 kP
              have vA2 := vA.alloc (.cells #[.string (valS x)] 9)
              have bA2 := bA.alloc bA.size (.cells #[.string (valS x)] 9)
              have xs : W1.heap.size ≤ (W4.alloc (.cells #[.string (valS x)] 9)).heap.size := bA2.size
              go_wp2_with (at_builtin; refine wpList_append_any _ rfl _ _ 197 rfl W1.heap.size 9 i0 _ 1 16 Tryz.underlying197 hi hz0 hz1 hz2 rfl (by decide) _ k PL rfl vA2 (W4.heap.size + 1) (some ⟨W4.heap.size, 0, none⟩) 1 1 [.string (valS x)] rfl (rd_one W4 _ _) (by simp [Value.oneCell']) (by unfold maxLen; omega) (by omega) xs ?_; intro v3 w3 hown3 hgrow hat)
              have hBe : Below W1.heap.size W1 w3 := below_append bA2 vA2 xs hgrow
              have HO := hide (show w3.ownsRow W1.heap.size 9 1 v3 (k + 1) ((r.take (k + 1)).map fun x => Value.string (valS x)) by rw [HS.out, HPL.out]; exact hown3)
              clear hown3 hgrow hat bA vA bA2 vA2
              go_wp2_with fail
              go_roundw
              case rel => exact ⟨k + 1, by omega, by go_num, HO.out, hBe⟩
              case measure => simp [intOf]; omega
          · have z2 : (x.k == 2) = false := by simp [h2]
            have hT : valS x = ⟨#[126]⟩ := by unfold valS valT; rw [if_neg h1, if_neg h2]
            rw [hT] at HS
            clear hT h1 h2
            have vA2 := hownA.alloc (.cells #[.string ⟨#[126]⟩] 9)
            have bA2 := hBA.alloc hBA.size (.cells #[.string ⟨#[126]⟩] 9)
            have xs : W1.heap.size ≤ (W3.alloc (.cells #[.string ⟨#[126]⟩] 9)).heap.size := bA2.size
            go_wp2_with (at_builtin; refine wpList_append_any _ rfl _ _ 197 rfl W1.heap.size 9 i0 _ 1 16 Tryz.underlying197 hi hz0 hz1 hz2 rfl (by decide) _ k PL rfl vA2 (W3.heap.size + 1) (some ⟨W3.heap.size, 0, none⟩) 1 1 [.string ⟨#[126]⟩] rfl (rd_one W3 _ _) (by simp [Value.oneCell']) (by unfold maxLen; omega) (by omega) xs ?_; intro v3 w3 hown3 hgrow hat)
            have hBe : Below W1.heap.size W1 w3 := below_append bA2 vA2 xs hgrow
            have HO := hide (show w3.ownsRow W1.heap.size 9 1 v3 (k + 1) ((r.take (k + 1)).map fun x => Value.string (valS x)) by rw [HS.out, HPL.out]; exact hown3)
            clear hown3 hgrow hat bA2 vA2 hownA hBA p0 p1 p2 kP
            go_wp2_with fail
            go_roundw
            case rel => exact ⟨k + 1, by omega, by go_num, HO.out, hBe⟩
            case measure => simp [intOf]; omega
      · obtain rfl : n = k := by omega
        rw [take_all HL.out] at hown
        obtain ⟨A', c', rfl, hR⟩ := own_form hown
        have hcap := own_capT hown
        have hlist : (r.map valS).map (·.data.toList) = r.map valT := by rw [List.map_map]; rfl
        have hj : (Lib.join ((r.map valS).map (·.data.toList)) (ByteArray.mk #[44]).data.toList) = Lib.join (r.map valT) [44] := by rw [hlist]
        have HC := hide (join_any A' n c' (r.map valS) ⟨#[44]⟩ wr (by rw [List.map_map]; exact hR) (by omega) hcap (by
          rw [hj]
          have := HP.out
          rw [List.take_length] at this
          omega))
        rw [hj, ← HR.out] at HC
        clear hown hR hj hlist
        go_wp2_with fail
        refine HC.out.mono ?_
        rintro e W4 ⟨rfl, hB4⟩
        have HB := hide (bstep hB hB4)
        clear hB hB4 HC
        go_wp2_with fail
        go_ret
        exact ⟨rfl, HB.out⟩
end

section
open Go.RowKit Go.Maps
attribute [local go_sem] Oper.semAt_some wide_fn wide_depth
set_option linter.unusedVariables false
set_option linter.unusedSimpArgs false

/-- What the map of places holds. -/
def gF (d : Bg) : Lit → Option Value
  | .string t => (gidx d t).map fun i => .int .i64 ((i : Nat) : Int)
  | _ => none
theorem gF_nil : gF [] = fun _ => none := by
  funext kl
  cases kl <;> rfl
theorem gF_keys {d d' : Bg} (h : d.map (·.1) = d'.map (·.1)) : gF d = gF d' := by
  funext kl
  cases kl <;> simp only [gF]
  rw [gidx_keys h]
theorem gF_put {d : Bg} {r : Rw} {n : Int} (h : gidx d (rowT r) = none) : gF (d ++ [(r, n)]) = putF (gF d) (.string (rowT r)) (.int .i64 ((d.length : Nat) : Int)) := by
  funext kl
  unfold putF
  cases kl with
  | string t =>
    simp only [gF]
    rw [gidx_snoc h]
    by_cases e : t = rowT r
    · subst e
      rw [if_pos rfl, if_pos rfl]; rfl
    · rw [if_neg e, if_neg (fun e2 => by injection e2 with e2; exact e e2)]
  | _ => rw [if_neg (by intro e; cases e)]; rfl
/-- How an element of the iterator is handed over. -/
def ArgR (B : Nat) (x : Rw × Int) (ag : Array Value) (W : World) : Prop := ∃ A n c, ag = #[.slice A n c, .int .i64 x.2] ∧ RowK W B A n x.1
theorem MapF.obj {P : Program} {W : World} {k : TypeId} {b n : Nat} {F : Lit → Option Value} (h : MapF W P k b n F) : ∃ o : Obj, W.heap[b]? = some o ∧ o.isCells = false := by
  obtain ⟨D, ⟨es, clock, h1, h2⟩, h3⟩ := h
  exact ⟨_, h1, rfl⟩
/-- What an iterator may do between two rounds: lay blocks, write blocks of the list X (none of them holds values), and turn its own loops' records (blocks from S on that hold no cells). -/
structure WrB (B S : Nat) (Xs : List Nat) (X Y : World) : Prop where
  os : Y.os = X.os
  tape : Y.tape = X.tape
  output : Y.output = X.output
  size : X.heap.size ≤ Y.heap.size
  blk : ∀ k o, X.heap[k]? = some o → k ∉ Xs → (k < S ∨ o.isCells = true) → Y.heap[k]? = some o
  low : ∀ k ∈ Xs, B ≤ k ∧ ∀ c fz, X.heap[k]? ≠ some (.cells c 102 fz)
theorem WrB.mono {B S S' : Nat} {Xs : List Nat} {X Y : World} (h : WrB B S' Xs X Y) (hS : S ≤ S') : WrB B S Xs X Y := ⟨h.os, h.tape, h.output, h.size, fun k o hk hx ho => h.blk k o hk hx (ho.imp (fun h => by omega) id), h.low⟩
theorem WrB.grown {B S C : Nat} {X Y : World} {row : Option Nat} (hg : X.grownBy Y row) (hS : S ≤ C) (hr : ∀ r, row = some r → C ≤ r ∧ ∃ o : Obj, X.heap[r]? = some o ∧ o.isCells = false) : WrB B S [] X Y := by
  refine ⟨hg.os, hg.tape, hg.output, hg.size, fun k o hk _ ho => ?_, fun k hk => nomatch hk⟩
  rw [hg.block k (Array.getElem?_eq_some_iff.1 hk).1 ?_]
  · exact hk
  · intro e
    obtain ⟨h1, o', h2, h3⟩ := hr k e.symm
    rw [hk] at h2
    injection h2 with h2
    subst h2
    rcases ho with h4 | h4
    · omega
    · rw [h3] at h4; cases h4
theorem WrB.below {B S : Nat} {X Y : World} (h : Below X.heap.size X Y) : WrB B S [] X Y :=
  ⟨h.os, h.tape, h.output, h.size, fun k o hk _ _ => (h.block k (Array.getElem?_eq_some_iff.1 hk).1).trans hk, fun k hk => nomatch hk⟩
theorem WrB.bar {B S N : Nat} {Xs : List Nat} {X Y : World} (h : WrB B S Xs X Y) (hN : N ≤ S) (hX : N ≤ X.heap.size) : Bar N Xs X Y :=
  ⟨h.os, h.tape, h.output, h.size, fun k hk hx => by
    have hl : k < X.heap.size := by omega
    rw [h.blk k _ (Array.getElem?_eq_getElem hl) hx (.inl (by omega)), Array.getElem?_eq_getElem hl]⟩
theorem RowK.wrB {B S : Nat} {Xs : List Nat} {X Y : World} {A : Option Addr} {n : Nat} {r : Rw} (h : RowK X B A n r) (k : WrB B S Xs X Y) (hS : B ≤ S) : RowK Y B A n r :=
  h.keep (p := fun i => i ∈ Xs ∨ (S ≤ i ∧ ∃ o : Obj, X.heap[i]? = some o ∧ o.isCells = false)) (fun i hi hp => by
    have hx : i ∉ Xs := fun h => hp (.inl h)
    have h1 := Array.getElem?_eq_getElem hi
    rw [h1]
    refine k.blk i _ h1 hx ?_
    by_cases hS2 : i < S
    · exact .inl hS2
    · cases hc : (X.heap[i]).isCells
      · exact absurd (.inr ⟨by omega, _, h1, hc⟩) hp
      · exact .inr rfl) k.size fun i hi => by
    rcases hi with hi | ⟨h1, o, h2, h3⟩
    · exact k.low i hi
    · refine ⟨by omega, fun c fz h4 => ?_⟩
      rw [h2] at h4
      injection h4 with h4
      subst h4
      cases h3
/-- What a round of gathered's loop keeps: all blocks below N, and of the blocks from S on all but those that hold items. -/
structure KeepT (N S : Nat) (X Y : World) : Prop where
  bar : Bar N [] X Y
  keep : ∀ k o, S ≤ k → X.heap[k]? = some o → (∀ c fz, o ≠ .cells c 119 fz) → Y.heap[k]? = some o
theorem KeepT.refl (N S : Nat) (X : World) : KeepT N S X X := ⟨Bar.refl _ _ _, fun _ _ _ h _ => h⟩
theorem KeepT.trans {N S : Nat} {X Y Z : World} (h : KeepT N S X Y) (k : KeepT N S Y Z) : KeepT N S X Z := ⟨h.bar.trans k.bar, fun i o hi ho hc => k.keep i o hi (h.keep i o hi ho hc) hc⟩
theorem KeepT.of_below {N S : Nat} {X Y : World} (h : Below X.heap.size X Y) (hN : N ≤ X.heap.size) : KeepT N S X Y :=
  ⟨Bar.of_below (h.mono hN) [], fun i o _ ho _ => (h.block i (Array.getElem?_eq_some_iff.1 ho).1).trans ho⟩
theorem KeepT.drew {N S : Nat} {X Y : World} (h : KeepT N S X Y) : KeepT N S X Y.drew := ⟨h.bar.drew, h.keep⟩
theorem KeepT.grown {N S : Nat} {X Y Z : World} (h : KeepT N S X Y) {row : Option Nat} (hg : Y.grownBy Z row) (hN : N ≤ Y.heap.size)
    (hr : ∀ k, row = some k → N ≤ k ∧ (k < S ∨ ∃ c fz, Y.heap[k]? = some (.cells c 119 fz))) : KeepT N S X Z :=
  ⟨h.bar.grown hg hN fun k e => .inl (hr k e).1, fun i o hi ho hc => by
    have h1 := h.keep i o hi ho hc
    refine (hg.block i (Array.getElem?_eq_some_iff.1 h1).1 ?_).trans h1
    intro e
    rcases (hr i e.symm).2 with h2 | ⟨c, fz, h2⟩
    · omega
    · rw [h1] at h2
      injection h2 with h2
      exact hc c fz h2⟩
theorem KeepT.setCell {N S : Nat} {X Y : World} (h : KeepT N S X Y) {p : Addr} (hp : N ≤ p.block) (hc : p.block < S ∨ ∃ c fz, Y.heap[p.block]? = some (.cells c 119 fz)) (u : Value) : KeepT N S X (Y.setCell p u) :=
  ⟨h.bar.setCell (.inl hp) u, fun i o hi ho hc' => by
    have h1 := h.keep i o hi ho hc'
    refine (Below.heap_setCell Y p u i ?_).trans h1
    rintro rfl
    rcases hc with h2 | ⟨c, fz, h2⟩
    · omega
    · rw [h1] at h2
      injection h2 with h2
      exact hc' c fz h2⟩
theorem KeepT.put {N S : Nat} (W : World) (l : Nat) (o' : Obj) (h1 : N ≤ l) (h2 : l < S) (hN : N ≤ W.heap.size) : KeepT N S W (W.putObj l o') :=
  (KeepT.refl N S W).grown (grownBy_putObj' W l o') hN fun k e => by cases e; exact ⟨h1, .inl h2⟩
/-- Every row of a list has room for its values. -/
def Caps (l : List It) : Prop := ∀ i ∈ l, i.n ≤ i.c
/-- What lies in memory between two rounds. -/
structure GatI (B mb nn : Nat) (d : Bg) (W : World) : Prop where
  ow : ∃ (v : Value) (l : List It), Boxed W (mb + 1 + 1) 40 v ∧ W.ownsRow (mb + 3) 119 2 v l.length (l.flatMap encIt) ∧ dat l = d ∧ Rows_ W B l ∧ Caps l
  at_ : Boxed W (mb + 1) 260 (.map (some mb))
  mp : MapF W Tryz.prog 9 mb nn (gF d)
theorem GatI.lt {B mb nn : Nat} {d : Bg} {W : World} (h : GatI B mb nn d W) : mb + 1 + 1 < W.heap.size := by obtain ⟨v, l, hv, _⟩ := h.ow; exact hv.lt
theorem GatI.below {B mb nn : Nat} {d : Bg} {W W' : World} (h : GatI B mb nn d W) (hb : Below W.heap.size W W') : GatI B mb nn d W' := by
  obtain ⟨⟨v, l, h1, h2, h3, h4, hcp⟩, h5, h6⟩ := h
  exact ⟨⟨v, l, (hb.block _ h1.lt).trans h1, own_below h2 hb, h3, h4.below hb, hcp⟩, (hb.block _ h5.lt).trans h5, h6.below hb h6.lt⟩
theorem GatI.mono {B mb nn nn' : Nat} {d : Bg} {W : World} (h : GatI B mb nn d W) (hn : nn ≤ nn') : GatI B mb nn' d W := ⟨h.ow, h.at_, h.mp.mono hn⟩
theorem gatI_from {B mb : Nat} {C : Nat} (hB : B ≤ C) (hC : mb + 3 ≤ C) (f : Bg → Bg) (g : Bg → Nat) : OwnFrom C (fun (pre : Bg) W => GatI B mb (g pre) (f pre) W) := by
  intro pre X Y row h hg hr
  obtain ⟨⟨v, l, h1, h2, h3, h4, hcp⟩, h5, h6⟩ := h
  have hr2 : ∀ k, row = some k → ∃ o : Obj, X.heap[k]? = some o ∧ o.isCells = false := fun k e => (hr k e).2
  refine ⟨⟨v, l, blk_own h1 hg hr2, h2.kept hg ?_, h3, fun i hi => (h4 i hi).others hg fun k e => ⟨Nat.le_trans hB (hr k e).1, (hr k e).2⟩, hcp⟩, blk_own h5 hg hr2, h6.kept hg fun e => by have := (hr _ e.symm).1; omega⟩
  cases hv : v.ownBlock with
  | none => exact .inl rfl
  | some b =>
    refine .inr fun e => ?_
    obtain ⟨c, fz, hc⟩ := own_cells h2 hv
    obtain ⟨o, ho, hcc⟩ := hr2 b e.symm
    rw [hc] at ho
    cases ho; cases hcc
theorem GatI.wr {B S mb nn : Nat} {Xs : List Nat} {d : Bg} {X Y : World} (h : GatI B mb nn d X) (k : WrB B S Xs X Y) (hX : ∀ i ∈ Xs, i < mb) (hS : mb < S) (hB : B ≤ S) : GatI B mb nn d Y := by
  obtain ⟨⟨v, l, h1, h2, h3, h4, hcp⟩, h5, h6⟩ := h
  have hno : ∀ i, mb ≤ i → i ∉ Xs := fun i hi hx => by have := hX i hx; omega
  refine ⟨⟨v, l, k.blk _ _ h1 (hno _ (by omega)) (.inr rfl), ⟨h2.1, ?_⟩, h3, fun i hi => (h4 i hi).wrB k hB, hcp⟩, k.blk _ _ h5 (hno _ (by omega)) (.inr rfl), h6.block ?_⟩
  · rcases h2.2 with e | ⟨g, cap, cur, e1, e2, e3, e4⟩
    · exact .inl e
    · exact .inr ⟨g, cap, cur, e1, e2, k.blk g _ e3 (hno _ (by omega)) (.inr rfl), e4⟩
  · obtain ⟨o, ho, _⟩ := h6.obj
    rw [ho]
    exact k.blk mb o ho (hno _ (Nat.le_refl _)) (.inl hS)
/-- What gathered hands back. -/
def RetGat (w : World) (B : Nat) (Xs : List Nat) (xs : Bg) (e : Ending) (w' : World) : Prop := ∃ A n c l, e = .returned (.slice A n c) ∧ Net xs (dat l) ∧ BagR w' B A n l ∧ n ≤ c ∧ (l.length ≤ xs.length ∧ Caps l) ∧ Bar w.heap.size Xs w w'
/-- .. and what holds of memory when all elements came. -/
def RetGatF (w : World) (B : Nat) (Xs : List Nat) (xs : Bg) (Fin : World → Prop) (e : Ending) (w' : World) : Prop := RetGat w B Xs xs e w' ∧ Fin w'
theorem Bar.more {N : Nat} {a w : World} (h : Bar N [] a w) (X : List Nat) : Bar N X a w := ⟨h.os, h.tape, h.output, h.size, fun k hk _ => h.block k hk (by simp)⟩
theorem sum_abs {xs : Bg} (h : ∀ x ∈ xs, -1000000 ≤ x.2 ∧ x.2 ≤ 1000000) (r : Rw) : -(1000000 * (xs.length : Int)) ≤ sumG xs r ∧ sumG xs r ≤ 1000000 * (xs.length : Int) := by
  induction xs with
  | nil => simp [sumG]
  | cons x xs ih =>
    have h1 := h x List.mem_cons_self
    have h2 := ih fun y hy => h y (List.mem_cons_of_mem _ hy)
    simp only [sumG, List.length_cons]
    split <;> omega
theorem gat_len (xs : Bg) : (gat xs).length ≤ xs.length := by
  have gen : ∀ (ys : Bg) (d : Bg), (ys.foldl gstepB d).length ≤ d.length + ys.length := by
    intro ys
    induction ys with
    | nil => intro d; simp
    | cons y ys ih =>
      intro d
      have h1 : (gstepB d y).length ≤ d.length + 1 := by
        unfold gstepB
        split <;> simp
      have := ih (gstepB d y)
      simp only [List.foldl_cons, List.length_cons]
      omega
  have := gen xs []
  simpa [gat] using this
theorem flat_set1 {l : List It} {i : Nat} {x : It} (k : Int) (h : l[i]? = some x) : (l.set i ⟨x.A, x.n, x.c, x.r, k⟩).flatMap encIt = (l.flatMap encIt).set (i * 2 + 1) (.int .i64 k) := by
  rw [flat_set _ (List.getElem?_eq_some_iff.1 h).1]
  congr 1
  apply List.ext_getElem?
  intro j
  rw [List.getElem?_set]
  split
  · rename_i e
    subst e
    have := flat_get (enc := encIt) (k := 2) encIt_len l i 0 x h (by omega)
    rw [Nat.add_zero] at this
    rw [this]
    have hl : i * 2 < (l.flatMap encIt).length := by rw [flat_length encIt_len]; have := (List.getElem?_eq_some_iff.1 h).1; omega
    rw [if_pos hl]; rfl
  · rfl
theorem dat_set {l : List It} {i : Nat} {x : It} (k : Int) : dat (l.set i ⟨x.A, x.n, x.c, x.r, k⟩) = (dat l).set i (x.r, k) := by
  unfold dat
  rw [List.map_set]
theorem GatI.bump {B mb nn : Nat} {d : Bg} {W : World} (h : GatI B mb nn d W) (hB : B ≤ mb + 3) {i : Nat} {y : Rw × Int} (hy : d[i]? = some y) :
    ∃ gr cap, W.cell? ⟨mb + 1 + 1, 0, none⟩ = some (.slice (some ⟨gr, 0, none⟩) d.length cap) ∧ W.cell? ⟨gr, i * 2 + 1, none⟩ = some (.int .i64 y.2) ∧ W.frozen? ⟨gr, i * 2 + 1, none⟩ = false ∧ mb + 3 ≤ gr ∧ (∃ c fz, W.heap[gr]? = some (.cells c 119 fz)) ∧
      ∀ k : Int, GatI B mb nn (d.set i (y.1, k)) (W.setCell ⟨gr, i * 2 + 1, none⟩ (.int .i64 k)) := by
  obtain ⟨⟨v, l, h1, h2, h3, h4, hcp⟩, h5, h6⟩ := h
  have hll : l.length = d.length := by rw [← dat_len, h3]
  have hil : i < l.length := by rw [hll]; exact (List.getElem?_eq_some_iff.1 hy).1
  obtain ⟨it, hit⟩ : ∃ it, l[i]? = some it := ⟨_, List.getElem?_eq_getElem hil⟩
  have hity : (it.r, it.m) = y := by
    have h7 := dat_at hit
    rw [h3, hy] at h7
    exact (Option.some.inj h7).symm
  obtain ⟨gr, cap, rfl, hg1, hg2⟩ := h2.form (by omega)
  obtain ⟨b', off, x', hA, _, hx', hcx⟩ := (Reads.of_own h2).elem encIt_len rfl hil
  rw [hit] at hx'
  injection hx' with hx'
  subst hx'
  injection hA with hA
  injection hA with hA1 hA2
  subst hA1 hA2
  have em : W.cell? ⟨gr, i * 2 + 1, none⟩ = some (.int .i64 it.m) := by simpa using hcx 1 _ rfl
  obtain ⟨cur, hcur⟩ := own_blk h2
  refine ⟨gr, cap, by rw [← hll]; exact h1.cell, by rw [← hity]; exact em, hcur.frozen _, hg1, own_cells h2 rfl, fun k => ?_⟩
  refine ⟨⟨_, l.set i ⟨it.A, it.n, it.c, it.r, k⟩, Boxed.setOther h1 (p := ⟨gr, i * 2 + 1, none⟩) (by show mb + 1 + 1 ≠ gr; omega) _, ?_, ?_, ?_, ?_⟩, Boxed.setOther h5 (p := ⟨gr, i * 2 + 1, none⟩) (by show mb + 1 ≠ gr; omega) _, ?_⟩
  · rw [List.length_set, flat_set1 k hit]
    exact own_store2 h2 _
  · rw [dat_set, h3, ← hity]
  · intro j hj
    have hrows : ∀ j ∈ l, RowK (W.setCell ⟨gr, i * 2 + 1, none⟩ (.int .i64 k)) B j.A j.n j.r := fun j hj => (h4 j hj).setCell (p := ⟨gr, i * 2 + 1, none⟩) hcur (by decide) (by show B ≤ gr; omega) _
    rcases List.mem_or_eq_of_mem_set hj with h8 | h8
    · exact hrows j h8
    · subst h8
      exact hrows it (List.mem_of_getElem? hit)
  · intro j hj
    rcases List.mem_or_eq_of_mem_set hj with h8 | h8
    · exact hcp j h8
    · subst h8
      exact hcp it (List.mem_of_getElem? hit)
  · rw [gF_keys (set_keys (show d[i]? = some (y.1, y.2) from hy))]
    exact h6.setCell (a := ⟨gr, i * 2 + 1, none⟩) (by show mb ≠ gr; have := h6.lt; omega) _
theorem key_of (w : World) (r : Rw) : keyOf Tryz.prog 9 (.string ⟨(rowT r).toArray⟩) = some (.string (rowT r)) :=
  Go.WideMaps.keyOf_string_mk (s := ⟨(rowT r).toArray⟩) Tryz.underlying9 (by
    show (rowT r).toArray.size ≤ maxLen
    have := rowT_len r
    unfold maxLen
    simp
    omega)
theorem look_map {W : World} {B mb nn : Nat} {d : Bg} (h : GatI B mb nn d W) (r : Rw) : (Instr.lookup 260 (.map (some mb)) (.string ⟨(rowT r).toArray⟩) true).run Tryz.prog W = .ok (.tuple #[match gidx d (rowT r) with | some i => .int .i64 ((i : Nat) : Int) | none => .int .i64 0, .bool (gidx d (rowT r)).isSome]) W := by
  have h1 := h.mp.look_ok (t := 260) (e := 3) (string_keyed Tryz.underlying9) Tryz.underlying260 (z := .int .i64 0) (by kernel_rfl) (key_of W r)
  rw [h1]
  simp only [gF]
  cases gidx d (rowT r) <;> rfl
set_option maxRecDepth 100000 in
set_option maxHeartbeats 8000000 in
theorem gathered_inF (gf : Nat) (lb : Array Value) (xs : Bg) (B : Nat) (Xs : List Nat) (w : World) (ht : ∀ W, Bar w.heap.size Xs w W → Tab W) (eg : ∀ args w, (callFunc gf args).run Tryz.prog w = .ok (.enter gf args) w)
    (Fin : World → Prop) (hFo : OwnFrom w.heap.size (fun (_ : Unit) W => Fin W)) (hFb : ∀ X Y, Bar w.heap.size [] X Y → Fin X → Fin Y)
    (hit : ∀ W, Below w.heap.size w W → W.heap.size = w.heap.size + 5 → IterGF Fence.wide 7 Tryz.prog gf lb (ArgR B) xs (WrB B (w.heap.size + 5) Xs) (KeepT w.heap.size (w.heap.size + 5)) Fin W)
    (hok : ∀ x ∈ xs, okR x.1 = true ∧ -1000000 ≤ x.2 ∧ x.2 ≤ 1000000) (hlen : xs.length ≤ 1000) (hB : B ≤ w.heap.size) (hXs : ∀ k ∈ Xs, k < w.heap.size) :
    CallsIn Fence.wide 8 Tryz.prog 205 #[.func (Fn.func gf) #[] lb] w (RetGatF w B Xs xs Fin) := by
  obtain ⟨i0, hi, hz0, hz1, hz2⟩ := info_parts3 infoItem
  refine callsIn_of_wp_marks Tryz.func205 rfl trivial ?_ rfl
  simp only [Tryz.ntmps205, List.size_toArray, List.length_cons, List.length_nil, Nat.reduceAdd, Nat.reduceSub, Array.replicate_succ, Array.replicate_zero, List.push_toArray, List.append_toArray, List.nil_append, List.cons_append]
  have hmm := @run_makeMap Tryz.prog
  gi_wp2_with fail
  have hsz : (((w.alloc (.map #[] 0)).alloc (.cells #[.map (some w.heap.size)] 260)).alloc (.cells #[.slice none 0 0] 40)).heap.size = w.heap.size + 3 := by simp
  have g0 : GatI B w.heap.size 0 [] (((w.alloc (.map #[] 0)).alloc (.cells #[.map (some w.heap.size)] 260)).alloc (.cells #[.slice none 0 0] 40)) := by
    have b1 := (Boxed.new (w.alloc (.map #[] 0)) 260 (.map (some w.heap.size))).alloc (.cells #[.slice none 0 0] 40)
    have b2 := Boxed.new ((w.alloc (.map #[] 0)).alloc (.cells #[.map (some w.heap.size)] 260)) 40 (.slice none 0 0)
    simp only [World.size_alloc] at b1 b2
    refine ⟨⟨_, [], b2, World.ownsRow_nil _ _ _ _, rfl, (by intro i hi; cases hi), (by intro i hi; cases hi)⟩, b1, ?_⟩
    rw [gF_nil]
    exact ((MapF.made w Tryz.prog 9).alloc _).alloc _
  have hB0 : Below w.heap.size w (((w.alloc (.map #[] 0)).alloc (.cells #[.map (some w.heap.size)] 260)).alloc (.cells #[.slice none 0 0] 40)) := (((Below.refl _ _).alloc (Nat.le_refl _) _).alloc (by simp) _).alloc (by simp; omega) _
  obtain ⟨W0, hW0⟩ : ∃ W0, ((w.alloc (.map #[] 0)).alloc (.cells #[.map (some w.heap.size)] 260)).alloc (.cells #[.slice none 0 0] 40) = W0 := ⟨_, rfl⟩
  rw [hW0] at hsz g0 hB0 ⊢
  clear hW0
  have HFB := hide hFb
  clear hFb
  have HOK := hide hok
  have HTB := hide ht
  clear hok ht
  refine wpIn_iterGF (n := 8) rfl (by omega) (gf := gf) (lb := lb) rfl trivial eg (Arg := ArgR B) (xs := xs) (Wr := WrB B (w.heap.size + 5) Xs) (Kp := KeepT w.heap.size (w.heap.size + 5)) (Fin := Fin)
    (fun s X Y row h hg hr => hFo s X Y row h hg fun k e => ⟨by have := (hr k e).1; omega, (hr k e).2⟩)
    (fun W hW hs => hit W (hB0.trans (hW.mono (by omega))) (by omega))
    (fun x ag W h => by obtain ⟨A, n, c, rfl, _⟩ := h; rfl) (fun X Y h k o hl hk ho hc => h.blk k o ho (fun hx => by have := hXs k hx; omega) (.inl (by omega))) (fun h k => h.trans k) (fun W l o o' h1 h2 h3 _ _ => KeepT.put W l o' (by omega) (by omega) (by have := (Array.getElem?_eq_some_iff.1 h3).1; omega))
    (fun pre W => GatI B w.heap.size pre.length (gat pre) W ∧ Bar w.heap.size Xs w W)
    (fun _ _ _ => False)
    (OwnFrom.and (gatI_from (by omega) (by omega) gat List.length) (ownFrom_bar (Nat.le_refl _) (by omega)))
    (fun _ _ _ _ _ hs _ _ => hs)
    (fun s X Y h k => ⟨h.1.wr k hXs (by omega) (by omega), h.2.trans (k.bar (by omega) h.2.size)⟩)
    (fun _ _ _ _ hs _ => hs)
    ⟨g0, Bar.of_below hB0 _⟩
    (fun pre x a' W => ∃ A n c, a' = { tmps := #[.func (Fn.func gf) #[] lb, undef, .slice none 0 0, .pointer (some ⟨w.heap.size + 1, 0, none⟩), .pointer (some ⟨w.heap.size + 1 + 1, 0, none⟩), .slice A n c, .int .i64 x.2, undef, undef, undef, .map (some w.heap.size), .func (Fn.func gf) #[] lb, .slice A n c, .int .i64 x.2, undef, undef, undef, undef, undef, undef, undef, undef, undef, undef, undef, undef, undef, undef, undef, undef, undef, undef, undef, undef, undef, undef, undef, undef, undef, undef, undef, undef, undef, undef, undef, undef, undef, undef, undef], defers := [] } ∧ RowK W B A n x.1)
    (fun pre x a' _ X Y row hs hg hr => by
      obtain ⟨A, n, c, h1, h2⟩ := hs
      exact ⟨A, n, c, h1, h2.others hg fun k e => ⟨by have := (hr k e).1; omega, (hr k e).2⟩⟩)
    ?assign ?body ?done ?stop
  case assign =>
    rintro l pre x ag W K hpx ⟨hI, hBW⟩ ⟨A, n, c, rfl, hrow⟩ hK
    gi_wp2
    exact hK _ _ (KeepsFrom.refl _ _) (KeepT.refl _ _ _) ⟨hI, hBW⟩ ⟨A, n, c, rfl, hrow⟩
  case body =>
    rintro l0 pre x a' W hpx ⟨hI, hBW⟩ ⟨A, n, c, rfl, hrow⟩
    have hxin : x ∈ xs := hpx.subset (by simp)
    obtain ⟨hxok, hm1, hm2⟩ := HOK.out x hxin
    have hplen : pre.length + 1 ≤ xs.length := by have := hpx.length_le; simpa using this
    have hpin : ∀ y ∈ pre, y ∈ xs := fun y hy => hpx.subset (List.mem_append_left _ hy)
    have HG := hide (gat_ok fun y hy => (HOK.out y (hpin y hy)).1)
    have HBD := hide (fun (y : Rw × Int) (hy : y ∈ gat pre) => show -1000000000 ≤ y.2 ∧ y.2 ≤ 1000000000 by
      have h1 := sum_abs (xs := pre) (fun z hz => (HOK.out z (hpin z hz)).2) y.1
      rw [← HG.out.sum, look_in HG.out.apart hy] at h1
      omega)
    have HSN := hide (gat_snoc pre x)
    have hgl : (gat pre).length ≤ 1000 := by have := gat_len pre; omega
    have hWs : w.heap.size + 3 ≤ W.heap.size := by have := hI.lt; omega
    have HTX := hide ((callsIn_wide (n := 5)).2 (Text_any A n c x.1 W hrow.rd hrow.le (HTB.out W hBW)))
    have HXOK := hide hxok
    clear hxok hpin
    gi_wp2_with fail
    refine (HTX.out.inRound l0).mono ?_
    rintro e W1 ⟨rfl, hB1⟩
    have hI1 := hI.below hB1
    have hBW1 := hBW.trans (Bar.of_below (hB1.mono (by omega)) Xs)
    have hrow1 := hrow.below hB1
    have hKO1 : KeepsOthers W W1 := KeepsOthers.mk hB1.size fun k o hk _ => by rw [← hk]; exact hB1.block k (Array.getElem?_eq_some_iff.1 hk).1
    have hKp1 : KeepT w.heap.size (w.heap.size + 5) W W1 := .of_below hB1 (by omega)
    have hWs1 : w.heap.size + 3 ≤ W1.heap.size := Nat.le_trans hWs hB1.size
    have hlk := look_map hI1 x.1
    have hat := hI1.at_.cell
    clear hI hBW hrow hB1 HTX hWs
    cases hg : gidx (gat pre) (rowT x.1) with
    | some i =>
      rw [hg] at hlk
      obtain ⟨y, hy1, hy2⟩ := gidx_some hg
      have hky : y.1 = x.1 := rowT_inj (HG.out.ok y (List.mem_of_getElem? hy1)) HXOK.out hy2
      have hil := gidx_lt hg
      obtain ⟨gr, cap, k1, k2, k3, k4, k5, k6⟩ := hI1.bump (by omega) hy1
      have hb := HBD.out y (List.mem_of_getElem? hy1)
      have HGS := hide (show gat (pre ++ [x]) = (gat pre).set i (y.1, y.2 + x.2) by rw [HSN.out, gstep_some hg hy1, hky])
      have HI2 := hide (k6 (y.2 + x.2))
      have q1 : (0 : Int) ≤ (i : Int) := by omega
      have q2 : (i : Int) < ((gat pre).length : Int) := by omega
      obtain ⟨GL, hGL⟩ : ∃ GL, (gat pre).length = GL := ⟨_, rfl⟩
      rw [hGL] at k1 q2 hgl hil
      obtain ⟨ym, hym⟩ : ∃ ym, y.2 = ym := ⟨_, rfl⟩
      obtain ⟨xm, hxm⟩ : ∃ xm, x.2 = xm := ⟨_, rfl⟩
      rw [hym] at k2 hb HI2 HGS
      rw [hxm] at hm1 hm2 HI2 HGS ⊢
      have HB3 := hide (hBW1.setCell (p := ⟨gr, i * 2 + 1, none⟩) (.inl (by show w.heap.size ≤ gr; omega)) (.int .i64 (ym + xm)))
      have HK3 := hide (hKp1.setCell (p := ⟨gr, i * 2 + 1, none⟩) (by show w.heap.size ≤ gr; omega) (.inr k5) (.int .i64 (ym + xm)))
      have HO3 := hide (hKO1.trans (KeepsOthers.setCell W1 ⟨gr, i * 2 + 1, none⟩ (.int .i64 (ym + xm))))
      clear hg hy1 hy2 hky hGL hym hxm k6 hI1 hrow1 hKO1 hKp1 hBW1
      gi_wp2_with fail
      refine ⟨HO3.out.from _, HK3.out, ?_, HB3.out⟩
      rw [HGS.out, List.length_append]
      exact HI2.out.mono (by simp)
    | none =>
      rw [hg] at hlk
      have HGS := hide (show gat (pre ++ [x]) = gat pre ++ [x] by rw [HSN.out, gstep_none hg])
      have HGF := hide (fun n => gF_put (d := gat pre) (r := x.1) (n := n) hg)
      obtain ⟨⟨v, l, o1, o2, o3, o4, ocp⟩, o5, o6⟩ := hI1
      have HO3D := hide o3
      obtain ⟨GL, hGL⟩ : ∃ GL, l.length = GL := ⟨_, rfl⟩
      have HLL := hide (show GL = (gat pre).length by rw [← dat_len, o3] at *; exact hGL.symm)
      have HLG := hide hGL
      have hG3 : GL ≤ 1000 := by have := HLL.out; omega
      rw [hGL] at o2
      obtain ⟨A', c', hv, _⟩ := own_form o2
      subst hv
      have kv := o1.cell
      have hobj := o6.obj
      have HN8 := hide (show n ≤ 1000 by have h1 := okR_len HXOK.out; have h2 := hrow1.len; omega)
      clear hg o3 hGL
      gi_wp2_with (gi_at_mapUpdate; refine wpListIn_putF _ rfl _ _ _ 260 rfl 9 3 (string_keyed Tryz.underlying9) Tryz.underlying260 o6 (by unfold maxLen; omega) _ _ (.string (rowT x.1)) rfl rfl rfl (key_of W1 x.1) ?_; intro W2 hM2 hg2)
      try simp only [Act.put]
      have hM2' : MapF W2 Tryz.prog 9 w.heap.size (pre.length + 1) (gF (gat pre ++ [(x.1, 0)])) := by
        rw [HGF.out]
        rw [HLL.out] at hM2
        exact hM2
      have b2 : Boxed W2 (w.heap.size + 1 + 1) 40 (.slice A' GL c') := o1.kept hg2 (fun e => by injection e with e; omega)
      have at2 : Boxed W2 (w.heap.size + 1) 260 (.map (some w.heap.size)) := o5.kept hg2 (fun e => by injection e with e; omega)
      have own2 := o2.kept hg2 (by
        cases hv : (Value.slice A' GL c').ownBlock with
        | none => exact .inl rfl
        | some b => exact .inr fun e => by injection e with e; have := (o2.lt b hv).1; omega)
      have rows2 : Rows_ W2 B l := fun i hi => (o4 i hi).others hg2 fun k e => by cases e; exact ⟨hB, hobj⟩
      have row2 := hrow1.others hg2 fun k e => by cases e; exact ⟨hB, hobj⟩
      have bar2 := hBW1.grown hg2 (by omega) (fun k e => by cases e; exact .inl (Nat.le_refl _))
      have kp2 := hKp1.grown hg2 (by omega) (fun k e => by cases e; exact ⟨Nat.le_refl _, .inl (by omega)⟩)
      have kf2 := (hKO1.from W0.heap.size).trans (KeepsFrom.of_grownBy hg2 fun j e => by cases e; omega)
      have hW2 : w.heap.size + 3 ≤ W2.heap.size := Nat.le_trans hWs1 hg2.size
      clear hM2 hg2 o1 o2 o4 o5 o6 hrow1 hBW1 hKp1 hKO1 kv hobj hlk hat hWs1
      gi_wp2_with fail
      refine Held.beginR (fun y => y.cell? ⟨w.heap.size + 1 + 1, 0, none⟩ = some (.slice A' GL c')) 6 (by kernel_rfl) (by kernel_rfl) (by rintro ⟨_, _, h⟩; exact h) ?_
      have j1 : Boxed W2.drew (w.heap.size + 1 + 1) 40 (.slice A' GL c') := b2
      have j2 : W2.drew.ownsRow (w.heap.size + 3) 119 2 (.slice A' GL c') GL (l.flatMap encIt) := own2.drew
      have j3 : Boxed W2.drew (w.heap.size + 1) 260 (.map (some w.heap.size)) := at2
      have j4 : Rows_ W2.drew B l := rows2.below ((Below.refl _ _).drew)
      have j5 : MapF W2.drew Tryz.prog 9 w.heap.size (pre.length + 1) (gF (gat pre ++ [(x.1, 0)])) := hM2'.drew
      have j6 : RowK W2.drew B A n x.1 := row2.drewN 1
      have jB := bar2.drew
      have jK := kp2.drew
      have jF := kf2.trans ((KeepsOthers.drew W2).from W0.heap.size)
      have jW : w.heap.size + 3 ≤ W2.drew.heap.size := hW2
      obtain ⟨X1, hX1⟩ : ∃ X1, W2.drew = X1 := ⟨_, rfl⟩
      rw [hX1] at j1 j2 j3 j4 j5 j6 jB jK jF jW ⊢
      clear hX1 b2 own2 at2 rows2 hM2' row2 bar2 kp2 kf2 hW2
      have hS := j1.cell
      refine Held.take (i := 0) (.slice A' GL c') rfl hS (by kernel_rfl) (by kernel_rfl) (by kernel_rfl) (by kernel_rfl) (fun _ _ _ h => h) rfl (fun y hy => by go_simp) ?_
      try simp only [Act.put]
      refine Held.take (i := 1) (.slice A n c) rfl hS (by kernel_rfl) (by kernel_rfl) (by kernel_rfl) (by kernel_rfl) (fun _ _ _ h => h) rfl (fun y hy => by go_simp) ?_
      try simp only [Act.put]
      refine Held.one (i := 2) rfl (by kernel_rfl) rfl (fun K hK => ?_)
      unfold Oper.wp
      go_simp
      refine (CloneC_any A n c _ B x.1 X1 j6 HN8.out).mono ?_
      rintro e X2 ⟨Ac, cc, rfl, hrow, hncc, hB2⟩
      have l1 : Boxed X2 (w.heap.size + 1 + 1) 40 (.slice A' GL c') := (hB2.block _ j1.lt).trans j1
      have l2 := own_below j2 hB2
      have l3 : Boxed X2 (w.heap.size + 1) 260 (.map (some w.heap.size)) := (hB2.block _ j3.lt).trans j3
      have l4 := j4.below hB2
      have l5 := j5.below hB2 j5.lt
      have lB := jB.trans (Bar.of_below (hB2.mono (by omega)) Xs)
      have lK := jK.trans (KeepT.of_below hB2 (by omega))
      have lF := jF.trans ((KeepsOthers.mk hB2.size fun k o hk _ => by rw [← hk]; exact hB2.block k (Array.getElem?_eq_some_iff.1 hk).1).from W0.heap.size)
      have lW : w.heap.size + 3 ≤ X2.heap.size := Nat.le_trans jW hB2.size
      refine hK _ _ (fun _ => l1.cell) ?_
      try simp only [Act.put]
      clear hK K hS j1 j2 j3 j4 j5 j6 jB jK jF hB2
      have hS := l1.cell
      refine Held.take (i := 3) (.agg #[.slice Ac n cc, .int .i64 0]) rfl hS (by kernel_rfl) (by kernel_rfl) (by kernel_rfl) (by kernel_rfl) (fun _ _ _ h => h) rfl (fun y hy => by go_simp) ?_
      try simp only [Act.put]
      refine Held.one (i := 4) rfl (by kernel_rfl) rfl (fun K hK => ?_)
      have hS4 : (X2.alloc (.cells #[.slice Ac n cc, .int .i64 0] 119)).cell? ⟨w.heap.size + 1 + 1, 0, none⟩ = some (.slice A' GL c') := (World.cell?_alloc_lt X2 _ ⟨w.heap.size + 1 + 1, 0, none⟩ (by show w.heap.size + 1 + 1 < _; omega)).trans hS
      have HS4 := hide hS4
      clear hS4
      unfold Oper.wp
      go_simp
      refine hK _ _ (fun _ => HS4.out) ?_
      try simp only [Act.put]
      clear hK K
      refine Held.one (i := 5) rfl (by kernel_rfl) rfl (fun K hK => ?_)
      have hrd : Reads (X2.alloc (.cells #[.slice Ac n cc, .int .i64 0] 119)) (X2.heap.size + 1) 2 (some ⟨X2.heap.size, 0, none⟩) 1 [.slice Ac n cc, .int .i64 0] :=
        ⟨rfl, fun _ => ⟨X2.heap.size, 0, rfl, by omega, fun j u hu => by
          have := (Blk.new X2 119 #[.slice Ac n cc, .int .i64 0]).cell j
          rw [Nat.zero_add, this]; simpa using hu⟩⟩
      refine wp_append_any _ _ _ 40 rfl (w.heap.size + 3) 119 i0 _ 2 32 Tryz.underlying40 hi hz0 hz1 hz2 rfl (by decide) (.slice A' GL c') GL _ rfl (l2.alloc _) (X2.heap.size + 1) (some ⟨X2.heap.size, 0, none⟩) 1 1 [.slice Ac n cc, .int .i64 0] rfl hrd (by simp [Value.oneCell']) (by unfold maxLen; omega) (by omega) (by simp; omega) ?_
      intro v' X3 hown1 hgrow _
      obtain ⟨gr, capr, hvr⟩ := ownsRow_succ hown1
      subst hvr
      obtain ⟨o1, o2, o3, o4, o5⟩ := Boxed.collected l1 l2 lW (by omega) hown1 hgrow
      have nrow : ∀ i : It, RowK X2 B i.A i.n i.r → RowK (X3.setCell ⟨w.heap.size + 1 + 1, 0, none⟩ (.slice (some ⟨gr, 0, none⟩) (GL + 1) capr)) B i.A i.n i.r := fun i h =>
        ((h.alloc _).grown (l2.alloc _) (by decide) (by omega) hgrow).setCell (p := ⟨w.heap.size + 1 + 1, 0, none⟩) o1 (by decide) (by show B ≤ w.heap.size + 1 + 1; omega) _
      refine hK _ _ (fun _ => o1.cell) ?_
      try simp only [Act.put]
      have fo := o1.frozen
      have ko := o1.cell
      clear hK K hS HS4 hrd
      refine Held.one (i := 6) rfl (by kernel_rfl) rfl (fun K hK => ?_)
      unfold Oper.wp
      go_simp
      refine hK _ _ (fun h => absurd rfl h) ?_
      try simp only [Act.put]
      clear hK K
      refine Held.done (by kernel_rfl) ?_
      have hI3 : GatI B w.heap.size (pre.length + 1) (gat pre ++ [(x.1, 0)]) (X3.setCell ⟨w.heap.size + 1 + 1, 0, none⟩ (.slice (some ⟨gr, 0, none⟩) (GL + 1) capr)) := by
        refine ⟨⟨_, l ++ [⟨Ac, n, cc, x.1, 0⟩], o2, ?_, ?_, ?_, ?_⟩, o5.boxed l3 (by omega) (by simp), l5.block (o5.block _ (by omega) (by simp; omega))⟩
        · rw [List.flatMap_append, List.length_append, HLG.out]
          exact o3
        · rw [dat_snoc, HO3D.out]
        · intro i hi
          rcases List.mem_append.1 hi with hi | hi
          · exact nrow i (l4 i hi)
          · obtain rfl : i = ⟨Ac, n, cc, x.1, 0⟩ := by simpa using hi
            exact nrow _ hrow
        · intro i hi
          rcases List.mem_append.1 hi with hi | hi
          · exact ocp i hi
          · obtain rfl : i = ⟨Ac, n, cc, x.1, 0⟩ := by simpa using hi
            exact hncc
      have rB := lB.trans ⟨o5.os, o5.tape, o5.output, o5.size, fun k hk hx => o5.block k (by omega) (by simp; omega)⟩
      have rK := (((lK.trans (KeepT.of_below ((Below.refl _ _).alloc (Nat.le_refl _) _) (by omega))).grown hgrow (by simp; omega) (fun k e => ⟨by have := (l2.lt k e).1; omega, .inr (own_cells (l2.alloc _) e)⟩))).setCell (p := ⟨w.heap.size + 1 + 1, 0, none⟩) (by show w.heap.size ≤ w.heap.size + 1 + 1; omega) (.inl (by show w.heap.size + 1 + 1 < _; omega)) (.slice (some ⟨gr, 0, none⟩) (GL + 1) capr)
      have rF := lF.trans (o4.from W0.heap.size)
      have hlast : (gat pre ++ [(x.1, 0)])[GL]? = some (x.1, (0 : Int)) := by
        rw [HLL.out, List.getElem?_append_right (Nat.le_refl _), Nat.sub_self]; rfl
      obtain ⟨gr2, cap2, k1, k2, k3, k4, k5, k6⟩ := hI3.bump (by omega) hlast
      have hset : (gat pre ++ [(x.1, 0)]).set GL (x.1, 0 + x.2) = gat (pre ++ [x]) := by
        rw [HGS.out, HLL.out, List.set_append_right _ _ (Nat.le_refl _), Nat.sub_self]
        simp
      have hI4 := k6 (0 + x.2)
      rw [hset] at hI4
      have hl2 : (gat pre ++ [(x.1, (0 : Int))]).length = GL + 1 := by rw [List.length_append, ← HLL.out]; rfl
      rw [hl2] at k1
      obtain ⟨Z, hZ⟩ : ∃ Z, X3.setCell ⟨w.heap.size + 1 + 1, 0, none⟩ (.slice (some ⟨gr, 0, none⟩) (GL + 1) capr) = Z := ⟨_, rfl⟩
      rw [hZ] at k1 k2 k3 k5 hI4 rB rK rF ⊢
      have HI4 := hide hI4
      obtain ⟨xm, hxm⟩ : ∃ xm, x.2 = xm := ⟨_, rfl⟩
      rw [hxm, Int.zero_add] at HI4
      rw [hxm] at hm1 hm2 ⊢
      have HB3 := hide (rB.setCell (p := ⟨gr2, GL * 2 + 1, none⟩) (.inl (by show w.heap.size ≤ gr2; omega)) (.int .i64 xm))
      have HK3 := hide (rK.setCell (p := ⟨gr2, GL * 2 + 1, none⟩) (by show w.heap.size ≤ gr2; omega) (.inr k5) (.int .i64 xm))
      have HF3 := hide (rF.trans ((KeepsOthers.setCell Z ⟨gr2, GL * 2 + 1, none⟩ (.int .i64 xm)).from W0.heap.size))
      have q1 : (0 : Int) ≤ (GL : Int) := by omega
      have q2 : (GL : Int) < ((GL + 1 : Nat) : Int) := by omega
      have HLN := hide (show (pre ++ [x]).length = pre.length + 1 by simp)
      clear hZ hxm o1 o2 o3 o4 o5 nrow fo ko hown1 hgrow l1 l2 l3 l4 l5 lB lK lF hrow hI3 rB rK rF hset hl2 k6 hI4
      gi_wp2_with fail
      rw [← hsz]
      refine ⟨HF3.out, HK3.out, ?_, HB3.out⟩
      rw [HLN.out]
      exact HI4.out
  case done =>
    rintro D W hD ⟨hI, hBW⟩ hfin hK
    have HBW := hide hBW
    have HFIN := hide hfin
    have hBWs := hBW.size
    clear hfin
    obtain ⟨⟨v, l, o1, o2, o3, o4, ocp⟩, _, _⟩ := hI
    have HCP := hide (show Caps (l.filter fun x => !(x.m == 0)) from fun i hi => ocp i (List.mem_filter.1 hi).1)
    clear ocp
    have hDl := (Array.getElem?_eq_some_iff.1 hK).1
    have HGD := hide (fun (l' : List It) (hp : l'.Perm (l.filter fun x => !(x.m == 0))) (hs : l'.Pairwise fun x y => ¬ cmpR y.r x.r < 0) => show Net xs (dat l') from
      gat_done (fun x hx => (HOK.out x hx).1) (by
        have h1 := hp.map fun i : It => (i.r, i.m)
        have h2 : (l.filter fun x => !(x.m == 0)).map (fun i : It => (i.r, i.m)) = (gat xs).filter fun x => decide (x.2 ≠ 0) := by
          rw [← o3]
          unfold dat
          rw [List.filter_map]
          congr 1
          apply List.filter_congr
          intro i _
          show (!(i.m == 0)) = decide (i.m ≠ 0)
          rw [Bool.eq_iff_iff]
          simp
        rw [h2] at h1
        exact h1) (by
        unfold dat
        rw [List.pairwise_map]
        exact hs))
    have HLL := hide (show (l.filter fun x => !(x.m == 0)).length ≤ xs.length from Nat.le_trans (List.length_filter_le _ _) (by rw [← dat_len, o3]; exact gat_len xs))
    have hll : l.length ≤ 1000 := by rw [← dat_len, o3]; have := gat_len xs; omega
    have kv := o1.cell
    have HD := hide ((callsIn_wide (n := 7)).2 (DeleteV (w.heap.size + 3) l.length v l W o2 (by omega) 237 #[] (fun x => x.m == 0) (enters_of Tryz.func237 (by kernel_rfl) rfl) (fun x hx W' _ => gat1_any x.A x.n x.c x.m W')))
    have hobl : ∀ g ∈ obl v, w.heap.size + 3 ≤ g := fun g hg => by
      unfold obl at hg
      cases hv : v.ownBlock with
      | none => rw [hv] at hg; simp at hg
      | some b =>
        rw [hv] at hg
        simp at hg
        have h9 := (o2.lt b hv).1
        omega
    have hrows2 : ∀ W', Bar W.heap.size (obl v) W W' → Rows_ W' B l := fun W' hb i hi =>
      (o4 i hi).keep (p := fun k => k ∈ obl v) (fun k hk hp => hb.block k hk hp) hb.size fun k hk => by
        refine ⟨by have := hobl k hk; omega, fun c fz h2 => ?_⟩
        unfold obl at hk
        cases hv : v.ownBlock with
        | none => rw [hv] at hk; simp at hk
        | some b =>
          rw [hv] at hk
          simp at hk
          obtain ⟨c', fz', h3⟩ := own_cells o2 hv
          rw [hk, h3] at h2
          injection h2 with h2
          injection h2 with _ h4
          exact absurd h4 (by decide)
    have hnD : D ∉ obl v := fun h => by
      unfold obl at h
      cases hv : v.ownBlock with
      | none => rw [hv] at h; simp at h
      | some b =>
        rw [hv] at h
        simp at h
        obtain ⟨c', fz', h3⟩ := own_cells o2 hv
        rw [h, h3] at hK
        cases hK
    clear o3
    gi_wp2_with fail
    refine HD.out.mono ?_
    rintro e W1 ⟨v1, rfl, hown1, hob1, hb1⟩
    obtain ⟨A1, c1, hv1, _⟩ := own_form hown1
    obtain ⟨n1, hn1⟩ : ∃ n1, (l.filter fun x => !(x.m == 0)).length = n1 := ⟨_, rfl⟩
    rw [hn1] at hv1 hown1
    subst hv1
    have HN1 := hide hn1
    clear hn1
    have hbx : w.heap.size + 1 + 1 ∉ obl v := fun h => by have := hobl _ h; omega
    have p1 : Boxed W1 (w.heap.size + 1 + 1) 40 v := (hb1.block _ o1.lt hbx).trans o1
    have rows1 := hrows2 W1 hb1
    have hK1 := (hb1.block D hDl hnD).trans hK
    have hobl1 : obl (.slice A1 n1 c1) = obl v := by unfold obl; rw [hob1]
    have bW1 : Bar w.heap.size [] W W1 := ⟨hb1.os, hb1.tape, hb1.output, hb1.size, fun k hk hx => hb1.block k (Nat.lt_of_lt_of_le hk hBW.size) fun h => by have := hobl k h; omega⟩
    have own2 := hown1.kept (grownBy_setCell' W1 (w.heap.size + 1 + 1) (.slice A1 n1 c1)) (by
      cases hv : (Value.slice A1 n1 c1).ownBlock with
      | none => exact .inl rfl
      | some b => exact .inr fun e => by injection e with e; have := (hown1.lt b hv).1; omega)
    have p2 : Boxed (W1.setCell ⟨w.heap.size + 1 + 1, 0, none⟩ (.slice A1 n1 c1)) (w.heap.size + 1 + 1) 40 (.slice A1 n1 c1) := p1.set (.slice A1 n1 c1)
    have rows2 : Rows_ (W1.setCell ⟨w.heap.size + 1 + 1, 0, none⟩ (.slice A1 n1 c1)) B (l.filter fun x => !(x.m == 0)) := fun i hi => (rows1 i (List.mem_filter.1 hi).1).setCell (p := ⟨w.heap.size + 1 + 1, 0, none⟩) p1 (by decide) (by show B ≤ w.heap.size + 1 + 1; omega) _
    have hDn : D ≠ w.heap.size + 1 + 1 := by omega
    have hK2 : (W1.setCell ⟨w.heap.size + 1 + 1, 0, none⟩ (.slice A1 n1 c1)).heap[D]? = some (.deferred (some [])) := (Below.heap_setCell W1 ⟨w.heap.size + 1 + 1, 0, none⟩ (.slice A1 n1 c1) D hDn).trans hK1
    have bW2 := bW1.setCell (p := ⟨w.heap.size + 1 + 1, 0, none⟩) (.inl (by show w.heap.size ≤ w.heap.size + 1 + 1; omega)) (.slice A1 n1 c1)
    have pc := p1.cell
    have pf := p1.frozen
    have hbn : (w.heap.size + 1 + 1) < W1.heap.size := p1.lt
    have HFL := hide (show (l.filter fun x => !(x.m == 0)).length ≤ 1000 from Nat.le_trans (List.length_filter_le _ _) hll)
    obtain ⟨lf, hlf⟩ : ∃ lf, (l.filter fun x => !(x.m == 0)) = lf := ⟨_, rfl⟩
    rw [hlf] at own2 rows2 HGD HLL HFL HN1 HCP
    have hW2s : (W1.setCell ⟨w.heap.size + 1 + 1, 0, none⟩ (.slice A1 n1 c1)).heap.size = W1.heap.size := by simp [World.setCell]
    clear hlf hrows2 hb1 hown1 rows1 hK hK1 HD p1 o1 o2 o4 kv hBW
    gi_wp2_with fail
    obtain ⟨W2, hW2⟩ : ∃ W2, W1.setCell ⟨w.heap.size + 1 + 1, 0, none⟩ (.slice A1 n1 c1) = W2 := ⟨_, rfl⟩
    rw [hW2] at own2 p2 rows2 hK2 bW2 hW2s ⊢
    have HS := hide ((callsIn_wide (n := 7)).2 (SortV (w.heap.size + 3) n1 B (.slice A1 n1 c1) lf W2 own2 (by have := HFL.out; have := HN1.out; omega) rows2 (by omega) 238 #[] (enters_of Tryz.func238 (by kernel_rfl) rfl) (fun x y => cmpR x.r y.r) (swo_tot (Tot.row.comap It.r)) (fun x y W' _ _ h1 h2 _ => gat2_any x y B W' h1 h2)))
    have hnD2 : D ∉ obl (.slice A1 n1 c1) := by rw [hobl1]; exact hnD
    have hbx2 : w.heap.size + 1 + 1 ∉ obl (.slice A1 n1 c1) := by rw [hobl1]; exact hbx
    have hobl2 : ∀ g ∈ obl (.slice A1 n1 c1), w.heap.size + 3 ≤ g := by rw [hobl1]; exact hobl
    clear pc pf hW2 own2 hobl hobl1 hnD hbx hob1
    gi_wp2_with fail
    refine HS.out.mono ?_
    rintro e W3 ⟨rfl, l', A2, n2, c2, hv2, hnc, hpm, hpw, hrd, hrows, hb3⟩
    injection hv2 with hA2 hn2 hc2
    subst hA2 hn2 hc2
    have hW2s' := hW2s
    have p3 : Boxed W3 (w.heap.size + 1 + 1) 40 (.slice A1 n1 c1) := (hb3.block _ p2.lt hbx2).trans p2
    have hD2 : D < W2.heap.size := (Array.getElem?_eq_some_iff.1 hK2).1
    have hK3 := (hb3.block D hD2 hnD2).trans hK2
    have hwW2 : w.heap.size ≤ W2.heap.size := Nat.le_trans hBWs bW2.size
    have bW3 : Bar w.heap.size [] W W3 := bW2.trans ⟨hb3.os, hb3.tape, hb3.output, hb3.size, fun k hk hx => hb3.block k (Nat.lt_of_lt_of_le hk hwW2) fun h => by have := hobl2 k h; omega⟩
    have HNET := hide (HGD.out l' hpm (hpw.imp fun h => by first | exact h | simpa using h))
    have hln : l'.length = n1 := hrd.len encIt_len (by omega)
    have HLE := hide (show l'.length ≤ xs.length by rw [hpm.length_eq]; exact HLL.out)
    have hn9 : n1 ≤ 1000 := by rw [← HN1.out]; exact HFL.out
    have kv3 := p3.cell
    have hW3D : D < W3.heap.size := (Array.getElem?_eq_some_iff.1 hK3).1
    have hsW3 := bW3.size
    have bWF : Bar w.heap.size [] W (W3.putObj D (.deferred none)) := bW3.grown (grownBy_putObj' W3 D _) (by omega) (fun k e => by cases e; exact .inl (by omega))
    have HEND := hide (show RetGatF w B Xs xs Fin (.returned (.slice A1 n1 c1)) (W3.putObj D (.deferred none)) from
      ⟨⟨A1, n1, c1, l', rfl, HNET.out, ⟨hrd.keepCells (putObj_cells hK3 rfl) (by simp [World.putObj]), fun i hi => (hrows i hi).keepCells (putObj_cells hK3 rfl) (by simp [World.putObj]) (Nat.le_refl _), by omega⟩, hnc, ⟨HLE.out, fun i hi => HCP.out i (hpm.mem_iff.1 hi)⟩, HBW.out.trans (bWF.more Xs)⟩, HFB.out _ _ bWF HFIN.out⟩)
    clear hrd hrows hb3 bW3 bWF hpm hpw HS p2 p3 hK2
    gi_wp2
    refine ⟨by simp, .inl ⟨_, _, rfl, run_takeDeferred hK3, ?_⟩⟩
    refine ⟨_, results_tmp rfl _ _ _, ?_⟩
    exact HEND.out
  case stop =>
    rintro D c pre W _ _ h _
    exact h.elim
theorem gathered_in (gf : Nat) (lb : Array Value) (xs : Bg) (B : Nat) (Xs : List Nat) (w : World) (ht : ∀ W, Bar w.heap.size Xs w W → Tab W) (eg : ∀ args w, (callFunc gf args).run Tryz.prog w = .ok (.enter gf args) w)
    (hit : ∀ W, Below w.heap.size w W → W.heap.size = w.heap.size + 5 → IterG Fence.wide 7 Tryz.prog gf lb (ArgR B) xs (WrB B (w.heap.size + 5) Xs) (KeepT w.heap.size (w.heap.size + 5)) W)
    (hok : ∀ x ∈ xs, okR x.1 = true ∧ -1000000 ≤ x.2 ∧ x.2 ≤ 1000000) (hlen : xs.length ≤ 1000) (hB : B ≤ w.heap.size) (hXs : ∀ k ∈ Xs, k < w.heap.size) :
    CallsIn Fence.wide 8 Tryz.prog 205 #[.func (Fn.func gf) #[] lb] w (RetGat w B Xs xs) :=
  (gathered_inF gf lb xs B Xs w ht eg (fun _ => True) (fun _ _ _ _ _ _ _ => trivial) (fun _ _ _ _ => trivial) (fun W a b => (hit W a b).f) hok hlen hB hXs).mono fun _ _ h => h.1
end

end Go.Proofs.YtoapjidpfghnlaaGreatDoor
