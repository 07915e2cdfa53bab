/-
  (In seats that hold the bag's texts: these stand in BgS1 and BgS3.)
  The walk of the reference's Quoted.
  The walks of Text on both sides.
  The walk of bag.gathered, whatever iterator is handed to it.
-/
import Derived.Test.YtoapjidpfghnlaaGreatDoorBgS3
import Derived.Test.YtoapjidpfghnlaaGreatDoorBgS1
import Derived.Laws.Strings2
import Derived.Laws.Concat
import Derived.Test.YtoapjidpfghnlaaGreatDoorGb
import Derived.Test.YtoapjidpfghnlaaGreatDoorRngH
import Derived.Carry
import Derived.Maps.Keyed
namespace Go.Proofs.YtoapjidpfghnlaaGreatDoor

section
open Go.RowKit Go.Proofs
attribute [local go_sem] Oper.semAt_some
set_option linter.unusedVariables false
set_option linter.unusedSimpArgs false

theorem ba_ext {a b : ByteArray} (h : a.data.toList = b.data.toList) : a = b := by
  apply ByteArray.ext
  exact Array.toList_inj.1 h
theorem ba_app (a b : ByteArray) : (a ++ b).data.toList = a.data.toList ++ b.data.toList := by simp [ByteArray.data_append]
theorem ba_list (a : ByteArray) : a.data.toList.length = a.size := rfl
end

section
open Go.RowKit Go.Proofs
attribute [local go_sem] Oper.semAt_some
set_option linter.unusedVariables false
set_option linter.unusedSimpArgs false

theorem infoS : (Tryz.prog.info? 9).map (fun i => (i.zero, i.size, i.bytes)) = some (some (.string .empty), 1, 16) := by kernel_rfl
/-- A value's text as a string. -/
def valS (v : Val) : ByteArray := ⟨(valT v).toArray⟩
theorem rd_one (X : World) (a : Value) (t : TypeId) : Reads (X.alloc (.cells #[a] t)) (X.heap.size + 1) 1 (some ⟨X.heap.size, 0, none⟩) 1 [a] :=
  ⟨rfl, fun _ => ⟨X.heap.size, 0, rfl, by omega, fun j u hu => by rw [Nat.zero_add]; exact ((Blk.new X t #[a]).cell j).trans (by simpa using hu)⟩⟩
theorem own_capT {w : World} {base : Nat} {e : TypeId} {size n c : Nat} {A : Option Addr} {xs : List Value} (h : w.ownsRow base e size (.slice A n c) n xs) : n ≤ c := by
  rcases h.2 with ⟨h1, _⟩ | ⟨g, cap, cur, h1, _, _, h4, _⟩
  · injection h1 with _ h2 h3
    omega
  · injection h1 with _ _ h3
    subst h3
    exact h4
set_option maxRecDepth 100000 in
set_option maxHeartbeats 4000000 in
theorem Text_any (A : Option Addr) (n c : Nat) (r : Rw) (w : World) (hr : Reads w w.heap.size 3 A n (r.flatMap encV)) (hn : n ≤ 9223372036854775807) (ht : Tab w) :
    Calls Tryz.prog 123 #[.slice A n c] w (RetV w (.string ⟨(rowT r).toArray⟩)) := by
  have HL := hide (hr.len encV_len (by omega))
  have HV := hide (RowValid_any A n c _ r w hr (Nat.le_refl _) hn)
  obtain ⟨i0, hi, hz0, hz1, hz2⟩ := info_parts infoS
  cases hok : okR r
  · have HR := hide (show rowT r = [] by unfold rowT; rw [hok]; simp)
    rw [hok] at HV
    clear hok
    go_enter Tryz.func123, Tryz.ntmps123
    go_wp2_with fail
    refine HV.out.mono ?_
    rintro e W1 ⟨rfl, hB1⟩
    go_wp2_with fail
    go_ret
    exact ⟨by rw [HR.out]; rfl, hB1⟩
  · have HR := hide (show rowT r = Lib.join (r.map valT) [44] by unfold rowT; rw [if_pos hok])
    have HM := hide (fun v (hv : v ∈ r) => okR_mem hok hv)
    have HP := hide (part_len hok r.length)
    have hn8 : n ≤ 8 := by rw [← HL.out]; exact okR_len hok
    rw [hok] at HV
    clear hok
    go_enter Tryz.func123, Tryz.ntmps123
    go_wp2_with fail
    refine HV.out.mono ?_
    rintro e W1 ⟨rfl, hB1⟩
    clear HV
    go_wp2_with fail
    have ow0 : W1.ownsRow W1.heap.size 9 1 (.slice none 0 0) 0 [] := World.ownsRow_nil _ _ _ _
    go_loopw [3, 5, 11] (fun v _ i wr => ∃ k : Nat, k ≤ n ∧ i = .int .i64 k ∧ wr.ownsRow W1.heap.size 9 1 v k ((r.take k).map fun x => Value.string (valS x)) ∧ Below W1.heap.size W1 wr) (fun _ _ i _ => n - (intOf i).toNat)
    case atStart => exact ⟨0, Nat.zero_le _, rfl, ow0, Below.refl _ _⟩
    case round =>
      clear ow0
      obtain ⟨k, hk, rfl, hown, hBr⟩ := hrel
      have hB := bstep hB1 hBr
      by_cases hlt : k < n
      · obtain ⟨b, off, x, hA, hb, hxk, hcx⟩ := (hr.below hB).elem encV_len HL.out hlt
        have HS := hide (show (r.take (k + 1)).map (fun x => Value.string (valS x)) = (r.take k).map (fun x => Value.string (valS x)) ++ [.string (valS x)] by rw [take_snoc' hxk, List.map_append]; rfl)
        have hok := HM.out x (List.mem_of_getElem? hxk)
        have e0 : wr.cell? ⟨b, off + k * 3, none⟩ = some (.int .i64 x.k) := by simpa using hcx 0 _ rfl
        have e1 : wr.cell? ⟨b, off + k * 3 + 1, none⟩ = some (.int .i64 x.n) := by simpa [← Nat.add_assoc] using hcx 1 _ rfl
        have e2 : wr.cell? ⟨b, off + k * 3 + 2, none⟩ = some (.string x.s) := by simpa [← Nat.add_assoc] using hcx 2 _ rfl
        clear hcx hxk
        rw [hA]
        have HA := hide hA
        clear hA
        have q1 : (0 : Int) ≤ (k : Int) := by omega
        have q2 : (k : Int) < (n : Int) := by omega
        have kP := Blk.new wr 102 #[.int .i64 x.k, .int .i64 x.n, .string x.s]
        have hownA := hown.alloc (.cells #[.int .i64 x.k, .int .i64 x.n, .string x.s] 102)
        have hBA := hBr.alloc hBr.size (.cells #[.int .i64 x.k, .int .i64 x.n, .string x.s] 102)
        go_upto_region 7 with fail
        obtain ⟨W3, hW3⟩ : ∃ W3, wr.alloc (.cells #[.int .i64 x.k, .int .i64 x.n, .string x.s] 102) = W3 := ⟨_, rfl⟩
        obtain ⟨bP, hbP⟩ : ∃ bP, wr.heap.size = bP := ⟨_, rfl⟩
        rw [hW3] at kP hownA hBA ⊢
        rw [hbP] at kP ⊢
        clear hW3 hbP hown hBr e0 e1 e2
        have p0 := kP.cell 0
        have p1 := kP.cell 1
        have p2 := kP.cell 2
        simp at p0 p1 p2
        obtain ⟨PL, hPL⟩ : ∃ PL, (r.take k).map (fun x => Value.string (valS x)) = PL := ⟨_, rfl⟩
        have HPL := hide hPL
        rw [hPL] at hownA
        clear hPL
        have hB3 := bstep hB1 hBA
        have ht3 : Tab W3 := ht.below hB3
        by_cases h1 : x.k = 1
        · have z1 : (x.k == 1) = true := by simp [h1]
          have hT : valS x = ⟨(Lib.itoa x.n).toArray⟩ := by unfold valS valT; rw [if_pos h1]
          rcases okV_cases hok with ⟨h, _⟩ | ⟨_, _, hn1, hn2⟩ | ⟨h, _⟩
          · omega
          · have HC := hide (itoa_any x.n (by omega) (by omega) W3 ht3)
            rw [← hT] at HC
            clear hT h1
            go_wp2_with fail
            refine HC.out.mono ?_
            rintro e W4 ⟨rfl, hB4⟩
            have vA := own_below hownA hB4
            have bA := bstep hBA hB4
            clear hownA hBA hB4 HC p0 p1 p2 kP
            have vA2 := vA.alloc (.cells #[.string (valS x)] 9)
            have bA2 := bA.alloc bA.size (.cells #[.string (valS x)] 9)
            have xs : W1.heap.size ≤ (W4.alloc (.cells #[.string (valS x)] 9)).heap.size := bA2.size
            go_wp2_with (at_builtin; refine wpList_append_any _ rfl _ _ 197 rfl W1.heap.size 9 i0 _ 1 16 Tryz.underlying197 hi hz0 hz1 hz2 rfl (by decide) _ k PL rfl vA2 (W4.heap.size + 1) (some ⟨W4.heap.size, 0, none⟩) 1 1 [.string (valS x)] rfl (rd_one W4 _ _) (by simp [Value.oneCell']) (by unfold maxLen; omega) (by omega) xs ?_; intro v3 w3 hown3 hgrow hat)
            have hBe : Below W1.heap.size W1 w3 := below_append bA2 vA2 xs hgrow
            have HO := hide (show w3.ownsRow W1.heap.size 9 1 v3 (k + 1) ((r.take (k + 1)).map fun x => Value.string (valS x)) by rw [HS.out, HPL.out]; exact hown3)
            clear hown3 hgrow hat bA vA bA2 vA2
            go_wp2_with fail
            go_roundw
            case rel => exact ⟨k + 1, by omega, by go_num, HO.out, hBe⟩
            case measure => simp [intOf]; omega
          · omega
        · have z1 : (x.k == 1) = false := by simp [h1]
          by_cases h2 : x.k = 2
          · have z2 : (x.k == 2) = true := by simp [h2]
            have hT : valS x = ⟨(quoB x.s.data.toList).toArray⟩ := by unfold valS valT; rw [if_neg h1, if_pos h2]
            rcases okV_cases hok with ⟨h, _⟩ | ⟨h, _⟩ | ⟨_, _, hsz⟩
            · omega
            · omega
            · have HC := hide (quoted_any x.s W3 (by omega))
              rw [← hT] at HC
              clear hT h1 h2
              go_wp2_with fail
              refine HC.out.mono ?_
              rintro e W4 ⟨rfl, hB4⟩
              have vA := own_below hownA hB4
              have bA := bstep hBA hB4
              clear hownA hBA hB4 HC p0 p1 p2 kP
              have vA2 := vA.alloc (.cells #[.string (valS x)] 9)
              have bA2 := bA.alloc bA.size (.cells #[.string (valS x)] 9)
              have xs : W1.heap.size ≤ (W4.alloc (.cells #[.string (valS x)] 9)).heap.size := bA2.size
              go_wp2_with (at_builtin; refine wpList_append_any _ rfl _ _ 197 rfl W1.heap.size 9 i0 _ 1 16 Tryz.underlying197 hi hz0 hz1 hz2 rfl (by decide) _ k PL rfl vA2 (W4.heap.size + 1) (some ⟨W4.heap.size, 0, none⟩) 1 1 [.string (valS x)] rfl (rd_one W4 _ _) (by simp [Value.oneCell']) (by unfold maxLen; omega) (by omega) xs ?_; intro v3 w3 hown3 hgrow hat)
              have hBe : Below W1.heap.size W1 w3 := below_append bA2 vA2 xs hgrow
              have HO := hide (show w3.ownsRow W1.heap.size 9 1 v3 (k + 1) ((r.take (k + 1)).map fun x => Value.string (valS x)) by rw [HS.out, HPL.out]; exact hown3)
              clear hown3 hgrow hat bA vA bA2 vA2
              go_wp2_with fail
              go_roundw
              case rel => exact ⟨k + 1, by omega, by go_num, HO.out, hBe⟩
              case measure => simp [intOf]; omega
          · have z2 : (x.k == 2) = false := by simp [h2]
            have hT : valS x = ⟨#[126]⟩ := by unfold valS valT; rw [if_neg h1, if_neg h2]
            rw [hT] at HS
            clear hT h1 h2
            have vA2 := hownA.alloc (.cells #[.string ⟨#[126]⟩] 9)
            have bA2 := hBA.alloc hBA.size (.cells #[.string ⟨#[126]⟩] 9)
            have xs : W1.heap.size ≤ (W3.alloc (.cells #[.string ⟨#[126]⟩] 9)).heap.size := bA2.size
            go_wp2_with (at_builtin; refine wpList_append_any _ rfl _ _ 197 rfl W1.heap.size 9 i0 _ 1 16 Tryz.underlying197 hi hz0 hz1 hz2 rfl (by decide) _ k PL rfl vA2 (W3.heap.size + 1) (some ⟨W3.heap.size, 0, none⟩) 1 1 [.string ⟨#[126]⟩] rfl (rd_one W3 _ _) (by simp [Value.oneCell']) (by unfold maxLen; omega) (by omega) xs ?_; intro v3 w3 hown3 hgrow hat)
            have hBe : Below W1.heap.size W1 w3 := below_append bA2 vA2 xs hgrow
            have HO := hide (show w3.ownsRow W1.heap.size 9 1 v3 (k + 1) ((r.take (k + 1)).map fun x => Value.string (valS x)) by rw [HS.out, HPL.out]; exact hown3)
            clear hown3 hgrow hat bA2 vA2 hownA hBA p0 p1 p2 kP
            go_wp2_with fail
            go_roundw
            case rel => exact ⟨k + 1, by omega, by go_num, HO.out, hBe⟩
            case measure => simp [intOf]; omega
      · obtain rfl : n = k := by omega
        rw [take_all HL.out] at hown
        obtain ⟨A', c', rfl, hR⟩ := own_form hown
        have hcap := own_capT hown
        have hlist : (r.map valS).map (·.data.toList) = r.map valT := by rw [List.map_map]; rfl
        have hj : (Lib.join ((r.map valS).map (·.data.toList)) (ByteArray.mk #[44]).data.toList) = Lib.join (r.map valT) [44] := by rw [hlist]
        have HC := hide (join_any A' n c' (r.map valS) ⟨#[44]⟩ wr (by rw [List.map_map]; exact hR) (by omega) hcap (by
          rw [hj]
          have := HP.out
          rw [List.take_length] at this
          omega))
        rw [hj, ← HR.out] at HC
        clear hown hR hj hlist
        go_wp2_with fail
        refine HC.out.mono ?_
        rintro e W4 ⟨rfl, hB4⟩
        have HB := hide (bstep hB hB4)
        clear hB hB4 HC
        go_wp2_with fail
        go_ret
        exact ⟨rfl, HB.out⟩
end

section
open Go.RowKit Go.Maps
attribute [local go_sem] Oper.semAt_some wide_fn wide_depth
set_option linter.unusedVariables false
set_option linter.unusedSimpArgs false

/-- What the map of places holds. -/
def gF (d : Bg) : Lit → Option Value
  | .string t => (gidx d t).map fun i => .int .i64 ((i : Nat) : Int)
  | _ => none
/-- How an element of the iterator is handed over. -/
def ArgR (B : Nat) (x : Rw × Int) (ag : Array Value) (W : World) : Prop := ∃ A n c, ag = #[.slice A n c, .int .i64 x.2] ∧ RowK W B A n x.1
theorem MapF.obj {P : Program} {W : World} {k : TypeId} {b n : Nat} {F : Lit → Option Value} (h : MapF W P k b n F) : ∃ o : Obj, W.heap[b]? = some o ∧ o.isCells = false := by
  obtain ⟨D, ⟨es, clock, h1, h2⟩, h3⟩ := h
  exact ⟨_, h1, rfl⟩
/-- What an iterator may do between two rounds: lay blocks, write blocks of the list X (none of them holds values), and turn its own loops' records (blocks from S on that hold no cells). -/
structure WrB (B S : Nat) (Xs : List Nat) (X Y : World) : Prop where
  os : Y.os = X.os
  tape : Y.tape = X.tape
  output : Y.output = X.output
  size : X.heap.size ≤ Y.heap.size
  blk : ∀ k o, X.heap[k]? = some o → k ∉ Xs → (k < S ∨ o.isCells = true) → Y.heap[k]? = some o
  low : ∀ k ∈ Xs, B ≤ k ∧ ∀ c fz, X.heap[k]? ≠ some (.cells c 102 fz)
theorem WrB.mono {B S S' : Nat} {Xs : List Nat} {X Y : World} (h : WrB B S' Xs X Y) (hS : S ≤ S') : WrB B S Xs X Y := ⟨h.os, h.tape, h.output, h.size, fun k o hk hx ho => h.blk k o hk hx (ho.imp (fun h => by omega) id), h.low⟩
theorem WrB.bar {B S N : Nat} {Xs : List Nat} {X Y : World} (h : WrB B S Xs X Y) (hN : N ≤ S) (hX : N ≤ X.heap.size) : Bar N Xs X Y :=
  ⟨h.os, h.tape, h.output, h.size, fun k hk hx => by
    have hl : k < X.heap.size := by omega
    rw [h.blk k _ (Array.getElem?_eq_getElem hl) hx (.inl (by omega)), Array.getElem?_eq_getElem hl]⟩
theorem RowK.wrB {B S : Nat} {Xs : List Nat} {X Y : World} {A : Option Addr} {n : Nat} {r : Rw} (h : RowK X B A n r) (k : WrB B S Xs X Y) (hS : B ≤ S) : RowK Y B A n r :=
  h.keep (p := fun i => i ∈ Xs ∨ (S ≤ i ∧ ∃ o : Obj, X.heap[i]? = some o ∧ o.isCells = false)) (fun i hi hp => by
    have hx : i ∉ Xs := fun h => hp (.inl h)
    have h1 := Array.getElem?_eq_getElem hi
    rw [h1]
    refine k.blk i _ h1 hx ?_
    by_cases hS2 : i < S
    · exact .inl hS2
    · cases hc : (X.heap[i]).isCells
      · exact absurd (.inr ⟨by omega, _, h1, hc⟩) hp
      · exact .inr rfl) k.size fun i hi => by
    rcases hi with hi | ⟨h1, o, h2, h3⟩
    · exact k.low i hi
    · refine ⟨by omega, fun c fz h4 => ?_⟩
      rw [h2] at h4
      injection h4 with h4
      subst h4
      cases h3
/-- What a round of gathered's loop keeps: all blocks below N, and of the blocks from S on all but those that hold items. -/
structure KeepT (N S : Nat) (X Y : World) : Prop where
  bar : Bar N [] X Y
  keep : ∀ k o, S ≤ k → X.heap[k]? = some o → (∀ c fz, o ≠ .cells c 119 fz) → Y.heap[k]? = some o
theorem KeepT.trans {N S : Nat} {X Y Z : World} (h : KeepT N S X Y) (k : KeepT N S Y Z) : KeepT N S X Z := ⟨h.bar.trans k.bar, fun i o hi ho hc => k.keep i o hi (h.keep i o hi ho hc) hc⟩
/-- Every row of a list has room for its values. -/
def Caps (l : List It) : Prop := ∀ i ∈ l, i.n ≤ i.c
/-- What lies in memory between two rounds. -/
structure GatI (B mb nn : Nat) (d : Bg) (W : World) : Prop where
  ow : ∃ (v : Value) (l : List It), Boxed W (mb + 1 + 1) 40 v ∧ W.ownsRow (mb + 3) 119 2 v l.length (l.flatMap encIt) ∧ dat l = d ∧ Rows_ W B l ∧ Caps l
  at_ : Boxed W (mb + 1) 260 (.map (some mb))
  mp : MapF W Tryz.prog 9 mb nn (gF d)
theorem GatI.lt {B mb nn : Nat} {d : Bg} {W : World} (h : GatI B mb nn d W) : mb + 1 + 1 < W.heap.size := by obtain ⟨v, l, hv, _⟩ := h.ow; exact hv.lt
theorem GatI.mono {B mb nn nn' : Nat} {d : Bg} {W : World} (h : GatI B mb nn d W) (hn : nn ≤ nn') : GatI B mb nn' d W := ⟨h.ow, h.at_, h.mp.mono hn⟩
theorem GatI.wr {B S mb nn : Nat} {Xs : List Nat} {d : Bg} {X Y : World} (h : GatI B mb nn d X) (k : WrB B S Xs X Y) (hX : ∀ i ∈ Xs, i < mb) (hS : mb < S) (hB : B ≤ S) : GatI B mb nn d Y := by
  obtain ⟨⟨v, l, h1, h2, h3, h4, hcp⟩, h5, h6⟩ := h
  have hno : ∀ i, mb ≤ i → i ∉ Xs := fun i hi hx => by have := hX i hx; omega
  refine ⟨⟨v, l, k.blk _ _ h1 (hno _ (by omega)) (.inr rfl), ⟨h2.1, ?_⟩, h3, fun i hi => (h4 i hi).wrB k hB, hcp⟩, k.blk _ _ h5 (hno _ (by omega)) (.inr rfl), h6.block ?_⟩
  · rcases h2.2 with e | ⟨g, cap, cur, e1, e2, e3, e4⟩
    · exact .inl e
    · exact .inr ⟨g, cap, cur, e1, e2, k.blk g _ e3 (hno _ (by omega)) (.inr rfl), e4⟩
  · obtain ⟨o, ho, _⟩ := h6.obj
    rw [ho]
    exact k.blk mb o ho (hno _ (Nat.le_refl _)) (.inl hS)
/-- What gathered hands back. -/
def RetGat (w : World) (B : Nat) (Xs : List Nat) (xs : Bg) (e : Ending) (w' : World) : Prop := ∃ A n c l, e = .returned (.slice A n c) ∧ Net xs (dat l) ∧ BagR w' B A n l ∧ n ≤ c ∧ (l.length ≤ xs.length ∧ Caps l) ∧ Bar w.heap.size Xs w w'
/-- .. and what holds of memory when all elements came. -/
def RetGatF (w : World) (B : Nat) (Xs : List Nat) (xs : Bg) (Fin : World → Prop) (e : Ending) (w' : World) : Prop := RetGat w B Xs xs e w' ∧ Fin w'
end

end Go.Proofs.YtoapjidpfghnlaaGreatDoor
