/-
  The facts of this seat that the library contract of the sort asks for, and slices.SortFunc over a list of Ch that the call made, by whatever comparison. (Printed by gen_srt.)
-/
import Derived.Test.YtoapjidpfghnlaaGreatDoorBgL
import Derived.Test.YtoapjidpfghnlaaGreatDoorRngH
import Derived.Test.YtoapjidpfghnlaaGreatDoorGb
namespace Go.Proofs.YtoapjidpfghnlaaGreatDoor
open Go.Shelf Go.Proofs Go.Lib Go.Sort
open Go.RowKit (Below)
attribute [local go_sem] Oper.semAt_some
set_option linter.unusedVariables false
set_option linter.unusedSimpArgs false

def sortC_ren : Go.Shelf.Ren := ⟨fun | 6 => 153 | 14 => 200 | 20 => 226 | 21 => 227 | 22 => 228 | 23 => 229 | 24 => 230 | 25 => 231 | 26 => 232 | 27 => 233 | 46 => 255 | 47 => 216 | 48 => 217 | 49 => 256 | 50 => 257 | 15 => 127 | 57 => 268 | 28 => 178 | 29 => 179 | n => n, fun | 24 => 57 | 22 => 67 | 3 => 3 | 25 => 188 | 4 => 4 | 0 => 0 | 46 => 203 | 45 => 202 | 50 => 207 | 66 => 245 | 39 => 166 | 55 => 212 | 70 => 249 | 76 => 265 | 77 => 77 | 53 => 210 | 5 => 5 | 9 => 9 | n => n, fun | n => n⟩
theorem sortC : Go.Proofs.SlLaysF0.n6 Tryz.prog sortC_ren := {
  mixed := by kernel_rfl
  f6 := ⟨Tryz.f153.name, by decide, Tryz.func153.trans (congrArg some (by kernel_rfl))⟩
  f14 := ⟨Tryz.f200.name, by decide, Tryz.func200.trans (congrArg some (by kernel_rfl))⟩
  f15 := Tryz.func127.trans (congrArg some (by kernel_rfl))
  f20 := ⟨Tryz.f226.name, by decide, Tryz.func226.trans (congrArg some (by kernel_rfl))⟩
  f21 := ⟨Tryz.f227.name, by decide, Tryz.func227.trans (congrArg some (by kernel_rfl))⟩
  f22 := ⟨Tryz.f228.name, by decide, Tryz.func228.trans (congrArg some (by kernel_rfl))⟩
  f23 := ⟨Tryz.f229.name, by decide, Tryz.func229.trans (congrArg some (by kernel_rfl))⟩
  f24 := ⟨Tryz.f230.name, by decide, Tryz.func230.trans (congrArg some (by kernel_rfl))⟩
  f25 := ⟨Tryz.f231.name, by decide, Tryz.func231.trans (congrArg some (by kernel_rfl))⟩
  f26 := ⟨Tryz.f232.name, by decide, Tryz.func232.trans (congrArg some (by kernel_rfl))⟩
  f27 := ⟨Tryz.f233.name, by decide, Tryz.func233.trans (congrArg some (by kernel_rfl))⟩
  f28 := Tryz.func178.trans (congrArg some (by kernel_rfl))
  f29 := Tryz.func179.trans (congrArg some (by kernel_rfl))
  f46 := ⟨Tryz.f255.name, by decide, Tryz.func255.trans (congrArg some (by kernel_rfl))⟩
  f47 := Tryz.func216.trans (congrArg some (by kernel_rfl))
  f48 := Tryz.func217.trans (congrArg some (by kernel_rfl))
  f49 := ⟨Tryz.f256.name, by decide, Tryz.func256.trans (congrArg some (by kernel_rfl))⟩
  f50 := ⟨Tryz.f257.name, by decide, Tryz.func257.trans (congrArg some (by kernel_rfl))⟩
  f57 := ⟨Tryz.f268.name, by decide, Tryz.func268.trans (congrArg some (by kernel_rfl))⟩
  t0 := Tryz.underlying0
  a0 := Tryz.isAgg0
  z0 := Tryz.sizeOf0
  v0 := Tryz.zeroValue0
  t3 := Tryz.underlying3
  a3 := Tryz.isAgg3
  z3 := Tryz.sizeOf3
  v3 := Tryz.zeroValue3
  t4 := Tryz.underlying4
  a4 := Tryz.isAgg4
  z4 := Tryz.sizeOf4
  v4 := Tryz.zeroValue4
  t5 := Tryz.underlying5
  a5 := Tryz.isAgg5
  z5 := Tryz.sizeOf5
  v5 := Tryz.zeroValue5
  t9 := Tryz.underlying9
  a9 := Tryz.isAgg9
  z9 := Tryz.sizeOf9
  v9 := Tryz.zeroValue9
  t22 := Tryz.underlying67
  a22 := Tryz.isAgg67
  z22 := Tryz.sizeOf67
  v22 := Tryz.zeroValue67
  t25 := Tryz.underlying188
  a25 := Tryz.isAgg188
  z25 := Tryz.sizeOf188
  v25 := Tryz.zeroValue188
  t39 := Tryz.underlying166
  a39 := Tryz.isAgg166
  z39 := Tryz.sizeOf166
  v39 := Tryz.zeroValue166
  t45 := Tryz.underlying202
  a45 := Tryz.isAgg202
  z45 := Tryz.sizeOf202
  v45 := Tryz.zeroValue202
  t46 := Tryz.underlying203
  a46 := Tryz.isAgg203
  z46 := Tryz.sizeOf203
  v46 := Tryz.zeroValue203
  t50 := Tryz.underlying207
  a50 := Tryz.isAgg207
  z50 := Tryz.sizeOf207
  v50 := Tryz.zeroValue207
  t53 := Tryz.underlying210
  a53 := Tryz.isAgg210
  z53 := Tryz.sizeOf210
  v53 := Tryz.zeroValue210
  t55 := Tryz.underlying212
  a55 := Tryz.isAgg212
  z55 := Tryz.sizeOf212
  v55 := Tryz.zeroValue212
  t66 := Tryz.underlying245
  a66 := Tryz.isAgg245
  z66 := Tryz.sizeOf245
  v66 := Tryz.zeroValue245
  t70 := Tryz.underlying249
  a70 := Tryz.isAgg249
  z70 := Tryz.sizeOf249
  v70 := Tryz.zeroValue249
  t76 := Tryz.underlying265
  a76 := Tryz.isAgg265
  z76 := Tryz.sizeOf265
  v76 := Tryz.zeroValue265
  t77 := Tryz.underlying77
  a77 := Tryz.isAgg77
  z77 := Tryz.sizeOf77
  v77 := Tryz.zeroValue77 }
/-- What the sort leaves. -/
def RetSortC (w : World) (v : Value) (l : List Ch) (cf : Ch → Ch → Int) (e : Ending) (w' : World) : Prop := e = .returned (.tuple #[]) ∧ ∃ (l' : List Ch) (A : Option Addr) (n c : Nat), v = .slice A n c ∧ l'.Perm l ∧ l'.Pairwise (fun x y => ¬ cf y x < 0) ∧ Reads w' w'.heap.size 3 A n (l'.flatMap encCh) ∧ Bar w.heap.size (obl v) w w'
set_option maxHeartbeats 1000000 in
theorem SortC_any (base n : Nat) (v : Value) (l : List Ch) (w : World) (h : w.ownsRow base 57 3 v n (l.flatMap encCh)) (hn : n ≤ 100000) (pf : Nat) (caps : Array Value)
    (eg : ∀ args w, (callFunc pf args).run Tryz.prog w = .ok (.enter pf args) w) (cf : Ch → Ch → Int) (hO : SWO (ltOf cf))
    (hc : ∀ (x y : Ch) (W : World), x ∈ l → y ∈ l → Bar w.heap.size (obl v) w W → Calls Tryz.prog pf (#[.agg (encCh x).toArray, .agg (encCh y).toArray] ++ caps) W (RetG W (.int .i64 (cf x y)))) :
    Calls Tryz.prog 153 #[v, .func (Fn.func pf) #[] caps] w (RetSortC w v l cf) := by
  have hlen : l.length = n := by
    have := h.1
    rw [flat_length encCh_len] at this
    omega
  rcases h.2 with ⟨he, hn0⟩ | ⟨g, cap, cur, he, hb, _, hcap, _⟩
  · subst he
    obtain rfl : n = 0 := by
      have := h.1
      rw [hn0] at this
      simp at this
      omega
    obtain rfl : l = [] := List.eq_nil_of_length_eq_zero hlen
    refine (AnyF.slices_SortFunc_none (P := Tryz.prog) (ρ := sortC_ren) { sortC with } none 0 _ w).mono ?_
    rintro e w' ⟨rfl, rfl⟩
    exact ⟨rfl, [], none, 0, 0, rfl, List.Perm.refl _, List.Pairwise.nil, Reads.none_, Bar.refl _ _ _⟩
  · subst he
    rcases Nat.eq_zero_or_pos n with hn0 | hn0
    · subst hn0
      obtain rfl : l = [] := List.eq_nil_of_length_eq_zero hlen
      refine (AnyF.slices_SortFunc_none (P := Tryz.prog) (ρ := sortC_ren) { sortC with } _ cap _ w).mono ?_
      rintro e w' ⟨rfl, rfl⟩
      exact ⟨rfl, [], _, 0, cap, rfl, List.Perm.refl _, List.Pairwise.nil, ⟨rfl, fun h => absurd h (by omega)⟩, Bar.refl _ _ _⟩
    · obtain ⟨x0, hx0⟩ : ∃ x, x ∈ l := by
        cases l with
        | nil => simp at hlen; omega
        | cons x l => exact ⟨x, List.mem_cons_self⟩
      haveI : Inhabited {x : Ch // x ∈ l} := ⟨⟨x0, hx0⟩⟩
      let enc : {x : Ch // x ∈ l} → List Value := fun x => encCh x.1
      let ls : List {x : Ch // x ∈ l} := l.attach
      have hls : ls.map (·.1) = l := List.attach_map_subtype_val l
      have hfl : ls.flatMap enc = l.flatMap encCh := by
        have : l.flatMap encCh = (ls.map (·.1)).flatMap encCh := by rw [hls]
        rw [this, List.flatMap_map]
      have hlsn : ls.length = n := by rw [← hlen]; exact List.length_attach
      have h' : w.ownsRow base 57 3 (.slice (some ⟨g, 0, none⟩) n cap) n (ls.flatMap enc) := by rw [hfl]; exact h
      obtain ⟨hH, hg, hbg⟩ := holds_ownG (enc := enc) (fun x => encCh_len x.1) (by omega) h'
      have hsz : ls.toArray.size = n := by simpa using hlsn
      have hO' : SWO (ltOf fun x y : {x : Ch // x ∈ l} => cf x.1 y.1) := ⟨fun x => hO.irrefl x.1, fun x y z => hO.trans x.1 y.1 z.1, fun x y z => hO.ntrans x.1 y.1 z.1⟩
      have h1 : ∀ x : {x : Ch // x ∈ l}, ∀ v ∈ enc x, v.oneCell' = true := fun x v hv => by
        have hv' : v ∈ encCh x.1 := hv
        unfold encCh at hv'
        simp only [List.mem_cons, List.not_mem_nil, or_false] at hv'
        rcases hv' with rfl | rfl | rfl <;> rfl
      have hcmp : CmpLays Tryz.prog pf caps enc 3 (fun x y : {x : Ch // x ∈ l} => cf x.1 y.1) g 0 ls.toArray.size w := by
        intro m os dk hdk x y
        have hbar := below_sortG (enc := enc) (k := 3) (w := w) (g := g) (m := m) (d := dk) (os := os)
        refine (hc x.1 y.1 _ x.2 y.2 hbar).mono ?_
        rintro e w' ⟨he, hgb⟩
        exact ⟨he, hgb.grow⟩
      have hp := AnyQ.slices_SortFunc (P := Tryz.prog) (ρ := sortC_ren) sortC 3 Tryz.isAgg57 Tryz.sizeOf57 enc (fun x => encCh_len x.1) h1 (fun x y : {x : Ch // x ∈ l} => cf x.1 y.1) hO' pf caps g 0 cap ls.toArray w eg hcmp hH hg (by rw [hsz]; omega)
      rw [hsz] at hp
      refine Calls.mono hp ?_
      rintro e w' ⟨rfl, d', m, os, hpm, hst, rfl⟩
      have hdn : d'.size = n := by rw [hpm.1, hsz]
      have hbar := below_sortG (enc := enc) (k := 3) (w := w) (g := g) (m := m) (d := d') (os := os)
      have hperm : d'.toList.Perm ls := by
        have := hpm.2.2
        rw [← hsz] at this
        simp only [Array.extract_size] at this
        rw [hsz, ← hdn, Array.extract_size] at this
        simpa using this
      have hl'p : (d'.toList.map (·.1)).Perm l := by
        have := hperm.map (·.1)
        rwa [hls] at this
      refine ⟨rfl, d'.toList.map (·.1), _, _, _, rfl, hl'p, ?_, ?_, hbar⟩
      · rw [List.pairwise_map, List.pairwise_iff_getElem]
        intro i j hi hj hij
        have hi' : i < d'.size := by simpa using hi
        have hj' : j < d'.size := by simpa using hj
        have := hst i j (Nat.zero_le _) hij (by omega)
        have h2 : decide (cf (d'[j]!).1 (d'[i]!).1 < 0) = false := this
        rw [decide_eq_false_iff_not, getElem!_pos d' i hi', getElem!_pos d' j hj'] at h2
        simpa using h2
      · have hH' := holdsK_sortWorldK_c enc 3 w g 0 ls.toArray d' m os hH hg (by rw [hdn, hsz])
        have := reads_holdsG (enc := enc) (fun x => encCh_len x.1) (by omega) hH' (Nat.lt_of_lt_of_le hg hbar.size)
        rw [hdn] at this
        rw [List.flatMap_map]
        exact this
end Go.Proofs.YtoapjidpfghnlaaGreatDoor
