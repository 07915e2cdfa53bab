/-
  The law's acts in memory; few; the argument of type []Act opened. No condition.
  What lies in memory while PairKeeps runs. No condition.
  The law PairKeeps, for all inputs that read. (Printed by gen_kpL.)
-/
import Derived.Test.YtoapjidpfghnlaaGreatDoorPrL3
import Derived.Test.YtoapjidpfghnlaaGreatDoorOpenEv
import Derived.Test.YtoapjidpfghnlaaGreatDoorKpR
import Derived.Test.YtoapjidpfghnlaaGreatDoorNetM
namespace Go.Proofs.YtoapjidpfghnlaaGreatDoor

section
open Go.RowKit Go.Deep Go.WideShapes Go.ChangeShapes
attribute [local go_sem] Oper.semAt_some wide_fn wide_depth
set_option linter.unusedVariables false
set_option linter.unusedSimpArgs false

/-- An act: what is called, a number, and a change (a time, a row, a number). -/
structure Ac where
  k : Int
  n : Int
  t : Int
  A : Option Addr
  m : Nat
  c : Nat
  r : Rw
  q : Int
def encAc (a : Ac) : List Value := [.int .i64 a.k, .int .i64 a.n, .int .i64 a.t, .slice a.A a.m a.c, .int .i64 a.q]
theorem encAc_len (a : Ac) : (encAc a).length = 5 := rfl
structure AcR (w : World) (B : Nat) (A : Option Addr) (n : Nat) (l : List Ac) : Prop where
  rd : Reads w w.heap.size 5 A n (l.flatMap encAc)
  rows : ∀ a ∈ l, RowK w B a.A a.m a.r
  caps : ∀ a ∈ l, a.m ≤ a.c
  le : n ≤ 9223372036854775807
theorem AcR.len {w : World} {B n : Nat} {A : Option Addr} {l : List Ac} (h : AcR w B A n l) : l.length = n := h.rd.len encAc_len (by omega)
theorem AcR.below {w w' : World} {B n : Nat} {A : Option Addr} {l : List Ac} (h : AcR w B A n l) (hb : Below w.heap.size w w') : AcR w' B A n l := ⟨h.rd.up hb, fun a ha => (h.rows a ha).below hb, h.caps, h.le⟩
theorem AcR.at_ {w : World} {B n : Nat} {A : Option Addr} {l : List Ac} (h : AcR w B A n l) {k : Nat} (hk : k < n) : ∃ b off a, A = some ⟨b, off, none⟩ ∧ b < w.heap.size ∧ l[k]? = some a ∧ w.cell? ⟨b, off + k * 5, none⟩ = some (.int .i64 a.k) ∧ w.cell? ⟨b, off + k * 5 + 1, none⟩ = some (.int .i64 a.n) ∧
    w.cell? ⟨b, off + k * 5 + 2, none⟩ = some (.int .i64 a.t) ∧ w.cell? ⟨b, off + k * 5 + 3, none⟩ = some (.slice a.A a.m a.c) ∧ w.cell? ⟨b, off + k * 5 + 4, none⟩ = some (.int .i64 a.q) ∧ RowK w B a.A a.m a.r ∧ a.m ≤ a.c := by
  obtain ⟨b, off, i, e, hb, hi, hc⟩ := h.rd.elem encAc_len h.len hk
  exact ⟨b, off, i, e, hb, hi, by simpa using hc 0 _ rfl, by simpa [← Nat.add_assoc] using hc 1 _ rfl, by simpa [← Nat.add_assoc] using hc 2 _ rfl, by simpa [← Nat.add_assoc] using hc 3 _ rfl, by simpa [← Nat.add_assoc] using hc 4 _ rfl, h.rows i (List.mem_of_getElem? hi), h.caps i (List.mem_of_getElem? hi)⟩
/-- What few answers: if it says yes, they are few. -/
def RetFw (w : World) (n : Nat) (e : Ending) (w' : World) : Prop := ∃ b : Bool, e = .returned (.bool b) ∧ (b = true → n ≤ 40) ∧ Below w.heap.size w w'
set_option maxRecDepth 100000 in
set_option maxHeartbeats 4000000 in
theorem fewA_any (A : Option Addr) (n c : Nat) (l : List Ac) (w : World) (hl : AcR w w.heap.size A n l) :
    Calls Tryz.prog 27 #[.slice A n c] w (RetFw w n) := by
  have hle := hl.le
  go_enter Tryz.func27, Tryz.ntmps27
  go_wp2_with fail
  go_loopw [3] (fun i wr => ∃ k : Nat, k ≤ n ∧ i = .int .i64 k ∧ Below w.heap.size w wr) (fun i _ => n - (intOf i).toNat)
  case atStart => exact ⟨0, Nat.zero_le _, rfl, Below.refl _ _⟩
  case round =>
    obtain ⟨k, hk, rfl, hBw⟩ := hrel
    by_cases hlt : k < n
    · obtain ⟨b, off, x, rfl, hb, hxk, c0, c1, c2, c3, c4, hrow, _⟩ := (hl.below hBw).at_ hlt
      clear hxk c0 c1 c2 c4
      have q1 : (0 : Int) ≤ (k : Int) := by omega
      have q2 : (k : Int) < (n : Int) := by omega
      have hba := below_val (w := wr) #[.slice x.A x.m x.c] 34
      have ka := Blk.new wr 34 #[.slice x.A x.m x.c]
      have hcell : (wr.alloc (.cells #[.slice x.A x.m x.c] 34)).cell? ⟨wr.heap.size, 0, none⟩ = some (.slice x.A x.m x.c) := ka.cell 0
      have hrd := (hrow.below hba).rd.up (Below.refl _ _)
      have hrl := hrow.le
      have HBA := hide hba
      have HCE := hide hcell
      clear hba ka hcell hrow
      go_wp2_with fail
      refine (Long_one x.A x.m x.c x.r wr.heap.size _ hrd hrl HCE.out).mono ?_
      rintro ee w1 hres
      obtain ⟨bb, rfl, hB1⟩ := hres
      have hB2 := bstep hBw (bstep HBA.out hB1)
      clear hB1 hBw c3 hrd HBA HCE
      cases bb
      · go_wp2
        go_roundw
        case rel => exact ⟨k + 1, by omega, by go_num, hB2⟩
        case measure => simp [intOf]; omega
      · go_wp2
        go_ret
        exact ⟨false, rfl, by simp, hB2⟩
    · obtain rfl : k = n := by omega
      by_cases z1 : k ≤ 40
      · have q1 : (k : Int) ≤ 40 := by omega
        have HZ := hide z1
        clear z1
        go_wp2
        go_ret
        exact ⟨_, rfl, fun _ => HZ.out, hBw⟩
      · have q1 : decide ((k : Int) ≤ 40) = false := decide_eq_false (by omega)
        clear z1
        go_wp2
        go_ret
        exact ⟨_, rfl, fun h => (by simp [q1] at h), hBw⟩
section
variable {H : Type} {enc : TypeId × Value → H} {w : World} {base : Nat} {held : Bool}
set_option maxRecDepth 100000 in
theorem dec_chg9 (n : Nat) (cs : List Value) (y : DataW H × List MemPlace) (h : DataW.trod enc Tryz.prog w base (fun _ => true) held n 57 cs = some y) : ∃ (t : Int) (A : Option Addr) (m c : Nat) (r : Rw) (q : Int), cs = [.int .i64 t, .slice A m c, .int .i64 q] ∧ RowK w w.heap.size A m r ∧ m ≤ c := by
  obtain ⟨y0, y1, y2, k, _, hl, h0, h1, h2⟩ := Go.Deep.trod_struct3 Tryz.underlying57 h
  rw [show Tryz.prog.cellsOf 57 = 3 by kernel_rfl] at hl
  match cs, hl with
  | [v0, v1, v2], _ =>
    change DataW.trod enc Tryz.prog w base (fun _ => true) held k 3 (([v0, v1, v2].drop 0).take (Tryz.prog.cellsOf 3)) = some y0 at h0
    change DataW.trod enc Tryz.prog w base (fun _ => true) held k 34 (([v0, v1, v2].drop 1).take (Tryz.prog.cellsOf 34)) = some y1 at h1
    change DataW.trod enc Tryz.prog w base (fun _ => true) held k 3 (([v0, v1, v2].drop 2).take (Tryz.prog.cellsOf 3)) = some y2 at h2
    rw [show Tryz.prog.cellsOf 3 = 1 by kernel_rfl] at h0 h2
    rw [show Tryz.prog.cellsOf 34 = 1 by kernel_rfl] at h1
    have g0 : DataW.trod enc Tryz.prog w base (fun _ => true) held k 3 [v0] = some y0 := h0
    have g1 : DataW.trod enc Tryz.prog w base (fun _ => true) held k 34 [v1] = some y1 := h1
    have g2 : DataW.trod enc Tryz.prog w base (fun _ => true) held k 3 [v2] = some y2 := h2
    obtain ⟨a, ea, _⟩ := DataW.trod_int Tryz.underlying3 g0
    obtain ⟨A, m, c, r, rfl, hr, hm, hmc, _⟩ := open_recsP (α := Val) (encα := encV) (k := 3) (fun _ => True) encV_len (by omega) Tryz.underlying34 (by kernel_rfl) (fun n cs' y hy => dec_val n cs' y hy) g1
    obtain ⟨b, eb, _⟩ := DataW.trod_int Tryz.underlying3 g2
    simp at ea eb
    subst ea eb
    exact ⟨a, A, m, c, r, b, rfl, RowK.of_reads hr (Nat.le_refl _) hm, hmc⟩
set_option maxRecDepth 100000 in
theorem dec_act (n : Nat) (cs : List Value) (y : DataW H × List MemPlace) (h : DataW.trod enc Tryz.prog w base (fun _ => true) held n 59 cs = some y) : ∃ z : Ac, cs = encAc z ∧ RowK w w.heap.size z.A z.m z.r ∧ z.m ≤ z.c := by
  obtain ⟨y0, y1, y2, k, _, hl, h0, h1, h2⟩ := Go.Deep.trod_struct3 Tryz.underlying59 h
  rw [show Tryz.prog.cellsOf 59 = 5 by kernel_rfl] at hl
  match cs, hl with
  | [v0, v1, v2, v3, v4], _ =>
    change DataW.trod enc Tryz.prog w base (fun _ => true) held k 3 (([v0, v1, v2, v3, v4].drop 0).take (Tryz.prog.cellsOf 3)) = some y0 at h0
    change DataW.trod enc Tryz.prog w base (fun _ => true) held k 3 (([v0, v1, v2, v3, v4].drop 1).take (Tryz.prog.cellsOf 3)) = some y1 at h1
    change DataW.trod enc Tryz.prog w base (fun _ => true) held k 57 (([v0, v1, v2, v3, v4].drop 2).take (Tryz.prog.cellsOf 57)) = some y2 at h2
    rw [show Tryz.prog.cellsOf 3 = 1 by kernel_rfl] at h0 h1
    rw [show Tryz.prog.cellsOf 57 = 3 by kernel_rfl] at h2
    have g0 : DataW.trod enc Tryz.prog w base (fun _ => true) held k 3 [v0] = some y0 := h0
    have g1 : DataW.trod enc Tryz.prog w base (fun _ => true) held k 3 [v1] = some y1 := h1
    have g2 : DataW.trod enc Tryz.prog w base (fun _ => true) held k 57 [v2, v3, v4] = some y2 := h2
    obtain ⟨a, ea, _⟩ := DataW.trod_int Tryz.underlying3 g0
    obtain ⟨b, eb, _⟩ := DataW.trod_int Tryz.underlying3 g1
    obtain ⟨t, A, m, c, r, q, e, hr, hc⟩ := dec_chg9 _ _ _ g2
    simp at ea eb e
    obtain ⟨rfl, rfl, rfl⟩ := e
    subst ea eb
    exact ⟨⟨a, b, t, A, m, c, r, q⟩, rfl, hr, hc⟩
set_option maxRecDepth 100000 in
theorem open_acts {r : Reach} {b0 : Nat} {v : Value} {d : DataW H} {ps : List MemPlace} (hval : Value.okWide Tryz.prog w r b0 48 v) (hd : DataW.Trod enc Tryz.prog w base (fun _ => true) held 48 v d ps) :
    ∃ A n c, ∃ l : List Ac, v = .slice A n c ∧ AcR w w.heap.size A n l := by
  obtain ⟨a0, l0, c0, rfl⟩ := okWide_slice Tryz.underlying48 hval
  obtain ⟨fuel, hf⟩ := hd
  obtain ⟨A, n, c, l, h1, hr, hn, _, hp⟩ := open_recsP (α := Ac) (encα := encAc) (k := 5) (fun z => RowK w w.heap.size z.A z.m z.r ∧ z.m ≤ z.c) encAc_len (by omega) Tryz.underlying48 (by kernel_rfl) (fun n cs' y hy => dec_act n cs' y hy) (by simpa only [Value.cells] using hf)
  exact ⟨A, n, c, l, h1, ⟨hr, fun a ha => (hp a ha).1, fun a ha => (hp a ha).2, hn⟩⟩
end
end

section
open Go.RowKit
set_option linter.unusedVariables false
set_option linter.unusedSimpArgs false

theorem nextAc {l : List Ac} : ∀ {j : Nat} {A : Option Addr} {n c : Nat}, (l.flatMap encAc)[j]? = some (.slice A n c) → ∃ k m, (l.flatMap encAc)[j + 1]? = some (.int k m) := by
  induction l with
  | nil => intro j A n c h; cases h
  | cons x l ih =>
    intro j A n c h
    rw [List.flatMap_cons] at h ⊢
    match j with
    | 0 => have : some (Value.int .i64 x.k) = some (.slice A n c) := h; cases this
    | 1 => have : some (Value.int .i64 x.n) = some (.slice A n c) := h; cases this
    | 2 => have : some (Value.int .i64 x.t) = some (.slice A n c) := h; cases this
    | 3 => exact ⟨.i64, x.q, rfl⟩
    | 4 => have : some (Value.int .i64 x.q) = some (.slice A n c) := h; cases this
    | j + 5 =>
      have h' : (l.flatMap encAc)[j]? = some (.slice A n c) := h
      exact ih h'
theorem AcR.turn {X : List Nat} {w w' : World} {A : Option Addr} {n : Nat} {l : List Ac} (h : AcR w w.heap.size A n l) (ht : Turn X w w') : AcR w' w'.heap.size A n l :=
  ⟨h.rd.turnI (fun j A n c hj => nextAc hj) ht, fun a ha => (h.rows a ha).turn ht, h.caps, h.le⟩
/-- What the law reads and never writes. -/
structure KBs (W : World) (kb : Nat) (ks : Array Value) (A1 : Option Addr) (n1 : Nat) (on : List Int) (A2 : Option Addr) (n2 : Nat) (others : List Int) (A3 : Option Addr) (n3 : Nat) (la : List Ac) : Prop where
  ky : Blk W kb 24 ks
  on : Reads W W.heap.size 1 A1 n1 (on.map (Value.int .i64))
  ot : Reads W W.heap.size 1 A2 n2 (others.map (Value.int .i64))
  ac : AcR W W.heap.size A3 n3 la
  tab : Tab W
theorem KBs.turn {X : List Nat} {W W' : World} {kb : Nat} {ks : Array Value} {A1 A2 A3 : Option Addr} {n1 n2 n3 : Nat} {on others : List Int} {la : List Ac} (h : KBs W kb ks A1 n1 on A2 n2 others A3 n3 la) (ht : Turn X W W') (hk : kb ∉ X) : KBs W' kb ks A1 n1 on A2 n2 others A3 n3 la :=
  ⟨h.ky.turn ht hk, h.on.turn (fun u hu => by obtain ⟨y, _, rfl⟩ := List.mem_map.1 hu; exact nofun) ht, h.ot.turn (fun u hu => by obtain ⟨y, _, rfl⟩ := List.mem_map.1 hu; exact nofun) ht, h.ac.turn ht, ht.tab h.tab⟩
theorem KBs.below {W W' : World} {kb : Nat} {ks : Array Value} {A1 A2 A3 : Option Addr} {n1 n2 n3 : Nat} {on others : List Int} {la : List Ac} (h : KBs W kb ks A1 n1 on A2 n2 others A3 n3 la) (hb : Below W.heap.size W W') : KBs W' kb ks A1 n1 on A2 n2 others A3 n3 la :=
  h.turn (X := []) (Turn.of_below hb) nofun
/-- Both keepers and the law's own bags. -/
structure KS5 (W4 W : World) (b b2 : Nat) (s s2 : KS) (k : Kst) (pl pr ql qr : Bg) (v9 : Value) (d9 : Bg) (v10 : Value) (d10 : Bg) (v11 : Value) (d11 : Bg) : Prop where
  kp : ∃ vL vR vN, KpO W b s k vL vR vN pl pr (kpJ k pl pr)
  kr : ∃ uL uR, KrO W b2 s2 k uL uR ql qr
  h9 : BgW W v9 d9
  h10 : BgV W v10 d10
  h11 : BgV W v11 d11
  tn : Turn [b, b2] W4 W
  ne : b ≠ b2
  lt : b < W4.heap.size ∧ b2 < W4.heap.size
section
variable {W4 W W' : World} {b b2 : Nat} {s s2 : KS} {k : Kst} {pl pr ql qr d9 d10 d11 : Bg} {v9 v10 v11 : Value}
theorem KS5.turn (h : KS5 W4 W b b2 s s2 k pl pr ql qr v9 d9 v10 d10 v11 d11) (ht : Turn [] W W') : KS5 W4 W' b b2 s s2 k pl pr ql qr v9 d9 v10 d10 v11 d11 := by
  obtain ⟨vL, vR, vN, h1⟩ := h.kp
  obtain ⟨uL, uR, h2⟩ := h.kr
  exact ⟨⟨vL, vR, vN, h1.turn ht nofun⟩, ⟨uL, uR, h2.turn ht nofun⟩, h.h9.turn ht, h.h10.turn ht, h.h11.turn ht, h.tn.trans (ht.more nofun), h.ne, h.lt⟩
theorem KS5.below (h : KS5 W4 W b b2 s s2 k pl pr ql qr v9 d9 v10 d10 v11 d11) (hb : Below W.heap.size W W') : KS5 W4 W' b b2 s s2 k pl pr ql qr v9 d9 v10 d10 v11 d11 := h.turn (Turn.of_below hb)
/-- The program's keeper is told. -/
theorem KS5.told {left : Bool} {t : Int} {x : Rw} {m : Int} (h : KS5 W4 W b b2 s s2 k pl pr ql qr v9 d9 v10 d10 v11 d11) (ht : Turn [b] W W') (hk : ∃ vL vR vN, KpO W' b s k vL vR vN (kpL k left pl pr t x m) (kpR k left pl pr t x m) (kpJ k (kpL k left pl pr t x m) (kpR k left pl pr t x m))) :
    KS5 W4 W' b b2 s s2 k (kpL k left pl pr t x m) (kpR k left pl pr t x m) ql qr v9 d9 v10 d10 v11 d11 := by
  obtain ⟨uL, uR, h2⟩ := h.kr
  exact ⟨hk, ⟨uL, uR, h2.turn ht (by simp; exact fun e => h.ne e.symm)⟩, h.h9.turn ht, h.h10.turn ht, h.h11.turn ht, h.tn.trans (ht.more (by simp)), h.ne, h.lt⟩
/-- The reference's keeper is told. -/
theorem KS5.told2 {left : Bool} {t : Int} {x : Rw} {m : Int} (h : KS5 W4 W b b2 s s2 k pl pr ql qr v9 d9 v10 d10 v11 d11) (ht : Turn [b2] W W') (hk : ∃ uL uR, KrO W' b2 s2 k uL uR (kpL k left ql qr t x m) (kpR k left ql qr t x m)) :
    KS5 W4 W' b b2 s s2 k pl pr (kpL k left ql qr t x m) (kpR k left ql qr t x m) v9 d9 v10 d10 v11 d11 := by
  obtain ⟨vL, vR, vN, h1⟩ := h.kp
  exact ⟨⟨vL, vR, vN, h1.turn ht (by simp; exact h.ne)⟩, hk, h.h9.turn ht, h.h10.turn ht, h.h11.turn ht, h.tn.trans (ht.more (by simp)), h.ne, h.lt⟩
theorem KS5.set9 {v : Value} {d : Bg} (h : KS5 W4 W b b2 s s2 k pl pr ql qr v9 d9 v10 d10 v11 d11) (hv : BgW W v d) : KS5 W4 W b b2 s s2 k pl pr ql qr v d v10 d10 v11 d11 := ⟨h.kp, h.kr, hv, h.h10, h.h11, h.tn, h.ne, h.lt⟩
theorem KS5.set10 {v : Value} {d : Bg} (h : KS5 W4 W b b2 s s2 k pl pr ql qr v9 d9 v10 d10 v11 d11) (hv : BgV W v d) : KS5 W4 W b b2 s s2 k pl pr ql qr v9 d9 v d v11 d11 := ⟨h.kp, h.kr, h.h9, hv, h.h11, h.tn, h.ne, h.lt⟩
theorem KS5.set11 {v : Value} {d : Bg} (h : KS5 W4 W b b2 s s2 k pl pr ql qr v9 d9 v10 d10 v11 d11) (hv : BgV W v d) : KS5 W4 W b b2 s s2 k pl pr ql qr v9 d9 v10 d10 v d := ⟨h.kp, h.kr, h.h9, h.h10, hv, h.tn, h.ne, h.lt⟩
end
theorem kp_chs {k : Kst} {left : Bool} {l r : Bg} {t : Int} {x : Rw} {m : Int} (h0 : kpE k left l r t x m = 0) {lc : List Ch} (h1 : lc.map (fun (i : Ch) => (i.r, i.m)) = kpC k left l r t x m) (h2 : ∀ i ∈ lc, i.t = t) : okChs lc = true := by
  obtain ⟨g1, _, _, _, _, g6⟩ := kp_in h0
  unfold kpC at h1
  rw [if_pos h0] at h1
  have hd := okBag_asc g6
  unfold okChs
  rw [Bool.and_eq_true, decide_eq_true_eq, List.all_eq_true]
  refine ⟨?_, fun i hi => ?_⟩
  · have := congrArg List.length h1
    rw [List.length_map] at this
    rw [this]; exact hd.2.2
  · have hm : (i.r, i.m) ∈ plusB (kpJ k (lft2 left l (putB (own2 left l r) x m)) (rgt2 left r (putB (own2 left l r) x m))) (kpJ k l r) (-1) := h1 ▸ List.mem_map.2 ⟨i, hi, rfl⟩
    unfold chV okCh
    rw [h2 i hi, (okCh_inK g1).1, hd.1.ok _ hm, hd.2.1 _ hm]
    rfl
theorem same_chgK {A : Option Addr} {n c : Nat} {A' : Option Addr} {n' c' B B' : Nat} {l l' : List Ch} {T : Int} {d : Bg} {w : World} (hx : ChgR w B A n l) (hy : ChgR w B' A' n' l') (h1 : l.map (fun (i : Ch) => (i.r, i.m)) = d ∧ ∀ i ∈ l, i.t = T) (h2 : l'.map (fun (i : Ch) => (i.r, i.m)) = d ∧ ∀ i ∈ l', i.t = T) :
    Calls Tryz.prog 41 #[.slice A n c, .slice A' n' c'] w (RetV w (.bool true)) := by
  have key : ∀ l : List Ch, (∀ i ∈ l, i.t = T) → datC l = (l.map fun (i : Ch) => (i.r, i.m)).map fun z => (z.1, T, z.2) := fun l hl => by
    unfold datC
    rw [List.map_map]
    exact List.map_congr_left fun i hi => by simp [hl i hi]
  have hd : datC l = datC l' := by rw [key l h1.2, key l' h2.2, h1.1, h2.1]
  have e1 := congrArg List.length hd
  unfold datC at e1
  rw [List.length_map, List.length_map, hx.rd.len encCh_len (by have := hx.le; omega), hy.rd.len encCh_len (by have := hy.le; omega)] at e1
  subst e1
  exact ChgSame_one A n c A' c' B B' l l' w hx hy hd
end

section
open Go.RowKit
attribute [local go_sem] Oper.semAt_some wide_fn wide_depth
set_option linter.unusedVariables false
set_option linter.unusedSimpArgs false

theorem kpL_no {k : Kst} {left : Bool} {l r : Bg} {t : Int} {x : Rw} {m : Int} (h : ¬ kpE k left l r t x m = 0) : kpL k left l r t x m = l ∧ kpR k left l r t x m = r := by
  unfold kpL kpR
  rw [if_neg h, if_neg h]
  exact ⟨rfl, rfl⟩
theorem kpL_yes {k : Kst} {left : Bool} {l r : Bg} {t : Int} {x : Rw} {m : Int} (h : kpE k left l r t x m = 0) : kpL k left l r t x m = lft2 left l (putB (own2 left l r) x m) ∧ kpR k left l r t x m = rgt2 left r (putB (own2 left l r) x m) := by
  unfold kpL kpR
  rw [if_pos h, if_pos h]
  exact ⟨rfl, rfl⟩
theorem put_in {W : World} {v : Value} {d : Bg} {n q : Nat} (hb : BgV W v d) (hs : Sd d n q) (hq : q ≤ 400) {Ar : Option Addr} {nr cr : Nat} {x : Rw} {m : Int} (hr : RowK W W.heap.size Ar nr x) (hx : okR x = true) (hm : numB m = true) :
    ∃ A n c, v = .slice A n c ∧ Calls Tryz.prog 57 #[.slice A n c, .slice Ar nr cr, .int .i64 m] W (RetBk W (putB d x m)) := by
  obtain ⟨A, n', c, l, e, hd, hbg, hc, hk⟩ := hb
  have hl : n' ≤ 400000 := by have h1 := hs.cnt; rw [← hd, dat_len, hbg.len] at h1; omega
  have hn8 : nr ≤ 1000 := by have := okR_len hx; rw [hr.len] at this; omega
  have hmm := numB_ne hm
  have := RPutK_any A n' c l Ar nr cr x m W hbg hl hr hn8 (fun z hz => by rw [hd] at hz; have := okR_len ((okBag_asc hs.bag).1.ok z hz); omega) (fun z hz => by rw [hd] at hz; have := numB_ne ((okBag_asc hs.bag).2.1 z hz); omega) (by omega)
  rw [hd] at this
  exact ⟨A, n', c, e, this⟩
theorem KS5.eq10 {W4 W : World} {b b2 : Nat} {s s2 : KS} {k : Kst} {pl pr ql qr d9 d10 d11 d : Bg} {v9 v10 v11 : Value} (h : KS5 W4 W b b2 s s2 k pl pr ql qr v9 d9 v10 d10 v11 d11) (e : d10 = d) : KS5 W4 W b b2 s s2 k pl pr ql qr v9 d9 v10 d v11 d11 := by subst e; exact h
theorem KS5.eq11 {W4 W : World} {b b2 : Nat} {s s2 : KS} {k : Kst} {pl pr ql qr d9 d10 d11 d : Bg} {v9 v10 v11 : Value} (h : KS5 W4 W b b2 s s2 k pl pr ql qr v9 d9 v10 d10 v11 d11) (e : d11 = d) : KS5 W4 W b b2 s s2 k pl pr ql qr v9 d9 v10 d10 v11 d := by subst e; exact h
set_option maxRecDepth 100000 in
set_option maxHeartbeats 32000000 in
theorem pairKeeps_all (A1 : Option Addr) (n1 c1 : Nat) (on : List Int) (A2 : Option Addr) (n2 c2 : Nat) (others : List Int) (wide width kind lo hi : Int) (A3 : Option Addr) (n3 c3 : Nat) (la : List Ac) (w : World)
    (h1 : Reads w w.heap.size 1 A1 n1 (on.map (Value.int .i64))) (h2 : Reads w w.heap.size 1 A2 n2 (others.map (Value.int .i64))) (h3 : AcR w w.heap.size A3 n3 la) (ht : Tab w) :
    Calls Tryz.prog 10 #[.agg #[.slice A1 n1 c1, .slice A2 n2 c2, .int .i64 wide, .int .i64 width, .int .i64 kind, .int .i64 lo, .int .i64 hi], .slice A3 n3 c3] w (RetV w (.bool true)) := by
  have hB0 := below_val (w := w) #[.slice A1 n1 c1, .slice A2 n2 c2, .int .i64 wide, .int .i64 width, .int .i64 kind, .int .i64 lo, .int .i64 hi] 24
  have k1 := Blk.new w 24 #[.slice A1 n1 c1, .slice A2 n2 c2, .int .i64 wide, .int .i64 width, .int .i64 kind, .int .i64 lo, .int .i64 hi]
  have hn3 := h3.le
  have hbs : KBs _ w.heap.size #[.slice A1 n1 c1, .slice A2 n2 c2, .int .i64 wide, .int .i64 width, .int .i64 kind, .int .i64 lo, .int .i64 hi] A1 n1 on A2 n2 others A3 n3 la := ⟨k1, h1.up hB0, h2.up hB0, h3.turn (X := []) (Turn.of_below hB0), ht.below hB0⟩
  clear h1 h2 h3 ht k1
  go_enter Tryz.func10, Tryz.ntmps10
  go_wp2_with fail
  obtain ⟨W0, hW0⟩ : ∃ W0, w.alloc (.cells #[.slice A1 n1 c1, .slice A2 n2 c2, .int .i64 wide, .int .i64 width, .int .i64 kind, .int .i64 lo, .int .i64 hi] 24) = W0 := ⟨_, rfl⟩
  rw [hW0] at hB0 hbs ⊢
  obtain ⟨kb, hkb⟩ : ∃ kb, w.heap.size = kb := ⟨_, rfl⟩
  rw [hkb] at hbs ⊢
  have HKB := hide hkb
  clear hW0 hkb
  refine (klong_any A1 n1 c1 A2 n2 c2 wide width kind lo hi W0).mono ?_
  rintro e W1 hres
  obtain ⟨b1, rfl, hb1, hb⟩ := hres
  have hB1 := bstep hB0 hb
  have hbs1 := hbs.below hb
  clear hb hB0 hbs
  cases b1
  case true =>
    clear hb1
    go_wp2_with fail
    refine (awake9_any W1 hbs1.tab).mono ?_
    rintro e W2 ⟨rfl, hb⟩
    have HB := hide (bstep hB1 hb)
    clear hb hB1 hbs1
    go_wp2
    go_ret
    exact ⟨rfl, HB.out⟩
  case false =>
  obtain ⟨hn1, hn2⟩ := hb1 rfl
  clear hb1
  go_wp2_with fail
  refine (fewA_any A3 n3 c3 la W1 hbs1.ac).mono ?_
  rintro e W2 hres
  obtain ⟨b3, rfl, hb3, hb⟩ := hres
  have hB2 := bstep hB1 hb
  have hbs2 := hbs1.below hb
  clear hb hB1 hbs1
  cases b3
  case false =>
    clear hb3
    go_wp2_with fail
    refine (awake9_any W2 hbs2.tab).mono ?_
    rintro e W3 ⟨rfl, hb⟩
    have HB := hide (bstep hB2 hb)
    clear hb hB2 hbs2
    go_wp2
    go_ret
    exact ⟨rfl, HB.out⟩
  case true =>
  have hn40 := hb3 rfl
  clear hb3
  have d0 : W2.cell? ⟨kb, 0, none⟩ = some (.slice A1 n1 c1) := by simpa using hbs2.ky.cell 0
  have d1 : W2.cell? ⟨kb, 1, none⟩ = some (.slice A2 n2 c2) := by simpa using hbs2.ky.cell 1
  have d2 : W2.cell? ⟨kb, 2, none⟩ = some (.int .i64 wide) := by simpa using hbs2.ky.cell 2
  have d3 : W2.cell? ⟨kb, 3, none⟩ = some (.int .i64 width) := by simpa using hbs2.ky.cell 3
  have d4 : W2.cell? ⟨kb, 4, none⟩ = some (.int .i64 kind) := by simpa using hbs2.ky.cell 4
  have HNK := hide (NewKeeper_any kind A1 n1 c1 on A2 n2 c2 others wide width W2 hbs2.on hbs2.ot (by omega) (by omega) hbs2.tab)
  have HBS2 := hide hbs2
  have HKL0 := hide hbs2.ky.lt
  have HB2S := hide hB2.size
  have HB2 := hide hB2
  clear hbs2 hB2
  go_wp2_with fail
  refine HNK.out.mono ?_
  rintro e W3 ⟨hb, hres⟩
  have hB3 := bstep HB2.out hb
  have hbs3 := HBS2.out.below hb
  clear d0 d1 d2 d3 d4 HNK HBS2 HB2 hb
  have d0 : W3.cell? ⟨kb, 0, none⟩ = some (.slice A1 n1 c1) := by simpa using hbs3.ky.cell 0
  have d1 : W3.cell? ⟨kb, 1, none⟩ = some (.slice A2 n2 c2) := by simpa using hbs3.ky.cell 1
  have d2 : W3.cell? ⟨kb, 2, none⟩ = some (.int .i64 wide) := by simpa using hbs3.ky.cell 2
  have d3 : W3.cell? ⟨kb, 3, none⟩ = some (.int .i64 width) := by simpa using hbs3.ky.cell 3
  have d4 : W3.cell? ⟨kb, 4, none⟩ = some (.int .i64 kind) := by simpa using hbs3.ky.cell 4
  have HRK := hide (RNewKeeper_any kind A1 n1 c1 on A2 n2 c2 others wide width W3 hbs3.on hbs3.ot (by omega) (by omega))
  have HBS3 := hide hbs3
  have HKL := hide (show kb < W2.heap.size from HKL0.out)
  have HB3 := hide hB3
  clear hbs3 hB3
  by_cases hS : setE kind on others wide width [] [] = 0
  case neg =>
    rw [if_neg hS] at hres
    subst hres
    obtain ⟨E, hE⟩ : ∃ E, setE kind on others wide width [] [] = E := ⟨_, rfl⟩
    rw [hE]
    have HE := hide hE
    have HNE := hide hS
    clear hE hS
    go_wp2_with fail
    refine HRK.out.mono ?_
    rintro e W4 ⟨hb, hres⟩
    rw [if_neg HNE.out, HE.out] at hres
    subst hres
    have hB4 := bstep HB3.out hb
    have HBS4 := hide (HBS3.out.below hb)
    have zE : (E != E) = false := by simp
    clear hb d0 d1 d2 d3 d4 HRK HBS3 HB3 HNE
    go_wp2_with fail
    have hC0 : Below W4.heap.size W4 W4 := Below.refl _ _
    go_loopw [12] (fun i wr => ∃ i1 : Nat, i1 ≤ n3 ∧ i = .int .i64 i1 ∧ Below W4.heap.size W4 wr) (fun i _ => n3 - (intOf i).toNat)
    case atStart => exact ⟨0, Nat.zero_le _, rfl, hC0⟩
    case round =>
      clear hC0
      obtain ⟨i1, hi1, rfl, hC⟩ := hrel
      by_cases hlt : i1 < n3
      · have q1 : (0 : Int) ≤ (i1 : Int) := by omega
        have q2 : (i1 : Int) < (n3 : Int) := by omega
        obtain ⟨ba, oa, a, rfl, hba, hak, e0, e1, e2, e3, e4, hrow, hcap⟩ := (HBS4.out.below hC).ac.at_ hlt
        have hbv := below_val (w := wr) #[.int .i64 a.t, .slice a.A a.m a.c, .int .i64 a.q] 57
        have kc := Blk.new wr 57 #[.int .i64 a.t, .slice a.A a.m a.c, .int .i64 a.q]
        have e0' := (hbv.cell (p := ⟨ba, oa + i1 * 5, none⟩) hba).trans e0
        have hC1 := bstep hC hbv
        have HNC := hide (fun (X : World) => same_chgK (T := 0) (d := []) (c := 0) (c' := 0) (chgr_nil X X.heap.size) (chgr_nil X X.heap.size) ⟨rfl, nofun⟩ ⟨rfl, nofun⟩)
        clear hak e1 hrow
        by_cases hk0 : a.k = 0
        case pos =>
          have zk : (a.k == 0) = true := by simpa using hk0
          clear hk0
          go_wp2_with fail
          obtain ⟨W5, hW5⟩ : ∃ W5, wr.alloc (.cells #[.int .i64 a.t, .slice a.A a.m a.c, .int .i64 a.q] 57) = W5 := ⟨_, rfl⟩
          obtain ⟨cb, hcb⟩ : ∃ cb, wr.heap.size = cb := ⟨_, rfl⟩
          rw [hW5] at kc hC1 ⊢
          try rw [hcb]
          rw [hcb] at kc
          clear hW5 hcb hbv hC e0 e0' e2 e3 e4
          refine (KLeft_nil a.t a.A a.m a.c a.q W5).mono ?_
          rintro e W6 ⟨rfl, hb⟩
          have hC2 := bstep hC1 hb
          have kc2 := kc.below hb kc.lt
          clear hb hC1 kc
          have g0 : W6.cell? ⟨cb, 0, none⟩ = some (.int .i64 a.t) := by simpa using kc2.cell 0
          have g1 : W6.cell? ⟨cb, 1, none⟩ = some (.slice a.A a.m a.c) := by simpa using kc2.cell 1
          have g2 : W6.cell? ⟨cb, 2, none⟩ = some (.int .i64 a.q) := by simpa using kc2.cell 2
          go_wp2_with fail
          refine (RKLeft_nil a.t a.A a.m a.c a.q W6).mono ?_
          rintro e W7 ⟨rfl, hb⟩
          have hC3 := bstep hC2 hb
          clear hb hC2 kc2 g0 g1 g2
          go_wp2_with fail
          refine (HNC.out W7).mono ?_
          rintro e W8 ⟨rfl, hb⟩
          have HC4 := hide (bstep hC3 hb)
          clear hb hC3
          go_wp2
          go_roundw
          case rel => exact ⟨i1 + 1, by omega, by go_num, HC4.out⟩
          case measure => simp [intOf]; omega
        case neg =>
          have zk : (a.k == 0) = false := by simpa using hk0
          clear hk0
          go_wp2_with fail
          obtain ⟨W5, hW5⟩ : ∃ W5, wr.alloc (.cells #[.int .i64 a.t, .slice a.A a.m a.c, .int .i64 a.q] 57) = W5 := ⟨_, rfl⟩
          obtain ⟨cb, hcb⟩ : ∃ cb, wr.heap.size = cb := ⟨_, rfl⟩
          rw [hW5] at kc hC1 ⊢
          try rw [hcb]
          rw [hcb] at kc
          clear hW5 hcb hbv hC e0 e0' e2 e3 e4
          refine (KRight_nil a.t a.A a.m a.c a.q W5).mono ?_
          rintro e W6 ⟨rfl, hb⟩
          have hC2 := bstep hC1 hb
          have kc2 := kc.below hb kc.lt
          clear hb hC1 kc
          have g0 : W6.cell? ⟨cb, 0, none⟩ = some (.int .i64 a.t) := by simpa using kc2.cell 0
          have g1 : W6.cell? ⟨cb, 1, none⟩ = some (.slice a.A a.m a.c) := by simpa using kc2.cell 1
          have g2 : W6.cell? ⟨cb, 2, none⟩ = some (.int .i64 a.q) := by simpa using kc2.cell 2
          go_wp2_with fail
          refine (RKRight_nil a.t a.A a.m a.c a.q W6).mono ?_
          rintro e W7 ⟨rfl, hb⟩
          have hC3 := bstep hC2 hb
          clear hb hC2 kc2 g0 g1 g2
          go_wp2_with fail
          refine (HNC.out W7).mono ?_
          rintro e W8 ⟨rfl, hb⟩
          have HC4 := hide (bstep hC3 hb)
          clear hb hC3
          go_wp2
          go_roundw
          case rel => exact ⟨i1 + 1, by omega, by go_num, HC4.out⟩
          case measure => simp [intOf]; omega
      · obtain rfl : n3 = i1 := by omega
        have hBf := bstep hB4 hC
        have htab := (HBS4.out.below hC).tab
        clear hC hB4
        go_wp2_with fail
        refine (awake9_any wr htab).mono ?_
        rintro e W9 ⟨rfl, hb⟩
        have HB := hide (bstep hBf hb)
        clear hb hBf htab
        go_wp2
        go_ret
        exact ⟨rfl, HB.out⟩
  case pos =>
    rw [if_pos hS] at hres
    obtain ⟨b, s, k, rfl, hbge, hkp, hok, e1, e2, e3, e4, e5⟩ := hres
    have HS := hide hS
    have HKP := hide hkp
    have hblt := hkp.lt
    clear hS hkp
    go_wp2_with fail
    refine HRK.out.mono ?_
    rintro e W4 ⟨hb, hres⟩
    rw [if_pos HS.out] at hres
    obtain ⟨b2, s2, rfl, hb2ge, hkr0⟩ := hres
    have hkr := hkr0 k e1 e2 e3 e4 e5
    clear hkr0
    subst e1 e2 e3 e4 e5
    have hB4 := bstep HB3.out hb
    have hbs4 := HBS3.out.below hb
    have hkp4 := HKP.out.below hb
    have hlt4 := hb.size
    have hkbl := hbs4.ky.lt
    have hK0 : KS5 W4 W4 b b2 s s2 k [] [] [] [] (.slice none 0 0) (kpJ k [] []) (.slice none 0 0) [] (.slice none 0 0) [] :=
      ⟨⟨_, _, _, hkp4⟩, ⟨_, _, hkr⟩, (BgV.nil _).w, BgV.nil _, BgV.nil _, Turn.refl _ _, by omega, by omega, hkr.lt⟩
    have hk0 := Kp2.nil hok
    have HKN := hide (show kb ∉ [b, b2] from by
      have h5 := HBS3.out.ky.lt
      have h6 := HKP.out.lt
      have h7 := hbge
      simp
      refine ⟨?_, by omega⟩
      have h8 := HKL.out
      omega)
    have HOK := hide hok
    have HBB := hide (show w.heap.size ≤ b ∧ w.heap.size ≤ b2 from by
      have h7 := HB3.out.size
      have h8 := HB2S.out
      omega)
    have HBS4 := hide hbs4
    clear hb d0 d1 d2 d3 d4 HRK HBS3 HB3 HS HKP hkp4 hkr hbs4 hbge hb2ge hblt hlt4 hok
    go_wp2_with fail
    go_loopw [9, 10, 11, 12] (fun v9 v10 v11 i wr => ∃ (i1 : Nat) (u9 u10 u11 : Value) (l r : Bg), i1 ≤ n3 ∧ i = .int .i64 i1 ∧ u9 = v9 ∧ u10 = v10 ∧ u11 = v11 ∧ KS5 W4 wr b b2 s s2 k l r l r u9 (kpJ k l r) u10 l u11 r ∧ Kp2 k l r i1) (fun _ _ _ i _ => n3 - (intOf i).toNat)
    case atStart => exact ⟨0, _, _, _, [], [], Nat.zero_le _, rfl, rfl, rfl, rfl, hK0, hk0⟩
    case round =>
      clear hK0 hk0
      obtain ⟨i1, v9, v10, v11, l, r, hi1, rfl, rfl, rfl, rfl, hK, hk2⟩ := hrel
      obtain ⟨A9, n9, c9, rfl⟩ := hK.h9.slice
      obtain ⟨A10, n10, c10, rfl⟩ := hK.h10.slice
      obtain ⟨A11, n11, c11, rfl⟩ := hK.h11.slice
      have hbsr := HBS4.out.turn hK.tn HKN.out
      by_cases hlt : i1 < n3
      · have q1 : (0 : Int) ≤ (i1 : Int) := by omega
        have q2 : (i1 : Int) < (n3 : Int) := by omega
        obtain ⟨ba, oa, a, rfl, hba, hak, e0, e1, e2, e3, e4, hrow, hcap⟩ := hbsr.ac.at_ hlt
        have HK2 := hide hk2
        have hbv := below_val (w := wr) #[.int .i64 a.t, .slice a.A a.m a.c, .int .i64 a.q] 57
        have kc := Blk.new wr 57 #[.int .i64 a.t, .slice a.A a.m a.c, .int .i64 a.q]
        have hK1 := hK.below hbv
        have hbs5 := hbsr.below hbv
        have hrow5 := (hrow.below hbv).mono hbv.size
        have e05 := (hbv.cell (p := ⟨ba, oa + i1 * 5, none⟩) hba).trans e0
        have hcbn : wr.heap.size ∉ [b, b2] := by
          have h5 := hK.lt
          have h6 := hK.tn.size
          simp
          omega
        clear hk2 hak e1
        by_cases hk0 : a.k = 0
        case pos =>
          have zk : (a.k == 0) = true := by simpa using hk0
          clear hk0
          go_wp2_with fail
          obtain ⟨W5, hW5⟩ : ∃ W5, wr.alloc (.cells #[.int .i64 a.t, .slice a.A a.m a.c, .int .i64 a.q] 57) = W5 := ⟨_, rfl⟩
          obtain ⟨cb, hcb⟩ : ∃ cb, wr.heap.size = cb := ⟨_, rfl⟩
          rw [hW5] at kc hK1 hbs5 hrow5 e05 ⊢
          try rw [hcb]
          rw [hcb] at kc hcbn
          clear hW5 hcb hbv hK e0 e2 e3 e4 hbsr hrow
          obtain ⟨E, hE⟩ : ∃ E, kpE k true l r a.t a.r a.q = E := ⟨_, rfl⟩
          obtain ⟨vL, vR, vN, hkp⟩ := hK1.kp
          refine (KLeft_any a.t a.A a.m a.c a.r a.q W5 hkp HK2.out (by omega) hrow5 hbs5.tab).mono ?_
          rintro e W6 ⟨A0, n0, c0, lc, he, hlc, hch, htn, hko⟩
          rw [hE] at he
          subst he
          have hK2 := hK1.told htn hko
          have hT6 : Turn [b, b2] W5 W6 := htn.more (by simp)
          have kc6 := kc.turn hT6 hcbn
          clear hkp hK1 htn hko
          have g0 : W6.cell? ⟨cb, 0, none⟩ = some (.int .i64 a.t) := by simpa using kc6.cell 0
          have g1 : W6.cell? ⟨cb, 1, none⟩ = some (.slice a.A a.m a.c) := by simpa using kc6.cell 1
          have g2 : W6.cell? ⟨cb, 2, none⟩ = some (.int .i64 a.q) := by simpa using kc6.cell 2
          go_wp2_with fail
          obtain ⟨uL, uR, hkr⟩ := hK2.kr
          refine (RKLeft_any a.t a.A a.m a.c a.r a.q W6 hkr HK2.out (by omega) (hrow5.turn hT6)).mono ?_
          rintro e W7 ⟨A0', n0', c0', lc2, he, hlc2, hch2, htn, hko⟩
          rw [hE] at he
          subst he
          have hK3 := hK2.told2 htn hko
          have hT7 := hT6.trans (htn.more (X' := [b, b2]) (by simp))
          have hch7 := hch.turn htn
          have HC := hide (same_chgK (c := c0) (c' := c0') hch7 hch2 hlc hlc2)
          clear hkr hK2 htn hko kc6 g0 g1 g2 hT6 hch hch2 hlc2
          have zE : (E != E) = false := by simp
          go_wp2_with fail
          refine HC.out.mono ?_
          rintro e W8 ⟨rfl, hb⟩
          have hK4 := hK3.below hb
          have hT8 := hT7.below hb
          have hch8 := (hch7.below hb)
          have hch8 : ChgR W8 W8.heap.size A0 n0 lc := ⟨hch8.rd, fun i hi => (hch8.rows i hi).mono hb.size, hch8.le⟩
          clear hb hK3 hT7 hch7 HC
          have HE := hide hE
          have hk3 := HK2.out.tell true a.t a.r a.q
          by_cases h0 : E = 0
          case neg =>
            have z0 : (E != 0) = true := by simpa using h0
            obtain ⟨eL, eR⟩ := kpL_no (show ¬ kpE k true l r a.t a.r a.q = 0 from by rw [hE]; exact h0)
            rw [eL, eR] at hK4 hk3
            have HKF := hide hK4
            have HK3 := hide hk3
            clear hE h0 hK4 hk3 hT8 hch8 hlc eL eR
            go_wp2
            go_roundw
            case rel => exact ⟨i1 + 1, _, _, _, l, r, by omega, by go_num, rfl, rfl, rfl, HKF.out, HK3.out⟩
            case measure => simp [intOf]; omega
          case pos =>
            subst h0
            obtain ⟨eL, eR⟩ := kpL_yes hE
            have hat := HK2.out.after true a.t a.r a.q
            have hokc := kp_chs hE hlc.1 hlc.2
            obtain ⟨hin1, _, _, _, _, _⟩ := kp_in hE
            obtain ⟨_, hokr, hnm⟩ := okCh_inK hin1
            have HIN := hide (show okR a.r = true ∧ numB a.q = true from ⟨hokr, hnm⟩)
            obtain ⟨l', hl'⟩ : ∃ l', kpL k true l r a.t a.r a.q = l' := ⟨_, rfl⟩
            obtain ⟨r', hr'⟩ : ∃ r', kpR k true l r a.t a.r a.q = r' := ⟨_, rfl⟩
            rw [hl', hr'] at hK4 hk3 hat
            rw [hl'] at eL
            rw [hr'] at eR
            have HK3 := hide hk3
            obtain ⟨B9, m9, d9, l9, ev, hd9, hb9, hc9⟩ := hK4.h9
            injection ev with ev1 ev2 ev3
            subst ev1 ev2 ev3
            have hAf := RAfter_any A9 n9 c9 l9 A0 n0 c0 lc W8 hb9 hc9 hch8 (by rw [hd9]; exact HK2.out.j) hokc
            rw [hd9, show chD lc = kpC k true l r a.t a.r a.q from hlc.1, hat] at hAf
            have HAf := hide hAf
            have HLR := hide (show l' = lft2 true l (putB (own2 true l r) a.r a.q) ∧ r' = rgt2 true r (putB (own2 true l r) a.r a.q) from ⟨eL, eR⟩)
            clear hE hk3 hat hokc hin1 hokr hnm hl' hr' eL eR hAf hd9 hb9 hc9 hlc hch8
            go_wp2_with fail
            refine HAf.out.mono ?_
            rintro e W9 ⟨B9, m9, d9, l9, rfl, hd9, hb9, hc9, hb⟩
            have hK5 := (hK4.below hb).set9 ⟨B9, m9, d9, l9, rfl, hd9, hb9, hc9⟩
            have hT9 := hT8.below hb
            clear hb hK4 hT8 HAf hd9 hb9 hc9
            have e09 := hT9.keep _ _ e05 nofun
            have kc9 := kc.turn hT9 hcbn
            have g1 : W9.cell? ⟨cb, 1, none⟩ = some (.slice a.A a.m a.c) := by simpa using kc9.cell 1
            have g2 : W9.cell? ⟨cb, 2, none⟩ = some (.int .i64 a.q) := by simpa using kc9.cell 2
            have hPI := put_in (cr := a.c) hK5.h10 HK2.out.sl (by omega) (hrow5.turn hT9) HIN.out.1 HIN.out.2
            obtain ⟨Bp, mp, dp, ev, hPu⟩ := hPI
            injection ev with ev1 ev2 ev3
            subst ev1 ev2 ev3
            have HPu := hide hPu
            clear hPu
            go_wp2_with fail
            refine HPu.out.mono ?_
            rintro e W10 ⟨Bp, mp, dp, lp, rfl, hdp, hbp, hcp, hkp, hb⟩
            have hK6 := ((hK5.below hb).set10 (d := l') ⟨Bp, mp, dp, lp, rfl, by rw [hdp]; exact HLR.out.1.symm, hbp, hcp, hkp⟩).eq11 (d := r') (show r = r' from HLR.out.2.symm)
            have hT10 := hT9.below hb
            clear hb hK5 hT9 HPu hdp hbp hcp hkp e09 kc9 g1 g2
            obtain ⟨vL, vR, vN, hkp⟩ := hK6.kp
            have HNw := hide (KNow_any W10 hkp HK3.out.j)
            clear hkp
            go_wp2_with fail
            refine HNw.out.mono ?_
            rintro e W11 ⟨An, nn, cn, ln, rfl, hdn, hbn, hcn, hb⟩
            have hK7 := hK6.below hb
            have hT11 := hT10.below hb
            clear hb hK6 hT10 HNw
            have hbs11 := hbs5.turn hT11 HKN.out
            obtain ⟨X10, y10, z10, l10, ev10, hd10, hb10, hc10, hk10⟩ := hK7.h10
            obtain ⟨X11, y11, z11, l11, ev11, hd11, hb11, hc11, hk11⟩ := hK7.h11
            have hm10 : y10 ≤ 60 := by have h5 := HK3.out.sl.cnt; rw [← hd10, dat_len, hb10.len] at h5; omega
            have hm11 : y11 ≤ 60 := by have h5 := HK3.out.sr.cnt; rw [← hd11, dat_len, hb11.len] at h5; omega
            have hOu := Outer_any k.kind A1 n1 c1 k.on A2 n2 c2 k.others (k.a : Int) (k.b : Int) X10 y10 z10 l10 X11 y11 z11 l11 W11 hbs11.on hbs11.ot (by omega) (by omega) hb10 hb11 hm10 hm11 hk10 hk11 hbs11.tab
            rw [hd10, hd11, HK3.out.outer] at hOu
            injection ev10 with w1 w2 w3
            injection ev11 with w4 w5 w6
            subst w1 w2 w3 w4 w5 w6
            have HOu := hide hOu
            have d0 : W11.cell? ⟨kb, 0, none⟩ = some (.slice A1 n1 c1) := by simpa using hbs11.ky.cell 0
            have d1 : W11.cell? ⟨kb, 1, none⟩ = some (.slice A2 n2 c2) := by simpa using hbs11.ky.cell 1
            have d2 : W11.cell? ⟨kb, 2, none⟩ = some (.int .i64 (k.a : Int)) := by simpa using hbs11.ky.cell 2
            have d3 : W11.cell? ⟨kb, 3, none⟩ = some (.int .i64 (k.b : Int)) := by simpa using hbs11.ky.cell 3
            have d4 : W11.cell? ⟨kb, 4, none⟩ = some (.int .i64 k.kind) := by simpa using hbs11.ky.cell 4
            clear hOu hd10 hb10 hc10 hk10 hd11 hb11 hc11 hk11 hm10 hm11 hbs11
            go_wp2_with fail
            refine HOu.out.mono ?_
            rintro e W12 ⟨Ao, no, co, lo', rfl, hdo, hgo, hco, _, hb⟩
            have hK8 := hK7.below hb
            have hbn := (hbn.below hb).mono hb.size
            have hgo := hgo.mono (Nat.zero_le W12.heap.size)
            clear hb hK7 hT11 HOu d0 d1 d2 d3 d4
            obtain ⟨B9', m9', d9', l9', ev, hd9, hb9, hc9⟩ := hK8.h9
            injection ev with ev1 ev2 ev3
            subst ev1 ev2 ev3
            have HS1 := hide (Same_datK (c := cn) (c' := d9) hbn hb9 (by rw [hdn, hd9]))
            clear hd9 hb9 hc9
            go_wp2_with fail
            refine HS1.out.mono ?_
            rintro e W13 ⟨rfl, hb⟩
            have hK9 := hK8.below hb
            have HS2 := hide (Same_datK (c := cn) (c' := co) ((hbn.below hb).mono hb.size) ((hgo.below hb).mono hb.size) (by rw [hdn, hdo]))
            clear hb hK8 HS1 hbn hgo hdn hdo
            go_wp2_with fail
            refine HS2.out.mono ?_
            rintro e W14 ⟨rfl, hb⟩
            have HKF := hide (hK9.below hb)
            clear hb hK9 HS2
            go_wp2
            go_roundw
            case rel => exact ⟨i1 + 1, _, _, _, l', r', by omega, by go_num, rfl, rfl, rfl, HKF.out, HK3.out⟩
            case measure => simp [intOf]; omega
        case neg =>
          have zk : (a.k == 0) = false := by simpa using hk0
          clear hk0
          go_wp2_with fail
          obtain ⟨W5, hW5⟩ : ∃ W5, wr.alloc (.cells #[.int .i64 a.t, .slice a.A a.m a.c, .int .i64 a.q] 57) = W5 := ⟨_, rfl⟩
          obtain ⟨cb, hcb⟩ : ∃ cb, wr.heap.size = cb := ⟨_, rfl⟩
          rw [hW5] at kc hK1 hbs5 hrow5 e05 ⊢
          try rw [hcb]
          rw [hcb] at kc hcbn
          clear hW5 hcb hbv hK e0 e2 e3 e4 hbsr hrow
          obtain ⟨E, hE⟩ : ∃ E, kpE k false l r a.t a.r a.q = E := ⟨_, rfl⟩
          obtain ⟨vL, vR, vN, hkp⟩ := hK1.kp
          refine (KRight_any a.t a.A a.m a.c a.r a.q W5 hkp HK2.out (by omega) hrow5 hbs5.tab).mono ?_
          rintro e W6 ⟨A0, n0, c0, lc, he, hlc, hch, htn, hko⟩
          rw [hE] at he
          subst he
          have hK2 := hK1.told htn hko
          have hT6 : Turn [b, b2] W5 W6 := htn.more (by simp)
          have kc6 := kc.turn hT6 hcbn
          clear hkp hK1 htn hko
          have g0 : W6.cell? ⟨cb, 0, none⟩ = some (.int .i64 a.t) := by simpa using kc6.cell 0
          have g1 : W6.cell? ⟨cb, 1, none⟩ = some (.slice a.A a.m a.c) := by simpa using kc6.cell 1
          have g2 : W6.cell? ⟨cb, 2, none⟩ = some (.int .i64 a.q) := by simpa using kc6.cell 2
          go_wp2_with fail
          obtain ⟨uL, uR, hkr⟩ := hK2.kr
          refine (RKRight_any a.t a.A a.m a.c a.r a.q W6 hkr HK2.out (by omega) (hrow5.turn hT6)).mono ?_
          rintro e W7 ⟨A0', n0', c0', lc2, he, hlc2, hch2, htn, hko⟩
          rw [hE] at he
          subst he
          have hK3 := hK2.told2 htn hko
          have hT7 := hT6.trans (htn.more (X' := [b, b2]) (by simp))
          have hch7 := hch.turn htn
          have HC := hide (same_chgK (c := c0) (c' := c0') hch7 hch2 hlc hlc2)
          clear hkr hK2 htn hko kc6 g0 g1 g2 hT6 hch hch2 hlc2
          have zE : (E != E) = false := by simp
          go_wp2_with fail
          refine HC.out.mono ?_
          rintro e W8 ⟨rfl, hb⟩
          have hK4 := hK3.below hb
          have hT8 := hT7.below hb
          have hch8 := (hch7.below hb)
          have hch8 : ChgR W8 W8.heap.size A0 n0 lc := ⟨hch8.rd, fun i hi => (hch8.rows i hi).mono hb.size, hch8.le⟩
          clear hb hK3 hT7 hch7 HC
          have HE := hide hE
          have hk3 := HK2.out.tell false a.t a.r a.q
          by_cases h0 : E = 0
          case neg =>
            have z0 : (E != 0) = true := by simpa using h0
            obtain ⟨eL, eR⟩ := kpL_no (show ¬ kpE k false l r a.t a.r a.q = 0 from by rw [hE]; exact h0)
            rw [eL, eR] at hK4 hk3
            have HKF := hide hK4
            have HK3 := hide hk3
            clear hE h0 hK4 hk3 hT8 hch8 hlc eL eR
            go_wp2
            go_roundw
            case rel => exact ⟨i1 + 1, _, _, _, l, r, by omega, by go_num, rfl, rfl, rfl, HKF.out, HK3.out⟩
            case measure => simp [intOf]; omega
          case pos =>
            subst h0
            obtain ⟨eL, eR⟩ := kpL_yes hE
            have hat := HK2.out.after false a.t a.r a.q
            have hokc := kp_chs hE hlc.1 hlc.2
            obtain ⟨hin1, _, _, _, _, _⟩ := kp_in hE
            obtain ⟨_, hokr, hnm⟩ := okCh_inK hin1
            have HIN := hide (show okR a.r = true ∧ numB a.q = true from ⟨hokr, hnm⟩)
            obtain ⟨l', hl'⟩ : ∃ l', kpL k false l r a.t a.r a.q = l' := ⟨_, rfl⟩
            obtain ⟨r', hr'⟩ : ∃ r', kpR k false l r a.t a.r a.q = r' := ⟨_, rfl⟩
            rw [hl', hr'] at hK4 hk3 hat
            rw [hl'] at eL
            rw [hr'] at eR
            have HK3 := hide hk3
            obtain ⟨B9, m9, d9, l9, ev, hd9, hb9, hc9⟩ := hK4.h9
            injection ev with ev1 ev2 ev3
            subst ev1 ev2 ev3
            have hAf := RAfter_any A9 n9 c9 l9 A0 n0 c0 lc W8 hb9 hc9 hch8 (by rw [hd9]; exact HK2.out.j) hokc
            rw [hd9, show chD lc = kpC k false l r a.t a.r a.q from hlc.1, hat] at hAf
            have HAf := hide hAf
            have HLR := hide (show l' = lft2 false l (putB (own2 false l r) a.r a.q) ∧ r' = rgt2 false r (putB (own2 false l r) a.r a.q) from ⟨eL, eR⟩)
            clear hE hk3 hat hokc hin1 hokr hnm hl' hr' eL eR hAf hd9 hb9 hc9 hlc hch8
            go_wp2_with fail
            refine HAf.out.mono ?_
            rintro e W9 ⟨B9, m9, d9, l9, rfl, hd9, hb9, hc9, hb⟩
            have hK5 := (hK4.below hb).set9 ⟨B9, m9, d9, l9, rfl, hd9, hb9, hc9⟩
            have hT9 := hT8.below hb
            clear hb hK4 hT8 HAf hd9 hb9 hc9
            have e09 := hT9.keep _ _ e05 nofun
            have kc9 := kc.turn hT9 hcbn
            have g1 : W9.cell? ⟨cb, 1, none⟩ = some (.slice a.A a.m a.c) := by simpa using kc9.cell 1
            have g2 : W9.cell? ⟨cb, 2, none⟩ = some (.int .i64 a.q) := by simpa using kc9.cell 2
            have hPI := put_in (cr := a.c) hK5.h11 HK2.out.sr (by omega) (hrow5.turn hT9) HIN.out.1 HIN.out.2
            obtain ⟨Bp, mp, dp, ev, hPu⟩ := hPI
            injection ev with ev1 ev2 ev3
            subst ev1 ev2 ev3
            have HPu := hide hPu
            clear hPu
            go_wp2_with fail
            refine HPu.out.mono ?_
            rintro e W10 ⟨Bp, mp, dp, lp, rfl, hdp, hbp, hcp, hkp, hb⟩
            have hK6 := ((hK5.below hb).set11 (d := r') ⟨Bp, mp, dp, lp, rfl, by rw [hdp]; exact HLR.out.2.symm, hbp, hcp, hkp⟩).eq10 (d := l') (show l = l' from HLR.out.1.symm)
            have hT10 := hT9.below hb
            clear hb hK5 hT9 HPu hdp hbp hcp hkp e09 kc9 g1 g2
            obtain ⟨vL, vR, vN, hkp⟩ := hK6.kp
            have HNw := hide (KNow_any W10 hkp HK3.out.j)
            clear hkp
            go_wp2_with fail
            refine HNw.out.mono ?_
            rintro e W11 ⟨An, nn, cn, ln, rfl, hdn, hbn, hcn, hb⟩
            have hK7 := hK6.below hb
            have hT11 := hT10.below hb
            clear hb hK6 hT10 HNw
            have hbs11 := hbs5.turn hT11 HKN.out
            obtain ⟨X10, y10, z10, l10, ev10, hd10, hb10, hc10, hk10⟩ := hK7.h10
            obtain ⟨X11, y11, z11, l11, ev11, hd11, hb11, hc11, hk11⟩ := hK7.h11
            have hm10 : y10 ≤ 60 := by have h5 := HK3.out.sl.cnt; rw [← hd10, dat_len, hb10.len] at h5; omega
            have hm11 : y11 ≤ 60 := by have h5 := HK3.out.sr.cnt; rw [← hd11, dat_len, hb11.len] at h5; omega
            have hOu := Outer_any k.kind A1 n1 c1 k.on A2 n2 c2 k.others (k.a : Int) (k.b : Int) X10 y10 z10 l10 X11 y11 z11 l11 W11 hbs11.on hbs11.ot (by omega) (by omega) hb10 hb11 hm10 hm11 hk10 hk11 hbs11.tab
            rw [hd10, hd11, HK3.out.outer] at hOu
            injection ev10 with w1 w2 w3
            injection ev11 with w4 w5 w6
            subst w1 w2 w3 w4 w5 w6
            have HOu := hide hOu
            have d0 : W11.cell? ⟨kb, 0, none⟩ = some (.slice A1 n1 c1) := by simpa using hbs11.ky.cell 0
            have d1 : W11.cell? ⟨kb, 1, none⟩ = some (.slice A2 n2 c2) := by simpa using hbs11.ky.cell 1
            have d2 : W11.cell? ⟨kb, 2, none⟩ = some (.int .i64 (k.a : Int)) := by simpa using hbs11.ky.cell 2
            have d3 : W11.cell? ⟨kb, 3, none⟩ = some (.int .i64 (k.b : Int)) := by simpa using hbs11.ky.cell 3
            have d4 : W11.cell? ⟨kb, 4, none⟩ = some (.int .i64 k.kind) := by simpa using hbs11.ky.cell 4
            clear hOu hd10 hb10 hc10 hk10 hd11 hb11 hc11 hk11 hm10 hm11 hbs11
            go_wp2_with fail
            refine HOu.out.mono ?_
            rintro e W12 ⟨Ao, no, co, lo', rfl, hdo, hgo, hco, _, hb⟩
            have hK8 := hK7.below hb
            have hbn := (hbn.below hb).mono hb.size
            have hgo := hgo.mono (Nat.zero_le W12.heap.size)
            clear hb hK7 hT11 HOu d0 d1 d2 d3 d4
            obtain ⟨B9', m9', d9', l9', ev, hd9, hb9, hc9⟩ := hK8.h9
            injection ev with ev1 ev2 ev3
            subst ev1 ev2 ev3
            have HS1 := hide (Same_datK (c := cn) (c' := d9) hbn hb9 (by rw [hdn, hd9]))
            clear hd9 hb9 hc9
            go_wp2_with fail
            refine HS1.out.mono ?_
            rintro e W13 ⟨rfl, hb⟩
            have hK9 := hK8.below hb
            have HS2 := hide (Same_datK (c := cn) (c' := co) ((hbn.below hb).mono hb.size) ((hgo.below hb).mono hb.size) (by rw [hdn, hdo]))
            clear hb hK8 HS1 hbn hgo hdn hdo
            go_wp2_with fail
            refine HS2.out.mono ?_
            rintro e W14 ⟨rfl, hb⟩
            have HKF := hide (hK9.below hb)
            clear hb hK9 HS2
            go_wp2
            go_roundw
            case rel => exact ⟨i1 + 1, _, _, _, l', r', by omega, by go_num, rfl, rfl, rfl, HKF.out, HK3.out⟩
            case measure => simp [intOf]; omega
      · obtain rfl : n3 = i1 := by omega
        have hBf := hB4.trans (hK.tn.bar.below hB4.size (by simp; exact HBB.out))
        have htab := hbsr.tab
        clear hK hk2
        go_wp2_with fail
        refine (awake9_any wr htab).mono ?_
        rintro e W9 ⟨rfl, hb⟩
        have HB := hide (bstep hBf hb)
        clear hb hBf htab
        go_wp2
        go_ret
        exact ⟨rfl, HB.out⟩
end

end Go.Proofs.YtoapjidpfghnlaaGreatDoor
