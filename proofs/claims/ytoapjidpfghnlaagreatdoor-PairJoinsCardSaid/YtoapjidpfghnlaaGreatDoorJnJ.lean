/-
  The reference's Left and Right at a joiner; both joiners beside each other, told one act. No condition.
  Both joiners beside each other, told one act: both answer alike. No condition.
-/
import Derived.Test.YtoapjidpfghnlaaGreatDoorJnY
import Derived.Test.YtoapjidpfghnlaaGreatDoorJnYf
import Derived.Test.YtoapjidpfghnlaaGreatDoorJnZ
import Derived.Test.YtoapjidpfghnlaaGreatDoorJnK
import Derived.Test.YtoapjidpfghnlaaGreatDoorJnW0
import Derived.Test.YtoapjidpfghnlaaGreatDoorJnJ0
namespace Go.Proofs.YtoapjidpfghnlaaGreatDoor

section
open Go.RowKit
attribute [local go_sem] Oper.semAt_some wide_fn wide_depth
set_option linter.unusedVariables false
set_option linter.unusedSimpArgs false

theorem RetRs.up {left : Bool} {w w0 w' : World} {base b : Nat} {s : JoS} {mk : Int} {vL vR : Value} {Ll Rl : List Ch} {c : Th} {e : Ending} (hB : Below w.heap.size w w0) (h : RetRs left w0 base b s mk vL Ll vR Rl c e w') : RetRs left w base b s mk vL Ll vR Rl c e w' := by
  obtain ⟨A, n, cc, lst, E, e1, e2, e3, e4, e5⟩ := h
  exact ⟨A, n, cc, lst, E, e1, e2, e3, (FrP.of_below hB).trans e4 (fun k hk => .inl hk), e5⟩
theorem RetRs.shape {left : Bool} {w w' : World} {base b : Nat} {s : JoS} {mk : Int} {vL vR : Value} {Ll Rl : List Ch} {c : Th} {e : Ending} (h : RetRs left w base b s mk vL Ll vR Rl c e w') :
    ∃ A n cc E, e = .returned (.tuple #[.slice A n cc, .int .i64 E]) ∧ RetRs left w base b s mk vL Ll vR Rl c (.returned (.tuple #[.slice A n cc, .int .i64 E])) w' := by
  have h' := h
  obtain ⟨A, n, cc, lst, E, e1, _⟩ := h
  subst e1
  exact ⟨A, n, cc, E, rfl, h'⟩
set_option maxRecDepth 100000 in
set_option maxHeartbeats 2000000 in
theorem RLeftJ_any {base b q : Nat} {s : JoS} {mk : Int} {vL vR : Value} {Ll Rl : List Ch} (t : Int) (Ar : Option Addr) (nr cr : Nat) (x : Rw) (m : Int) (w : World) (h : JR w base b s mk vL Ll vR Rl)
    (hbl : BdT s.on q (Ll.map thC)) (hbr : BdT s.others q (Rl.map thC)) (hnn : s.on.length = s.others.length) (hq : q ≤ 40) (hbase : base ≤ w.heap.size) (hn1 : s.n1 ≤ 1000) (hn2 : s.n2 ≤ 1000) (hr : RowK w w.heap.size Ar nr x) (hm : -100 ≤ m ∧ m ≤ 100) :
    Calls Tryz.prog 44 #[.pointer (some ⟨b, 0, none⟩), .agg #[.int .i64 t, .slice Ar nr cr, .int .i64 m]] w (RetRs true w base b s mk vL Ll vR Rl ⟨t, m, x⟩) := by
  have hB := below_val (w := w) #[.int .i64 t, .slice Ar nr cr, .int .i64 m] 57
  have kb := Blk.new w 57 #[.int .i64 t, .slice Ar nr cr, .int .i64 m]
  have b0 := kb.cell 0
  have b1 := kb.cell 1
  have b2 := kb.cell 2
  simp at b0 b1 b2
  have HHC := hide (rside_true t Ar nr cr x m _ (h.below hB) hbl hbr hnn hq (Nat.le_trans hbase hB.size) hn1 hn2 ((hr.below hB).mono hB.size) hm)
  have HB := hide hB
  clear hB kb h hbl hbr hnn hr
  go_enter Tryz.func44, Tryz.ntmps44
  go_wp2_with fail
  refine HHC.out.mono ?_
  intro e W2 hres
  obtain ⟨A, n, cc, E, rfl, hres⟩ := hres.shape
  have HR := hide (hres.up HB.out)
  clear hres b0 b1 b2 HHC
  go_wp2
  refine bodyPost_ret (results_tmp2 rfl _ _ _) rfl ?_
  exact HR.out
set_option maxRecDepth 100000 in
set_option maxHeartbeats 2000000 in
theorem RRightJ_any {base b q : Nat} {s : JoS} {mk : Int} {vL vR : Value} {Ll Rl : List Ch} (t : Int) (Ar : Option Addr) (nr cr : Nat) (x : Rw) (m : Int) (w : World) (h : JR w base b s mk vL Ll vR Rl)
    (hbl : BdT s.on q (Ll.map thC)) (hbr : BdT s.others q (Rl.map thC)) (hnn : s.on.length = s.others.length) (hq : q ≤ 40) (hbase : base ≤ w.heap.size) (hn1 : s.n1 ≤ 1000) (hn2 : s.n2 ≤ 1000) (hr : RowK w w.heap.size Ar nr x) (hm : -100 ≤ m ∧ m ≤ 100) :
    Calls Tryz.prog 45 #[.pointer (some ⟨b, 0, none⟩), .agg #[.int .i64 t, .slice Ar nr cr, .int .i64 m]] w (RetRs false w base b s mk vL Ll vR Rl ⟨t, m, x⟩) := by
  have hB := below_val (w := w) #[.int .i64 t, .slice Ar nr cr, .int .i64 m] 57
  have kb := Blk.new w 57 #[.int .i64 t, .slice Ar nr cr, .int .i64 m]
  have b0 := kb.cell 0
  have b1 := kb.cell 1
  have b2 := kb.cell 2
  simp at b0 b1 b2
  have HHC := hide (rside_false t Ar nr cr x m _ (h.below hB) hbl hbr hnn hq (Nat.le_trans hbase hB.size) hn1 hn2 ((hr.below hB).mono hB.size) hm)
  have HB := hide hB
  clear hB kb h hbl hbr hnn hr
  go_enter Tryz.func45, Tryz.ntmps45
  go_wp2_with fail
  refine HHC.out.mono ?_
  intro e W2 hres
  obtain ⟨A, n, cc, E, rfl, hres⟩ := hres.shape
  have HR := hide (hres.up HB.out)
  clear hres b0 b1 b2 HHC
  go_wp2
  refine bodyPost_ret (results_tmp2 rfl _ _ _) rfl ?_
  exact HR.out
set_option maxRecDepth 100000 in
set_option maxHeartbeats 2000000 in
theorem RRightJ_nil (t : Int) (Ar : Option Addr) (nr cr : Nat) (m : Int) (w : World) : Calls Tryz.prog 45 #[.pointer none, .agg #[.int .i64 t, .slice Ar nr cr, .int .i64 m]] w (fun e w' => e = .returned (.tuple #[.slice none 0 0, .int .i64 1]) ∧ Below w.heap.size w w') := by
  have hB := below_val (w := w) #[.int .i64 t, .slice Ar nr cr, .int .i64 m] 57
  have kb := Blk.new w 57 #[.int .i64 t, .slice Ar nr cr, .int .i64 m]
  have b0 := kb.cell 0
  have b1 := kb.cell 1
  have b2 := kb.cell 2
  simp at b0 b1 b2
  have HC : ∀ X : World, Calls Tryz.prog 112 #[.pointer none, .agg #[.int .i64 t, .slice Ar nr cr, .int .i64 m], .bool false] X (fun e w' => e = .returned (.tuple #[.slice none 0 0, .int .i64 1]) ∧ Below X.heap.size X w') := fun X => by
    have hB2 := hide (below_val (w := X) #[.int .i64 t, .slice Ar nr cr, .int .i64 m] 57)
    clear hB kb b0 b1 b2
    go_enter Tryz.func112, Tryz.ntmps112
    go_wp2
    refine bodyPost_ret (results_tmp2 rfl _ _ _) rfl ?_
    exact ⟨rfl, hB2.out⟩
  have HHC := hide HC
  have HB := hide hB
  clear HC hB kb
  go_enter Tryz.func45, Tryz.ntmps45
  go_wp2_with fail
  refine (HHC.out _).mono ?_
  rintro e W2 ⟨rfl, hb⟩
  have HB2 := hide (bstep HB.out hb)
  clear hb b0 b1 b2
  go_wp2
  refine bodyPost_ret (results_tmp2 rfl _ _ _) rfl ?_
  exact ⟨rfl, HB2.out⟩
end

section
open Go.RowKit
attribute [local go_sem] Oper.semAt_some wide_fn wide_depth
set_option linter.unusedVariables false
set_option linter.unusedSimpArgs false

/-- What both joiners are made of. -/
structure JoF (s s2 : JoS) : Prop where
  on : s2.on = s.on
  ot : s2.others = s.others
  lo : s2.lo = s.lo
  hi : s2.hi = s.hi
  n1 : s.n1 ≤ 1000
  n2 : s.n2 ≤ 1000
  m1 : s2.n1 ≤ 1000
  m2 : s2.n2 ≤ 1000
  blo : -1000000000 ≤ s.lo ∧ s.lo ≤ 1000000000
  bhi : -1000000000 ≤ s.hi ∧ s.hi ≤ 1000000000
/-- Both joiners behind some acts: both nil, or both there. -/
def StJ (base i : Nat) (px py : Value) (W : World) : Prop :=
  (px = .pointer none ∧ py = .pointer none) ∨
  ∃ b bL bR b2 s s2 mk fL fR SL SR vL L vR R, px = .pointer (some ⟨b, 0, none⟩) ∧ py = .pointer (some ⟨b2, 0, none⟩) ∧ JO W base b bL bR s mk i fL fR SL SR ∧ JR W base b2 s2 mk vL L vR R ∧
    JSt s.on s.others i (L.map thC) (R.map thC) (mapT fL) (mapT fR) ∧ JoF s s2
theorem StJ.below {base i : Nat} {px py : Value} {W W' : World} (h : StJ base i px py W) (hb : Below W.heap.size W W') : StJ base i px py W' := by
  rcases h with h | ⟨b, bL, bR, b2, s, s2, mk, fL, fR, SL, SR, vL, L, vR, R, e1, e2, h1, h2, h3, h4⟩
  · exact .inl h
  · exact .inr ⟨b, bL, bR, b2, s, s2, mk, fL, fR, SL, SR, vL, L, vR, R, e1, e2, h1.below hb, h2.below hb, h3, h4⟩
/-- What a list that is handed back may hold. -/
def SmC (l : List Ch) : Prop := ∀ y ∈ l, (okR y.r = true ∧ -20000000 ≤ y.m ∧ y.m ≤ 20000000) ∧ y.n ≤ 1000
/-- Behind one act. -/
def RetJ (w w' : World) (base i : Nat) (px py : Value) (A : Option Addr) (n : Nat) (A' : Option Addr) (n' : Nat) : Prop :=
  ∃ lst lst', ChgR w' w'.heap.size A n lst ∧ ChgR w' w'.heap.size A' n' lst' ∧ n ≤ 40 ∧ n' ≤ 40 ∧ SmC lst ∧ SmC lst' ∧ (lst.map thC).Pairwise (fun x y => ¬ 0 < cmpR x.r y.r) ∧
    sumT (lst.map thC) = sumT (lst'.map thC) ∧ StJ base (i + 1) px py w' ∧ Below base w w'
theorem RetJ.none {w w' : World} {base i : Nat} {px py : Value} (h : StJ base (i + 1) px py w') (hb : Below base w w') : RetJ w w' base i px py none 0 none 0 :=
  ⟨[], [], chgr_none _ _, chgr_none _ _, by omega, by omega, nofun, nofun, List.Pairwise.nil, rfl, h, hb⟩
theorem jr_away {w : World} {base b bL bR b2 i : Nat} {s s2 : JoS} {mk mk2 : Int} {fL fR : List UInt8 → List Hd} {SL SR : Nat → Prop} {vL vR : Value} {L R : List Ch} (h : JO w base b bL bR s mk i fL fR SL SR) (k : JR w base b2 s2 mk2 vL L vR R) : ¬ jP b bL bR SL SR b2 := by
  have hk := k.blk
  rintro (e | e | e | e | e)
  · have h1 := h.blk
    rw [e] at hk
    unfold Blk at hk h1
    rw [h1] at hk
    injection hk with hk
    injection hk with _ hk
    exact absurd hk (by decide)
  · rw [e] at hk; exact h.l.map_not _ _ _ hk
  · rw [e] at hk; exact h.r.map_not _ _ _ hk
  · exact h.l.notS (blk_not hk (by decide)) e
  · exact h.r.notS (blk_not hk (by decide)) e
/-- What a call of a side leaves, both sides told. -/
theorem both_end {left : Bool} {base i b bL bR b2 : Nat} {s s2 : JoS} {mk : Int} {fL fR : List UInt8 → List Hd} {SL SR : Nat → Prop} {vL vR : Value} {L R : List Ch} {t m : Int} {x : Rw} {w W1 : World}
    (h1 : JO w base b bL bR s mk i fL fR SL SR) (h2 : JR w base b2 s2 mk vL L vR R) (h3 : JSt s.on s.others i (L.map thC) (R.map thC) (mapT fL) (mapT fR)) (h4 : JoF s s2) (hi : i < 40) (hbase : base ≤ w.heap.size) (hm : -100 ≤ m ∧ m ≤ 100) {e : Ending}
    (hl : RetLf left w base b bL bR s mk i fL fR SL SR ⟨t, m, x⟩ e W1) :
    ∃ A n cc E, e = .returned (.tuple #[.slice A n cc, .int .i64 E]) ∧ FrP (jP b bL bR SL SR) w W1 ∧ JR W1 base b2 s2 mk vL L vR R ∧
      ∀ e2 W2, RetRs left W1 base b2 s2 mk vL L vR R ⟨t, m, x⟩ e2 W2 → ∃ A' n' c', e2 = .returned (.tuple #[.slice A' n' c', .int .i64 E]) ∧ RetJ w W2 base i (.pointer (some ⟨b, 0, none⟩)) (.pointer (some ⟨b2, 0, none⟩)) A n A' n' := by
  obtain ⟨A, n, cc, lst, E, rfl, hE, hnc, hfr, hne, h0⟩ := hl
  have hJ1 := h2.frp hfr h1.quiet (jr_away h1 h2)
  refine ⟨A, n, cc, E, rfl, hfr, hJ1, fun e2 W2 hr => ?_⟩
  obtain ⟨A', n', c', lst', E', rfl, hE', hch', hfr', hne', h0'⟩ := hr
  obtain ⟨P1, P2, P3, P4, Q1, Q2, Q3, Q4, QB, QC⟩ := h4
  have hq1 := hJ1.quiet
  have hEE : E' = E := by
    rw [hE, hE']
    unfold ownS othS ownJ othF
    cases left
    · simp only [Bool.false_eq_true, if_false]
      rw [P1, P2, P3, P4]
      exact (tl_eq h3.jl h3.bl h3.n.symm).symm
    · simp only [if_true]
      rw [P1, P2, P3, P4]
      exact (tl_eq h3.jr h3.br h3.n).symm
  subst hEE
  have hbW1 : Below base w W1 := hfr.lows h1.quiet hbase
  have hbase1 : base ≤ W1.heap.size := Nat.le_trans hbase hbW1.size
  have hbW2 : Below base W1 W2 := hfr'.lows hq1 hbase1
  have hbW := hbW1.trans hbW2
  have hfar : ∀ (SL' SR' : Nat → Prop) (fL' fR' : List UInt8 → List Hd) (j : Nat), JO W1 base b bL bR s mk j fL' fR' SL' SR' → JO W2 base b bL bR s mk j fL' fR' SL' SR' := fun SL' SR' fL' fR' j hj =>
    hj.frp hfr' hq1 (by rintro k rfl; exact jr_away hj hJ1)
  have hncW2 : NC W2 w.heap.size base A n lst := hnc.frp hfr' hq1 (by rintro k rfl; exact h2.blk.lt)
  have hchA : ChgR W2 W2.heap.size A n lst := hncW2.chg (Nat.le_trans hbase hbW.size)
  refine ⟨A', n', c', rfl, ?_⟩
  by_cases hz : E' = 0
  · subst hz
    obtain ⟨hperm, hasc, fL', fR', SL', SR', hjo, hfl, hfr2⟩ := h0 rfl
    obtain ⟨hlst', vL', L', vR', R', hjr, hL', hR'⟩ := h0' rfl
    -- the side told and the other one
    obtain ⟨own, how⟩ : ∃ own, ownJ left s = own := ⟨_, rfl⟩
    obtain ⟨LO, hLO⟩ : ∃ l, (if left then R else L).map thC = l := ⟨_, rfl⟩
    have hgen : ∃ oth f, JOk oth LO f ∧ BdT oth i LO ∧ own.length = oth.length ∧ mapT (othF left fL fR) = f ∧ ownS left s2 = own ∧ othS left s2 = oth := by
      rw [← hLO, ← how]
      unfold ownS othS ownJ othF
      cases left
      · simp only [Bool.false_eq_true, if_false]
        exact ⟨s.on, _, h3.jl, h3.bl, h3.n.symm, rfl, P2, P1⟩
      · simp only [if_true]
        exact ⟨s.others, _, h3.jr, h3.br, h3.n, rfl, P1, P2⟩
    obtain ⟨oth, f, gj, gb, gn, gf, gw, go⟩ := hgen
    rw [how, gf] at hperm
    rw [gw, go, P3, P4, hLO] at hlst' hE'
    have hjn := hE'.symm
    obtain ⟨hok, hhas, hmk, hbad⟩ := jn_zero hjn
    have hxo := (okCh_at hok).1
    have hL40 : LO.length ≤ 40 := by have := gb.len; omega
    have hsm := jnL_small (c := ⟨t, m, x⟩) hxo hm (l := LO) (fun y hy => by
      have a1 := gb.ok y hy
      have a2 := gb.num y hy
      exact ⟨a1.1, by omega, by omega⟩) hbad
    have hp2 := hperm.trans (raw_perm (left := left) (lo := s.lo) (hi := s.hi) gj gb gn hxo)
    have hsum := sums_eq gj gb gn hjn hperm
    have hlen : lst.length ≤ 40 := by
      have a1 := hp2.length_eq
      rw [List.length_map] at a1
      have a2 := jnL_len left own oth s.lo s.hi ⟨t, m, x⟩ LO
      omega
    have hlen' : lst'.length ≤ 40 := by
      have a1 := congrArg List.length hlst'
      rw [List.length_map] at a1
      have a2 := sumT_len (jnL left own oth s.lo s.hi ⟨t, m, x⟩ LO)
      have a3 := jnL_len left own oth s.lo s.hi ⟨t, m, x⟩ LO
      omega
    have hnA : lst.length = n := hchA.rd.len encCh_len (by omega)
    have hnA' : lst'.length = n' := hch'.rd.len encCh_len (by omega)
    have hs1 : SmC lst := fun y hy => by
      have a1 := hsm _ (hp2.mem_iff.1 (List.mem_map.2 ⟨y, hy, rfl⟩))
      have a2 : okR y.r = true := a1.1
      have a3 : -400000 ≤ y.m ∧ y.m ≤ 400000 := a1.2
      have a4 := okR_len a2
      have a5 := (hchA.rows y hy).len
      exact ⟨⟨a2, by omega, by omega⟩, by omega⟩
    have hs2 : SmC lst' := fun y hy => by
      have a0 := sumT_small (M := 400000) (by omega) (fun z hz => (hsm z hz).1) (fun z hz => (hsm z hz).2) (thC y) (by rw [← hlst']; exact List.mem_map.2 ⟨y, hy, rfl⟩)
      have a1 : okR y.r = true := a0.1
      have a2 : -(400000 * ((jnL left own oth s.lo s.hi ⟨t, m, x⟩ LO).length : Int)) ≤ y.m ∧ y.m ≤ 400000 * ((jnL left own oth s.lo s.hi ⟨t, m, x⟩ LO).length : Int) := a0.2
      have a3 := jnL_len left own oth s.lo s.hi ⟨t, m, x⟩ LO
      have a4 := okR_len a1
      have a5 := (hch'.rows y hy).len
      exact ⟨⟨a1, by omega, by omega⟩, by omega⟩
    refine ⟨lst, lst', hchA, hch', by omega, by omega, hs1, hs2, rise_at (List.pairwise_map.2 hasc), by rw [hsum, hlst'], .inr ⟨b, bL, bR, b2, s, s2, mk, fL', fR', SL', SR', vL', L', vR', R', rfl, rfl, hfar _ _ _ _ _ hjo, hjr, ?_, ⟨P1, P2, P3, P4, Q1, Q2, Q3, Q4, QB, QC⟩⟩, hbW⟩
    rw [hfl, hfr2, hL', hR']
    cases left
    · simp only [Bool.false_eq_true, if_false]
      have := h3.right (c := ⟨t, m, x⟩) hok (by rw [show s.others = own from by rw [← how]; rfl]; exact hhas) hm.1 hm.2
      exact this
    · simp only [if_true]
      have := h3.left (c := ⟨t, m, x⟩) hok (by rw [show s.on = own from by rw [← how]; rfl]; exact hhas) hm.1 hm.2
      exact this
  · obtain ⟨rfl, hjo⟩ := hne hz
    obtain ⟨rfl, hjr⟩ := hne' hz
    have e1 : n = 0 := by have := hchA.rd.len encCh_len (by omega); simpa using this.symm
    have e2 : n' = 0 := by have := hch'.rd.len encCh_len (by omega); simpa using this.symm
    exact ⟨[], [], hchA, hch', by omega, by omega, nofun, nofun, List.Pairwise.nil, rfl, .inr ⟨b, bL, bR, b2, s, s2, mk, fL, fR, SL, SR, vL, L, vR, R, rfl, rfl, (hfar _ _ _ _ _ hjo).mono (by omega), hjr, h3.more, ⟨P1, P2, P3, P4, Q1, Q2, Q3, Q4, QB, QC⟩⟩, hbW⟩
theorem left_both {base i : Nat} {px py : Value} (t : Int) (Ar : Option Addr) (nr cr : Nat) (x : Rw) (m : Int) (w : World) (h : StJ base i px py w) (hi : i < 40) (hbase : base ≤ w.heap.size) (hr : RowK w base Ar nr x) (hrc : nr ≤ cr) (ht : Tab w) (hm : -100 ≤ m ∧ m ≤ 100) :
    Calls Tryz.prog 38 #[px, .agg #[.int .i64 t, .slice Ar nr cr, .int .i64 m]] w (fun e W1 => ∃ A n cc E, e = .returned (.tuple #[.slice A n cc, .int .i64 E]) ∧ Below base w W1 ∧ KeepC w W1 ∧
      Calls Tryz.prog 44 #[py, .agg #[.int .i64 t, .slice Ar nr cr, .int .i64 m]] W1 (fun e2 W2 => ∃ A' n' c', e2 = .returned (.tuple #[.slice A' n' c', .int .i64 E]) ∧ RetJ w W2 base i px py A n A' n')) := by
  rcases h with ⟨rfl, rfl⟩ | ⟨b, bL, bR, b2, s, s2, mk, fL, fR, SL, SR, vL, L, vR, R, rfl, rfl, h1, h2, h3, h4⟩
  · refine (jLeft_nil t Ar nr cr m w).mono ?_
    rintro e W1 ⟨rfl, hb1⟩
    refine ⟨none, 0, 0, 1, rfl, hb1.mono hbase, .of_below hb1, ?_⟩
    refine (RLeftJ_nil t Ar nr cr m W1).mono ?_
    rintro e W2 ⟨rfl, hb2⟩
    exact ⟨none, 0, 0, rfl, .none (.inl ⟨rfl, rfl⟩) ((bstep hb1 hb2).mono hbase)⟩
  · refine (jLeft_any t Ar nr cr x m w h1 h3 (by omega) (by omega) hbase h4.n1 h4.n2 (hr.mono hbase) hrc ht hm).mono ?_
    intro e W1 hl
    obtain ⟨A, n, cc, E, rfl, hfr, hJ1, hgo⟩ := both_end h1 h2 h3 h4 hi hbase hm hl
    have hbW1 : Below base w W1 := hfr.lows h1.quiet hbase
    have hbase1 := Nat.le_trans hbase hbW1.size
    refine ⟨A, n, cc, E, rfl, hbW1, .of_frp hfr h1.quiet, ?_⟩
    refine (RLeftJ_any (q := i) t Ar nr cr x m W1 hJ1 (by rw [h4.on]; exact h3.bl) (by rw [h4.ot]; exact h3.br) (by rw [h4.on, h4.ot]; exact h3.n) (by omega) hbase1 h4.m1 h4.m2 ((hr.frp hfr h1.quiet).mono hbase1) hm).mono ?_
    exact fun e W2 hres => hgo e W2 hres
theorem right_both {base i : Nat} {px py : Value} (t : Int) (Ar : Option Addr) (nr cr : Nat) (x : Rw) (m : Int) (w : World) (h : StJ base i px py w) (hi : i < 40) (hbase : base ≤ w.heap.size) (hr : RowK w base Ar nr x) (hrc : nr ≤ cr) (ht : Tab w) (hm : -100 ≤ m ∧ m ≤ 100) :
    Calls Tryz.prog 39 #[px, .agg #[.int .i64 t, .slice Ar nr cr, .int .i64 m]] w (fun e W1 => ∃ A n cc E, e = .returned (.tuple #[.slice A n cc, .int .i64 E]) ∧ Below base w W1 ∧ KeepC w W1 ∧
      Calls Tryz.prog 45 #[py, .agg #[.int .i64 t, .slice Ar nr cr, .int .i64 m]] W1 (fun e2 W2 => ∃ A' n' c', e2 = .returned (.tuple #[.slice A' n' c', .int .i64 E]) ∧ RetJ w W2 base i px py A n A' n')) := by
  rcases h with ⟨rfl, rfl⟩ | ⟨b, bL, bR, b2, s, s2, mk, fL, fR, SL, SR, vL, L, vR, R, rfl, rfl, h1, h2, h3, h4⟩
  · refine (jRight_nil t Ar nr cr m w).mono ?_
    rintro e W1 ⟨rfl, hb1⟩
    refine ⟨none, 0, 0, 1, rfl, hb1.mono hbase, .of_below hb1, ?_⟩
    refine (RRightJ_nil t Ar nr cr m W1).mono ?_
    rintro e W2 ⟨rfl, hb2⟩
    exact ⟨none, 0, 0, rfl, .none (.inl ⟨rfl, rfl⟩) ((bstep hb1 hb2).mono hbase)⟩
  · refine (jRight_any t Ar nr cr x m w h1 h3 (by omega) (by omega) hbase h4.n1 h4.n2 (hr.mono hbase) hrc ht hm).mono ?_
    intro e W1 hl
    obtain ⟨A, n, cc, E, rfl, hfr, hJ1, hgo⟩ := both_end h1 h2 h3 h4 hi hbase hm hl
    have hbW1 : Below base w W1 := hfr.lows h1.quiet hbase
    have hbase1 := Nat.le_trans hbase hbW1.size
    refine ⟨A, n, cc, E, rfl, hbW1, .of_frp hfr h1.quiet, ?_⟩
    refine (RRightJ_any (q := i) t Ar nr cr x m W1 hJ1 (by rw [h4.on]; exact h3.bl) (by rw [h4.ot]; exact h3.br) (by rw [h4.on, h4.ot]; exact h3.n) (by omega) hbase1 h4.m1 h4.m2 ((hr.frp hfr h1.quiet).mono hbase1) hm).mono ?_
    exact fun e W2 hres => hgo e W2 hres
theorem mark_both {base i : Nat} {px py : Value} (m : Int) (w : World) (h : StJ base i px py w) (hi : i < 40) (hbase : base ≤ w.heap.size) :
    Calls Tryz.prog 40 #[px, .int .i64 m] w (fun e W1 => ∃ E, e = .returned (.tuple #[.slice none 0 0, .int .i64 E]) ∧ Below base w W1 ∧
      Calls Tryz.prog 46 #[py, .int .i64 m] W1 (fun e2 W2 => e2 = .returned (.tuple #[.slice none 0 0, .int .i64 E]) ∧ RetJ w W2 base i px py none 0 none 0)) := by
  rcases h with ⟨rfl, rfl⟩ | ⟨b, bL, bR, b2, s, s2, mk, fL, fR, SL, SR, vL, L, vR, R, rfl, rfl, h1, h2, h3, h4⟩
  · refine (jMark_nil m w).mono ?_
    rintro e W1 ⟨rfl, hb1⟩
    refine ⟨1, rfl, hb1.mono hbase, ?_⟩
    refine (RMarkJ_nil m W1).mono ?_
    rintro e W2 ⟨rfl, hb2⟩
    exact ⟨rfl, .none (.inl ⟨rfl, rfl⟩) ((bstep hb1 hb2).mono hbase)⟩
  · refine (jMark_any m w h1 h3 (by omega) (by omega) hbase h4.blo h4.bhi).mono ?_
    rintro e W1 ⟨E, rfl, hE, hfr, hne, h0⟩
    have hbW1 : Below base w W1 := hfr.lows h1.quiet hbase
    have hbase1 := Nat.le_trans hbase hbW1.size
    have hJ1 := h2.frp hfr h1.quiet (jr_away h1 h2)
    refine ⟨E, rfl, hbW1, ?_⟩
    refine (RMarkJ_any (q := i) m W1 hJ1 (by rw [h4.on]; exact h3.bl) (by rw [h4.ot]; exact h3.br) (by omega) hbase1 (by rw [h4.lo]; exact h4.blo) (by rw [h4.hi]; exact h4.bhi)).mono ?_
    rintro e W2 ⟨E', rfl, hE', hfr', hne', h0'⟩
    obtain rfl : E' = E := hE'.trans hE.symm
    have hq1 := hJ1.quiet
    have hbW2 : Below base W1 W2 := hfr'.lows hq1 hbase1
    refine ⟨rfl, .none ?_ (hbW1.trans hbW2)⟩
    by_cases hz : E' = 0
    · obtain ⟨fL', fR', SL', SR', hjo, hfl, hfr2⟩ := h0 hz
      obtain ⟨vL', L', vR', R', hjr, hL', hR'⟩ := h0' hz
      refine .inr ⟨b, bL, bR, b2, s, s2, m, fL', fR', SL', SR', vL', L', vR', R', rfl, rfl, (hjo.frp hfr' hq1 (by rintro k rfl; exact jr_away hjo hJ1)).mono (by omega), hjr, ?_, h4⟩
      rw [hfl, hfr2, hL', hR', h4.lo, h4.hi]
      exact h3.mark _ _
    · exact .inr ⟨b, bL, bR, b2, s, s2, mk, fL, fR, SL, SR, vL, L, vR, R, rfl, rfl, ((hne hz).frp hfr' hq1 (by rintro k rfl; exact jr_away (hne hz) hJ1)).mono (by omega), hne' hz, h3.more, h4⟩
theorem held_both {base i : Nat} {px py : Value} (w : World) (h : StJ base i px py w) (hi : i ≤ 40) :
    ∃ l r : Int, Calls Tryz.prog 48 #[px] w (RetV w (.tuple #[.int .i64 l, .int .i64 r])) ∧
      ∀ w', Below w.heap.size w w' → Calls Tryz.prog 49 #[py] w' (RetV w' (.tuple #[.int .i64 l, .int .i64 r])) := by
  rcases h with ⟨rfl, rfl⟩ | ⟨b, bL, bR, b2, s, s2, mk, fL, fR, SL, SR, vL, L, vR, R, rfl, rfl, h1, h2, h3, h4⟩
  · exact ⟨0, 0, jHeld_nil w, fun w' _ => RHeld_nilJ w'⟩
  · refine ⟨_, _, jHeld_any w h1 h3 hi, fun w' hb => ?_⟩
    have := RHeldJ_any w' (h2.below hb)
    rw [List.length_map, List.length_map]
    exact this
theorem new_both (A1 : Option Addr) (n1 c1 : Nat) (on : List Int) (A2 : Option Addr) (n2 c2 : Nat) (others : List Int) (lo hi : Int) (w : World)
    (h1 : Reads w w.heap.size 1 A1 n1 (on.map (Value.int .i64))) (h2 : Reads w w.heap.size 1 A2 n2 (others.map (Value.int .i64))) (hn1 : n1 ≤ 1000) (hn2 : n2 ≤ 1000) :
    Calls Tryz.prog 37 #[.slice A1 n1 c1, .slice A2 n2 c2, .int .i64 lo, .int .i64 hi] w (fun e W1 => ∃ px E, e = .returned (.tuple #[px, .int .i64 E]) ∧ Below w.heap.size w W1 ∧
      Calls Tryz.prog 43 #[.slice A1 n1 c1, .slice A2 n2 c2, .int .i64 lo, .int .i64 hi] W1 (fun e2 W2 => ∃ py, e2 = .returned (.tuple #[py, .int .i64 E]) ∧ Below w.heap.size w W2 ∧ StJ w.heap.size 0 px py W2)) := by
  refine (NewJoiner_any A1 n1 c1 on A2 n2 c2 others lo hi w h1 h2 hn1 hn2).mono ?_
  rintro e W1 ⟨hb, hres⟩
  have hR := RNewJoiner_any A1 n1 c1 on A2 n2 c2 others lo hi W1 (h1.up hb) (h2.up hb) hn1 hn2
  by_cases hE : njE on others lo hi = 0
  · rw [if_pos hE] at hres
    obtain ⟨b, bL, bR, s, rfl, hjo, e1, e2, e3, e4, e5, e6⟩ := hres
    refine ⟨_, _, rfl, hb, hR.mono ?_⟩
    rintro e W2 ⟨hb2, hres⟩
    rw [if_pos hE] at hres
    obtain ⟨b2, s2, rfl, hjr, f1, f2, f3, f4, f5, f6⟩ := hres
    obtain ⟨g1, g2, g3, g4⟩ := nj_zero hE
    refine ⟨_, rfl, bstep hb hb2, .inr ⟨b, bL, bR, b2, s, s2, _, _, _, _, _, _, [], _, [], rfl, rfl, hjo.below hb2, ⟨hjr.blk, hjr.on, hjr.ot, OC.nil _ _, OC.nil _ _, Nat.le_trans hb.size hjr.low⟩, ?_, ?_⟩⟩
    · rw [e1, e2]
      exact JSt.nil g1
    · exact ⟨by rw [f1, e1], by rw [f2, e2], by rw [f3, e3], by rw [f4, e4], by omega, by omega, by omega, by omega, by rw [e3]; exact g3, by rw [e4]; exact g4⟩
  · rw [if_neg hE] at hres
    subst hres
    refine ⟨_, _, rfl, hb, hR.mono ?_⟩
    rintro e W2 ⟨hb2, hres⟩
    rw [if_neg hE] at hres
    subst hres
    exact ⟨_, rfl, bstep hb hb2, .inl ⟨rfl, rfl⟩⟩
end

end Go.Proofs.YtoapjidpfghnlaaGreatDoor
