/-
  The walk of the reference's Merged, for every list of valid windows.
-/
import Derived.Test.YtehifbogadohgaaMgPut
namespace Go.Proofs.Ytehifbogadohgaa
open Go.RowKit
attribute [local go_sem] Oper.semAt_some

def lenV : Value → Nat
  | .slice _ n _ => n
  | _ => 0
def bitV : Value → Nat
  | .bool true => 1
  | _ => 0
/-- A list of windows that reads below B, in another block than g. -/
def OutK (w : World) (B g : Nat) (A : Option Addr) (n : Nat) (o : List Wd) : Prop := (flatW o).length = n * 2 ∧ (0 < n → ∃ b off, A = some ⟨b, off, none⟩ ∧ b < B ∧ b ≠ g ∧ ∀ j u, (flatW o)[j]? = some u → w.cell? ⟨b, off + j, none⟩ = some u)
section
variable {w w' : World} {B B' g : Nat} {A : Option Addr} {n : Nat} {o : List Wd}
theorem OutK.len (h : OutK w B g A n o) : o.length = n := by have := h.1; rw [flatW_len] at this; omega
theorem OutK.reads (h : OutK w B g A n o) (hB : B ≤ B') : Reads w B' 2 A n (flatW o) := ⟨h.1, fun h0 => by
  obtain ⟨b, off, e, hb, _, hc⟩ := h.2 h0
  exact ⟨b, off, e, by omega, hc⟩⟩
theorem OutK.of (h : Reads w B 2 A n (flatW o)) (hg : B ≤ g) : OutK w B g A n o := ⟨h.1, fun h0 => by
  obtain ⟨b, off, e, hb, hc⟩ := h.2 h0
  exact ⟨b, off, e, hb, by omega, hc⟩⟩
theorem OutK.more (h : OutK w B g A n o) (hB : B ≤ B') : OutK w B' g A n o := ⟨h.1, fun h0 => by
  obtain ⟨b, off, e, hb, hn, hc⟩ := h.2 h0
  exact ⟨b, off, e, by omega, hn, hc⟩⟩
theorem OutK.below (h : OutK w B g A n o) (hb : Below B w w') : OutK w' B g A n o := ⟨h.1, fun h0 => by
  obtain ⟨b, off, e, hlt, hn, hc⟩ := h.2 h0
  exact ⟨b, off, e, hlt, hn, fun j u hu => (hb.cell (p := ⟨b, off + j, none⟩) hlt).trans (hc j u hu)⟩⟩
theorem OutK.set_ (h : OutK w B g A n o) (i : Nat) (u : Value) : OutK (w.setCell ⟨g, i, none⟩ u) B g A n o := ⟨h.1, fun h0 => by
  obtain ⟨b, off, e, hlt, hn, hc⟩ := h.2 h0
  refine ⟨b, off, e, hlt, hn, fun j v hv => ?_⟩
  rw [World.cell?_of_block (Below.heap_setCell w ⟨g, i, none⟩ u b hn)]
  exact hc j v hv⟩
theorem OutK.own {c base : Nat} (h : w.ownsRow base 35 2 (.slice A n c) n (flatW o)) (hg : g < base) : OutK w w.heap.size g A n o := ⟨h.1, fun h0 => by
  obtain ⟨g', cap, e, _⟩ := h.form h0
  injection e with e1
  subst e1
  have hr := (Reads.of_own h).2 h0
  obtain ⟨b, off, e, hlt, hc⟩ := hr
  injection e with e
  injection e with e1 e2
  subst e1 e2
  have hb := (h.lt g' rfl).1
  exact ⟨g', 0, rfl, hlt, by omega, hc⟩⟩
/-- Element j. -/
theorem OutK.at_ (h : OutK w B g A n o) {j : Nat} (hj : j < n) : ∃ b off y, A = some ⟨b, off, none⟩ ∧ b < B ∧ b ≠ g ∧ o[j]? = some y ∧ w.cell? ⟨b, off + j * 2, none⟩ = some (.int .i64 y.1) ∧ w.cell? ⟨b, off + j * 2 + 1, none⟩ = some (.int .i64 y.2) := by
  obtain ⟨b, off, e, hlt, hn, hc⟩ := h.2 (by omega)
  obtain ⟨y, hy⟩ : ∃ y, o[j]? = some y := ⟨_, List.getElem?_eq_getElem (by rw [h.len]; exact hj)⟩
  obtain ⟨f1, f2⟩ := flatW_get hy
  exact ⟨b, off, y, e, hlt, hn, hy, hc _ _ f1, by rw [Nat.add_assoc]; exact hc _ _ f2⟩
end
/-- Valid windows only. -/
def AllV (l : List Wd) : Prop := ∀ x ∈ l, vwin x.1 x.2 = true
theorem vwin_pos {x : Wd} (h : vwin x.1 x.2 = true) : x.1 < x.2 := by unfold vwin at h; rw [decide_eq_true_iff] at h; exact h.1
theorem Ps.valid {l rest todo : List Wd} {w : Wd} (h : Ps l rest w todo) (hv : AllV l) : AllV (w :: todo) := fun x hx => by
  have hx' : x ∈ rest ∨ x = w ∨ x ∈ todo := by
    rcases List.mem_cons.1 hx with hx | hx
    · exact .inr (.inl hx)
    · exact .inr (.inr hx)
  obtain ⟨a, ha, e1⟩ := h.lo x hx'
  obtain ⟨b, hb, e2⟩ := h.hi x hx'
  have h1 := hv a ha
  have h2 := hv b hb
  have h3 : x.1 < x.2 := by
    rcases List.mem_cons.1 hx with rfl | hx
    · exact h.ok
    · exact h.dis.1 x (List.mem_append_right _ hx)
  unfold vwin at h1 h2 ⊢
  rw [decide_eq_true_iff] at h1 h2 ⊢
  omega
/-- The state of a pass. -/
def PassAt (o : List Wd) (w0 : Wd) (j : Nat) (rest : List Wd) (w : Wd) (again : Bool) : Prop := match again with
  | false => w = w0 ∧ rest = o.take j ∧ ∀ y ∈ o.take j, meetB y.1 y.2 w.1 w.2 = false
  | true => rest.length < j
theorem PassAt.len {o rest : List Wd} {w0 w : Wd} {j : Nat} {ag : Bool} (h : PassAt o w0 j rest w ag) : rest.length ≤ j := by
  cases ag
  · rw [h.2.1, List.length_take]; omega
  · exact Nat.le_of_lt h
theorem PassAt.keep {o rest : List Wd} {w0 w y : Wd} {j : Nat} {ag : Bool} (h : PassAt o w0 j rest w ag) (hy : o[j]? = some y) (hm : meetB y.1 y.2 w.1 w.2 = false) : PassAt o w0 (j + 1) (rest ++ [y]) w ag := by
  cases ag
  · refine ⟨h.1, by rw [take_snoc' hy, h.2.1], fun z hz => ?_⟩
    rw [take_snoc' hy] at hz
    rcases List.mem_append.1 hz with hz | hz
    · exact h.2.2 z hz
    · rw [List.mem_singleton] at hz; rw [hz]; exact hm
  · show (rest ++ [y]).length < j + 1
    have : rest.length < j := h
    rw [List.length_append, List.length_singleton]; omega
theorem PassAt.join {o rest : List Wd} {w0 w w' : Wd} {j : Nat} {ag : Bool} (h : PassAt o w0 j rest w ag) : PassAt o w0 (j + 1) rest w' true := by
  have := h.len
  show rest.length < j + 1
  omega
set_option maxRecDepth 100000 in
set_option maxHeartbeats 8000000 in
theorem RMerged_any (A : Option Addr) (n c : Nat) (l : List Wd) (w : World) (hl : Reads w w.heap.size 2 A n (flatW l)) (hn : n ≤ 10000) (hv : AllV l) :
    Calls Try.prog 56 #[.slice A n c] w fun e w' => ∃ out A' n' c', Mg l out ∧ e = .returned (.slice A' n' c') ∧ n' ≤ n ∧ Reads w' w'.heap.size 2 A' n' (flatW out) ∧ Below w.heap.size w w' := by
  obtain ⟨i0, hi, hz0, hz1, hz2⟩ := info_parts Try.infoWin
  have HV := hide hv
  have HL := hide (show l.length = n from hl.len (enc := encW) encW_len (by omega))
  clear hv
  go_enter Try.func56, Try.ntmps56
  go_wp2_with fail
  go_loopw [3, 4] (fun v i wr => ∃ (k m : Nat) (out : List Wd) (A' : Option Addr) (c' : Nat), k ≤ n ∧ i = .int .i64 k ∧ v = .slice A' m c' ∧ m ≤ k ∧ Mg (l.take k) out ∧ Reads wr wr.heap.size 2 A' m (flatW out) ∧ Below w.heap.size w wr) (fun _ i _ => n - (intOf i).toNat)
  case atStart => exact ⟨0, 0, [], none, 0, Nat.zero_le _, rfl, rfl, Nat.le_refl _, Mg.nil, Reads.none_, Below.refl _ _⟩
  case round =>
    obtain ⟨wk, hwk⟩ : ∃ wk : World, wk = wr := ⟨_, rfl⟩
    subst hwk
    obtain ⟨k, m, out, A', c', hk, rfl, rfl, hmk, hmg, hR, hB⟩ := hrel
    have HMG := hide hmg
    clear hmg
    by_cases hlt : k < n
    · obtain ⟨bb, off, x, rfl, hb, hxk, hc⟩ := (hl.up hB).elem (enc := encW) encW_len HL.out hlt
      have hx0 : x.1 < x.2 := vwin_pos (HV.out x (List.mem_of_getElem? hxk))
      have htk := take_snoc' hxk
      have HPS := hide (show Ps (l.take (k + 1)) [] x out from by rw [htk]; exact Ps.start HMG.out hx0)
      have HVL := hide (show AllV (l.take (k + 1)) from fun y hy => HV.out y (List.mem_of_mem_take hy))
      have c0 : wk.cell? ⟨bb, off + k * 2, none⟩ = some (.int .i64 x.1) := by simpa using hc 0 _ rfl
      have c1 : wk.cell? ⟨bb, off + k * 2 + 1, none⟩ = some (.int .i64 x.2) := by simpa [← Nat.add_assoc] using hc 1 _ rfl
      clear hc hxk htk hx0
      have q1 : (0 : Int) ≤ (k : Int) := by omega
      have q2 : (k : Int) < (n : Int) := by omega
      have hBa := below_val (w := wk) #[.int .i64 x.1, .int .i64 x.2] 35
      have xb := Blk.new wk 35 #[.int .i64 x.1, .int .i64 x.2]
      have ho := ((OutK.of (g := wk.heap.size) hR (Nat.le_refl _)).below hBa).more hBa.size
      go_wp2_with fail
      clear c0 c1
      go_loopw [3, 6] (fun v ag wx => ∃ (m' : Nat) (o : List Wd) (Ao : Option Addr) (co : Nat) (wv : Wd) (b : Bool), v = .slice Ao m' co ∧ ag = .bool b ∧ m' ≤ k ∧ Ps (l.take (k + 1)) [] wv o ∧ (b = false → ∀ y ∈ o, meetB y.1 y.2 wv.1 wv.2 = false) ∧ Blk wx wk.heap.size 35 #[.int .i64 wv.1, .int .i64 wv.2] ∧ OutK wx wx.heap.size wk.heap.size Ao m' o ∧ Below wk.heap.size wk wx) (fun v ag _ => 2 * lenV v + bitV ag)
      case atStart => exact ⟨m, out, A', c', x, true, rfl, rfl, hmk, HPS.out, (fun h => by cases h), xb, ho, hBa⟩
      case round =>
        clear xb ho hBa
        obtain ⟨wx, hwx⟩ : ∃ wx : World, wx = wr := ⟨_, rfl⟩
        subst hwx
        obtain ⟨m', o, Ao, co, wv, b, rfl, rfl, hmk', hps, hmt, xb, ho, hBx⟩ := hrel
        have HPS := hide hps
        have HMT := hide hmt
        clear hps hmt
        cases b
        · have e0 := xb.cell 0
          have e1 := xb.cell 1
          simp at e0 e1
          have HPU := hide (Put_any Ao m' co o wv.1 wv.2 _ (ho.reads (Nat.le_refl _)) (by omega) HPS.out.dis HPS.out.ok (HMT.out rfl))
          have hol := ho.len
          go_wp2_with fail
          refine HPU.out.mono ?_
          rintro e W7 ⟨p, q, A7, n7, c7, hpq, hp1, hq1, rfl, hn7, hR7, hB7⟩
          have HMG7 := hide (Ps.put (a := p) (b := q) (by have := HPS.out; rwa [hpq] at this) hp1 hq1)
          have HB7 := hide (hB.trans ((hBx.trans (hB7.mono hBx.size)).mono hB.size))
          have hn7' : n7 ≤ k + 1 := by omega
          clear hp1 hq1 hpq hn7 hB7 hBx e0 e1 xb ho
          go_wp2
          go_roundw
          case rel => exact ⟨k + 1, n7, _, A7, c7, by omega, by go_num, rfl, hn7', HMG7.out, hR7, HB7.out⟩
          case measure => simp [intOf]; omega
        · have hol := ho.len
          go_wp2_with fail
          go_loopw [6, 7, 8] (fun ag v j wy => ∃ (jn mr : Nat) (rest : List Wd) (w2 : Wd) (b : Bool), jn ≤ m' ∧ j = .int .i64 jn ∧ ag = .bool b ∧ mr ≤ jn ∧ Ps (l.take (k + 1)) rest w2 (o.drop jn) ∧ PassAt o wv jn rest w2 b ∧ Blk wy wk.heap.size 35 #[.int .i64 w2.1, .int .i64 w2.2] ∧ OutK wy wx.heap.size wk.heap.size Ao m' o ∧ wy.ownsRow wx.heap.size 35 2 v mr (flatW rest) ∧ Below wk.heap.size wk wy ∧ wx.heap.size ≤ wy.heap.size) (fun _ _ j _ => m' - (intOf j).toNat)
          case atStart => exact ⟨0, 0, [], wv, false, Nat.zero_le _, rfl, rfl, Nat.le_refl _, HPS.out, ⟨rfl, rfl, by simp⟩, xb, ho, World.ownsRow_nil _ _ _ _, hBx, Nat.le_refl _⟩
          case round =>
            obtain ⟨wy, hwy⟩ : ∃ wy : World, wy = wr := ⟨_, rfl⟩
            subst hwy
            have hgx := xb.lt
            clear xb ho hBx HMT
            obtain ⟨jn, mr, rest, w2, b, hj, rfl, rfl, hmr, hps, hpa, xb, ho, hown, hBy, hsy⟩ := hrel
            have HP2 := hide hps
            have HPA := hide hpa
            clear hps hpa
            by_cases hlt2 : jn < m'
            · obtain ⟨bo, oo, y, rfl, hbo, hne, hyj, c0, c1⟩ := ho.at_ hlt2
              have hyd : o.drop jn = y :: o.drop (jn + 1) := by
                obtain ⟨h1, rfl⟩ := List.getElem?_eq_some_iff.1 hyj
                exact List.drop_eq_getElem_cons h1
              have HYJ := hide hyj
              have HP3 := hide (show Ps (l.take (k + 1)) rest w2 (y :: o.drop (jn + 1)) from by rw [← hyd]; exact HP2.out)
              have hval := HP3.out.valid HVL.out
              have hv1 := hval w2 (by simp)
              have hv2 := hval y (by simp)
              clear hyj hyd hval
              have q3 : (0 : Int) ≤ (jn : Int) := by omega
              have q4 : (jn : Int) < (m' : Int) := by omega
              have htb : touchB y.1 y.2 w2.1 w2.2 = meetB y.1 y.2 w2.1 w2.2 := by unfold touchB; rw [hv1, hv2]; rfl
              obtain ⟨tt, htt⟩ : ∃ tt, meetB y.1 y.2 w2.1 w2.2 = tt := ⟨_, rfl⟩
              rw [htt] at htb
              have C1 := hide (fun (p : BW wy) => calls_bw (p := p) (v := .bool tt) (by rw [← htb]; exact RTouch_any y.1 y.2 w2.1 w2.2 p.x))
              obtain ⟨p0, p1⟩ := bw2 xb
              have hbw := Nat.lt_of_lt_of_le hbo hsy
              have r0 := fun (p : BW wy) => BW.cell (a := ⟨bo, oo + jn * 2, none⟩) hbw c0 p
              have r1 := fun (p : BW wy) => BW.cell (a := ⟨bo, oo + jn * 2 + 1, none⟩) hbw c1 p
              clear c0 c1 htb hv1 hv2
              go_wp2_with fail
              (refine wp_region_quiet_bw (by kernel_rfl) (by kernel_rfl) ?_
               repeat (first | go_big_quiet_step (((go_at_call 28; with_reducible exact C1.out _))) | quiet_step (((go_at_call 28; with_reducible exact C1.out _))))
               refine wpQuiet_nil ?_
               intro wq hw'
               obtain ⟨⟨_, hbq⟩, hw''⟩ := hw'
               subst hw'')
              obtain ⟨X, hX⟩ : ∃ X, wq = X := ⟨_, rfl⟩
              rw [hX] at hbq ⊢
              clear hX p0 p1 r0 r1 C1
              have hsX : wx.heap.size ≤ X.heap.size := Nat.le_trans hsy hbq.size
              have hownX := own_below hown hbq
              have hoX := ho.below (hbq.mono hsy)
              have xX := xb.below hbq xb.lt
              have hBX : Below wk.heap.size wk X := hBy.trans (hbq.mono hBy.size)
              clear hown ho xb hBy hbq
              have c0 : X.cell? ⟨bo, oo + jn * 2, none⟩ = some (.int .i64 y.1) := by
                obtain ⟨b', o', y', e, _, _, hy', d0, _⟩ := hoX.at_ hlt2
                injection e with e
                injection e with e1 e2
                subst e1 e2
                rw [HYJ.out] at hy'
                injection hy' with hy'
                rw [hy']; exact d0
              have c1 : X.cell? ⟨bo, oo + jn * 2 + 1, none⟩ = some (.int .i64 y.2) := by
                obtain ⟨b', o', y', e, _, _, hy', _, d0⟩ := hoX.at_ hlt2
                injection e with e
                injection e with e1 e2
                subst e1 e2
                rw [HYJ.out] at hy'
                injection hy' with hy'
                rw [hy']; exact d0
              cases tt
              · have HN := hide HP3.out.keep
                have HK := hide (HPA.out.keep HYJ.out htt)
                clear htt
                go_wp2_with (at_builtin; refine wpList_append_own _ rfl _ _ 22 rfl wx.heap.size 35 i0 _ 2 16 Try.underlying22 hi hz0 hz1 hz2 rfl (by decide) _ _ _ rfl (hownX.alloc _) ⟨X.heap.size, 0, none⟩ 1 1 [.int .i64 y.1, .int .i64 y.2] rfl rfl (cells_new _ _ _) (by simp [Value.oneCell']) (by unfold maxLen; omega) (by omega) (by simp; omega) ?_; intro v3 w3 hown3 hgrow _; have hB3 : Below wx.heap.size X w3 := below_append ((Below.refl _ X).alloc hsX _) (hownX.alloc _) (by simp; omega) hgrow; clear hgrow)
                have ho3 := hoX.below hB3
                have x3 := xX.below hB3 hgx
                have HB3 := hide (hBX.trans (hB3.mono (by have := hBX.size; omega)))
                have hs3 := Nat.le_trans hsX hB3.size
                clear hoX xX hBX hB3 c0 c1 hownX
                go_wp2
                go_roundw
                case rel => exact ⟨jn + 1, mr + 1, _, w2, b, by omega, by go_num, rfl, by omega, HN.out, HK.out, x3, ho3, by rw [flatW_snoc]; exact hown3, HB3.out, hs3⟩
                case measure => simp [intOf]; omega
              · have HN := hide (HP3.out.join htt)
                have HK := hide (HPA.out.join (w' := (min w2.1 y.1, max w2.2 y.2)))
                clear htt
                have e0 := xX.cell 0
                have e1 := xX.cell 1
                have f0 := xX.frozen 0
                have f1 := xX.frozen 1
                simp at e0 e1
                have x8 : Blk ((X.setCell ⟨wk.heap.size, 0, none⟩ (.int .i64 (min w2.1 y.1))).setCell ⟨wk.heap.size, 1, none⟩ (.int .i64 (max w2.2 y.2))) wk.heap.size 35 #[.int .i64 (min w2.1 y.1), .int .i64 (max w2.2 y.2)] := (xX.set_ 0 _).set_ 1 _
                have o8 := (hoX.set_ 0 (.int .i64 (min w2.1 y.1))).set_ 1 (.int .i64 (max w2.2 y.2))
                have w8 := ownsRow_setCell_below (a := ⟨wk.heap.size, 1, none⟩) (ownsRow_setCell_below (a := ⟨wk.heap.size, 0, none⟩) hownX hgx (.int .i64 (min w2.1 y.1))) hgx (.int .i64 (max w2.2 y.2))
                have B8 := (hBX.setCell (p := ⟨wk.heap.size, 0, none⟩) (Nat.le_refl _) (.int .i64 (min w2.1 y.1))).setCell (p := ⟨wk.heap.size, 1, none⟩) (Nat.le_refl _) (.int .i64 (max w2.2 y.2))
                have s8 : wx.heap.size ≤ ((X.setCell ⟨wk.heap.size, 0, none⟩ (.int .i64 (min w2.1 y.1))).setCell ⟨wk.heap.size, 1, none⟩ (.int .i64 (max w2.2 y.2))).drew.heap.size := by simpa [World.setCell] using hsX
                have X8 := hide x8
                have O8 := hide o8
                have W8 := hide w8
                have HB8 := hide B8
                have S8 := hide s8
                clear x8 o8 w8 B8 s8 hoX xX hBX hownX
                go_wp2_with fail
                go_region
                all_goals
                  clear e0 e1 f0 f1 c0 c1
                  go_wp2
                  go_roundw
                  case rel => exact ⟨jn + 1, mr, rest, (min w2.1 y.1, max w2.2 y.2), true, by omega, by go_num, rfl, by omega, HN.out, HK.out, X8.out, O8.out, W8.out.drew, HB8.out.drew, S8.out⟩
                  case measure => simp [intOf]; omega
            · obtain rfl : jn = m' := by omega
              have hdn : o.drop jn = [] := List.drop_eq_nil_of_le (by omega)
              have HT := hide (show Ps (l.take (k + 1)) [] w2 rest from (by have := HP2.out; rwa [hdn] at this : Ps (l.take (k + 1)) rest w2 []).turn)
              have hrl : rest.length = mr := by have := hown.1; rw [flatW_len] at this; omega
              have HME := hide (show b = false → ∀ y ∈ rest, meetB y.1 y.2 w2.1 w2.2 = false from fun hb => by
                subst hb
                have := HPA.out
                rw [this.2.1]; exact this.2.2)
              have hms : b = true → mr < jn := fun hb => by
                subst hb
                have : rest.length < jn := HPA.out
                omega
              have HBY := hide hBy
              obtain ⟨A9, c9, rfl, hR9⟩ := own_form hown
              have O9 := hide (OutK.own hown hgx)
              have XB := hide xb
              clear hown ho xb hBy hR9 hdn
              go_wp2
              go_roundw
              case rel => exact ⟨mr, rest, A9, c9, w2, b, rfl, rfl, by omega, HT.out, HME.out, XB.out, O9.out, HBY.out⟩
              case measure =>
                cases b
                · simp [lenV, bitV]; omega
                · have := hms rfl
                  simp [lenV, bitV]; omega
    · obtain rfl : k = n := by omega
      have HMG2 := hide (show Mg l out from by have := HMG.out; rwa [take_all HL.out] at this)
      go_wp2
      go_ret
      exact ⟨out, A', m, c', HMG2.out, rfl, hmk, hR, hB⟩
end Go.Proofs.Ytehifbogadohgaa
