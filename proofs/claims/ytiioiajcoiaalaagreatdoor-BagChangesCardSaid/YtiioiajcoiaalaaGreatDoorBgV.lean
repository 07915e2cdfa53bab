/-
  The walk of the program's bag.Valid, for every bag.
-/
import Derived.Test.YtiioiajcoiaalaaGreatDoorBgM
namespace Go.Proofs.YtiioiajcoiaalaaGreatDoor
open Go.RowKit
attribute [local go_sem] Oper.semAt_some

def upB (p : Option Rw) (r : Rw) : Bool := match p with
  | none => true
  | some q => decide (cmpR q r < 0)
def lastR (p : Option Rw) : Bg → Option Rw
  | [] => p
  | x :: l => lastR (some x.1) l
theorem ascI_cons (p : Option Rw) (x : Rw × Int) (l : Bg) : ascI p (x :: l) = (numB x.2 && okR x.1 && upB p x.1 && ascI (some x.1) l) := by
  cases p <;> simp [ascI, upB]
theorem ascI_app (l l' : Bg) : ∀ p, ascI p (l ++ l') = (ascI p l && ascI (lastR p l) l') := by
  induction l with
  | nil => intro p; cases p <;> simp [ascI, lastR]
  | cons x l ih => intro p; rw [List.cons_append, ascI_cons, ascI_cons, ih, lastR]; simp only [Bool.and_assoc]
theorem lastR_snoc (l : Bg) (x : Rw × Int) : ∀ p, lastR p (l ++ [x]) = some x.1 := by
  induction l with
  | nil => intro p; rfl
  | cons y l ih => intro p; exact ih _
theorem ascI_next {d : Bg} {k : Nat} {x : Rw × Int} (h : d[k]? = some x) : ascI none (d.take (k + 1)) = (ascI none (d.take k) && (numB x.2 && okR x.1 && upB (lastR none (d.take k)) x.1)) := by
  rw [take_snoc' h, ascI_app, ascI_cons]
  simp [ascI]
theorem ascI_fail {d : Bg} {k : Nat} {x : Rw × Int} (h : d[k]? = some x) (hf : (numB x.2 && okR x.1 && upB (lastR none (d.take k)) x.1) = false) : okBag d = false := by
  have h1 : ascI none d = false := by
    rw [← List.take_append_drop (k + 1) d, ascI_app, ascI_next h, hf]
    simp
  unfold okBag
  rw [h1]; rfl
theorem lastR_at {d : Bg} {k : Nat} {x : Rw × Int} (h : d[k]? = some x) : lastR none (d.take (k + 1)) = some x.1 := by rw [take_snoc' h, lastR_snoc]

theorem item_bw {w : World} {g : Nat} {a b : Value} {t : TypeId} (h : Blk w g t #[a, b]) : (∀ q : BW w, q.x.cell? ⟨g, 0, none⟩ = some a) ∧ (∀ q : BW w, q.x.cell? ⟨g, 1, none⟩ = some b) :=
  ⟨fun q => BW.cell (a := ⟨g, 0, none⟩) h.lt (h.cell 0) q, fun q => BW.cell (a := ⟨g, 1, none⟩) h.lt (h.cell 1) q⟩

set_option maxRecDepth 100000 in
set_option maxHeartbeats 8000000 in
theorem BagValid_any (A : Option Addr) (n c B : Nat) (l : List It) (w : World) (hb : BagR w B A n l) : Calls Tryz.prog 43 #[.slice A n c] w (RetV w (.bool (okBag (dat l)))) := by
  have hn := hb.le
  have HL := hide (dat_len l)
  have HLN := hide hb.len
  go_enter Tryz.func43, Tryz.ntmps43
  go_wp2_with fail
  go_loopw [7] (fun i wr => ∃ k : Nat, k ≤ n ∧ i = .int .i64 k ∧ ascI none ((dat l).take k) = true ∧ Below w.heap.size w wr) (fun i _ => n - (intOf i).toNat)
  case atStart => exact ⟨0, Nat.zero_le _, rfl, rfl, Below.refl _ _⟩
  case round =>
    obtain ⟨k, hk, rfl, hasc, hBw⟩ := hrel
    have HA := hide hasc
    clear hasc
    by_cases hlt : k < n
    · obtain ⟨b, off, i, rfl, hbl, hik, c0, c1, hrow⟩ := (hb.below hBw).at_ hlt
      have HD := hide (dat_at hik)
      have hBa := below_val (w := wr) #[.slice i.A i.n i.c, .int .i64 i.m] 62
      have xb := Blk.new wr 62 #[.slice i.A i.n i.c, .int .i64 i.m]
      have hrow1 := hrow.below hBa
      have hB1 : Below w.heap.size w (wr.alloc (.cells #[.slice i.A i.n i.c, .int .i64 i.m] 62)) := hBw.trans (hBa.mono hBw.size)
      have q1 : (0 : Int) ≤ (k : Int) := by omega
      have q2 : (k : Int) < (n : Int) := by omega
      go_wp2_with fail
      obtain ⟨W0, hW0⟩ : ∃ W0, wr.alloc (.cells #[.slice i.A i.n i.c, .int .i64 i.m] 62) = W0 := ⟨_, rfl⟩
      rw [hW0] at hB1 hrow1 xb hBa ⊢
      clear hW0 c0 c1
      obtain ⟨p0, p1⟩ := item_bw xb
      obtain ⟨b1, hb1⟩ : ∃ b1, numB i.m = b1 := ⟨_, rfl⟩
      obtain ⟨b2, hb2⟩ : ∃ b2, okR i.r = b2 := ⟨_, rfl⟩
      have C1 := hide (fun (p : BW W0) => calls_bw_same (p := p) (v := .bool b1) (by rw [← hb1]; exact number_any i.m p.x))
      have C2 := hide (fun (p : BW W0) => calls_bw (p := p) (v := .bool b2) (by rw [← hb2]; exact RowValid_any i.A i.n i.c _ i.r p.x (hrow1.below p.h).rd (Nat.le_refl _) hrow1.le))
      have HN := hide (ascI_next HD.out)
      have HF := hide (ascI_fail HD.out)
      rw [hb1, hb2] at HN HF
      clear hb1 hb2 xb
      cases b1
      · have HX := hide (HF.out rfl)
        clear HN HF
        go_wp2_with fail
        (refine wp_region_quiet_bw (by kernel_rfl) (by kernel_rfl) ?_
         repeat (first | go_big_quiet_step (((go_at_call 56; exact C1.out _))) | quiet_step (((go_at_call 56; exact C1.out _))))
         refine wpQuiet_nil ?_
         intro wq hw'
         obtain ⟨⟨_, hbq⟩, hw''⟩ := hw'
         subst hw'')
        have HE := hide (hB1.trans (hbq.mono hB1.size))
        clear hbq hB1 p0 p1 C1 C2
        go_wp2
        go_ret
        exact ⟨ret_bool HX.out.symm, HE.out⟩
      · cases b2
        · have HX := hide (HF.out rfl)
          clear HN HF
          go_wp2_with fail
          (refine wp_region_quiet_bw (by kernel_rfl) (by kernel_rfl) ?_
           repeat (first | go_big_quiet_step ((first | (go_at_call 56; exact C1.out _) | (go_at_call 83; exact C2.out _))) | quiet_step ((first | (go_at_call 56; exact C1.out _) | (go_at_call 83; exact C2.out _))))
           refine wpQuiet_nil ?_
           intro wq hw'
           obtain ⟨⟨_, hbq⟩, hw''⟩ := hw'
           subst hw'')
          have HE := hide (hB1.trans (hbq.mono hB1.size))
          clear hbq hB1 p0 p1 C1 C2
          go_wp2
          go_ret
          exact ⟨ret_bool HX.out.symm, HE.out⟩
        · by_cases hk0 : k = 0
          · subst hk0
            have HX := hide (show ascI none ((dat l).take (0 + 1)) = true from by rw [HN.out]; rfl)
            clear HN HF
            go_wp2_with fail
            (refine wp_region_quiet_bw (by kernel_rfl) (by kernel_rfl) ?_
             repeat (first | go_big_quiet_step ((first | (go_at_call 56; exact C1.out _) | (go_at_call 83; exact C2.out _))) | quiet_step ((first | (go_at_call 56; exact C1.out _) | (go_at_call 83; exact C2.out _))))
             refine wpQuiet_nil ?_
             intro wq hw'
             obtain ⟨⟨_, hbq⟩, hw''⟩ := hw'
             subst hw'')
            have HE := hide (hB1.trans (hbq.mono hB1.size))
            clear hbq hB1 p0 p1 C1 C2
            go_wp2
            go_roundw
            case rel => exact ⟨1, by omega, by go_num, HX.out, HE.out⟩
            case measure => simp [intOf]; omega
          · obtain ⟨j, rfl⟩ : ∃ j, k = j + 1 := ⟨k - 1, by omega⟩
            obtain ⟨b', off', i', hA', hbl', hik', c0', c1', hrow'⟩ := ((hb.below hBw).below hBa).at_ (show j < n by omega)
            obtain ⟨rfl, rfl⟩ : b = b' ∧ off = off' := by
              injection hA' with h
              injection h with h1 h2
              exact ⟨h1, h2⟩
            clear hA'
            have HD' := hide (lastR_at (dat_at hik'))
            rw [HD'.out] at HN HF
            have y0 := fun (p : BW W0) => BW.cell (a := ⟨b, off + j * 2, none⟩) hbl' c0' p
            obtain ⟨cc, hcc⟩ : ∃ cc, cmpR i'.r i.r = cc := ⟨_, rfl⟩
            have C3 := hide (fun (p : BW W0) => calls_bw (p := p) (v := .int .i64 cc) (by rw [← hcc]; exact Compare_any i'.A i'.n i'.c i'.r i.A i.n i.c i.r p.x (hrow'.below p.h).rd (hrow1.below p.h).rd hrow'.le))
            have w1 : ((j + 1 : Nat) : Int) - 1 = (j : Int) := by omega
            have w2 : IntKind.i64.wrap (((j + 1 : Nat) : Int) - 1) = (j : Int) := by rw [w1, IntKind.wrap_i64]; omega
            have q3 : (0 : Int) ≤ (j : Int) := by omega
            have q4 : (j : Int) < (n : Int) := by omega
            have q5 : (0 : Int) < ((j + 1 : Nat) : Int) := by omega
            simp only [upB, hcc] at HN HF
            clear hcc
            by_cases hc : cc < 0
            · have n1 : decide (0 ≤ cc) = false := by simp; omega
              have HX := hide (show ascI none ((dat l).take (j + 1 + 1)) = true from by rw [HN.out, HA.out, decide_eq_true hc]; rfl)
              clear HN HF
              go_wp2_with fail
              (refine wp_region_quiet_bw (by kernel_rfl) (by kernel_rfl) ?_
               repeat (first | go_big_quiet_step ((first | (go_at_call 56; exact C1.out _) | (go_at_call 83; exact C2.out _) | (go_at_call 103; exact C3.out _))) | quiet_step ((first | (go_at_call 56; exact C1.out _) | (go_at_call 83; exact C2.out _) | (go_at_call 103; exact C3.out _))))
               refine wpQuiet_nil ?_
               intro wq hw'
               obtain ⟨⟨_, hbq⟩, hw''⟩ := hw'
               subst hw'')
              have HE := hide (hB1.trans (hbq.mono hB1.size))
              clear hbq hB1 p0 p1 C1 C2 C3 y0
              go_wp2
              go_roundw
              case rel => exact ⟨j + 1 + 1, by omega, by go_num, HX.out, HE.out⟩
              case measure => simp [intOf]; omega
            · have n1 : decide (0 ≤ cc) = true := by simp; omega
              have HX := hide (HF.out (by rw [decide_eq_false hc]; rfl))
              clear HN HF
              go_wp2_with fail
              (refine wp_region_quiet_bw (by kernel_rfl) (by kernel_rfl) ?_
               repeat (first | go_big_quiet_step ((first | (go_at_call 56; exact C1.out _) | (go_at_call 83; exact C2.out _) | (go_at_call 103; exact C3.out _))) | quiet_step ((first | (go_at_call 56; exact C1.out _) | (go_at_call 83; exact C2.out _) | (go_at_call 103; exact C3.out _))))
               refine wpQuiet_nil ?_
               intro wq hw'
               obtain ⟨⟨_, hbq⟩, hw''⟩ := hw'
               subst hw'')
              have HE := hide (hB1.trans (hbq.mono hB1.size))
              clear hbq hB1 p0 p1 C1 C2 C3 y0
              go_wp2
              go_ret
              exact ⟨ret_bool HX.out.symm, HE.out⟩
    · obtain rfl : k = n := by omega
      have HX := hide (show okBag (dat l) = decide ((k : Int) ≤ 400) from by
        have h := HA.out
        rw [take_all (by rw [HL.out, HLN.out])] at h
        unfold okBag
        rw [h, HL.out, HLN.out, Bool.true_and, Bool.eq_iff_iff, decide_eq_true_eq, decide_eq_true_eq]
        omega)
      go_wp2
      go_ret
      exact ⟨ret_bool HX.out.symm, hBw⟩
end Go.Proofs.YtiioiajcoiaalaaGreatDoor
