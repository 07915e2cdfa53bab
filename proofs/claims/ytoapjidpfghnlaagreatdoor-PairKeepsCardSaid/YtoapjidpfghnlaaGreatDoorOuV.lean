/-
  The comparison that pair.together hands over. No condition.
  The four kinds of join. No condition.
  The kinds of join: the array of four functions, and what one of them answers. No condition.
-/
import Derived.Test.YtoapjidpfghnlaaGreatDoorOuS
import Derived.Laws.EntriesVeiled
namespace Go.Proofs.YtoapjidpfghnlaaGreatDoor

section
open Go.RowKit
attribute [local go_sem] Oper.semAt_some

theorem tog1_any (x y : It) (B : Nat) (w : World) (hx : RowK w B x.A x.n x.r) (hy : RowK w B y.A y.n y.r) : Calls Tryz.prog 194 #[.agg #[.slice x.A x.n x.c, .int .i64 x.m], .agg #[.slice y.A y.n y.c, .int .i64 y.m]] w (RetG w (.int .i64 (cmpR x.r y.r))) := by
  have hB := gb_two (w := w) (.cells #[.slice x.A x.n x.c, .int .i64 x.m] 119) (.cells #[.slice y.A y.n y.c, .int .i64 y.m] 119)
  have k1 := (Blk.new w 119 #[.slice x.A x.n x.c, .int .i64 x.m]).alloc (.cells #[.slice y.A y.n y.c, .int .i64 y.m] 119)
  have k2 := Blk.new (w.alloc (.cells #[.slice x.A x.n x.c, .int .i64 x.m] 119)) 119 #[.slice y.A y.n y.c, .int .i64 y.m]
  rw [World.size_alloc] at k2
  have hx1 := hx.below hB.b
  have hy1 := hy.below hB.b
  go_enter Tryz.func194, Tryz.ntmps194
  go_upto_region 1 with fail
  obtain ⟨W, hW⟩ : ∃ W, (w.alloc (.cells #[.slice x.A x.n x.c, .int .i64 x.m] 119)).alloc (.cells #[.slice y.A y.n y.c, .int .i64 y.m] 119) = W := ⟨_, rfl⟩
  rw [hW] at hB k1 k2 hx1 hy1 ⊢
  clear hW
  have c1 := k1.cell 0
  have c2 := k2.cell 0
  simp at c1 c2
  have HC := hide (Compare_g x.A x.n x.c x.r y.A y.n y.c y.r W hx1.rd hy1.rd hx1.le)
  go_wp2_with fail
  refine HC.out.mono ?_
  rintro e W1 ⟨rfl, hB1⟩
  have HB := hide (gstep hB hB1)
  clear hB hB1
  go_wp2_with fail
  go_ret
  exact ⟨rfl, HB.out⟩
end

section
open Go.RowKit
attribute [local go_sem] Oper.semAt_some wide_fn wide_depth
set_option linter.unusedVariables false
set_option linter.unusedSimpArgs false

/-- Two bools, handed back. -/
def RetBB (w : World) (a b : Bool) (e : Ending) (w' : World) : Prop := e = .returned (.tuple #[.bool a, .bool b]) ∧ w' = w
theorem kind0_any (w : World) : Calls Tryz.prog 189 #[] w (RetBB w false false) := by
  go_enter Tryz.func189, Tryz.ntmps189
  go_wp2
  refine bodyPost_ret (results_tmp2 rfl _ _ _) rfl ?_
  exact ⟨rfl, rfl⟩
theorem kind1_any (w : World) : Calls Tryz.prog 190 #[] w (RetBB w true false) := by
  go_enter Tryz.func190, Tryz.ntmps190
  go_wp2
  refine bodyPost_ret (results_tmp2 rfl _ _ _) rfl ?_
  exact ⟨rfl, rfl⟩
theorem kind2_any (w : World) : Calls Tryz.prog 191 #[] w (RetBB w false true) := by
  go_enter Tryz.func191, Tryz.ntmps191
  go_wp2
  refine bodyPost_ret (results_tmp2 rfl _ _ _) rfl ?_
  exact ⟨rfl, rfl⟩
theorem kind3_any (w : World) : Calls Tryz.prog 192 #[] w (RetBB w true true) := by
  go_enter Tryz.func192, Tryz.ntmps192
  go_wp2
  refine bodyPost_ret (results_tmp2 rfl _ _ _) rfl ?_
  exact ⟨rfl, rfl⟩
theorem und_kinds : ∃ d, Tryz.prog.underlying 177 = some d ∧ (match d with | .struct _ | .array _ _ => true | _ => false) = true := by
  have h : ((Tryz.prog.underlying 177).map fun d => match d with | .struct _ | .array _ _ => true | _ => false) = some true := by kernel_rfl
  obtain ⟨d, h1, h2⟩ := Option.map_eq_some_iff.1 h
  exact ⟨d, h1, h2⟩
theorem kinds_res {F : Func} {b i : Nat} {w : World} {tmps : Array Value} {cs : Array Value} (hF : F.results = #[.cell i 177]) (h6 : tmps.getD i undef = .pointer (some ⟨b, 0, none⟩)) (h1 : Blk w b 177 cs) (hi : (Tryz.prog.info? 177).map (·.size) = some cs.size) :
    (results F tmps).run Tryz.prog w = .ok (.agg cs) w := by
  obtain ⟨d, u1, u2⟩ := und_kinds
  refine results_cell_row hF tmps w b 177 cs (0, 0) d h6 h1 u1 ?_ hi
  cases d <;> first | rfl | exact u2
end

section
open Go.RowKit
attribute [local go_sem] Oper.semAt_some wide_fn wide_depth
set_option linter.unusedVariables false
set_option linter.unusedSimpArgs false

def kdF (k : Nat) : Value := .func (Fn.func (if k = 0 then 189 else if k = 1 then 190 else if k = 2 then 191 else 192)) #[] #[]
def RetKd (w : World) (e : Ending) (w' : World) : Prop := e = .returned (.agg #[.func (Fn.func 189) #[] #[], .func (Fn.func 190) #[] #[], .func (Fn.func 191) #[] #[], .func (Fn.func 192) #[] #[]]) ∧ Below w.heap.size w w'
set_option maxHeartbeats 1000000 in
theorem kinds_any (w : World) : Calls Tryz.prog 143 #[] w (RetKd w) := by
  have hb := below_val (w := w) #[.func (Fn.func 189) #[] #[], .func (Fn.func 190) #[] #[], .func (Fn.func 191) #[] #[], .func (Fn.func 192) #[] #[]] 177
  have kb := Blk.new w 177 #[.func (Fn.func 189) #[] #[], .func (Fn.func 190) #[] #[], .func (Fn.func 191) #[] #[], .func (Fn.func 192) #[] #[]]
  go_enter Tryz.func143, Tryz.ntmps143
  go_wp2_with fail
  refine bodyPost_ret_by (kinds_res rfl rfl kb (by kernel_rfl)) rfl ?_
  exact ⟨rfl, hb⟩
/-- Which function a kind has, and what it answers. -/
theorem kind_fn {kind : Int} (h : 0 ≤ kind ∧ kind ≤ 3) : ∃ pf : Nat, (∀ W : World, (Instr.index 177 (.agg #[.func (Fn.func 189) #[] #[], .func (Fn.func 190) #[] #[], .func (Fn.func 191) #[] #[], .func (Fn.func 192) #[] #[]]) (.int .i64 kind)).run Tryz.prog W = .ok (.func (Fn.func pf) #[] #[]) W) ∧
    (∀ args w, (callFunc pf args).run Tryz.prog w = .ok (.enter pf args) w) ∧ ∀ W, Calls Tryz.prog pf #[] W (RetBB W (decide (kind % 2 = 1)) (decide (2 ≤ kind))) := by
  have h4 : kind = 0 ∨ kind = 1 ∨ kind = 2 ∨ kind = 3 := by omega
  rcases h4 with rfl | rfl | rfl | rfl
  · exact ⟨_, fun W => by kernel_rfl, enters_of Tryz.func189 (by kernel_rfl) rfl, fun W => kind0_any W⟩
  · exact ⟨_, fun W => by kernel_rfl, enters_of Tryz.func190 (by kernel_rfl) rfl, fun W => kind1_any W⟩
  · exact ⟨_, fun W => by kernel_rfl, enters_of Tryz.func191 (by kernel_rfl) rfl, fun W => kind2_any W⟩
  · exact ⟨_, fun W => by kernel_rfl, enters_of Tryz.func192 (by kernel_rfl) rfl, fun W => kind3_any W⟩
end

end Go.Proofs.YtoapjidpfghnlaaGreatDoor
