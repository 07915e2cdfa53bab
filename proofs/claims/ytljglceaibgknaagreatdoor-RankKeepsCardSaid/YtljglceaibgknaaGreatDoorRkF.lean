/-
  The walk of rank.groups. (Printed by gen_rkf.)
-/
import Derived.Test.YtljglceaibgknaaGreatDoorOrdU
import Derived.Test.YtljglceaibgknaaGreatDoorGat
import Derived.Laws.EntriesVeiled
namespace Go.Proofs.YtljglceaibgknaaGreatDoor
open Go.RowKit Go.Maps
attribute [local go_sem] Oper.semAt_some
set_option linter.unusedVariables false
set_option linter.unusedSimpArgs false

/-- What the map of places holds. -/
def hF (s : Stp) (gs : List Bg) : Lit → Option Value
  | .string t => (gix s gs t).map fun i => .int .i64 ((i : Nat) : Int)
  | _ => none
theorem hF_nil (s : Stp) : hF s [] = fun _ => none := by
  funext kl
  cases kl <;> rfl
theorem hF_keys {s : Stp} {gs gs' : List Bg} (h : gs.map (hkr s) = gs'.map (hkr s)) : hF s gs = hF s gs' := by
  funext kl
  cases kl <;> simp only [hF]
  rw [gix_keys h]
theorem hF_put {s : Stp} {gs : List Bg} {x : Rw × Int} (h : gix s gs (rowT (gk s x.1)) = none) : hF s (gs ++ [[x]]) = putF (hF s gs) (.string (rowT (gk s x.1))) (.int .i64 ((gs.length : Nat) : Int)) := by
  funext kl
  unfold putF
  cases kl with
  | string t =>
    simp only [hF]
    rw [gix_snoc h]
    by_cases e : t = rowT (gk s x.1)
    · subst e
      rw [if_pos rfl, if_pos rfl]; rfl
    · rw [if_neg e, if_neg (fun e2 => by injection e2 with e2; exact e e2)]
  | _ => rw [if_neg (by intro e; cases e)]; rfl
theorem look_hF {W : World} {mb nn : Nat} {s : Stp} {gs : List Bg} (h : MapF W Tryz.prog 9 mb nn (hF s gs)) (r : Rw) : (Instr.lookup 117 (.map (some mb)) (.string ⟨(rowT r).toArray⟩) true).run Tryz.prog W = .ok (.tuple #[match gix s gs (rowT r) with | some i => .int .i64 ((i : Nat) : Int) | none => .int .i64 0, .bool (gix s gs (rowT r)).isSome]) W := by
  have h1 := h.look_ok (t := 117) (e := 3) (string_keyed Tryz.underlying9) Tryz.underlying117 (z := .int .i64 0) (by kernel_rfl) (key_of W r)
  rw [h1]
  simp only [hF]
  cases gix s gs (rowT r) <;> rfl
/-- What lies in memory between two rounds. -/
structure GrI (w : World) (s : Stp) (k : Sk) (xs : Bg) (gl : List Gp) (v : Value) (W : World) : Prop where
  gl_ : GlI (w.heap.size + 2) w.heap.size gl v W
  dt : gl.map (fun g => dat g.l) = gsB s xs
  mp : MapF W Tryz.prog 9 (w.heap.size + 1) xs.length (hF s (gsB s xs))
  box : BoxS W w.heap.size k s
  bel : Below w.heap.size w W
  sz : w.heap.size + 2 ≤ W.heap.size
theorem GrI.below {w W W' : World} {s : Stp} {k : Sk} {xs : Bg} {gl : List Gp} {v : Value} (h : GrI w s k xs gl v W) (hb : Below W.heap.size W W') : GrI w s k xs gl v W' :=
  ⟨h.gl_.below hb, h.dt, h.mp.below hb h.mp.lt, h.box.below hb, bstep h.bel hb, Nat.le_trans h.sz hb.size⟩
def RetGrp (w : World) (s : Stp) (b : Bg) (e : Ending) (w' : World) : Prop := ∃ (A : Option Addr) (n c : Nat) (gl : List Gp), e = .returned (.slice A n c) ∧ Reads w' w'.heap.size 1 A n (gl.flatMap encGp) ∧ (∀ g ∈ gl, BagR w' w.heap.size g.A g.n g.l) ∧ Grs s b (gl.map fun g => dat g.l) ∧ Below w.heap.size w w'
/-- The rows are fit for the setup. -/
structure FitS (s : Stp) (b : Bg) : Prop where
  ok : ∀ x ∈ b, okR x.1 = true
  p : ∀ x ∈ b, has x.1 s.per = true
  b : ∀ x ∈ b, has x.1 s.by_ = true
  n : s.per.length ≤ 8
set_option maxRecDepth 100000 in
set_option maxHeartbeats 16000000 in
theorem groups_any (k : Sk) (s : Stp) (A : Option Addr) (n c : Nat) (l : List It) (w : World) (hs : SetK w w.heap.size k s) (hb : BagR w w.heap.size A n l) (hn : n ≤ 1000) (hf : FitS s (dat l)) (ht : Tab w) :
    Calls Tryz.prog 52 #[k.v s, .slice A n c] w (RetGrp w s (dat l)) := by
  obtain ⟨i0, hi, hz0, hz1, hz2⟩ := info_parts3 infoItem
  obtain ⟨i1, hi', hz0', hz1', hz2'⟩ := info_parts3 infoGp
  have HL := hide (dat_len l)
  have HLN := hide hb.len
  have HF := hide hf
  clear hf
  have hmm := @run_makeMap Tryz.prog
  unfold Sk.v
  have k1 := (Blk.new w 24 #[.slice k.A k.n k.c, .slice k.A' k.n' k.c', .bool s.dn, .int .i64 s.n]).alloc (.map #[] 0)
  have hB1 := (below_val (w := w) #[.slice k.A k.n k.c, .slice k.A' k.n' k.c', .bool s.dn, .int .i64 s.n] 24).alloc (by simp) (.map #[] 0)
  have hm1 := MapF.made (w.alloc (.cells #[.slice k.A k.n k.c, .slice k.A' k.n' k.c', .bool s.dn, .int .i64 s.n] 24)) Tryz.prog 9
  rw [World.size_alloc] at hm1
  go_enter Tryz.func52, Tryz.ntmps52
  go_upto_region 3 with fail
  obtain ⟨W0, hW0⟩ : ∃ W0, (w.alloc (.cells #[.slice k.A k.n k.c, .slice k.A' k.n' k.c', .bool s.dn, .int .i64 s.n] 24)).alloc (.map #[] 0) = W0 := ⟨_, rfl⟩
  have hsz0 : w.heap.size + 2 ≤ W0.heap.size := by rw [← hW0]; simp
  rw [hW0] at k1 hB1 hm1 ⊢
  clear hW0
  have hI0 : GrI w s k [] [] (.slice none 0 0) W0 := ⟨GlI.nil _ _ _, rfl, by rw [show gsB s [] = [] from rfl, hF_nil]; exact hm1, ⟨by simpa using k1.cell 0, by simpa using k1.cell 1, by simpa using k1.cell 2, by simpa using k1.cell 3⟩, hB1, hsz0⟩
  clear k1 hB1 hm1 hsz0
  go_wp2_with fail
  go_loopw [6, 18] (fun v i wr => ∃ (m : Nat) (gl : List Gp) (u : Value), m ≤ n ∧ i = .int .i64 m ∧ v = u ∧ GrI w s k ((dat l).take m) gl u wr) (fun _ i _ => n - (intOf i).toNat)
  case atStart => exact ⟨0, [], _, Nat.zero_le _, rfl, rfl, hI0⟩
  case round =>
    clear hI0
    obtain ⟨m, gl, v, hm, rfl, hvv, hI⟩ := hrel
    obtain rfl := hvv.symm
    by_cases hlt : m < n
    · obtain ⟨b, off, x, rfl, hbb, hxl, c0, c1, hrow⟩ := (hb.below hI.bel).at_ hlt
      have hxd : (dat l)[m]? = some (x.r, x.m) := by unfold dat; rw [List.getElem?_map, hxl]; rfl
      have hxm : (x.r, x.m) ∈ dat l := List.mem_of_getElem? hxd
      have HP := hide (HF.out.p _ hxm)
      have HOK := hide (HF.out.ok _ hxm)
      have HKO := hide (show okR (gk s x.r) = true from pick_ok HOK.out HF.out.n)
      have HSN := hide (show gsB s ((dat l).take (m + 1)) = gstL s (gsB s ((dat l).take m)) (x.r, x.m) by rw [take_snoc' hxd, gs_snoc])
      have HTK := hide (take_snoc' hxd)
      have HGK := hide (gsB_ok (s := s) (b := dat l) (fun y hy => pick_ok (HF.out.ok y hy) HF.out.n) m)
      have hcnt := hI.mp
      have htl : ((dat l).take m).length = m := by rw [List.length_take, HL.out, HLN.out]; omega
      have hgl0 : gl.length = (gsB s ((dat l).take m)).length := by rw [← hI.dt]; simp
      have hgl1 : gl.length ≤ m := by
        have h1 := HGK.out
        have h2 := h1.perm.length_eq
        rw [htl] at h2
        have h3 : ∀ (gs : List Bg), (∀ g ∈ gs, g ≠ []) → gs.length ≤ gs.flatten.length := by
          intro gs
          induction gs with
          | nil => intro _; simp
          | cons g gs ih =>
            intro hh
            have := ih fun k hk => hh k (List.mem_cons_of_mem _ hk)
            have h1 := List.length_pos_iff.2 (hh g List.mem_cons_self)
            simp only [List.length_cons, List.flatten_cons, List.length_append]
            omega
        have := h3 _ h1.ne
        omega
      have hB2 := below_val (w := wr) #[.slice x.A x.n x.c, .int .i64 x.m] 52
      have kx := Blk.new wr 52 #[.slice x.A x.n x.c, .int .i64 x.m]
      have hIa := hI.below hB2
      have hrowa := hrow.below hB2
      obtain ⟨D, hD⟩ : ∃ D, (dat l).take m = D := ⟨_, rfl⟩
      rw [hD] at hIa HSN HTK HGK htl hgl0
      have q1 : (0 : Int) ≤ (m : Int) := by omega
      have q2 : (m : Int) < (n : Int) := by omega
      have hxlt : ∀ g ∈ gl, ∀ q, g.v.ownBlock = some q → q < wr.heap.size := fun g hg q hq => ((hI.gl_.row g hg).lt q hq).2
      have hxsz := hI.sz
      clear hxl hxd hxm hI hrow hcnt hD
      go_upto_region 6 with fail
      obtain ⟨W2, hW2⟩ : ∃ W2, wr.alloc (.cells #[.slice x.A x.n x.c, .int .i64 x.m] 52) = W2 := ⟨_, rfl⟩
      obtain ⟨xb, hxb⟩ : ∃ xb, wr.heap.size = xb := ⟨_, rfl⟩
      rw [hW2] at hIa hrowa kx hB2 ⊢
      rw [hxb] at kx hxlt hxsz ⊢
      clear hW2 hB2 c0 c1 hbb hxb
      have d0 := kx.cell 0
      simp at d0
      have e0 := hIa.box.c0
      have HKY := hide (key_any x.A x.n x.c x.r k.A k.n k.c s.per W2 hrowa.rd hrowa.le (hs.up hIa.bel).p hs.np HP.out)
      go_wp2_with fail
      refine HKY.out.mono ?_
      rintro e W3 ⟨Ak, ck, rfl, hrk, hB3⟩
      have hIb := hIa.below hB3.b
      have rowb := hrowa.below hB3.b
      have kxb := kx.below hB3.b kx.lt
      have HTX := hide (Text_any Ak k.n ck (pick x.r s.per) W3 hrk (by have := hs.np; omega) (ht.below (hIb.bel)))
      clear hIa hrowa kx hrk hB3 HKY d0 e0
      go_wp2_with fail
      refine HTX.out.mono ?_
      rintro e W4 ⟨rfl, hB4⟩
      have hIc := hIb.below hB4
      have rowc := rowb.below hB4
      have kxc := kxb.below hB4 kxb.lt
      clear hIb rowb kxb hB4 HTX
      have hlk := look_hF hIc.mp (pick x.r s.per)
      cases hg : gix s (gsB s D) (rowT (pick x.r s.per)) with
      | some i =>
        rw [hg] at hlk
        obtain ⟨g0, hg1, hg2⟩ := gix_some hg
        have hg1' := hg1
        rw [← hIc.dt, List.getElem?_map] at hg1
        obtain ⟨g, hgi, hge⟩ : ∃ g, gl[i]? = some g ∧ dat g.l = g0 := by
          cases h : gl[i]? with
          | none => rw [h] at hg1; cases hg1
          | some g => rw [h] at hg1; exact ⟨g, rfl, by injection hg1⟩
        have HGI := hide hgi
        have hil := (List.getElem?_eq_some_iff.1 hgi).1
        have HDT := hide (show ∀ G : Gp, dat G.l = dat g.l ++ [(x.r, x.m)] → (gl.set i G).map (fun g => dat g.l) = gsB s ((dat l).take (m + 1)) from fun G hG => by
          rw [HSN.out, gstL, show gix s (gsB s D) (rowT (gk s (x.r, x.m).1)) = some i from hg]
          show _ = (gsB s D).set i ((gsB s D).getD i [] ++ [(x.r, x.m)])
          rw [← hIc.dt, List.map_set, hG, List.getD_eq_getElem?_getD, List.getElem?_map, HGI.out]
          rfl)
        have hgne : g0 ≠ [] := HGK.out.ne g0 (by
          rw [← hIc.dt, ← hge]
          exact List.mem_map.2 ⟨g, List.mem_of_getElem? HGI.out, rfl⟩)
        have JM : MapF W4 Tryz.prog 9 (w.heap.size + 1) (m + 1) (hF s (gsB s ((dat l).take (m + 1)))) := by
          rw [← HDT.out ⟨g.A, g.n, g.c, g.l ++ [x]⟩ (by rw [dat_snoc]), List.map_set, hF_keys (gs' := gsB s D) (by
            rw [hIc.dt]
            show ((gsB s D).set i (dat (g.l ++ [x]))).map (hkr s) = _
            rw [dat_snoc, hge]
            exact set_hkr hg1' hgne)]
          exact hIc.mp.mono (by omega)
        have HGN := hide (show g.n ≤ m by
          have h1 := (hIc.gl_.row g (List.mem_of_getElem? HGI.out)).1
          rw [flat_length encIt_len] at h1
          have h2 : (dat g.l).length ≤ (gsB s D).flatten.length := (List.sublist_flatten_of_mem (by
            rw [← hIc.dt]
            exact List.mem_map.2 ⟨g, List.mem_of_getElem? HGI.out, rfl⟩)).length_le
          rw [HGK.out.perm.length_eq, htl, dat_len] at h2
          omega)
        obtain ⟨bo, co, rfl, _, _⟩ := hIc.gl_.own.form (by omega)
        obtain ⟨GL, hGL⟩ : ∃ GL, gl.length = GL := ⟨_, rfl⟩
        have J := hIc.gl_
        have JB := hIc.box
        have JL := hIc.bel
        have jsz := hIc.sz
        have HGL := hide hGL
        have HGX := hide (hxlt g (List.mem_of_getElem? HGI.out))
        rw [hGL] at J hgl0 hgl1 hil ⊢
        have q3 : (0 : Int) ≤ (i : Int) := by omega
        have q4 : (i : Int) < (GL : Int) := by omega
        have HGL0 := hide hgl0
        clear hg hg1 hg1' hg2 hgi hge hgne hGL hIc hgl0
        go_wp2_with fail
        refine Held.begin (fun z => z.cell? ⟨bo, i, none⟩ = some (.slice g.A g.n g.c) ∧ z.cell? ⟨xb, 0, none⟩ = some (.slice x.A x.n x.c) ∧ z.cell? ⟨xb, 1, none⟩ = some (.int .i64 x.m)) 10 (by kernel_rfl) ?_
        have hBd : Below W4.heap.size W4 W4.drew := (Below.refl _ _).drew
        have JD := J.below hBd
        have JMD := JM.drew
        have JBD := JB.below hBd
        have JLD := bstep JL hBd
        have rowd := rowc.below hBd
        have kxd := kxc.below hBd kxc.lt
        obtain ⟨X1, hX1⟩ : ∃ X1, W4.drew = X1 := ⟨_, rfl⟩
        have jszd : w.heap.size + 2 ≤ X1.heap.size := by rw [← hX1]; exact jsz
        rw [hX1] at JD JMD JBD JLD rowd kxd ⊢
        clear hX1 hBd J JM JB JL rowc kxc jsz
        have hce : X1.cell? ⟨bo, i, none⟩ = some (.slice g.A g.n g.c) := by
          have := JD.own.cells (g := bo) rfl i (.slice g.A g.n g.c) (by rw [show i = i * 1 + 0 by omega, flat_get encGp_len _ i 0 g HGI.out (by omega)]; rfl)
          rw [add_plain, Nat.zero_add] at this
          exact this
        have hS : X1.cell? ⟨bo, i, none⟩ = some (.slice g.A g.n g.c) ∧ X1.cell? ⟨xb, 0, none⟩ = some (.slice x.A x.n x.c) ∧ X1.cell? ⟨xb, 1, none⟩ = some (.int .i64 x.m) := ⟨hce, by simpa using kxd.cell 0, by simpa using kxd.cell 1⟩
        clear hce
        refine Held.take (i := 0) (.slice (some ⟨bo, 0, none⟩) GL co) rfl hS (by kernel_rfl) (by kernel_rfl) (by kernel_rfl) (by kernel_rfl) (fun _ _ _ h => h) rfl (fun y hy => by obtain ⟨x1, x2, x3⟩ := hy; go_simp) ?_
        try simp only [Act.put]
        refine Held.take (i := 1) (.int .i64 ((i : Nat) : Int)) rfl hS (by kernel_rfl) (by kernel_rfl) (by kernel_rfl) (by kernel_rfl) (fun _ _ _ h => h) rfl (fun y hy => by obtain ⟨x1, x2, x3⟩ := hy; go_simp) ?_
        try simp only [Act.put]
        refine Held.take (i := 2) (.slice (some ⟨bo, 0, none⟩) GL co) rfl hS (by kernel_rfl) (by kernel_rfl) (by kernel_rfl) (by kernel_rfl) (fun _ _ _ h => h) rfl (fun y hy => by obtain ⟨x1, x2, x3⟩ := hy; go_simp) ?_
        try simp only [Act.put]
        refine Held.take (i := 3) (.int .i64 ((i : Nat) : Int)) rfl hS (by kernel_rfl) (by kernel_rfl) (by kernel_rfl) (by kernel_rfl) (fun _ _ _ h => h) rfl (fun y hy => by obtain ⟨x1, x2, x3⟩ := hy; go_simp) ?_
        try simp only [Act.put]
        refine Held.take (i := 4) (.pointer (some ⟨bo, i, none⟩)) rfl hS (by kernel_rfl) (by kernel_rfl) (by kernel_rfl) (by kernel_rfl) (fun _ _ _ h => h) rfl (fun y hy => by obtain ⟨x1, x2, x3⟩ := hy; go_simp) ?_
        try simp only [Act.put]
        refine Held.take (i := 5) (.slice g.A g.n g.c) rfl hS (by kernel_rfl) (by kernel_rfl) (by kernel_rfl) (by kernel_rfl) (fun _ _ _ h => h) rfl (fun y hy => by obtain ⟨x1, x2, x3⟩ := hy; go_simp) ?_
        try simp only [Act.put]
        refine Held.take (i := 6) (.agg #[.slice x.A x.n x.c, .int .i64 x.m]) rfl hS (by kernel_rfl) (by kernel_rfl) (by kernel_rfl) (by kernel_rfl) (fun _ _ _ h => h) rfl (fun y hy => by obtain ⟨x1, x2, x3⟩ := hy; go_simp) ?_
        try simp only [Act.put]
        refine Held.one (i := 7) rfl (by kernel_rfl) rfl (fun K hK => ?_)
        have hBa := below_val (w := X1) #[.slice x.A x.n x.c, .int .i64 x.m] 52
        have hS7 : (X1.alloc (.cells #[.slice x.A x.n x.c, .int .i64 x.m] 52)).cell? ⟨bo, i, none⟩ = some (.slice g.A g.n g.c) ∧ (X1.alloc (.cells #[.slice x.A x.n x.c, .int .i64 x.m] 52)).cell? ⟨xb, 0, none⟩ = some (.slice x.A x.n x.c) ∧ (X1.alloc (.cells #[.slice x.A x.n x.c, .int .i64 x.m] 52)).cell? ⟨xb, 1, none⟩ = some (.int .i64 x.m) := ⟨(hBa.cell (World.block_lt_of_cell? _ _ hS.1)).trans hS.1, (hBa.cell (World.block_lt_of_cell? _ _ hS.2.1)).trans hS.2.1, (hBa.cell (World.block_lt_of_cell? _ _ hS.2.2)).trans hS.2.2⟩
        have HS7 := hide hS7
        clear hS7
        unfold Oper.wp
        go_simp
        refine hK _ _ (fun _ => HS7.out) ?_
        try simp only [Act.put]
        clear hK K
        have JE := JD.below hBa
        have JME := JMD.alloc (.cells #[.slice x.A x.n x.c, .int .i64 x.m] 52)
        have JBE := JBD.below hBa
        have JLE := bstep JLD hBa
        have rowe := rowd.below hBa
        have hrd : Reads (X1.alloc (.cells #[.slice x.A x.n x.c, .int .i64 x.m] 52)) (X1.heap.size + 1) 2 (some ⟨X1.heap.size, 0, none⟩) 1 [.slice x.A x.n x.c, .int .i64 x.m] := rd_blk X1 [.slice x.A x.n x.c, .int .i64 x.m] 52
        have hos : (X1.alloc (.cells #[.slice x.A x.n x.c, .int .i64 x.m] 52)).heap.size = X1.heap.size + 1 := by simp
        have own0 := JE.row g (List.mem_of_getElem? HGI.out)
        refine Held.one (i := 8) rfl (by kernel_rfl) rfl (fun K hK => ?_)
        refine wp_append_any _ _ _ 26 rfl (w.heap.size + 2) 52 i0 _ 2 32 Tryz.underlying26 hi hz0 hz1 hz2 rfl (by decide) (.slice g.A g.n g.c) g.n _ rfl own0 (X1.heap.size + 1) (some ⟨X1.heap.size, 0, none⟩) 1 1 [.slice x.A x.n x.c, .int .i64 x.m] rfl hrd (by simp [Value.oneCell']) (by have := HGN.out; unfold maxLen; omega) (by have := HGN.out; omega) (by omega) ?_
        intro v' X3 hown1 hgrow hat
        obtain ⟨gr, capr, hvr⟩ := ownsRow_succ hown1
        subst hvr
        have hgb : g.v.ownBlock ≠ some bo := own_types (b := bo) JE.own own0 (by decide) rfl
        have hbo := (JE.own.lt bo rfl).2
        have hx2 := (kxd.alloc (.cells #[.slice x.A x.n x.c, .int .i64 x.m] 52)).lt
        have hgx : some xb ≠ g.v.ownBlock := fun e => by have := HGX.out xb e.symm; omega
        have hS8 : X3.cell? ⟨bo, i, none⟩ = some (.slice g.A g.n g.c) ∧ X3.cell? ⟨xb, 0, none⟩ = some (.slice x.A x.n x.c) ∧ X3.cell? ⟨xb, 1, none⟩ = some (.int .i64 x.m) := ⟨(World.cell?_of_block (hgrow.block bo hbo (fun e => hgb e.symm))).trans HS7.out.1, (World.cell?_of_block (hgrow.block xb hx2 hgx)).trans HS7.out.2.1, (World.cell?_of_block (hgrow.block xb hx2 hgx)).trans HS7.out.2.2⟩
        refine hK _ _ (fun _ => hS8) ?_
        try simp only [Act.put]
        clear hK K
        refine Held.one (i := 9) rfl (by kernel_rfl) rfl (fun K hK => ?_)
        unfold Oper.wp
        go_simp
        refine hK _ _ (fun _ => hS8) ?_
        try simp only [Act.put]
        clear hK K
        have hown3 := own_block JE.own (w' := X3) fun q hq => by
          obtain rfl : bo = q := by simpa [Value.ownBlock] using hq
          exact hgrow.block bo hbo (fun e => hgb e.symm)
        rw [HGL.out] at hown3
        have hfr : X3.frozen? ⟨bo, i, none⟩ = false := World.ownsRow.frozenAt hown3 i
        have hc3 := hS8.1
        clear hS hS8 HS7 hrd
        refine Held.one (i := 10) rfl (by kernel_rfl) rfl (fun K hK => ?_)
        unfold Oper.wp
        go_simp
        refine hK _ _ (fun h => absurd rfl h) ?_
        try simp only [Act.put]
        clear hK K
        refine Held.done (by kernel_rfl) ?_
        have hN2 : w.heap.size + 2 ≤ bo := (JE.own.lt bo rfl).1
        have HBB := hide (((Below.refl (w.heap.size + 2) (X1.alloc (.cells #[.slice x.A x.n x.c, .int .i64 x.m] 52))).grown hgrow (by omega) (fun q hq => (own0.lt q hq).1)).setCell (p := ⟨bo, i, none⟩) hN2 (.slice (some ⟨gr, 0, none⟩) (g.n + 1) capr))
        have HST := hide (GlI.step JE (by omega) HGL.out (by omega) HGI.out rowe hown1 hgrow hat)
        have HEND := hide (show GrI w s k ((dat l).take (m + 1)) (gl.set i ⟨some ⟨gr, 0, none⟩, g.n + 1, capr, g.l ++ [x]⟩) (.slice (some ⟨bo, 0, none⟩) GL co) (X3.setCell ⟨bo, i, none⟩ (.slice (some ⟨gr, 0, none⟩) (g.n + 1) capr)) from
          ⟨HST.out, HDT.out _ (by rw [dat_snoc]), by
            rw [show ((dat l).take (m + 1)).length = m + 1 by rw [HTK.out, List.length_append, htl]; rfl]
            exact JME.below HBB.out (by omega), JBE.keep (fun o => HBB.out.cell (p := ⟨w.heap.size, o, none⟩) (by show w.heap.size < w.heap.size + 2; omega)), JLE.trans (HBB.out.mono (by omega)), by have := HBB.out.size; omega⟩)
        clear HBB HST JE JME JBE JLE rowe hown1 hgrow hat own0 hown3 hfr hc3 kxd JD JMD JBD JLD rowd hgx hgb hbo hx2
        go_wp2
        go_roundw
        case rel => exact ⟨m + 1, _, _, by omega, by go_num, rfl, HEND.out⟩
        case measure => simp [intOf]; omega
      | none =>
        rw [hg] at hlk
        have HNP := hide (hF_put (s := s) (gs := gsB s D) (x := (x.r, x.m)) hg)
        have HGN1 := hide (show gsB s ((dat l).take (m + 1)) = gsB s D ++ [[(x.r, x.m)]] by
          rw [HSN.out, gstL, show gix s (gsB s D) (rowT (gk s (x.r, x.m).1)) = none from hg])
        obtain ⟨hgl, hdt, hmp, hbx, hbl, hsz⟩ := hIc
        obtain ⟨A6, c6, rfl, _⟩ := own_form hgl.own
        obtain ⟨i, hiL⟩ : ∃ i, gl.length = i := ⟨_, rfl⟩
        have HIL := hide hiL
        have HGL0 := hide hgl0
        have hgl1' : i ≤ m := by omega
        have HDT0 := hide hdt
        rw [hiL]
        clear hg hdt hgl0 hgl1 hiL
        go_wp2_with (first | (at_mapUpdate; refine wpList_putF _ rfl _ _ _ 117 rfl 9 3 (string_keyed Tryz.underlying9) Tryz.underlying117 hmp (by unfold maxLen; omega) _ _ (.string (rowT (pick x.r s.per))) rfl rfl rfl (key_of W4 (pick x.r s.per)) ?_; intro W5 hM5 hg5; have gl5 := (hgl.mapped (by omega) (by omega) hg5 hmp.obj).below (below_val (w := W5) #[.slice none 0 0] 26); have own5 := gl5.own; rw [HIL.out] at own5; have hw5 := hg5.size; have hrd5 := rd_blk W5 [.slice none 0 0] 26) | (at_builtin; refine wpList_append_any _ rfl _ _ 29 rfl (w.heap.size + 2) 26 i1 _ 1 24 Tryz.underlying29 hi' hz0' hz1' hz2' rfl (by decide) (.slice A6 i c6) i _ rfl own5 (W5.heap.size + 1) (some ⟨W5.heap.size, 0, none⟩) 1 1 [.slice none 0 0] rfl hrd5 (by simp [Value.oneCell']) (by unfold maxLen; omega) (by omega) (by simp; omega) ?_; intro v6 W6 hown6 hgrow6 _))
        have hos5 : (W5.alloc (.cells #[.slice none 0 0] 26)).heap.size = W5.heap.size + 1 := by simp
        have HB6 := hide ((Below.refl (w.heap.size + 2) (W5.alloc (.cells #[.slice none 0 0] 26))).grown hgrow6 (by omega) (fun q hq => (own5.lt q hq).1))
        have gl5b := gl5
        rw [HIL.out] at gl5b
        have J := gl5b.push (by omega) (by omega) (by rw [HIL.out]; exact hown6) hgrow6
        have hb5 : BoxS W5 w.heap.size k s := hbx.keep fun o => World.cell?_of_block (hg5.block w.heap.size hbx.lt (by simp))
        have JB : BoxS W6 w.heap.size k s := (hb5.below (below_val (w := W5) #[.slice none 0 0] 26)).keep fun o => HB6.out.cell (p := ⟨w.heap.size, o, none⟩) (by show w.heap.size < w.heap.size + 2; omega)
        have JM : MapF W6 Tryz.prog 9 (w.heap.size + 1) (m + 1) (hF s (gsB s ((dat l).take (m + 1)))) := by
          rw [HGN1.out, HNP.out, ← HGL0.out, HIL.out]
          rw [htl] at hM5
          exact (hM5.alloc _).below HB6.out (by omega)
        have JL : Below w.heap.size w W6 := ((hbl.grown hg5 (by omega) (fun q e => by injection e with e; omega)).alloc (by omega) _).trans (HB6.out.mono (by omega))
        have jsz : w.heap.size + 2 ≤ W6.heap.size := by have := HB6.out.size; omega
        have rowc := ((rowc.others hg5 (fun q e => by injection e with e; subst e; exact ⟨by omega, hmp.obj⟩)).alloc (.cells #[.slice none 0 0] 26)).grown own5 (by decide) (by omega) hgrow6
        have kx5 : Blk W5 xb 52 #[.slice x.A x.n x.c, .int .i64 x.m] := (hg5.block xb kxc.lt (fun e => by injection e with e; omega)).trans kxc
        have kxc : Blk W6 xb 52 #[.slice x.A x.n x.c, .int .i64 x.m] := (hgrow6.block xb (by have := kx5.lt; omega) (fun e => by
          obtain ⟨c', fz', h'⟩ := own_cells own5 e.symm
          have h2 := kx5.alloc (.cells #[.slice none 0 0] 26)
          unfold Blk at h2
          rw [h'] at h2
          injection h2 with h2
          injection h2 with _ h3
          exact absurd h3 (by decide))).trans (kx5.alloc _)
        obtain ⟨g, hgd⟩ : ∃ g : Gp, (⟨none, 0, 0, []⟩ : Gp) = g := ⟨_, rfl⟩
        rw [hgd] at J
        obtain ⟨gl2, hgl2⟩ : ∃ gl2, gl ++ [g] = gl2 := ⟨_, rfl⟩
        rw [hgl2] at J
        have HGI := hide (show gl2[i]? = some g by rw [← hgl2, List.getElem?_append_right (by rw [HIL.out]; exact Nat.le_refl _), HIL.out]; simp)
        have HGN := hide (show g.n ≤ m by rw [← hgd]; exact Nat.zero_le _)
        have HGX := hide (show ∀ q, g.v.ownBlock = some q → q < xb by rw [← hgd]; intro q hq; cases hq)
        have hgl2n : gl2.length = i + 1 := by rw [← hgl2, List.length_append, HIL.out]; rfl
        have HDT := hide (show ∀ G : Gp, dat G.l = dat g.l ++ [(x.r, x.m)] → (gl2.set i G).map (fun g => dat g.l) = gsB s ((dat l).take (m + 1)) from fun G hG => by
          have e1 : gl2.set i G = gl ++ [G] := by
            rw [← hgl2, ← HIL.out, List.set_append_right _ _ (Nat.le_refl _), Nat.sub_self]
            rfl
          have e2 : dat G.l = [(x.r, x.m)] := by rw [hG, ← hgd]; rfl
          rw [HGN1.out, ← HDT0.out, e1, List.map_append]
          simp [e2])
        obtain ⟨bo, co, rfl, _, _⟩ := J.own.form (by omega)
        obtain ⟨GL, hGL⟩ : ∃ GL, i + 1 = GL := ⟨_, rfl⟩
        rw [hgl2n, hGL] at J ⊢
        have HGL := hide (hgl2n.trans hGL)
        have q3 : (0 : Int) ≤ (i : Int) := by omega
        have q4 : (i : Int) < (GL : Int) := by omega
        clear gl5b gl5 own5 hown6 hgrow6 hrd5 hos5 hw5 hg5 hM5 hb5 hgl hmp hbx hbl hsz kx5 hgl2 hgl2n hGL hgd hlk
        go_wp2_with fail
        refine Held.begin (fun z => z.cell? ⟨bo, i, none⟩ = some (.slice g.A g.n g.c) ∧ z.cell? ⟨xb, 0, none⟩ = some (.slice x.A x.n x.c) ∧ z.cell? ⟨xb, 1, none⟩ = some (.int .i64 x.m)) 10 (by kernel_rfl) ?_
        have hBd : Below W6.heap.size W6 W6.drew := (Below.refl _ _).drew
        have JD := J.below hBd
        have JMD := JM.drew
        have JBD := JB.below hBd
        have JLD := bstep JL hBd
        have rowd := rowc.below hBd
        have kxd := kxc.below hBd kxc.lt
        obtain ⟨X1, hX1⟩ : ∃ X1, W6.drew = X1 := ⟨_, rfl⟩
        have jszd : w.heap.size + 2 ≤ X1.heap.size := by rw [← hX1]; exact jsz
        rw [hX1] at JD JMD JBD JLD rowd kxd ⊢
        clear hX1 hBd J JM JB JL rowc kxc jsz
        have hce : X1.cell? ⟨bo, i, none⟩ = some (.slice g.A g.n g.c) := by
          have := JD.own.cells (g := bo) rfl i (.slice g.A g.n g.c) (by rw [show i = i * 1 + 0 by omega, flat_get encGp_len _ i 0 g HGI.out (by omega)]; rfl)
          rw [add_plain, Nat.zero_add] at this
          exact this
        have hS : X1.cell? ⟨bo, i, none⟩ = some (.slice g.A g.n g.c) ∧ X1.cell? ⟨xb, 0, none⟩ = some (.slice x.A x.n x.c) ∧ X1.cell? ⟨xb, 1, none⟩ = some (.int .i64 x.m) := ⟨hce, by simpa using kxd.cell 0, by simpa using kxd.cell 1⟩
        clear hce
        refine Held.take (i := 0) (.slice (some ⟨bo, 0, none⟩) GL co) rfl hS (by kernel_rfl) (by kernel_rfl) (by kernel_rfl) (by kernel_rfl) (fun _ _ _ h => h) rfl (fun y hy => by obtain ⟨x1, x2, x3⟩ := hy; go_simp) ?_
        try simp only [Act.put]
        refine Held.take (i := 1) (.int .i64 ((i : Nat) : Int)) rfl hS (by kernel_rfl) (by kernel_rfl) (by kernel_rfl) (by kernel_rfl) (fun _ _ _ h => h) rfl (fun y hy => by obtain ⟨x1, x2, x3⟩ := hy; go_simp) ?_
        try simp only [Act.put]
        refine Held.take (i := 2) (.slice (some ⟨bo, 0, none⟩) GL co) rfl hS (by kernel_rfl) (by kernel_rfl) (by kernel_rfl) (by kernel_rfl) (fun _ _ _ h => h) rfl (fun y hy => by obtain ⟨x1, x2, x3⟩ := hy; go_simp) ?_
        try simp only [Act.put]
        refine Held.take (i := 3) (.int .i64 ((i : Nat) : Int)) rfl hS (by kernel_rfl) (by kernel_rfl) (by kernel_rfl) (by kernel_rfl) (fun _ _ _ h => h) rfl (fun y hy => by obtain ⟨x1, x2, x3⟩ := hy; go_simp) ?_
        try simp only [Act.put]
        refine Held.take (i := 4) (.pointer (some ⟨bo, i, none⟩)) rfl hS (by kernel_rfl) (by kernel_rfl) (by kernel_rfl) (by kernel_rfl) (fun _ _ _ h => h) rfl (fun y hy => by obtain ⟨x1, x2, x3⟩ := hy; go_simp) ?_
        try simp only [Act.put]
        refine Held.take (i := 5) (.slice g.A g.n g.c) rfl hS (by kernel_rfl) (by kernel_rfl) (by kernel_rfl) (by kernel_rfl) (fun _ _ _ h => h) rfl (fun y hy => by obtain ⟨x1, x2, x3⟩ := hy; go_simp) ?_
        try simp only [Act.put]
        refine Held.take (i := 6) (.agg #[.slice x.A x.n x.c, .int .i64 x.m]) rfl hS (by kernel_rfl) (by kernel_rfl) (by kernel_rfl) (by kernel_rfl) (fun _ _ _ h => h) rfl (fun y hy => by obtain ⟨x1, x2, x3⟩ := hy; go_simp) ?_
        try simp only [Act.put]
        refine Held.one (i := 7) rfl (by kernel_rfl) rfl (fun K hK => ?_)
        have hBa := below_val (w := X1) #[.slice x.A x.n x.c, .int .i64 x.m] 52
        have hS7 : (X1.alloc (.cells #[.slice x.A x.n x.c, .int .i64 x.m] 52)).cell? ⟨bo, i, none⟩ = some (.slice g.A g.n g.c) ∧ (X1.alloc (.cells #[.slice x.A x.n x.c, .int .i64 x.m] 52)).cell? ⟨xb, 0, none⟩ = some (.slice x.A x.n x.c) ∧ (X1.alloc (.cells #[.slice x.A x.n x.c, .int .i64 x.m] 52)).cell? ⟨xb, 1, none⟩ = some (.int .i64 x.m) := ⟨(hBa.cell (World.block_lt_of_cell? _ _ hS.1)).trans hS.1, (hBa.cell (World.block_lt_of_cell? _ _ hS.2.1)).trans hS.2.1, (hBa.cell (World.block_lt_of_cell? _ _ hS.2.2)).trans hS.2.2⟩
        have HS7 := hide hS7
        clear hS7
        unfold Oper.wp
        go_simp
        refine hK _ _ (fun _ => HS7.out) ?_
        try simp only [Act.put]
        clear hK K
        have JE := JD.below hBa
        have JME := JMD.alloc (.cells #[.slice x.A x.n x.c, .int .i64 x.m] 52)
        have JBE := JBD.below hBa
        have JLE := bstep JLD hBa
        have rowe := rowd.below hBa
        have hrd : Reads (X1.alloc (.cells #[.slice x.A x.n x.c, .int .i64 x.m] 52)) (X1.heap.size + 1) 2 (some ⟨X1.heap.size, 0, none⟩) 1 [.slice x.A x.n x.c, .int .i64 x.m] := rd_blk X1 [.slice x.A x.n x.c, .int .i64 x.m] 52
        have hos : (X1.alloc (.cells #[.slice x.A x.n x.c, .int .i64 x.m] 52)).heap.size = X1.heap.size + 1 := by simp
        have own0 := JE.row g (List.mem_of_getElem? HGI.out)
        refine Held.one (i := 8) rfl (by kernel_rfl) rfl (fun K hK => ?_)
        refine wp_append_any _ _ _ 26 rfl (w.heap.size + 2) 52 i0 _ 2 32 Tryz.underlying26 hi hz0 hz1 hz2 rfl (by decide) (.slice g.A g.n g.c) g.n _ rfl own0 (X1.heap.size + 1) (some ⟨X1.heap.size, 0, none⟩) 1 1 [.slice x.A x.n x.c, .int .i64 x.m] rfl hrd (by simp [Value.oneCell']) (by have := HGN.out; unfold maxLen; omega) (by have := HGN.out; omega) (by omega) ?_
        intro v' X3 hown1 hgrow hat
        obtain ⟨gr, capr, hvr⟩ := ownsRow_succ hown1
        subst hvr
        have hgb : g.v.ownBlock ≠ some bo := own_types (b := bo) JE.own own0 (by decide) rfl
        have hbo := (JE.own.lt bo rfl).2
        have hx2 := (kxd.alloc (.cells #[.slice x.A x.n x.c, .int .i64 x.m] 52)).lt
        have hgx : some xb ≠ g.v.ownBlock := fun e => by have := HGX.out xb e.symm; omega
        have hS8 : X3.cell? ⟨bo, i, none⟩ = some (.slice g.A g.n g.c) ∧ X3.cell? ⟨xb, 0, none⟩ = some (.slice x.A x.n x.c) ∧ X3.cell? ⟨xb, 1, none⟩ = some (.int .i64 x.m) := ⟨(World.cell?_of_block (hgrow.block bo hbo (fun e => hgb e.symm))).trans HS7.out.1, (World.cell?_of_block (hgrow.block xb hx2 hgx)).trans HS7.out.2.1, (World.cell?_of_block (hgrow.block xb hx2 hgx)).trans HS7.out.2.2⟩
        refine hK _ _ (fun _ => hS8) ?_
        try simp only [Act.put]
        clear hK K
        refine Held.one (i := 9) rfl (by kernel_rfl) rfl (fun K hK => ?_)
        unfold Oper.wp
        go_simp
        refine hK _ _ (fun _ => hS8) ?_
        try simp only [Act.put]
        clear hK K
        have hown3 := own_block JE.own (w' := X3) fun q hq => by
          obtain rfl : bo = q := by simpa [Value.ownBlock] using hq
          exact hgrow.block bo hbo (fun e => hgb e.symm)
        rw [HGL.out] at hown3
        have hfr : X3.frozen? ⟨bo, i, none⟩ = false := World.ownsRow.frozenAt hown3 i
        have hc3 := hS8.1
        clear hS hS8 HS7 hrd
        refine Held.one (i := 10) rfl (by kernel_rfl) rfl (fun K hK => ?_)
        unfold Oper.wp
        go_simp
        refine hK _ _ (fun h => absurd rfl h) ?_
        try simp only [Act.put]
        clear hK K
        refine Held.done (by kernel_rfl) ?_
        have hN2 : w.heap.size + 2 ≤ bo := (JE.own.lt bo rfl).1
        have HBB := hide (((Below.refl (w.heap.size + 2) (X1.alloc (.cells #[.slice x.A x.n x.c, .int .i64 x.m] 52))).grown hgrow (by omega) (fun q hq => (own0.lt q hq).1)).setCell (p := ⟨bo, i, none⟩) hN2 (.slice (some ⟨gr, 0, none⟩) (g.n + 1) capr))
        have HST := hide (GlI.step JE (by omega) HGL.out (by omega) HGI.out rowe hown1 hgrow hat)
        have HEND := hide (show GrI w s k ((dat l).take (m + 1)) (gl2.set i ⟨some ⟨gr, 0, none⟩, g.n + 1, capr, g.l ++ [x]⟩) (.slice (some ⟨bo, 0, none⟩) GL co) (X3.setCell ⟨bo, i, none⟩ (.slice (some ⟨gr, 0, none⟩) (g.n + 1) capr)) from
          ⟨HST.out, HDT.out _ (by rw [dat_snoc]), by
            rw [show ((dat l).take (m + 1)).length = m + 1 by rw [HTK.out, List.length_append, htl]; rfl]
            exact JME.below HBB.out (by omega), JBE.keep (fun o => HBB.out.cell (p := ⟨w.heap.size, o, none⟩) (by show w.heap.size < w.heap.size + 2; omega)), JLE.trans (HBB.out.mono (by omega)), by have := HBB.out.size; omega⟩)
        clear HBB HST JE JME JBE JLE rowe hown1 hgrow hat own0 hown3 hfr hc3 kxd JD JMD JBD JLD rowd hgx hgb hbo hx2
        go_wp2
        go_roundw
        case rel => exact ⟨m + 1, _, _, by omega, by go_num, rfl, HEND.out⟩
        case measure => simp [intOf]; omega
    · obtain rfl : m = n := by omega
      have hta : (dat l).take m = dat l := List.take_of_length_le (by rw [HL.out, HLN.out]; exact Nat.le_refl _)
      have hgk := gsB_ok (s := s) (b := dat l) (fun y hy => pick_ok (HF.out.ok y hy) HF.out.n) m
      rw [hta] at hI hgk
      have HGK := hide hgk
      have HMEM := hide (show ∀ g ∈ gl, dat g.l ∈ gsB s (dat l) from fun g hg => by rw [← hI.dt]; exact List.mem_map.2 ⟨g, hg, rfl⟩)
      have HNE := hide (show ∀ g ∈ gl, g.l ≠ [] from fun g hg e => HGK.out.ne _ (HMEM.out g hg) (by rw [e]; rfl))
      have HIN := hide (show ∀ g ∈ gl, ∀ i ∈ g.l, (i.r, i.m) ∈ dat l from fun g hg i hi => HGK.out.perm.mem_iff.1 (List.mem_flatten.2 ⟨_, HMEM.out g hg, List.mem_map.2 ⟨i, hi, rfl⟩⟩))
      have HLE := hide (show ∀ g ∈ gl, g.n ≤ m from fun g hg => by
        have h1 := (hI.gl_.row g hg).1
        rw [flat_length encIt_len] at h1
        have h2 := (List.sublist_flatten_of_mem (HMEM.out g hg)).length_le
        rw [HGK.out.perm.length_eq, dat_len, dat_len, HLN.out] at h2
        omega)
      have HGL := hide (show gl.length ≤ m by
        have h1 := flat_count _ HGK.out.ne
        rw [HGK.out.perm.length_eq, dat_len, HLN.out, ← hI.dt, List.length_map] at h1
        exact h1)
      have hlow : ∀ x ∈ obl v, w.heap.size + 2 ≤ x := fun x hx => (hI.gl_.own.lt x (obl_mem hx)).1
      have hszr := hI.sz
      have hc : ∀ (a b : Gp) (W : World), a ∈ gl → b ∈ gl → Bar wr.heap.size (obl v) wr W → Calls Tryz.prog 114 (#[.slice a.A a.n a.c, .slice b.A b.n b.c] ++ #[.pointer (some ⟨w.heap.size, 0, none⟩)]) W (RetG W (.int .i64 (cmpR (hkr s (dat a.l)) (hkr s (dat b.l))))) := by
        intro a b W ha hb2 hbar
        obtain ⟨bx, ox, i, him, hih, hf1, hri⟩ := hI.gl_.fst hbar ha (by omega) (HNE.out a ha)
        obtain ⟨by', oy, j, hjm, hjh, hf2, hrj⟩ := hI.gl_.fst hbar hb2 (by omega) (HNE.out b hb2)
        rw [hkr_head (s := s) hih, hkr_head (s := s) hjh]
        have hbw : Below w.heap.size wr W := hbar.below (by omega) (fun x hx => by have := hlow x hx; omega)
        have hbx : BoxS W w.heap.size k s := hI.box.keep fun o => hbar.cell (p := ⟨w.heap.size, o, none⟩) (by show w.heap.size < _; omega) (fun hm => by have : w.heap.size + 2 ≤ w.heap.size := hlow _ hm; omega)
        exact grp1_g a b bx ox by' oy i j k s w.heap.size w.heap.size W (hs.up (hI.bel.trans hbw)) hbx hf1 hf2 hri hrj (HF.out.p _ (HIN.out a ha i him)) (HF.out.p _ (HIN.out b hb2 j hjm)) (by have := HLE.out a ha; omega) (by have := HLE.out b hb2; omega)
      have HS := hide (SortG_any (w.heap.size + 2) gl.length v gl wr hI.gl_.own (by have := HGL.out; omega) 114 #[.pointer (some ⟨w.heap.size, 0, none⟩)] (enters_of Tryz.func114 (by kernel_rfl) rfl) (fun a b => cmpR (hkr s (dat a.l)) (hkr s (dat b.l))) (swo_tot (Tot.row.comap fun g : Gp => hkr s (dat g.l))) hc)
      clear hc hta hgk
      go_wp2_with fail
      refine HS.out.mono ?_
      rintro e W1 ⟨rfl, gl1, A1, n1, c1, rfl, hpm, hpw, hrd, hbar⟩
      clear HS
      have hS1 := hI.gl_.sorted (by omega) hpm hrd hbar
      have hbw : Below w.heap.size w W1 := hI.bel.trans (hbar.below (by omega) (fun x hx => by have := hlow x hx; omega))
      have hbx : BoxS W1 w.heap.size k s := hI.box.keep fun o => hbar.cell (p := ⟨w.heap.size, o, none⟩) (by show w.heap.size < _; omega) (fun hm => by have : w.heap.size + 2 ≤ w.heap.size := hlow _ hm; omega)
      have HDT := hide (show (gl1.map fun g => dat g.l).Perm (gsB s (dat l)) from by rw [← hI.dt]; exact hpm.map _)
      have HPW := hide (show (gl1.map fun g => dat g.l).Pairwise fun g k => ¬ cmpR (hkr s k) (hkr s g) < 0 from by rw [List.pairwise_map]; exact hpw)
      have HIN1 := hide (show ∀ g ∈ gl1, ∀ i ∈ g.l, (i.r, i.m) ∈ dat l from fun g hg => HIN.out g (hpm.mem_iff.1 hg))
      have HLE1 := hide (show ∀ g ∈ gl1, g.n ≤ m from fun g hg => HLE.out g (hpm.mem_iff.1 hg))
      have HLOW := hide (show ∀ g ∈ gl1, ∀ z, g.v.ownBlock = some z → w.heap.size + 2 ≤ z ∧ z < W1.heap.size from fun g hg z hz => (hS1.row g hg).lt z hz)
      have HN1 := hide (show gl1.length = n1 by
        have := hS1.rd.1
        rw [flat_length encGp_len] at this
        omega)
      have hn1 : n1 ≤ m := by rw [← HN1.out, hpm.length_eq]; exact HGL.out
      have hO := order_any k s W1
      unfold Sk.v at hO
      have HO := hide hO
      have g0 := hbx.c0
      have g1 := hbx.c1
      have g2 := hbx.c2
      have g3 := hbx.c3
      have hsz1 := hbar.size
      clear hO hI hpm hpw hrd hbar hbx HIN HLE HGL HMEM HNE hlow
      go_wp2_with fail
      refine HO.out.mono ?_
      rintro e W2 ⟨bs, bg, rfl, hbs, hbg, hof, hB2⟩
      have hS2 := hS1.below hB2
      have hbw2 := bstep hbw hB2
      have hsz2 := hB2.size
      clear g0 g1 g2 g3 HO hS1 hbw hB2
      have kf := Blk.new W2 53 #[.nilFunc]
      have kf0 := kf.cell 0
      have kff := kf.frozen 0
      simp at kf0
      have kf1 := Blk.new W2 53 #[ordV bs bg]
      have hBs := below_val (w := W2) #[ordV bs bg] 53
      have hbf : (W2.alloc (.cells #[ordV bs bg] 53)).cell? ⟨W2.heap.size, 0, none⟩ = some (ordV bs bg) := kf1.cell 0
      have hS3 := hS2.below hBs
      have hof3 := hof.below hBs
      have hbw3 := bstep hbw2 hBs
      have hlt3 := kf1.lt
      clear hS2 hbw2 hof hBs kf kf1
      unfold ordV at hbf hbw3 hof3 hS3 hlt3 ⊢
      go_upto_region 16 with fail
      clear kf0 kff
      obtain ⟨W3, hW3⟩ : ∃ W3, W2.alloc (.cells #[.func (Fn.func 122) #[] #[.pointer (some ⟨bs, 0, none⟩), .pointer (some ⟨bg, 0, none⟩)]] 53) = W3 := ⟨_, rfl⟩
      rw [hW3] at hbf hbw3 hof3 hS3 hlt3 ⊢
      clear hW3
      have HOUT := hide (show ∀ (gl2 : List Gp) (W : World), GsI s w.heap.size gl1 gl2 n1 W3 W → RetGrp w s (dat l) (.returned (.slice A1 n1 c1)) W from fun gl2 W h => by
        obtain ⟨f1, f2, f3⟩ := GsI.done (by rw [HN1.out]; exact h) hS3
        refine ⟨A1, n1, c1, gl2, rfl, f1, f2, Gsk.grs HGK.out (fun y hy => pick_ok (HF.out.ok y hy) HF.out.n) HDT.out (HPW.out.imp fun h => by omega) (by rw [List.length_map, List.length_map]; exact h.len.symm) f3, hbw3.trans (h.bar.below (by omega) fun x hx => ?_)⟩
        obtain ⟨i, g, _, hg, hq⟩ := gX_mem hx
        have := (HLOW.out g (List.mem_of_getElem? hg) x hq).1
        omega)
      clear HGK HDT HPW
      go_wp2_with fail
      go_loopw [62] (fun i wz => ∃ (q : Nat) (gl2 : List Gp), q ≤ n1 ∧ i = .int .i64 q ∧ GsI s w.heap.size gl1 gl2 q W3 wz) (fun i _ => n1 - (intOf i).toNat)
      case atStart => exact ⟨0, gl1, Nat.zero_le _, rfl, GsI.nil _ _ _ _⟩
      case round =>
        obtain ⟨q, gl2, hq, rfl, hI2⟩ := hrel
        by_cases hlt2 : q < n1
        · obtain ⟨g, hgq⟩ : ∃ g, gl1[q]? = some g := ⟨_, List.getElem?_eq_getElem (by rw [HN1.out]; exact hlt2)⟩
          have hgm := List.mem_of_getElem? hgq
          obtain ⟨hown, hrows, b, off, rfl, hcell⟩ := hI2.at_ hS3 (by omega) hgq
          have hgn := HLE1.out g hgm
          have HIG := hide (HIN1.out g hgm)
          have HLG := hide (HLOW.out g hgm)
          have HFAR := hide (show ∀ (W : World), Bar wr.heap.size (obl g.v) wr W → ∀ z, z < W3.heap.size → (∀ g ∈ gl1, g.v.ownBlock ≠ some z) → W.heap[z]? = W3.heap[z]? from fun W hb z hz hn => (hb.block z (by have := hI2.bar.size; omega) (fun hm => hn g hgm (obl_mem hm))).trans (hI2.far hz hn))
          have HBW := hide (show ∀ (W : World), Bar wr.heap.size (obl g.v) wr W → Below w.heap.size w W from fun W hb => (hbw3.trans (hI2.bar.below (by omega) fun x hx => by
            obtain ⟨i, k, _, hk, hkq⟩ := gX_mem hx
            have := (HLOW.out k (List.mem_of_getElem? hk) x hkq).1
            omega)).trans (hb.below (by have := hI2.bar.size; omega) fun x hx => by
            have := (HLG.out x (obl_mem hx)).1
            omega))
          have hbl := World.block_lt_of_cell? _ _ hbf
          have hSV := SortV (w.heap.size + 2) g.n w.heap.size g.v g.l wr hown (by omega) hrows (by omega) 116 #[.pointer (some ⟨W2.heap.size, 0, none⟩)] (enters_of Tryz.func116 (by kernel_rfl) rfl) (fun x y => ordS s x.r y.r) (swo_tot ((ordS_tot s).comap It.r)) (fun x y W hx hy h1 h2 hb => by
            have hno : ∀ z, W1.heap.size ≤ z → ∀ k ∈ gl1, k.v.ownBlock ≠ some z := fun z hz k hk e => by have := (HLOW.out k hk z e).2; omega
            have f1 := HFAR.out W hb bs (World.block_lt_of_cell? _ _ hof3.box.c0) (hno bs hbs)
            have f2 := HFAR.out W hb bg (World.block_lt_of_cell? _ _ hof3.sg) (hno bg hbg)
            have f3 := HFAR.out W hb W2.heap.size hbl (hno _ hsz2)
            exact grp2_g x y k s W2.heap.size bs bg w.heap.size W (hs.up (HBW.out W hb)) (hof3.keep (fun o => World.cell?_of_block f1) (World.cell?_of_block f2)) ((World.cell?_of_block f3).trans hbf) h1 h2 (HF.out.b _ (HIG.out x hx)) (HF.out.b _ (HIG.out y hy)))
          have HSV := hide hSV
          have HST := hide (fun (l' : List It) (W' : World) h1 h2 h3 h4 h5 => hI2.step hS3 (by omega) hgq (l' := l') (W' := W') (by omega) h1 h2 h3 h4 h5)
          have q1 : (0 : Int) ≤ (q : Int) := by omega
          have q2 : (q : Int) < (n1 : Int) := by omega
          unfold Gp.v at HSV
          clear hSV hown hrows hI2 hgq hgm HIG HLG HFAR HBW
          go_wp2_with fail
          refine HSV.out.mono ?_
          rintro e W5 ⟨rfl, l', A5, n5, c5, hv5, hnc5, hpm5, hpw5, hrd5, hrows5, hbar5⟩
          injection hv5 with e1 e2 e3
          subst e1 e2 e3
          have HI3 := hide (HST.out l' W5 hrd5 hrows5 hpm5 (hpw5.imp fun h => by simpa using h) hbar5)
          clear hrd5 hrows5 hpm5 hpw5 hbar5 HSV HST hcell
          go_wp2_with fail
          go_roundw
          case rel => exact ⟨q + 1, _, by omega, by go_num, HI3.out⟩
          case measure => simp [intOf]; omega
        · obtain rfl : q = n1 := by omega
          have HE := hide (HOUT.out gl2 wr hI2)
          clear HOUT hI2 hS3
          go_wp2_with fail
          go_ret
          exact HE.out
end Go.Proofs.YtljglceaibgknaaGreatDoor
