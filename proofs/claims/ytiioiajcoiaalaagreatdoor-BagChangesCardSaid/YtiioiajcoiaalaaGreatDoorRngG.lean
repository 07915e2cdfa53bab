/-
  As Rng, where an element's arguments are told by a relation that the round's world meets. Plain theorems over any program; no condition.
-/
import Derived.Test.YtiioiajcoiaalaaGreatDoorRng
namespace Go.Proofs.YtiioiajcoiaalaaGreatDoor
open Go.RowKit

section
variable {F : Fence} {n : Nat} {P : Program} {α : Type}

/-- The iterator g over the list xs: Wr is what it does to memory between two rounds; Kp is what a round must keep. -/
def IterG (F : Fence) (n : Nat) (P : Program) (g : Nat) (lb : Array Value) (Arg : α → Array Value → World → Prop) (xs : List α) (Wr Kp : World → World → Prop) (W : World) : Prop :=
  ∀ (l : Nat) (J Jx : List α → World → Prop), (∀ s X Y, J s X → Wr X Y → J s Y) → (∀ s X Y, Jx s X → Wr X Y → Jx s Y) →
    (∀ pre x ag W1, pre ++ [x] <+: xs → J pre W1 → Arg x ag W1 → YieldAt F (n - 1) P l ag W1 fun e W' =>
      (e = .returned (.bool true) ∧ J (pre ++ [x]) W' ∧ Kp W1 W') ∨ (e = .returned (.bool false) ∧ Jx (pre ++ [x]) W' ∧ Kp W1 W')) →
    J [] W → CallsIn F n P g (#[.func (.yield l) #[] #[]] ++ lb) W fun e W' => (∃ v, e = .returned v) ∧ (J xs W' ∨ ∃ pre, pre <+: xs ∧ Jx pre W')

/-- How a round's body is left; what a round must keep is kept on each way. -/
def rndPostG (B : Nat) (Kp : World → World → Prop) (I : List α → World → Prop) (Ix : Code → List α → World → Prop) (s : List α) (W : World) : Exit → Act → World → Prop
  | .normal, _, W' => KeepsFrom B W W' ∧ Kp W W' ∧ I s W'
  | .ret, _, W' => KeepsFrom B W W' ∧ Kp W W' ∧ Ix .ret s W'
  | .exit id, _, W' => KeepsFrom B W W' ∧ Kp W W' ∧ Ix (.exit id) s W'
  | _, _, _ => False

theorem wpIn_iterG {g : Operand} {ps : Array Tmp} {assign body : Code} {Q : Exit → Act → World → Prop} {a : Act} {w : World} (hro : F.round = none) (h1 : 1 ≤ n) {gf : Nat} {lb : Array Value}
    (hg : a.eval g = .func (.func gf) #[] lb) (hFg : F.fn gf) (eg : ∀ args w, (callFunc gf args).run P w = .ok (.enter gf args) w)
    {Arg : α → Array Value → World → Prop} {xs : List α} {Wr Kp : World → World → Prop} (hit : ∀ W, Below w.heap.size w W → W.heap.size = w.heap.size + 2 → IterG F (n - 1) P gf lb Arg xs Wr Kp W) (hps : ∀ x ag W, Arg x ag W → ag.size = ps.size)
    (hWr : ∀ X Y, Wr X Y → ∀ k o, w.heap.size ≤ k → k < w.heap.size + 2 → X.heap[k]? = some o → o.isCells = false → Y.heap[k]? = some o) (hKt : ∀ {A B C : World}, Kp A B → Kp B C → Kp A C)
    (hKb : ∀ (W : World) (l : Nat) (o o' : Obj), w.heap.size ≤ l → l < w.heap.size + 2 → W.heap[l]? = some o → o.isCells = false → o.isWalk = false → Kp W (W.putObj l o'))
    (I : List α → World → Prop) (Ix : Code → List α → World → Prop) (hI : OwnFrom w.heap.size I) (hIx : ∀ c, OwnFrom w.heap.size (Ix c)) (hIw : ∀ s X Y, I s X → Wr X Y → I s Y) (hIxw : ∀ c s X Y, Ix c s X → Wr X Y → Ix c s Y) (h0 : I [] w)
    (Ax : List α → α → Act → World → Prop) (hAx : ∀ pre x a', OwnFrom w.heap.size (fun (_ : Unit) W => Ax pre x a' W))
    (hassign : ∀ (l : Nat) (pre : List α) (x : α) (ag : Array Value) (W : World) (K : Act → World → Prop), pre ++ [x] <+: xs → I pre W → Arg x ag W → (∀ a' W', KeepsFrom w.heap.size W W' → Kp W W' → I pre W' → Ax pre x a' W' → K a' W') →
      assign.wpIn (F.inRound l) (n - 1 - 1) P (Exit.then K (fun _ _ _ => False)) { tmps := (ps.zip ag).foldl (fun t (p, v) => t.setIfInBounds p v) a.tmps, defers := [] } W)
    (hbody : ∀ (l : Nat) (pre : List α) (x : α) (a' : Act) (W : World), pre ++ [x] <+: xs → I pre W → Ax pre x a' W → body.wpIn (F.inRound l) (n - 1 - 1) P (rndPostG w.heap.size Kp I Ix (pre ++ [x]) W) a' W)
    (hdone : ∀ (D : Nat) (W : World), w.heap.size ≤ D → I xs W → W.heap[D]? = some (.deferred (some [])) → Q .normal { a with defers := { target := .collected D, args := #[] } :: a.defers } W)
    (hstop : ∀ (D : Nat) (c : Code) (pre : List α) (W : World), w.heap.size ≤ D → pre <+: xs → Ix c pre W → W.heap[D]? = some (.deferred (some [])) → c.wpIn F n P Q { a with defers := { target := .collected D, args := #[] } :: a.defers } W) :
    (Code.rangeFunc g ps assign body).wpIn F n P Q a w := by
  refine wpIn_rangeFunc fun fn hfn => ?_
  rw [hro]
  obtain ⟨N, hN⟩ : ∃ N, w.heap.size = N := ⟨_, rfl⟩
  let rc : LoopState → Option Code → Loop := fun st pe => { state := st, pending := pe, fn, tmps := a.tmps, params := ps, assign, body, defers := w.heap.size }
  let W1 := (w.alloc (.deferred (some []))).alloc (.loop (rc .ready none))
  have lL : W1.heap[N + 1]? = some (.loop (rc .ready none)) := by
    have h := World.alloc_heap_new (w.alloc (.deferred (some []))) (.loop (rc .ready none))
    rw [World.size_alloc, hN] at h; exact h
  have lD : W1.heap[N]? = some (.deferred (some [])) := by
    have h := World.alloc_heap_new w (.deferred (some []))
    rw [hN] at h
    exact (Below.heap_alloc _ _ _ (by rw [World.size_alloc, hN]; omega)).trans h
  have hB1 : Below w.heap.size w W1 := ((Below.refl _ w).alloc (Nat.le_refl _) _).alloc (by simp) _
  refine ⟨w.heap.size + 1, [{ target := .collected w.heap.size, args := #[] }], W1, { target := .fn (.func gf) lb, args := #[.func (.yield (w.heap.size + 1)) #[] #[]] }, W1, gf, #[.func (.yield (w.heap.size + 1)) #[] #[]] ++ lb, W1,
    run_enterLoop_outer _ _ _ _ _, by simp only [resolve, hg]; simp [go_sem], fun f' hf' => by simp [Target.leads] at hf'; subst hf'; exact hFg, by simp [invoke, go_sem, eg], fun _ => h1, ?_⟩
  -- both blocks of book-keeping, whatever the record says
  let Bk : Loop → World → Prop := fun r W => W.heap[N + 1]? = some (.loop r) ∧ W.heap[N]? = some (.deferred (some []))
  have bkF : ∀ {r : Loop} {X Y : World}, KeepsFrom N X Y → Bk r X → Bk r Y := fun h k => ⟨h.same _ _ (by omega) k.1 rfl, h.same _ _ (Nat.le_refl _) k.2 rfl⟩
  have bkW : ∀ {r : Loop} {X Y : World}, Wr X Y → Bk r X → Bk r Y := fun h k => ⟨hWr _ _ h (N + 1) _ (by omega) (by omega) k.1 rfl, hWr _ _ h N _ (by omega) (by omega) k.2 rfl⟩
  have bkP : ∀ {r r' : Loop} {X : World}, Bk r X → Bk r' (X.putObj (N + 1) (.loop r')) := fun k => ⟨World.putObj_heap_same (Array.getElem?_eq_some_iff.1 k.1).1, (World.putObj_heap_other (by omega)).trans k.2⟩
  have bkI : ∀ {β : Type} {J : β → World → Prop} {s : β} {r : Loop} {X : World} (r' : Loop), OwnFrom N J → J s X → Bk r X → J s (X.putObj (N + 1) (.loop r')) := fun r' hJ hs k => hJ.putObj _ hs (by omega) k.1 rfl
  have bkK : ∀ {r : Loop} {X : World} (r' : Loop), Bk r X → Kp X (X.putObj (N + 1) (.loop r')) := fun {r X} r' k => hKb X (N + 1) _ _ (by omega) (by omega) k.1 rfl rfl
  have bkE : ∀ {r : Loop} {X : World} (j : Option Code), Bk r X → (Instr.endRound (N + 1) j).run P X = .ok (.bool j.isNone) (X.putObj (N + 1) (.loop { r with state := if j.isNone then .ready else .done, pending := j })) := fun j k => run_endRound j k.1
  rw [hN] at hI hassign hbody hdone hstop
  have hIx' : ∀ c, OwnFrom N (Ix c) := fun c => hN ▸ hIx c
  have hAx' : ∀ pre x a', OwnFrom N (fun (_ : Unit) W => Ax pre x a' W) := fun pre x a' => hN ▸ hAx pre x a'
  have hI1 : I [] W1 := hI.alloc _ (hI.alloc _ h0)
  have hc := hit W1 hB1 (by show (((w.alloc (.deferred (some []))).alloc (.loop (rc .ready none))).heap.size) = _; simp) (N + 1) (fun pre W => I pre W ∧ Bk (rc .ready none) W) (fun pre W => ∃ c, Ix c pre W ∧ Bk (rc .done (some c)) W)
    (fun s X Y h k => ⟨hIw s X Y h.1 k, bkW k h.2⟩) (fun s X Y ⟨c, h1, h2⟩ k => ⟨c, hIxw c s X Y h1 k, bkW k h2⟩) ?_ ⟨hI1, lL, lD⟩
  · rw [hN]
    refine hc.mono ?_
    rintro e W2 ⟨⟨v, rfl⟩, (⟨hi, hk⟩ | ⟨pre, hp, c, hi, hk⟩)⟩
    · exact ⟨none, _, run_endLoop hk.1 (by simp [rc]), hdone N _ (Nat.le_refl _) (bkI _ hI hi hk) (bkP (r' := _) hk).2⟩
    · exact ⟨some c, _, run_endLoop hk.1 (by simp [rc]), hstop N c pre _ (Nat.le_refl _) hp (bkI _ (hIx' c) hi hk) (bkP (r' := _) hk).2⟩
  · rintro pre x ag W hpx ⟨hi, hk⟩ hag
    refine ⟨fn, _, assign, body, run_yield (args := ag) hk.1 (hps x ag W hag), roundIn_of_wpIn hfn (hassign _ pre x ag W _ hpx hi hag fun a' Wa hkf hkp hia hax => ?_)⟩
    have hka := bkF hkf hk
    refine ⟨_, run_beginRound hka.1 rfl, ?_⟩
    have hkb := bkP (r' := { rc .ready none with state := .busy }) hka
    have fin : ∀ {W3 : World} (j : Option Code), KeepsFrom N (Wa.putObj (N + 1) (.loop { rc .ready none with state := .busy })) W3 →
        (Instr.endRound (N + 1) j).run P W3 = .ok (.bool j.isNone) (W3.putObj (N + 1) (.loop (rc (if j.isNone then .ready else .done) j))) ∧ Bk { rc .ready none with state := .busy } W3 := fun j h => ⟨bkE j (bkF h hkb), bkF h hkb⟩
    refine wpIn_mono (hbody _ pre x a' _ hpx (bkI _ hI hia hka) (bkI (s := ()) _ (hAx' pre x a') hax hka)) ?_
    rintro e a3 W3 hp
    cases e with
    | normal =>
      obtain ⟨h3, hp3, hi3⟩ := hp
      obtain ⟨hr, hb3⟩ := fin none h3
      exact ⟨_, _, hr, .inl ⟨rfl, ⟨bkI _ hI hi3 hb3, bkP hb3⟩, hKt hkp (hKt (bkK _ hka) (hKt hp3 (bkK _ hb3)))⟩⟩
    | ret =>
      obtain ⟨h3, hp3, hi3⟩ := hp
      obtain ⟨hr, hb3⟩ := fin (some .ret) h3
      exact ⟨_, _, hr, .inr ⟨rfl, ⟨.ret, bkI _ (hIx' _) hi3 hb3, bkP hb3⟩, hKt hkp (hKt (bkK _ hka) (hKt hp3 (bkK _ hb3)))⟩⟩
    | exit id =>
      obtain ⟨h3, hp3, hi3⟩ := hp
      obtain ⟨hr, hb3⟩ := fin (some (.exit id)) h3
      exact ⟨_, _, hr, .inr ⟨rfl, ⟨.exit id, bkI _ (hIx' _) hi3 hb3, bkP hb3⟩, hKt hkp (hKt (bkK _ hka) (hKt hp3 (bkK _ hb3)))⟩⟩
    | goto t => exact hp.elim
    | panic ch => exact hp.elim
    | outgrown => exact hp.elim
end
end Go.Proofs.YtiioiajcoiaalaaGreatDoor
