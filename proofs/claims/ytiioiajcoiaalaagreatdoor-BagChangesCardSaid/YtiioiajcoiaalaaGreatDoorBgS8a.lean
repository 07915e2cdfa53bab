/-
  Plain bounds for the walk of the reference's Plus.
-/
import Derived.Test.YtiioiajcoiaalaaGreatDoorBgS7
namespace Go.Proofs.YtiioiajcoiaalaaGreatDoor
open Go.RowKit

theorem ins_len (r : Rw) (n : Int) : ∀ b : Bg, (insB r n b).length ≤ b.length + 1
  | [] => by unfold insB; split <;> simp
  | y :: b => by
    have := ins_len r n b
    unfold insB
    split
    · split <;> simp <;> omega
    · split
      · split <;> simp
      · simp; omega
theorem asc_take {b : Bg} (h : Asc b) (k : Nat) : Asc (b.take k) := ⟨fun y hy => h.ok y (List.mem_of_mem_take hy), h.up.sublist (List.take_sublist _ _)⟩
theorem plus_snoc (a b : Bg) (x : Rw × Int) (n : Int) : plusB a (b ++ [x]) n = putB (plusB a b n) x.1 (n * x.2) := by unfold plusB; rw [List.foldl_append]; rfl
theorem put_len {b : Bg} (h : Asc b) (r : Rw) (n : Int) : (putB b r n).length ≤ b.length + 1 := by rw [putB_ins h.up]; exact ins_len r n b
theorem look_bound {d : Bg} (hd : ∀ x ∈ d, numB x.2 = true) (r : Rw) : -1000000 ≤ look d r ∧ look d r ≤ 1000000 := by
  induction d with
  | nil => unfold look; omega
  | cons y d ih =>
    rw [look]
    split
    · have := numB_ne (hd y (by simp)); omega
    · exact ih fun z hz => hd z (List.mem_cons_of_mem _ hz)
theorem plus_num {a b : Bg} (ha : okBag a = true) (hb : okBag b = true) {n : Int} (hn : -1000000 ≤ n ∧ n ≤ 1000000) (k : Nat) {x : Rw × Int} (hx : x ∈ plusB a (b.take k) n) : -4000000000000 ≤ x.2 ∧ x.2 ≤ 4000000000000 := by
  have h1 := okBag_asc ha
  have h2 := okBag_asc hb
  have hp := plus_ok (n := n) h1.1 (fun x hx => (numB_ne (h1.2.1 x hx)).1) (asc_take h2.1 k)
  have hl := look_mem hp.1 hx
  rw [hp.2.2] at hl
  have b1 := look_bound h1.2.1 x.1
  have b2 := mul_bound hn (look_bound (d := b.take k) (fun y hy => h2.2.1 y (List.mem_of_mem_take hy)) x.1)
  omega
theorem plus_len {a b : Bg} (ha : okBag a = true) (hb : okBag b = true) (n : Int) : ∀ k, k ≤ b.length → (plusB a (b.take k) n).length ≤ a.length + k
  | 0, _ => by simp [plusB]
  | k + 1, hk => by
    have h1 := okBag_asc ha
    have ih := plus_len ha hb n k (by omega)
    have hp := plus_ok (n := n) h1.1 (fun x hx => (numB_ne (h1.2.1 x hx)).1) (asc_take (okBag_asc hb).1 k)
    have hg : b[k]? = some b[k] := List.getElem?_eq_getElem (by omega)
    rw [take_snoc' hg, plus_snoc]
    have := put_len hp.1 (b[k]).1 (n * (b[k]).2)
    omega
end Go.Proofs.YtiioiajcoiaalaaGreatDoor
