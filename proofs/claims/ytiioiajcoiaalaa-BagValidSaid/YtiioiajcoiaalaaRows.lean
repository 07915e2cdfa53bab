/-
  No cell of these rows narrows 'for every input' (looked for: loops, veiled, ifaces, maps, wideKeys, modest, calm, conditions, laid).
  DERIVED. THE GIVEN ROWS OF THIS SEAT. 3 by the template 'for every input the law returns true; each argument reads behind the call as it read before'; 0 by the template 'total and deterministic' (their statements: YtiioiajcoiaalaaTotals.lean).
  GIVEN WITH THE SEED: the statements are not yours to turn. If you find one false, say at which input.
  Laid BY PROGRAM, IN A SANDBOX (cutbox-rows.mjs): the forced cells as the released guide's own fill.sh prints them over the translation d7da11ea83527f09… (all of the seat's roots in one cut). By AI agents, Wed Nov 11 2026. No macro, syntax, notation, axiom, sorry.
-/
import Derived.Test.YtiioiajcoiaalaaChecked
import GoSem.Claim
import GoSem.ClaimJoined
import GoSem.ClaimMapViews
import Derived.JoinedTies
import Derived.KernelRfl
namespace Go.Proofs.Ytiioiajcoiaalaa
/- THE CELL 'sum', in the pinned program and in every row, IS THE sha256 OF THE DUMP (.gsa) THAT YtiioiajcoiaalaaProg.lean LOADS. Nothing in Lean hashes anything: it is a label: what it is worth is what the hold of that sum in a sandbox is worth. -/
noncomputable def Try.pinned : Pinned := { name := "ytiioiajcoiaalaa", sum := "d7da11ea83527f09dfbbb5ab7c788d0bb3149f819666967576176843216e2204", checked := Try.checked }
namespace Rows
def none {H : Type} : Left H := { results := [], args := [] }

/-- 'tidewrightlaw03.BagGroups': WHATEVER THE INPUT: true; the input reads as it did. -/
def bagGroupsSpec : ChangeSpec := { name := "bagGroups", fn := fun _ => fun
  | [d1, d2, d3] => { results := [.lit (.bool true)], args := [d1, d2, d3] }
  | _ => none }
def bagGroupsRow : OpenClaim := { program := "ytiioiajcoiaalaa", sum := "d7da11ea83527f09dfbbb5ab7c788d0bb3149f819666967576176843216e2204", func := "tidewright/tidewrightlaw03.BagGroups", spec := "bagGroups", unfollowed := true, recurses := true, apart := false }
def BagGroupsSaid : Prop := bagGroupsRow.holds Try.pinned (OpenSpec.ofChange bagGroupsSpec)

/-- ITS FALSE NEIGHBOUR: 'it returns false'. Refute it at one input. -/
def bagGroupsWrong : ChangeSpec := { name := "bagGroups", fn := fun _ => fun
  | [d1, d2, d3] => { results := [.lit (.bool false)], args := [d1, d2, d3] }
  | _ => none }
def BagGroupsWrongFalsely : Prop := bagGroupsRow.holds Try.pinned (OpenSpec.ofChange bagGroupsWrong)

/-- 'tidewrightlaw03.BagSums': WHATEVER THE INPUT: true; the input reads as it did. -/
def bagSumsSpec : ChangeSpec := { name := "bagSums", fn := fun _ => fun
  | [d1, d2, d3] => { results := [.lit (.bool true)], args := [d1, d2, d3] }
  | _ => none }
def bagSumsRow : OpenClaim := { program := "ytiioiajcoiaalaa", sum := "d7da11ea83527f09dfbbb5ab7c788d0bb3149f819666967576176843216e2204", func := "tidewright/tidewrightlaw03.BagSums", spec := "bagSums", unfollowed := true, recurses := true, apart := false }
def BagSumsSaid : Prop := bagSumsRow.holds Try.pinned (OpenSpec.ofChange bagSumsSpec)

/-- ITS FALSE NEIGHBOUR: 'it returns false'. Refute it at one input. -/
def bagSumsWrong : ChangeSpec := { name := "bagSums", fn := fun _ => fun
  | [d1, d2, d3] => { results := [.lit (.bool false)], args := [d1, d2, d3] }
  | _ => none }
def BagSumsWrongFalsely : Prop := bagSumsRow.holds Try.pinned (OpenSpec.ofChange bagSumsWrong)

/-- 'tidewrightlaw03.BagValid': WHATEVER THE INPUT: true; the input reads as it did. -/
def bagValidSpec : ChangeSpec := { name := "bagValid", fn := fun _ => fun
  | [d1, d2, d3] => { results := [.lit (.bool true)], args := [d1, d2, d3] }
  | _ => none }
def bagValidRow : OpenClaim := { program := "ytiioiajcoiaalaa", sum := "d7da11ea83527f09dfbbb5ab7c788d0bb3149f819666967576176843216e2204", func := "tidewright/tidewrightlaw03.BagValid", spec := "bagValid", unfollowed := true, recurses := true, apart := false }
def BagValidSaid : Prop := bagValidRow.holds Try.pinned (OpenSpec.ofChange bagValidSpec)

/-- ITS FALSE NEIGHBOUR: 'it returns false'. Refute it at one input. -/
def bagValidWrong : ChangeSpec := { name := "bagValid", fn := fun _ => fun
  | [d1, d2, d3] => { results := [.lit (.bool false)], args := [d1, d2, d3] }
  | _ => none }
def BagValidWrongFalsely : Prop := bagValidRow.holds Try.pinned (OpenSpec.ofChange bagValidWrong)

/- THE SECOND FORM. 'bulk': how many values and letters a reading holds, each counted each time it is reached (what is shared counts as often as it is met; a slice's spare places count too). A statement '..UptoSaid' is the law's where the arguments, and the package variables that the reading takes, are together of bulk at most 1048576: NARROWER than '..Said'. Prove '..Said' where nothing that the law and all that it calls make is longer than what came in: it says more and counts as full. Else prove '..UptoSaid'. A law counts once. -/
mutual
def uptoBulk {H : Type} : DataW H → Nat
  | .lit (.string bytes) => bytes.length + 1
  | .lit _ => 1
  | .nil => 1
  | .ptr d => uptoBulk d + 1
  | .slice elems spare => uptoBulkAll elems + uptoBulkAll spare + 1
  | .agg parts => uptoBulkAll parts + 1
  | .iface _ d => uptoBulk d + 1
  | .map entries => uptoBulkEntries entries + 1
  | .held _ => 1
def uptoBulkAll {H : Type} : List (DataW H) → Nat
  | [] => 0
  | d :: r => uptoBulk d + uptoBulkAll r
def uptoBulkEntries {H : Type} : List (Lit × DataW H) → Nat
  | [] => 0
  | x :: r => uptoBulkEntry x + uptoBulkEntries r
def uptoBulkEntry {H : Type} : Lit × DataW H → Nat
  | (.string bytes, d) => bytes.length + uptoBulk d + 1
  | (_, d) => uptoBulk d + 1
 end
def uptoSmall : (H : Type) → List (DataW H) → Bool := fun _ ds => decide (uptoBulkAll ds ≤ 1048576)
def OpenSpec.upto (s : _root_.Go.ChangeSpec) : _root_.Go.OpenSpec := { _root_.Go.OpenSpec.ofChange s with cond := some uptoSmall }

/-- 'tidewrightlaw03.BagGroups', WHERE WHAT IT READS IS OF BULK AT MOST 1048576: true; the input reads as it did. -/
def bagGroupsUptoRow : OpenClaim := { program := "ytiioiajcoiaalaa", sum := "d7da11ea83527f09dfbbb5ab7c788d0bb3149f819666967576176843216e2204", func := "tidewright/tidewrightlaw03.BagGroups", spec := "bagGroups", unfollowed := true, recurses := true, apart := false, narrowed := true }
def BagGroupsUptoSaid : Prop := bagGroupsUptoRow.holds Try.pinned (OpenSpec.upto bagGroupsSpec)

/-- 'tidewrightlaw03.BagSums', WHERE WHAT IT READS IS OF BULK AT MOST 1048576: true; the input reads as it did. -/
def bagSumsUptoRow : OpenClaim := { program := "ytiioiajcoiaalaa", sum := "d7da11ea83527f09dfbbb5ab7c788d0bb3149f819666967576176843216e2204", func := "tidewright/tidewrightlaw03.BagSums", spec := "bagSums", unfollowed := true, recurses := true, apart := false, narrowed := true }
def BagSumsUptoSaid : Prop := bagSumsUptoRow.holds Try.pinned (OpenSpec.upto bagSumsSpec)

/-- 'tidewrightlaw03.BagValid', WHERE WHAT IT READS IS OF BULK AT MOST 1048576: true; the input reads as it did. -/
def bagValidUptoRow : OpenClaim := { program := "ytiioiajcoiaalaa", sum := "d7da11ea83527f09dfbbb5ab7c788d0bb3149f819666967576176843216e2204", func := "tidewright/tidewrightlaw03.BagValid", spec := "bagValid", unfollowed := true, recurses := true, apart := false, narrowed := true }
def BagValidUptoSaid : Prop := bagValidUptoRow.holds Try.pinned (OpenSpec.upto bagValidSpec)

end Rows
end Go.Proofs.Ytiioiajcoiaalaa
