/-
  No cell of these rows narrows 'for every input' (looked for: loops, veiled, ifaces, maps, wideKeys, modest, calm, conditions, laid).
  DERIVED. THE GIVEN ROWS OF THIS SEAT. 5 by the template 'for every input the law returns true; each argument reads behind the call as it read before'; 0 by the template 'total and deterministic' (their statements: YthngjbhamgmcgaaTotals.lean).
  GIVEN WITH THE SEED: the statements are not yours to turn. If you find one false, say at which input.
  Laid BY PROGRAM, IN A SANDBOX (cutbox-rows.mjs): the forced cells as the released guide's own fill.sh prints them over the translation da1f872cf44ffb47… (all of the seat's roots in one cut). By AI agents, Wed Nov 11 2026. No macro, syntax, notation, axiom, sorry.
-/
import Derived.Test.YthngjbhamgmcgaaChecked
import GoSem.Claim
import GoSem.ClaimJoined
import GoSem.ClaimMapViews
import Derived.JoinedTies
import Derived.KernelRfl
namespace Go.Proofs.Ythngjbhamgmcgaa
/- THE CELL 'sum', in the pinned program and in every row, IS THE sha256 OF THE DUMP (.gsa) THAT YthngjbhamgmcgaaProg.lean LOADS. Nothing in Lean hashes anything: it is a label: what it is worth is what the hold of that sum in a sandbox is worth. -/
noncomputable def Try.pinned : Pinned := { name := "ythngjbhamgmcgaa", sum := "da1f872cf44ffb47bb27a060f740d032ae57dfee0a55f5dcfe2ce0ac2eedc34c", checked := Try.checked }
namespace Rows
def none {H : Type} : Left H := { results := [], args := [] }

/-- 'tidewrightlaw12.ShareMoves': WHATEVER THE INPUT: true; the input reads as it did. -/
def shareMovesSpec : ChangeSpec := { name := "shareMoves", fn := fun _ => fun
  | [d1, d2, d3] => { results := [.lit (.bool true)], args := [d1, d2, d3] }
  | _ => none }
def shareMovesRow : OpenClaim := { program := "ythngjbhamgmcgaa", sum := "da1f872cf44ffb47bb27a060f740d032ae57dfee0a55f5dcfe2ce0ac2eedc34c", func := "tidewright/tidewrightlaw12.ShareMoves", spec := "shareMoves", unfollowed := true, recurses := true, apart := false }
def ShareMovesSaid : Prop := shareMovesRow.holds Try.pinned (OpenSpec.ofChange shareMovesSpec)

/-- ITS FALSE NEIGHBOUR: 'it returns false'. Refute it at one input. -/
def shareMovesWrong : ChangeSpec := { name := "shareMoves", fn := fun _ => fun
  | [d1, d2, d3] => { results := [.lit (.bool false)], args := [d1, d2, d3] }
  | _ => none }
def ShareMovesWrongFalsely : Prop := shareMovesRow.holds Try.pinned (OpenSpec.ofChange shareMovesWrong)

/-- 'tidewrightlaw12.ShareParts': WHATEVER THE INPUT: true; the input reads as it did. -/
def sharePartsSpec : ChangeSpec := { name := "shareParts", fn := fun _ => fun
  | [d1, d2, d3, d4, d5] => { results := [.lit (.bool true)], args := [d1, d2, d3, d4, d5] }
  | _ => none }
def sharePartsRow : OpenClaim := { program := "ythngjbhamgmcgaa", sum := "da1f872cf44ffb47bb27a060f740d032ae57dfee0a55f5dcfe2ce0ac2eedc34c", func := "tidewright/tidewrightlaw12.ShareParts", spec := "shareParts", unfollowed := true, recurses := true, apart := false }
def SharePartsSaid : Prop := sharePartsRow.holds Try.pinned (OpenSpec.ofChange sharePartsSpec)

/-- ITS FALSE NEIGHBOUR: 'it returns false'. Refute it at one input. -/
def sharePartsWrong : ChangeSpec := { name := "shareParts", fn := fun _ => fun
  | [d1, d2, d3, d4, d5] => { results := [.lit (.bool false)], args := [d1, d2, d3, d4, d5] }
  | _ => none }
def SharePartsWrongFalsely : Prop := sharePartsRow.holds Try.pinned (OpenSpec.ofChange sharePartsWrong)

/-- 'tidewrightlaw12.ShareDeals': WHATEVER THE INPUT: true; the input reads as it did. -/
def shareDealsSpec : ChangeSpec := { name := "shareDeals", fn := fun _ => fun
  | [d1, d2] => { results := [.lit (.bool true)], args := [d1, d2] }
  | _ => none }
def shareDealsRow : OpenClaim := { program := "ythngjbhamgmcgaa", sum := "da1f872cf44ffb47bb27a060f740d032ae57dfee0a55f5dcfe2ce0ac2eedc34c", func := "tidewright/tidewrightlaw12.ShareDeals", spec := "shareDeals", unfollowed := true, recurses := true, apart := false }
def ShareDealsSaid : Prop := shareDealsRow.holds Try.pinned (OpenSpec.ofChange shareDealsSpec)

/-- ITS FALSE NEIGHBOUR: 'it returns false'. Refute it at one input. -/
def shareDealsWrong : ChangeSpec := { name := "shareDeals", fn := fun _ => fun
  | [d1, d2] => { results := [.lit (.bool false)], args := [d1, d2] }
  | _ => none }
def ShareDealsWrongFalsely : Prop := shareDealsRow.holds Try.pinned (OpenSpec.ofChange shareDealsWrong)

/-- 'tidewrightlaw12.ShareTogether': WHATEVER THE INPUT: true; the input reads as it did. -/
def shareTogetherSpec : ChangeSpec := { name := "shareTogether", fn := fun _ => fun
  | [d] => { results := [.lit (.bool true)], args := [d] }
  | _ => none }
def shareTogetherRow : OpenClaim := { program := "ythngjbhamgmcgaa", sum := "da1f872cf44ffb47bb27a060f740d032ae57dfee0a55f5dcfe2ce0ac2eedc34c", func := "tidewright/tidewrightlaw12.ShareTogether", spec := "shareTogether", unfollowed := true, recurses := true, apart := false }
def ShareTogetherSaid : Prop := shareTogetherRow.holds Try.pinned (OpenSpec.ofChange shareTogetherSpec)

/-- ITS FALSE NEIGHBOUR: 'it returns false'. Refute it at one input. -/
def shareTogetherWrong : ChangeSpec := { name := "shareTogether", fn := fun _ => fun
  | [d] => { results := [.lit (.bool false)], args := [d] }
  | _ => none }
def ShareTogetherWrongFalsely : Prop := shareTogetherRow.holds Try.pinned (OpenSpec.ofChange shareTogetherWrong)

/-- 'tidewrightlaw12.ShareEntries': WHATEVER THE INPUT: true; the input reads as it did. -/
def shareEntriesSpec : ChangeSpec := { name := "shareEntries", fn := fun _ => fun
  | [d1, d2, d3, d4, d5] => { results := [.lit (.bool true)], args := [d1, d2, d3, d4, d5] }
  | _ => none }
def shareEntriesRow : OpenClaim := { program := "ythngjbhamgmcgaa", sum := "da1f872cf44ffb47bb27a060f740d032ae57dfee0a55f5dcfe2ce0ac2eedc34c", func := "tidewright/tidewrightlaw12.ShareEntries", spec := "shareEntries", unfollowed := true, recurses := true, apart := false }
def ShareEntriesSaid : Prop := shareEntriesRow.holds Try.pinned (OpenSpec.ofChange shareEntriesSpec)

/-- ITS FALSE NEIGHBOUR: 'it returns false'. Refute it at one input. -/
def shareEntriesWrong : ChangeSpec := { name := "shareEntries", fn := fun _ => fun
  | [d1, d2, d3, d4, d5] => { results := [.lit (.bool false)], args := [d1, d2, d3, d4, d5] }
  | _ => none }
def ShareEntriesWrongFalsely : Prop := shareEntriesRow.holds Try.pinned (OpenSpec.ofChange shareEntriesWrong)

/- THE SECOND FORM. 'bulk': how many values and letters a reading holds, each counted each time it is reached (what is shared counts as often as it is met; a slice's spare places count too). A statement '..UptoSaid' is the law's where the arguments, and the package variables that the reading takes, are together of bulk at most 1048576: NARROWER than '..Said'. Prove '..Said' where nothing that the law and all that it calls make is longer than what came in: it says more and counts as full. Else prove '..UptoSaid'. A law counts once. -/
mutual
def uptoBulk {H : Type} : DataW H → Nat
  | .lit (.string bytes) => bytes.length + 1
  | .lit _ => 1
  | .nil => 1
  | .ptr d => uptoBulk d + 1
  | .slice elems spare => uptoBulkAll elems + uptoBulkAll spare + 1
  | .agg parts => uptoBulkAll parts + 1
  | .iface _ d => uptoBulk d + 1
  | .map entries => uptoBulkEntries entries + 1
  | .held _ => 1
def uptoBulkAll {H : Type} : List (DataW H) → Nat
  | [] => 0
  | d :: r => uptoBulk d + uptoBulkAll r
def uptoBulkEntries {H : Type} : List (Lit × DataW H) → Nat
  | [] => 0
  | x :: r => uptoBulkEntry x + uptoBulkEntries r
def uptoBulkEntry {H : Type} : Lit × DataW H → Nat
  | (.string bytes, d) => bytes.length + uptoBulk d + 1
  | (_, d) => uptoBulk d + 1
 end
def uptoSmall : (H : Type) → List (DataW H) → Bool := fun _ ds => decide (uptoBulkAll ds ≤ 1048576)
def OpenSpec.upto (s : _root_.Go.ChangeSpec) : _root_.Go.OpenSpec := { _root_.Go.OpenSpec.ofChange s with cond := some uptoSmall }

/-- 'tidewrightlaw12.ShareMoves', WHERE WHAT IT READS IS OF BULK AT MOST 1048576: true; the input reads as it did. -/
def shareMovesUptoRow : OpenClaim := { program := "ythngjbhamgmcgaa", sum := "da1f872cf44ffb47bb27a060f740d032ae57dfee0a55f5dcfe2ce0ac2eedc34c", func := "tidewright/tidewrightlaw12.ShareMoves", spec := "shareMoves", unfollowed := true, recurses := true, apart := false, narrowed := true }
def ShareMovesUptoSaid : Prop := shareMovesUptoRow.holds Try.pinned (OpenSpec.upto shareMovesSpec)

/-- 'tidewrightlaw12.ShareParts', WHERE WHAT IT READS IS OF BULK AT MOST 1048576: true; the input reads as it did. -/
def sharePartsUptoRow : OpenClaim := { program := "ythngjbhamgmcgaa", sum := "da1f872cf44ffb47bb27a060f740d032ae57dfee0a55f5dcfe2ce0ac2eedc34c", func := "tidewright/tidewrightlaw12.ShareParts", spec := "shareParts", unfollowed := true, recurses := true, apart := false, narrowed := true }
def SharePartsUptoSaid : Prop := sharePartsUptoRow.holds Try.pinned (OpenSpec.upto sharePartsSpec)

/-- 'tidewrightlaw12.ShareDeals', WHERE WHAT IT READS IS OF BULK AT MOST 1048576: true; the input reads as it did. -/
def shareDealsUptoRow : OpenClaim := { program := "ythngjbhamgmcgaa", sum := "da1f872cf44ffb47bb27a060f740d032ae57dfee0a55f5dcfe2ce0ac2eedc34c", func := "tidewright/tidewrightlaw12.ShareDeals", spec := "shareDeals", unfollowed := true, recurses := true, apart := false, narrowed := true }
def ShareDealsUptoSaid : Prop := shareDealsUptoRow.holds Try.pinned (OpenSpec.upto shareDealsSpec)

/-- 'tidewrightlaw12.ShareTogether', WHERE WHAT IT READS IS OF BULK AT MOST 1048576: true; the input reads as it did. -/
def shareTogetherUptoRow : OpenClaim := { program := "ythngjbhamgmcgaa", sum := "da1f872cf44ffb47bb27a060f740d032ae57dfee0a55f5dcfe2ce0ac2eedc34c", func := "tidewright/tidewrightlaw12.ShareTogether", spec := "shareTogether", unfollowed := true, recurses := true, apart := false, narrowed := true }
def ShareTogetherUptoSaid : Prop := shareTogetherUptoRow.holds Try.pinned (OpenSpec.upto shareTogetherSpec)

/-- 'tidewrightlaw12.ShareEntries', WHERE WHAT IT READS IS OF BULK AT MOST 1048576: true; the input reads as it did. -/
def shareEntriesUptoRow : OpenClaim := { program := "ythngjbhamgmcgaa", sum := "da1f872cf44ffb47bb27a060f740d032ae57dfee0a55f5dcfe2ce0ac2eedc34c", func := "tidewright/tidewrightlaw12.ShareEntries", spec := "shareEntries", unfollowed := true, recurses := true, apart := false, narrowed := true }
def ShareEntriesUptoSaid : Prop := shareEntriesUptoRow.holds Try.pinned (OpenSpec.upto shareEntriesSpec)

end Rows
end Go.Proofs.Ythngjbhamgmcgaa
