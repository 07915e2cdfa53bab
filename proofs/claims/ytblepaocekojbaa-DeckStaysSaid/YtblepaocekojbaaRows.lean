/-
  No cell of these rows narrows 'for every input' (looked for: loops, veiled, ifaces, maps, wideKeys, modest, calm, conditions, laid).
  DERIVED. THE GIVEN ROWS OF THIS SEAT. 7 by the template 'for every input the law returns true; each argument reads behind the call as it read before'; 0 by the template 'total and deterministic' (their statements: YtblepaocekojbaaTotals.lean).
  GIVEN WITH THE SEED: the statements are not yours to turn. If you find one false, say at which input.
  Laid BY PROGRAM, IN A SANDBOX (cutbox-rows.mjs): the forced cells as the released guide's own fill.sh prints them over the translation 82d0e874211e0650… (all of the seat's roots in one cut). By AI agents, Wed Nov 11 2026. No macro, syntax, notation, axiom, sorry.
-/
import Derived.Test.YtblepaocekojbaaChecked
import GoSem.Claim
import GoSem.ClaimJoined
import GoSem.ClaimMapViews
import Derived.JoinedTies
import Derived.KernelRfl
namespace Go.Proofs.Ytblepaocekojbaa
/- THE CELL 'sum', in the pinned program and in every row, IS THE sha256 OF THE DUMP (.gsa) THAT YtblepaocekojbaaProg.lean LOADS. Nothing in Lean hashes anything: it is a label: what it is worth is what the hold of that sum in a sandbox is worth. -/
noncomputable def Try.pinned : Pinned := { name := "ytblepaocekojbaa", sum := "82d0e874211e06502fd8dc3874bffd9b40488c7c92f03684d000672725aa24a7", checked := Try.checked }
namespace Rows
def none {H : Type} : Left H := { results := [], args := [] }

/-- 'tidewrightlaw26.DeckBack': WHATEVER THE INPUT: true; the input reads as it did. -/
def deckBackSpec : ChangeSpec := { name := "deckBack", fn := fun _ => fun
  | [d1, d2, d3, d4] => { results := [.lit (.bool true)], args := [d1, d2, d3, d4] }
  | _ => none }
def deckBackRow : OpenClaim := { program := "ytblepaocekojbaa", sum := "82d0e874211e06502fd8dc3874bffd9b40488c7c92f03684d000672725aa24a7", func := "tidewright/tidewrightlaw26.DeckBack", spec := "deckBack", unfollowed := true, recurses := true, plainKeys := false, apart := false }
def DeckBackSaid : Prop := deckBackRow.holds Try.pinned (OpenSpec.ofChange deckBackSpec)

/-- ITS FALSE NEIGHBOUR: 'it returns false'. Refute it at one input. -/
def deckBackWrong : ChangeSpec := { name := "deckBack", fn := fun _ => fun
  | [d1, d2, d3, d4] => { results := [.lit (.bool false)], args := [d1, d2, d3, d4] }
  | _ => none }
def DeckBackWrongFalsely : Prop := deckBackRow.holds Try.pinned (OpenSpec.ofChange deckBackWrong)

/-- 'tidewrightlaw26.DeckMachines': WHATEVER THE INPUT: true; the input reads as it did. -/
def deckMachinesSpec : ChangeSpec := { name := "deckMachines", fn := fun _ => fun
  | [d1, d2, d3, d4, d5, d6] => { results := [.lit (.bool true)], args := [d1, d2, d3, d4, d5, d6] }
  | _ => none }
def deckMachinesRow : OpenClaim := { program := "ytblepaocekojbaa", sum := "82d0e874211e06502fd8dc3874bffd9b40488c7c92f03684d000672725aa24a7", func := "tidewright/tidewrightlaw26.DeckMachines", spec := "deckMachines", unfollowed := true, recurses := true, plainKeys := false, apart := false }
def DeckMachinesSaid : Prop := deckMachinesRow.holds Try.pinned (OpenSpec.ofChange deckMachinesSpec)

/-- ITS FALSE NEIGHBOUR: 'it returns false'. Refute it at one input. -/
def deckMachinesWrong : ChangeSpec := { name := "deckMachines", fn := fun _ => fun
  | [d1, d2, d3, d4, d5, d6] => { results := [.lit (.bool false)], args := [d1, d2, d3, d4, d5, d6] }
  | _ => none }
def DeckMachinesWrongFalsely : Prop := deckMachinesRow.holds Try.pinned (OpenSpec.ofChange deckMachinesWrong)

/-- 'tidewrightlaw26.DeckRegions': WHATEVER THE INPUT: true; the input reads as it did. -/
def deckRegionsSpec : ChangeSpec := { name := "deckRegions", fn := fun _ => fun
  | [d] => { results := [.lit (.bool true)], args := [d] }
  | _ => none }
def deckRegionsRow : OpenClaim := { program := "ytblepaocekojbaa", sum := "82d0e874211e06502fd8dc3874bffd9b40488c7c92f03684d000672725aa24a7", func := "tidewright/tidewrightlaw26.DeckRegions", spec := "deckRegions", unfollowed := true, recurses := true, plainKeys := false, apart := false }
def DeckRegionsSaid : Prop := deckRegionsRow.holds Try.pinned (OpenSpec.ofChange deckRegionsSpec)

/-- ITS FALSE NEIGHBOUR: 'it returns false'. Refute it at one input. -/
def deckRegionsWrong : ChangeSpec := { name := "deckRegions", fn := fun _ => fun
  | [d] => { results := [.lit (.bool false)], args := [d] }
  | _ => none }
def DeckRegionsWrongFalsely : Prop := deckRegionsRow.holds Try.pinned (OpenSpec.ofChange deckRegionsWrong)

/-- 'tidewrightlaw26.DeckReady': WHATEVER THE INPUT: true; the input reads as it did. -/
def deckReadySpec : ChangeSpec := { name := "deckReady", fn := fun _ => fun
  | [d1, d2] => { results := [.lit (.bool true)], args := [d1, d2] }
  | _ => none }
def deckReadyRow : OpenClaim := { program := "ytblepaocekojbaa", sum := "82d0e874211e06502fd8dc3874bffd9b40488c7c92f03684d000672725aa24a7", func := "tidewright/tidewrightlaw26.DeckReady", spec := "deckReady", unfollowed := true, recurses := true, plainKeys := false, apart := false }
def DeckReadySaid : Prop := deckReadyRow.holds Try.pinned (OpenSpec.ofChange deckReadySpec)

/-- ITS FALSE NEIGHBOUR: 'it returns false'. Refute it at one input. -/
def deckReadyWrong : ChangeSpec := { name := "deckReady", fn := fun _ => fun
  | [d1, d2] => { results := [.lit (.bool false)], args := [d1, d2] }
  | _ => none }
def DeckReadyWrongFalsely : Prop := deckReadyRow.holds Try.pinned (OpenSpec.ofChange deckReadyWrong)

/-- 'tidewrightlaw26.DeckPlaces': WHATEVER THE INPUT: true; the input reads as it did. -/
def deckPlacesSpec : ChangeSpec := { name := "deckPlaces", fn := fun _ => fun
  | [d1, d2, d3, d4] => { results := [.lit (.bool true)], args := [d1, d2, d3, d4] }
  | _ => none }
def deckPlacesRow : OpenClaim := { program := "ytblepaocekojbaa", sum := "82d0e874211e06502fd8dc3874bffd9b40488c7c92f03684d000672725aa24a7", func := "tidewright/tidewrightlaw26.DeckPlaces", spec := "deckPlaces", unfollowed := true, recurses := true, plainKeys := false, apart := false }
def DeckPlacesSaid : Prop := deckPlacesRow.holds Try.pinned (OpenSpec.ofChange deckPlacesSpec)

/-- ITS FALSE NEIGHBOUR: 'it returns false'. Refute it at one input. -/
def deckPlacesWrong : ChangeSpec := { name := "deckPlaces", fn := fun _ => fun
  | [d1, d2, d3, d4] => { results := [.lit (.bool false)], args := [d1, d2, d3, d4] }
  | _ => none }
def DeckPlacesWrongFalsely : Prop := deckPlacesRow.holds Try.pinned (OpenSpec.ofChange deckPlacesWrong)

/-- 'tidewrightlaw26.DeckLocal': WHATEVER THE INPUT: true; the input reads as it did. -/
def deckLocalSpec : ChangeSpec := { name := "deckLocal", fn := fun _ => fun
  | [d1, d2, d3] => { results := [.lit (.bool true)], args := [d1, d2, d3] }
  | _ => none }
def deckLocalRow : OpenClaim := { program := "ytblepaocekojbaa", sum := "82d0e874211e06502fd8dc3874bffd9b40488c7c92f03684d000672725aa24a7", func := "tidewright/tidewrightlaw26.DeckLocal", spec := "deckLocal", unfollowed := true, recurses := true, plainKeys := false, apart := false }
def DeckLocalSaid : Prop := deckLocalRow.holds Try.pinned (OpenSpec.ofChange deckLocalSpec)

/-- ITS FALSE NEIGHBOUR: 'it returns false'. Refute it at one input. -/
def deckLocalWrong : ChangeSpec := { name := "deckLocal", fn := fun _ => fun
  | [d1, d2, d3] => { results := [.lit (.bool false)], args := [d1, d2, d3] }
  | _ => none }
def DeckLocalWrongFalsely : Prop := deckLocalRow.holds Try.pinned (OpenSpec.ofChange deckLocalWrong)

/-- 'tidewrightlaw26.DeckStays': WHATEVER THE INPUT: true; the input reads as it did. -/
def deckStaysSpec : ChangeSpec := { name := "deckStays", fn := fun _ => fun
  | [d1, d2, d3, d4] => { results := [.lit (.bool true)], args := [d1, d2, d3, d4] }
  | _ => none }
def deckStaysRow : OpenClaim := { program := "ytblepaocekojbaa", sum := "82d0e874211e06502fd8dc3874bffd9b40488c7c92f03684d000672725aa24a7", func := "tidewright/tidewrightlaw26.DeckStays", spec := "deckStays", unfollowed := true, recurses := true, plainKeys := false, apart := false }
def DeckStaysSaid : Prop := deckStaysRow.holds Try.pinned (OpenSpec.ofChange deckStaysSpec)

/-- ITS FALSE NEIGHBOUR: 'it returns false'. Refute it at one input. -/
def deckStaysWrong : ChangeSpec := { name := "deckStays", fn := fun _ => fun
  | [d1, d2, d3, d4] => { results := [.lit (.bool false)], args := [d1, d2, d3, d4] }
  | _ => none }
def DeckStaysWrongFalsely : Prop := deckStaysRow.holds Try.pinned (OpenSpec.ofChange deckStaysWrong)

/- THE SECOND FORM. 'bulk': how many values and letters a reading holds, each counted each time it is reached (what is shared counts as often as it is met; a slice's spare places count too). A statement '..UptoSaid' is the law's where the arguments, and the package variables that the reading takes, are together of bulk at most 1048576: NARROWER than '..Said'. Prove '..Said' where nothing that the law and all that it calls make is longer than what came in: it says more and counts as full. Else prove '..UptoSaid'. A law counts once. -/
mutual
def uptoBulk {H : Type} : DataW H → Nat
  | .lit (.string bytes) => bytes.length + 1
  | .lit _ => 1
  | .nil => 1
  | .ptr d => uptoBulk d + 1
  | .slice elems spare => uptoBulkAll elems + uptoBulkAll spare + 1
  | .agg parts => uptoBulkAll parts + 1
  | .iface _ d => uptoBulk d + 1
  | .map entries => uptoBulkEntries entries + 1
  | .held _ => 1
def uptoBulkAll {H : Type} : List (DataW H) → Nat
  | [] => 0
  | d :: r => uptoBulk d + uptoBulkAll r
def uptoBulkEntries {H : Type} : List (Lit × DataW H) → Nat
  | [] => 0
  | x :: r => uptoBulkEntry x + uptoBulkEntries r
def uptoBulkEntry {H : Type} : Lit × DataW H → Nat
  | (.string bytes, d) => bytes.length + uptoBulk d + 1
  | (_, d) => uptoBulk d + 1
 end
def uptoSmall : (H : Type) → List (DataW H) → Bool := fun _ ds => decide (uptoBulkAll ds ≤ 1048576)
def OpenSpec.upto (s : _root_.Go.ChangeSpec) : _root_.Go.OpenSpec := { _root_.Go.OpenSpec.ofChange s with cond := some uptoSmall }

/-- 'tidewrightlaw26.DeckBack', WHERE WHAT IT READS IS OF BULK AT MOST 1048576: true; the input reads as it did. -/
def deckBackUptoRow : OpenClaim := { program := "ytblepaocekojbaa", sum := "82d0e874211e06502fd8dc3874bffd9b40488c7c92f03684d000672725aa24a7", func := "tidewright/tidewrightlaw26.DeckBack", spec := "deckBack", unfollowed := true, recurses := true, plainKeys := false, apart := false, narrowed := true }
def DeckBackUptoSaid : Prop := deckBackUptoRow.holds Try.pinned (OpenSpec.upto deckBackSpec)

/-- 'tidewrightlaw26.DeckMachines', WHERE WHAT IT READS IS OF BULK AT MOST 1048576: true; the input reads as it did. -/
def deckMachinesUptoRow : OpenClaim := { program := "ytblepaocekojbaa", sum := "82d0e874211e06502fd8dc3874bffd9b40488c7c92f03684d000672725aa24a7", func := "tidewright/tidewrightlaw26.DeckMachines", spec := "deckMachines", unfollowed := true, recurses := true, plainKeys := false, apart := false, narrowed := true }
def DeckMachinesUptoSaid : Prop := deckMachinesUptoRow.holds Try.pinned (OpenSpec.upto deckMachinesSpec)

/-- 'tidewrightlaw26.DeckRegions', WHERE WHAT IT READS IS OF BULK AT MOST 1048576: true; the input reads as it did. -/
def deckRegionsUptoRow : OpenClaim := { program := "ytblepaocekojbaa", sum := "82d0e874211e06502fd8dc3874bffd9b40488c7c92f03684d000672725aa24a7", func := "tidewright/tidewrightlaw26.DeckRegions", spec := "deckRegions", unfollowed := true, recurses := true, plainKeys := false, apart := false, narrowed := true }
def DeckRegionsUptoSaid : Prop := deckRegionsUptoRow.holds Try.pinned (OpenSpec.upto deckRegionsSpec)

/-- 'tidewrightlaw26.DeckReady', WHERE WHAT IT READS IS OF BULK AT MOST 1048576: true; the input reads as it did. -/
def deckReadyUptoRow : OpenClaim := { program := "ytblepaocekojbaa", sum := "82d0e874211e06502fd8dc3874bffd9b40488c7c92f03684d000672725aa24a7", func := "tidewright/tidewrightlaw26.DeckReady", spec := "deckReady", unfollowed := true, recurses := true, plainKeys := false, apart := false, narrowed := true }
def DeckReadyUptoSaid : Prop := deckReadyUptoRow.holds Try.pinned (OpenSpec.upto deckReadySpec)

/-- 'tidewrightlaw26.DeckPlaces', WHERE WHAT IT READS IS OF BULK AT MOST 1048576: true; the input reads as it did. -/
def deckPlacesUptoRow : OpenClaim := { program := "ytblepaocekojbaa", sum := "82d0e874211e06502fd8dc3874bffd9b40488c7c92f03684d000672725aa24a7", func := "tidewright/tidewrightlaw26.DeckPlaces", spec := "deckPlaces", unfollowed := true, recurses := true, plainKeys := false, apart := false, narrowed := true }
def DeckPlacesUptoSaid : Prop := deckPlacesUptoRow.holds Try.pinned (OpenSpec.upto deckPlacesSpec)

/-- 'tidewrightlaw26.DeckLocal', WHERE WHAT IT READS IS OF BULK AT MOST 1048576: true; the input reads as it did. -/
def deckLocalUptoRow : OpenClaim := { program := "ytblepaocekojbaa", sum := "82d0e874211e06502fd8dc3874bffd9b40488c7c92f03684d000672725aa24a7", func := "tidewright/tidewrightlaw26.DeckLocal", spec := "deckLocal", unfollowed := true, recurses := true, plainKeys := false, apart := false, narrowed := true }
def DeckLocalUptoSaid : Prop := deckLocalUptoRow.holds Try.pinned (OpenSpec.upto deckLocalSpec)

/-- 'tidewrightlaw26.DeckStays', WHERE WHAT IT READS IS OF BULK AT MOST 1048576: true; the input reads as it did. -/
def deckStaysUptoRow : OpenClaim := { program := "ytblepaocekojbaa", sum := "82d0e874211e06502fd8dc3874bffd9b40488c7c92f03684d000672725aa24a7", func := "tidewright/tidewrightlaw26.DeckStays", spec := "deckStays", unfollowed := true, recurses := true, plainKeys := false, apart := false, narrowed := true }
def DeckStaysUptoSaid : Prop := deckStaysUptoRow.holds Try.pinned (OpenSpec.upto deckStaysSpec)

end Rows
end Go.Proofs.Ytblepaocekojbaa
