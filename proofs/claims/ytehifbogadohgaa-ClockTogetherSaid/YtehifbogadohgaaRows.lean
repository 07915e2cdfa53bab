/-
  No cell of these rows narrows 'for every input' (looked for: loops, veiled, ifaces, maps, wideKeys, modest, calm, conditions, laid).
  DERIVED. THE GIVEN ROWS OF THIS SEAT. 7 by the template 'for every input the law returns true; each argument reads behind the call as it read before'; 0 by the template 'total and deterministic' (their statements: YtehifbogadohgaaTotals.lean).
  GIVEN WITH THE SEED: the statements are not yours to turn. If you find one false, say at which input.
  Laid BY PROGRAM, IN A SANDBOX (cutbox-rows.mjs): the forced cells as the released guide's own fill.sh prints them over the translation 28ba9812526c7bb9… (all of the seat's roots in one cut). By AI agents, Wed Nov 11 2026. No macro, syntax, notation, axiom, sorry.
-/
import Derived.Test.YtehifbogadohgaaChecked
import GoSem.Claim
import GoSem.ClaimJoined
import GoSem.ClaimMapViews
import Derived.JoinedTies
import Derived.KernelRfl
namespace Go.Proofs.Ytehifbogadohgaa
/- THE CELL 'sum', in the pinned program and in every row, IS THE sha256 OF THE DUMP (.gsa) THAT YtehifbogadohgaaProg.lean LOADS. Nothing in Lean hashes anything: it is a label: what it is worth is what the hold of that sum in a sandbox is worth. -/
noncomputable def Try.pinned : Pinned := { name := "ytehifbogadohgaa", sum := "28ba9812526c7bb93e0db0fcc1bda464449c8d017d82e34533179e7394ecd203", checked := Try.checked }
namespace Rows
def none {H : Type} : Left H := { results := [], args := [] }

/-- 'tidewrightlaw01.ClockTumbling': WHATEVER THE INPUT: true; the input reads as it did. -/
def clockTumblingSpec : ChangeSpec := { name := "clockTumbling", fn := fun _ => fun
  | [d1, d2, d3] => { results := [.lit (.bool true)], args := [d1, d2, d3] }
  | _ => none }
def clockTumblingRow : OpenClaim := { program := "ytehifbogadohgaa", sum := "28ba9812526c7bb93e0db0fcc1bda464449c8d017d82e34533179e7394ecd203", func := "tidewright/tidewrightlaw01.ClockTumbling", spec := "clockTumbling", unfollowed := true, recurses := true, apart := false }
def ClockTumblingSaid : Prop := clockTumblingRow.holds Try.pinned (OpenSpec.ofChange clockTumblingSpec)

/-- ITS FALSE NEIGHBOUR: 'it returns false'. Refute it at one input. -/
def clockTumblingWrong : ChangeSpec := { name := "clockTumbling", fn := fun _ => fun
  | [d1, d2, d3] => { results := [.lit (.bool false)], args := [d1, d2, d3] }
  | _ => none }
def ClockTumblingWrongFalsely : Prop := clockTumblingRow.holds Try.pinned (OpenSpec.ofChange clockTumblingWrong)

/-- 'tidewrightlaw01.ClockBetween': WHATEVER THE INPUT: true; the input reads as it did. -/
def clockBetweenSpec : ChangeSpec := { name := "clockBetween", fn := fun _ => fun
  | [d1, d2, d3, d4] => { results := [.lit (.bool true)], args := [d1, d2, d3, d4] }
  | _ => none }
def clockBetweenRow : OpenClaim := { program := "ytehifbogadohgaa", sum := "28ba9812526c7bb93e0db0fcc1bda464449c8d017d82e34533179e7394ecd203", func := "tidewright/tidewrightlaw01.ClockBetween", spec := "clockBetween", unfollowed := true, recurses := true, apart := false }
def ClockBetweenSaid : Prop := clockBetweenRow.holds Try.pinned (OpenSpec.ofChange clockBetweenSpec)

/-- ITS FALSE NEIGHBOUR: 'it returns false'. Refute it at one input. -/
def clockBetweenWrong : ChangeSpec := { name := "clockBetween", fn := fun _ => fun
  | [d1, d2, d3, d4] => { results := [.lit (.bool false)], args := [d1, d2, d3, d4] }
  | _ => none }
def ClockBetweenWrongFalsely : Prop := clockBetweenRow.holds Try.pinned (OpenSpec.ofChange clockBetweenWrong)

/-- 'tidewrightlaw01.ClockWindows': WHATEVER THE INPUT: true; the input reads as it did. -/
def clockWindowsSpec : ChangeSpec := { name := "clockWindows", fn := fun _ => fun
  | [d1, d2] => { results := [.lit (.bool true)], args := [d1, d2] }
  | _ => none }
def clockWindowsRow : OpenClaim := { program := "ytehifbogadohgaa", sum := "28ba9812526c7bb93e0db0fcc1bda464449c8d017d82e34533179e7394ecd203", func := "tidewright/tidewrightlaw01.ClockWindows", spec := "clockWindows", unfollowed := true, recurses := true, apart := false }
def ClockWindowsSaid : Prop := clockWindowsRow.holds Try.pinned (OpenSpec.ofChange clockWindowsSpec)

/-- ITS FALSE NEIGHBOUR: 'it returns false'. Refute it at one input. -/
def clockWindowsWrong : ChangeSpec := { name := "clockWindows", fn := fun _ => fun
  | [d1, d2] => { results := [.lit (.bool false)], args := [d1, d2] }
  | _ => none }
def ClockWindowsWrongFalsely : Prop := clockWindowsRow.holds Try.pinned (OpenSpec.ofChange clockWindowsWrong)

/-- 'tidewrightlaw01.ClockValid': WHATEVER THE INPUT: true; the input reads as it did. -/
def clockValidSpec : ChangeSpec := { name := "clockValid", fn := fun _ => fun
  | [d1, d2, d3, d4] => { results := [.lit (.bool true)], args := [d1, d2, d3, d4] }
  | _ => none }
def clockValidRow : OpenClaim := { program := "ytehifbogadohgaa", sum := "28ba9812526c7bb93e0db0fcc1bda464449c8d017d82e34533179e7394ecd203", func := "tidewright/tidewrightlaw01.ClockValid", spec := "clockValid", unfollowed := true, recurses := true, apart := false }
def ClockValidSaid : Prop := clockValidRow.holds Try.pinned (OpenSpec.ofChange clockValidSpec)

/-- ITS FALSE NEIGHBOUR: 'it returns false'. Refute it at one input. -/
def clockValidWrong : ChangeSpec := { name := "clockValid", fn := fun _ => fun
  | [d1, d2, d3, d4] => { results := [.lit (.bool false)], args := [d1, d2, d3, d4] }
  | _ => none }
def ClockValidWrongFalsely : Prop := clockValidRow.holds Try.pinned (OpenSpec.ofChange clockValidWrong)

/-- 'tidewrightlaw01.ClockMerges': WHATEVER THE INPUT: true; the input reads as it did. -/
def clockMergesSpec : ChangeSpec := { name := "clockMerges", fn := fun _ => fun
  | [d1, d2] => { results := [.lit (.bool true)], args := [d1, d2] }
  | _ => none }
def clockMergesRow : OpenClaim := { program := "ytehifbogadohgaa", sum := "28ba9812526c7bb93e0db0fcc1bda464449c8d017d82e34533179e7394ecd203", func := "tidewright/tidewrightlaw01.ClockMerges", spec := "clockMerges", unfollowed := true, recurses := true, apart := false }
def ClockMergesSaid : Prop := clockMergesRow.holds Try.pinned (OpenSpec.ofChange clockMergesSpec)

/-- ITS FALSE NEIGHBOUR: 'it returns false'. Refute it at one input. -/
def clockMergesWrong : ChangeSpec := { name := "clockMerges", fn := fun _ => fun
  | [d1, d2] => { results := [.lit (.bool false)], args := [d1, d2] }
  | _ => none }
def ClockMergesWrongFalsely : Prop := clockMergesRow.holds Try.pinned (OpenSpec.ofChange clockMergesWrong)

/-- 'tidewrightlaw01.ClockSessions': WHATEVER THE INPUT: true; the input reads as it did. -/
def clockSessionsSpec : ChangeSpec := { name := "clockSessions", fn := fun _ => fun
  | [d1, d2, d3] => { results := [.lit (.bool true)], args := [d1, d2, d3] }
  | _ => none }
def clockSessionsRow : OpenClaim := { program := "ytehifbogadohgaa", sum := "28ba9812526c7bb93e0db0fcc1bda464449c8d017d82e34533179e7394ecd203", func := "tidewright/tidewrightlaw01.ClockSessions", spec := "clockSessions", unfollowed := true, recurses := true, apart := false }
def ClockSessionsSaid : Prop := clockSessionsRow.holds Try.pinned (OpenSpec.ofChange clockSessionsSpec)

/-- ITS FALSE NEIGHBOUR: 'it returns false'. Refute it at one input. -/
def clockSessionsWrong : ChangeSpec := { name := "clockSessions", fn := fun _ => fun
  | [d1, d2, d3] => { results := [.lit (.bool false)], args := [d1, d2, d3] }
  | _ => none }
def ClockSessionsWrongFalsely : Prop := clockSessionsRow.holds Try.pinned (OpenSpec.ofChange clockSessionsWrong)

/-- 'tidewrightlaw01.ClockTogether': WHATEVER THE INPUT: true; the input reads as it did. -/
def clockTogetherSpec : ChangeSpec := { name := "clockTogether", fn := fun _ => fun
  | [d1, d2, d3, d4] => { results := [.lit (.bool true)], args := [d1, d2, d3, d4] }
  | _ => none }
def clockTogetherRow : OpenClaim := { program := "ytehifbogadohgaa", sum := "28ba9812526c7bb93e0db0fcc1bda464449c8d017d82e34533179e7394ecd203", func := "tidewright/tidewrightlaw01.ClockTogether", spec := "clockTogether", unfollowed := true, recurses := true, apart := false }
def ClockTogetherSaid : Prop := clockTogetherRow.holds Try.pinned (OpenSpec.ofChange clockTogetherSpec)

/-- ITS FALSE NEIGHBOUR: 'it returns false'. Refute it at one input. -/
def clockTogetherWrong : ChangeSpec := { name := "clockTogether", fn := fun _ => fun
  | [d1, d2, d3, d4] => { results := [.lit (.bool false)], args := [d1, d2, d3, d4] }
  | _ => none }
def ClockTogetherWrongFalsely : Prop := clockTogetherRow.holds Try.pinned (OpenSpec.ofChange clockTogetherWrong)

/- THE SECOND FORM. 'bulk': how many values and letters a reading holds, each counted each time it is reached (what is shared counts as often as it is met; a slice's spare places count too). A statement '..UptoSaid' is the law's where the arguments, and the package variables that the reading takes, are together of bulk at most 1048576: NARROWER than '..Said'. Prove '..Said' where nothing that the law and all that it calls make is longer than what came in: it says more and counts as full. Else prove '..UptoSaid'. A law counts once. -/
mutual
def uptoBulk {H : Type} : DataW H → Nat
  | .lit (.string bytes) => bytes.length + 1
  | .lit _ => 1
  | .nil => 1
  | .ptr d => uptoBulk d + 1
  | .slice elems spare => uptoBulkAll elems + uptoBulkAll spare + 1
  | .agg parts => uptoBulkAll parts + 1
  | .iface _ d => uptoBulk d + 1
  | .map entries => uptoBulkEntries entries + 1
  | .held _ => 1
def uptoBulkAll {H : Type} : List (DataW H) → Nat
  | [] => 0
  | d :: r => uptoBulk d + uptoBulkAll r
def uptoBulkEntries {H : Type} : List (Lit × DataW H) → Nat
  | [] => 0
  | x :: r => uptoBulkEntry x + uptoBulkEntries r
def uptoBulkEntry {H : Type} : Lit × DataW H → Nat
  | (.string bytes, d) => bytes.length + uptoBulk d + 1
  | (_, d) => uptoBulk d + 1
 end
def uptoSmall : (H : Type) → List (DataW H) → Bool := fun _ ds => decide (uptoBulkAll ds ≤ 1048576)
def OpenSpec.upto (s : _root_.Go.ChangeSpec) : _root_.Go.OpenSpec := { _root_.Go.OpenSpec.ofChange s with cond := some uptoSmall }

/-- 'tidewrightlaw01.ClockTumbling', WHERE WHAT IT READS IS OF BULK AT MOST 1048576: true; the input reads as it did. -/
def clockTumblingUptoRow : OpenClaim := { program := "ytehifbogadohgaa", sum := "28ba9812526c7bb93e0db0fcc1bda464449c8d017d82e34533179e7394ecd203", func := "tidewright/tidewrightlaw01.ClockTumbling", spec := "clockTumbling", unfollowed := true, recurses := true, apart := false, narrowed := true }
def ClockTumblingUptoSaid : Prop := clockTumblingUptoRow.holds Try.pinned (OpenSpec.upto clockTumblingSpec)

/-- 'tidewrightlaw01.ClockBetween', WHERE WHAT IT READS IS OF BULK AT MOST 1048576: true; the input reads as it did. -/
def clockBetweenUptoRow : OpenClaim := { program := "ytehifbogadohgaa", sum := "28ba9812526c7bb93e0db0fcc1bda464449c8d017d82e34533179e7394ecd203", func := "tidewright/tidewrightlaw01.ClockBetween", spec := "clockBetween", unfollowed := true, recurses := true, apart := false, narrowed := true }
def ClockBetweenUptoSaid : Prop := clockBetweenUptoRow.holds Try.pinned (OpenSpec.upto clockBetweenSpec)

/-- 'tidewrightlaw01.ClockWindows', WHERE WHAT IT READS IS OF BULK AT MOST 1048576: true; the input reads as it did. -/
def clockWindowsUptoRow : OpenClaim := { program := "ytehifbogadohgaa", sum := "28ba9812526c7bb93e0db0fcc1bda464449c8d017d82e34533179e7394ecd203", func := "tidewright/tidewrightlaw01.ClockWindows", spec := "clockWindows", unfollowed := true, recurses := true, apart := false, narrowed := true }
def ClockWindowsUptoSaid : Prop := clockWindowsUptoRow.holds Try.pinned (OpenSpec.upto clockWindowsSpec)

/-- 'tidewrightlaw01.ClockValid', WHERE WHAT IT READS IS OF BULK AT MOST 1048576: true; the input reads as it did. -/
def clockValidUptoRow : OpenClaim := { program := "ytehifbogadohgaa", sum := "28ba9812526c7bb93e0db0fcc1bda464449c8d017d82e34533179e7394ecd203", func := "tidewright/tidewrightlaw01.ClockValid", spec := "clockValid", unfollowed := true, recurses := true, apart := false, narrowed := true }
def ClockValidUptoSaid : Prop := clockValidUptoRow.holds Try.pinned (OpenSpec.upto clockValidSpec)

/-- 'tidewrightlaw01.ClockMerges', WHERE WHAT IT READS IS OF BULK AT MOST 1048576: true; the input reads as it did. -/
def clockMergesUptoRow : OpenClaim := { program := "ytehifbogadohgaa", sum := "28ba9812526c7bb93e0db0fcc1bda464449c8d017d82e34533179e7394ecd203", func := "tidewright/tidewrightlaw01.ClockMerges", spec := "clockMerges", unfollowed := true, recurses := true, apart := false, narrowed := true }
def ClockMergesUptoSaid : Prop := clockMergesUptoRow.holds Try.pinned (OpenSpec.upto clockMergesSpec)

/-- 'tidewrightlaw01.ClockSessions', WHERE WHAT IT READS IS OF BULK AT MOST 1048576: true; the input reads as it did. -/
def clockSessionsUptoRow : OpenClaim := { program := "ytehifbogadohgaa", sum := "28ba9812526c7bb93e0db0fcc1bda464449c8d017d82e34533179e7394ecd203", func := "tidewright/tidewrightlaw01.ClockSessions", spec := "clockSessions", unfollowed := true, recurses := true, apart := false, narrowed := true }
def ClockSessionsUptoSaid : Prop := clockSessionsUptoRow.holds Try.pinned (OpenSpec.upto clockSessionsSpec)

/-- 'tidewrightlaw01.ClockTogether', WHERE WHAT IT READS IS OF BULK AT MOST 1048576: true; the input reads as it did. -/
def clockTogetherUptoRow : OpenClaim := { program := "ytehifbogadohgaa", sum := "28ba9812526c7bb93e0db0fcc1bda464449c8d017d82e34533179e7394ecd203", func := "tidewright/tidewrightlaw01.ClockTogether", spec := "clockTogether", unfollowed := true, recurses := true, apart := false, narrowed := true }
def ClockTogetherUptoSaid : Prop := clockTogetherUptoRow.holds Try.pinned (OpenSpec.upto clockTogetherSpec)

end Rows
end Go.Proofs.Ytehifbogadohgaa
