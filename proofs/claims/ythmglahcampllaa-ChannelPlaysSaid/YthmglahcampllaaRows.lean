/-
  No cell of these rows narrows 'for every input' (looked for: loops, veiled, ifaces, maps, wideKeys, modest, calm, conditions, laid).
  DERIVED. THE GIVEN ROWS OF THIS SEAT. 9 by the template 'for every input the law returns true; each argument reads behind the call as it read before'; 0 by the template 'total and deterministic' (their statements: YthmglahcampllaaTotals.lean).
  GIVEN WITH THE SEED: the statements are not yours to turn. If you find one false, say at which input.
  Laid BY PROGRAM, IN A SANDBOX (cutbox-rows.mjs): the forced cells as the released guide's own fill.sh prints them over the translation 38f6ab57355b6e68… (all of the seat's roots in one cut). By AI agents, Wed Nov 11 2026. No macro, syntax, notation, axiom, sorry.
-/
import Derived.Test.YthmglahcampllaaChecked
import GoSem.Claim
import GoSem.ClaimJoined
import GoSem.ClaimMapViews
import Derived.JoinedTies
import Derived.KernelRfl
namespace Go.Proofs.Ythmglahcampllaa
/- THE CELL 'sum', in the pinned program and in every row, IS THE sha256 OF THE DUMP (.gsa) THAT YthmglahcampllaaProg.lean LOADS. Nothing in Lean hashes anything: it is a label: what it is worth is what the hold of that sum in a sandbox is worth. -/
noncomputable def Try.pinned : Pinned := { name := "ythmglahcampllaa", sum := "38f6ab57355b6e68c844007cbb3336c1456b87d938f6417f73009bb8091351d6", checked := Try.checked }
namespace Rows
def none {H : Type} : Left H := { results := [], args := [] }

/-- 'turnoutlaw22.DiffRing': WHATEVER THE INPUT: true; the input reads as it did. -/
def diffRingSpec : ChangeSpec := { name := "diffRing", fn := fun _ => fun
  | [d1, d2] => { results := [.lit (.bool true)], args := [d1, d2] }
  | _ => none }
def diffRingRow : OpenClaim := { program := "ythmglahcampllaa", sum := "38f6ab57355b6e68c844007cbb3336c1456b87d938f6417f73009bb8091351d6", func := "turnout/turnoutlaw22.DiffRing", spec := "diffRing", unfollowed := true, recurses := true, apart := false }
def DiffRingSaid : Prop := diffRingRow.holds Try.pinned (OpenSpec.ofChange diffRingSpec)

/-- ITS FALSE NEIGHBOUR: 'it returns false'. Refute it at one input. -/
def diffRingWrong : ChangeSpec := { name := "diffRing", fn := fun _ => fun
  | [d1, d2] => { results := [.lit (.bool false)], args := [d1, d2] }
  | _ => none }
def DiffRingWrongFalsely : Prop := diffRingRow.holds Try.pinned (OpenSpec.ofChange diffRingWrong)

/-- 'turnoutlaw01.TickEvals': WHATEVER THE INPUT: true; the input reads as it did. -/
def tickEvalsSpec : ChangeSpec := { name := "tickEvals", fn := fun _ => fun
  | [d] => { results := [.lit (.bool true)], args := [d] }
  | _ => none }
def tickEvalsRow : OpenClaim := { program := "ythmglahcampllaa", sum := "38f6ab57355b6e68c844007cbb3336c1456b87d938f6417f73009bb8091351d6", func := "turnout/turnoutlaw01.TickEvals", spec := "tickEvals", unfollowed := true, recurses := true, apart := false }
def TickEvalsSaid : Prop := tickEvalsRow.holds Try.pinned (OpenSpec.ofChange tickEvalsSpec)

/-- ITS FALSE NEIGHBOUR: 'it returns false'. Refute it at one input. -/
def tickEvalsWrong : ChangeSpec := { name := "tickEvals", fn := fun _ => fun
  | [d] => { results := [.lit (.bool false)], args := [d] }
  | _ => none }
def TickEvalsWrongFalsely : Prop := tickEvalsRow.holds Try.pinned (OpenSpec.ofChange tickEvalsWrong)

/-- 'turnoutlaw01.TickJoins': WHATEVER THE INPUT: true; the input reads as it did. -/
def tickJoinsSpec : ChangeSpec := { name := "tickJoins", fn := fun _ => fun
  | [d1, d2] => { results := [.lit (.bool true)], args := [d1, d2] }
  | _ => none }
def tickJoinsRow : OpenClaim := { program := "ythmglahcampllaa", sum := "38f6ab57355b6e68c844007cbb3336c1456b87d938f6417f73009bb8091351d6", func := "turnout/turnoutlaw01.TickJoins", spec := "tickJoins", unfollowed := true, recurses := true, apart := false }
def TickJoinsSaid : Prop := tickJoinsRow.holds Try.pinned (OpenSpec.ofChange tickJoinsSpec)

/-- ITS FALSE NEIGHBOUR: 'it returns false'. Refute it at one input. -/
def tickJoinsWrong : ChangeSpec := { name := "tickJoins", fn := fun _ => fun
  | [d1, d2] => { results := [.lit (.bool false)], args := [d1, d2] }
  | _ => none }
def TickJoinsWrongFalsely : Prop := tickJoinsRow.holds Try.pinned (OpenSpec.ofChange tickJoinsWrong)

/-- 'turnoutlaw22.DiffTells': WHATEVER THE INPUT: true; the input reads as it did. -/
def diffTellsSpec : ChangeSpec := { name := "diffTells", fn := fun _ => fun
  | [d1, d2, d3] => { results := [.lit (.bool true)], args := [d1, d2, d3] }
  | _ => none }
def diffTellsRow : OpenClaim := { program := "ythmglahcampllaa", sum := "38f6ab57355b6e68c844007cbb3336c1456b87d938f6417f73009bb8091351d6", func := "turnout/turnoutlaw22.DiffTells", spec := "diffTells", unfollowed := true, recurses := true, apart := false }
def DiffTellsSaid : Prop := diffTellsRow.holds Try.pinned (OpenSpec.ofChange diffTellsSpec)

/-- ITS FALSE NEIGHBOUR: 'it returns false'. Refute it at one input. -/
def diffTellsWrong : ChangeSpec := { name := "diffTells", fn := fun _ => fun
  | [d1, d2, d3] => { results := [.lit (.bool false)], args := [d1, d2, d3] }
  | _ => none }
def DiffTellsWrongFalsely : Prop := diffTellsRow.holds Try.pinned (OpenSpec.ofChange diffTellsWrong)

/-- 'turnoutlaw22.DiffLeast': WHATEVER THE INPUT: true; the input reads as it did. -/
def diffLeastSpec : ChangeSpec := { name := "diffLeast", fn := fun _ => fun
  | [d1, d2, d3] => { results := [.lit (.bool true)], args := [d1, d2, d3] }
  | _ => none }
def diffLeastRow : OpenClaim := { program := "ythmglahcampllaa", sum := "38f6ab57355b6e68c844007cbb3336c1456b87d938f6417f73009bb8091351d6", func := "turnout/turnoutlaw22.DiffLeast", spec := "diffLeast", unfollowed := true, recurses := true, apart := false }
def DiffLeastSaid : Prop := diffLeastRow.holds Try.pinned (OpenSpec.ofChange diffLeastSpec)

/-- ITS FALSE NEIGHBOUR: 'it returns false'. Refute it at one input. -/
def diffLeastWrong : ChangeSpec := { name := "diffLeast", fn := fun _ => fun
  | [d1, d2, d3] => { results := [.lit (.bool false)], args := [d1, d2, d3] }
  | _ => none }
def DiffLeastWrongFalsely : Prop := diffLeastRow.holds Try.pinned (OpenSpec.ofChange diffLeastWrong)

/-- 'turnoutlaw01.TickBack': WHATEVER THE INPUT: true; the input reads as it did. -/
def tickBackSpec : ChangeSpec := { name := "tickBack", fn := fun _ => fun
  | [d1, d2] => { results := [.lit (.bool true)], args := [d1, d2] }
  | _ => none }
def tickBackRow : OpenClaim := { program := "ythmglahcampllaa", sum := "38f6ab57355b6e68c844007cbb3336c1456b87d938f6417f73009bb8091351d6", func := "turnout/turnoutlaw01.TickBack", spec := "tickBack", unfollowed := true, recurses := true, apart := false }
def TickBackSaid : Prop := tickBackRow.holds Try.pinned (OpenSpec.ofChange tickBackSpec)

/-- ITS FALSE NEIGHBOUR: 'it returns false'. Refute it at one input. -/
def tickBackWrong : ChangeSpec := { name := "tickBack", fn := fun _ => fun
  | [d1, d2] => { results := [.lit (.bool false)], args := [d1, d2] }
  | _ => none }
def TickBackWrongFalsely : Prop := tickBackRow.holds Try.pinned (OpenSpec.ofChange tickBackWrong)

/-- 'turnoutlaw01.TickRatio': WHATEVER THE INPUT: true; the input reads as it did. -/
def tickRatioSpec : ChangeSpec := { name := "tickRatio", fn := fun _ => fun
  | [d1, d2, d3] => { results := [.lit (.bool true)], args := [d1, d2, d3] }
  | _ => none }
def tickRatioRow : OpenClaim := { program := "ythmglahcampllaa", sum := "38f6ab57355b6e68c844007cbb3336c1456b87d938f6417f73009bb8091351d6", func := "turnout/turnoutlaw01.TickRatio", spec := "tickRatio", unfollowed := true, recurses := true, apart := false }
def TickRatioSaid : Prop := tickRatioRow.holds Try.pinned (OpenSpec.ofChange tickRatioSpec)

/-- ITS FALSE NEIGHBOUR: 'it returns false'. Refute it at one input. -/
def tickRatioWrong : ChangeSpec := { name := "tickRatio", fn := fun _ => fun
  | [d1, d2, d3] => { results := [.lit (.bool false)], args := [d1, d2, d3] }
  | _ => none }
def TickRatioWrongFalsely : Prop := tickRatioRow.holds Try.pinned (OpenSpec.ofChange tickRatioWrong)

/-- 'turnoutlaw34.ChannelPlays': WHATEVER THE INPUT: true; the input reads as it did. -/
def channelPlaysSpec : ChangeSpec := { name := "channelPlays", fn := fun _ => fun
  | [d1, d2, d3] => { results := [.lit (.bool true)], args := [d1, d2, d3] }
  | _ => none }
def channelPlaysRow : OpenClaim := { program := "ythmglahcampllaa", sum := "38f6ab57355b6e68c844007cbb3336c1456b87d938f6417f73009bb8091351d6", func := "turnout/turnoutlaw34.ChannelPlays", spec := "channelPlays", unfollowed := true, recurses := true, apart := false }
def ChannelPlaysSaid : Prop := channelPlaysRow.holds Try.pinned (OpenSpec.ofChange channelPlaysSpec)

/-- ITS FALSE NEIGHBOUR: 'it returns false'. Refute it at one input. -/
def channelPlaysWrong : ChangeSpec := { name := "channelPlays", fn := fun _ => fun
  | [d1, d2, d3] => { results := [.lit (.bool false)], args := [d1, d2, d3] }
  | _ => none }
def ChannelPlaysWrongFalsely : Prop := channelPlaysRow.holds Try.pinned (OpenSpec.ofChange channelPlaysWrong)

/-- 'turnoutlaw01.TickTells': WHATEVER THE INPUT: true; the input reads as it did. -/
def tickTellsSpec : ChangeSpec := { name := "tickTells", fn := fun _ => fun
  | [d1, d2, d3] => { results := [.lit (.bool true)], args := [d1, d2, d3] }
  | _ => none }
def tickTellsRow : OpenClaim := { program := "ythmglahcampllaa", sum := "38f6ab57355b6e68c844007cbb3336c1456b87d938f6417f73009bb8091351d6", func := "turnout/turnoutlaw01.TickTells", spec := "tickTells", unfollowed := true, recurses := true, apart := false }
def TickTellsSaid : Prop := tickTellsRow.holds Try.pinned (OpenSpec.ofChange tickTellsSpec)

/-- ITS FALSE NEIGHBOUR: 'it returns false'. Refute it at one input. -/
def tickTellsWrong : ChangeSpec := { name := "tickTells", fn := fun _ => fun
  | [d1, d2, d3] => { results := [.lit (.bool false)], args := [d1, d2, d3] }
  | _ => none }
def TickTellsWrongFalsely : Prop := tickTellsRow.holds Try.pinned (OpenSpec.ofChange tickTellsWrong)

/- THE SECOND FORM. 'bulk': how many values and letters a reading holds, each counted each time it is reached (what is shared counts as often as it is met; a slice's spare places count too). A statement '..UptoSaid' is the law's where the arguments, and the package variables that the reading takes, are together of bulk at most 1048576: NARROWER than '..Said'. Prove '..Said' where nothing that the law and all that it calls make is longer than what came in: it says more and counts as full. Else prove '..UptoSaid'. A law counts once. -/
mutual
def uptoBulk {H : Type} : DataW H → Nat
  | .lit (.string bytes) => bytes.length + 1
  | .lit _ => 1
  | .nil => 1
  | .ptr d => uptoBulk d + 1
  | .slice elems spare => uptoBulkAll elems + uptoBulkAll spare + 1
  | .agg parts => uptoBulkAll parts + 1
  | .iface _ d => uptoBulk d + 1
  | .map entries => uptoBulkEntries entries + 1
  | .held _ => 1
def uptoBulkAll {H : Type} : List (DataW H) → Nat
  | [] => 0
  | d :: r => uptoBulk d + uptoBulkAll r
def uptoBulkEntries {H : Type} : List (Lit × DataW H) → Nat
  | [] => 0
  | x :: r => uptoBulkEntry x + uptoBulkEntries r
def uptoBulkEntry {H : Type} : Lit × DataW H → Nat
  | (.string bytes, d) => bytes.length + uptoBulk d + 1
  | (_, d) => uptoBulk d + 1
 end
def uptoSmall : (H : Type) → List (DataW H) → Bool := fun _ ds => decide (uptoBulkAll ds ≤ 1048576)
def OpenSpec.upto (s : _root_.Go.ChangeSpec) : _root_.Go.OpenSpec := { _root_.Go.OpenSpec.ofChange s with cond := some uptoSmall }

/-- 'turnoutlaw22.DiffRing', WHERE WHAT IT READS IS OF BULK AT MOST 1048576: true; the input reads as it did. -/
def diffRingUptoRow : OpenClaim := { program := "ythmglahcampllaa", sum := "38f6ab57355b6e68c844007cbb3336c1456b87d938f6417f73009bb8091351d6", func := "turnout/turnoutlaw22.DiffRing", spec := "diffRing", unfollowed := true, recurses := true, apart := false, narrowed := true }
def DiffRingUptoSaid : Prop := diffRingUptoRow.holds Try.pinned (OpenSpec.upto diffRingSpec)

/-- 'turnoutlaw01.TickEvals', WHERE WHAT IT READS IS OF BULK AT MOST 1048576: true; the input reads as it did. -/
def tickEvalsUptoRow : OpenClaim := { program := "ythmglahcampllaa", sum := "38f6ab57355b6e68c844007cbb3336c1456b87d938f6417f73009bb8091351d6", func := "turnout/turnoutlaw01.TickEvals", spec := "tickEvals", unfollowed := true, recurses := true, apart := false, narrowed := true }
def TickEvalsUptoSaid : Prop := tickEvalsUptoRow.holds Try.pinned (OpenSpec.upto tickEvalsSpec)

/-- 'turnoutlaw01.TickJoins', WHERE WHAT IT READS IS OF BULK AT MOST 1048576: true; the input reads as it did. -/
def tickJoinsUptoRow : OpenClaim := { program := "ythmglahcampllaa", sum := "38f6ab57355b6e68c844007cbb3336c1456b87d938f6417f73009bb8091351d6", func := "turnout/turnoutlaw01.TickJoins", spec := "tickJoins", unfollowed := true, recurses := true, apart := false, narrowed := true }
def TickJoinsUptoSaid : Prop := tickJoinsUptoRow.holds Try.pinned (OpenSpec.upto tickJoinsSpec)

/-- 'turnoutlaw22.DiffTells', WHERE WHAT IT READS IS OF BULK AT MOST 1048576: true; the input reads as it did. -/
def diffTellsUptoRow : OpenClaim := { program := "ythmglahcampllaa", sum := "38f6ab57355b6e68c844007cbb3336c1456b87d938f6417f73009bb8091351d6", func := "turnout/turnoutlaw22.DiffTells", spec := "diffTells", unfollowed := true, recurses := true, apart := false, narrowed := true }
def DiffTellsUptoSaid : Prop := diffTellsUptoRow.holds Try.pinned (OpenSpec.upto diffTellsSpec)

/-- 'turnoutlaw22.DiffLeast', WHERE WHAT IT READS IS OF BULK AT MOST 1048576: true; the input reads as it did. -/
def diffLeastUptoRow : OpenClaim := { program := "ythmglahcampllaa", sum := "38f6ab57355b6e68c844007cbb3336c1456b87d938f6417f73009bb8091351d6", func := "turnout/turnoutlaw22.DiffLeast", spec := "diffLeast", unfollowed := true, recurses := true, apart := false, narrowed := true }
def DiffLeastUptoSaid : Prop := diffLeastUptoRow.holds Try.pinned (OpenSpec.upto diffLeastSpec)

/-- 'turnoutlaw01.TickBack', WHERE WHAT IT READS IS OF BULK AT MOST 1048576: true; the input reads as it did. -/
def tickBackUptoRow : OpenClaim := { program := "ythmglahcampllaa", sum := "38f6ab57355b6e68c844007cbb3336c1456b87d938f6417f73009bb8091351d6", func := "turnout/turnoutlaw01.TickBack", spec := "tickBack", unfollowed := true, recurses := true, apart := false, narrowed := true }
def TickBackUptoSaid : Prop := tickBackUptoRow.holds Try.pinned (OpenSpec.upto tickBackSpec)

/-- 'turnoutlaw01.TickRatio', WHERE WHAT IT READS IS OF BULK AT MOST 1048576: true; the input reads as it did. -/
def tickRatioUptoRow : OpenClaim := { program := "ythmglahcampllaa", sum := "38f6ab57355b6e68c844007cbb3336c1456b87d938f6417f73009bb8091351d6", func := "turnout/turnoutlaw01.TickRatio", spec := "tickRatio", unfollowed := true, recurses := true, apart := false, narrowed := true }
def TickRatioUptoSaid : Prop := tickRatioUptoRow.holds Try.pinned (OpenSpec.upto tickRatioSpec)

/-- 'turnoutlaw34.ChannelPlays', WHERE WHAT IT READS IS OF BULK AT MOST 1048576: true; the input reads as it did. -/
def channelPlaysUptoRow : OpenClaim := { program := "ythmglahcampllaa", sum := "38f6ab57355b6e68c844007cbb3336c1456b87d938f6417f73009bb8091351d6", func := "turnout/turnoutlaw34.ChannelPlays", spec := "channelPlays", unfollowed := true, recurses := true, apart := false, narrowed := true }
def ChannelPlaysUptoSaid : Prop := channelPlaysUptoRow.holds Try.pinned (OpenSpec.upto channelPlaysSpec)

/-- 'turnoutlaw01.TickTells', WHERE WHAT IT READS IS OF BULK AT MOST 1048576: true; the input reads as it did. -/
def tickTellsUptoRow : OpenClaim := { program := "ythmglahcampllaa", sum := "38f6ab57355b6e68c844007cbb3336c1456b87d938f6417f73009bb8091351d6", func := "turnout/turnoutlaw01.TickTells", spec := "tickTells", unfollowed := true, recurses := true, apart := false, narrowed := true }
def TickTellsUptoSaid : Prop := tickTellsUptoRow.holds Try.pinned (OpenSpec.upto tickTellsSpec)

end Rows
end Go.Proofs.Ythmglahcampllaa
