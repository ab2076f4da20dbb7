/-
  No cell of these rows narrows 'for every input' (looked for: loops, veiled, ifaces, maps, wideKeys, modest, calm, conditions, laid).
  DERIVED. THE GIVEN ROWS OF THIS SEAT. 11 by the template 'for every input the law returns true; each argument reads behind the call as it read before'; 0 by the template 'total and deterministic' (their statements: YtgpeekmagckgcaaTotals.lean).
  GIVEN WITH THE SEED: the statements are not yours to turn. If you find one false, say at which input.
  Laid BY PROGRAM, IN A SANDBOX (cutbox-rows.mjs): the forced cells as the released guide's own fill.sh prints them over the translation 96c705efe9101ee6… (all of the seat's roots in one cut). By AI agents, Wed Nov 11 2026. No macro, syntax, notation, axiom, sorry.
-/
import Derived.Test.YtgpeekmagckgcaaChecked
import GoSem.Claim
import GoSem.ClaimJoined
import GoSem.ClaimMapViews
import Derived.JoinedTies
import Derived.KernelRfl
namespace Go.Proofs.Ytgpeekmagckgcaa
/- THE CELL 'sum', in the pinned program and in every row, IS THE sha256 OF THE DUMP (.gsa) THAT YtgpeekmagckgcaaProg.lean LOADS. Nothing in Lean hashes anything: it is a label: what it is worth is what the hold of that sum in a sandbox is worth. -/
noncomputable def Try.pinned : Pinned := { name := "ytgpeekmagckgcaa", sum := "96c705efe9101ee6d015dba8932d2e979881f3a40d01b808d79046d57a071bee", checked := Try.checked }
namespace Rows
def none {H : Type} : Left H := { results := [], args := [] }

/-- 'turnoutlaw02.SpanMeets': WHATEVER THE INPUT: true; the input reads as it did. -/
def spanMeetsSpec : ChangeSpec := { name := "spanMeets", fn := fun _ => fun
  | [d1, d2, d3, d4] => { results := [.lit (.bool true)], args := [d1, d2, d3, d4] }
  | _ => none }
def spanMeetsRow : OpenClaim := { program := "ytgpeekmagckgcaa", sum := "96c705efe9101ee6d015dba8932d2e979881f3a40d01b808d79046d57a071bee", func := "turnout/turnoutlaw02.SpanMeets", spec := "spanMeets", apart := false }
def SpanMeetsSaid : Prop := spanMeetsRow.holds Try.pinned (OpenSpec.ofChange spanMeetsSpec)

/-- ITS FALSE NEIGHBOUR: 'it returns false'. Refute it at one input. -/
def spanMeetsWrong : ChangeSpec := { name := "spanMeets", fn := fun _ => fun
  | [d1, d2, d3, d4] => { results := [.lit (.bool false)], args := [d1, d2, d3, d4] }
  | _ => none }
def SpanMeetsWrongFalsely : Prop := spanMeetsRow.holds Try.pinned (OpenSpec.ofChange spanMeetsWrong)

/-- 'turnoutlaw02.SpanMoves': WHATEVER THE INPUT: true; the input reads as it did. -/
def spanMovesSpec : ChangeSpec := { name := "spanMoves", fn := fun _ => fun
  | [d1, d2, d3, d4] => { results := [.lit (.bool true)], args := [d1, d2, d3, d4] }
  | _ => none }
def spanMovesRow : OpenClaim := { program := "ytgpeekmagckgcaa", sum := "96c705efe9101ee6d015dba8932d2e979881f3a40d01b808d79046d57a071bee", func := "turnout/turnoutlaw02.SpanMoves", spec := "spanMoves", apart := false }
def SpanMovesSaid : Prop := spanMovesRow.holds Try.pinned (OpenSpec.ofChange spanMovesSpec)

/-- ITS FALSE NEIGHBOUR: 'it returns false'. Refute it at one input. -/
def spanMovesWrong : ChangeSpec := { name := "spanMoves", fn := fun _ => fun
  | [d1, d2, d3, d4] => { results := [.lit (.bool false)], args := [d1, d2, d3, d4] }
  | _ => none }
def SpanMovesWrongFalsely : Prop := spanMovesRow.holds Try.pinned (OpenSpec.ofChange spanMovesWrong)

/-- 'turnoutlaw14.ClockPlays': WHATEVER THE INPUT: true; the input reads as it did. -/
def clockPlaysSpec : ChangeSpec := { name := "clockPlays", fn := fun _ => fun
  | [d1, d2, d3] => { results := [.lit (.bool true)], args := [d1, d2, d3] }
  | _ => none }
def clockPlaysRow : OpenClaim := { program := "ytgpeekmagckgcaa", sum := "96c705efe9101ee6d015dba8932d2e979881f3a40d01b808d79046d57a071bee", func := "turnout/turnoutlaw14.ClockPlays", spec := "clockPlays", apart := false }
def ClockPlaysSaid : Prop := clockPlaysRow.holds Try.pinned (OpenSpec.ofChange clockPlaysSpec)

/-- ITS FALSE NEIGHBOUR: 'it returns false'. Refute it at one input. -/
def clockPlaysWrong : ChangeSpec := { name := "clockPlays", fn := fun _ => fun
  | [d1, d2, d3] => { results := [.lit (.bool false)], args := [d1, d2, d3] }
  | _ => none }
def ClockPlaysWrongFalsely : Prop := clockPlaysRow.holds Try.pinned (OpenSpec.ofChange clockPlaysWrong)

/-- 'turnoutlaw14.ClockDrifts': WHATEVER THE INPUT: true; the input reads as it did. -/
def clockDriftsSpec : ChangeSpec := { name := "clockDrifts", fn := fun _ => fun
  | [d1, d2, d3, d4, d5] => { results := [.lit (.bool true)], args := [d1, d2, d3, d4, d5] }
  | _ => none }
def clockDriftsRow : OpenClaim := { program := "ytgpeekmagckgcaa", sum := "96c705efe9101ee6d015dba8932d2e979881f3a40d01b808d79046d57a071bee", func := "turnout/turnoutlaw14.ClockDrifts", spec := "clockDrifts", apart := false }
def ClockDriftsSaid : Prop := clockDriftsRow.holds Try.pinned (OpenSpec.ofChange clockDriftsSpec)

/-- ITS FALSE NEIGHBOUR: 'it returns false'. Refute it at one input. -/
def clockDriftsWrong : ChangeSpec := { name := "clockDrifts", fn := fun _ => fun
  | [d1, d2, d3, d4, d5] => { results := [.lit (.bool false)], args := [d1, d2, d3, d4, d5] }
  | _ => none }
def ClockDriftsWrongFalsely : Prop := clockDriftsRow.holds Try.pinned (OpenSpec.ofChange clockDriftsWrong)

/-- 'turnoutlaw14.ClockSpans': WHATEVER THE INPUT: true; the input reads as it did. -/
def clockSpansSpec : ChangeSpec := { name := "clockSpans", fn := fun _ => fun
  | [d1, d2, d3] => { results := [.lit (.bool true)], args := [d1, d2, d3] }
  | _ => none }
def clockSpansRow : OpenClaim := { program := "ytgpeekmagckgcaa", sum := "96c705efe9101ee6d015dba8932d2e979881f3a40d01b808d79046d57a071bee", func := "turnout/turnoutlaw14.ClockSpans", spec := "clockSpans", apart := false }
def ClockSpansSaid : Prop := clockSpansRow.holds Try.pinned (OpenSpec.ofChange clockSpansSpec)

/-- ITS FALSE NEIGHBOUR: 'it returns false'. Refute it at one input. -/
def clockSpansWrong : ChangeSpec := { name := "clockSpans", fn := fun _ => fun
  | [d1, d2, d3] => { results := [.lit (.bool false)], args := [d1, d2, d3] }
  | _ => none }
def ClockSpansWrongFalsely : Prop := clockSpansRow.holds Try.pinned (OpenSpec.ofChange clockSpansWrong)

/-- 'turnoutlaw14.ClockTicks': WHATEVER THE INPUT: true; the input reads as it did. -/
def clockTicksSpec : ChangeSpec := { name := "clockTicks", fn := fun _ => fun
  | [d1, d2, d3, d4, d5] => { results := [.lit (.bool true)], args := [d1, d2, d3, d4, d5] }
  | _ => none }
def clockTicksRow : OpenClaim := { program := "ytgpeekmagckgcaa", sum := "96c705efe9101ee6d015dba8932d2e979881f3a40d01b808d79046d57a071bee", func := "turnout/turnoutlaw14.ClockTicks", spec := "clockTicks", apart := false }
def ClockTicksSaid : Prop := clockTicksRow.holds Try.pinned (OpenSpec.ofChange clockTicksSpec)

/-- ITS FALSE NEIGHBOUR: 'it returns false'. Refute it at one input. -/
def clockTicksWrong : ChangeSpec := { name := "clockTicks", fn := fun _ => fun
  | [d1, d2, d3, d4, d5] => { results := [.lit (.bool false)], args := [d1, d2, d3, d4, d5] }
  | _ => none }
def ClockTicksWrongFalsely : Prop := clockTicksRow.holds Try.pinned (OpenSpec.ofChange clockTicksWrong)

/-- 'turnoutlaw02.SpanTells': WHATEVER THE INPUT: true; the input reads as it did. -/
def spanTellsSpec : ChangeSpec := { name := "spanTells", fn := fun _ => fun
  | [d1, d2, d3] => { results := [.lit (.bool true)], args := [d1, d2, d3] }
  | _ => none }
def spanTellsRow : OpenClaim := { program := "ytgpeekmagckgcaa", sum := "96c705efe9101ee6d015dba8932d2e979881f3a40d01b808d79046d57a071bee", func := "turnout/turnoutlaw02.SpanTells", spec := "spanTells", apart := false }
def SpanTellsSaid : Prop := spanTellsRow.holds Try.pinned (OpenSpec.ofChange spanTellsSpec)

/-- ITS FALSE NEIGHBOUR: 'it returns false'. Refute it at one input. -/
def spanTellsWrong : ChangeSpec := { name := "spanTells", fn := fun _ => fun
  | [d1, d2, d3] => { results := [.lit (.bool false)], args := [d1, d2, d3] }
  | _ => none }
def SpanTellsWrongFalsely : Prop := spanTellsRow.holds Try.pinned (OpenSpec.ofChange spanTellsWrong)

/-- 'turnoutlaw15.SkewTells': WHATEVER THE INPUT: true; the input reads as it did. -/
def skewTellsSpec : ChangeSpec := { name := "skewTells", fn := fun _ => fun
  | [d1, d2, d3, d4, d5, d6] => { results := [.lit (.bool true)], args := [d1, d2, d3, d4, d5, d6] }
  | _ => none }
def skewTellsRow : OpenClaim := { program := "ytgpeekmagckgcaa", sum := "96c705efe9101ee6d015dba8932d2e979881f3a40d01b808d79046d57a071bee", func := "turnout/turnoutlaw15.SkewTells", spec := "skewTells", apart := false }
def SkewTellsSaid : Prop := skewTellsRow.holds Try.pinned (OpenSpec.ofChange skewTellsSpec)

/-- ITS FALSE NEIGHBOUR: 'it returns false'. Refute it at one input. -/
def skewTellsWrong : ChangeSpec := { name := "skewTells", fn := fun _ => fun
  | [d1, d2, d3, d4, d5, d6] => { results := [.lit (.bool false)], args := [d1, d2, d3, d4, d5, d6] }
  | _ => none }
def SkewTellsWrongFalsely : Prop := skewTellsRow.holds Try.pinned (OpenSpec.ofChange skewTellsWrong)

/-- 'turnoutlaw15.SkewAgain': WHATEVER THE INPUT: true; the input reads as it did. -/
def skewAgainSpec : ChangeSpec := { name := "skewAgain", fn := fun _ => fun
  | [d1, d2, d3, d4, d5] => { results := [.lit (.bool true)], args := [d1, d2, d3, d4, d5] }
  | _ => none }
def skewAgainRow : OpenClaim := { program := "ytgpeekmagckgcaa", sum := "96c705efe9101ee6d015dba8932d2e979881f3a40d01b808d79046d57a071bee", func := "turnout/turnoutlaw15.SkewAgain", spec := "skewAgain", apart := false }
def SkewAgainSaid : Prop := skewAgainRow.holds Try.pinned (OpenSpec.ofChange skewAgainSpec)

/-- ITS FALSE NEIGHBOUR: 'it returns false'. Refute it at one input. -/
def skewAgainWrong : ChangeSpec := { name := "skewAgain", fn := fun _ => fun
  | [d1, d2, d3, d4, d5] => { results := [.lit (.bool false)], args := [d1, d2, d3, d4, d5] }
  | _ => none }
def SkewAgainWrongFalsely : Prop := skewAgainRow.holds Try.pinned (OpenSpec.ofChange skewAgainWrong)

/-- 'turnoutlaw15.SkewAims': WHATEVER THE INPUT: true; the input reads as it did. -/
def skewAimsSpec : ChangeSpec := { name := "skewAims", fn := fun _ => fun
  | [d1, d2, d3, d4, d5] => { results := [.lit (.bool true)], args := [d1, d2, d3, d4, d5] }
  | _ => none }
def skewAimsRow : OpenClaim := { program := "ytgpeekmagckgcaa", sum := "96c705efe9101ee6d015dba8932d2e979881f3a40d01b808d79046d57a071bee", func := "turnout/turnoutlaw15.SkewAims", spec := "skewAims", apart := false }
def SkewAimsSaid : Prop := skewAimsRow.holds Try.pinned (OpenSpec.ofChange skewAimsSpec)

/-- ITS FALSE NEIGHBOUR: 'it returns false'. Refute it at one input. -/
def skewAimsWrong : ChangeSpec := { name := "skewAims", fn := fun _ => fun
  | [d1, d2, d3, d4, d5] => { results := [.lit (.bool false)], args := [d1, d2, d3, d4, d5] }
  | _ => none }
def SkewAimsWrongFalsely : Prop := skewAimsRow.holds Try.pinned (OpenSpec.ofChange skewAimsWrong)

/-- 'turnoutlaw15.SkewHolds': WHATEVER THE INPUT: true; the input reads as it did. -/
def skewHoldsSpec : ChangeSpec := { name := "skewHolds", fn := fun _ => fun
  | [d1, d2, d3] => { results := [.lit (.bool true)], args := [d1, d2, d3] }
  | _ => none }
def skewHoldsRow : OpenClaim := { program := "ytgpeekmagckgcaa", sum := "96c705efe9101ee6d015dba8932d2e979881f3a40d01b808d79046d57a071bee", func := "turnout/turnoutlaw15.SkewHolds", spec := "skewHolds", apart := false }
def SkewHoldsSaid : Prop := skewHoldsRow.holds Try.pinned (OpenSpec.ofChange skewHoldsSpec)

/-- ITS FALSE NEIGHBOUR: 'it returns false'. Refute it at one input. -/
def skewHoldsWrong : ChangeSpec := { name := "skewHolds", fn := fun _ => fun
  | [d1, d2, d3] => { results := [.lit (.bool false)], args := [d1, d2, d3] }
  | _ => none }
def SkewHoldsWrongFalsely : Prop := skewHoldsRow.holds Try.pinned (OpenSpec.ofChange skewHoldsWrong)

/- THE SECOND FORM. 'bulk': how many values and letters a reading holds, each counted each time it is reached (what is shared counts as often as it is met; a slice's spare places count too). A statement '..UptoSaid' is the law's where the arguments, and the package variables that the reading takes, are together of bulk at most 1048576: NARROWER than '..Said'. Prove '..Said' where nothing that the law and all that it calls make is longer than what came in: it says more and counts as full. Else prove '..UptoSaid'. A law counts once. -/
mutual
def uptoBulk {H : Type} : DataW H → Nat
  | .lit (.string bytes) => bytes.length + 1
  | .lit _ => 1
  | .nil => 1
  | .ptr d => uptoBulk d + 1
  | .slice elems spare => uptoBulkAll elems + uptoBulkAll spare + 1
  | .agg parts => uptoBulkAll parts + 1
  | .iface _ d => uptoBulk d + 1
  | .map entries => uptoBulkEntries entries + 1
  | .held _ => 1
def uptoBulkAll {H : Type} : List (DataW H) → Nat
  | [] => 0
  | d :: r => uptoBulk d + uptoBulkAll r
def uptoBulkEntries {H : Type} : List (Lit × DataW H) → Nat
  | [] => 0
  | x :: r => uptoBulkEntry x + uptoBulkEntries r
def uptoBulkEntry {H : Type} : Lit × DataW H → Nat
  | (.string bytes, d) => bytes.length + uptoBulk d + 1
  | (_, d) => uptoBulk d + 1
 end
def uptoSmall : (H : Type) → List (DataW H) → Bool := fun _ ds => decide (uptoBulkAll ds ≤ 1048576)
def OpenSpec.upto (s : _root_.Go.ChangeSpec) : _root_.Go.OpenSpec := { _root_.Go.OpenSpec.ofChange s with cond := some uptoSmall }

/-- 'turnoutlaw02.SpanMeets', WHERE WHAT IT READS IS OF BULK AT MOST 1048576: true; the input reads as it did. -/
def spanMeetsUptoRow : OpenClaim := { program := "ytgpeekmagckgcaa", sum := "96c705efe9101ee6d015dba8932d2e979881f3a40d01b808d79046d57a071bee", func := "turnout/turnoutlaw02.SpanMeets", spec := "spanMeets", apart := false, narrowed := true }
def SpanMeetsUptoSaid : Prop := spanMeetsUptoRow.holds Try.pinned (OpenSpec.upto spanMeetsSpec)

/-- 'turnoutlaw02.SpanMoves', WHERE WHAT IT READS IS OF BULK AT MOST 1048576: true; the input reads as it did. -/
def spanMovesUptoRow : OpenClaim := { program := "ytgpeekmagckgcaa", sum := "96c705efe9101ee6d015dba8932d2e979881f3a40d01b808d79046d57a071bee", func := "turnout/turnoutlaw02.SpanMoves", spec := "spanMoves", apart := false, narrowed := true }
def SpanMovesUptoSaid : Prop := spanMovesUptoRow.holds Try.pinned (OpenSpec.upto spanMovesSpec)

/-- 'turnoutlaw14.ClockPlays', WHERE WHAT IT READS IS OF BULK AT MOST 1048576: true; the input reads as it did. -/
def clockPlaysUptoRow : OpenClaim := { program := "ytgpeekmagckgcaa", sum := "96c705efe9101ee6d015dba8932d2e979881f3a40d01b808d79046d57a071bee", func := "turnout/turnoutlaw14.ClockPlays", spec := "clockPlays", apart := false, narrowed := true }
def ClockPlaysUptoSaid : Prop := clockPlaysUptoRow.holds Try.pinned (OpenSpec.upto clockPlaysSpec)

/-- 'turnoutlaw14.ClockDrifts', WHERE WHAT IT READS IS OF BULK AT MOST 1048576: true; the input reads as it did. -/
def clockDriftsUptoRow : OpenClaim := { program := "ytgpeekmagckgcaa", sum := "96c705efe9101ee6d015dba8932d2e979881f3a40d01b808d79046d57a071bee", func := "turnout/turnoutlaw14.ClockDrifts", spec := "clockDrifts", apart := false, narrowed := true }
def ClockDriftsUptoSaid : Prop := clockDriftsUptoRow.holds Try.pinned (OpenSpec.upto clockDriftsSpec)

/-- 'turnoutlaw14.ClockSpans', WHERE WHAT IT READS IS OF BULK AT MOST 1048576: true; the input reads as it did. -/
def clockSpansUptoRow : OpenClaim := { program := "ytgpeekmagckgcaa", sum := "96c705efe9101ee6d015dba8932d2e979881f3a40d01b808d79046d57a071bee", func := "turnout/turnoutlaw14.ClockSpans", spec := "clockSpans", apart := false, narrowed := true }
def ClockSpansUptoSaid : Prop := clockSpansUptoRow.holds Try.pinned (OpenSpec.upto clockSpansSpec)

/-- 'turnoutlaw14.ClockTicks', WHERE WHAT IT READS IS OF BULK AT MOST 1048576: true; the input reads as it did. -/
def clockTicksUptoRow : OpenClaim := { program := "ytgpeekmagckgcaa", sum := "96c705efe9101ee6d015dba8932d2e979881f3a40d01b808d79046d57a071bee", func := "turnout/turnoutlaw14.ClockTicks", spec := "clockTicks", apart := false, narrowed := true }
def ClockTicksUptoSaid : Prop := clockTicksUptoRow.holds Try.pinned (OpenSpec.upto clockTicksSpec)

/-- 'turnoutlaw02.SpanTells', WHERE WHAT IT READS IS OF BULK AT MOST 1048576: true; the input reads as it did. -/
def spanTellsUptoRow : OpenClaim := { program := "ytgpeekmagckgcaa", sum := "96c705efe9101ee6d015dba8932d2e979881f3a40d01b808d79046d57a071bee", func := "turnout/turnoutlaw02.SpanTells", spec := "spanTells", apart := false, narrowed := true }
def SpanTellsUptoSaid : Prop := spanTellsUptoRow.holds Try.pinned (OpenSpec.upto spanTellsSpec)

/-- 'turnoutlaw15.SkewTells', WHERE WHAT IT READS IS OF BULK AT MOST 1048576: true; the input reads as it did. -/
def skewTellsUptoRow : OpenClaim := { program := "ytgpeekmagckgcaa", sum := "96c705efe9101ee6d015dba8932d2e979881f3a40d01b808d79046d57a071bee", func := "turnout/turnoutlaw15.SkewTells", spec := "skewTells", apart := false, narrowed := true }
def SkewTellsUptoSaid : Prop := skewTellsUptoRow.holds Try.pinned (OpenSpec.upto skewTellsSpec)

/-- 'turnoutlaw15.SkewAgain', WHERE WHAT IT READS IS OF BULK AT MOST 1048576: true; the input reads as it did. -/
def skewAgainUptoRow : OpenClaim := { program := "ytgpeekmagckgcaa", sum := "96c705efe9101ee6d015dba8932d2e979881f3a40d01b808d79046d57a071bee", func := "turnout/turnoutlaw15.SkewAgain", spec := "skewAgain", apart := false, narrowed := true }
def SkewAgainUptoSaid : Prop := skewAgainUptoRow.holds Try.pinned (OpenSpec.upto skewAgainSpec)

/-- 'turnoutlaw15.SkewAims', WHERE WHAT IT READS IS OF BULK AT MOST 1048576: true; the input reads as it did. -/
def skewAimsUptoRow : OpenClaim := { program := "ytgpeekmagckgcaa", sum := "96c705efe9101ee6d015dba8932d2e979881f3a40d01b808d79046d57a071bee", func := "turnout/turnoutlaw15.SkewAims", spec := "skewAims", apart := false, narrowed := true }
def SkewAimsUptoSaid : Prop := skewAimsUptoRow.holds Try.pinned (OpenSpec.upto skewAimsSpec)

/-- 'turnoutlaw15.SkewHolds', WHERE WHAT IT READS IS OF BULK AT MOST 1048576: true; the input reads as it did. -/
def skewHoldsUptoRow : OpenClaim := { program := "ytgpeekmagckgcaa", sum := "96c705efe9101ee6d015dba8932d2e979881f3a40d01b808d79046d57a071bee", func := "turnout/turnoutlaw15.SkewHolds", spec := "skewHolds", apart := false, narrowed := true }
def SkewHoldsUptoSaid : Prop := skewHoldsUptoRow.holds Try.pinned (OpenSpec.upto skewHoldsSpec)

end Rows
end Go.Proofs.Ytgpeekmagckgcaa
