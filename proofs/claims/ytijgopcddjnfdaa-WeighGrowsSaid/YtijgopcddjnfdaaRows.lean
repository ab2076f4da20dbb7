/-
  No cell of these rows narrows 'for every input' (looked for: loops, veiled, ifaces, maps, wideKeys, modest, calm, conditions, laid).
  DERIVED. THE GIVEN ROWS OF THIS SEAT. 9 by the template 'for every input the law returns true; each argument reads behind the call as it read before'; 0 by the template 'total and deterministic' (their statements: YtijgopcddjnfdaaTotals.lean).
  GIVEN WITH THE SEED: the statements are not yours to turn. If you find one false, say at which input.
  Laid BY PROGRAM, IN A SANDBOX (cutbox-rows.mjs): the forced cells as the released guide's own fill.sh prints them over the translation c00fd0f06ee43ec3… (all of the seat's roots in one cut). By AI agents, Wed Nov 11 2026. No macro, syntax, notation, axiom, sorry.
-/
import Derived.Test.YtijgopcddjnfdaaChecked
import GoSem.Claim
import GoSem.ClaimJoined
import GoSem.ClaimMapViews
import Derived.JoinedTies
import Derived.KernelRfl
namespace Go.Proofs.Ytijgopcddjnfdaa
/- THE CELL 'sum', in the pinned program and in every row, IS THE sha256 OF THE DUMP (.gsa) THAT YtijgopcddjnfdaaProg.lean LOADS. Nothing in Lean hashes anything: it is a label: what it is worth is what the hold of that sum in a sandbox is worth. -/
noncomputable def Try.pinned : Pinned := { name := "ytijgopcddjnfdaa", sum := "c00fd0f06ee43ec37d1fb0dc76103a5bd3b72eaa329445d832af29324d4aa3a8", checked := Try.checked }
namespace Rows
def none {H : Type} : Left H := { results := [], args := [] }

/-- 'turnoutlaw03.FloatRow': WHATEVER THE INPUT: true; the input reads as it did. -/
def floatRowSpec : ChangeSpec := { name := "floatRow", fn := fun _ => fun
  | [d1, d2, d3] => { results := [.lit (.bool true)], args := [d1, d2, d3] }
  | _ => none }
def floatRowRow : OpenClaim := { program := "ytijgopcddjnfdaa", sum := "c00fd0f06ee43ec37d1fb0dc76103a5bd3b72eaa329445d832af29324d4aa3a8", func := "turnout/turnoutlaw03.FloatRow", spec := "floatRow", inPlace := ["math.Float64frombits", "math.Float64bits"], apart := false }
def FloatRowSaid : Prop := floatRowRow.holds Try.pinned (OpenSpec.ofChange floatRowSpec)

/-- ITS FALSE NEIGHBOUR: 'it returns false'. Refute it at one input. -/
def floatRowWrong : ChangeSpec := { name := "floatRow", fn := fun _ => fun
  | [d1, d2, d3] => { results := [.lit (.bool false)], args := [d1, d2, d3] }
  | _ => none }
def FloatRowWrongFalsely : Prop := floatRowRow.holds Try.pinned (OpenSpec.ofChange floatRowWrong)

/-- 'turnoutlaw03.FloatSums': WHATEVER THE INPUT: true; the input reads as it did. -/
def floatSumsSpec : ChangeSpec := { name := "floatSums", fn := fun _ => fun
  | [d1, d2] => { results := [.lit (.bool true)], args := [d1, d2] }
  | _ => none }
def floatSumsRow : OpenClaim := { program := "ytijgopcddjnfdaa", sum := "c00fd0f06ee43ec37d1fb0dc76103a5bd3b72eaa329445d832af29324d4aa3a8", func := "turnout/turnoutlaw03.FloatSums", spec := "floatSums", inPlace := ["math.Float64frombits", "math.Float64bits"], apart := false }
def FloatSumsSaid : Prop := floatSumsRow.holds Try.pinned (OpenSpec.ofChange floatSumsSpec)

/-- ITS FALSE NEIGHBOUR: 'it returns false'. Refute it at one input. -/
def floatSumsWrong : ChangeSpec := { name := "floatSums", fn := fun _ => fun
  | [d1, d2] => { results := [.lit (.bool false)], args := [d1, d2] }
  | _ => none }
def FloatSumsWrongFalsely : Prop := floatSumsRow.holds Try.pinned (OpenSpec.ofChange floatSumsWrong)

/-- 'turnoutlaw03.FloatCosts': WHATEVER THE INPUT: true; the input reads as it did. -/
def floatCostsSpec : ChangeSpec := { name := "floatCosts", fn := fun _ => fun
  | [d1, d2, d3] => { results := [.lit (.bool true)], args := [d1, d2, d3] }
  | _ => none }
def floatCostsRow : OpenClaim := { program := "ytijgopcddjnfdaa", sum := "c00fd0f06ee43ec37d1fb0dc76103a5bd3b72eaa329445d832af29324d4aa3a8", func := "turnout/turnoutlaw03.FloatCosts", spec := "floatCosts", inPlace := ["math.Float64frombits", "math.Float64bits"], apart := false }
def FloatCostsSaid : Prop := floatCostsRow.holds Try.pinned (OpenSpec.ofChange floatCostsSpec)

/-- ITS FALSE NEIGHBOUR: 'it returns false'. Refute it at one input. -/
def floatCostsWrong : ChangeSpec := { name := "floatCosts", fn := fun _ => fun
  | [d1, d2, d3] => { results := [.lit (.bool false)], args := [d1, d2, d3] }
  | _ => none }
def FloatCostsWrongFalsely : Prop := floatCostsRow.holds Try.pinned (OpenSpec.ofChange floatCostsWrong)

/-- 'turnoutlaw03.FloatTells': WHATEVER THE INPUT: true; the input reads as it did. -/
def floatTellsSpec : ChangeSpec := { name := "floatTells", fn := fun _ => fun
  | [d1, d2] => { results := [.lit (.bool true)], args := [d1, d2] }
  | _ => none }
def floatTellsRow : OpenClaim := { program := "ytijgopcddjnfdaa", sum := "c00fd0f06ee43ec37d1fb0dc76103a5bd3b72eaa329445d832af29324d4aa3a8", func := "turnout/turnoutlaw03.FloatTells", spec := "floatTells", inPlace := ["math.Float64frombits", "math.Float64bits"], apart := false }
def FloatTellsSaid : Prop := floatTellsRow.holds Try.pinned (OpenSpec.ofChange floatTellsSpec)

/-- ITS FALSE NEIGHBOUR: 'it returns false'. Refute it at one input. -/
def floatTellsWrong : ChangeSpec := { name := "floatTells", fn := fun _ => fun
  | [d1, d2] => { results := [.lit (.bool false)], args := [d1, d2] }
  | _ => none }
def FloatTellsWrongFalsely : Prop := floatTellsRow.holds Try.pinned (OpenSpec.ofChange floatTellsWrong)

/-- 'turnoutlaw03.FloatBytes': WHATEVER THE INPUT: true; the input reads as it did. -/
def floatBytesSpec : ChangeSpec := { name := "floatBytes", fn := fun _ => fun
  | [d1, d2] => { results := [.lit (.bool true)], args := [d1, d2] }
  | _ => none }
def floatBytesRow : OpenClaim := { program := "ytijgopcddjnfdaa", sum := "c00fd0f06ee43ec37d1fb0dc76103a5bd3b72eaa329445d832af29324d4aa3a8", func := "turnout/turnoutlaw03.FloatBytes", spec := "floatBytes", inPlace := ["math.Float64frombits", "math.Float64bits"], apart := false }
def FloatBytesSaid : Prop := floatBytesRow.holds Try.pinned (OpenSpec.ofChange floatBytesSpec)

/-- ITS FALSE NEIGHBOUR: 'it returns false'. Refute it at one input. -/
def floatBytesWrong : ChangeSpec := { name := "floatBytes", fn := fun _ => fun
  | [d1, d2] => { results := [.lit (.bool false)], args := [d1, d2] }
  | _ => none }
def FloatBytesWrongFalsely : Prop := floatBytesRow.holds Try.pinned (OpenSpec.ofChange floatBytesWrong)

/-- 'turnoutlaw03.FloatLists': WHATEVER THE INPUT: true; the input reads as it did. -/
def floatListsSpec : ChangeSpec := { name := "floatLists", fn := fun _ => fun
  | [d] => { results := [.lit (.bool true)], args := [d] }
  | _ => none }
def floatListsRow : OpenClaim := { program := "ytijgopcddjnfdaa", sum := "c00fd0f06ee43ec37d1fb0dc76103a5bd3b72eaa329445d832af29324d4aa3a8", func := "turnout/turnoutlaw03.FloatLists", spec := "floatLists", inPlace := ["math.Float64frombits", "math.Float64bits"], apart := false }
def FloatListsSaid : Prop := floatListsRow.holds Try.pinned (OpenSpec.ofChange floatListsSpec)

/-- ITS FALSE NEIGHBOUR: 'it returns false'. Refute it at one input. -/
def floatListsWrong : ChangeSpec := { name := "floatLists", fn := fun _ => fun
  | [d] => { results := [.lit (.bool false)], args := [d] }
  | _ => none }
def FloatListsWrongFalsely : Prop := floatListsRow.holds Try.pinned (OpenSpec.ofChange floatListsWrong)

/-- 'turnoutlaw18.WeighLeast': WHATEVER THE INPUT: true; the input reads as it did. -/
def weighLeastSpec : ChangeSpec := { name := "weighLeast", fn := fun _ => fun
  | [d1, d2] => { results := [.lit (.bool true)], args := [d1, d2] }
  | _ => none }
def weighLeastRow : OpenClaim := { program := "ytijgopcddjnfdaa", sum := "c00fd0f06ee43ec37d1fb0dc76103a5bd3b72eaa329445d832af29324d4aa3a8", func := "turnout/turnoutlaw18.WeighLeast", spec := "weighLeast", inPlace := ["math.Float64frombits", "math.Float64bits"], unfollowed := true, recurses := true, apart := false }
def WeighLeastSaid : Prop := weighLeastRow.holds Try.pinned (OpenSpec.ofChange weighLeastSpec)

/-- ITS FALSE NEIGHBOUR: 'it returns false'. Refute it at one input. -/
def weighLeastWrong : ChangeSpec := { name := "weighLeast", fn := fun _ => fun
  | [d1, d2] => { results := [.lit (.bool false)], args := [d1, d2] }
  | _ => none }
def WeighLeastWrongFalsely : Prop := weighLeastRow.holds Try.pinned (OpenSpec.ofChange weighLeastWrong)

/-- 'turnoutlaw18.WeighGrows': WHATEVER THE INPUT: true; the input reads as it did. -/
def weighGrowsSpec : ChangeSpec := { name := "weighGrows", fn := fun _ => fun
  | [d1, d2, d3] => { results := [.lit (.bool true)], args := [d1, d2, d3] }
  | _ => none }
def weighGrowsRow : OpenClaim := { program := "ytijgopcddjnfdaa", sum := "c00fd0f06ee43ec37d1fb0dc76103a5bd3b72eaa329445d832af29324d4aa3a8", func := "turnout/turnoutlaw18.WeighGrows", spec := "weighGrows", inPlace := ["math.Float64frombits", "math.Float64bits"], unfollowed := true, recurses := true, apart := false }
def WeighGrowsSaid : Prop := weighGrowsRow.holds Try.pinned (OpenSpec.ofChange weighGrowsSpec)

/-- ITS FALSE NEIGHBOUR: 'it returns false'. Refute it at one input. -/
def weighGrowsWrong : ChangeSpec := { name := "weighGrows", fn := fun _ => fun
  | [d1, d2, d3] => { results := [.lit (.bool false)], args := [d1, d2, d3] }
  | _ => none }
def WeighGrowsWrongFalsely : Prop := weighGrowsRow.holds Try.pinned (OpenSpec.ofChange weighGrowsWrong)

/-- 'turnoutlaw18.WeighTells': WHATEVER THE INPUT: true; the input reads as it did. -/
def weighTellsSpec : ChangeSpec := { name := "weighTells", fn := fun _ => fun
  | [d1, d2, d3, d4] => { results := [.lit (.bool true)], args := [d1, d2, d3, d4] }
  | _ => none }
def weighTellsRow : OpenClaim := { program := "ytijgopcddjnfdaa", sum := "c00fd0f06ee43ec37d1fb0dc76103a5bd3b72eaa329445d832af29324d4aa3a8", func := "turnout/turnoutlaw18.WeighTells", spec := "weighTells", inPlace := ["math.Float64frombits", "math.Float64bits"], unfollowed := true, recurses := true, apart := false }
def WeighTellsSaid : Prop := weighTellsRow.holds Try.pinned (OpenSpec.ofChange weighTellsSpec)

/-- ITS FALSE NEIGHBOUR: 'it returns false'. Refute it at one input. -/
def weighTellsWrong : ChangeSpec := { name := "weighTells", fn := fun _ => fun
  | [d1, d2, d3, d4] => { results := [.lit (.bool false)], args := [d1, d2, d3, d4] }
  | _ => none }
def WeighTellsWrongFalsely : Prop := weighTellsRow.holds Try.pinned (OpenSpec.ofChange weighTellsWrong)

/- THE SECOND FORM. 'bulk': how many values and letters a reading holds, each counted each time it is reached (what is shared counts as often as it is met; a slice's spare places count too). A statement '..UptoSaid' is the law's where the arguments, and the package variables that the reading takes, are together of bulk at most 1048576: NARROWER than '..Said'. Prove '..Said' where nothing that the law and all that it calls make is longer than what came in: it says more and counts as full. Else prove '..UptoSaid'. A law counts once. -/
mutual
def uptoBulk {H : Type} : DataW H → Nat
  | .lit (.string bytes) => bytes.length + 1
  | .lit _ => 1
  | .nil => 1
  | .ptr d => uptoBulk d + 1
  | .slice elems spare => uptoBulkAll elems + uptoBulkAll spare + 1
  | .agg parts => uptoBulkAll parts + 1
  | .iface _ d => uptoBulk d + 1
  | .map entries => uptoBulkEntries entries + 1
  | .held _ => 1
def uptoBulkAll {H : Type} : List (DataW H) → Nat
  | [] => 0
  | d :: r => uptoBulk d + uptoBulkAll r
def uptoBulkEntries {H : Type} : List (Lit × DataW H) → Nat
  | [] => 0
  | x :: r => uptoBulkEntry x + uptoBulkEntries r
def uptoBulkEntry {H : Type} : Lit × DataW H → Nat
  | (.string bytes, d) => bytes.length + uptoBulk d + 1
  | (_, d) => uptoBulk d + 1
 end
def uptoSmall : (H : Type) → List (DataW H) → Bool := fun _ ds => decide (uptoBulkAll ds ≤ 1048576)
def OpenSpec.upto (s : _root_.Go.ChangeSpec) : _root_.Go.OpenSpec := { _root_.Go.OpenSpec.ofChange s with cond := some uptoSmall }

/-- 'turnoutlaw03.FloatRow', WHERE WHAT IT READS IS OF BULK AT MOST 1048576: true; the input reads as it did. -/
def floatRowUptoRow : OpenClaim := { program := "ytijgopcddjnfdaa", sum := "c00fd0f06ee43ec37d1fb0dc76103a5bd3b72eaa329445d832af29324d4aa3a8", func := "turnout/turnoutlaw03.FloatRow", spec := "floatRow", inPlace := ["math.Float64frombits", "math.Float64bits"], apart := false, narrowed := true }
def FloatRowUptoSaid : Prop := floatRowUptoRow.holds Try.pinned (OpenSpec.upto floatRowSpec)

/-- 'turnoutlaw03.FloatSums', WHERE WHAT IT READS IS OF BULK AT MOST 1048576: true; the input reads as it did. -/
def floatSumsUptoRow : OpenClaim := { program := "ytijgopcddjnfdaa", sum := "c00fd0f06ee43ec37d1fb0dc76103a5bd3b72eaa329445d832af29324d4aa3a8", func := "turnout/turnoutlaw03.FloatSums", spec := "floatSums", inPlace := ["math.Float64frombits", "math.Float64bits"], apart := false, narrowed := true }
def FloatSumsUptoSaid : Prop := floatSumsUptoRow.holds Try.pinned (OpenSpec.upto floatSumsSpec)

/-- 'turnoutlaw03.FloatCosts', WHERE WHAT IT READS IS OF BULK AT MOST 1048576: true; the input reads as it did. -/
def floatCostsUptoRow : OpenClaim := { program := "ytijgopcddjnfdaa", sum := "c00fd0f06ee43ec37d1fb0dc76103a5bd3b72eaa329445d832af29324d4aa3a8", func := "turnout/turnoutlaw03.FloatCosts", spec := "floatCosts", inPlace := ["math.Float64frombits", "math.Float64bits"], apart := false, narrowed := true }
def FloatCostsUptoSaid : Prop := floatCostsUptoRow.holds Try.pinned (OpenSpec.upto floatCostsSpec)

/-- 'turnoutlaw03.FloatTells', WHERE WHAT IT READS IS OF BULK AT MOST 1048576: true; the input reads as it did. -/
def floatTellsUptoRow : OpenClaim := { program := "ytijgopcddjnfdaa", sum := "c00fd0f06ee43ec37d1fb0dc76103a5bd3b72eaa329445d832af29324d4aa3a8", func := "turnout/turnoutlaw03.FloatTells", spec := "floatTells", inPlace := ["math.Float64frombits", "math.Float64bits"], apart := false, narrowed := true }
def FloatTellsUptoSaid : Prop := floatTellsUptoRow.holds Try.pinned (OpenSpec.upto floatTellsSpec)

/-- 'turnoutlaw03.FloatBytes', WHERE WHAT IT READS IS OF BULK AT MOST 1048576: true; the input reads as it did. -/
def floatBytesUptoRow : OpenClaim := { program := "ytijgopcddjnfdaa", sum := "c00fd0f06ee43ec37d1fb0dc76103a5bd3b72eaa329445d832af29324d4aa3a8", func := "turnout/turnoutlaw03.FloatBytes", spec := "floatBytes", inPlace := ["math.Float64frombits", "math.Float64bits"], apart := false, narrowed := true }
def FloatBytesUptoSaid : Prop := floatBytesUptoRow.holds Try.pinned (OpenSpec.upto floatBytesSpec)

/-- 'turnoutlaw03.FloatLists', WHERE WHAT IT READS IS OF BULK AT MOST 1048576: true; the input reads as it did. -/
def floatListsUptoRow : OpenClaim := { program := "ytijgopcddjnfdaa", sum := "c00fd0f06ee43ec37d1fb0dc76103a5bd3b72eaa329445d832af29324d4aa3a8", func := "turnout/turnoutlaw03.FloatLists", spec := "floatLists", inPlace := ["math.Float64frombits", "math.Float64bits"], apart := false, narrowed := true }
def FloatListsUptoSaid : Prop := floatListsUptoRow.holds Try.pinned (OpenSpec.upto floatListsSpec)

/-- 'turnoutlaw18.WeighLeast', WHERE WHAT IT READS IS OF BULK AT MOST 1048576: true; the input reads as it did. -/
def weighLeastUptoRow : OpenClaim := { program := "ytijgopcddjnfdaa", sum := "c00fd0f06ee43ec37d1fb0dc76103a5bd3b72eaa329445d832af29324d4aa3a8", func := "turnout/turnoutlaw18.WeighLeast", spec := "weighLeast", inPlace := ["math.Float64frombits", "math.Float64bits"], unfollowed := true, recurses := true, apart := false, narrowed := true }
def WeighLeastUptoSaid : Prop := weighLeastUptoRow.holds Try.pinned (OpenSpec.upto weighLeastSpec)

/-- 'turnoutlaw18.WeighGrows', WHERE WHAT IT READS IS OF BULK AT MOST 1048576: true; the input reads as it did. -/
def weighGrowsUptoRow : OpenClaim := { program := "ytijgopcddjnfdaa", sum := "c00fd0f06ee43ec37d1fb0dc76103a5bd3b72eaa329445d832af29324d4aa3a8", func := "turnout/turnoutlaw18.WeighGrows", spec := "weighGrows", inPlace := ["math.Float64frombits", "math.Float64bits"], unfollowed := true, recurses := true, apart := false, narrowed := true }
def WeighGrowsUptoSaid : Prop := weighGrowsUptoRow.holds Try.pinned (OpenSpec.upto weighGrowsSpec)

/-- 'turnoutlaw18.WeighTells', WHERE WHAT IT READS IS OF BULK AT MOST 1048576: true; the input reads as it did. -/
def weighTellsUptoRow : OpenClaim := { program := "ytijgopcddjnfdaa", sum := "c00fd0f06ee43ec37d1fb0dc76103a5bd3b72eaa329445d832af29324d4aa3a8", func := "turnout/turnoutlaw18.WeighTells", spec := "weighTells", inPlace := ["math.Float64frombits", "math.Float64bits"], unfollowed := true, recurses := true, apart := false, narrowed := true }
def WeighTellsUptoSaid : Prop := weighTellsUptoRow.holds Try.pinned (OpenSpec.upto weighTellsSpec)

end Rows
end Go.Proofs.Ytijgopcddjnfdaa
