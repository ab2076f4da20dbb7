/- What is proved here: the walk of SpanTells. -/
import Derived.Test.YtgpeekmagckgcaaS9a
import Derived.Test.YtgpeekmagckgcaaS9b
import Derived.Test.YtgpeekmagckgcaaVar
import Derived.Test.YtgpeekmagckgcaaSa
import Derived.Test.YtgpeekmagckgcaaPn
namespace Go.Proofs.Ytgpeekmagckgcaa
open Go Go.RowKit
attribute [local go_sem] KW.cell KW.frozen fld0 fld1
attribute [local go_sem ↓] eql24 eql23

theorem law9 (a b c d x : Int) (w : World) :
    Calls Try.prog 9 #[.agg #[.int .i64 a, .int .i64 b], .agg #[.int .i64 c, .int .i64 d], .int .i64 x] w fun e w' => e = .returned (.bool true) ∧ Below w.heap.size w w' := by
  by_cases h : Pl.chi a b < Pl.clo a b
  · by_cases k : x < a
    · exact law9_11 a b c d x w h k
    · exact law9_10 a b c d x w h k
  · by_cases k : x < a
    · exact law9_01 a b c d x w (by omega) k
    · exact law9_00 a b c d x w (by omega) k
end Go.Proofs.Ytgpeekmagckgcaa
