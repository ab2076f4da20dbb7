/- What is proved here: the walk of SkewAgain, in one. Condition: none. -/
import Derived.Test.YtgpeekmagckgcaaE2
namespace Go.Proofs.Ytgpeekmagckgcaa
open Go Go.RowKit

namespace Pl
theorem wit_f (t1 t2 t4 m : Int) : wit (flo t1 t2 t4 m) (fhi t1 t2 t4 m) (flo t1 t2 t4 m) (fhi t1 t2 t4 m) = true := by
  have h := wit_meet (flo t1 t2 t4 m) (fhi t1 t2 t4 m) (flo t1 t2 t4 m) (fhi t1 t2 t4 m)
  have hs := meet_self (flo t1 t2 t4 m) (fhi t1 t2 t4 m)
  have hc := wide_clean (t2 - t4) (t2 - t1) (drift (t4 - t1) m)
  have e1 : clo (flo t1 t2 t4 m) (fhi t1 t2 t4 m) = flo t1 t2 t4 m := hc.1
  have e2 : chi (flo t1 t2 t4 m) (fhi t1 t2 t4 m) = fhi t1 t2 t4 m := hc.2
  rw [hs.1, hs.2, e1, e2] at h
  exact h
theorem sm_again {k : Bool} {a b z t1 t2 t4 m : Int} (g1 : ¬ t1 < 0) (g2 : ¬ t4 < t1) (g3 : ¬ 1099511627776 < t4) (g4 : ¬ t2 < -1125899906842624) (g5 : ¬ 1125899906842624 < t2)
    (he : emp (nlo k a b z t1 t2 t4 m) (nhi k a b z t1 t2 t4 m) = false) :
    sm true (nlo k a b z t1 t2 t4 m) (nhi k a b z t1 t2 t4 m) t4 t1 t2 t4 m = ((true, nlo k a b z t1 t2 t4 m, nhi k a b z t1 t2 t4 m, t4), 0) := by
  have h := again k a b z t1 t2 t4 m
  have hb : ¬ bad true t4 t1 t2 t4 := by
    unfold bad
    simp only [not_or, not_and]
    refine ⟨g1, g2, g3, g4, g5, fun _ => by omega⟩
  unfold sm
  rw [if_neg hb, h.1, h.2, if_neg (by rw [he]; simp)]
end Pl

theorem law11 (k : Bool) (a b z t1 t2 t4 m : Int) (W : World) :
    Calls Try.prog 11 #[.agg #[.bool k, .int .i64 a, .int .i64 b, .int .i64 z], .int .i64 t1, .int .i64 t2, .int .i64 t4, .int .i64 m] W fun e W' => e = .returned (.bool true) ∧ Below W.heap.size W W' := by
  by_cases g0 : z < 0
  · exact law11_bad0 k a b z t1 t2 t4 m W g0
  by_cases g1 : 1099511627776 < z
  · exact law11_bad1 k a b z t1 t2 t4 m W g0 g1
  by_cases g2 : t4 < 0
  · exact law11_bad2 k a b z t1 t2 t4 m W g0 g1 g2
  by_cases g3 : 1099511627776 < t4
  · exact law11_bad3 k a b z t1 t2 t4 m W g0 g1 g2 g3
  by_cases g4 : t1 < 0
  · exact law11_bad4 k a b z t1 t2 t4 m W g0 g1 g2 g3 g4
  by_cases g5 : t4 < t1
  · exact law11_bad5 k a b z t1 t2 t4 m W g0 g1 g2 g3 g4 g5
  by_cases g6 : t2 < -1125899906842624
  · exact law11_bad6 k a b z t1 t2 t4 m W g0 g1 g2 g3 g4 g5 g6
  by_cases g7 : 1125899906842624 < t2
  · exact law11_bad7 k a b z t1 t2 t4 m W g0 g1 g2 g3 g4 g5 g6 g7
  by_cases hb : Pl.bad k z t1 t2 t4
  · exact law11_err2 k a b z t1 t2 t4 m W g0 g1 g2 g3 g4 g5 g6 g7 (by unfold Pl.sm; rw [if_pos hb])
  cases he : Pl.emp (Pl.nlo k a b z t1 t2 t4 m) (Pl.nhi k a b z t1 t2 t4 m) with
  | true => exact law11_err16 k a b z t1 t2 t4 m W g0 g1 g2 g3 g4 g5 g6 g7 (by unfold Pl.sm; rw [if_neg hb, if_pos he])
  | false =>
    have hr : Pl.sm k a b z t1 t2 t4 m = ((true, Pl.nlo k a b z t1 t2 t4 m, Pl.nhi k a b z t1 t2 t4 m, t4), 0) := by unfold Pl.sm; rw [if_neg hb, if_neg (by rw [he]; simp)]
    have hag := Pl.sm_again g4 g5 g3 g6 g7 he
    cases k with
    | true =>
      refine law11_ok_true a b z t1 t2 t4 m _ _ W g0 g1 g2 g3 g4 g5 g6 g7 hr hag ?_ ?_
      · rw [Pl.nlo_t, Pl.nhi_t]; exact Pl.wit_meet _ _ _ _
      · rw [Pl.nlo_t, Pl.nhi_t, Pl.mlo_comm, Pl.mhi_comm]; exact Pl.wit_meet _ _ _ _
    | false =>
      refine law11_ok_false a b z t1 t2 t4 m _ _ W g0 g1 g2 g3 g4 g5 g6 g7 hr hag ?_
      rw [Pl.nlo_f, Pl.nhi_f]; exact Pl.wit_f _ _ _ _
end Go.Proofs.Ytgpeekmagckgcaa
