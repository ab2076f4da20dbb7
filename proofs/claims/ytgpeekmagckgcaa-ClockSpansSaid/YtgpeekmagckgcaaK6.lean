/- What is proved here: the walk of ClockSpans. Condition: none. -/
import Derived.Test.YtgpeekmagckgcaaK5
import Derived.Test.YtgpeekmagckgcaaPc
namespace Go.Proofs.Ytgpeekmagckgcaa
open Go Go.RowKit
attribute [local go_sem] KW.cell KW.frozen

set_option maxRecDepth 100000 in
set_option maxHeartbeats 2000000 in
theorem law7 (a b m : Int) (w : World) : Calls Try.prog 7 #[.int .i64 a, .int .i64 b, .int .i64 m] w fun e w' => e = .returned (.bool true) ∧ Below w.heap.size w w' := by
  have b1 := (Pl.drift_bd a m).1
  have b2 : a ≤ b → ¬ Pl.drift b m < Pl.drift a m := fun h => by have := Pl.drift_mono m h; omega
  have d1 := (Pl.drift_bd a m).2
  have d2 := (Pl.drift_bd b m).1
  have d3 := (Pl.drift_bd b m).2
  have d4 := (Pl.drift_bd (a + b) m).1
  have d5 := (Pl.drift_bd (a + b) m).2
  have H := Lib.hid (Pl.drift_add (a := a) (b := b) m)
  by_cases hab : a ≤ b
  all_goals
    first | (have b3 := b2 hab; clear b2) | clear b2
    go_enter Try.func7, Try.ntmps7
    go_wp2_with (first | (go_at_call 27; refine (tick_nil _ _).mono ?_; rintro e w' ⟨rfl, rfl⟩) | (go_at_call 33; refine (real_nil _).mono ?_; rintro e w' ⟨rfl, rfl⟩) | (go_at_call 31; refine (read_nil _ _).mono ?_; rintro e w' ⟨rfl, rfl⟩) | (go_at_call 35; refine (apart_nil _ _).mono ?_; rintro e w' ⟨rfl, rfl⟩) | (go_at_call 29; refine (rate_nil _ _ _).mono ?_; rintro e w' ⟨rfl, rfl⟩) | (go_at_call 37; refine (drift_c _ _ _).mono ?_; rintro e w' ⟨rfl, rfl⟩) | (go_at_call 38; refine (rdrift_c _ _ _).mono ?_; rintro e w' ⟨rfl, rfl⟩) | (go_at_call 26; refine (cawake_b (Below.refl _ _)).mono ?_; rintro e w1 ⟨rfl, hb1⟩))
    all_goals
      first
      | (go_ret; exact ⟨rfl, hb1⟩)
      | (exfalso; have := H.out (by omega) (by omega) (by omega) (by omega); omega)
end Go.Proofs.Ytgpeekmagckgcaa
