/- What is proved here: what the document's functions of layer 1 answer. Condition: none. -/
import Derived.Test.YthmglahcampllaaPt
import Derived.Test.YthmglahcampllaaTw
namespace Go.Proofs.Ythmglahcampllaa
open Go Go.RowKit

theorem wrap_of {e : Int} (h1 : -9223372036854775808 ≤ e) (h2 : e ≤ 9223372036854775807) : IntKind.i64.wrap e = e := IntWalk.i64_in _ (by omega)

set_option maxHeartbeats 400000 in
theorem rtime (n : Int) (w : World) : Calls Try.prog 57 #[.int .i64 n] w fun e w' => e = .returned (.bool (Pl.tm n)) ∧ w = w' := by
  go_enter Try.func57, Try.ntmps57
  by_cases h1 : -1125899906842624 ≤ n
  · by_cases h2 : n ≤ 1125899906842624
    · have ht : Pl.tm n = true := Pl.tm_true.2 ⟨h1, h2⟩
      go_wp2
      go_ret
      exact ⟨by first | rfl | (rw [ht]; rfl), rfl⟩
    · have ht : Pl.tm n = false := Pl.tm_false.2 (.inr (by omega))
      go_wp2
      go_ret
      exact ⟨by first | rfl | (rw [ht]; rfl), rfl⟩
  · have ht : Pl.tm n = false := Pl.tm_false.2 (.inl (by omega))
    go_wp2
    go_ret
    exact ⟨by first | rfl | (rw [ht]; rfl), rfl⟩

set_option maxHeartbeats 400000 in
theorem radd (a b : Int) (w : World) : Calls Try.prog 43 #[.int .i64 a, .int .i64 b] w fun e w' => e = .returned (.tuple #[.int .i64 (Pl.addR a b).1, .int .i64 (Pl.addR a b).2]) ∧ w = w' := by
  cases h1 : Pl.tm a with
  | false =>
    have hr : Pl.addR a b = (0, 11) := by simp [Pl.addR, h1]
    rw [hr]
    go_enter Try.func43, Try.ntmps43
    go_wp2_with (go_at_call 57; refine (rtime _ _).mono ?_; rintro e w' ⟨rfl, rfl⟩)
    go_returns
    exact ⟨rfl, rfl⟩
  | true =>
    cases h2 : Pl.tm b with
    | false =>
      have hr : Pl.addR a b = (0, 11) := by simp [Pl.addR, h2]
      rw [hr]
      go_enter Try.func43, Try.ntmps43
      go_wp2_with (go_at_call 57; refine (rtime _ _).mono ?_; rintro e w' ⟨rfl, rfl⟩)
      go_returns
      exact ⟨rfl, rfl⟩
    | true =>
      have b1 := Pl.tm_true.1 h1
      have b2 := Pl.tm_true.1 h2
      have hw : IntKind.i64.wrap (a + b) = a + b := wrap_of (by omega) (by omega)
      cases h3 : Pl.tm (a + b) with
      | false =>
        have hr : Pl.addR a b = (0, 11) := by simp [Pl.addR, h3]
        rw [hr]
        go_enter Try.func43, Try.ntmps43
        go_wp2_with (go_at_call 57; refine (rtime _ _).mono ?_; rintro e w' ⟨rfl, rfl⟩)
        go_returns
        exact ⟨rfl, rfl⟩
      | true =>
        have hr : Pl.addR a b = (a + b, 0) := by simp [Pl.addR, h1, h2, h3]
        rw [hr]
        go_enter Try.func43, Try.ntmps43
        go_wp2_with (go_at_call 57; refine (rtime _ _).mono ?_; rintro e w' ⟨rfl, rfl⟩)
        go_returns
        exact ⟨rfl, rfl⟩

set_option maxHeartbeats 400000 in
theorem rneg (a : Int) (w : World) : Calls Try.prog 46 #[.int .i64 a] w fun e w' => e = .returned (.tuple #[.int .i64 (Pl.negR a).1, .int .i64 (Pl.negR a).2]) ∧ w = w' := by
  cases h1 : Pl.tm a with
  | false =>
    have hr : Pl.negR a = (0, 11) := by simp [Pl.negR, h1]
    rw [hr]
    go_enter Try.func46, Try.ntmps46
    go_wp2_with (go_at_call 57; refine (rtime _ _).mono ?_; rintro e w' ⟨rfl, rfl⟩)
    go_returns
    exact ⟨rfl, rfl⟩
  | true =>
    have b1 := Pl.tm_true.1 h1
    have hr : Pl.negR a = (-a, 0) := by simp [Pl.negR, h1]
    rw [hr]
    go_enter Try.func46, Try.ntmps46
    go_wp2_with (go_at_call 57; refine (rtime _ _).mono ?_; rintro e w' ⟨rfl, rfl⟩)
    go_returns
    exact ⟨rfl, rfl⟩

set_option maxHeartbeats 400000 in
theorem rsub (a b : Int) (w : World) : Calls Try.prog 44 #[.int .i64 a, .int .i64 b] w fun e w' => e = .returned (.tuple #[.int .i64 (Pl.subR a b).1, .int .i64 (Pl.subR a b).2]) ∧ w = w' := by
  cases h1 : Pl.tm b with
  | false =>
    have hr : Pl.subR a b = (0, 11) := by simp [Pl.subR, h1]
    have hn : Pl.negR b = (0, 11) := by simp [Pl.negR, h1]
    rw [hr]
    go_enter Try.func44, Try.ntmps44
    go_wp2_with (go_at_call 46; refine (rneg _ _).mono ?_; rw [hn]; rintro e w' ⟨rfl, rfl⟩)
    go_returns
    exact ⟨rfl, rfl⟩
  | true =>
    have b1 := Pl.tm_true.1 h1
    have hn : Pl.negR b = (-b, 0) := by simp [Pl.negR, h1]
    have hm : Pl.tm (-b) = true := Pl.tm_true.2 (by omega)
    have hr : Pl.addR a (-b) = Pl.subR a b := by simp [Pl.subR, Pl.addR, h1, hm, Int.sub_eq_add_neg]
    go_enter Try.func44, Try.ntmps44
    go_wp2_with (first | (go_at_call 46; refine (rneg _ _).mono ?_; rw [hn]; rintro e w' ⟨rfl, rfl⟩) | (go_at_call 43; refine (radd _ _ _).mono ?_; rw [hr]; rintro e w' ⟨rfl, rfl⟩))
    go_returns
    exact ⟨rfl, rfl⟩

set_option maxHeartbeats 400000 in
theorem rfloor (p d : Int) (w : World) (hd1 : 1 ≤ d) (hd2 : d ≤ 4096) (hp1 : -4611686018427387904 ≤ p) (hp2 : p ≤ 4611686018427387904) : Calls Try.prog 82 #[.int .i64 p, .int .i64 d] w fun e w' => e = .returned (.int .i64 (p / d)) ∧ w = w' := by
  have hf := Pl.floor_ref p d (by omega)
  have h1 := Pl.tdiv_bd hd1 ⟨hp1, hp2⟩
  have h2 := Pl.tdivmul_bd (d := d) ⟨hp1, hp2⟩
  have w1 : IntKind.i64.wrap (p.tdiv d) = p.tdiv d := wrap_of (by omega) (by omega)
  have w2 : IntKind.i64.wrap (p.tdiv d * d) = p.tdiv d * d := wrap_of (by omega) (by omega)
  by_cases hc : p.tdiv d * d > p
  · have e := hf.1 hc
    rw [← e]
    clear hf e
    go_enter Try.func82, Try.ntmps82
    go_wp2
    go_ret
    exact ⟨rfl, rfl⟩
  · have e := hf.2 hc
    rw [← e]
    clear hf e
    go_enter Try.func82, Try.ntmps82
    go_wp2
    go_ret
    exact ⟨rfl, rfl⟩

set_option maxHeartbeats 400000 in
theorem rclamp (n : Int) (w : World) : Calls Try.prog 49 #[.int .i64 n] w fun e w' => e = .returned (.int .i64 (Pl.clampR n)) ∧ w = w' := by
  by_cases h1 : n < -1125899906842624
  · have hr : Pl.clampR n = -1125899906842624 := by simp [Pl.clampR, h1]
    rw [hr]
    go_enter Try.func49, Try.ntmps49
    go_wp2
    go_ret
    exact ⟨rfl, rfl⟩
  · by_cases h2 : 1125899906842624 < n
    · have hr : Pl.clampR n = 1125899906842624 := by simp [Pl.clampR, h1, h2]
      rw [hr]
      go_enter Try.func49, Try.ntmps49
      go_wp2
      go_ret
      exact ⟨rfl, rfl⟩
    · have hr : Pl.clampR n = n := by simp [Pl.clampR, h1, h2]
      rw [hr]
      go_enter Try.func49, Try.ntmps49
      go_wp2
      go_ret
      exact ⟨rfl, rfl⟩

set_option maxHeartbeats 400000 in
theorem tclamp (n : Int) (w : World) : Calls Try.prog 48 #[.int .i64 n] w fun e w' => e = .returned (.int .i64 (Pl.clampR n)) ∧ w = w' := by
  by_cases h1 : n < -1125899906842624
  · have hr : Pl.clampR n = -1125899906842624 := by simp [Pl.clampR, h1]
    rw [hr]
    go_enter Try.func48, Try.ntmps48
    go_wp2
    all_goals first | (exfalso; omega) | (go_ret; exact ⟨rfl, rfl⟩)
  · by_cases h2 : 1125899906842624 < n
    · have hr : Pl.clampR n = 1125899906842624 := by simp [Pl.clampR, h1, h2]
      rw [hr]
      go_enter Try.func48, Try.ntmps48
      go_wp2
      all_goals first | (exfalso; omega) | (go_ret; exact ⟨rfl, rfl⟩)
    · have hr : Pl.clampR n = n := by simp [Pl.clampR, h1, h2]
      rw [hr]
      go_enter Try.func48, Try.ntmps48
      go_wp2
      all_goals first | (exfalso; omega) | (go_ret; exact ⟨rfl, rfl⟩)
end Go.Proofs.Ythmglahcampllaa
