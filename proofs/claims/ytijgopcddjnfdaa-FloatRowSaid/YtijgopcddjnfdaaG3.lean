/- What is proved here: the walk of FloatRow. Condition: none. -/
import Derived.Test.YtijgopcddjnfdaaFd
namespace Go.Proofs.Ytijgopcddjnfdaa
open Go Go.RowKit

namespace Fl
theorem cmpW_bd (a b : Nat) : -1 ≤ cmpW a b ∧ cmpW a b ≤ 1 := by unfold cmpW; omega
theorem cmpW_anti (a b : Nat) : cmpW b a = - cmpW a b := by unfold cmpW; omega
theorem cmpW_trans (a b c : Nat) (h1 : cmpW a b ≤ 0) (h2 : cmpW b c ≤ 0) : cmpW a c ≤ 0 := by unfold cmpW at *; omega
theorem cmpW_zero {a b : Nat} (ha : W64 a) (hb : W64 b) : ((clean a : Int) == (clean b : Int)) = (cmpW a b == 0) := by
  have ha' : a < 18446744073709551616 := ha
  have hb' : b < 18446744073709551616 := hb
  rw [Bool.eq_iff_iff, beq_iff_eq, beq_iff_eq]
  have e : cmpW a b = 0 ↔ (place a : Int) = place b := by unfold cmpW; omega
  rw [e]
  rcases clean_or a with ⟨h1, e1⟩ | ⟨h1, e1⟩ <;> rcases clean_or b with ⟨h2, e2⟩ | ⟨h2, e2⟩ <;> rw [e1, e2]
  · rw [place_nan ha h1, place_nan hb h2]; simp
  · have := nan_no.1 h2
    have := pl_bd hb h2
    rw [place_nan ha h1]
    unfold one
    rcases place_pl hb h2 with ⟨p1, p2⟩ | ⟨p1, p2⟩ <;> rw [p2] <;> omega
  · have := nan_no.1 h1
    have := pl_bd ha h1
    rw [place_nan hb h2]
    unfold one
    rcases place_pl ha h1 with ⟨p1, p2⟩ | ⟨p1, p2⟩ <;> rw [p2] <;> omega
  · have := nan_no.1 h1
    have := nan_no.1 h2
    rcases place_pl ha h1 with ⟨p1, p2⟩ | ⟨p1, p2⟩ <;> rcases place_pl hb h2 with ⟨q1, q2⟩ | ⟨q1, q2⟩ <;> rcases pl_eq a with ⟨r1, r2⟩ | ⟨r1, r2⟩ <;> rcases pl_eq b with ⟨s1, s2⟩ | ⟨s1, s2⟩ <;> rw [p2, q2] <;> omega
theorem lt_cmp {a b : Nat} (ha : W64 a) (hb : W64 b) : (FloatKind.f64.format.order a b == some Ordering.lt) = (decide (cmpW a b < 0) && (!((clean b : Int) == 9221120237041090561) && !(FloatKind.f64.format.order a b == some Ordering.eq))) := by
  have ha' : a < 18446744073709551616 := ha
  have hb' : b < 18446744073709551616 := hb
  have e : cmpW a b < 0 ↔ (place a : Int) < place b := by unfold cmpW; omega
  have eo : (FloatKind.f64.format.order a b == some Ordering.eq) = decide (nan a = false ∧ nan b = false ∧ pl a = pl b) := by
    rw [Bool.eq_iff_iff, eq_iff ha hb, decide_eq_true_eq]
  rw [eo, Bool.eq_iff_iff, lt_iff ha hb]
  simp only [Bool.and_eq_true, decide_eq_true_eq, Bool.not_eq_true', beq_eq_false_iff_ne, decide_eq_false_iff_not, ne_eq]
  rw [e]
  rcases clean_or a with ⟨h1, e1⟩ | ⟨h1, e1⟩ <;> rcases clean_or b with ⟨h2, e2⟩ | ⟨h2, e2⟩ <;> rw [h1, h2, e2]
  · simp [one]
  · have := pl_bd hb h2
    rw [place_nan ha h1]
    simp only [Bool.true_eq_false, false_and, not_false_eq_true, and_true, false_iff]
    rcases place_pl hb h2 with ⟨p1, p2⟩ | ⟨p1, p2⟩ <;> rw [p2] <;> omega
  · simp [one]
  · have := nan_no.1 h1
    have := nan_no.1 h2
    simp only [true_and]
    rcases place_pl ha h1 with ⟨p1, p2⟩ | ⟨p1, p2⟩ <;> rcases place_pl hb h2 with ⟨q1, q2⟩ | ⟨q1, q2⟩ <;> rcases pl_eq a with ⟨r1, r2⟩ | ⟨r1, r2⟩ <;> rcases pl_eq b with ⟨s1, s2⟩ | ⟨s1, s2⟩ <;> rw [p2, q2] <;> omega
end Fl
set_option maxRecDepth 100000 in
set_option maxHeartbeats 2000000 in
theorem law3 (a b c : Nat) (W : World) (ha : Fl.W64 a) (hb : Fl.W64 b) (hc : Fl.W64 c) : Calls Try.prog 3 #[.int .u64 (a : Int), .int .u64 (b : Int), .int .u64 (c : Int)] W fun e W' => e = .returned (.bool true) ∧ Below W.heap.size W W' := by
  have b1 := (Fl.cmpW_bd a b).1
  have b2 := (Fl.cmpW_bd a b).2
  have H1 := Lib.hid (compare_w a b ha hb)
  have H2 := Lib.hid (compare_w b c hb hc)
  have H3 := Lib.hid (compare_w a c ha hc)
  have H4 := Lib.hid (compare_w b a hb ha)
  rw [Fl.cmpW_anti a b] at H4
  have T := Lib.hid (Fl.cmpW_trans a b c)
  have hz := Fl.cmpW_zero ha hb
  have hL := Fl.lt_cmp ha hb
  have C1 := Lib.hid (rclean_w a)
  have C2 := Lib.hid (rclean_w b)
  clear ha hb hc
  generalize Fl.cmpW a b = xy at *
  generalize Fl.cmpW b c = yz at *
  generalize Fl.cmpW a c = xz at *
  have x1 : IntKind.i64.wrap (-xy) = -xy := IntWalk.i64_in _ (by omega)
  generalize Fl.clean a = ca at *
  generalize Fl.clean b = cb at *
  by_cases l : xy < 0
  · have dl : decide (xy < 0) = true := by simpa using l
    rw [dl, Bool.true_and] at hL
    cases E1 : ((cb : Int) == 9221120237041090561) <;> cases E2 : (FloatKind.f64.format.order a b == some Ordering.eq)
    all_goals
      rw [E1, E2] at hL
      simp only [Bool.not_true, Bool.not_false, Bool.and_false, Bool.and_true] at hL
      have E3 : ((cb : Int) != 9221120237041090561) = !((cb : Int) == 9221120237041090561) := rfl
      rw [E1] at E3
      go_enter Try.func3, Try.ntmps3
      go_wp2_with (first | (go_at_call 12; refine (raw_c _ _).mono ?_; rintro e w' ⟨rfl, rfl⟩) | (go_at_call 13; ((with_reducible refine (H1.out _).mono ?_)); rintro e w' ⟨rfl, rfl⟩) | (go_at_call 13; ((with_reducible refine (H2.out _).mono ?_)); rintro e w' ⟨rfl, rfl⟩) | (go_at_call 13; ((with_reducible refine (H3.out _).mono ?_)); rintro e w' ⟨rfl, rfl⟩) | (go_at_call 13; ((with_reducible refine (H4.out _).mono ?_)); rintro e w' ⟨rfl, rfl⟩) | (go_at_call 14; ((with_reducible refine (C1.out _).mono ?_)); rintro e w' ⟨rfl, rfl⟩) | (go_at_call 14; ((with_reducible refine (C2.out _).mono ?_)); rintro e w' ⟨rfl, rfl⟩) | (go_at_call 15; refine (fawake_b (Below.refl _ _)).mono ?_; rintro e w' ⟨rfl, hb1⟩))
      all_goals
        first
        | (go_ret; exact ⟨rfl, hb1⟩)
        | (go_ret; exact ⟨ret_bool (by simp; assumption), hb1⟩)
        | (exfalso; have := T.out (by omega) (by omega); omega)
  · have dl : decide (xy < 0) = false := by simpa using l
    rw [dl, Bool.false_and] at hL
    go_enter Try.func3, Try.ntmps3
    go_wp2_with (first | (go_at_call 12; refine (raw_c _ _).mono ?_; rintro e w' ⟨rfl, rfl⟩) | (go_at_call 13; ((with_reducible refine (H1.out _).mono ?_)); rintro e w' ⟨rfl, rfl⟩) | (go_at_call 13; ((with_reducible refine (H2.out _).mono ?_)); rintro e w' ⟨rfl, rfl⟩) | (go_at_call 13; ((with_reducible refine (H3.out _).mono ?_)); rintro e w' ⟨rfl, rfl⟩) | (go_at_call 13; ((with_reducible refine (H4.out _).mono ?_)); rintro e w' ⟨rfl, rfl⟩) | (go_at_call 14; ((with_reducible refine (C1.out _).mono ?_)); rintro e w' ⟨rfl, rfl⟩) | (go_at_call 14; ((with_reducible refine (C2.out _).mono ?_)); rintro e w' ⟨rfl, rfl⟩) | (go_at_call 15; refine (fawake_b (Below.refl _ _)).mono ?_; rintro e w' ⟨rfl, hb1⟩))
    all_goals
      first
      | (go_ret; exact ⟨rfl, hb1⟩)
      | (go_ret; exact ⟨ret_bool (by simp; assumption), hb1⟩)
      | (exfalso; have := T.out (by omega) (by omega); omega)
end Go.Proofs.Ytijgopcddjnfdaa
