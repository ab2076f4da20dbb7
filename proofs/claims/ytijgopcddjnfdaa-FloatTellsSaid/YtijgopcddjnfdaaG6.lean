/- What is proved here: the walk of FloatTells. Condition: none. -/
import Derived.Test.YtijgopcddjnfdaaH1
namespace Go.Proofs.Ytijgopcddjnfdaa
open Go Go.RowKit
attribute [local go_sem ↓] run_frombits run_bits lfrombits_one lfrombits_inf lfrombits_ninf

namespace Fl
theorem plusF_or (x y : Nat) : ((cadd x y : Int) == 9223372036854775808) = true ∧ plusF x y = 0 ∨ ((cadd x y : Int) == 9223372036854775808) = false ∧ plusF x y = cadd x y := by
  have hw := cadd_w x y
  have hc := cadd_clean x y
  unfold plusF
  generalize cadd x y = s at *
  by_cases h : s = 9223372036854775808
  · left
    refine ⟨by rw [beq_iff_eq]; omega, ?_⟩
    rw [h]
    rfl
  · right
    refine ⟨by rw [beq_eq_false_iff_ne]; omega, ?_⟩
    by_cases hz : (FloatKind.f64.format.order s 0 == some Ordering.eq) = true
    · rw [if_pos hz]
      have h2 := ((eq_iff hw w_zero).1 hz).2.2
      rw [pl_zero] at h2
      rcases pl_eq s with ⟨h3, e⟩ | ⟨h3, e⟩ <;> omega
    · rw [if_neg hz]
theorem plusF_w (x y : Nat) : W64 (plusF x y) := by
  rcases plusF_or x y with ⟨_, e⟩ | ⟨_, e⟩ <;> rw [e]
  · exact w_zero
  · exact cadd_w x y
theorem plusF_clean (x y : Nat) : clean (plusF x y) = plusF x y := by
  rcases plusF_or x y with ⟨_, e⟩ | ⟨_, e⟩ <;> rw [e]
  · rfl
  · exact cadd_clean x y
end Fl
set_option maxRecDepth 100000 in
set_option maxHeartbeats 2000000 in
theorem law6 (a b : Nat) (W : World) (ha : Fl.W64 a) (hb : Fl.W64 b) : Calls Try.prog 6 #[.int .u64 (a : Int), .int .u64 (b : Int)] W fun e W' => e = .returned (.bool true) ∧ Below W.heap.size W W' := by
  obtain ⟨r, n, hr, hw, hc⟩ := run_fadd a b W
  have R := Lib.hid (rclean_w r)
  rw [hc] at R
  have P := Lib.hid (plus_c a b)
  have PB := Lib.hid (bits_w _ (Fl.plusF_w a b))
  rw [Fl.plusF_clean] at PB
  have K := Lib.hid (class_w a ha)
  have K' := Lib.hid (rclass_w a)
  have B := Lib.hid (bits_w a ha)
  have C := Lib.hid (rclean_w a)
  have O := Lib.hid (of_w a ha)
  have BC := Lib.hid (bits_w (Fl.clean a) (Fl.clean_w ha))
  rw [Fl.clean_clean] at BC
  have CL := Lib.hid (clean_w a ha)
  have M := Lib.hid (compare_w a b ha hb)
  have M' : Hid (∀ w : World, Calls Try.prog 27 #[.int .u64 (a : Int), .int .u64 (b : Int)] w fun e w' => e = .returned (.int .i64 (Fl.cmpW a b)) ∧ w = w') := Lib.hid (fun w => rcompare_c a b w)
  have Q := Lib.hid (cost_w a ha)
  have Q' := Lib.hid (rcost_w a)
  have D := Lib.hid (code_c a ha)
  have D' := Lib.hid (rcode_c a ha)
  have hor := Fl.plusF_or a b
  clear hc hw ha hb
  generalize Fl.code (Fl.clean a) = cd at *
  generalize Fl.cadd a b = s at *
  generalize Fl.plusF a b = p at *
  generalize Fl.clean a = ca at *
  rcases hor with ⟨h1, h2⟩ | ⟨h1, h2⟩
  all_goals
    subst h2
    go_enter Try.func6, Try.ntmps6
    go_wp2_with (first | (go_at_call 12; refine (raw_c _ _).mono ?_; rintro e w' ⟨rfl, rfl⟩) | (go_at_call 14; ((with_reducible refine (R.out _).mono ?_)); rintro e w' ⟨rfl, rfl⟩) | (go_at_call 14; ((with_reducible refine (C.out _).mono ?_)); rintro e w' ⟨rfl, rfl⟩) | (go_at_call 21; ((with_reducible refine (P.out _).mono ?_)); rintro e w' ⟨rfl, n1, rfl⟩) | (go_at_call 18; ((with_reducible refine (PB.out _).mono ?_)); rintro e w' ⟨rfl, rfl⟩) | (go_at_call 18; ((with_reducible refine (B.out _).mono ?_)); rintro e w' ⟨rfl, rfl⟩) | (go_at_call 18; ((with_reducible refine (BC.out _).mono ?_)); rintro e w' ⟨rfl, rfl⟩) | (go_at_call 23; ((with_reducible refine (K.out _).mono ?_)); rintro e w' ⟨rfl, rfl⟩) | (go_at_call 19; ((with_reducible refine (K'.out _).mono ?_)); rintro e w' ⟨rfl, rfl⟩) | (go_at_call 25; ((with_reducible refine (O.out _).mono ?_)); rintro e w' ⟨rfl, rfl⟩) | (go_at_call 26; ((with_reducible refine (CL.out _).mono ?_)); rintro e w' ⟨rfl, rfl⟩) | (go_at_call 13; ((with_reducible refine (M.out _).mono ?_)); rintro e w' ⟨rfl, rfl⟩) | (go_at_call 27; ((with_reducible refine (M'.out _).mono ?_)); rintro e w' ⟨rfl, rfl⟩) | (go_at_call 22; ((with_reducible refine (Q.out _).mono ?_)); rintro e w' ⟨rfl, rfl⟩) | (go_at_call 20; ((with_reducible refine (Q'.out _).mono ?_)); rintro e w' ⟨rfl, rfl⟩) | (go_at_call 28; ((with_reducible refine (D.out _).mono ?_)); rintro e w3 ⟨rfl, hb3⟩; have hb4 := bon (below_drewN (Below.refl _ _) _) hb3; clear hb3) | (go_at_call 29; ((with_reducible refine (D'.out _).mono ?_)); rintro e w5 ⟨rfl, hb5⟩; have hb6 := bon hb4 hb5; clear hb5) | (go_at_call 15; refine (fawake_b hb6).mono ?_; rintro e w' ⟨rfl, hb9⟩))
    go_ret
    exact ⟨rfl, hb9⟩
end Go.Proofs.Ytijgopcddjnfdaa
