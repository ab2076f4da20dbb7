/- What is proved here: the walks of TickBack, TickRatio and TickTells. Condition: none. -/
import Derived.Test.YthmglahcampllaaTn
namespace Go.Proofs.Ythmglahcampllaa
open Go Go.RowKit

set_option maxRecDepth 20000 in
set_option maxHeartbeats 2000000 in
theorem law11 (a b c : Int) (W : World) : Calls Try.prog 11 #[.int .i64 a, .int .i64 b, .int .i64 c] W fun e W' => e = .returned (.bool true) ∧ Below W.heap.size W W' := by
  have hb0 := Below.refl W.heap.size W
  go_enter Try.func11, Try.ntmps11
  go_wp2_with (first | (go_at_call 27; refine (add_b _ _ (by assumption)).mono ?_; rintro e w' ⟨rfl, _⟩) | (go_at_call 29; refine (sub_b _ _ (by assumption)).mono ?_; rintro e w' ⟨rfl, _⟩) | (go_at_call 28; refine (mul_b _ _ (by assumption)).mono ?_; rintro e w' ⟨rfl, _⟩) | (go_at_call 30; refine (neg_b _ (by assumption)).mono ?_; rintro e w' ⟨rfl, _⟩) | (go_at_call 31; refine (scale_b _ _ _ (by assumption)).mono ?_; rintro e w' ⟨rfl, _⟩) | (go_at_call 43; refine (radd _ _ _).mono ?_; rintro e w' ⟨rfl, rfl⟩) | (go_at_call 44; refine (rsub _ _ _).mono ?_; rintro e w' ⟨rfl, rfl⟩) | (go_at_call 45; refine (rmul _ _ _).mono ?_; rintro e w' ⟨rfl, rfl⟩) | (go_at_call 46; refine (rneg _ _).mono ?_; rintro e w' ⟨rfl, rfl⟩) | (go_at_call 47; refine (rscale _ _ _ _).mono ?_; rintro e w' ⟨rfl, rfl⟩) | (go_at_call 48; refine (tclamp _ _).mono ?_; rintro e w' ⟨rfl, rfl⟩) | (go_at_call 49; refine (rclamp _ _).mono ?_; rintro e w' ⟨rfl, rfl⟩) | (go_at_call 17; refine (awake_b (by assumption)).mono ?_; rintro e w' ⟨rfl, _⟩))
  go_ret
  exact ⟨rfl, by assumption⟩

set_option maxRecDepth 20000 in
set_option maxHeartbeats 2000000 in
theorem law8_00 (a b : Int) (W : World) (hr1 : Pl.addR a b = (0, 11)) (hr2 : Pl.mulR a b = (0, 11)) (hr3 : Pl.mulR b a = (0, 11)) :
    Calls Try.prog 8 #[.int .i64 a, .int .i64 b] W fun e W' => e = .returned (.bool true) ∧ Below W.heap.size W W' := by
  have hb0 := Below.refl W.heap.size W
  skip
  go_enter Try.func8, Try.ntmps8
  go_wp2_with (first | (go_at_call 27; refine (add_b _ _ (by assumption)).mono ?_; rw [hr1]; rintro e w' ⟨rfl, _⟩) | (go_at_call 28; refine (mul_b _ _ (by assumption)).mono ?_; rw [hr2]; rintro e w' ⟨rfl, _⟩) | (go_at_call 28; refine (mul_b _ _ (by assumption)).mono ?_; rw [hr3]; rintro e w' ⟨rfl, _⟩) | (go_at_call 17; refine (awake_b (by assumption)).mono ?_; rintro e w' ⟨rfl, _⟩))
  go_ret
  exact ⟨rfl, by assumption⟩

set_option maxRecDepth 20000 in
set_option maxHeartbeats 2000000 in
theorem law8_01 (a b : Int) (W : World) (s1 : -1125899906842624 ≤ a + b) (s2 : a + b ≤ 1125899906842624) (hr4 : Pl.subR (a + b) b = (a, 0)) (hr5 : Pl.negR b = (-b, 0)) (hr6 : Pl.addR (a + b) (-b) = (a, 0)) (hr1 : Pl.addR a b = (a + b, 0)) (hr2 : Pl.mulR a b = (0, 11)) (hr3 : Pl.mulR b a = (0, 11)) :
    Calls Try.prog 8 #[.int .i64 a, .int .i64 b] W fun e W' => e = .returned (.bool true) ∧ Below W.heap.size W W' := by
  have hb0 := Below.refl W.heap.size W
  skip
  go_enter Try.func8, Try.ntmps8
  go_wp2_with (first | (go_at_call 27; refine (add_b _ _ (by assumption)).mono ?_; rw [hr1]; rintro e w' ⟨rfl, _⟩) | (go_at_call 28; refine (mul_b _ _ (by assumption)).mono ?_; rw [hr2]; rintro e w' ⟨rfl, _⟩) | (go_at_call 28; refine (mul_b _ _ (by assumption)).mono ?_; rw [hr3]; rintro e w' ⟨rfl, _⟩) | (go_at_call 29; refine (sub_b _ _ (by assumption)).mono ?_; rw [hr4]; rintro e w' ⟨rfl, _⟩) | (go_at_call 30; refine (neg_b _ (by assumption)).mono ?_; rw [hr5]; rintro e w' ⟨rfl, _⟩) | (go_at_call 27; refine (add_b _ _ (by assumption)).mono ?_; rw [hr6]; rintro e w' ⟨rfl, _⟩) | (go_at_call 17; refine (awake_b (by assumption)).mono ?_; rintro e w' ⟨rfl, _⟩))
  go_ret
  exact ⟨rfl, by assumption⟩

set_option maxRecDepth 20000 in
set_option maxHeartbeats 2000000 in
theorem law8_10 (a b : Int) (W : World) (m1 : -1125899906842624 ≤ a * b) (m2 : a * b ≤ 1125899906842624) (hr1 : Pl.addR a b = (0, 11)) (hr2 : Pl.mulR a b = (a * b, 0)) (hr3 : Pl.mulR b a = (a * b, 0)) :
    Calls Try.prog 8 #[.int .i64 a, .int .i64 b] W fun e W' => e = .returned (.bool true) ∧ Below W.heap.size W W' := by
  have hb0 := Below.refl W.heap.size W
  generalize a * b = p at *
  go_enter Try.func8, Try.ntmps8
  go_wp2_with (first | (go_at_call 27; refine (add_b _ _ (by assumption)).mono ?_; rw [hr1]; rintro e w' ⟨rfl, _⟩) | (go_at_call 28; refine (mul_b _ _ (by assumption)).mono ?_; rw [hr2]; rintro e w' ⟨rfl, _⟩) | (go_at_call 28; refine (mul_b _ _ (by assumption)).mono ?_; rw [hr3]; rintro e w' ⟨rfl, _⟩) | (go_at_call 17; refine (awake_b (by assumption)).mono ?_; rintro e w' ⟨rfl, _⟩))
  go_ret
  exact ⟨rfl, by assumption⟩

set_option maxRecDepth 20000 in
set_option maxHeartbeats 2000000 in
theorem law8_11 (a b : Int) (W : World) (m1 : -1125899906842624 ≤ a * b) (m2 : a * b ≤ 1125899906842624) (s1 : -1125899906842624 ≤ a + b) (s2 : a + b ≤ 1125899906842624) (hr4 : Pl.subR (a + b) b = (a, 0)) (hr5 : Pl.negR b = (-b, 0)) (hr6 : Pl.addR (a + b) (-b) = (a, 0)) (hr1 : Pl.addR a b = (a + b, 0)) (hr2 : Pl.mulR a b = (a * b, 0)) (hr3 : Pl.mulR b a = (a * b, 0)) :
    Calls Try.prog 8 #[.int .i64 a, .int .i64 b] W fun e W' => e = .returned (.bool true) ∧ Below W.heap.size W W' := by
  have hb0 := Below.refl W.heap.size W
  generalize a * b = p at *
  go_enter Try.func8, Try.ntmps8
  go_wp2_with (first | (go_at_call 27; refine (add_b _ _ (by assumption)).mono ?_; rw [hr1]; rintro e w' ⟨rfl, _⟩) | (go_at_call 28; refine (mul_b _ _ (by assumption)).mono ?_; rw [hr2]; rintro e w' ⟨rfl, _⟩) | (go_at_call 28; refine (mul_b _ _ (by assumption)).mono ?_; rw [hr3]; rintro e w' ⟨rfl, _⟩) | (go_at_call 29; refine (sub_b _ _ (by assumption)).mono ?_; rw [hr4]; rintro e w' ⟨rfl, _⟩) | (go_at_call 30; refine (neg_b _ (by assumption)).mono ?_; rw [hr5]; rintro e w' ⟨rfl, _⟩) | (go_at_call 27; refine (add_b _ _ (by assumption)).mono ?_; rw [hr6]; rintro e w' ⟨rfl, _⟩) | (go_at_call 17; refine (awake_b (by assumption)).mono ?_; rintro e w' ⟨rfl, _⟩))
  go_ret
  exact ⟨rfl, by assumption⟩

theorem mulR_comm (a b : Int) : Pl.mulR b a = Pl.mulR a b := by
  unfold Pl.mulR
  rw [Int.mul_comm b a]
  by_cases h : Pl.tm a = true <;> by_cases h2 : Pl.tm b = true <;> simp [h, h2]

theorem law8 (a b : Int) (W : World) : Calls Try.prog 8 #[.int .i64 a, .int .i64 b] W fun e W' => e = .returned (.bool true) ∧ Below W.heap.size W W' := by
  have hm : Pl.mulR a b = (0, 11) ∨ (Pl.mulR a b = (a * b, 0) ∧ Pl.tm (a * b) = true) := by
    unfold Pl.mulR
    by_cases h : Pl.tm a = true ∧ Pl.tm b = true ∧ Pl.tm (a * b) = true
    · exact .inr ⟨if_pos h, h.2.2⟩
    · exact .inl (if_neg h)
  have ha : Pl.addR a b = (0, 11) ∨ (Pl.addR a b = (a + b, 0) ∧ Pl.tm a = true ∧ Pl.tm b = true ∧ Pl.tm (a + b) = true) := by
    unfold Pl.addR
    by_cases h : Pl.tm a = true ∧ Pl.tm b = true ∧ Pl.tm (a + b) = true
    · exact .inr ⟨if_pos h, h⟩
    · exact .inl (if_neg h)
  rcases ha with ha | ⟨ha, h1, h2, h3⟩
  · rcases hm with hm | ⟨hm, hp⟩
    · exact law8_00 a b W ha hm ((mulR_comm a b).trans hm)
    · have bp := Pl.tm_true.1 hp
      exact law8_10 a b W bp.1 bp.2 ha hm ((mulR_comm a b).trans hm)
  · have b2 := Pl.tm_true.1 h2
    have b3 := Pl.tm_true.1 h3
    have hn : Pl.tm (-b) = true := Pl.tm_true.2 (by omega)
    have e1 : a + b - b = a := by omega
    have e2 : a + b + -b = a := by omega
    have r4 : Pl.subR (a + b) b = (a, 0) := by simp [Pl.subR, h1, h2, h3, e1]
    have r5 : Pl.negR b = (-b, 0) := by simp [Pl.negR, h2]
    have r6 : Pl.addR (a + b) (-b) = (a, 0) := by simp [Pl.addR, h1, hn, h3, e2]
    rcases hm with hm | ⟨hm, hp⟩
    · exact law8_01 a b W b3.1 b3.2 r4 r5 r6 ha hm ((mulR_comm a b).trans hm)
    · have bp := Pl.tm_true.1 hp
      exact law8_11 a b W bp.1 bp.2 b3.1 b3.2 r4 r5 r6 ha hm ((mulR_comm a b).trans hm)

set_option maxRecDepth 20000 in
set_option maxHeartbeats 2000000 in
theorem law9_2 (t n d : Int) (W : World) (hr : Pl.scaleR t n d = (0, 2)) :
    Calls Try.prog 9 #[.int .i64 t, .int .i64 n, .int .i64 d] W fun e W' => e = .returned (.bool true) ∧ Below W.heap.size W W' := by
  have hb0 := Below.refl W.heap.size W
  go_enter Try.func9, Try.ntmps9
  go_wp2_with (first | (go_at_call 31; refine (scale_b _ _ _ (by assumption)).mono ?_; rw [hr]; rintro e w' ⟨rfl, _⟩) | (go_at_call 17; refine (awake_b (by assumption)).mono ?_; rintro e w' ⟨rfl, _⟩))
  go_ret
  exact ⟨rfl, by assumption⟩

set_option maxRecDepth 20000 in
set_option maxHeartbeats 2000000 in
theorem law9_11 (t n d : Int) (W : World) (hr : Pl.scaleR t n d = (0, 11)) :
    Calls Try.prog 9 #[.int .i64 t, .int .i64 n, .int .i64 d] W fun e W' => e = .returned (.bool true) ∧ Below W.heap.size W W' := by
  have hb0 := Below.refl W.heap.size W
  go_enter Try.func9, Try.ntmps9
  go_wp2_with (first | (go_at_call 31; refine (scale_b _ _ _ (by assumption)).mono ?_; rw [hr]; rintro e w' ⟨rfl, _⟩) | (go_at_call 17; refine (awake_b (by assumption)).mono ?_; rintro e w' ⟨rfl, _⟩))
  go_ret
  exact ⟨rfl, by assumption⟩

set_option maxRecDepth 20000 in
set_option maxHeartbeats 2000000 in
theorem law9_0 (t n d q p : Int) (W : World) (hr : Pl.scaleR t n d = (q, 0)) (hp : t * n = p) (h1 : q * d ≤ p) (h2 : p < q * d + d) (p1 : -4611686018427387904 ≤ p) (p2 : p ≤ 4611686018427387904) (d1 : 1 ≤ d) (d2 : d ≤ 4096) :
    Calls Try.prog 9 #[.int .i64 t, .int .i64 n, .int .i64 d] W fun e W' => e = .returned (.bool true) ∧ Below W.heap.size W W' := by
  have hb0 := Below.refl W.heap.size W
  have w1 : IntKind.i64.wrap (q * d) = q * d := wrap_of (by omega) (by omega)
  have w2 : IntKind.i64.wrap (t * n) = t * n := wrap_of (by omega) (by omega)
  have w3 : IntKind.i64.wrap (q * d + d) = q * d + d := wrap_of (by omega) (by omega)
  have t1 : decide (q * d ≤ t * n) = true := by rw [hp]; simpa using h1
  have t2 : decide (t * n < q * d + d) = true := by rw [hp]; simpa using h2
  clear h1 h2 p1 p2 d1 d2 hp
  go_enter Try.func9, Try.ntmps9
  go_wp2_with (first | (go_at_call 31; refine (scale_b _ _ _ (by assumption)).mono ?_; rw [hr]; rintro e w' ⟨rfl, _⟩) | (go_at_call 17; refine (awake_b (by assumption)).mono ?_; rintro e w' ⟨rfl, _⟩))
  go_ret
  exact ⟨rfl, by assumption⟩

theorem law9 (t n d : Int) (W : World) :
    Calls Try.prog 9 #[.int .i64 t, .int .i64 n, .int .i64 d] W fun e W' => e = .returned (.bool true) ∧ Below W.heap.size W W' := by
  by_cases hg : n < -4096 ∨ 4096 < n ∨ d < 1 ∨ 4096 < d
  · exact law9_2 t n d W (by unfold Pl.scaleR; rw [if_pos hg])
  by_cases ht : Pl.tm t = true ∧ Pl.tm (t * n / d) = true
  · have bt := Pl.tm_true.1 ht.1
    have hm := Pl.mul_bd (A := 1125899906842624) (B := 4096) (a := t) (b := n) (by omega) bt.1 bt.2 (by omega) (by omega)
    have hf := Pl.floor_mul (t * n) d (by omega)
    exact law9_0 t n d (t * n / d) (t * n) W (by unfold Pl.scaleR; rw [if_neg hg, if_pos ht]) rfl hf.1 hf.2 (by omega) (by omega) (by omega) (by omega)
  · exact law9_11 t n d W (by unfold Pl.scaleR; rw [if_neg hg, if_neg ht])
end Go.Proofs.Ythmglahcampllaa
