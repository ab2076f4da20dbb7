/- What is proved here: the walk of FloatCosts. Condition: none. -/
import Derived.Test.YtijgopcddjnfdaaFd
namespace Go.Proofs.Ytijgopcddjnfdaa
open Go Go.RowKit

namespace Fl
theorem cost_w64 {x : Nat} (h : cost x = true) : W64 x := lt_of h
theorem cost_clean {x : Nat} (h : cost x = true) : clean x = x := by
  unfold clean
  rw [nan_cost h]
  rfl
theorem plus_rung (x y : Nat) : rung (plus x y) = plus x y := by
  have := plus_le x y
  unfold rung
  omega
theorem plus_pl (x y : Nat) : pl (plus x y) = (plus x y : Int) := by rw [pl_cost (plus_cost x y), plus_rung]
/-- The sum of two costs is that of their units. -/
theorem plusF_eq {x y : Nat} (hx : cost x = true) (hy : cost y = true) : plusF x y = plus x y := by
  obtain ⟨r, hr, h⟩ := add_cost hx hy
  have hcr : cost r = true := by
    rcases h with h | ⟨h, _⟩
    · rw [h]; exact plus_cost _ _
    · rw [h]; decide
  have ec : cadd x y = r := by unfold cadd; rw [hr]; exact cost_clean hcr
  unfold plusF
  rw [ec]
  rcases h with h | ⟨h, h0⟩
  · rw [h]
    by_cases hz : (FloatKind.f64.format.order (plus x y) 0 == some Ordering.eq) = true
    · have := (eq_iff (cost_w64 (plus_cost x y)) w_zero).1 hz
      rw [if_pos hz]
      have h2 := this.2.2
      rw [plus_pl, pl_zero] at h2
      omega
    · rw [if_neg hz]
  · rw [h, h0]
    rfl
theorem not_lt_l {x y : Nat} (hx : cost x = true) : (FloatKind.f64.format.order (plus x y) x == some Ordering.lt) = false := by
  cases e : (FloatKind.f64.format.order (plus x y) x == some Ordering.lt) with
  | false => rfl
  | true =>
    have h := ((lt_iff (cost_w64 (plus_cost x y)) (cost_w64 hx)).1 e).2.2
    rw [plus_pl, pl_cost hx] at h
    have := le_plus y hx
    omega
theorem not_lt_r {x y : Nat} (hy : cost y = true) : (FloatKind.f64.format.order (plus x y) y == some Ordering.lt) = false := by rw [plus_comm]; exact not_lt_l hy
theorem plus_cls (x y : Nat) : (cls (plus x y) == 3) = false := by
  rw [beq_eq_false_iff_ne]
  unfold cls
  rw [cost_clean (plus_cost x y)]
  have := plus_le x y
  unfold rcls
  repeat' split
  all_goals first | decide | omega
theorem le_of_le {s t : Nat} (hs : W64 s) (ht : W64 t) (h1 : nan s = false) (h2 : nan t = false) (h : pl s ≤ pl t) : (FloatKind.f64.format.order s t == some Ordering.lt || FloatKind.f64.format.order s t == some Ordering.eq) = true := by
  rw [Bool.or_eq_true, lt_iff hs ht, eq_iff hs ht]
  rcases Int.lt_or_eq_of_le h with h | h
  · exact .inl ⟨h1, h2, h⟩
  · exact .inr ⟨h1, h2, h⟩
theorem plus_le_plus {x y z : Nat} (hy : cost y = true) (hz : cost z = true) (h : (FloatKind.f64.format.order y z == some Ordering.gt) = false) :
    (FloatKind.f64.format.order (plus x y) (plus x z) == some Ordering.lt || FloatKind.f64.format.order (plus x y) (plus x z) == some Ordering.eq) = true := by
  refine le_of_le (cost_w64 (plus_cost _ _)) (cost_w64 (plus_cost _ _)) (nan_cost (plus_cost _ _)) (nan_cost (plus_cost _ _)) ?_
  rw [plus_pl, plus_pl]
  have hle : rung y ≤ rung z := by
    rcases Nat.lt_or_ge (rung z) (rung y) with h1 | h1
    · have := (gt_iff (cost_w64 hy) (cost_w64 hz)).2 ⟨nan_cost hy, nan_cost hz, by rw [pl_cost hy, pl_cost hz]; omega⟩
      rw [this] at h
      cases h
    · exact h1
  have := plus_mono (x := x) hz hle
  omega
end Fl
set_option maxRecDepth 100000 in
set_option maxHeartbeats 2000000 in
theorem law5 (a b c : Nat) (W : World) (_ : Fl.W64 a) (_ : Fl.W64 b) (_ : Fl.W64 c) : Calls Try.prog 5 #[.int .u64 (a : Int), .int .u64 (b : Int), .int .u64 (c : Int)] W fun e W' => e = .returned (.bool true) ∧ Below W.heap.size W W' := by
  cases qa : Fl.cost a with
  | false =>
    go_enter Try.func5, Try.ntmps5
    go_wp2_with (first | (go_at_call 12; refine (raw_c _ _).mono ?_; rintro e w' ⟨rfl, rfl⟩) | (go_at_call 20; refine (rcost_w _ _).mono ?_; rintro e w' ⟨rfl, rfl⟩) | (go_at_call 15; refine (fawake_b (Below.refl _ _)).mono ?_; rintro e w' ⟨rfl, hb9⟩))
    go_ret
    exact ⟨rfl, hb9⟩
  | true =>
  cases qb : Fl.cost b with
  | false =>
    go_enter Try.func5, Try.ntmps5
    go_wp2_with (first | (go_at_call 12; refine (raw_c _ _).mono ?_; rintro e w' ⟨rfl, rfl⟩) | (go_at_call 20; refine (rcost_w _ _).mono ?_; rintro e w' ⟨rfl, rfl⟩) | (go_at_call 15; refine (fawake_b (Below.refl _ _)).mono ?_; rintro e w' ⟨rfl, hb9⟩))
    go_ret
    exact ⟨rfl, hb9⟩
  | true =>
  cases qc : Fl.cost c with
  | false =>
    go_enter Try.func5, Try.ntmps5
    go_wp2_with (first | (go_at_call 12; refine (raw_c _ _).mono ?_; rintro e w' ⟨rfl, rfl⟩) | (go_at_call 20; refine (rcost_w _ _).mono ?_; rintro e w' ⟨rfl, rfl⟩) | (go_at_call 15; refine (fawake_b (Below.refl _ _)).mono ?_; rintro e w' ⟨rfl, hb9⟩))
    go_ret
    exact ⟨rfl, hb9⟩
  | true =>
  have P1 := Lib.hid (plus_c a b)
  have P2 := Lib.hid (plus_c b a)
  have P3 := Lib.hid (plus_c a c)
  rw [Fl.plusF_eq qa qb] at P1
  rw [Fl.plusF_eq qb qa, Fl.plus_comm] at P2
  rw [Fl.plusF_eq qa qc] at P3
  have C := Lib.hid (cost_w (Fl.plus a b) (Fl.cost_w64 (Fl.plus_cost _ _)))
  rw [Fl.plus_cost] at C
  have K := Lib.hid (class_w (Fl.plus a b) (Fl.cost_w64 (Fl.plus_cost _ _)))
  have B := Lib.hid (bits_w (Fl.plus a b) (Fl.cost_w64 (Fl.plus_cost _ _)))
  have l1 := Fl.not_lt_l (y := b) qa
  have l2 := Fl.not_lt_r (x := a) qb
  have k3 := Fl.plus_cls a b
  have L := Lib.hid (Fl.plus_le_plus (x := a) qb qc)
  generalize Fl.plus a b = s at *
  generalize Fl.plus a c = t at *
  cases g : (FloatKind.f64.format.order b c == some Ordering.gt)
  all_goals
    first | (have l4 := L.out g) | skip
    go_enter Try.func5, Try.ntmps5
    go_wp2_with (first | (go_at_call 12; refine (raw_c _ _).mono ?_; rintro e w' ⟨rfl, rfl⟩) | (go_at_call 20; refine (rcost_w _ _).mono ?_; rintro e w' ⟨rfl, rfl⟩) | (go_at_call 21; ((with_reducible refine (P1.out _).mono ?_)); rintro e w' ⟨rfl, n1, rfl⟩) | (go_at_call 21; ((with_reducible refine (P2.out _).mono ?_)); rintro e w' ⟨rfl, n2, rfl⟩) | (go_at_call 21; ((with_reducible refine (P3.out _).mono ?_)); rintro e w' ⟨rfl, n3, rfl⟩) | (go_at_call 22; ((with_reducible refine (C.out _).mono ?_)); rintro e w' ⟨rfl, rfl⟩) | (go_at_call 23; ((with_reducible refine (K.out _).mono ?_)); rintro e w' ⟨rfl, rfl⟩) | (go_at_call 18; ((with_reducible refine (B.out _).mono ?_)); rintro e w' ⟨rfl, rfl⟩) | (go_at_call 15; refine (fawake_b (W := W) (below_drewN (Below.refl _ _) _)).mono ?_; rintro e w' ⟨rfl, hb9⟩))
    go_ret
    exact ⟨rfl, hb9⟩
end Go.Proofs.Ytijgopcddjnfdaa
