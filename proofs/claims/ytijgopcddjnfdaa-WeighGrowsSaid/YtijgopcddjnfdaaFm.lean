/- The plain facts of doubles: sums of costs. -/
import Derived.Test.YtijgopcddjnfdaaFl
namespace Go.Proofs.Ytijgopcddjnfdaa.Fl
open Ieee

/-! ### Sums -/
theorem add_nan {x y : Nat} (h : nan x = true ∨ nan y = true) : Ieee.double.add x y = none := by
  unfold Format.add
  rcases h with h | h
  · obtain ⟨s, t, e⟩ := read_nan h
    rw [e]; rfl
  · obtain ⟨s, t, e⟩ := read_nan h
    rw [e]
    cases Ieee.double.read x <;> rfl
/-- A word that may be a cost. -/
def cost (x : Nat) : Bool := decide (x ≤ 9218868437227405312) || decide (x = 9223372036854775808)
def rung (x : Nat) : Nat := x % 9223372036854775808
/-- The sum of two costs, with one nought. -/
def plus (x y : Nat) : Nat := R (units (rung x) + units (rung y))
theorem R_inf (n : Nat) (h : units 9218868437227405312 ≤ n) : R n = 9218868437227405312 := by
  have := R_mono h
  rw [R_units (by omega)] at this
  have := R_le n
  omega
theorem rung_le {x : Nat} (h : cost x = true) : rung x ≤ 9218868437227405312 := by
  simp only [cost, Bool.or_eq_true, decide_eq_true_eq] at h
  unfold rung
  omega
theorem pl_cost {x : Nat} (h : cost x = true) : pl x = (rung x : Int) := by
  simp only [cost, Bool.or_eq_true, decide_eq_true_eq] at h
  unfold rung pl
  split <;> omega
theorem nan_cost {x : Nat} (h : cost x = true) : nan x = false := by
  simp only [cost, Bool.or_eq_true, decide_eq_true_eq] at h
  simp only [nan, decide_eq_false_iff_not]
  omega
theorem inf_of {z : Nat} (hz : cost z = true) (h : rung z = 9218868437227405312) : z = 9218868437227405312 := by
  simp only [cost, Bool.or_eq_true, decide_eq_true_eq] at hz
  unfold rung at h
  omega
theorem zero_of {z : Nat} (hz : cost z = true) (h : 9223372036854775808 ≤ z) : units (rung z) = 0 := by
  simp only [cost, Bool.or_eq_true, decide_eq_true_eq] at hz
  have : rung z = 0 := by unfold rung; omega
  rw [this]; rfl
theorem lt_of {z : Nat} (hz : cost z = true) : z < 18446744073709551616 := by simp only [cost, Bool.or_eq_true, decide_eq_true_eq] at hz; omega
theorem read_pinf : Ieee.double.read 9218868437227405312 = .infinity false := by decide
theorem write_pinf : Ieee.double.write (.infinity false) = 9218868437227405312 := by decide
theorem sum_ii : (Datum.infinity false).sum (.infinity false) = some (.infinity false) := rfl
theorem sum_in (s : Bool) (m : Nat) (p : Int) : (Datum.infinity false).sum (.number s m p) = some (.infinity false) := rfl
theorem sum_ni (s : Bool) (m : Nat) (p : Int) : (Datum.number s m p).sum (.infinity false) = some (.infinity false) := rfl
theorem add_inf_l {y : Nat} (hy : cost y = true) : Ieee.double.add 9218868437227405312 y = some 9218868437227405312 := by
  unfold Format.add
  rw [read_pinf]
  rcases Nat.eq_or_lt_of_le (rung_le hy) with e2 | e2
  · rw [inf_of hy e2, read_pinf, sum_ii, Option.map_some, write_pinf]
  · obtain ⟨n, q, e', _, _⟩ := read_num (lt_of hy) e2
    rw [e', sum_in, Option.map_some, write_pinf]
theorem add_inf_r {y : Nat} (hy : cost y = true) : Ieee.double.add y 9218868437227405312 = some 9218868437227405312 := by
  unfold Format.add
  rw [read_pinf]
  rcases Nat.eq_or_lt_of_le (rung_le hy) with e2 | e2
  · rw [inf_of hy e2, read_pinf, sum_ii, Option.map_some, write_pinf]
  · obtain ⟨n, q, e', _, _⟩ := read_num (lt_of hy) e2
    rw [e', sum_ni, Option.map_some, write_pinf]
theorem sg {c z m : Nat} {i : Int} (hz : cost z = true) (hi : -1074 ≤ i) (hci : (c : Int) - 1074 ≤ i) (hu : m * 2 ^ (i + 1074).toNat = units (rung z)) :
    ∃ A : Nat, signed (decide (9223372036854775808 ≤ z)) m (i - ((c : Int) - 1074)).toNat = (A : Int) ∧ A * 2 ^ c = units (rung z) := by
  have e2 : m * 2 ^ (i + 1074).toNat = m * 2 ^ (i - ((c : Int) - 1074)).toNat * 2 ^ c := by
    rw [Nat.mul_assoc, ← Nat.pow_add]
    congr 2
    omega
  rw [e2] at hu
  refine ⟨m * 2 ^ (i - ((c : Int) - 1074)).toNat, ?_, hu⟩
  unfold signed
  rw [Nat.shiftLeft_eq]
  by_cases s : 9223372036854775808 ≤ z
  · have h0 : m * 2 ^ (i - ((c : Int) - 1074)).toNat = 0 := by
      have h1 := zero_of hz s
      rw [h1] at hu
      rcases Nat.mul_eq_zero.1 hu with h | h
      · exact h
      · have := Nat.two_pow_pos c; omega
    rw [h0]
    split <;> simp
  · have : decide (9223372036854775808 ≤ z) = false := decide_eq_false s
    rw [this]
    rfl
theorem word_z : Ieee.double.word true 0 = 9223372036854775808 := by decide
theorem word_f (n : Nat) : Ieee.double.word false n = n := rfl
theorem add_fin {x y : Nat} (hx : cost x = true) (hy : cost y = true) (e1 : rung x < 9218868437227405312) (e2 : rung y < 9218868437227405312) :
    ∃ r, Ieee.double.add x y = some r ∧ (r = plus x y ∨ (r = 9223372036854775808 ∧ plus x y = 0)) := by
  obtain ⟨m, p, e, hp, hm⟩ := read_num (lt_of hx) e1
  obtain ⟨n, q, e', hq, hn⟩ := read_num (lt_of hy) e2
  unfold Format.add
  rw [e, e']
  obtain ⟨c, hc⟩ : ∃ c : Nat, min p q = (c : Int) - 1074 := ⟨(min p q + 1074).toNat, by omega⟩
  obtain ⟨A, hA, hA2⟩ := sg (c := c) hx hp (by omega) hm
  obtain ⟨B, hB, hB2⟩ := sg (c := c) hy hq (by omega) hn
  unfold Datum.sum
  dsimp only
  rw [hc, hA, hB]
  refine ⟨_, rfl, ?_⟩
  unfold Format.write
  dsimp only
  rw [nearest_eq _ _ _ (by omega)]
  have key : R ((A + B) * 2 ^ c) = plus x y := by unfold plus; rw [Nat.add_mul, hA2, hB2]
  have en : ((A : Int) + (B : Int)).natAbs = A + B := by omega
  have ec : ((c : Int) - 1074 + 1074).toNat = c := by omega
  rw [en, ec, key]
  generalize (decide (9223372036854775808 ≤ x) && decide (9223372036854775808 ≤ y)) = sb
  by_cases h0 : (A : Int) + (B : Int) = 0
  · have hz : plus x y = 0 := by
      rw [← key, show A + B = 0 by omega, Nat.zero_mul]
      decide
    rw [if_pos h0, hz]
    cases sb
    · exact .inl rfl
    · exact .inr ⟨word_z, rfl⟩
  · rw [if_neg h0]
    have : decide ((A : Int) + (B : Int) < 0) = false := by simp; omega
    rw [this]
    exact .inl (word_f _)
theorem plus_inf_l (y : Nat) : plus 9218868437227405312 y = 9218868437227405312 := R_inf _ (Nat.le_add_right _ _)
theorem plus_comm (x y : Nat) : plus x y = plus y x := by unfold plus; rw [Nat.add_comm]
/-- What the sum of two costs is: its rung, and -0 of two such alone. -/
theorem add_cost {x y : Nat} (hx : cost x = true) (hy : cost y = true) :
    ∃ r, Ieee.double.add x y = some r ∧ (r = plus x y ∨ (r = 9223372036854775808 ∧ plus x y = 0)) := by
  rcases Nat.eq_or_lt_of_le (rung_le hx) with e1 | e1
  · rw [inf_of hx e1]
    exact ⟨_, add_inf_l hy, .inl (plus_inf_l y).symm⟩
  rcases Nat.eq_or_lt_of_le (rung_le hy) with e2 | e2
  · rw [inf_of hy e2]
    exact ⟨_, add_inf_r hx, .inl (by rw [plus_comm, plus_inf_l])⟩
  exact add_fin hx hy e1 e2
theorem plus_le (x y : Nat) : plus x y ≤ 9218868437227405312 := R_le _
theorem plus_cost (x y : Nat) : cost (plus x y) = true := by
  have := plus_le x y
  simp only [cost, Bool.or_eq_true, decide_eq_true_eq]
  omega
theorem le_plus {x : Nat} (y : Nat) (h : cost x = true) : rung x ≤ plus x y := by
  have := R_mono (show units (rung x) ≤ units (rung x) + units (rung y) by omega)
  rw [R_units (rung_le h)] at this
  exact this
theorem plus_mono {x y z : Nat} (hz : cost z = true) (h : rung y ≤ rung z) : plus x y ≤ plus x z := by
  unfold plus
  refine R_mono ?_
  have := units_le h (rung_le hz)
  omega
end Go.Proofs.Ytijgopcddjnfdaa.Fl
