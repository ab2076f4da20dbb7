/- What is proved here: plain facts on quotients and products. -/
import Derived.IntWalk
import Derived.WalkKit
namespace Go.Proofs.Ythmglahcampllaa.Pl
theorem div_ok {x y : Int} (hx : 0 < x) (h : x * y ≤ 1125899906842624) : y ≤ 1125899906842624 / x :=
  Int.le_ediv_of_mul_le hx (by rw [Int.mul_comm]; exact h)
theorem div_over {x y : Int} (hx : 0 < x) (h : 1125899906842624 < x * y) : 1125899906842624 / x < y :=
  Int.ediv_lt_of_lt_mul hx (by rw [Int.mul_comm]; exact h)
theorem floor_t (n d : Int) (hd : 0 < d) : (n.tmod d < 0 → n.tdiv d - 1 = n / d) ∧ (¬ n.tmod d < 0 → n.tdiv d = n / d) := by
  have h1 := Int.emod_nonneg n (by omega : d ≠ 0)
  have h2 := Int.emod_lt_of_pos n hd
  have e1 := Int.tdiv_eq_ediv (a := n) (b := d)
  have e2 := Int.tmod_eq_emod (a := n) (b := d)
  have hs : d.sign = 1 := Int.sign_eq_one_of_pos hd
  have ha : (d.natAbs : Int) = d := by omega
  by_cases h : 0 ≤ n ∨ d ∣ n
  · rw [if_pos h] at e1 e2
    omega
  · rw [if_neg h] at e1 e2
    rw [hs] at e1
    rw [ha] at e2
    omega
theorem mul_bd {a b A B : Int} (hA : 0 ≤ A) (h1 : -A ≤ a) (h2 : a ≤ A) (h3 : -B ≤ b) (h4 : b ≤ B) : -(A * B) ≤ a * b ∧ a * b ≤ A * B := by
  have e1 : a.natAbs ≤ A.natAbs := by omega
  have e2 : b.natAbs ≤ B.natAbs := by omega
  have e3 := Nat.mul_le_mul e1 e2
  rw [← Int.natAbs_mul, ← Int.natAbs_mul] at e3
  have e4 : 0 ≤ A * B := Int.mul_nonneg hA (by omega)
  omega
theorem floor_mul (p d : Int) (hd : 0 < d) : p / d * d ≤ p ∧ p < p / d * d + d := by
  have h1 := Int.mul_ediv_add_emod p d
  have h2 := Int.emod_nonneg p (by omega : d ≠ 0)
  have h3 := Int.emod_lt_of_pos p hd
  have h4 := Int.mul_comm d (p / d)
  omega
end Go.Proofs.Ythmglahcampllaa.Pl
namespace Go.Proofs.Ythmglahcampllaa.Pl
open Go Go.RowKit
theorem tdiv_neg_M {a : Int} (h : a < 0) (_h : -1125899906842624 ≤ a) : wrap64 (-Int.tdiv 1125899906842624 a) = -(1125899906842624 / a) := by
  have e : Int.tdiv 1125899906842624 a = 1125899906842624 / a := Int.tdiv_eq_ediv_of_nonneg (by omega)
  rw [e, ← Int.ediv_neg]
  have h1 : 0 ≤ 1125899906842624 / -a := Int.ediv_nonneg (by omega) (by omega)
  have h2 : 1125899906842624 / -a ≤ 1125899906842624 := Int.ediv_le_of_le_mul (by omega) (by omega)
  exact IntWalk.wrap64_in _ ⟨by omega, by omega⟩
end Go.Proofs.Ythmglahcampllaa.Pl
