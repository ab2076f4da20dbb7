/- What tick's functions come to, plainly. -/
import Derived.Test.YthmglahcampllaaPe
import Derived.Test.YthmglahcampllaaPl
namespace Go.Proofs.Ythmglahcampllaa.Pl
def addR (a b : Int) : Int × Int := if tm a = true ∧ tm b = true ∧ tm (a + b) = true then (a + b, 0) else (0, 11)
def subR (a b : Int) : Int × Int := if tm a = true ∧ tm b = true ∧ tm (a - b) = true then (a - b, 0) else (0, 11)
def mulR (a b : Int) : Int × Int := if tm a = true ∧ tm b = true ∧ tm (a * b) = true then (a * b, 0) else (0, 11)
def negR (a : Int) : Int × Int := if tm a = true then (-a, 0) else (0, 11)
def scaleR (t n d : Int) : Int × Int :=
  if n < -4096 ∨ 4096 < n ∨ d < 1 ∨ 4096 < d then (0, 2) else if tm t = true ∧ tm (t * n / d) = true then (t * n / d, 0) else (0, 11)
def clampR (n : Int) : Int := if n < -1125899906842624 then -1125899906842624 else if 1125899906842624 < n then 1125899906842624 else n
def twoR (k x y : Int) : Int × Int := if tm (two k x y) = true then (two k x y, 0) else (0, 11)

theorem over_sum {a b s : Int} (h : (0 ≤ a ∧ 0 ≤ s) ∨ (a ≤ 0 ∧ s ≤ 0)) (hb : 1 ≤ b) (ht : tm (s + a) = false) : tm (s + a * b) = false := by
  have e : a * b = a + a * (b - 1) := by rw [Int.mul_sub]; omega
  rw [tm_false] at *
  rcases h with ⟨h1, h2⟩ | ⟨h1, h2⟩
  · have := Int.mul_nonneg h1 (show 0 ≤ b - 1 by omega)
    omega
  · have := Int.mul_nonneg (show 0 ≤ -a by omega) (show 0 ≤ b - 1 by omega)
    rw [Int.neg_mul] at this
    omega
theorem over_dbl {a b s : Int} (h : (0 ≤ a ∧ 0 ≤ s) ∨ (a ≤ 0 ∧ s ≤ 0)) (hb : 1 ≤ b) (ht : tm (a + a) = false) : tm (s + (a + a) * b) = false := by
  have e : (a + a) * b = (a + a) + (a + a) * (b - 1) := by rw [Int.mul_sub]; omega
  rw [tm_false] at *
  rcases h with ⟨h1, h2⟩ | ⟨h1, h2⟩
  · have := Int.mul_nonneg (show 0 ≤ a + a by omega) (show 0 ≤ b - 1 by omega)
    omega
  · have := Int.mul_nonneg (show 0 ≤ -(a + a) by omega) (show 0 ≤ b - 1 by omega)
    rw [Int.neg_mul] at this
    omega
theorem half_odd {a b s : Int} (hb : 0 ≤ b) (ho : b.tmod 2 = 1) : s + a + (a + a) * (b.tdiv 2) = s + a * b := by
  rw [Int.tmod_eq_emod_of_nonneg hb] at ho
  rw [Int.tdiv_eq_ediv_of_nonneg hb]
  have e : b = 2 * (b / 2) + 1 := by omega
  have e2 : a * b = a * (2 * (b / 2) + 1) := by rw [← e]
  rw [e2, Int.mul_add, ← Int.mul_assoc, Int.mul_one, Int.mul_comm a 2]
  have : a + a = 2 * a := by omega
  rw [this]
  omega
theorem half_even {a b s : Int} (hb : 0 ≤ b) (ho : ¬ b.tmod 2 = 1) : s + (a + a) * (b.tdiv 2) = s + a * b := by
  rw [Int.tmod_eq_emod_of_nonneg hb] at ho
  rw [Int.tdiv_eq_ediv_of_nonneg hb]
  have e : b = 2 * (b / 2) := by omega
  have e2 : a * b = a * (2 * (b / 2)) := by rw [← e]
  rw [e2, ← Int.mul_assoc, Int.mul_comm a 2]
  have : a + a = 2 * a := by omega
  rw [this]
theorem floor_ref (p d : Int) (hd : 0 < d) : (p.tdiv d * d > p → p.tdiv d - 1 = p / d) ∧ (¬ p.tdiv d * d > p → p.tdiv d = p / d) := by
  have h := floor_t p d hd
  have e : d * p.tdiv d + p.tmod d = p := Int.mul_tdiv_add_tmod p d
  rw [Int.mul_comm] at e
  exact ⟨fun h1 => h.1 (by omega), fun h1 => h.2 (by omega)⟩
theorem tdiv_bd {p d : Int} (_hd : 1 ≤ d) (hp : -4611686018427387904 ≤ p ∧ p ≤ 4611686018427387904) : -4611686018427387904 ≤ p.tdiv d ∧ p.tdiv d ≤ 4611686018427387904 := by
  have h := Int.natAbs_tdiv_le_natAbs p d
  omega
theorem tdivmul_bd {p d : Int} (hp : -4611686018427387904 ≤ p ∧ p ≤ 4611686018427387904) : -4611686018427387904 ≤ p.tdiv d * d ∧ p.tdiv d * d ≤ 4611686018427387904 := by
  have e : d * p.tdiv d + p.tmod d = p := Int.mul_tdiv_add_tmod p d
  rw [Int.mul_comm] at e
  have h2 : (p.tmod d).natAbs ≤ p.natAbs := by
    rw [Int.natAbs_tmod]
    exact Nat.mod_le _ _
  by_cases h0 : 0 ≤ p
  · have := Int.tmod_nonneg d h0
    omega
  · have h3 : (-p).tmod d = -(p.tmod d) := Int.neg_tmod p d
    have := Int.tmod_nonneg d (show 0 ≤ -p by omega)
    omega
theorem two_tm5 {x y : Int} (hx : tm x = true) (hy : tm y = true) : tm (if y < x then y else x) = true := by split <;> assumption
theorem two_tm6 {x y : Int} (hx : tm x = true) (hy : tm y = true) : tm (if x < y then y else x) = true := by split <;> assumption
end Go.Proofs.Ythmglahcampllaa.Pl
