/- The plain reckoning of a clock's drift. -/
import Derived.Test.YtgpeekmagckgcaaPl
namespace Go.Proofs.Ytgpeekmagckgcaa.Pl
def cs (s : Int) : Int := if s < 0 then 0 else if 1099511627776 < s then 1099511627776 else s
def cm (m : Int) : Int := if m < 0 then 0 else if 1000 < m then 1000 else m
/-- How far a clock's distance may change in a span. -/
def drift (s m : Int) : Int := (cs s * cm m + 999) / 1000
theorem cs_bd (s : Int) : 0 ≤ cs s ∧ cs s ≤ 1099511627776 := by unfold cs; omega
theorem cm_bd (m : Int) : 0 ≤ cm m ∧ cm m ≤ 1000 := by unfold cm; omega
theorem prod_bd (s m : Int) : 0 ≤ cs s * cm m ∧ cs s * cm m ≤ 1099511627776000 := by
  have h1 := cs_bd s
  have h2 := cm_bd m
  refine ⟨Int.mul_nonneg h1.1 h2.1, ?_⟩
  have := Int.mul_le_mul h1.2 h2.2 h2.1 (by omega)
  omega
theorem drift_bd (s m : Int) : 0 ≤ drift s m ∧ drift s m ≤ 1099511627776 := by
  have := prod_bd s m
  unfold drift
  omega
theorem floor_t (n d : Int) (hd : 0 < d) : (n.tmod d < 0 → n.tdiv d - 1 = n / d) ∧ (¬ n.tmod d < 0 → n.tdiv d = n / d) := by
  have e : d * n.tdiv d + n.tmod d = n := Int.mul_tdiv_add_tmod n d
  have e2 : d * (n / d) + n % d = n := Int.mul_ediv_add_emod n d
  have m1 := Int.emod_nonneg n (show d ≠ 0 by omega)
  have m2 := Int.emod_lt_of_pos n hd
  have t2 : n.tmod d < d := Int.tmod_lt_of_pos n hd
  have t1 : -d < n.tmod d := Int.lt_tmod_of_pos n hd
  constructor
  · intro h
    have h3 : d * (n.tdiv d - n / d) < d * 2 := by rw [Int.mul_sub]; omega
    have h4 : d * 0 < d * (n.tdiv d - n / d) := by rw [Int.mul_sub]; omega
    have := Int.lt_of_mul_lt_mul_left h3 (by omega)
    have := Int.lt_of_mul_lt_mul_left h4 (by omega)
    omega
  · intro h
    have h3 : d * (n.tdiv d - n / d) < d * 1 := by rw [Int.mul_sub]; omega
    have h4 : d * (-1) < d * (n.tdiv d - n / d) := by rw [Int.mul_sub]; omega
    have := Int.lt_of_mul_lt_mul_left h3 (by omega)
    have := Int.lt_of_mul_lt_mul_left h4 (by omega)
    omega
end Go.Proofs.Ytgpeekmagckgcaa.Pl
