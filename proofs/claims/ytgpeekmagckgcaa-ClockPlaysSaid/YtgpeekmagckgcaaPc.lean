/- The plain laws of drifts and of clocks. -/
import Derived.Test.YtgpeekmagckgcaaPd
namespace Go.Proofs.Ytgpeekmagckgcaa.Pl
theorem cs_mono {a b : Int} (h : a ≤ b) : cs a ≤ cs b := by unfold cs; omega
theorem drift_mono {a b : Int} (m : Int) (h : a ≤ b) : drift a m ≤ drift b m := by
  have h1 := Int.mul_le_mul_of_nonneg_right (cs_mono h) (cm_bd m).1
  unfold drift
  omega
theorem drift_add {a b : Int} (m : Int) (ha : 0 ≤ a) (hb : 0 ≤ b) (ha' : a ≤ 1073741824) (hb' : b ≤ 1073741824) : drift (a + b) m ≤ drift a m + drift b m ∧ drift a m + drift b m ≤ drift (a + b) m + 1 := by
  have e1 : cs a = a := by unfold cs; omega
  have e2 : cs b = b := by unfold cs; omega
  have e3 : cs (a + b) = a + b := by unfold cs; omega
  unfold drift
  rw [e1, e2, e3, Int.add_mul]
  generalize a * cm m = x
  generalize b * cm m = y
  omega
end Go.Proofs.Ytgpeekmagckgcaa.Pl
