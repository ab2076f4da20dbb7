/- What is proved here: the plain laws of intervals (statement SpanTells). -/
import Derived.Test.YtgpeekmagckgcaaPm
namespace Go.Proofs.Ytgpeekmagckgcaa.Pl
theorem v_s (a b x : Int) : vlo a b x x = slo a b x ∧ vhi a b x x = shi a b x := by
  unfold vlo vhi slo shi
  rw [emp2]
  exact ⟨rfl, rfl⟩
theorem half_emp {a b : Int} (h : chi a b < clo a b) : half a b = 0 ∧ decide (clo a b ≤ chi a b) = false := by
  have e : emp (clo a b) (chi a b) = true := by rw [emp_cl]; simp; omega
  refine ⟨?_, by simp; omega⟩
  unfold half
  rw [e]
  simp
theorem half_not {a b : Int} (h : chi a b ≥ clo a b) : half a b = chi a b - mid a b ∧ decide (clo a b ≤ chi a b) = true := by
  have e : emp (clo a b) (chi a b) = false := by rw [emp_cl]; simp; omega
  refine ⟨?_, by simp; omega⟩
  unfold half
  rw [e, mid2]
  simp
end Go.Proofs.Ytgpeekmagckgcaa.Pl
