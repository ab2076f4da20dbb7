/- What is proved here: the plain laws of intervals (statement SpanMeets). -/
import Derived.Test.YtgpeekmagckgcaaPl
namespace Go.Proofs.Ytgpeekmagckgcaa.Pl
theorem nr_id {x : Int} (h : -4503599627370496 ≤ x ∧ x ≤ 4503599627370496) : nr x = x := by unfold nr; omega
theorem clo_of {x y : Int} (h : -4503599627370496 ≤ x ∧ x ≤ 4503599627370496) (k : -4503599627370496 ≤ y ∧ y ≤ 4503599627370496) : (y < x ∧ clo x y = 1 ∧ chi x y = 0) ∨ (x ≤ y ∧ clo x y = x ∧ chi x y = y) := by
  have := clean_or x y
  rw [nr_id h, nr_id k] at this
  exact this
theorem clean_cl (a b : Int) : (clo a b = 1 ∧ chi a b = 0) ∨ clo a b ≤ chi a b := by
  have := clean_or a b
  omega
theorem clean2 (a b : Int) : clo (clo a b) (chi a b) = clo a b ∧ chi (clo a b) (chi a b) = chi a b := by
  have h1 := clo_bd a b
  have h2 := chi_bd a b
  have := clo_of h1 h2
  have := clean_cl a b
  omega
theorem gmax_eq (a b : Int) : gmax a b = max a b := by unfold gmax; omega
theorem gmin_eq (a b : Int) : gmin a b = min a b := by unfold gmin; omega
theorem meet_or (a b c d : Int) : (min (chi a b) (chi c d) < max (clo a b) (clo c d) ∧ mlo a b c d = 1 ∧ mhi a b c d = 0) ∨
    (max (clo a b) (clo c d) ≤ min (chi a b) (chi c d) ∧ mlo a b c d = max (clo a b) (clo c d) ∧ mhi a b c d = min (chi a b) (chi c d)) := by
  unfold mlo mhi
  rw [gmax_eq, gmin_eq]
  have h1 := clo_bd a b
  have h2 := chi_bd a b
  have h3 := clo_bd c d
  have h4 := chi_bd c d
  exact clo_of (by omega) (by omega)
theorem meet2 (a b c d : Int) : clo (mlo a b c d) (mhi a b c d) = mlo a b c d ∧ chi (mlo a b c d) (mhi a b c d) = mhi a b c d := clean2 _ _
theorem emp_cl (a b : Int) : emp (clo a b) (chi a b) = decide (chi a b < clo a b) := by
  unfold emp
  rw [nr_id (clo_bd a b), nr_id (chi_bd a b)]
theorem hull_or (a b c d : Int) : (chi a b < clo a b ∧ hlo a b c d = clo c d ∧ hhi a b c d = chi c d) ∨ (clo a b ≤ chi a b ∧ chi c d < clo c d ∧ hlo a b c d = clo a b ∧ hhi a b c d = chi a b) ∨
    (clo a b ≤ chi a b ∧ clo c d ≤ chi c d ∧ hlo a b c d = min (clo a b) (clo c d) ∧ hhi a b c d = max (chi a b) (chi c d)) := by
  unfold hlo hhi
  rw [emp_cl, emp_cl, gmin_eq, gmax_eq]
  simp only [decide_eq_true_eq]
  by_cases h : chi a b < clo a b
  · simp [h]
  · by_cases k : chi c d < clo c d
    · simp [h, k]; omega
    · simp [h, k]; omega
theorem hull2 (a b c d : Int) : clo (hlo a b c d) (hhi a b c d) = hlo a b c d ∧ chi (hlo a b c d) (hhi a b c d) = hhi a b c d := by
  have h1 := clo_bd a b
  have h2 := chi_bd a b
  have h3 := clo_bd c d
  have h4 := chi_bd c d
  have h5 := clean_cl a b
  have h6 := clean_cl c d
  have h7 := hull_or a b c d
  have := clo_of (x := hlo a b c d) (y := hhi a b c d) (by omega) (by omega)
  omega
theorem mlo_comm (a b c d : Int) : mlo a b c d = mlo c d a b := by
  have := meet_or a b c d
  have := meet_or c d a b
  omega
theorem mhi_comm (a b c d : Int) : mhi a b c d = mhi c d a b := by
  have := meet_or a b c d
  have := meet_or c d a b
  omega
theorem meet_assoc (a b c d e f : Int) : mlo (mlo a b c d) (mhi a b c d) e f = mlo a b (mlo c d e f) (mhi c d e f) ∧ mhi (mlo a b c d) (mhi a b c d) e f = mhi a b (mlo c d e f) (mhi c d e f) := by
  have h1 := meet_or a b c d
  have h2 := meet_or c d e f
  have h3 := meet_or (mlo a b c d) (mhi a b c d) e f
  have h4 := meet_or a b (mlo c d e f) (mhi c d e f)
  rw [(meet2 a b c d).1, (meet2 a b c d).2] at h3
  rw [(meet2 c d e f).1, (meet2 c d e f).2] at h4
  have h5 := clean_cl a b
  have h6 := clean_cl c d
  have h7 := clean_cl e f
  generalize clo a b = A at *
  generalize chi a b = B at *
  generalize clo c d = C at *
  generalize chi c d = D at *
  generalize clo e f = E at *
  generalize chi e f = F at *
  rcases h1 with h1 | h1 <;> rcases h2 with h2 | h2 <;> rcases h3 with h3 | h3 <;> rcases h4 with h4 | h4 <;> omega
theorem hlo_comm (a b c d : Int) : hlo a b c d = hlo c d a b := by
  have := hull_or a b c d
  have := hull_or c d a b
  have := clean_cl a b
  have := clean_cl c d
  omega
theorem hhi_comm (a b c d : Int) : hhi a b c d = hhi c d a b := by
  have := hull_or a b c d
  have := hull_or c d a b
  have := clean_cl a b
  have := clean_cl c d
  omega
theorem has_iff (a b x : Int) : has a b x = true ↔ clo a b ≤ nr x ∧ nr x ≤ chi a b := by simp [has]
theorem has_meet (a b c d x : Int) : has (mlo a b c d) (mhi a b c d) x = (has a b x && has c d x) := by
  rw [Bool.eq_iff_iff, Bool.and_eq_true, has_iff, has_iff, has_iff, (meet2 a b c d).1, (meet2 a b c d).2]
  have := meet_or a b c d
  omega
theorem has_hull (a b c d x : Int) (h : (has a b x || has c d x) = true) : has (hlo a b c d) (hhi a b c d) x = true := by
  rw [Bool.or_eq_true, has_iff, has_iff] at h
  rw [has_iff, (hull2 a b c d).1, (hull2 a b c d).2]
  have := hull_or a b c d
  omega
theorem wit_iff (a b c d : Int) : wit a b c d = true ↔ mlo a b c d = clo a b ∧ mhi a b c d = chi a b := by simp [wit]
theorem wit_meet (a b c d : Int) : wit (mlo a b c d) (mhi a b c d) c d = true := by
  rw [wit_iff, (meet2 a b c d).1, (meet2 a b c d).2]
  have h1 := meet_or a b c d
  have h3 := meet_or (mlo a b c d) (mhi a b c d) c d
  rw [(meet2 a b c d).1, (meet2 a b c d).2] at h3
  have h6 := clean_cl c d
  omega
theorem wit_hull (a b c d : Int) : wit a b (hlo a b c d) (hhi a b c d) = true := by
  rw [wit_iff]
  have h1 := hull_or a b c d
  have h3 := meet_or a b (hlo a b c d) (hhi a b c d)
  rw [(hull2 a b c d).1, (hull2 a b c d).2] at h3
  have h5 := clean_cl a b
  have h6 := clean_cl c d
  omega
end Go.Proofs.Ytgpeekmagckgcaa.Pl
