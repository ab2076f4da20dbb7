/- What is proved here: the plain laws of intervals (statement SpanMeets). -/
import Derived.Test.YtgpeekmagckgcaaPl
namespace Go.Proofs.Ytgpeekmagckgcaa.Pl
theorem nr_id {x : Int} (h : -4503599627370496 ≤ x ∧ x ≤ 4503599627370496) : nr x = x := by unfold nr; omega
theorem clo_of {x y : Int} (h : -4503599627370496 ≤ x ∧ x ≤ 4503599627370496) (k : -4503599627370496 ≤ y ∧ y ≤ 4503599627370496) : (y < x ∧ clo x y = 1 ∧ chi x y = 0) ∨ (x ≤ y ∧ clo x y = x ∧ chi x y = y) := by
  have := clean_or x y
  rw [nr_id h, nr_id k] at this
  exact this
theorem clean_cl (a b : Int) : (clo a b = 1 ∧ chi a b = 0) ∨ clo a b ≤ chi a b := by
  have := clean_or a b
  omega
theorem clean2 (a b : Int) : clo (clo a b) (chi a b) = clo a b ∧ chi (clo a b) (chi a b) = chi a b := by
  have h1 := clo_bd a b
  have h2 := chi_bd a b
  have := clo_of h1 h2
  have := clean_cl a b
  omega
theorem gmax_eq (a b : Int) : gmax a b = max a b := by unfold gmax; omega
theorem gmin_eq (a b : Int) : gmin a b = min a b := by unfold gmin; omega
theorem meet_or (a b c d : Int) : (min (chi a b) (chi c d) < max (clo a b) (clo c d) ∧ mlo a b c d = 1 ∧ mhi a b c d = 0) ∨
    (max (clo a b) (clo c d) ≤ min (chi a b) (chi c d) ∧ mlo a b c d = max (clo a b) (clo c d) ∧ mhi a b c d = min (chi a b) (chi c d)) := by
  unfold mlo mhi
  rw [gmax_eq, gmin_eq]
  have h1 := clo_bd a b
  have h2 := chi_bd a b
  have h3 := clo_bd c d
  have h4 := chi_bd c d
  exact clo_of (by omega) (by omega)
theorem meet2 (a b c d : Int) : clo (mlo a b c d) (mhi a b c d) = mlo a b c d ∧ chi (mlo a b c d) (mhi a b c d) = mhi a b c d := clean2 _ _
theorem emp_cl (a b : Int) : emp (clo a b) (chi a b) = decide (chi a b < clo a b) := by
  unfold emp
  rw [nr_id (clo_bd a b), nr_id (chi_bd a b)]
theorem hull_or (a b c d : Int) : (chi a b < clo a b ∧ hlo a b c d = clo c d ∧ hhi a b c d = chi c d) ∨ (clo a b ≤ chi a b ∧ chi c d < clo c d ∧ hlo a b c d = clo a b ∧ hhi a b c d = chi a b) ∨
    (clo a b ≤ chi a b ∧ clo c d ≤ chi c d ∧ hlo a b c d = min (clo a b) (clo c d) ∧ hhi a b c d = max (chi a b) (chi c d)) := by
  unfold hlo hhi
  rw [emp_cl, emp_cl, gmin_eq, gmax_eq]
  simp only [decide_eq_true_eq]
  by_cases h : chi a b < clo a b
  · simp [h]
  · by_cases k : chi c d < clo c d
    · simp [h, k]; omega
    · simp [h, k]; omega
theorem hull2 (a b c d : Int) : clo (hlo a b c d) (hhi a b c d) = hlo a b c d ∧ chi (hlo a b c d) (hhi a b c d) = hhi a b c d := by
  have h1 := clo_bd a b
  have h2 := chi_bd a b
  have h3 := clo_bd c d
  have h4 := chi_bd c d
  have h5 := clean_cl a b
  have h6 := clean_cl c d
  have h7 := hull_or a b c d
  have := clo_of (x := hlo a b c d) (y := hhi a b c d) (by omega) (by omega)
  omega
theorem mlo_comm (a b c d : Int) : mlo a b c d = mlo c d a b := by
  have := meet_or a b c d
  have := meet_or c d a b
  omega
theorem mhi_comm (a b c d : Int) : mhi a b c d = mhi c d a b := by
  have := meet_or a b c d
  have := meet_or c d a b
  omega
theorem meet_assoc (a b c d e f : Int) : mlo (mlo a b c d) (mhi a b c d) e f = mlo a b (mlo c d e f) (mhi c d e f) ∧ mhi (mlo a b c d) (mhi a b c d) e f = mhi a b (mlo c d e f) (mhi c d e f) := by
  have h1 := meet_or a b c d
  have h2 := meet_or c d e f
  have h3 := meet_or (mlo a b c d) (mhi a b c d) e f
  have h4 := meet_or a b (mlo c d e f) (mhi c d e f)
  rw [(meet2 a b c d).1, (meet2 a b c d).2] at h3
  rw [(meet2 c d e f).1, (meet2 c d e f).2] at h4
  have h5 := clean_cl a b
  have h6 := clean_cl c d
  have h7 := clean_cl e f
  generalize clo a b = A at *
  generalize chi a b = B at *
  generalize clo c d = C at *
  generalize chi c d = D at *
  generalize clo e f = E at *
  generalize chi e f = F at *
  rcases h1 with h1 | h1 <;> rcases h2 with h2 | h2 <;> rcases h3 with h3 | h3 <;> rcases h4 with h4 | h4 <;> omega
theorem hlo_comm (a b c d : Int) : hlo a b c d = hlo c d a b := by
  have := hull_or a b c d
  have := hull_or c d a b
  have := clean_cl a b
  have := clean_cl c d
  omega
theorem hhi_comm (a b c d : Int) : hhi a b c d = hhi c d a b := by
  have := hull_or a b c d
  have := hull_or c d a b
  have := clean_cl a b
  have := clean_cl c d
  omega
theorem has_iff (a b x : Int) : has a b x = true ↔ clo a b ≤ nr x ∧ nr x ≤ chi a b := by simp [has]
theorem has_meet (a b c d x : Int) : has (mlo a b c d) (mhi a b c d) x = (has a b x && has c d x) := by
  rw [Bool.eq_iff_iff, Bool.and_eq_true, has_iff, has_iff, has_iff, (meet2 a b c d).1, (meet2 a b c d).2]
  have := meet_or a b c d
  omega
theorem has_hull (a b c d x : Int) (h : (has a b x || has c d x) = true) : has (hlo a b c d) (hhi a b c d) x = true := by
  rw [Bool.or_eq_true, has_iff, has_iff] at h
  rw [has_iff, (hull2 a b c d).1, (hull2 a b c d).2]
  have := hull_or a b c d
  omega
theorem wit_iff (a b c d : Int) : wit a b c d = true ↔ mlo a b c d = clo a b ∧ mhi a b c d = chi a b := by simp [wit]
theorem wit_meet (a b c d : Int) : wit (mlo a b c d) (mhi a b c d) c d = true := by
  rw [wit_iff, (meet2 a b c d).1, (meet2 a b c d).2]
  have h1 := meet_or a b c d
  have h3 := meet_or (mlo a b c d) (mhi a b c d) c d
  rw [(meet2 a b c d).1, (meet2 a b c d).2] at h3
  have h6 := clean_cl c d
  omega
theorem wit_hull (a b c d : Int) : wit a b (hlo a b c d) (hhi a b c d) = true := by
  rw [wit_iff]
  have h1 := hull_or a b c d
  have h3 := meet_or a b (hlo a b c d) (hhi a b c d)
  rw [(hull2 a b c d).1, (hull2 a b c d).2] at h3
  have h5 := clean_cl a b
  have h6 := clean_cl c d
  omega
theorem half_bd (a b : Int) : -9007199254740992 ≤ half a b ∧ half a b ≤ 9007199254740992 := by
  have h2 := chi_bd a b
  have h3 := mid_bd (clo a b) (chi a b)
  unfold half
  split <;> omega
theorem mid2 (a b : Int) : mid (clo a b) (chi a b) = mid a b := by
  unfold mid
  rw [(clean2 a b).1, (clean2 a b).2]
theorem shift_or (a b y : Int) (h : clo a b ≤ chi a b) : slo a b y = clo (clo a b + nr y) (chi a b + nr y) ∧ shi a b y = chi (clo a b + nr y) (chi a b + nr y) := by
  have e : emp (clo a b) (chi a b) = false := by rw [emp_cl]; simp; omega
  unfold slo shi
  rw [e]
  simp
theorem widen_or (a b y : Int) (h : clo a b ≤ chi a b) : wlo a b y = clo (clo a b - max (nr y) 0) (chi a b + max (nr y) 0) ∧ whi a b y = chi (clo a b - max (nr y) 0) (chi a b + max (nr y) 0) := by
  have e : emp (clo a b) (chi a b) = false := by rw [emp_cl]; simp; omega
  unfold wlo whi
  rw [e, gmax_eq]
  simp
theorem has_clean (p q x : Int) (h1 : nr p ≤ nr x) (h2 : nr x ≤ nr q) : has (clo p q) (chi p q) x = true := by
  rw [has_iff, (clean2 p q).1, (clean2 p q).2]
  have := clean_or p q
  omega
theorem nr_mono {p q : Int} (h : p ≤ q) : nr p ≤ nr q := by unfold nr; omega
theorem moves {a b x y z : Int} (hx1 : -1125899906842624 ≤ x) (hx2 : x ≤ 1125899906842624) (hy1 : -1125899906842624 ≤ y) (hy2 : y ≤ 1125899906842624) (hz1 : 0 ≤ z) (hz2 : z ≤ y) (hin : has a b x = true) :
    x - mid a b ≤ half a b ∧ mid a b - x ≤ half a b ∧ has a b (mid a b) = true ∧ has (slo a b y) (shi a b y) (x + y) = true ∧ has (wlo a b y) (whi a b y) (x + z) = true ∧ has (wlo a b y) (whi a b y) (x - z) = true ∧ wit a b (wlo a b y) (whi a b y) = true := by
  rw [has_iff, nr_id (x := x) (by omega)] at hin
  have e : emp (clo a b) (chi a b) = false := by rw [emp_cl]; simp; omega
  have hA := clo_bd a b
  have hB := chi_bd a b
  have hm : mid a b = clo a b + (chi a b - clo a b) / 2 := by unfold mid; rw [e]; simp
  have hh : half a b = chi a b - mid a b := by unfold half; rw [e, mid2]; simp
  have hs := shift_or a b y (by omega)
  have hw := widen_or a b y (by omega)
  have ny : nr y = y := nr_id (by omega)
  rw [ny] at hs hw
  rw [hs.1, hs.2, hw.1, hw.2]
  refine ⟨by omega, by omega, ?_, ?_, ?_, ?_, ?_⟩
  · rw [has_iff, nr_id (x := mid a b) (by omega)]; omega
  · exact has_clean _ _ _ (nr_mono (by omega)) (nr_mono (by omega))
  · exact has_clean _ _ _ (nr_mono (by omega)) (nr_mono (by omega))
  · exact has_clean _ _ _ (nr_mono (by omega)) (nr_mono (by omega))
  · rw [wit_iff]
    have h3 := meet_or a b (clo (clo a b - max y 0) (chi a b + max y 0)) (chi (clo a b - max y 0) (chi a b + max y 0))
    rw [(clean2 _ _).1, (clean2 _ _).2] at h3
    have h4 := clean_or (clo a b - max y 0) (chi a b + max y 0)
    have h5 : nr (clo a b - max y 0) ≤ nr (clo a b) := nr_mono (by omega)
    have h6 : nr (chi a b) ≤ nr (chi a b + max y 0) := nr_mono (by omega)
    rw [nr_id hA] at h5
    rw [nr_id hB] at h6
    omega
theorem emp2 (a b : Int) : emp (clo a b) (chi a b) = emp a b := by
  rw [emp_cl]
  have := clean_or a b
  unfold emp
  rw [Bool.eq_iff_iff, decide_eq_true_eq, decide_eq_true_eq]
  omega
def vlo (a b y z : Int) : Int := if emp a b then clo a b else clo (clo a b + nr y) (chi a b + nr z)
def vhi (a b y z : Int) : Int := if emp a b then chi a b else chi (clo a b + nr y) (chi a b + nr z)
theorem v_w {a b p q y : Int} (hp : p = -(max (nr y) 0)) (hq : q = max (nr y) 0) : vlo a b p q = wlo a b y ∧ vhi a b p q = whi a b y := by
  have h1 := nr_bd y
  have e1 : nr p = -(max (nr y) 0) := by rw [nr_id (by omega)]; exact hp
  have e2 : nr q = max (nr y) 0 := by rw [nr_id (by omega)]; exact hq
  unfold vlo vhi wlo whi
  rw [emp2, e1, e2, gmax_eq, Int.sub_eq_add_neg]
  exact ⟨rfl, rfl⟩
theorem tdiv_facts (n d : Int) (hd : 0 < d) : d * n.tdiv d + n.tmod d = n ∧ (0 ≤ n → 0 ≤ n.tmod d ∧ n.tmod d < d) ∧ (n ≤ 0 → -d < n.tmod d ∧ n.tmod d ≤ 0) := by
  refine ⟨Int.mul_tdiv_add_tmod n d, fun h => ⟨Int.tmod_nonneg d h, Int.tmod_lt_of_pos n hd⟩, fun h => ?_⟩
  obtain ⟨m, rfl⟩ : ∃ m, n = -m := ⟨-n, by omega⟩
  rw [Int.neg_tmod]
  have h1 := Int.tmod_nonneg d (a := m) (by omega)
  have h2 := Int.tmod_lt_of_pos m hd
  omega
end Go.Proofs.Ytgpeekmagckgcaa.Pl
