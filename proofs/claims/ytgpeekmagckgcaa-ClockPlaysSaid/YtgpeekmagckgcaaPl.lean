/- The plain functions of package span: intervals as pairs of ends. -/
namespace Go.Proofs.Ytgpeekmagckgcaa.Pl
/-- The nearest number that is told apart. -/
def nr (n : Int) : Int := if n < -4503599627370496 then -4503599627370496 else if 4503599627370496 < n then 4503599627370496 else n
/-- The lower end of a clean interval. -/
def clo (a b : Int) : Int := if nr b < nr a then 1 else nr a
/-- The upper end of a clean interval. -/
def chi (a b : Int) : Int := if nr b < nr a then 0 else nr b
def has (a b x : Int) : Bool := decide (clo a b ≤ nr x) && decide (nr x ≤ chi a b)
def gmax (a b : Int) : Int := if a < b then b else a
def gmin (a b : Int) : Int := if b < a then b else a
def mlo (a b c d : Int) : Int := clo (gmax (clo a b) (clo c d)) (gmin (chi a b) (chi c d))
def mhi (a b c d : Int) : Int := chi (gmax (clo a b) (clo c d)) (gmin (chi a b) (chi c d))
def emp (a b : Int) : Bool := decide (nr b < nr a)
/-- The hull, in the order of the text. -/
def hlo (a b c d : Int) : Int := if emp (clo a b) (chi a b) then clo c d else if emp (clo c d) (chi c d) then clo a b else gmin (clo a b) (clo c d)
def hhi (a b c d : Int) : Int := if emp (clo a b) (chi a b) then chi c d else if emp (clo c d) (chi c d) then chi a b else gmax (chi a b) (chi c d)
def wit (a b c d : Int) : Bool := decide (mlo a b c d = clo a b) && decide (mhi a b c d = chi a b)
def mid (a b : Int) : Int := if emp (clo a b) (chi a b) then 0 else clo a b + (chi a b - clo a b) / 2
def half (a b : Int) : Int := if emp (clo a b) (chi a b) then 0 else chi a b - mid (clo a b) (chi a b)
def wlo (a b y : Int) : Int := if emp (clo a b) (chi a b) then clo a b else clo (clo a b - gmax (nr y) 0) (chi a b + gmax (nr y) 0)
def whi (a b y : Int) : Int := if emp (clo a b) (chi a b) then chi a b else chi (clo a b - gmax (nr y) 0) (chi a b + gmax (nr y) 0)
def slo (a b y : Int) : Int := if emp (clo a b) (chi a b) then clo a b else clo (clo a b + nr y) (chi a b + nr y)
def shi (a b y : Int) : Int := if emp (clo a b) (chi a b) then chi a b else chi (clo a b + nr y) (chi a b + nr y)
theorem nr_bd (n : Int) : -4503599627370496 ≤ nr n ∧ nr n ≤ 4503599627370496 := by unfold nr; omega
theorem nr_nr (n : Int) : nr (nr n) = nr n := by unfold nr; omega
theorem clo_bd (a b : Int) : -4503599627370496 ≤ clo a b ∧ clo a b ≤ 4503599627370496 := by have := nr_bd a; have := nr_bd b; unfold clo; split <;> omega
theorem chi_bd (a b : Int) : -4503599627370496 ≤ chi a b ∧ chi a b ≤ 4503599627370496 := by have := nr_bd a; have := nr_bd b; unfold chi; split <;> omega
theorem emp_iff (a b : Int) : (decide (clo a b = 1) && decide (chi a b = 0)) = emp a b := by
  rw [Bool.eq_iff_iff]
  simp only [emp, clo, chi, Bool.and_eq_true, decide_eq_true_eq]
  by_cases h : nr b < nr a
  · simp [h]
  · simp [h]; omega
/-- What a clean interval is: empty, and then just [1, 0], or its ends are told apart and in order. -/
theorem clean_or (a b : Int) : (nr b < nr a ∧ clo a b = 1 ∧ chi a b = 0) ∨ (nr a ≤ nr b ∧ clo a b = nr a ∧ chi a b = nr b) := by
  unfold clo chi; by_cases h : nr b < nr a
  · simp [h]
  · simp [h]; omega
theorem emp_le {a b : Int} (h : emp (clo a b) (chi a b) = false) : clo a b ≤ chi a b := by
  simp only [emp, decide_eq_false_iff_not] at h
  have h1 := clo_bd a b
  have h2 := chi_bd a b
  have e1 : nr (clo a b) = clo a b := by unfold nr; omega
  have e2 : nr (chi a b) = chi a b := by unfold nr; omega
  omega
theorem mid_bd (a b : Int) : -4503599627370496 ≤ mid a b ∧ mid a b ≤ 4503599627370496 := by
  have h1 := clo_bd a b
  have h2 := chi_bd a b
  unfold mid
  cases h : emp (clo a b) (chi a b)
  · have := emp_le h
    simp only [Bool.false_eq_true, if_false]
    omega
  · simp
end Go.Proofs.Ytgpeekmagckgcaa.Pl
