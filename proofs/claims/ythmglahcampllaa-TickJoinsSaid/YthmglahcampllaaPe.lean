/- The plain reckoning of package tick: a stack (its top first), steps, errors. -/
namespace Go.Proofs.Ythmglahcampllaa.Pl
/-- A time. -/
def tm (n : Int) : Bool := decide (-1125899906842624 ≤ n) && decide (n ≤ 1125899906842624)
theorem tm_true {n : Int} : tm n = true ↔ -1125899906842624 ≤ n ∧ n ≤ 1125899906842624 := by simp [tm]
theorem tm_false {n : Int} : tm n = false ↔ n < -1125899906842624 ∨ 1125899906842624 < n := by
  rw [← Bool.not_eq_true, tm_true]; omega
/-- Two numbers, the second one the top. -/
def two (k x y : Int) : Int :=
  if k = 2 then x + y else if k = 3 then x - y else if k = 4 then x * y else if k = 5 then (if y < x then y else x) else (if x < y then y else x)
/-- A step: the new stack, or an error. -/
def step (st : List Int) (k n : Int) : Except Int (List Int) :=
  if k = 1 then (if tm n then .ok (n :: st) else .error 11)
  else if k = 7 then (match st with | [] => .error 2 | x :: r => .ok (-x :: r))
  else if 2 ≤ k ∧ k ≤ 6 then (match st with | y :: x :: r => (if tm (two k x y) then .ok (two k x y :: r) else .error 11) | _ => .error 2)
  else .error 2
def run : List (Int × Int) → List Int → Except Int (List Int)
  | [], st => .ok st
  | (k, n) :: os, st => match step st k n with | .ok st' => run os st' | .error c => .error c
/-- What steps come to: a number, an error. -/
def eval (os : List (Int × Int)) : Int × Int :=
  if 64 < os.length then (0, 3) else match run os [] with | .ok [v] => (v, 0) | .ok _ => (0, 2) | .error c => (0, c)
def allTm (st : List Int) : Prop := ∀ x ∈ st, tm x = true
theorem step_tm {st st' : List Int} {k n : Int} (h : allTm st) (hs : step st k n = .ok st') : allTm st' := by
  unfold step at hs
  by_cases h1 : k = 1
  · rw [if_pos h1] at hs
    split at hs <;> cases hs
    intro x hx
    rcases List.mem_cons.1 hx with rfl | hx
    · assumption
    · exact h x hx
  · rw [if_neg h1] at hs
    by_cases h7 : k = 7
    · rw [if_pos h7] at hs
      split at hs <;> cases hs
      rename_i x r
      intro y hy
      rcases List.mem_cons.1 hy with rfl | hy
      · have := tm_true.1 (h x (by simp))
        exact tm_true.2 (by omega)
      · exact h y (by simp [hy])
    · rw [if_neg h7] at hs
      by_cases hk : 2 ≤ k ∧ k ≤ 6
      · rw [if_pos hk] at hs
        split at hs
        · split at hs <;> cases hs
          intro z hz
          rcases List.mem_cons.1 hz with rfl | hz
          · assumption
          · exact h z (by simp [hz])
        · cases hs
      · rw [if_neg hk] at hs; cases hs
theorem step_len {st st' : List Int} {k n : Int} (hs : step st k n = .ok st') : st'.length ≤ st.length + 1 := by
  unfold step at hs
  by_cases h1 : k = 1
  · rw [if_pos h1] at hs
    split at hs <;> cases hs
    simp
  · rw [if_neg h1] at hs
    by_cases h7 : k = 7
    · rw [if_pos h7] at hs
      split at hs <;> cases hs
      simp
    · rw [if_neg h7] at hs
      by_cases hk : 2 ≤ k ∧ k ≤ 6
      · rw [if_pos hk] at hs
        split at hs
        · split at hs <;> cases hs
          simp
        · cases hs
      · rw [if_neg hk] at hs; cases hs
theorem run_snoc (os : List (Int × Int)) (k n : Int) : ∀ st, run (os ++ [(k, n)]) st = (match run os st with | .ok st' => step st' k n | .error c => .error c) := by
  induction os with
  | nil => intro st; simp only [List.nil_append, run]; cases step st k n <;> rfl
  | cons o os ih =>
    intro st
    simp only [List.cons_append, run]
    cases step st o.1 o.2 with
    | ok st' => exact ih st'
    | error c => rfl
/-- An error once met stays. -/
theorem run_err (os os' : List (Int × Int)) (c : Int) : ∀ st, run os st = .error c → run (os ++ os') st = .error c := by
  induction os with
  | nil => intro st h; cases h
  | cons o os ih =>
    intro st h
    simp only [List.cons_append, run] at h ⊢
    cases hs : step st o.1 o.2 with
    | ok st' => rw [hs] at h; exact ih st' h
    | error c' => rw [hs] at h; exact h
end Go.Proofs.Ythmglahcampllaa.Pl
