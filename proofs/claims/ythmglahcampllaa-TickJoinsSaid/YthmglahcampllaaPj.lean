/- The plain law of TickJoins: steps that come to a number are as good as that number, pushed. -/
import Derived.Test.YthmglahcampllaaPt
namespace Go.Proofs.Ythmglahcampllaa.Pl
theorem run_app (a b : List (Int × Int)) : ∀ st, run (a ++ b) st = match run a st with | .ok st' => run b st' | .error c => .error c := by
  induction a with
  | nil => intro st; rfl
  | cons o a ih =>
    intro st
    simp only [List.cons_append, run]
    cases step st o.1 o.2 with
    | ok st' => exact ih st'
    | error c => rfl
theorem step_code {st : List Int} {k n c : Int} (h : step st k n = .error c) : c = 2 ∨ c = 11 := by
  unfold step at h
  repeat' split at h
  all_goals first | (cases h; done) | (injection h with h; omega)
theorem run_code (a : List (Int × Int)) : ∀ st c, run a st = .error c → c = 2 ∨ c = 11 := by
  induction a with
  | nil => intro st c h; cases h
  | cons o a ih =>
    intro st c h
    simp only [run] at h
    cases hs : step st o.1 o.2 with
    | ok st' => rw [hs] at h; exact ih st' c h
    | error c' =>
      rw [hs] at h
      injection h with h
      subst h
      exact step_code hs
theorem run_tm (a : List (Int × Int)) : ∀ st st', allTm st → run a st = .ok st' → allTm st' := by
  induction a with
  | nil => intro st st' ht h; injection h with h; exact h ▸ ht
  | cons o a ih =>
    intro st st' ht h
    simp only [run] at h
    cases hs : step st o.1 o.2 with
    | ok s => rw [hs] at h; exact ih s st' (step_tm ht hs) h
    | error c => rw [hs] at h; cases h
/-- An error comes with 0. -/
theorem eval_err {a : List (Int × Int)} (h : (eval a).2 ≠ 0) : (eval a).1 = 0 := by
  unfold eval at *
  split at h
  · rename_i hl; rw [if_pos hl]
  · rename_i hl
    rw [if_neg hl]
    split <;> simp_all
theorem joins {a b : List (Int × Int)} (ha : a.length ≤ 30) (hb : b.length ≤ 30) (h : (eval a).2 = 0) : eval (a ++ b) = eval ((1, (eval a).1) :: b) := by
  have e : eval a = match run a [] with | .ok [v] => (v, 0) | .ok _ => (0, 2) | .error c => (0, c) := by
    unfold eval
    rw [if_neg (by omega)]
    rfl
  cases hr : run a [] with
  | error c =>
    rw [hr] at e
    rw [e] at h
    have := run_code a [] c hr
    simp at h
    omega
  | ok st =>
    rw [hr] at e
    match st, hr, e with
    | [], _, e => rw [e] at h; simp at h
    | _ :: _ :: _, _, e => rw [e] at h; simp at h
    | [v], hr, e =>
      have hv : tm v = true := run_tm a [] [v] (fun x hx => by cases hx) hr v (by simp)
      have hs : step [] 1 v = .ok [v] := by simp [step, hv]
      have e1 : (eval a).1 = v := by rw [e]
      rw [e1]
      unfold eval
      rw [if_neg (by simp; omega), if_neg (by simp; omega), run_app, hr]
      simp only [run, hs]
end Go.Proofs.Ythmglahcampllaa.Pl
