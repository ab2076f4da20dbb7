/- What is proved here: a step of package tick's reckoning does to the pile what the plain step does to a stack of times. Condition: there are at most 900 numbers. -/
import Derived.Test.YthmglahcampllaaTs
import Derived.Test.YthmglahcampllaaPe
namespace Go.Proofs.Ythmglahcampllaa
open Go Go.RowKit

abbrev thrown (c : Int) : Ending := .panicked [{ v := .iface 34 (.int .i64 c), recovered := false }]

def StepPost (B b : Nat) (r : Except Int (List Int)) (w : World) (e : Ending) (w' : World) : Prop :=
  Below B w w' ∧ match r with
    | .ok st => e = .returned (.tuple #[]) ∧ Pile B b st.reverse w'
    | .error c => e = thrown c

theorem ne_beq {k m : Int} (h : ¬ k = m) : (k == m) = false := by simpa using h

theorem okk {B b : Nat} {st st' : List Int} {k n : Int} {w w' : World} {e : Ending} (hs : Pl.step st k n = .ok st') (h : e = .returned (.tuple #[]) ∧ Pile B b st'.reverse w' ∧ Below B w w') : StepPost B b (Pl.step st k n) w e w' := by
  unfold StepPost
  rw [hs]
  exact ⟨h.2.2, h.1, h.2.1⟩
theorem err {B b : Nat} {st : List Int} {k n c : Int} {w w' : World} {e : Ending} (hs : Pl.step st k n = .error c) (h : e = thrown c ∧ Below B w w') : StepPost B b (Pl.step st k n) w e w' := by
  unfold StepPost
  rw [hs]
  exact ⟨h.2, h.1⟩

theorem step_any (B b : Nat) (st : List Int) (k n : Int) (w : World) (hB : B ≤ w.heap.size) (hl : st.length ≤ 900) (hp : Pile B b st.reverse w) (ht : Pl.allTm st) :
    Calls Try.prog 54 #[.pointer (some ⟨b, 0, none⟩), .agg #[.int .i64 k, .int .i64 n]] w (StepPost B b (Pl.step st k n) w) := by
  by_cases k1 : k = 1
  · subst k1
    by_cases hn : Pl.tm n = true
    · have h := Pl.tm_true.1 hn
      exact (step1_ok B b st.reverse n 0 0 w hB (by simp; omega) hp h.1 h.2).mono fun e w' h' => okk (st' := n :: st) (by simp [Pl.step, hn]) (by simpa using h')
    · have h := Pl.tm_false.1 (by simpa using hn)
      exact (step1_over B b st.reverse n 0 0 w hB (by simp; omega) hp h).mono fun e w' h' => err (c := 11) (by simp [Pl.step, hn]) h'
  by_cases k7 : k = 7
  · subst k7
    cases st with
    | nil => exact (step7_empty B b [] n 0 0 w hB (by simp) hp).mono fun e w' h' => err (c := 2) (by simp [Pl.step]) h'
    | cons x r =>
      have h := Pl.tm_true.1 (ht x (by simp))
      exact (step7_ok B b r.reverse n x 0 w hB (by simp at hl ⊢; omega) (by simpa using hp) h.1 h.2).mono fun e w' h' => okk (st' := -x :: r) (by simp [Pl.step]) (by simpa using h')
  by_cases hk : 2 ≤ k ∧ k ≤ 6
  · match st, hl, hp, ht with
    | [], hl, hp, ht =>
      have hs : Pl.step [] k n = .error 2 := by simp [Pl.step, k1, k7, hk]
      have : k = 2 ∨ k = 3 ∨ k = 4 ∨ k = 5 ∨ k = 6 := by omega
      rcases this with rfl | rfl | rfl | rfl | rfl
      · exact (step2_none B b [] n 0 0 w hB (by simp) hp).mono fun e w' h' => err hs h'
      · exact (step3_none B b [] n 0 0 w hB (by simp) hp).mono fun e w' h' => err hs h'
      · exact (step4_none B b [] n 0 0 w hB (by simp) hp).mono fun e w' h' => err hs h'
      · exact (step5_none B b [] n 0 0 w hB (by simp) hp).mono fun e w' h' => err hs h'
      · exact (step6_none B b [] n 0 0 w hB (by simp) hp).mono fun e w' h' => err hs h'
    | [x], hl, hp, ht =>
      have hs : Pl.step [x] k n = .error 2 := by simp [Pl.step, k1, k7, hk]
      have : k = 2 ∨ k = 3 ∨ k = 4 ∨ k = 5 ∨ k = 6 := by omega
      rcases this with rfl | rfl | rfl | rfl | rfl
      · exact (step2_one B b [] n x 0 w hB (by simp) hp).mono fun e w' h' => err hs h'
      · exact (step3_one B b [] n x 0 w hB (by simp) hp).mono fun e w' h' => err hs h'
      · exact (step4_one B b [] n x 0 w hB (by simp) hp).mono fun e w' h' => err hs h'
      · exact (step5_one B b [] n x 0 w hB (by simp) hp).mono fun e w' h' => err hs h'
      · exact (step6_one B b [] n x 0 w hB (by simp) hp).mono fun e w' h' => err hs h'
    | y :: x :: r, hl, hp, ht =>
      have hx := Pl.tm_true.1 (ht x (by simp))
      have hy := Pl.tm_true.1 (ht y (by simp))
      have hp' : Pile B b (r.reverse ++ [x, y]) w := by simpa using hp
      have hl' : r.reverse.length ≤ 990 := by simp at hl ⊢; omega
      have fin : Pl.tm (Pl.two k x y) = true → ∀ {e : Ending} {w' : World}, (e = .returned (.tuple #[]) ∧ Pile B b (r.reverse ++ [Pl.two k x y]) w' ∧ Below B w w') → StepPost B b (Pl.step (y :: x :: r) k n) w e w' := by
        intro ht2 e w' h'
        exact okk (st' := Pl.two k x y :: r) (by simp [Pl.step, k1, k7, hk, ht2]) (by simpa using h')
      have bad : Pl.tm (Pl.two k x y) = false → ∀ {e : Ending} {w' : World}, (e = thrown 11 ∧ Below B w w') → StepPost B b (Pl.step (y :: x :: r) k n) w e w' := by
        intro ht2 e w' h'
        exact err (c := 11) (by simp [Pl.step, k1, k7, hk, ht2]) h'
      have : k = 2 ∨ k = 3 ∨ k = 4 ∨ k = 5 ∨ k = 6 := by omega
      rcases this with rfl | rfl | rfl | rfl | rfl
      · cases h2 : Pl.tm (Pl.two 2 x y)
        · exact (step2_over B b r.reverse n x y w hB hl' hp' hx.1 hx.2 hy.1 hy.2 (Pl.tm_false.1 h2)).mono fun e w' h' => bad h2 h'
        · have h3 := Pl.tm_true.1 h2
          exact (step2_ok B b r.reverse n x y w hB hl' hp' hx.1 hx.2 hy.1 hy.2 h3.1 h3.2).mono fun e w' h' => fin h2 h'
      · cases h2 : Pl.tm (Pl.two 3 x y)
        · exact (step3_over B b r.reverse n x y w hB hl' hp' hx.1 hx.2 hy.1 hy.2 (Pl.tm_false.1 h2)).mono fun e w' h' => bad h2 h'
        · have h3 := Pl.tm_true.1 h2
          exact (step3_ok B b r.reverse n x y w hB hl' hp' hx.1 hx.2 hy.1 hy.2 h3.1 h3.2).mono fun e w' h' => fin h2 h'
      · cases h2 : Pl.tm (Pl.two 4 x y)
        · exact (step4_over B b r.reverse n x y w hB hl' hp' hx.1 hx.2 hy.1 hy.2 (Pl.tm_false.1 h2)).mono fun e w' h' => bad h2 h'
        · have h3 := Pl.tm_true.1 h2
          exact (step4_ok B b r.reverse n x y w hB hl' hp' hx.1 hx.2 hy.1 hy.2 h3.1 h3.2).mono fun e w' h' => fin h2 h'
      · have h2 : Pl.tm (Pl.two 5 x y) = true := Pl.tm_true.2 (by simp [Pl.two]; split <;> omega)
        exact (step5_ok B b r.reverse n x y w hB hl' hp' hx.1 hx.2 hy.1 hy.2).mono fun e w' h' => fin h2 (by simpa [Pl.two] using h')
      · have h2 : Pl.tm (Pl.two 6 x y) = true := Pl.tm_true.2 (by simp [Pl.two]; split <;> omega)
        exact (step6_ok B b r.reverse n x y w hB hl' hp' hx.1 hx.2 hy.1 hy.2).mono fun e w' h' => fin h2 (by simpa [Pl.two] using h')
  · exact (step_bad B b st.reverse n k 0 0 w hB (by simp; omega) hp (ne_beq k1) (ne_beq (by omega)) (ne_beq (by omega)) (ne_beq (by omega)) (ne_beq (by omega)) (ne_beq (by omega)) (ne_beq k7)).mono fun e w' h' => err (c := 2) (by simp [Pl.step, k1, k7, hk]) h'
end Go.Proofs.Ythmglahcampllaa
