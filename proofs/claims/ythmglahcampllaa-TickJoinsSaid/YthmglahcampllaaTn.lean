/- What is proved here: tick's functions answer what they come to, and the chapter's examples hold. Condition: none. -/
import Derived.Test.YthmglahcampllaaTm
import Derived.Test.YthmglahcampllaaTu
import Derived.Test.YthmglahcampllaaTx
namespace Go.Proofs.Ythmglahcampllaa
open Go Go.RowKit

theorem Below.on {W w w' : World} (h : Below W.heap.size W w) (h2 : Below w.heap.size w w') : Below W.heap.size W w' := h.trans (h2.mono h.size)

theorem add_b (a b : Int) {W w : World} (hb : Below W.heap.size W w) :
    Calls Try.prog 27 #[.int .i64 a, .int .i64 b] w fun e w' => e = .returned (.tuple #[.int .i64 (Pl.addR a b).1, .int .i64 (Pl.addR a b).2]) ∧ Below W.heap.size W w' := by
  cases h1 : Pl.tm a with
  | false =>
    have hr : Pl.addR a b = (0, 11) := by simp [Pl.addR, h1]
    rw [hr]
    exact (add_err0 a b w (Pl.tm_false.1 h1)).mono fun e w' h => ⟨h.1, Below.on hb h.2⟩
  | true =>
    have b1 := Pl.tm_true.1 h1
    cases h2 : Pl.tm b with
    | false =>
      have hr : Pl.addR a b = (0, 11) := by simp [Pl.addR, h2]
      rw [hr]
      exact (add_err1 a b w b1.1 b1.2 (Pl.tm_false.1 h2)).mono fun e w' h => ⟨h.1, Below.on hb h.2⟩
    | true =>
      have b2 := Pl.tm_true.1 h2
      cases h3 : Pl.tm (a + b) with
      | false =>
        have hr : Pl.addR a b = (0, 11) := by simp [Pl.addR, h3]
        rw [hr]
        exact (add_err2 a b w b1.1 b1.2 b2.1 b2.2 (Pl.tm_false.1 h3)).mono fun e w' h => ⟨h.1, Below.on hb h.2⟩
      | true =>
        have b3 := Pl.tm_true.1 h3
        have hr : Pl.addR a b = (a + b, 0) := by simp [Pl.addR, h1, h2, h3]
        rw [hr]
        exact (add_ret a b w b1.1 b1.2 b2.1 b2.2 b3.1 b3.2).mono fun e w' h => ⟨h.1, Below.on hb h.2⟩

theorem sub_b (a b : Int) {W w : World} (hb : Below W.heap.size W w) :
    Calls Try.prog 29 #[.int .i64 a, .int .i64 b] w fun e w' => e = .returned (.tuple #[.int .i64 (Pl.subR a b).1, .int .i64 (Pl.subR a b).2]) ∧ Below W.heap.size W w' := by
  cases h1 : Pl.tm a with
  | false =>
    have hr : Pl.subR a b = (0, 11) := by simp [Pl.subR, h1]
    rw [hr]
    exact (sub_err0 a b w (Pl.tm_false.1 h1)).mono fun e w' h => ⟨h.1, Below.on hb h.2⟩
  | true =>
    have b1 := Pl.tm_true.1 h1
    cases h2 : Pl.tm b with
    | false =>
      have hr : Pl.subR a b = (0, 11) := by simp [Pl.subR, h2]
      rw [hr]
      exact (sub_err1 a b w b1.1 b1.2 (Pl.tm_false.1 h2)).mono fun e w' h => ⟨h.1, Below.on hb h.2⟩
    | true =>
      have b2 := Pl.tm_true.1 h2
      cases h3 : Pl.tm (a - b) with
      | false =>
        have hr : Pl.subR a b = (0, 11) := by simp [Pl.subR, h3]
        rw [hr]
        exact (sub_err2 a b w b1.1 b1.2 b2.1 b2.2 (Pl.tm_false.1 h3)).mono fun e w' h => ⟨h.1, Below.on hb h.2⟩
      | true =>
        have b3 := Pl.tm_true.1 h3
        have hr : Pl.subR a b = (a - b, 0) := by simp [Pl.subR, h1, h2, h3]
        rw [hr]
        exact (sub_ret a b w b1.1 b1.2 b2.1 b2.2 b3.1 b3.2).mono fun e w' h => ⟨h.1, Below.on hb h.2⟩

theorem mul_b (a b : Int) {W w : World} (hb : Below W.heap.size W w) :
    Calls Try.prog 28 #[.int .i64 a, .int .i64 b] w fun e w' => e = .returned (.tuple #[.int .i64 (Pl.mulR a b).1, .int .i64 (Pl.mulR a b).2]) ∧ Below W.heap.size W w' := by
  cases h1 : Pl.tm a with
  | false =>
    have hr : Pl.mulR a b = (0, 11) := by simp [Pl.mulR, h1]
    rw [hr]
    exact (mul_err0 a b w (Pl.tm_false.1 h1)).mono fun e w' h => ⟨h.1, Below.on hb h.2⟩
  | true =>
    have b1 := Pl.tm_true.1 h1
    cases h2 : Pl.tm b with
    | false =>
      have hr : Pl.mulR a b = (0, 11) := by simp [Pl.mulR, h2]
      rw [hr]
      exact (mul_err1 a b w b1.1 b1.2 (Pl.tm_false.1 h2)).mono fun e w' h => ⟨h.1, Below.on hb h.2⟩
    | true =>
      have b2 := Pl.tm_true.1 h2
      cases h3 : Pl.tm (a * b) with
      | false =>
        have hr : Pl.mulR a b = (0, 11) := by simp [Pl.mulR, h3]
        rw [hr]
        exact (mul_err2 a b w b1.1 b1.2 b2.1 b2.2 (Pl.tm_false.1 h3)).mono fun e w' h => ⟨h.1, Below.on hb h.2⟩
      | true =>
        have b3 := Pl.tm_true.1 h3
        have hr : Pl.mulR a b = (a * b, 0) := by simp [Pl.mulR, h1, h2, h3]
        rw [hr]
        exact (mul_ret a b w b1.1 b1.2 b2.1 b2.2 b3.1 b3.2).mono fun e w' h => ⟨h.1, Below.on hb h.2⟩

theorem neg_b (a : Int) {W w : World} (hb : Below W.heap.size W w) :
    Calls Try.prog 30 #[.int .i64 a] w fun e w' => e = .returned (.tuple #[.int .i64 (Pl.negR a).1, .int .i64 (Pl.negR a).2]) ∧ Below W.heap.size W w' := by
  cases h1 : Pl.tm a with
  | false =>
    have hr : Pl.negR a = (0, 11) := by simp [Pl.negR, h1]
    rw [hr]
    exact (neg_err0 a w (Pl.tm_false.1 h1)).mono fun e w' h => ⟨h.1, Below.on hb h.2⟩
  | true =>
    have b1 := Pl.tm_true.1 h1
    have hr : Pl.negR a = (-a, 0) := by simp [Pl.negR, h1]
    rw [hr]
    exact (neg_ret a w b1.1 b1.2).mono fun e w' h => ⟨h.1, Below.on hb h.2⟩

theorem scale_b (t n d : Int) {W w : World} (hb : Below W.heap.size W w) :
    Calls Try.prog 31 #[.int .i64 t, .int .i64 n, .int .i64 d] w fun e w' => e = .returned (.tuple #[.int .i64 (Pl.scaleR t n d).1, .int .i64 (Pl.scaleR t n d).2]) ∧ Below W.heap.size W w' := by
  by_cases hg : n < -4096 ∨ 4096 < n ∨ d < 1 ∨ 4096 < d
  · have hr : Pl.scaleR t n d = (0, 2) := by unfold Pl.scaleR; rw [if_pos hg]
    rw [hr]
    by_cases g1 : n < -4096
    · exact (scale_arg0 t n d w g1).mono fun e w' h => ⟨h.1, Below.on hb h.2⟩
    by_cases g2 : 4096 < n
    · exact (scale_arg1 t n d w g1 g2).mono fun e w' h => ⟨h.1, Below.on hb h.2⟩
    by_cases g3 : d < 1
    · exact (scale_arg2 t n d w g1 g2 g3).mono fun e w' h => ⟨h.1, Below.on hb h.2⟩
    exact (scale_arg3 t n d w g1 g2 g3 (by omega)).mono fun e w' h => ⟨h.1, Below.on hb h.2⟩
  · have n1 : -4096 ≤ n := by omega
    have n2 : n ≤ 4096 := by omega
    have d1 : 1 ≤ d := by omega
    have d2 : d ≤ 4096 := by omega
    cases ht : Pl.tm t with
    | false =>
      have hr : Pl.scaleR t n d = (0, 11) := by unfold Pl.scaleR; rw [if_neg hg, ht]; simp
      rw [hr]
      exact (scale_err0 t n d w n1 n2 d1 d2 (Pl.tm_false.1 ht)).mono fun e w' h => ⟨h.1, Below.on hb h.2⟩
    | true =>
      have bt := Pl.tm_true.1 ht
      cases hq : Pl.tm (t * n / d) with
      | false =>
        have hr : Pl.scaleR t n d = (0, 11) := by unfold Pl.scaleR; rw [if_neg hg, ht, hq]; simp
        rw [hr]
        exact (scale_err1 t n d w n1 n2 d1 d2 bt.1 bt.2 (Pl.tm_false.1 hq)).mono fun e w' h => ⟨h.1, Below.on hb h.2⟩
      | true =>
        have bq := Pl.tm_true.1 hq
        have hr : Pl.scaleR t n d = (t * n / d, 0) := by unfold Pl.scaleR; rw [if_neg hg, ht, hq]; simp
        rw [hr]
        exact (scale_ret t n d w n1 n2 d1 d2 bt.1 bt.2 bq.1 bq.2).mono fun e w' h => ⟨h.1, Below.on hb h.2⟩

theorem eval_b (v : Value) (os : List (Int × Int)) {W w : World} (h : Ops v os w) (hb : Below W.heap.size W w) :
    Calls Try.prog 18 #[v] w fun e w' => e = .returned (.tuple #[.int .i64 (Pl.eval os).1, .int .i64 (Pl.eval os).2]) ∧ Below W.heap.size W w' :=
  (eval_any v os w h).mono fun _e _w' h => ⟨h.1, Below.on hb h.2⟩

theorem awake_eval : Pl.eval [(1, 3), (1, 4), (4, 0), (7, 0)] = (-12, 0) := by decide
theorem awake_add : Pl.addR 1125899906842624 1 = (0, 11) := by decide

theorem awake_ops (w : World) : Ops (.slice (some ⟨w.heap.size, 0, none⟩) 4 4) [(1, 3), (1, 4), (4, 0), (7, 0)] (w.alloc (Obj.cells #[.int .i64 1, .int .i64 3, .int .i64 1, .int .i64 4, .int .i64 4, .int .i64 0, .int .i64 7, .int .i64 0] 43)) := by
  refine .inr ⟨w.heap.size, 4, rfl, by simp, Nat.le_refl _, by decide, ?_⟩
  intro i hi
  match i, hi with
  | 0, _ => exact ⟨by go_simp, by go_simp⟩
  | 1, _ => exact ⟨by go_simp, by go_simp⟩
  | 2, _ => exact ⟨by go_simp, by go_simp⟩
  | 3, _ => exact ⟨by go_simp, by go_simp⟩

set_option maxRecDepth 20000 in
set_option maxHeartbeats 1000000 in
theorem awake_b {W w : World} (hb : Below W.heap.size W w) :
    Calls Try.prog 17 #[] w fun e w' => e = .returned (.bool true) ∧ Below W.heap.size W w' := by
  go_enter Try.func17, Try.ntmps17
  go_wp2_with fail
  refine (eval_b _ _ (awake_ops w) (hb.alloc hb.size _)).mono ?_
  rw [awake_eval]
  rintro e w1 ⟨rfl, hb1⟩
  go_wp2_with (go_at_call 27; refine (add_b _ _ (by assumption)).mono ?_; rw [awake_add]; rintro e w' ⟨rfl, hb2⟩)
  go_ret
  exact ⟨rfl, by assumption⟩
end Go.Proofs.Ythmglahcampllaa
