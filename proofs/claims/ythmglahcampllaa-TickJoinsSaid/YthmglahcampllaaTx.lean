/- What is proved here: products and ratios of package tick. Condition: where it is said. -/
import Derived.Test.YthmglahcampllaaTw
import Derived.Test.YthmglahcampllaaPl
import Derived.IntWalk
import Derived.Lib.Hide
namespace Go.Proofs.Ythmglahcampllaa
open Go Go.RowKit

set_option maxHeartbeats 1000000 in
theorem mul_ok (a b : Int) (w : World) (p1 : -1125899906842624 ≤ a) (p2 : a ≤ 1125899906842624) (q1 : -1125899906842624 ≤ b) (q2 : b ≤ 1125899906842624) (r1 : -1125899906842624 ≤ a * b) (r2 : a * b ≤ 1125899906842624) :
    Calls Try.prog 65 #[.int .i64 a, .int .i64 b] w fun e w' => e = .returned (.int .i64 (a * b)) ∧ w = w' := by
  rcases Int.lt_trichotomy a 0 with ha | ha | ha
  · rcases Int.lt_trichotomy b 0 with hb | hb | hb
    · have e := Pl.tdiv_neg_M ha (by omega)
      have h := Pl.div_ok (x := -a) (y := -b) (by omega) (by rw [Int.neg_mul_neg]; exact r2)
      rw [Int.ediv_neg] at h
      have h' : ¬ b < 1125899906842624 / a := by omega
      have na : (a != 0) = true := by rw [bne_iff_ne]; omega
      have nb : (b != 0) = true := by rw [bne_iff_ne]; omega
      clear h
      go_enter Try.func65, Try.ntmps65
      go_wp2_with (go_at_call 71; refine (time_ok _ _ (by omega) (by omega)).mono ?_; rintro e w' ⟨rfl, rfl⟩)
      go_ret
      exact ⟨rfl, rfl⟩
    · subst hb
      have na : (a != 0) = true := by rw [bne_iff_ne]; omega
      go_enter Try.func65, Try.ntmps65
      go_wp2_with (go_at_call 71; refine (time_ok _ _ (by omega) (by omega)).mono ?_; rintro e w' ⟨rfl, rfl⟩)
      go_ret
      exact ⟨by simp, rfl⟩
    · have e := Pl.tdiv_neg_M ha (by omega)
      have h := Pl.div_ok (x := -a) (y := b) (by omega) (by rw [Int.neg_mul]; omega)
      rw [Int.ediv_neg] at h
      have na : (a != 0) = true := by rw [bne_iff_ne]; omega
      have nb : (b != 0) = true := by rw [bne_iff_ne]; omega
      go_enter Try.func65, Try.ntmps65
      go_wp2_with (go_at_call 71; refine (time_ok _ _ (by omega) (by omega)).mono ?_; rintro e w' ⟨rfl, rfl⟩)
      go_ret
      exact ⟨rfl, rfl⟩
  · subst ha
    go_enter Try.func65, Try.ntmps65
    go_wp2_with (go_at_call 71; refine (time_ok _ _ (by omega) (by omega)).mono ?_; rintro e w' ⟨rfl, rfl⟩)
    go_ret
    exact ⟨by simp, rfl⟩
  · rcases Int.lt_trichotomy b 0 with hb | hb | hb
    · have h := Pl.div_ok (x := a) (y := -b) (by omega) (by rw [Int.mul_neg]; omega)
      have na : (a != 0) = true := by rw [bne_iff_ne]; omega
      have nb : (b != 0) = true := by rw [bne_iff_ne]; omega
      go_enter Try.func65, Try.ntmps65
      go_wp2_with (go_at_call 71; refine (time_ok _ _ (by omega) (by omega)).mono ?_; rintro e w' ⟨rfl, rfl⟩)
      go_ret
      exact ⟨rfl, rfl⟩
    · subst hb
      have na : (a != 0) = true := by rw [bne_iff_ne]; omega
      go_enter Try.func65, Try.ntmps65
      go_wp2_with (go_at_call 71; refine (time_ok _ _ (by omega) (by omega)).mono ?_; rintro e w' ⟨rfl, rfl⟩)
      go_ret
      exact ⟨by simp, rfl⟩
    · have h := Pl.div_ok (x := a) (y := b) (by omega) r2
      have na : (a != 0) = true := by rw [bne_iff_ne]; omega
      have nb : (b != 0) = true := by rw [bne_iff_ne]; omega
      go_enter Try.func65, Try.ntmps65
      go_wp2_with (go_at_call 71; refine (time_ok _ _ (by omega) (by omega)).mono ?_; rintro e w' ⟨rfl, rfl⟩)
      go_ret
      exact ⟨rfl, rfl⟩

theorem mul_over0 (a b : Int) (w : World) (h : a < -1125899906842624 ∨ 1125899906842624 < a) :
    Calls Try.prog 65 #[.int .i64 a, .int .i64 b] w fun e w' => e = over ∧ w = w' := by
  go_enter Try.func65, Try.ntmps65
  go_wp2_with (go_at_call 71; refine (time_over _ _ (by omega)).mono ?_; rintro e w' ⟨rfl, rfl⟩)
  exact ⟨rfl, rfl, rfl⟩
theorem mul_over1 (a b : Int) (w : World) (p1 : -1125899906842624 ≤ a) (p2 : a ≤ 1125899906842624) (h : b < -1125899906842624 ∨ 1125899906842624 < b) :
    Calls Try.prog 65 #[.int .i64 a, .int .i64 b] w fun e w' => e = over ∧ w = w' := by
  go_enter Try.func65, Try.ntmps65
  go_wp2_with (go_at_call 71; first | (refine (time_ok _ _ (by omega) (by omega)).mono ?_; rintro e w' ⟨rfl, rfl⟩) | (refine (time_over _ _ (by omega)).mono ?_; rintro e w' ⟨rfl, rfl⟩))
  exact ⟨rfl, rfl, rfl⟩
set_option maxHeartbeats 1000000 in
theorem mul_over2 (a b : Int) (w : World) (p1 : -1125899906842624 ≤ a) (p2 : a ≤ 1125899906842624) (q1 : -1125899906842624 ≤ b) (q2 : b ≤ 1125899906842624) (h : a * b < -1125899906842624 ∨ 1125899906842624 < a * b) :
    Calls Try.prog 65 #[.int .i64 a, .int .i64 b] w fun e w' => e = over ∧ w = w' := by
  rcases Int.lt_trichotomy a 0 with ha | ha | ha
  · rcases Int.lt_trichotomy b 0 with hb | hb | hb
    · have e := Pl.tdiv_neg_M ha (by omega)
      have h0 := Int.mul_pos (a := -a) (b := -b) (by omega) (by omega)
      rw [Int.neg_mul_neg] at h0
      have h1 := Pl.div_over (x := -a) (y := -b) (by omega) (by rw [Int.neg_mul_neg]; omega)
      rw [Int.ediv_neg] at h1
      have h2 : b < 1125899906842624 / a := by omega
      have na : (a != 0) = true := by rw [bne_iff_ne]; omega
      have nb : (b != 0) = true := by rw [bne_iff_ne]; omega
      clear h h0 h1
      go_enter Try.func65, Try.ntmps65
      go_wp2_with (go_at_call 71; refine (time_ok _ _ (by omega) (by omega)).mono ?_; rintro e w' ⟨rfl, rfl⟩)
      exact ⟨rfl, rfl, rfl⟩
    · subst hb; simp at h
    · have e := Pl.tdiv_neg_M ha (by omega)
      have h0 := Int.mul_pos (a := -a) (b := b) (by omega) (by omega)
      rw [Int.neg_mul] at h0
      have h1 := Pl.div_over (x := -a) (y := b) (by omega) (by rw [Int.neg_mul]; omega)
      rw [Int.ediv_neg] at h1
      have na : (a != 0) = true := by rw [bne_iff_ne]; omega
      have nb : (b != 0) = true := by rw [bne_iff_ne]; omega
      clear h h0
      go_enter Try.func65, Try.ntmps65
      go_wp2_with (go_at_call 71; refine (time_ok _ _ (by omega) (by omega)).mono ?_; rintro e w' ⟨rfl, rfl⟩)
      exact ⟨rfl, rfl, rfl⟩
  · subst ha; simp at h
  · rcases Int.lt_trichotomy b 0 with hb | hb | hb
    · have h0 := Int.mul_pos (a := a) (b := -b) (by omega) (by omega)
      rw [Int.mul_neg] at h0
      have h1 := Pl.div_over (x := a) (y := -b) (by omega) (by rw [Int.mul_neg]; omega)
      have na : (a != 0) = true := by rw [bne_iff_ne]; omega
      have nb : (b != 0) = true := by rw [bne_iff_ne]; omega
      clear h h0
      go_enter Try.func65, Try.ntmps65
      go_wp2_with (go_at_call 71; refine (time_ok _ _ (by omega) (by omega)).mono ?_; rintro e w' ⟨rfl, rfl⟩)
      exact ⟨rfl, rfl, rfl⟩
    · subst hb; simp at h
    · have h0 := Int.mul_pos (a := a) (b := b) (by omega) (by omega)
      have h1 := Pl.div_over (x := a) (y := b) (by omega) (by omega)
      have na : (a != 0) = true := by rw [bne_iff_ne]; omega
      have nb : (b != 0) = true := by rw [bne_iff_ne]; omega
      clear h h0
      go_enter Try.func65, Try.ntmps65
      go_wp2_with (go_at_call 71; refine (time_ok _ _ (by omega) (by omega)).mono ?_; rintro e w' ⟨rfl, rfl⟩)
      exact ⟨rfl, rfl, rfl⟩

theorem mul_ret (a b : Int) (w : World) (p1 : -1125899906842624 ≤ a) (p2 : a ≤ 1125899906842624) (q1 : -1125899906842624 ≤ b) (q2 : b ≤ 1125899906842624) (r1 : -1125899906842624 ≤ a * b) (r2 : a * b ≤ 1125899906842624) :
    Calls Try.prog 28 #[.int .i64 a, .int .i64 b] w fun e w' => e = .returned (.tuple #[.int .i64 (a * b), .int .i64 0]) ∧ Below w.heap.size w w' := by
  have hmf : ∀ (fn : Fn) (first cap : Array Value) (w : World), (Instr.makeFunc fn first cap).run Try.prog w = .ok (.func fn first cap) w := fun _ _ _ _ => rfl
  go_enter_defers Try.func28, Try.ntmps28
  go_wp2_with (go_at_call 65; refine (mul_ok _ _ _ p1 p2 q1 q2 r1 r2).mono ?_; rintro e w' ⟨rfl, rfl⟩)
  refine leaves_cons (f := 64) (args := #[.pointer (some ⟨w.heap.size, 0, none⟩), .pointer (some ⟨w.heap.size + 1, 0, none⟩)]) (by simp) (by simp [go_sem]) ?_
  refine (catch_nil64 _ _ _).mono ?_
  rintro e u' w'' ⟨rfl, rfl, rfl⟩
  simp [Leaves, settle, results, Try.results28, go_sem]
  (repeat' (first | (with_reducible exact Below.refl _ _) | (with_reducible assumption) | (with_reducible refine Below.alloc ?_ ?_ _) | (with_reducible refine Below.drew ?_) | (with_reducible refine Below.setCell ?_ ?_ _) | go_size))

theorem mul_err0 (a b : Int) (w : World) (h : a < -1125899906842624 ∨ 1125899906842624 < a) :
    Calls Try.prog 28 #[.int .i64 a, .int .i64 b] w fun e w' => e = .returned (.tuple #[.int .i64 0, .int .i64 11]) ∧ Below w.heap.size w w' := by
  have hmf : ∀ (fn : Fn) (first cap : Array Value) (w : World), (Instr.makeFunc fn first cap).run Try.prog w = .ok (.func fn first cap) w := fun _ _ _ _ => rfl
  go_enter_defers Try.func28, Try.ntmps28
  go_wp2_with (go_at_call 65; refine (mul_over0 _ _ _ h).mono ?_; rintro e w' ⟨rfl, rfl⟩)
  refine leaves_cons (f := 64) (args := #[.pointer (some ⟨w.heap.size, 0, none⟩), .pointer (some ⟨w.heap.size + 1, 0, none⟩)]) (by simp) (by simp [go_sem]) ?_
  refine (catch_err64 _ 0 0 11 [] _ ?_ ?_ ?_ ?_).mono ?_
  · simp [go_sem]
  · simp [go_sem]
  · simp [go_sem]
  · simp [go_sem]
  rintro e u' w'' ⟨rfl, rfl, rfl⟩
  simp [Leaves, settle, results, Try.results28, go_sem]
  (repeat' (first | (with_reducible exact Below.refl _ _) | (with_reducible assumption) | (with_reducible refine Below.alloc ?_ ?_ _) | (with_reducible refine Below.drew ?_) | (with_reducible refine Below.setCell ?_ ?_ _) | go_size))

theorem mul_err1 (a b : Int) (w : World) (p1 : -1125899906842624 ≤ a) (p2 : a ≤ 1125899906842624) (h : b < -1125899906842624 ∨ 1125899906842624 < b) :
    Calls Try.prog 28 #[.int .i64 a, .int .i64 b] w fun e w' => e = .returned (.tuple #[.int .i64 0, .int .i64 11]) ∧ Below w.heap.size w w' := by
  have hmf : ∀ (fn : Fn) (first cap : Array Value) (w : World), (Instr.makeFunc fn first cap).run Try.prog w = .ok (.func fn first cap) w := fun _ _ _ _ => rfl
  go_enter_defers Try.func28, Try.ntmps28
  go_wp2_with (go_at_call 65; refine (mul_over1 _ _ _ p1 p2 h).mono ?_; rintro e w' ⟨rfl, rfl⟩)
  refine leaves_cons (f := 64) (args := #[.pointer (some ⟨w.heap.size, 0, none⟩), .pointer (some ⟨w.heap.size + 1, 0, none⟩)]) (by simp) (by simp [go_sem]) ?_
  refine (catch_err64 _ 0 0 11 [] _ ?_ ?_ ?_ ?_).mono ?_
  · simp [go_sem]
  · simp [go_sem]
  · simp [go_sem]
  · simp [go_sem]
  rintro e u' w'' ⟨rfl, rfl, rfl⟩
  simp [Leaves, settle, results, Try.results28, go_sem]
  (repeat' (first | (with_reducible exact Below.refl _ _) | (with_reducible assumption) | (with_reducible refine Below.alloc ?_ ?_ _) | (with_reducible refine Below.drew ?_) | (with_reducible refine Below.setCell ?_ ?_ _) | go_size))

theorem mul_err2 (a b : Int) (w : World) (p1 : -1125899906842624 ≤ a) (p2 : a ≤ 1125899906842624) (q1 : -1125899906842624 ≤ b) (q2 : b ≤ 1125899906842624) (h : a * b < -1125899906842624 ∨ 1125899906842624 < a * b) :
    Calls Try.prog 28 #[.int .i64 a, .int .i64 b] w fun e w' => e = .returned (.tuple #[.int .i64 0, .int .i64 11]) ∧ Below w.heap.size w w' := by
  have hmf : ∀ (fn : Fn) (first cap : Array Value) (w : World), (Instr.makeFunc fn first cap).run Try.prog w = .ok (.func fn first cap) w := fun _ _ _ _ => rfl
  go_enter_defers Try.func28, Try.ntmps28
  go_wp2_with (go_at_call 65; refine (mul_over2 _ _ _ p1 p2 q1 q2 h).mono ?_; rintro e w' ⟨rfl, rfl⟩)
  refine leaves_cons (f := 64) (args := #[.pointer (some ⟨w.heap.size, 0, none⟩), .pointer (some ⟨w.heap.size + 1, 0, none⟩)]) (by simp) (by simp [go_sem]) ?_
  refine (catch_err64 _ 0 0 11 [] _ ?_ ?_ ?_ ?_).mono ?_
  · simp [go_sem]
  · simp [go_sem]
  · simp [go_sem]
  · simp [go_sem]
  rintro e u' w'' ⟨rfl, rfl, rfl⟩
  simp [Leaves, settle, results, Try.results28, go_sem]
  (repeat' (first | (with_reducible exact Below.refl _ _) | (with_reducible assumption) | (with_reducible refine Below.alloc ?_ ?_ _) | (with_reducible refine Below.drew ?_) | (with_reducible refine Below.setCell ?_ ?_ _) | go_size))

theorem scale_arg0 (t n d : Int) (w : World)  (h : n < -4096) :
    Calls Try.prog 31 #[.int .i64 t, .int .i64 n, .int .i64 d] w fun e w' => e = .returned (.tuple #[.int .i64 0, .int .i64 2]) ∧ Below w.heap.size w w' := by
  have hmf : ∀ (fn : Fn) (first cap : Array Value) (w : World), (Instr.makeFunc fn first cap).run Try.prog w = .ok (.func fn first cap) w := fun _ _ _ _ => rfl
  go_enter_defers Try.func31, Try.ntmps31
  go_wp2_with (fail)
  refine leaves_cons (f := 70) (args := #[.pointer (some ⟨w.heap.size, 0, none⟩), .pointer (some ⟨w.heap.size + 1, 0, none⟩)]) (by simp) (by simp [go_sem]) ?_
  refine (catch_err70 _ 0 0 2 [] _ ?_ ?_ ?_ ?_).mono ?_
  · simp [go_sem]
  · simp [go_sem]
  · simp [go_sem]
  · simp [go_sem]
  rintro e u' w'' ⟨rfl, rfl, rfl⟩
  simp [Leaves, settle, results, Try.results31, go_sem]
  (repeat' (first | (with_reducible exact Below.refl _ _) | (with_reducible assumption) | (with_reducible refine Below.alloc ?_ ?_ _) | (with_reducible refine Below.drew ?_) | (with_reducible refine Below.setCell ?_ ?_ _) | go_size))

theorem scale_arg1 (t n d : Int) (w : World) (c0 : ¬ n < -4096) (h : 4096 < n) :
    Calls Try.prog 31 #[.int .i64 t, .int .i64 n, .int .i64 d] w fun e w' => e = .returned (.tuple #[.int .i64 0, .int .i64 2]) ∧ Below w.heap.size w w' := by
  have hmf : ∀ (fn : Fn) (first cap : Array Value) (w : World), (Instr.makeFunc fn first cap).run Try.prog w = .ok (.func fn first cap) w := fun _ _ _ _ => rfl
  go_enter_defers Try.func31, Try.ntmps31
  go_wp2_with (fail)
  refine leaves_cons (f := 70) (args := #[.pointer (some ⟨w.heap.size, 0, none⟩), .pointer (some ⟨w.heap.size + 1, 0, none⟩)]) (by simp) (by simp [go_sem]) ?_
  refine (catch_err70 _ 0 0 2 [] _ ?_ ?_ ?_ ?_).mono ?_
  · simp [go_sem]
  · simp [go_sem]
  · simp [go_sem]
  · simp [go_sem]
  rintro e u' w'' ⟨rfl, rfl, rfl⟩
  simp [Leaves, settle, results, Try.results31, go_sem]
  (repeat' (first | (with_reducible exact Below.refl _ _) | (with_reducible assumption) | (with_reducible refine Below.alloc ?_ ?_ _) | (with_reducible refine Below.drew ?_) | (with_reducible refine Below.setCell ?_ ?_ _) | go_size))

theorem scale_arg2 (t n d : Int) (w : World) (c0 : ¬ n < -4096) (c1 : ¬ 4096 < n) (h : d < 1) :
    Calls Try.prog 31 #[.int .i64 t, .int .i64 n, .int .i64 d] w fun e w' => e = .returned (.tuple #[.int .i64 0, .int .i64 2]) ∧ Below w.heap.size w w' := by
  have hmf : ∀ (fn : Fn) (first cap : Array Value) (w : World), (Instr.makeFunc fn first cap).run Try.prog w = .ok (.func fn first cap) w := fun _ _ _ _ => rfl
  go_enter_defers Try.func31, Try.ntmps31
  go_wp2_with (fail)
  refine leaves_cons (f := 70) (args := #[.pointer (some ⟨w.heap.size, 0, none⟩), .pointer (some ⟨w.heap.size + 1, 0, none⟩)]) (by simp) (by simp [go_sem]) ?_
  refine (catch_err70 _ 0 0 2 [] _ ?_ ?_ ?_ ?_).mono ?_
  · simp [go_sem]
  · simp [go_sem]
  · simp [go_sem]
  · simp [go_sem]
  rintro e u' w'' ⟨rfl, rfl, rfl⟩
  simp [Leaves, settle, results, Try.results31, go_sem]
  (repeat' (first | (with_reducible exact Below.refl _ _) | (with_reducible assumption) | (with_reducible refine Below.alloc ?_ ?_ _) | (with_reducible refine Below.drew ?_) | (with_reducible refine Below.setCell ?_ ?_ _) | go_size))

theorem scale_arg3 (t n d : Int) (w : World) (c0 : ¬ n < -4096) (c1 : ¬ 4096 < n) (c2 : ¬ d < 1) (h : 4096 < d) :
    Calls Try.prog 31 #[.int .i64 t, .int .i64 n, .int .i64 d] w fun e w' => e = .returned (.tuple #[.int .i64 0, .int .i64 2]) ∧ Below w.heap.size w w' := by
  have hmf : ∀ (fn : Fn) (first cap : Array Value) (w : World), (Instr.makeFunc fn first cap).run Try.prog w = .ok (.func fn first cap) w := fun _ _ _ _ => rfl
  go_enter_defers Try.func31, Try.ntmps31
  go_wp2_with (fail)
  refine leaves_cons (f := 70) (args := #[.pointer (some ⟨w.heap.size, 0, none⟩), .pointer (some ⟨w.heap.size + 1, 0, none⟩)]) (by simp) (by simp [go_sem]) ?_
  refine (catch_err70 _ 0 0 2 [] _ ?_ ?_ ?_ ?_).mono ?_
  · simp [go_sem]
  · simp [go_sem]
  · simp [go_sem]
  · simp [go_sem]
  rintro e u' w'' ⟨rfl, rfl, rfl⟩
  simp [Leaves, settle, results, Try.results31, go_sem]
  (repeat' (first | (with_reducible exact Below.refl _ _) | (with_reducible assumption) | (with_reducible refine Below.alloc ?_ ?_ _) | (with_reducible refine Below.drew ?_) | (with_reducible refine Below.setCell ?_ ?_ _) | go_size))

theorem scale_err0 (t n d : Int) (w : World) (n1 : -4096 ≤ n) (n2 : n ≤ 4096) (d1 : 1 ≤ d) (d2 : d ≤ 4096) (h : t < -1125899906842624 ∨ 1125899906842624 < t) :
    Calls Try.prog 31 #[.int .i64 t, .int .i64 n, .int .i64 d] w fun e w' => e = .returned (.tuple #[.int .i64 0, .int .i64 11]) ∧ Below w.heap.size w w' := by
  have hmf : ∀ (fn : Fn) (first cap : Array Value) (w : World), (Instr.makeFunc fn first cap).run Try.prog w = .ok (.func fn first cap) w := fun _ _ _ _ => rfl
  go_enter_defers Try.func31, Try.ntmps31
  go_wp2_with (go_at_call 71; refine (time_over _ _ (by omega)).mono ?_; rintro e w' ⟨rfl, rfl⟩)
  refine leaves_cons (f := 70) (args := #[.pointer (some ⟨w.heap.size, 0, none⟩), .pointer (some ⟨w.heap.size + 1, 0, none⟩)]) (by simp) (by simp [go_sem]) ?_
  refine (catch_err70 _ 0 0 11 [] _ ?_ ?_ ?_ ?_).mono ?_
  · simp [go_sem]
  · simp [go_sem]
  · simp [go_sem]
  · simp [go_sem]
  rintro e u' w'' ⟨rfl, rfl, rfl⟩
  simp [Leaves, settle, results, Try.results31, go_sem]
  (repeat' (first | (with_reducible exact Below.refl _ _) | (with_reducible assumption) | (with_reducible refine Below.alloc ?_ ?_ _) | (with_reducible refine Below.drew ?_) | (with_reducible refine Below.setCell ?_ ?_ _) | go_size))

set_option maxHeartbeats 1000000 in
theorem scale_ret (t n d : Int) (w : World) (n1 : -4096 ≤ n) (n2 : n ≤ 4096) (d1 : 1 ≤ d) (d2 : d ≤ 4096) (p1 : -1125899906842624 ≤ t) (p2 : t ≤ 1125899906842624) (r1 : -1125899906842624 ≤ t * n / d) (r2 : t * n / d ≤ 1125899906842624) :
    Calls Try.prog 31 #[.int .i64 t, .int .i64 n, .int .i64 d] w fun e w' => e = .returned (.tuple #[.int .i64 (t * n / d), .int .i64 0]) ∧ Below w.heap.size w w' := by
  obtain ⟨b1, b2⟩ := Pl.mul_bd (A := 1125899906842624) (B := 4096) (by omega) p1 p2 n1 n2
  obtain ⟨f1, f2⟩ := Pl.floor_t (t * n) d (by omega)
  have e1 : -4611686018427387904 ≤ t * n / d := Int.le_ediv_of_mul_le (by omega) (by omega)
  have e2 : t * n / d ≤ 4611686018427387904 := Int.ediv_le_of_le_mul (by omega) (by omega)
  by_cases hm : (t * n).tmod d < 0
  · have f := f1 hm
    have F := Lib.hid f
    have k1 : -4611686018427387905 ≤ (t * n).tdiv d := by omega
    have k2 : (t * n).tdiv d ≤ 4611686018427387905 := by omega
    have k3 : -1125899906842624 ≤ (t * n).tdiv d - 1 := by omega
    have k4 : (t * n).tdiv d - 1 ≤ 1125899906842624 := by omega
    clear f1 f2 f e1 e2
    have hmf : ∀ (fn : Fn) (first cap : Array Value) (w : World), (Instr.makeFunc fn first cap).run Try.prog w = .ok (.func fn first cap) w := fun _ _ _ _ => rfl
    go_enter_defers Try.func31, Try.ntmps31
    skip
    skip
    go_wp2_with (go_at_call 71; first | (refine (time_ok _ _ (by omega) (by omega)).mono ?_; rintro e w' ⟨rfl, rfl⟩) | (refine (time_over _ _ K3.out).mono ?_; rintro e w' ⟨rfl, rfl⟩))
    refine leaves_cons (f := 70) (args := #[.pointer (some ⟨w.heap.size, 0, none⟩), .pointer (some ⟨w.heap.size + 1, 0, none⟩)]) (by simp) (by simp [go_sem]) ?_
    refine (catch_nil70 _ _ _).mono ?_
    rintro e u' w'' ⟨rfl, rfl, rfl⟩
    rw [← F.out]
    simp [Leaves, settle, results, Try.results31, go_sem]
    (repeat' (first | (with_reducible exact Below.refl _ _) | (with_reducible assumption) | (with_reducible refine Below.alloc ?_ ?_ _) | (with_reducible refine Below.drew ?_) | (with_reducible refine Below.setCell ?_ ?_ _) | go_size))

  · have f := f2 hm
    have F := Lib.hid f
    have k1 : -4611686018427387905 ≤ (t * n).tdiv d := by omega
    have k2 : (t * n).tdiv d ≤ 4611686018427387905 := by omega
    have k3 : -1125899906842624 ≤ (t * n).tdiv d := by omega
    have k4 : (t * n).tdiv d ≤ 1125899906842624 := by omega
    clear f1 f2 f e1 e2
    have hmf : ∀ (fn : Fn) (first cap : Array Value) (w : World), (Instr.makeFunc fn first cap).run Try.prog w = .ok (.func fn first cap) w := fun _ _ _ _ => rfl
    go_enter_defers Try.func31, Try.ntmps31
    skip
    skip
    go_wp2_with (go_at_call 71; first | (refine (time_ok _ _ (by omega) (by omega)).mono ?_; rintro e w' ⟨rfl, rfl⟩) | (refine (time_over _ _ K3.out).mono ?_; rintro e w' ⟨rfl, rfl⟩))
    refine leaves_cons (f := 70) (args := #[.pointer (some ⟨w.heap.size, 0, none⟩), .pointer (some ⟨w.heap.size + 1, 0, none⟩)]) (by simp) (by simp [go_sem]) ?_
    refine (catch_nil70 _ _ _).mono ?_
    rintro e u' w'' ⟨rfl, rfl, rfl⟩
    rw [← F.out]
    simp [Leaves, settle, results, Try.results31, go_sem]
    (repeat' (first | (with_reducible exact Below.refl _ _) | (with_reducible assumption) | (with_reducible refine Below.alloc ?_ ?_ _) | (with_reducible refine Below.drew ?_) | (with_reducible refine Below.setCell ?_ ?_ _) | go_size))

set_option maxHeartbeats 1000000 in
theorem scale_err1 (t n d : Int) (w : World) (n1 : -4096 ≤ n) (n2 : n ≤ 4096) (d1 : 1 ≤ d) (d2 : d ≤ 4096) (p1 : -1125899906842624 ≤ t) (p2 : t ≤ 1125899906842624) (h : t * n / d < -1125899906842624 ∨ 1125899906842624 < t * n / d) :
    Calls Try.prog 31 #[.int .i64 t, .int .i64 n, .int .i64 d] w fun e w' => e = .returned (.tuple #[.int .i64 0, .int .i64 11]) ∧ Below w.heap.size w w' := by
  obtain ⟨b1, b2⟩ := Pl.mul_bd (A := 1125899906842624) (B := 4096) (by omega) p1 p2 n1 n2
  obtain ⟨f1, f2⟩ := Pl.floor_t (t * n) d (by omega)
  have e1 : -4611686018427387904 ≤ t * n / d := Int.le_ediv_of_mul_le (by omega) (by omega)
  have e2 : t * n / d ≤ 4611686018427387904 := Int.ediv_le_of_le_mul (by omega) (by omega)
  by_cases hm : (t * n).tmod d < 0
  · have f := f1 hm
    have F := Lib.hid f
    have k1 : -4611686018427387905 ≤ (t * n).tdiv d := by omega
    have k2 : (t * n).tdiv d ≤ 4611686018427387905 := by omega
    have k3 : (t * n).tdiv d - 1 < -1125899906842624 ∨ 1125899906842624 < (t * n).tdiv d - 1 := by omega
    clear h
    clear f1 f2 f e1 e2
    have hmf : ∀ (fn : Fn) (first cap : Array Value) (w : World), (Instr.makeFunc fn first cap).run Try.prog w = .ok (.func fn first cap) w := fun _ _ _ _ => rfl
    go_enter_defers Try.func31, Try.ntmps31
    have K3 := Lib.hid k3
    clear k3
    go_wp2_with (go_at_call 71; first | (refine (time_ok _ _ (by omega) (by omega)).mono ?_; rintro e w' ⟨rfl, rfl⟩) | (refine (time_over _ _ K3.out).mono ?_; rintro e w' ⟨rfl, rfl⟩))
    refine leaves_cons (f := 70) (args := #[.pointer (some ⟨w.heap.size, 0, none⟩), .pointer (some ⟨w.heap.size + 1, 0, none⟩)]) (by simp) (by simp [go_sem]) ?_
    refine (catch_err70 _ 0 0 11 [] _ ?_ ?_ ?_ ?_).mono ?_
    · simp [go_sem]
    · simp [go_sem]
    · simp [go_sem]
    · simp [go_sem]
    rintro e u' w'' ⟨rfl, rfl, rfl⟩
    simp [Leaves, settle, results, Try.results31, go_sem]
    (repeat' (first | (with_reducible exact Below.refl _ _) | (with_reducible assumption) | (with_reducible refine Below.alloc ?_ ?_ _) | (with_reducible refine Below.drew ?_) | (with_reducible refine Below.setCell ?_ ?_ _) | go_size))

  · have f := f2 hm
    have F := Lib.hid f
    have k1 : -4611686018427387905 ≤ (t * n).tdiv d := by omega
    have k2 : (t * n).tdiv d ≤ 4611686018427387905 := by omega
    have k3 : (t * n).tdiv d < -1125899906842624 ∨ 1125899906842624 < (t * n).tdiv d := by omega
    clear h
    clear f1 f2 f e1 e2
    have hmf : ∀ (fn : Fn) (first cap : Array Value) (w : World), (Instr.makeFunc fn first cap).run Try.prog w = .ok (.func fn first cap) w := fun _ _ _ _ => rfl
    go_enter_defers Try.func31, Try.ntmps31
    have K3 := Lib.hid k3
    clear k3
    go_wp2_with (go_at_call 71; first | (refine (time_ok _ _ (by omega) (by omega)).mono ?_; rintro e w' ⟨rfl, rfl⟩) | (refine (time_over _ _ K3.out).mono ?_; rintro e w' ⟨rfl, rfl⟩))
    refine leaves_cons (f := 70) (args := #[.pointer (some ⟨w.heap.size, 0, none⟩), .pointer (some ⟨w.heap.size + 1, 0, none⟩)]) (by simp) (by simp [go_sem]) ?_
    refine (catch_err70 _ 0 0 11 [] _ ?_ ?_ ?_ ?_).mono ?_
    · simp [go_sem]
    · simp [go_sem]
    · simp [go_sem]
    · simp [go_sem]
    rintro e u' w'' ⟨rfl, rfl, rfl⟩
    simp [Leaves, settle, results, Try.results31, go_sem]
    (repeat' (first | (with_reducible exact Below.refl _ _) | (with_reducible assumption) | (with_reducible refine Below.alloc ?_ ?_ _) | (with_reducible refine Below.drew ?_) | (with_reducible refine Below.setCell ?_ ?_ _) | go_size))

end Go.Proofs.Ythmglahcampllaa
