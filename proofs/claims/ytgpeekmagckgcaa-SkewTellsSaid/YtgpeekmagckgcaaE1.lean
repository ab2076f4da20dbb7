/- What is proved here: the walk of SkewAgain. Condition: none. -/
import Derived.Test.YtgpeekmagckgcaaD9
import Derived.Test.YtgpeekmagckgcaaPs
import Derived.Test.YtgpeekmagckgcaaPm
namespace Go.Proofs.Ytgpeekmagckgcaa
open Go Go.RowKit
attribute [local go_sem] KW.cell KW.frozen
attribute [local go_sem ↓] eql24 eql23

theorem eql73 (k l : Bool) (a b z c d y : Int) (w : World) : (binOp .eql 73 (.agg #[.bool k, .int .i64 a, .int .i64 b, .int .i64 z]) (.agg #[.bool l, .int .i64 c, .int .i64 d, .int .i64 y])).run Try.prog w = .ok (.bool (decide (k = l) && (decide (a = c) && (decide (b = d) && decide (z = y))))) w := by
  by_cases h : k = l <;> by_cases h1 : a = c <;> by_cases h2 : b = d <;> by_cases h3 : z = y <;> simp [h, h1, h2, h3, go_sem]
theorem neq73 (k l : Bool) (a b z c d y : Int) (w : World) : (binOp .neq 73 (.agg #[.bool k, .int .i64 a, .int .i64 b, .int .i64 z]) (.agg #[.bool l, .int .i64 c, .int .i64 d, .int .i64 y])).run Try.prog w = .ok (.bool (!(decide (k = l) && (decide (a = c) && (decide (b = d) && decide (z = y)))))) w := by
  by_cases h : k = l <;> by_cases h1 : a = c <;> by_cases h2 : b = d <;> by_cases h3 : z = y <;> simp [h, h1, h2, h3, go_sem]
set_option maxRecDepth 100000 in
set_option maxHeartbeats 4000000 in
theorem law11_bad0 (k : Bool) (a b z t1 t2 t4 m : Int) (w : World)  (h : z < 0) :
    Calls Try.prog 11 #[.agg #[.bool k, .int .i64 a, .int .i64 b, .int .i64 z], .int .i64 t1, .int .i64 t2, .int .i64 t4, .int .i64 m] w fun e w' => e = .returned (.bool true) ∧ Below w.heap.size w w' := by
  go_enter Try.func11, Try.ntmps11
  go_wp2_with fail
  refine (sawake_b (Below.refl _ _)).mono ?_
  rintro e w1 ⟨rfl, hb1⟩
  have hw1 : Below w.heap.size w w1 := Below.trans (by (repeat' (first | (with_reducible exact Below.refl _ _) | (with_reducible assumption) | (with_reducible refine Below.alloc ?_ ?_ _) | (with_reducible refine Below.drew ?_) | (with_reducible refine below_drewN ?_ _) | (with_reducible refine Below.setCell ?_ ?_ _) | go_size))) (hb1.mono (by go_size))
  go_wp2_with fail
  go_ret
  exact ⟨rfl, hw1⟩

set_option maxRecDepth 100000 in
set_option maxHeartbeats 4000000 in
theorem law11_bad1 (k : Bool) (a b z t1 t2 t4 m : Int) (w : World) (g0 : ¬ z < 0) (h : 1099511627776 < z) :
    Calls Try.prog 11 #[.agg #[.bool k, .int .i64 a, .int .i64 b, .int .i64 z], .int .i64 t1, .int .i64 t2, .int .i64 t4, .int .i64 m] w fun e w' => e = .returned (.bool true) ∧ Below w.heap.size w w' := by
  go_enter Try.func11, Try.ntmps11
  go_wp2_with fail
  refine (sawake_b (Below.refl _ _)).mono ?_
  rintro e w1 ⟨rfl, hb1⟩
  have hw1 : Below w.heap.size w w1 := Below.trans (by (repeat' (first | (with_reducible exact Below.refl _ _) | (with_reducible assumption) | (with_reducible refine Below.alloc ?_ ?_ _) | (with_reducible refine Below.drew ?_) | (with_reducible refine below_drewN ?_ _) | (with_reducible refine Below.setCell ?_ ?_ _) | go_size))) (hb1.mono (by go_size))
  go_wp2_with fail
  go_ret
  exact ⟨rfl, hw1⟩

set_option maxRecDepth 100000 in
set_option maxHeartbeats 4000000 in
theorem law11_bad2 (k : Bool) (a b z t1 t2 t4 m : Int) (w : World) (g0 : ¬ z < 0) (g1 : ¬ 1099511627776 < z) (h : t4 < 0) :
    Calls Try.prog 11 #[.agg #[.bool k, .int .i64 a, .int .i64 b, .int .i64 z], .int .i64 t1, .int .i64 t2, .int .i64 t4, .int .i64 m] w fun e w' => e = .returned (.bool true) ∧ Below w.heap.size w w' := by
  go_enter Try.func11, Try.ntmps11
  go_wp2_with fail
  refine (sawake_b (Below.refl _ _)).mono ?_
  rintro e w1 ⟨rfl, hb1⟩
  have hw1 : Below w.heap.size w w1 := Below.trans (by (repeat' (first | (with_reducible exact Below.refl _ _) | (with_reducible assumption) | (with_reducible refine Below.alloc ?_ ?_ _) | (with_reducible refine Below.drew ?_) | (with_reducible refine below_drewN ?_ _) | (with_reducible refine Below.setCell ?_ ?_ _) | go_size))) (hb1.mono (by go_size))
  go_wp2_with fail
  go_ret
  exact ⟨rfl, hw1⟩

set_option maxRecDepth 100000 in
set_option maxHeartbeats 4000000 in
theorem law11_bad3 (k : Bool) (a b z t1 t2 t4 m : Int) (w : World) (g0 : ¬ z < 0) (g1 : ¬ 1099511627776 < z) (g2 : ¬ t4 < 0) (h : 1099511627776 < t4) :
    Calls Try.prog 11 #[.agg #[.bool k, .int .i64 a, .int .i64 b, .int .i64 z], .int .i64 t1, .int .i64 t2, .int .i64 t4, .int .i64 m] w fun e w' => e = .returned (.bool true) ∧ Below w.heap.size w w' := by
  go_enter Try.func11, Try.ntmps11
  go_wp2_with fail
  refine (sawake_b (Below.refl _ _)).mono ?_
  rintro e w1 ⟨rfl, hb1⟩
  have hw1 : Below w.heap.size w w1 := Below.trans (by (repeat' (first | (with_reducible exact Below.refl _ _) | (with_reducible assumption) | (with_reducible refine Below.alloc ?_ ?_ _) | (with_reducible refine Below.drew ?_) | (with_reducible refine below_drewN ?_ _) | (with_reducible refine Below.setCell ?_ ?_ _) | go_size))) (hb1.mono (by go_size))
  go_wp2_with fail
  go_ret
  exact ⟨rfl, hw1⟩

set_option maxRecDepth 100000 in
set_option maxHeartbeats 4000000 in
theorem law11_bad4 (k : Bool) (a b z t1 t2 t4 m : Int) (w : World) (g0 : ¬ z < 0) (g1 : ¬ 1099511627776 < z) (g2 : ¬ t4 < 0) (g3 : ¬ 1099511627776 < t4) (h : t1 < 0) :
    Calls Try.prog 11 #[.agg #[.bool k, .int .i64 a, .int .i64 b, .int .i64 z], .int .i64 t1, .int .i64 t2, .int .i64 t4, .int .i64 m] w fun e w' => e = .returned (.bool true) ∧ Below w.heap.size w w' := by
  go_enter Try.func11, Try.ntmps11
  go_wp2_with fail
  refine (sawake_b (Below.refl _ _)).mono ?_
  rintro e w1 ⟨rfl, hb1⟩
  have hw1 : Below w.heap.size w w1 := Below.trans (by (repeat' (first | (with_reducible exact Below.refl _ _) | (with_reducible assumption) | (with_reducible refine Below.alloc ?_ ?_ _) | (with_reducible refine Below.drew ?_) | (with_reducible refine below_drewN ?_ _) | (with_reducible refine Below.setCell ?_ ?_ _) | go_size))) (hb1.mono (by go_size))
  go_wp2_with fail
  go_ret
  exact ⟨rfl, hw1⟩

set_option maxRecDepth 100000 in
set_option maxHeartbeats 4000000 in
theorem law11_bad5 (k : Bool) (a b z t1 t2 t4 m : Int) (w : World) (g0 : ¬ z < 0) (g1 : ¬ 1099511627776 < z) (g2 : ¬ t4 < 0) (g3 : ¬ 1099511627776 < t4) (g4 : ¬ t1 < 0) (h : t4 < t1) :
    Calls Try.prog 11 #[.agg #[.bool k, .int .i64 a, .int .i64 b, .int .i64 z], .int .i64 t1, .int .i64 t2, .int .i64 t4, .int .i64 m] w fun e w' => e = .returned (.bool true) ∧ Below w.heap.size w w' := by
  go_enter Try.func11, Try.ntmps11
  go_wp2_with fail
  refine (sawake_b (Below.refl _ _)).mono ?_
  rintro e w1 ⟨rfl, hb1⟩
  have hw1 : Below w.heap.size w w1 := Below.trans (by (repeat' (first | (with_reducible exact Below.refl _ _) | (with_reducible assumption) | (with_reducible refine Below.alloc ?_ ?_ _) | (with_reducible refine Below.drew ?_) | (with_reducible refine below_drewN ?_ _) | (with_reducible refine Below.setCell ?_ ?_ _) | go_size))) (hb1.mono (by go_size))
  go_wp2_with fail
  go_ret
  exact ⟨rfl, hw1⟩

set_option maxRecDepth 100000 in
set_option maxHeartbeats 4000000 in
theorem law11_bad6 (k : Bool) (a b z t1 t2 t4 m : Int) (w : World) (g0 : ¬ z < 0) (g1 : ¬ 1099511627776 < z) (g2 : ¬ t4 < 0) (g3 : ¬ 1099511627776 < t4) (g4 : ¬ t1 < 0) (g5 : ¬ t4 < t1) (h : t2 < -1125899906842624) :
    Calls Try.prog 11 #[.agg #[.bool k, .int .i64 a, .int .i64 b, .int .i64 z], .int .i64 t1, .int .i64 t2, .int .i64 t4, .int .i64 m] w fun e w' => e = .returned (.bool true) ∧ Below w.heap.size w w' := by
  go_enter Try.func11, Try.ntmps11
  go_wp2_with fail
  refine (sawake_b (Below.refl _ _)).mono ?_
  rintro e w1 ⟨rfl, hb1⟩
  have hw1 : Below w.heap.size w w1 := Below.trans (by (repeat' (first | (with_reducible exact Below.refl _ _) | (with_reducible assumption) | (with_reducible refine Below.alloc ?_ ?_ _) | (with_reducible refine Below.drew ?_) | (with_reducible refine below_drewN ?_ _) | (with_reducible refine Below.setCell ?_ ?_ _) | go_size))) (hb1.mono (by go_size))
  go_wp2_with fail
  go_ret
  exact ⟨rfl, hw1⟩

set_option maxRecDepth 100000 in
set_option maxHeartbeats 4000000 in
theorem law11_bad7 (k : Bool) (a b z t1 t2 t4 m : Int) (w : World) (g0 : ¬ z < 0) (g1 : ¬ 1099511627776 < z) (g2 : ¬ t4 < 0) (g3 : ¬ 1099511627776 < t4) (g4 : ¬ t1 < 0) (g5 : ¬ t4 < t1) (g6 : ¬ t2 < -1125899906842624) (h : 1125899906842624 < t2) :
    Calls Try.prog 11 #[.agg #[.bool k, .int .i64 a, .int .i64 b, .int .i64 z], .int .i64 t1, .int .i64 t2, .int .i64 t4, .int .i64 m] w fun e w' => e = .returned (.bool true) ∧ Below w.heap.size w w' := by
  go_enter Try.func11, Try.ntmps11
  go_wp2_with fail
  refine (sawake_b (Below.refl _ _)).mono ?_
  rintro e w1 ⟨rfl, hb1⟩
  have hw1 : Below w.heap.size w w1 := Below.trans (by (repeat' (first | (with_reducible exact Below.refl _ _) | (with_reducible assumption) | (with_reducible refine Below.alloc ?_ ?_ _) | (with_reducible refine Below.drew ?_) | (with_reducible refine below_drewN ?_ _) | (with_reducible refine Below.setCell ?_ ?_ _) | go_size))) (hb1.mono (by go_size))
  go_wp2_with fail
  go_ret
  exact ⟨rfl, hw1⟩

attribute [local go_sem ↓] eql73 neq73 in
set_option maxRecDepth 100000 in
set_option maxHeartbeats 4000000 in
theorem law11_err2 (k : Bool) (a b z t1 t2 t4 m : Int) (w : World) (g0 : ¬ z < 0) (g1 : ¬ 1099511627776 < z) (g2 : ¬ t4 < 0) (g3 : ¬ 1099511627776 < t4) (g4 : ¬ t1 < 0) (g5 : ¬ t4 < t1) (g6 : ¬ t2 < -1125899906842624) (g7 : ¬ 1125899906842624 < t2) (hr : Pl.sm k a b z t1 t2 t4 m = ((k, a, b, z), 2)) :
    Calls Try.prog 11 #[.agg #[.bool k, .int .i64 a, .int .i64 b, .int .i64 z], .int .i64 t1, .int .i64 t2, .int .i64 t4, .int .i64 m] w fun e w' => e = .returned (.bool true) ∧ Below w.heap.size w w' := by
  have hsm := fun w => smeet_c k a b z t1 t2 t4 m w ⟨by omega, by omega⟩
  rw [hr] at hsm
  unfold est at hsm
  have HSM := Lib.hid hsm
  clear hsm hr
  go_enter Try.func11, Try.ntmps11
  go_wp2_with fail
  refine (smine_c _ _ _ _ _).mono ?_
  rintro e w1 ⟨rfl, hb1⟩
  have cb0 : w1.cell? ⟨w.heap.size, 0, none⟩ = some (.bool k) := (hb1.cell (p := ⟨w.heap.size, 0, none⟩) (by go_size)).trans (by go_simp)
  have fb0 : w1.frozen? ⟨w.heap.size, 0, none⟩ = false := (hb1.frozen (p := ⟨w.heap.size, 0, none⟩) (by go_size)).trans (by go_simp)
  have cb1 : w1.cell? ⟨w.heap.size, 1, none⟩ = some (.int .i64 a) := (hb1.cell (p := ⟨w.heap.size, 1, none⟩) (by go_size)).trans (by go_simp)
  have fb1 : w1.frozen? ⟨w.heap.size, 1, none⟩ = false := (hb1.frozen (p := ⟨w.heap.size, 1, none⟩) (by go_size)).trans (by go_simp)
  have cb2 : w1.cell? ⟨w.heap.size, 2, none⟩ = some (.int .i64 b) := (hb1.cell (p := ⟨w.heap.size, 2, none⟩) (by go_size)).trans (by go_simp)
  have fb2 : w1.frozen? ⟨w.heap.size, 2, none⟩ = false := (hb1.frozen (p := ⟨w.heap.size, 2, none⟩) (by go_size)).trans (by go_simp)
  have cb3 : w1.cell? ⟨w.heap.size, 3, none⟩ = some (.int .i64 z) := (hb1.cell (p := ⟨w.heap.size, 3, none⟩) (by go_size)).trans (by go_simp)
  have fb3 : w1.frozen? ⟨w.heap.size, 3, none⟩ = false := (hb1.frozen (p := ⟨w.heap.size, 3, none⟩) (by go_size)).trans (by go_simp)
  have zb4 : w.heap.size < w1.heap.size := Nat.lt_of_lt_of_le (by go_size) hb1.size
  have hwb : Below w.heap.size w w1 := Below.trans (by (repeat' (first | (with_reducible exact Below.refl _ _) | (with_reducible assumption) | (with_reducible refine Below.alloc ?_ ?_ _) | (with_reducible refine Below.drew ?_) | (with_reducible refine below_drewN ?_ _) | (with_reducible refine Below.setCell ?_ ?_ _) | go_size))) (hb1.mono (by go_size))
  have hsb : w.heap.size ≤ w1.heap.size := hwb.size
  go_wp2_with fail
  refine (HSM.out _).mono ?_
  rintro e w2 ⟨rfl, hb2⟩
  have cc0 : w2.cell? ⟨w.heap.size, 0, none⟩ = some (.bool k) := (hb2.cell (p := ⟨w.heap.size, 0, none⟩) (by go_size)).trans (by go_simp)
  have fc0 : w2.frozen? ⟨w.heap.size, 0, none⟩ = false := (hb2.frozen (p := ⟨w.heap.size, 0, none⟩) (by go_size)).trans (by go_simp)
  have cc1 : w2.cell? ⟨w.heap.size, 1, none⟩ = some (.int .i64 a) := (hb2.cell (p := ⟨w.heap.size, 1, none⟩) (by go_size)).trans (by go_simp)
  have fc1 : w2.frozen? ⟨w.heap.size, 1, none⟩ = false := (hb2.frozen (p := ⟨w.heap.size, 1, none⟩) (by go_size)).trans (by go_simp)
  have cc2 : w2.cell? ⟨w.heap.size, 2, none⟩ = some (.int .i64 b) := (hb2.cell (p := ⟨w.heap.size, 2, none⟩) (by go_size)).trans (by go_simp)
  have fc2 : w2.frozen? ⟨w.heap.size, 2, none⟩ = false := (hb2.frozen (p := ⟨w.heap.size, 2, none⟩) (by go_size)).trans (by go_simp)
  have cc3 : w2.cell? ⟨w.heap.size, 3, none⟩ = some (.int .i64 z) := (hb2.cell (p := ⟨w.heap.size, 3, none⟩) (by go_size)).trans (by go_simp)
  have fc3 : w2.frozen? ⟨w.heap.size, 3, none⟩ = false := (hb2.frozen (p := ⟨w.heap.size, 3, none⟩) (by go_size)).trans (by go_simp)
  have zc4 : w.heap.size < w2.heap.size := Nat.lt_of_lt_of_le (by go_size) hb2.size
  have hwc : Below w.heap.size w w2 := Below.trans (by (repeat' (first | (with_reducible exact Below.refl _ _) | (with_reducible assumption) | (with_reducible refine Below.alloc ?_ ?_ _) | (with_reducible refine Below.drew ?_) | (with_reducible refine below_drewN ?_ _) | (with_reducible refine Below.setCell ?_ ?_ _) | go_size))) (hb2.mono (by go_size))
  have hsc : w.heap.size ≤ w2.heap.size := hwc.size
  clear cb0 fb0 cb1 fb1 cb2 fb2 cb3 fb3 zb4 hwb hsb hb1
  have nA : w.heap.size < w2.heap.size := by assumption
  have dA : ¬ w2.heap.size = w.heap.size := by omega
  have eA : ¬ w.heap.size = w2.heap.size := by omega
  go_wp2_with fail
  refine wp_region_kq (by kernel_rfl) (by kernel_rfl) ?_
  repeat (quiet_step (((first | (go_at_call 55; exact KW.call (smine_c _ _ _ _ _)) | (go_at_call 53; exact KW.call (sawake_b (Below.refl _ _)))))))
  refine wpQuiet_nil ?_
  intro k3
  have cd0 : k3.val.cell? ⟨w.heap.size, 0, none⟩ = some (.bool k) := (k3.kp.cell (p := ⟨w.heap.size, 0, none⟩) (by go_size)).trans (by go_simp)
  have fd0 : k3.val.frozen? ⟨w.heap.size, 0, none⟩ = false := (k3.kp.frozen (p := ⟨w.heap.size, 0, none⟩) (by go_size)).trans (by go_simp)
  have cd1 : k3.val.cell? ⟨w.heap.size, 1, none⟩ = some (.int .i64 a) := (k3.kp.cell (p := ⟨w.heap.size, 1, none⟩) (by go_size)).trans (by go_simp)
  have fd1 : k3.val.frozen? ⟨w.heap.size, 1, none⟩ = false := (k3.kp.frozen (p := ⟨w.heap.size, 1, none⟩) (by go_size)).trans (by go_simp)
  have cd2 : k3.val.cell? ⟨w.heap.size, 2, none⟩ = some (.int .i64 b) := (k3.kp.cell (p := ⟨w.heap.size, 2, none⟩) (by go_size)).trans (by go_simp)
  have fd2 : k3.val.frozen? ⟨w.heap.size, 2, none⟩ = false := (k3.kp.frozen (p := ⟨w.heap.size, 2, none⟩) (by go_size)).trans (by go_simp)
  have cd3 : k3.val.cell? ⟨w.heap.size, 3, none⟩ = some (.int .i64 z) := (k3.kp.cell (p := ⟨w.heap.size, 3, none⟩) (by go_size)).trans (by go_simp)
  have fd3 : k3.val.frozen? ⟨w.heap.size, 3, none⟩ = false := (k3.kp.frozen (p := ⟨w.heap.size, 3, none⟩) (by go_size)).trans (by go_simp)
  have zd4 : w.heap.size < k3.val.heap.size := Nat.lt_of_lt_of_le (by go_size) k3.kp.size
  have cd4 : k3.val.cell? ⟨w2.heap.size, 0, none⟩ = some (.bool k) := (k3.kp.cell (p := ⟨w2.heap.size, 0, none⟩) (by go_size)).trans (by go_simp)
  have fd4 : k3.val.frozen? ⟨w2.heap.size, 0, none⟩ = false := (k3.kp.frozen (p := ⟨w2.heap.size, 0, none⟩) (by go_size)).trans (by go_simp)
  have cd5 : k3.val.cell? ⟨w2.heap.size, 1, none⟩ = some (.int .i64 a) := (k3.kp.cell (p := ⟨w2.heap.size, 1, none⟩) (by go_size)).trans (by go_simp)
  have fd5 : k3.val.frozen? ⟨w2.heap.size, 1, none⟩ = false := (k3.kp.frozen (p := ⟨w2.heap.size, 1, none⟩) (by go_size)).trans (by go_simp)
  have cd6 : k3.val.cell? ⟨w2.heap.size, 2, none⟩ = some (.int .i64 b) := (k3.kp.cell (p := ⟨w2.heap.size, 2, none⟩) (by go_size)).trans (by go_simp)
  have fd6 : k3.val.frozen? ⟨w2.heap.size, 2, none⟩ = false := (k3.kp.frozen (p := ⟨w2.heap.size, 2, none⟩) (by go_size)).trans (by go_simp)
  have cd7 : k3.val.cell? ⟨w2.heap.size, 3, none⟩ = some (.int .i64 z) := (k3.kp.cell (p := ⟨w2.heap.size, 3, none⟩) (by go_size)).trans (by go_simp)
  have fd7 : k3.val.frozen? ⟨w2.heap.size, 3, none⟩ = false := (k3.kp.frozen (p := ⟨w2.heap.size, 3, none⟩) (by go_size)).trans (by go_simp)
  have zd8 : w2.heap.size < k3.val.heap.size := Nat.lt_of_lt_of_le (by go_size) k3.kp.size
  have hwd : Below w.heap.size w k3.val := Below.trans (by (repeat' (first | (with_reducible exact Below.refl _ _) | (with_reducible assumption) | (with_reducible refine Below.alloc ?_ ?_ _) | (with_reducible refine Below.drew ?_) | (with_reducible refine below_drewN ?_ _) | (with_reducible refine Below.setCell ?_ ?_ _) | go_size))) (k3.kp.mono (by go_size))
  have hsd : w.heap.size ≤ k3.val.heap.size := hwd.size
  clear cc0 fc0 cc1 fc1 cc2 fc2 cc3 fc3 zc4 hwc hsc hb2
  go_wp2_with fail
  go_ret
  exact ⟨rfl, by assumption⟩

attribute [local go_sem ↓] eql73 neq73 in
set_option maxRecDepth 100000 in
set_option maxHeartbeats 4000000 in
theorem law11_err16 (k : Bool) (a b z t1 t2 t4 m : Int) (w : World) (g0 : ¬ z < 0) (g1 : ¬ 1099511627776 < z) (g2 : ¬ t4 < 0) (g3 : ¬ 1099511627776 < t4) (g4 : ¬ t1 < 0) (g5 : ¬ t4 < t1) (g6 : ¬ t2 < -1125899906842624) (g7 : ¬ 1125899906842624 < t2) (hr : Pl.sm k a b z t1 t2 t4 m = ((k, a, b, z), 16)) :
    Calls Try.prog 11 #[.agg #[.bool k, .int .i64 a, .int .i64 b, .int .i64 z], .int .i64 t1, .int .i64 t2, .int .i64 t4, .int .i64 m] w fun e w' => e = .returned (.bool true) ∧ Below w.heap.size w w' := by
  have hsm := fun w => smeet_c k a b z t1 t2 t4 m w ⟨by omega, by omega⟩
  rw [hr] at hsm
  unfold est at hsm
  have HSM := Lib.hid hsm
  clear hsm hr
  go_enter Try.func11, Try.ntmps11
  go_wp2_with fail
  refine (smine_c _ _ _ _ _).mono ?_
  rintro e w1 ⟨rfl, hb1⟩
  have cb0 : w1.cell? ⟨w.heap.size, 0, none⟩ = some (.bool k) := (hb1.cell (p := ⟨w.heap.size, 0, none⟩) (by go_size)).trans (by go_simp)
  have fb0 : w1.frozen? ⟨w.heap.size, 0, none⟩ = false := (hb1.frozen (p := ⟨w.heap.size, 0, none⟩) (by go_size)).trans (by go_simp)
  have cb1 : w1.cell? ⟨w.heap.size, 1, none⟩ = some (.int .i64 a) := (hb1.cell (p := ⟨w.heap.size, 1, none⟩) (by go_size)).trans (by go_simp)
  have fb1 : w1.frozen? ⟨w.heap.size, 1, none⟩ = false := (hb1.frozen (p := ⟨w.heap.size, 1, none⟩) (by go_size)).trans (by go_simp)
  have cb2 : w1.cell? ⟨w.heap.size, 2, none⟩ = some (.int .i64 b) := (hb1.cell (p := ⟨w.heap.size, 2, none⟩) (by go_size)).trans (by go_simp)
  have fb2 : w1.frozen? ⟨w.heap.size, 2, none⟩ = false := (hb1.frozen (p := ⟨w.heap.size, 2, none⟩) (by go_size)).trans (by go_simp)
  have cb3 : w1.cell? ⟨w.heap.size, 3, none⟩ = some (.int .i64 z) := (hb1.cell (p := ⟨w.heap.size, 3, none⟩) (by go_size)).trans (by go_simp)
  have fb3 : w1.frozen? ⟨w.heap.size, 3, none⟩ = false := (hb1.frozen (p := ⟨w.heap.size, 3, none⟩) (by go_size)).trans (by go_simp)
  have zb4 : w.heap.size < w1.heap.size := Nat.lt_of_lt_of_le (by go_size) hb1.size
  have hwb : Below w.heap.size w w1 := Below.trans (by (repeat' (first | (with_reducible exact Below.refl _ _) | (with_reducible assumption) | (with_reducible refine Below.alloc ?_ ?_ _) | (with_reducible refine Below.drew ?_) | (with_reducible refine below_drewN ?_ _) | (with_reducible refine Below.setCell ?_ ?_ _) | go_size))) (hb1.mono (by go_size))
  have hsb : w.heap.size ≤ w1.heap.size := hwb.size
  go_wp2_with fail
  refine (HSM.out _).mono ?_
  rintro e w2 ⟨rfl, hb2⟩
  have cc0 : w2.cell? ⟨w.heap.size, 0, none⟩ = some (.bool k) := (hb2.cell (p := ⟨w.heap.size, 0, none⟩) (by go_size)).trans (by go_simp)
  have fc0 : w2.frozen? ⟨w.heap.size, 0, none⟩ = false := (hb2.frozen (p := ⟨w.heap.size, 0, none⟩) (by go_size)).trans (by go_simp)
  have cc1 : w2.cell? ⟨w.heap.size, 1, none⟩ = some (.int .i64 a) := (hb2.cell (p := ⟨w.heap.size, 1, none⟩) (by go_size)).trans (by go_simp)
  have fc1 : w2.frozen? ⟨w.heap.size, 1, none⟩ = false := (hb2.frozen (p := ⟨w.heap.size, 1, none⟩) (by go_size)).trans (by go_simp)
  have cc2 : w2.cell? ⟨w.heap.size, 2, none⟩ = some (.int .i64 b) := (hb2.cell (p := ⟨w.heap.size, 2, none⟩) (by go_size)).trans (by go_simp)
  have fc2 : w2.frozen? ⟨w.heap.size, 2, none⟩ = false := (hb2.frozen (p := ⟨w.heap.size, 2, none⟩) (by go_size)).trans (by go_simp)
  have cc3 : w2.cell? ⟨w.heap.size, 3, none⟩ = some (.int .i64 z) := (hb2.cell (p := ⟨w.heap.size, 3, none⟩) (by go_size)).trans (by go_simp)
  have fc3 : w2.frozen? ⟨w.heap.size, 3, none⟩ = false := (hb2.frozen (p := ⟨w.heap.size, 3, none⟩) (by go_size)).trans (by go_simp)
  have zc4 : w.heap.size < w2.heap.size := Nat.lt_of_lt_of_le (by go_size) hb2.size
  have hwc : Below w.heap.size w w2 := Below.trans (by (repeat' (first | (with_reducible exact Below.refl _ _) | (with_reducible assumption) | (with_reducible refine Below.alloc ?_ ?_ _) | (with_reducible refine Below.drew ?_) | (with_reducible refine below_drewN ?_ _) | (with_reducible refine Below.setCell ?_ ?_ _) | go_size))) (hb2.mono (by go_size))
  have hsc : w.heap.size ≤ w2.heap.size := hwc.size
  clear cb0 fb0 cb1 fb1 cb2 fb2 cb3 fb3 zb4 hwb hsb hb1
  have nA : w.heap.size < w2.heap.size := by assumption
  have dA : ¬ w2.heap.size = w.heap.size := by omega
  have eA : ¬ w.heap.size = w2.heap.size := by omega
  go_wp2_with fail
  refine wp_region_kq (by kernel_rfl) (by kernel_rfl) ?_
  repeat (quiet_step (((first | (go_at_call 55; exact KW.call (smine_c _ _ _ _ _)) | (go_at_call 53; exact KW.call (sawake_b (Below.refl _ _)))))))
  refine wpQuiet_nil ?_
  intro k3
  have cd0 : k3.val.cell? ⟨w.heap.size, 0, none⟩ = some (.bool k) := (k3.kp.cell (p := ⟨w.heap.size, 0, none⟩) (by go_size)).trans (by go_simp)
  have fd0 : k3.val.frozen? ⟨w.heap.size, 0, none⟩ = false := (k3.kp.frozen (p := ⟨w.heap.size, 0, none⟩) (by go_size)).trans (by go_simp)
  have cd1 : k3.val.cell? ⟨w.heap.size, 1, none⟩ = some (.int .i64 a) := (k3.kp.cell (p := ⟨w.heap.size, 1, none⟩) (by go_size)).trans (by go_simp)
  have fd1 : k3.val.frozen? ⟨w.heap.size, 1, none⟩ = false := (k3.kp.frozen (p := ⟨w.heap.size, 1, none⟩) (by go_size)).trans (by go_simp)
  have cd2 : k3.val.cell? ⟨w.heap.size, 2, none⟩ = some (.int .i64 b) := (k3.kp.cell (p := ⟨w.heap.size, 2, none⟩) (by go_size)).trans (by go_simp)
  have fd2 : k3.val.frozen? ⟨w.heap.size, 2, none⟩ = false := (k3.kp.frozen (p := ⟨w.heap.size, 2, none⟩) (by go_size)).trans (by go_simp)
  have cd3 : k3.val.cell? ⟨w.heap.size, 3, none⟩ = some (.int .i64 z) := (k3.kp.cell (p := ⟨w.heap.size, 3, none⟩) (by go_size)).trans (by go_simp)
  have fd3 : k3.val.frozen? ⟨w.heap.size, 3, none⟩ = false := (k3.kp.frozen (p := ⟨w.heap.size, 3, none⟩) (by go_size)).trans (by go_simp)
  have zd4 : w.heap.size < k3.val.heap.size := Nat.lt_of_lt_of_le (by go_size) k3.kp.size
  have cd4 : k3.val.cell? ⟨w2.heap.size, 0, none⟩ = some (.bool k) := (k3.kp.cell (p := ⟨w2.heap.size, 0, none⟩) (by go_size)).trans (by go_simp)
  have fd4 : k3.val.frozen? ⟨w2.heap.size, 0, none⟩ = false := (k3.kp.frozen (p := ⟨w2.heap.size, 0, none⟩) (by go_size)).trans (by go_simp)
  have cd5 : k3.val.cell? ⟨w2.heap.size, 1, none⟩ = some (.int .i64 a) := (k3.kp.cell (p := ⟨w2.heap.size, 1, none⟩) (by go_size)).trans (by go_simp)
  have fd5 : k3.val.frozen? ⟨w2.heap.size, 1, none⟩ = false := (k3.kp.frozen (p := ⟨w2.heap.size, 1, none⟩) (by go_size)).trans (by go_simp)
  have cd6 : k3.val.cell? ⟨w2.heap.size, 2, none⟩ = some (.int .i64 b) := (k3.kp.cell (p := ⟨w2.heap.size, 2, none⟩) (by go_size)).trans (by go_simp)
  have fd6 : k3.val.frozen? ⟨w2.heap.size, 2, none⟩ = false := (k3.kp.frozen (p := ⟨w2.heap.size, 2, none⟩) (by go_size)).trans (by go_simp)
  have cd7 : k3.val.cell? ⟨w2.heap.size, 3, none⟩ = some (.int .i64 z) := (k3.kp.cell (p := ⟨w2.heap.size, 3, none⟩) (by go_size)).trans (by go_simp)
  have fd7 : k3.val.frozen? ⟨w2.heap.size, 3, none⟩ = false := (k3.kp.frozen (p := ⟨w2.heap.size, 3, none⟩) (by go_size)).trans (by go_simp)
  have zd8 : w2.heap.size < k3.val.heap.size := Nat.lt_of_lt_of_le (by go_size) k3.kp.size
  have hwd : Below w.heap.size w k3.val := Below.trans (by (repeat' (first | (with_reducible exact Below.refl _ _) | (with_reducible assumption) | (with_reducible refine Below.alloc ?_ ?_ _) | (with_reducible refine Below.drew ?_) | (with_reducible refine below_drewN ?_ _) | (with_reducible refine Below.setCell ?_ ?_ _) | go_size))) (k3.kp.mono (by go_size))
  have hsd : w.heap.size ≤ k3.val.heap.size := hwd.size
  clear cc0 fc0 cc1 fc1 cc2 fc2 cc3 fc3 zc4 hwc hsc hb2
  go_wp2_with fail
  go_ret
  exact ⟨rfl, by assumption⟩

end Go.Proofs.Ytgpeekmagckgcaa
