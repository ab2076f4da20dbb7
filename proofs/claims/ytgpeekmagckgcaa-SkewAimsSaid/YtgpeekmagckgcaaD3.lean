/- What is proved here: what On answers. Condition: times. -/
import Derived.Test.YtgpeekmagckgcaaD2
namespace Go.Proofs.Ytgpeekmagckgcaa
open Go Go.RowKit
attribute [local go_sem] KW.cell KW.frozen
attribute [local go_sem ↓] eql24 eql23

namespace Pl
/-- How far apart. -/
def ap (a b : Int) : Int := if a < b then b - a else a - b
def olo (k : Bool) (a b z t m : Int) : Int := if k = true then wlo a b (drift (ap t z) m) else 1
def ohi (k : Bool) (a b z t m : Int) : Int := if k = true then whi a b (drift (ap t z) m) else 0
end Pl

set_option maxRecDepth 20000 in
set_option maxHeartbeats 2000000 in
theorem on_no (a b z t m : Int) (w : World) :
    Calls Try.prog 58 #[.agg #[.bool false, .int .i64 a, .int .i64 b, .int .i64 z], .int .i64 t, .int .i64 m] w fun e w' => e = .returned (.agg #[.int .i64 (1), .int .i64 (0)]) ∧ Below w.heap.size w w' := by
  go_enter Try.func58, Try.ntmps58
  go_wp2_with fail
  refine (nothing_c _).mono ?_
  rintro e w1 ⟨rfl, hb1⟩
  have cb0 : w1.cell? ⟨w.heap.size, 0, none⟩ = some (.bool false) := (hb1.cell (p := ⟨w.heap.size, 0, none⟩) (by go_size)).trans (by go_simp)
  have fb0 : w1.frozen? ⟨w.heap.size, 0, none⟩ = false := (hb1.frozen (p := ⟨w.heap.size, 0, none⟩) (by go_size)).trans (by go_simp)
  have cb1 : w1.cell? ⟨w.heap.size, 1, none⟩ = some (.int .i64 a) := (hb1.cell (p := ⟨w.heap.size, 1, none⟩) (by go_size)).trans (by go_simp)
  have fb1 : w1.frozen? ⟨w.heap.size, 1, none⟩ = false := (hb1.frozen (p := ⟨w.heap.size, 1, none⟩) (by go_size)).trans (by go_simp)
  have cb2 : w1.cell? ⟨w.heap.size, 2, none⟩ = some (.int .i64 b) := (hb1.cell (p := ⟨w.heap.size, 2, none⟩) (by go_size)).trans (by go_simp)
  have fb2 : w1.frozen? ⟨w.heap.size, 2, none⟩ = false := (hb1.frozen (p := ⟨w.heap.size, 2, none⟩) (by go_size)).trans (by go_simp)
  have cb3 : w1.cell? ⟨w.heap.size, 3, none⟩ = some (.int .i64 z) := (hb1.cell (p := ⟨w.heap.size, 3, none⟩) (by go_size)).trans (by go_simp)
  have fb3 : w1.frozen? ⟨w.heap.size, 3, none⟩ = false := (hb1.frozen (p := ⟨w.heap.size, 3, none⟩) (by go_size)).trans (by go_simp)
  have zb4 : w.heap.size < w1.heap.size := Nat.lt_of_lt_of_le (by go_size) hb1.size
  have cb4 : w1.cell? ⟨w.heap.size + 1, 0, none⟩ = some (.int .i64 0) := (hb1.cell (p := ⟨w.heap.size + 1, 0, none⟩) (by go_size)).trans (by go_simp)
  have fb4 : w1.frozen? ⟨w.heap.size + 1, 0, none⟩ = false := (hb1.frozen (p := ⟨w.heap.size + 1, 0, none⟩) (by go_size)).trans (by go_simp)
  have cb5 : w1.cell? ⟨w.heap.size + 1, 1, none⟩ = some (.int .i64 0) := (hb1.cell (p := ⟨w.heap.size + 1, 1, none⟩) (by go_size)).trans (by go_simp)
  have fb5 : w1.frozen? ⟨w.heap.size + 1, 1, none⟩ = false := (hb1.frozen (p := ⟨w.heap.size + 1, 1, none⟩) (by go_size)).trans (by go_simp)
  have zb6 : w.heap.size + 1 < w1.heap.size := Nat.lt_of_lt_of_le (by go_size) hb1.size
  have hwb : Below w.heap.size w w1 := Below.trans (by (repeat' (first | (with_reducible exact Below.refl _ _) | (with_reducible assumption) | (with_reducible refine Below.alloc ?_ ?_ _) | (with_reducible refine Below.drew ?_) | (with_reducible refine below_drewN ?_ _) | (with_reducible refine Below.setCell ?_ ?_ _) | go_size))) (hb1.mono (by go_size))
  have hsb : w.heap.size ≤ w1.heap.size := hwb.size
  go_wp2_with fail
  refine bodyPost_ret (v := .agg #[.int .i64 _, .int .i64 _]) (by simp [results, Try.results58, go_sem, cb4, cb5]; exact ⟨rfl, rfl⟩) rfl ⟨ret_sp ?_ ?_, ?_⟩
  · rfl
  · rfl
  · (repeat' (first | (with_reducible exact Below.refl _ _) | (with_reducible assumption) | (with_reducible refine Below.alloc ?_ ?_ _) | (with_reducible refine Below.drew ?_) | (with_reducible refine below_drewN ?_ _) | (with_reducible refine Below.setCell ?_ ?_ _) | go_size))

set_option maxRecDepth 20000 in
set_option maxHeartbeats 2000000 in
theorem ron_no (a b z t m : Int) (w : World) :
    Calls Try.prog 59 #[.agg #[.bool false, .int .i64 a, .int .i64 b, .int .i64 z], .int .i64 t, .int .i64 m] w fun e w' => e = .returned (.agg #[.int .i64 (1), .int .i64 (0)]) ∧ Below w.heap.size w w' := by
  go_enter Try.func59, Try.ntmps59
  go_wp2_with fail
  refine bodyPost_ret (v := .agg #[.int .i64 1, .int .i64 0]) (by simp [results, Try.results59, go_sem]) rfl ⟨rfl, ?_⟩
  (repeat' (first | (with_reducible exact Below.refl _ _) | (with_reducible assumption) | (with_reducible refine Below.alloc ?_ ?_ _) | (with_reducible refine Below.drew ?_) | (with_reducible refine below_drewN ?_ _) | (with_reducible refine Below.setCell ?_ ?_ _) | go_size))

set_option maxRecDepth 20000 in
set_option maxHeartbeats 2000000 in
theorem on_lt (a b z t m : Int) (w : World) (h1 : Tm t) (h2 : Tm z) (hc : t < z) :
    Calls Try.prog 58 #[.agg #[.bool true, .int .i64 a, .int .i64 b, .int .i64 z], .int .i64 t, .int .i64 m] w fun e w' => e = .returned (.agg #[.int .i64 (Pl.wlo a b (Pl.drift (z - t) m)), .int .i64 (Pl.whi a b (Pl.drift (z - t) m))]) ∧ Below w.heap.size w w' := by
  obtain ⟨a1, a2⟩ := h1
  obtain ⟨b1, b2⟩ := h2
  have x1 : IntKind.i64.wrap (t - z) = t - z := wrap_of (by omega) (by omega)
  have x2 : IntKind.i64.wrap (z - t) = z - t := wrap_of (by omega) (by omega)
  have x3 : IntKind.i64.wrap (-(t - z)) = z - t := by rw [wrap_of (by omega) (by omega)]; omega
  have x4 : IntKind.i64.wrap (0 - (t - z)) = z - t := by rw [wrap_of (by omega) (by omega)]; omega
  go_enter Try.func58, Try.ntmps58
  go_wp2_with fail
  refine wp_region_kw 14 (by kernel_rfl) (by kernel_rfl) ?_
  simp only [List.take_succ_cons, List.take_zero, List.drop_succ_cons, List.drop_zero]
  repeat (quiet_step (((first | (go_at_call 37; exact KW.same (drift_c _ _ _)) | (go_at_call 22; exact KW.call (widen_c _ _ _ _))))))
  refine wpQuiet_nil ?_
  intro k1
  have cb0 : k1.val.cell? ⟨w.heap.size, 0, none⟩ = some (.bool true) := (k1.kp.cell (p := ⟨w.heap.size, 0, none⟩) (by go_size)).trans (by go_simp)
  have fb0 : k1.val.frozen? ⟨w.heap.size, 0, none⟩ = false := (k1.kp.frozen (p := ⟨w.heap.size, 0, none⟩) (by go_size)).trans (by go_simp)
  have cb1 : k1.val.cell? ⟨w.heap.size, 1, none⟩ = some (.int .i64 a) := (k1.kp.cell (p := ⟨w.heap.size, 1, none⟩) (by go_size)).trans (by go_simp)
  have fb1 : k1.val.frozen? ⟨w.heap.size, 1, none⟩ = false := (k1.kp.frozen (p := ⟨w.heap.size, 1, none⟩) (by go_size)).trans (by go_simp)
  have cb2 : k1.val.cell? ⟨w.heap.size, 2, none⟩ = some (.int .i64 b) := (k1.kp.cell (p := ⟨w.heap.size, 2, none⟩) (by go_size)).trans (by go_simp)
  have fb2 : k1.val.frozen? ⟨w.heap.size, 2, none⟩ = false := (k1.kp.frozen (p := ⟨w.heap.size, 2, none⟩) (by go_size)).trans (by go_simp)
  have cb3 : k1.val.cell? ⟨w.heap.size, 3, none⟩ = some (.int .i64 z) := (k1.kp.cell (p := ⟨w.heap.size, 3, none⟩) (by go_size)).trans (by go_simp)
  have fb3 : k1.val.frozen? ⟨w.heap.size, 3, none⟩ = false := (k1.kp.frozen (p := ⟨w.heap.size, 3, none⟩) (by go_size)).trans (by go_simp)
  have zb4 : w.heap.size < k1.val.heap.size := Nat.lt_of_lt_of_le (by go_size) k1.kp.size
  have cb4 : k1.val.cell? ⟨w.heap.size + 1, 0, none⟩ = some (.int .i64 0) := (k1.kp.cell (p := ⟨w.heap.size + 1, 0, none⟩) (by go_size)).trans (by go_simp)
  have fb4 : k1.val.frozen? ⟨w.heap.size + 1, 0, none⟩ = false := (k1.kp.frozen (p := ⟨w.heap.size + 1, 0, none⟩) (by go_size)).trans (by go_simp)
  have cb5 : k1.val.cell? ⟨w.heap.size + 1, 1, none⟩ = some (.int .i64 0) := (k1.kp.cell (p := ⟨w.heap.size + 1, 1, none⟩) (by go_size)).trans (by go_simp)
  have fb5 : k1.val.frozen? ⟨w.heap.size + 1, 1, none⟩ = false := (k1.kp.frozen (p := ⟨w.heap.size + 1, 1, none⟩) (by go_size)).trans (by go_simp)
  have zb6 : w.heap.size + 1 < k1.val.heap.size := Nat.lt_of_lt_of_le (by go_size) k1.kp.size
  have hwb : Below w.heap.size w k1.val := Below.trans (by (repeat' (first | (with_reducible exact Below.refl _ _) | (with_reducible assumption) | (with_reducible refine Below.alloc ?_ ?_ _) | (with_reducible refine Below.drew ?_) | (with_reducible refine below_drewN ?_ _) | (with_reducible refine Below.setCell ?_ ?_ _) | go_size))) (k1.kp.mono (by go_size))
  have hsb : w.heap.size ≤ k1.val.heap.size := hwb.size
  go_wp2_with fail
  all_goals
    refine bodyPost_ret (v := .agg #[.int .i64 _, .int .i64 _]) (by simp [results, Try.results58, go_sem, cb4, cb5]; exact ⟨rfl, rfl⟩) rfl ⟨ret_sp ?_ ?_, ?_⟩
    · first | rfl | rw [show t - z = 0 by omega]
    · first | rfl | rw [show t - z = 0 by omega]
    · (repeat' (first | (with_reducible exact Below.refl _ _) | (with_reducible assumption) | (with_reducible refine Below.alloc ?_ ?_ _) | (with_reducible refine Below.drew ?_) | (with_reducible refine below_drewN ?_ _) | (with_reducible refine Below.setCell ?_ ?_ _) | go_size))

set_option maxRecDepth 20000 in
set_option maxHeartbeats 2000000 in
theorem on_ge (a b z t m : Int) (w : World) (h1 : Tm t) (h2 : Tm z) (hc : ¬ t < z) :
    Calls Try.prog 58 #[.agg #[.bool true, .int .i64 a, .int .i64 b, .int .i64 z], .int .i64 t, .int .i64 m] w fun e w' => e = .returned (.agg #[.int .i64 (Pl.wlo a b (Pl.drift (t - z) m)), .int .i64 (Pl.whi a b (Pl.drift (t - z) m))]) ∧ Below w.heap.size w w' := by
  obtain ⟨a1, a2⟩ := h1
  obtain ⟨b1, b2⟩ := h2
  have x1 : IntKind.i64.wrap (t - z) = t - z := wrap_of (by omega) (by omega)
  have x2 : IntKind.i64.wrap (z - t) = z - t := wrap_of (by omega) (by omega)
  have x3 : IntKind.i64.wrap (-(t - z)) = z - t := by rw [wrap_of (by omega) (by omega)]; omega
  have x4 : IntKind.i64.wrap (0 - (t - z)) = z - t := by rw [wrap_of (by omega) (by omega)]; omega
  go_enter Try.func58, Try.ntmps58
  go_wp2_with fail
  refine wp_region_kw 14 (by kernel_rfl) (by kernel_rfl) ?_
  simp only [List.take_succ_cons, List.take_zero, List.drop_succ_cons, List.drop_zero]
  repeat (quiet_step (((first | (go_at_call 37; exact KW.same (drift_c _ _ _)) | (go_at_call 22; exact KW.call (widen_c _ _ _ _))))))
  refine wpQuiet_nil ?_
  intro k1
  have cb0 : k1.val.cell? ⟨w.heap.size, 0, none⟩ = some (.bool true) := (k1.kp.cell (p := ⟨w.heap.size, 0, none⟩) (by go_size)).trans (by go_simp)
  have fb0 : k1.val.frozen? ⟨w.heap.size, 0, none⟩ = false := (k1.kp.frozen (p := ⟨w.heap.size, 0, none⟩) (by go_size)).trans (by go_simp)
  have cb1 : k1.val.cell? ⟨w.heap.size, 1, none⟩ = some (.int .i64 a) := (k1.kp.cell (p := ⟨w.heap.size, 1, none⟩) (by go_size)).trans (by go_simp)
  have fb1 : k1.val.frozen? ⟨w.heap.size, 1, none⟩ = false := (k1.kp.frozen (p := ⟨w.heap.size, 1, none⟩) (by go_size)).trans (by go_simp)
  have cb2 : k1.val.cell? ⟨w.heap.size, 2, none⟩ = some (.int .i64 b) := (k1.kp.cell (p := ⟨w.heap.size, 2, none⟩) (by go_size)).trans (by go_simp)
  have fb2 : k1.val.frozen? ⟨w.heap.size, 2, none⟩ = false := (k1.kp.frozen (p := ⟨w.heap.size, 2, none⟩) (by go_size)).trans (by go_simp)
  have cb3 : k1.val.cell? ⟨w.heap.size, 3, none⟩ = some (.int .i64 z) := (k1.kp.cell (p := ⟨w.heap.size, 3, none⟩) (by go_size)).trans (by go_simp)
  have fb3 : k1.val.frozen? ⟨w.heap.size, 3, none⟩ = false := (k1.kp.frozen (p := ⟨w.heap.size, 3, none⟩) (by go_size)).trans (by go_simp)
  have zb4 : w.heap.size < k1.val.heap.size := Nat.lt_of_lt_of_le (by go_size) k1.kp.size
  have cb4 : k1.val.cell? ⟨w.heap.size + 1, 0, none⟩ = some (.int .i64 0) := (k1.kp.cell (p := ⟨w.heap.size + 1, 0, none⟩) (by go_size)).trans (by go_simp)
  have fb4 : k1.val.frozen? ⟨w.heap.size + 1, 0, none⟩ = false := (k1.kp.frozen (p := ⟨w.heap.size + 1, 0, none⟩) (by go_size)).trans (by go_simp)
  have cb5 : k1.val.cell? ⟨w.heap.size + 1, 1, none⟩ = some (.int .i64 0) := (k1.kp.cell (p := ⟨w.heap.size + 1, 1, none⟩) (by go_size)).trans (by go_simp)
  have fb5 : k1.val.frozen? ⟨w.heap.size + 1, 1, none⟩ = false := (k1.kp.frozen (p := ⟨w.heap.size + 1, 1, none⟩) (by go_size)).trans (by go_simp)
  have zb6 : w.heap.size + 1 < k1.val.heap.size := Nat.lt_of_lt_of_le (by go_size) k1.kp.size
  have hwb : Below w.heap.size w k1.val := Below.trans (by (repeat' (first | (with_reducible exact Below.refl _ _) | (with_reducible assumption) | (with_reducible refine Below.alloc ?_ ?_ _) | (with_reducible refine Below.drew ?_) | (with_reducible refine below_drewN ?_ _) | (with_reducible refine Below.setCell ?_ ?_ _) | go_size))) (k1.kp.mono (by go_size))
  have hsb : w.heap.size ≤ k1.val.heap.size := hwb.size
  go_wp2_with fail
  all_goals
    refine bodyPost_ret (v := .agg #[.int .i64 _, .int .i64 _]) (by simp [results, Try.results58, go_sem, cb4, cb5]; exact ⟨rfl, rfl⟩) rfl ⟨ret_sp ?_ ?_, ?_⟩
    · first | rfl | rw [show t - z = 0 by omega]
    · first | rfl | rw [show t - z = 0 by omega]
    · (repeat' (first | (with_reducible exact Below.refl _ _) | (with_reducible assumption) | (with_reducible refine Below.alloc ?_ ?_ _) | (with_reducible refine Below.drew ?_) | (with_reducible refine below_drewN ?_ _) | (with_reducible refine Below.setCell ?_ ?_ _) | go_size))

set_option maxRecDepth 20000 in
set_option maxHeartbeats 2000000 in
theorem ron_lt (a b z t m : Int) (w : World) (h1 : Tm t) (h2 : Tm z) (hc : t < z) :
    Calls Try.prog 59 #[.agg #[.bool true, .int .i64 a, .int .i64 b, .int .i64 z], .int .i64 t, .int .i64 m] w fun e w' => e = .returned (.agg #[.int .i64 (Pl.wlo a b (Pl.drift (z - t) m)), .int .i64 (Pl.whi a b (Pl.drift (z - t) m))]) ∧ Below w.heap.size w w' := by
  obtain ⟨a1, a2⟩ := h1
  obtain ⟨b1, b2⟩ := h2
  have x1 : IntKind.i64.wrap (t - z) = t - z := wrap_of (by omega) (by omega)
  have x2 : IntKind.i64.wrap (z - t) = z - t := wrap_of (by omega) (by omega)
  have x3 : IntKind.i64.wrap (-(t - z)) = z - t := by rw [wrap_of (by omega) (by omega)]; omega
  have x4 : IntKind.i64.wrap (0 - (t - z)) = z - t := by rw [wrap_of (by omega) (by omega)]; omega
  go_enter Try.func59, Try.ntmps59
  go_wp2_with fail
  refine wp_region_kw 6 (by kernel_rfl) (by kernel_rfl) ?_
  simp only [List.take_succ_cons, List.take_zero, List.drop_succ_cons, List.drop_zero]
  repeat (quiet_step (((first | (go_at_call 38; exact KW.same (rdrift_c _ _ _)) | (go_at_call 45; exact KW.call (rwiden_c _ _ _ _))))))
  refine wpQuiet_nil ?_
  intro k1
  have cb0 : k1.val.cell? ⟨w.heap.size, 0, none⟩ = some (.bool true) := (k1.kp.cell (p := ⟨w.heap.size, 0, none⟩) (by go_size)).trans (by go_simp)
  have fb0 : k1.val.frozen? ⟨w.heap.size, 0, none⟩ = false := (k1.kp.frozen (p := ⟨w.heap.size, 0, none⟩) (by go_size)).trans (by go_simp)
  have cb1 : k1.val.cell? ⟨w.heap.size, 1, none⟩ = some (.int .i64 a) := (k1.kp.cell (p := ⟨w.heap.size, 1, none⟩) (by go_size)).trans (by go_simp)
  have fb1 : k1.val.frozen? ⟨w.heap.size, 1, none⟩ = false := (k1.kp.frozen (p := ⟨w.heap.size, 1, none⟩) (by go_size)).trans (by go_simp)
  have cb2 : k1.val.cell? ⟨w.heap.size, 2, none⟩ = some (.int .i64 b) := (k1.kp.cell (p := ⟨w.heap.size, 2, none⟩) (by go_size)).trans (by go_simp)
  have fb2 : k1.val.frozen? ⟨w.heap.size, 2, none⟩ = false := (k1.kp.frozen (p := ⟨w.heap.size, 2, none⟩) (by go_size)).trans (by go_simp)
  have cb3 : k1.val.cell? ⟨w.heap.size, 3, none⟩ = some (.int .i64 z) := (k1.kp.cell (p := ⟨w.heap.size, 3, none⟩) (by go_size)).trans (by go_simp)
  have fb3 : k1.val.frozen? ⟨w.heap.size, 3, none⟩ = false := (k1.kp.frozen (p := ⟨w.heap.size, 3, none⟩) (by go_size)).trans (by go_simp)
  have zb4 : w.heap.size < k1.val.heap.size := Nat.lt_of_lt_of_le (by go_size) k1.kp.size
  have cb4 : k1.val.cell? ⟨w.heap.size + 1, 0, none⟩ = some (.int .i64 0) := (k1.kp.cell (p := ⟨w.heap.size + 1, 0, none⟩) (by go_size)).trans (by go_simp)
  have fb4 : k1.val.frozen? ⟨w.heap.size + 1, 0, none⟩ = false := (k1.kp.frozen (p := ⟨w.heap.size + 1, 0, none⟩) (by go_size)).trans (by go_simp)
  have cb5 : k1.val.cell? ⟨w.heap.size + 1, 1, none⟩ = some (.int .i64 0) := (k1.kp.cell (p := ⟨w.heap.size + 1, 1, none⟩) (by go_size)).trans (by go_simp)
  have fb5 : k1.val.frozen? ⟨w.heap.size + 1, 1, none⟩ = false := (k1.kp.frozen (p := ⟨w.heap.size + 1, 1, none⟩) (by go_size)).trans (by go_simp)
  have zb6 : w.heap.size + 1 < k1.val.heap.size := Nat.lt_of_lt_of_le (by go_size) k1.kp.size
  have hwb : Below w.heap.size w k1.val := Below.trans (by (repeat' (first | (with_reducible exact Below.refl _ _) | (with_reducible assumption) | (with_reducible refine Below.alloc ?_ ?_ _) | (with_reducible refine Below.drew ?_) | (with_reducible refine below_drewN ?_ _) | (with_reducible refine Below.setCell ?_ ?_ _) | go_size))) (k1.kp.mono (by go_size))
  have hsb : w.heap.size ≤ k1.val.heap.size := hwb.size
  go_wp2_with fail
  all_goals
    refine bodyPost_ret (v := .agg #[.int .i64 _, .int .i64 _]) (by simp [results, Try.results59, go_sem, cb4, cb5]; exact ⟨rfl, rfl⟩) rfl ⟨ret_sp ?_ ?_, ?_⟩
    · first | rfl | rw [show t - z = 0 by omega]
    · first | rfl | rw [show t - z = 0 by omega]
    · (repeat' (first | (with_reducible exact Below.refl _ _) | (with_reducible assumption) | (with_reducible refine Below.alloc ?_ ?_ _) | (with_reducible refine Below.drew ?_) | (with_reducible refine below_drewN ?_ _) | (with_reducible refine Below.setCell ?_ ?_ _) | go_size))

set_option maxRecDepth 20000 in
set_option maxHeartbeats 2000000 in
theorem ron_ge (a b z t m : Int) (w : World) (h1 : Tm t) (h2 : Tm z) (hc : ¬ t < z) :
    Calls Try.prog 59 #[.agg #[.bool true, .int .i64 a, .int .i64 b, .int .i64 z], .int .i64 t, .int .i64 m] w fun e w' => e = .returned (.agg #[.int .i64 (Pl.wlo a b (Pl.drift (t - z) m)), .int .i64 (Pl.whi a b (Pl.drift (t - z) m))]) ∧ Below w.heap.size w w' := by
  obtain ⟨a1, a2⟩ := h1
  obtain ⟨b1, b2⟩ := h2
  have x1 : IntKind.i64.wrap (t - z) = t - z := wrap_of (by omega) (by omega)
  have x2 : IntKind.i64.wrap (z - t) = z - t := wrap_of (by omega) (by omega)
  have x3 : IntKind.i64.wrap (-(t - z)) = z - t := by rw [wrap_of (by omega) (by omega)]; omega
  have x4 : IntKind.i64.wrap (0 - (t - z)) = z - t := by rw [wrap_of (by omega) (by omega)]; omega
  go_enter Try.func59, Try.ntmps59
  go_wp2_with fail
  refine wp_region_kw 6 (by kernel_rfl) (by kernel_rfl) ?_
  simp only [List.take_succ_cons, List.take_zero, List.drop_succ_cons, List.drop_zero]
  repeat (quiet_step (((first | (go_at_call 38; exact KW.same (rdrift_c _ _ _)) | (go_at_call 45; exact KW.call (rwiden_c _ _ _ _))))))
  refine wpQuiet_nil ?_
  intro k1
  have cb0 : k1.val.cell? ⟨w.heap.size, 0, none⟩ = some (.bool true) := (k1.kp.cell (p := ⟨w.heap.size, 0, none⟩) (by go_size)).trans (by go_simp)
  have fb0 : k1.val.frozen? ⟨w.heap.size, 0, none⟩ = false := (k1.kp.frozen (p := ⟨w.heap.size, 0, none⟩) (by go_size)).trans (by go_simp)
  have cb1 : k1.val.cell? ⟨w.heap.size, 1, none⟩ = some (.int .i64 a) := (k1.kp.cell (p := ⟨w.heap.size, 1, none⟩) (by go_size)).trans (by go_simp)
  have fb1 : k1.val.frozen? ⟨w.heap.size, 1, none⟩ = false := (k1.kp.frozen (p := ⟨w.heap.size, 1, none⟩) (by go_size)).trans (by go_simp)
  have cb2 : k1.val.cell? ⟨w.heap.size, 2, none⟩ = some (.int .i64 b) := (k1.kp.cell (p := ⟨w.heap.size, 2, none⟩) (by go_size)).trans (by go_simp)
  have fb2 : k1.val.frozen? ⟨w.heap.size, 2, none⟩ = false := (k1.kp.frozen (p := ⟨w.heap.size, 2, none⟩) (by go_size)).trans (by go_simp)
  have cb3 : k1.val.cell? ⟨w.heap.size, 3, none⟩ = some (.int .i64 z) := (k1.kp.cell (p := ⟨w.heap.size, 3, none⟩) (by go_size)).trans (by go_simp)
  have fb3 : k1.val.frozen? ⟨w.heap.size, 3, none⟩ = false := (k1.kp.frozen (p := ⟨w.heap.size, 3, none⟩) (by go_size)).trans (by go_simp)
  have zb4 : w.heap.size < k1.val.heap.size := Nat.lt_of_lt_of_le (by go_size) k1.kp.size
  have cb4 : k1.val.cell? ⟨w.heap.size + 1, 0, none⟩ = some (.int .i64 0) := (k1.kp.cell (p := ⟨w.heap.size + 1, 0, none⟩) (by go_size)).trans (by go_simp)
  have fb4 : k1.val.frozen? ⟨w.heap.size + 1, 0, none⟩ = false := (k1.kp.frozen (p := ⟨w.heap.size + 1, 0, none⟩) (by go_size)).trans (by go_simp)
  have cb5 : k1.val.cell? ⟨w.heap.size + 1, 1, none⟩ = some (.int .i64 0) := (k1.kp.cell (p := ⟨w.heap.size + 1, 1, none⟩) (by go_size)).trans (by go_simp)
  have fb5 : k1.val.frozen? ⟨w.heap.size + 1, 1, none⟩ = false := (k1.kp.frozen (p := ⟨w.heap.size + 1, 1, none⟩) (by go_size)).trans (by go_simp)
  have zb6 : w.heap.size + 1 < k1.val.heap.size := Nat.lt_of_lt_of_le (by go_size) k1.kp.size
  have hwb : Below w.heap.size w k1.val := Below.trans (by (repeat' (first | (with_reducible exact Below.refl _ _) | (with_reducible assumption) | (with_reducible refine Below.alloc ?_ ?_ _) | (with_reducible refine Below.drew ?_) | (with_reducible refine below_drewN ?_ _) | (with_reducible refine Below.setCell ?_ ?_ _) | go_size))) (k1.kp.mono (by go_size))
  have hsb : w.heap.size ≤ k1.val.heap.size := hwb.size
  go_wp2_with fail
  all_goals
    refine bodyPost_ret (v := .agg #[.int .i64 _, .int .i64 _]) (by simp [results, Try.results59, go_sem, cb4, cb5]; exact ⟨rfl, rfl⟩) rfl ⟨ret_sp ?_ ?_, ?_⟩
    · first | rfl | rw [show t - z = 0 by omega]
    · first | rfl | rw [show t - z = 0 by omega]
    · (repeat' (first | (with_reducible exact Below.refl _ _) | (with_reducible assumption) | (with_reducible refine Below.alloc ?_ ?_ _) | (with_reducible refine Below.drew ?_) | (with_reducible refine below_drewN ?_ _) | (with_reducible refine Below.setCell ?_ ?_ _) | go_size))

theorem on_c (k : Bool) (a b z t m : Int) (w : World) (h1 : Tm t) (h2 : Tm z) :
    Calls Try.prog 58 #[.agg #[.bool k, .int .i64 a, .int .i64 b, .int .i64 z], .int .i64 t, .int .i64 m] w fun e w' => e = .returned (.agg #[.int .i64 (Pl.olo k a b z t m), .int .i64 (Pl.ohi k a b z t m)]) ∧ Below w.heap.size w w' := by
  cases k with
  | false => exact on_no a b z t m w
  | true =>
    by_cases hc : t < z
    · have e : Pl.ap t z = z - t := by unfold Pl.ap; rw [if_pos hc]
      have e1 : Pl.olo true a b z t m = Pl.wlo a b (Pl.drift (z - t) m) := by simp [Pl.olo, e]
      have e2 : Pl.ohi true a b z t m = Pl.whi a b (Pl.drift (z - t) m) := by simp [Pl.ohi, e]
      rw [e1, e2]
      exact on_lt a b z t m w h1 h2 hc
    · have e : Pl.ap t z = t - z := by unfold Pl.ap; rw [if_neg hc]
      have e1 : Pl.olo true a b z t m = Pl.wlo a b (Pl.drift (t - z) m) := by simp [Pl.olo, e]
      have e2 : Pl.ohi true a b z t m = Pl.whi a b (Pl.drift (t - z) m) := by simp [Pl.ohi, e]
      rw [e1, e2]
      exact on_ge a b z t m w h1 h2 hc
theorem ron_c (k : Bool) (a b z t m : Int) (w : World) (h1 : Tm t) (h2 : Tm z) :
    Calls Try.prog 59 #[.agg #[.bool k, .int .i64 a, .int .i64 b, .int .i64 z], .int .i64 t, .int .i64 m] w fun e w' => e = .returned (.agg #[.int .i64 (Pl.olo k a b z t m), .int .i64 (Pl.ohi k a b z t m)]) ∧ Below w.heap.size w w' := by
  cases k with
  | false => exact ron_no a b z t m w
  | true =>
    by_cases hc : t < z
    · have e : Pl.ap t z = z - t := by unfold Pl.ap; rw [if_pos hc]
      have e1 : Pl.olo true a b z t m = Pl.wlo a b (Pl.drift (z - t) m) := by simp [Pl.olo, e]
      have e2 : Pl.ohi true a b z t m = Pl.whi a b (Pl.drift (z - t) m) := by simp [Pl.ohi, e]
      rw [e1, e2]
      exact ron_lt a b z t m w h1 h2 hc
    · have e : Pl.ap t z = t - z := by unfold Pl.ap; rw [if_neg hc]
      have e1 : Pl.olo true a b z t m = Pl.wlo a b (Pl.drift (t - z) m) := by simp [Pl.olo, e]
      have e2 : Pl.ohi true a b z t m = Pl.whi a b (Pl.drift (t - z) m) := by simp [Pl.ohi, e]
      rw [e1, e2]
      exact ron_ge a b z t m w h1 h2 hc
end Go.Proofs.Ytgpeekmagckgcaa
