/- What is proved here: what Aim answers. Condition: times. -/
import Derived.Test.YtgpeekmagckgcaaD3
import Derived.Test.YtgpeekmagckgcaaPn
namespace Go.Proofs.Ytgpeekmagckgcaa
open Go Go.RowKit
attribute [local go_sem] KW.cell KW.frozen
attribute [local go_sem ↓] eql24 eql23 fld0 fld1

namespace Pl
theorem mid_emp {a b : Int} (h : emp a b = true) : mid a b = 0 ∧ half a b = 0 := by
  have h2 : emp (clo a b) (chi a b) = true := by rw [emp2]; exact h
  exact ⟨by unfold mid; rw [if_pos h2], by unfold half; rw [if_pos h2]⟩
theorem half_full {a b : Int} (h : emp a b = false) : half a b = chi a b - mid a b := by
  have h2 : emp (clo a b) (chi a b) = false := by rw [emp2]; exact h
  rw [emp_cl] at h2
  exact (half_not (by simpa using h2)).1
end Pl
theorem ret_aim {a b c d : Int} {x y : Bool} (h : a = c) (k : b = d) (l : x = y) : Ending.returned (.tuple #[.int .i64 a, .int .i64 b, .bool x]) = .returned (.tuple #[.int .i64 c, .int .i64 d, .bool y]) := by rw [h, k, l]

set_option maxRecDepth 20000 in
set_option maxHeartbeats 2000000 in
theorem aim_no0 (a b z t m : Int) (w : World) :
    Calls Try.prog 62 #[.agg #[.bool false, .int .i64 a, .int .i64 b, .int .i64 z], .int .i64 t, .int .i64 m] w fun e w' => e = .returned (.tuple #[.int .i64 (0), .int .i64 (0), .bool false]) ∧ Below w.heap.size w w' := by
  go_enter Try.func62, Try.ntmps62
  go_wp2
  go_returns
  refine ⟨rfl, ?_⟩
  (repeat' (first | (with_reducible exact Below.refl _ _) | (with_reducible assumption) | (with_reducible refine Below.alloc ?_ ?_ _) | (with_reducible refine Below.drew ?_) | (with_reducible refine below_drewN ?_ _) | (with_reducible refine Below.setCell ?_ ?_ _) | go_size))

set_option maxRecDepth 20000 in
set_option maxHeartbeats 2000000 in
theorem aim_no1 (a b z t m : Int) (w : World) (h : t < 0) :
    Calls Try.prog 62 #[.agg #[.bool true, .int .i64 a, .int .i64 b, .int .i64 z], .int .i64 t, .int .i64 m] w fun e w' => e = .returned (.tuple #[.int .i64 (0), .int .i64 (0), .bool false]) ∧ Below w.heap.size w w' := by
  go_enter Try.func62, Try.ntmps62
  go_wp2
  go_returns
  refine ⟨rfl, ?_⟩
  (repeat' (first | (with_reducible exact Below.refl _ _) | (with_reducible assumption) | (with_reducible refine Below.alloc ?_ ?_ _) | (with_reducible refine Below.drew ?_) | (with_reducible refine below_drewN ?_ _) | (with_reducible refine Below.setCell ?_ ?_ _) | go_size))

set_option maxRecDepth 20000 in
set_option maxHeartbeats 2000000 in
theorem aim_no2 (a b z t m : Int) (w : World) (h0 : ¬ t < 0) (h : 1099511627776 < t) :
    Calls Try.prog 62 #[.agg #[.bool true, .int .i64 a, .int .i64 b, .int .i64 z], .int .i64 t, .int .i64 m] w fun e w' => e = .returned (.tuple #[.int .i64 (0), .int .i64 (0), .bool false]) ∧ Below w.heap.size w w' := by
  go_enter Try.func62, Try.ntmps62
  go_wp2
  go_returns
  refine ⟨rfl, ?_⟩
  (repeat' (first | (with_reducible exact Below.refl _ _) | (with_reducible assumption) | (with_reducible refine Below.alloc ?_ ?_ _) | (with_reducible refine Below.drew ?_) | (with_reducible refine below_drewN ?_ _) | (with_reducible refine Below.setCell ?_ ?_ _) | go_size))

set_option maxRecDepth 20000 in
set_option maxHeartbeats 2000000 in
theorem raim_no0 (a b z t m : Int) (w : World) :
    Calls Try.prog 63 #[.agg #[.bool false, .int .i64 a, .int .i64 b, .int .i64 z], .int .i64 t, .int .i64 m] w fun e w' => e = .returned (.tuple #[.int .i64 (0), .int .i64 (0), .bool false]) ∧ Below w.heap.size w w' := by
  go_enter Try.func63, Try.ntmps63
  go_wp2
  go_returns
  refine ⟨rfl, ?_⟩
  (repeat' (first | (with_reducible exact Below.refl _ _) | (with_reducible assumption) | (with_reducible refine Below.alloc ?_ ?_ _) | (with_reducible refine Below.drew ?_) | (with_reducible refine below_drewN ?_ _) | (with_reducible refine Below.setCell ?_ ?_ _) | go_size))

set_option maxRecDepth 20000 in
set_option maxHeartbeats 2000000 in
theorem raim_no1 (a b z t m : Int) (w : World) (h : t < 0) :
    Calls Try.prog 63 #[.agg #[.bool true, .int .i64 a, .int .i64 b, .int .i64 z], .int .i64 t, .int .i64 m] w fun e w' => e = .returned (.tuple #[.int .i64 (0), .int .i64 (0), .bool false]) ∧ Below w.heap.size w w' := by
  go_enter Try.func63, Try.ntmps63
  go_wp2
  go_returns
  refine ⟨rfl, ?_⟩
  (repeat' (first | (with_reducible exact Below.refl _ _) | (with_reducible assumption) | (with_reducible refine Below.alloc ?_ ?_ _) | (with_reducible refine Below.drew ?_) | (with_reducible refine below_drewN ?_ _) | (with_reducible refine Below.setCell ?_ ?_ _) | go_size))

set_option maxRecDepth 20000 in
set_option maxHeartbeats 2000000 in
theorem raim_no2 (a b z t m : Int) (w : World) (h0 : ¬ t < 0) (h : 1099511627776 < t) :
    Calls Try.prog 63 #[.agg #[.bool true, .int .i64 a, .int .i64 b, .int .i64 z], .int .i64 t, .int .i64 m] w fun e w' => e = .returned (.tuple #[.int .i64 (0), .int .i64 (0), .bool false]) ∧ Below w.heap.size w w' := by
  go_enter Try.func63, Try.ntmps63
  go_wp2
  go_returns
  refine ⟨rfl, ?_⟩
  (repeat' (first | (with_reducible exact Below.refl _ _) | (with_reducible assumption) | (with_reducible refine Below.alloc ?_ ?_ _) | (with_reducible refine Below.drew ?_) | (with_reducible refine below_drewN ?_ _) | (with_reducible refine Below.setCell ?_ ?_ _) | go_size))

set_option maxRecDepth 20000 in
set_option maxHeartbeats 2000000 in
theorem aim_ok (a b z t m : Int) (w : World) (h0 : ¬ t < 0) (h : ¬ 1099511627776 < t) (h2 : Tm z) :
    Calls Try.prog 62 #[.agg #[.bool true, .int .i64 a, .int .i64 b, .int .i64 z], .int .i64 t, .int .i64 m] w fun e w' => e = .returned (.tuple #[.int .i64 (t + Pl.mid (Pl.olo true a b z t m) (Pl.ohi true a b z t m)), .int .i64 (Pl.half (Pl.olo true a b z t m) (Pl.ohi true a b z t m)), .bool true]) ∧ Below w.heap.size w w' := by
  have h1 : Tm t := ⟨by omega, by omega⟩
  have hon := fun w => on_c true a b z t m w h1 h2
  have HON := Lib.hid hon
  clear hon
  generalize Pl.olo true a b z t m = L at *
  generalize Pl.ohi true a b z t m = H at *
  have q1 := Pl.mid_bd L H
  have q2 := Pl.half_bd L H
  have q3 := Pl.chi_bd L H
  have x1 : IntKind.i64.wrap (t + Pl.mid L H) = t + Pl.mid L H := wrap_of (by omega) (by omega)
  have x2 : IntKind.i64.wrap (Pl.chi L H - Pl.mid L H) = Pl.chi L H - Pl.mid L H := wrap_of (by omega) (by omega)
  clear q1 q2 q3
  go_enter Try.func62, Try.ntmps62
  go_wp2_with fail
  refine (HON.out _).mono ?_
  rintro e w1 ⟨rfl, hb1⟩
  have cb0 : w1.cell? ⟨w.heap.size, 0, none⟩ = some (.bool true) := (hb1.cell (p := ⟨w.heap.size, 0, none⟩) (by go_size)).trans (by go_simp)
  have fb0 : w1.frozen? ⟨w.heap.size, 0, none⟩ = false := (hb1.frozen (p := ⟨w.heap.size, 0, none⟩) (by go_size)).trans (by go_simp)
  have cb1 : w1.cell? ⟨w.heap.size, 1, none⟩ = some (.int .i64 a) := (hb1.cell (p := ⟨w.heap.size, 1, none⟩) (by go_size)).trans (by go_simp)
  have fb1 : w1.frozen? ⟨w.heap.size, 1, none⟩ = false := (hb1.frozen (p := ⟨w.heap.size, 1, none⟩) (by go_size)).trans (by go_simp)
  have cb2 : w1.cell? ⟨w.heap.size, 2, none⟩ = some (.int .i64 b) := (hb1.cell (p := ⟨w.heap.size, 2, none⟩) (by go_size)).trans (by go_simp)
  have fb2 : w1.frozen? ⟨w.heap.size, 2, none⟩ = false := (hb1.frozen (p := ⟨w.heap.size, 2, none⟩) (by go_size)).trans (by go_simp)
  have cb3 : w1.cell? ⟨w.heap.size, 3, none⟩ = some (.int .i64 z) := (hb1.cell (p := ⟨w.heap.size, 3, none⟩) (by go_size)).trans (by go_simp)
  have fb3 : w1.frozen? ⟨w.heap.size, 3, none⟩ = false := (hb1.frozen (p := ⟨w.heap.size, 3, none⟩) (by go_size)).trans (by go_simp)
  have zb4 : w.heap.size < w1.heap.size := Nat.lt_of_lt_of_le (by go_size) hb1.size
  have hwb : Below w.heap.size w w1 := Below.trans (by (repeat' (first | (with_reducible exact Below.refl _ _) | (with_reducible assumption) | (with_reducible refine Below.alloc ?_ ?_ _) | (with_reducible refine Below.drew ?_) | (with_reducible refine below_drewN ?_ _) | (with_reducible refine Below.setCell ?_ ?_ _) | go_size))) (hb1.mono (by go_size))
  have hsb : w.heap.size ≤ w1.heap.size := hwb.size
  go_wp2_with fail
  refine wp_region_kw 8 (by kernel_rfl) (by kernel_rfl) ?_
  simp only [List.take_succ_cons, List.take_zero, List.drop_succ_cons, List.drop_zero]
  repeat (quiet_step ((first | (go_at_call 20; exact KW.call (mid_c _ _ _)) | (go_at_call 21; exact KW.call (half_c _ _ _)))))
  refine wpQuiet_nil ?_
  intro k2
  have hw2 : Below w.heap.size w k2.val := Below.trans (by (repeat' (first | (with_reducible exact Below.refl _ _) | (with_reducible assumption) | (with_reducible refine Below.alloc ?_ ?_ _) | (with_reducible refine Below.drew ?_) | (with_reducible refine below_drewN ?_ _) | (with_reducible refine Below.setCell ?_ ?_ _) | go_size))) (k2.kp.mono (by go_size))
  go_wp2
  go_returns
  exact ⟨rfl, hw2⟩

set_option maxRecDepth 20000 in
set_option maxHeartbeats 2000000 in
theorem raim_ok1 (a b z t m : Int) (w : World) (h0 : ¬ t < 0) (h : ¬ 1099511627776 < t) (h2 : Tm z) (he : Pl.emp (Pl.olo true a b z t m) (Pl.ohi true a b z t m) = true) :
    Calls Try.prog 63 #[.agg #[.bool true, .int .i64 a, .int .i64 b, .int .i64 z], .int .i64 t, .int .i64 m] w fun e w' => e = .returned (.tuple #[.int .i64 (t + Pl.mid (Pl.olo true a b z t m) (Pl.ohi true a b z t m)), .int .i64 (Pl.half (Pl.olo true a b z t m) (Pl.ohi true a b z t m)), .bool true]) ∧ Below w.heap.size w w' := by
  have h1 : Tm t := ⟨by omega, by omega⟩
  have hon := fun w => ron_c true a b z t m w h1 h2
  have HON := Lib.hid hon
  clear hon
  generalize Pl.olo true a b z t m = L at *
  generalize Pl.ohi true a b z t m = H at *
  have q1 := Pl.mid_bd L H
  have q2 := Pl.half_bd L H
  have q3 := Pl.chi_bd L H
  have x1 : IntKind.i64.wrap (t + Pl.mid L H) = t + Pl.mid L H := wrap_of (by omega) (by omega)
  have x2 : IntKind.i64.wrap (Pl.chi L H - Pl.mid L H) = Pl.chi L H - Pl.mid L H := wrap_of (by omega) (by omega)
  clear q1 q2 q3
  have e1 := (Pl.mid_emp he).1
  have e2 := (Pl.mid_emp he).2
  rw [e1] at x1 x2
  rw [e1, e2]
  clear e1 e2
  go_enter Try.func63, Try.ntmps63
  go_wp2_with fail
  refine (HON.out _).mono ?_
  rintro e w1 ⟨rfl, hb1⟩
  have cb0 : w1.cell? ⟨w.heap.size, 0, none⟩ = some (.bool true) := (hb1.cell (p := ⟨w.heap.size, 0, none⟩) (by go_size)).trans (by go_simp)
  have fb0 : w1.frozen? ⟨w.heap.size, 0, none⟩ = false := (hb1.frozen (p := ⟨w.heap.size, 0, none⟩) (by go_size)).trans (by go_simp)
  have cb1 : w1.cell? ⟨w.heap.size, 1, none⟩ = some (.int .i64 a) := (hb1.cell (p := ⟨w.heap.size, 1, none⟩) (by go_size)).trans (by go_simp)
  have fb1 : w1.frozen? ⟨w.heap.size, 1, none⟩ = false := (hb1.frozen (p := ⟨w.heap.size, 1, none⟩) (by go_size)).trans (by go_simp)
  have cb2 : w1.cell? ⟨w.heap.size, 2, none⟩ = some (.int .i64 b) := (hb1.cell (p := ⟨w.heap.size, 2, none⟩) (by go_size)).trans (by go_simp)
  have fb2 : w1.frozen? ⟨w.heap.size, 2, none⟩ = false := (hb1.frozen (p := ⟨w.heap.size, 2, none⟩) (by go_size)).trans (by go_simp)
  have cb3 : w1.cell? ⟨w.heap.size, 3, none⟩ = some (.int .i64 z) := (hb1.cell (p := ⟨w.heap.size, 3, none⟩) (by go_size)).trans (by go_simp)
  have fb3 : w1.frozen? ⟨w.heap.size, 3, none⟩ = false := (hb1.frozen (p := ⟨w.heap.size, 3, none⟩) (by go_size)).trans (by go_simp)
  have zb4 : w.heap.size < w1.heap.size := Nat.lt_of_lt_of_le (by go_size) hb1.size
  have hwb : Below w.heap.size w w1 := Below.trans (by (repeat' (first | (with_reducible exact Below.refl _ _) | (with_reducible assumption) | (with_reducible refine Below.alloc ?_ ?_ _) | (with_reducible refine Below.drew ?_) | (with_reducible refine below_drewN ?_ _) | (with_reducible refine Below.setCell ?_ ?_ _) | go_size))) (hb1.mono (by go_size))
  have hsb : w.heap.size ≤ w1.heap.size := hwb.size
  go_wp2_with fail
  refine (rmid_c _ _ _).mono ?_
  rintro e w2 ⟨rfl, hb2⟩
  have cc0 : w2.cell? ⟨w1.heap.size, 0, none⟩ = some (.int .i64 L) := (hb2.cell (p := ⟨w1.heap.size, 0, none⟩) (by go_size)).trans (by go_simp)
  have fc0 : w2.frozen? ⟨w1.heap.size, 0, none⟩ = false := (hb2.frozen (p := ⟨w1.heap.size, 0, none⟩) (by go_size)).trans (by go_simp)
  have cc1 : w2.cell? ⟨w1.heap.size, 1, none⟩ = some (.int .i64 H) := (hb2.cell (p := ⟨w1.heap.size, 1, none⟩) (by go_size)).trans (by go_simp)
  have fc1 : w2.frozen? ⟨w1.heap.size, 1, none⟩ = false := (hb2.frozen (p := ⟨w1.heap.size, 1, none⟩) (by go_size)).trans (by go_simp)
  have zc2 : w1.heap.size < w2.heap.size := Nat.lt_of_lt_of_le (by go_size) hb2.size
  have hwc : Below w.heap.size w w2 := Below.trans (by (repeat' (first | (with_reducible exact Below.refl _ _) | (with_reducible assumption) | (with_reducible refine Below.alloc ?_ ?_ _) | (with_reducible refine Below.drew ?_) | (with_reducible refine below_drewN ?_ _) | (with_reducible refine Below.setCell ?_ ?_ _) | go_size))) (hb2.mono (by go_size))
  have hsc : w.heap.size ≤ w2.heap.size := hwc.size
  clear cb0 fb0 cb1 fb1 cb2 fb2 cb3 fb3 zb4 hwb hsb hb1
  go_wp2_with fail
  refine (rempty_c _ _ _).mono ?_
  rintro e w3 ⟨rfl, hb3⟩
  have cd0 : w3.cell? ⟨w1.heap.size, 0, none⟩ = some (.int .i64 L) := (hb3.cell (p := ⟨w1.heap.size, 0, none⟩) (by go_size)).trans (by go_simp)
  have fd0 : w3.frozen? ⟨w1.heap.size, 0, none⟩ = false := (hb3.frozen (p := ⟨w1.heap.size, 0, none⟩) (by go_size)).trans (by go_simp)
  have cd1 : w3.cell? ⟨w1.heap.size, 1, none⟩ = some (.int .i64 H) := (hb3.cell (p := ⟨w1.heap.size, 1, none⟩) (by go_size)).trans (by go_simp)
  have fd1 : w3.frozen? ⟨w1.heap.size, 1, none⟩ = false := (hb3.frozen (p := ⟨w1.heap.size, 1, none⟩) (by go_size)).trans (by go_simp)
  have zd2 : w1.heap.size < w3.heap.size := Nat.lt_of_lt_of_le (by go_size) hb3.size
  have hwd : Below w.heap.size w w3 := Below.trans (by (repeat' (first | (with_reducible exact Below.refl _ _) | (with_reducible assumption) | (with_reducible refine Below.alloc ?_ ?_ _) | (with_reducible refine Below.drew ?_) | (with_reducible refine below_drewN ?_ _) | (with_reducible refine Below.setCell ?_ ?_ _) | go_size))) (hb3.mono (by go_size))
  have hsd : w.heap.size ≤ w3.heap.size := hwd.size
  clear cc0 fc0 cc1 fc1 zc2 hwc hsc hb2
  go_wp2
  go_returns
  exact ⟨ret_aim (by first | rfl | omega) (by first | rfl | omega) rfl, by assumption⟩

set_option maxRecDepth 20000 in
set_option maxHeartbeats 2000000 in
theorem raim_ok0 (a b z t m : Int) (w : World) (h0 : ¬ t < 0) (h : ¬ 1099511627776 < t) (h2 : Tm z) (he : Pl.emp (Pl.olo true a b z t m) (Pl.ohi true a b z t m) = false) :
    Calls Try.prog 63 #[.agg #[.bool true, .int .i64 a, .int .i64 b, .int .i64 z], .int .i64 t, .int .i64 m] w fun e w' => e = .returned (.tuple #[.int .i64 (t + Pl.mid (Pl.olo true a b z t m) (Pl.ohi true a b z t m)), .int .i64 (Pl.half (Pl.olo true a b z t m) (Pl.ohi true a b z t m)), .bool true]) ∧ Below w.heap.size w w' := by
  have h1 : Tm t := ⟨by omega, by omega⟩
  have hon := fun w => ron_c true a b z t m w h1 h2
  have HON := Lib.hid hon
  clear hon
  generalize Pl.olo true a b z t m = L at *
  generalize Pl.ohi true a b z t m = H at *
  have q1 := Pl.mid_bd L H
  have q2 := Pl.half_bd L H
  have q3 := Pl.chi_bd L H
  have x1 : IntKind.i64.wrap (t + Pl.mid L H) = t + Pl.mid L H := wrap_of (by omega) (by omega)
  have x2 : IntKind.i64.wrap (Pl.chi L H - Pl.mid L H) = Pl.chi L H - Pl.mid L H := wrap_of (by omega) (by omega)
  clear q1 q2 q3
  rw [Pl.half_full he]
  go_enter Try.func63, Try.ntmps63
  go_wp2_with fail
  refine (HON.out _).mono ?_
  rintro e w1 ⟨rfl, hb1⟩
  have cb0 : w1.cell? ⟨w.heap.size, 0, none⟩ = some (.bool true) := (hb1.cell (p := ⟨w.heap.size, 0, none⟩) (by go_size)).trans (by go_simp)
  have fb0 : w1.frozen? ⟨w.heap.size, 0, none⟩ = false := (hb1.frozen (p := ⟨w.heap.size, 0, none⟩) (by go_size)).trans (by go_simp)
  have cb1 : w1.cell? ⟨w.heap.size, 1, none⟩ = some (.int .i64 a) := (hb1.cell (p := ⟨w.heap.size, 1, none⟩) (by go_size)).trans (by go_simp)
  have fb1 : w1.frozen? ⟨w.heap.size, 1, none⟩ = false := (hb1.frozen (p := ⟨w.heap.size, 1, none⟩) (by go_size)).trans (by go_simp)
  have cb2 : w1.cell? ⟨w.heap.size, 2, none⟩ = some (.int .i64 b) := (hb1.cell (p := ⟨w.heap.size, 2, none⟩) (by go_size)).trans (by go_simp)
  have fb2 : w1.frozen? ⟨w.heap.size, 2, none⟩ = false := (hb1.frozen (p := ⟨w.heap.size, 2, none⟩) (by go_size)).trans (by go_simp)
  have cb3 : w1.cell? ⟨w.heap.size, 3, none⟩ = some (.int .i64 z) := (hb1.cell (p := ⟨w.heap.size, 3, none⟩) (by go_size)).trans (by go_simp)
  have fb3 : w1.frozen? ⟨w.heap.size, 3, none⟩ = false := (hb1.frozen (p := ⟨w.heap.size, 3, none⟩) (by go_size)).trans (by go_simp)
  have zb4 : w.heap.size < w1.heap.size := Nat.lt_of_lt_of_le (by go_size) hb1.size
  have hwb : Below w.heap.size w w1 := Below.trans (by (repeat' (first | (with_reducible exact Below.refl _ _) | (with_reducible assumption) | (with_reducible refine Below.alloc ?_ ?_ _) | (with_reducible refine Below.drew ?_) | (with_reducible refine below_drewN ?_ _) | (with_reducible refine Below.setCell ?_ ?_ _) | go_size))) (hb1.mono (by go_size))
  have hsb : w.heap.size ≤ w1.heap.size := hwb.size
  go_wp2_with fail
  refine (rmid_c _ _ _).mono ?_
  rintro e w2 ⟨rfl, hb2⟩
  have cc0 : w2.cell? ⟨w1.heap.size, 0, none⟩ = some (.int .i64 L) := (hb2.cell (p := ⟨w1.heap.size, 0, none⟩) (by go_size)).trans (by go_simp)
  have fc0 : w2.frozen? ⟨w1.heap.size, 0, none⟩ = false := (hb2.frozen (p := ⟨w1.heap.size, 0, none⟩) (by go_size)).trans (by go_simp)
  have cc1 : w2.cell? ⟨w1.heap.size, 1, none⟩ = some (.int .i64 H) := (hb2.cell (p := ⟨w1.heap.size, 1, none⟩) (by go_size)).trans (by go_simp)
  have fc1 : w2.frozen? ⟨w1.heap.size, 1, none⟩ = false := (hb2.frozen (p := ⟨w1.heap.size, 1, none⟩) (by go_size)).trans (by go_simp)
  have zc2 : w1.heap.size < w2.heap.size := Nat.lt_of_lt_of_le (by go_size) hb2.size
  have hwc : Below w.heap.size w w2 := Below.trans (by (repeat' (first | (with_reducible exact Below.refl _ _) | (with_reducible assumption) | (with_reducible refine Below.alloc ?_ ?_ _) | (with_reducible refine Below.drew ?_) | (with_reducible refine below_drewN ?_ _) | (with_reducible refine Below.setCell ?_ ?_ _) | go_size))) (hb2.mono (by go_size))
  have hsc : w.heap.size ≤ w2.heap.size := hwc.size
  clear cb0 fb0 cb1 fb1 cb2 fb2 cb3 fb3 zb4 hwb hsb hb1
  go_wp2_with fail
  refine (rempty_c _ _ _).mono ?_
  rintro e w3 ⟨rfl, hb3⟩
  have cd0 : w3.cell? ⟨w1.heap.size, 0, none⟩ = some (.int .i64 L) := (hb3.cell (p := ⟨w1.heap.size, 0, none⟩) (by go_size)).trans (by go_simp)
  have fd0 : w3.frozen? ⟨w1.heap.size, 0, none⟩ = false := (hb3.frozen (p := ⟨w1.heap.size, 0, none⟩) (by go_size)).trans (by go_simp)
  have cd1 : w3.cell? ⟨w1.heap.size, 1, none⟩ = some (.int .i64 H) := (hb3.cell (p := ⟨w1.heap.size, 1, none⟩) (by go_size)).trans (by go_simp)
  have fd1 : w3.frozen? ⟨w1.heap.size, 1, none⟩ = false := (hb3.frozen (p := ⟨w1.heap.size, 1, none⟩) (by go_size)).trans (by go_simp)
  have zd2 : w1.heap.size < w3.heap.size := Nat.lt_of_lt_of_le (by go_size) hb3.size
  have hwd : Below w.heap.size w w3 := Below.trans (by (repeat' (first | (with_reducible exact Below.refl _ _) | (with_reducible assumption) | (with_reducible refine Below.alloc ?_ ?_ _) | (with_reducible refine Below.drew ?_) | (with_reducible refine below_drewN ?_ _) | (with_reducible refine Below.setCell ?_ ?_ _) | go_size))) (hb3.mono (by go_size))
  have hsd : w.heap.size ≤ w3.heap.size := hwd.size
  clear cc0 fc0 cc1 fc1 zc2 hwc hsc hb2
  go_wp2_with fail
  refine (rclean_c _ _ _).mono ?_
  rintro e w4 ⟨rfl, hb4⟩
  have ce0 : w4.cell? ⟨w1.heap.size, 0, none⟩ = some (.int .i64 L) := (hb4.cell (p := ⟨w1.heap.size, 0, none⟩) (by go_size)).trans (by go_simp)
  have fe0 : w4.frozen? ⟨w1.heap.size, 0, none⟩ = false := (hb4.frozen (p := ⟨w1.heap.size, 0, none⟩) (by go_size)).trans (by go_simp)
  have ce1 : w4.cell? ⟨w1.heap.size, 1, none⟩ = some (.int .i64 H) := (hb4.cell (p := ⟨w1.heap.size, 1, none⟩) (by go_size)).trans (by go_simp)
  have fe1 : w4.frozen? ⟨w1.heap.size, 1, none⟩ = false := (hb4.frozen (p := ⟨w1.heap.size, 1, none⟩) (by go_size)).trans (by go_simp)
  have ze2 : w1.heap.size < w4.heap.size := Nat.lt_of_lt_of_le (by go_size) hb4.size
  have hwe : Below w.heap.size w w4 := Below.trans (by (repeat' (first | (with_reducible exact Below.refl _ _) | (with_reducible assumption) | (with_reducible refine Below.alloc ?_ ?_ _) | (with_reducible refine Below.drew ?_) | (with_reducible refine below_drewN ?_ _) | (with_reducible refine Below.setCell ?_ ?_ _) | go_size))) (hb4.mono (by go_size))
  have hse : w.heap.size ≤ w4.heap.size := hwe.size
  clear cd0 fd0 cd1 fd1 zd2 hwd hsd hb3
  go_wp2
  go_returns
  exact ⟨ret_aim (by first | rfl | omega) (by first | rfl | omega) rfl, by assumption⟩

end Go.Proofs.Ytgpeekmagckgcaa
