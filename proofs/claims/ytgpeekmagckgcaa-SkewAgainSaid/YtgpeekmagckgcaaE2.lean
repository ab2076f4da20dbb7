/- What is proved here: the walk of SkewAgain where the exchange meets. Condition: none. -/
import Derived.Test.YtgpeekmagckgcaaE1
namespace Go.Proofs.Ytgpeekmagckgcaa
open Go Go.RowKit
attribute [local go_sem] KW.cell KW.frozen
attribute [local go_sem ↓] eql24 eql23 eql73 neq73

set_option maxRecDepth 100000 in
set_option maxHeartbeats 4000000 in
theorem law11_ok_true (a b z t1 t2 t4 m nl nh : Int) (w : World) (g0 : ¬ z < 0) (g1 : ¬ 1099511627776 < z) (g2 : ¬ t4 < 0) (g3 : ¬ 1099511627776 < t4) (g4 : ¬ t1 < 0) (g5 : ¬ t4 < t1) (g6 : ¬ t2 < -1125899906842624) (g7 : ¬ 1125899906842624 < t2) (hr : Pl.sm true a b z t1 t2 t4 m = ((true, nl, nh, t4), 0)) (hag : Pl.sm true nl nh t4 t1 t2 t4 m = ((true, nl, nh, t4), 0)) (hw1 : Pl.wit nl nh (Pl.olo true a b z t4 m) (Pl.ohi true a b z t4 m) = true) (hw2 : Pl.wit nl nh (Pl.flo t1 t2 t4 m) (Pl.fhi t1 t2 t4 m) = true) :
    Calls Try.prog 11 #[.agg #[.bool true, .int .i64 a, .int .i64 b, .int .i64 z], .int .i64 t1, .int .i64 t2, .int .i64 t4, .int .i64 m] w fun e w' => e = .returned (.bool true) ∧ Below w.heap.size w w' := by
  have hsm := fun w => smeet_c true a b z t1 t2 t4 m w ⟨by omega, by omega⟩
  rw [hr] at hsm
  unfold est at hsm
  have HSM := Lib.hid hsm
  have hsn := fun w => smeet_c true nl nh t4 t1 t2 t4 m w ⟨by omega, by omega⟩
  rw [hag] at hsn
  unfold est at hsn
  have HSN := Lib.hid hsn
  clear hsm hr hsn hag
  have HO := Lib.hid (fun w => on_c true a b z t4 m w ⟨by omega, by omega⟩ ⟨by omega, by omega⟩)
  have HF := Lib.hid (fun w => fresh_c t1 t2 t4 m w ⟨by omega, by omega⟩ ⟨by omega, by omega⟩ ⟨by omega, by omega⟩)
  generalize Pl.olo true a b z t4 m = ol at *
  generalize Pl.ohi true a b z t4 m = oh at *
  generalize Pl.flo t1 t2 t4 m = fl at *
  generalize Pl.fhi t1 t2 t4 m = fh at *
  go_enter Try.func11, Try.ntmps11
  go_wp2_with fail
  refine (smine_c _ _ _ _ _).mono ?_
  rintro e w1 ⟨rfl, hb1⟩
  have cb0 : w1.cell? ⟨w.heap.size, 0, none⟩ = some (.bool true) := (hb1.cell (p := ⟨w.heap.size, 0, none⟩) (by go_size)).trans (by go_simp)
  have fb0 : w1.frozen? ⟨w.heap.size, 0, none⟩ = false := (hb1.frozen (p := ⟨w.heap.size, 0, none⟩) (by go_size)).trans (by go_simp)
  have cb1 : w1.cell? ⟨w.heap.size, 1, none⟩ = some (.int .i64 a) := (hb1.cell (p := ⟨w.heap.size, 1, none⟩) (by go_size)).trans (by go_simp)
  have fb1 : w1.frozen? ⟨w.heap.size, 1, none⟩ = false := (hb1.frozen (p := ⟨w.heap.size, 1, none⟩) (by go_size)).trans (by go_simp)
  have cb2 : w1.cell? ⟨w.heap.size, 2, none⟩ = some (.int .i64 b) := (hb1.cell (p := ⟨w.heap.size, 2, none⟩) (by go_size)).trans (by go_simp)
  have fb2 : w1.frozen? ⟨w.heap.size, 2, none⟩ = false := (hb1.frozen (p := ⟨w.heap.size, 2, none⟩) (by go_size)).trans (by go_simp)
  have cb3 : w1.cell? ⟨w.heap.size, 3, none⟩ = some (.int .i64 z) := (hb1.cell (p := ⟨w.heap.size, 3, none⟩) (by go_size)).trans (by go_simp)
  have fb3 : w1.frozen? ⟨w.heap.size, 3, none⟩ = false := (hb1.frozen (p := ⟨w.heap.size, 3, none⟩) (by go_size)).trans (by go_simp)
  have zb4 : w.heap.size < w1.heap.size := Nat.lt_of_lt_of_le (by go_size) hb1.size
  have hwb : Below w.heap.size w w1 := Below.trans (by (repeat' (first | (with_reducible exact Below.refl _ _) | (with_reducible assumption) | (with_reducible refine Below.alloc ?_ ?_ _) | (with_reducible refine Below.drew ?_) | (with_reducible refine below_drewN ?_ _) | (with_reducible refine Below.setCell ?_ ?_ _) | go_size))) (hb1.mono (by go_size))
  have hsb : w.heap.size ≤ w1.heap.size := hwb.size
  go_wp2_with fail
  refine (HSM.out _).mono ?_
  rintro e w2 ⟨rfl, hb2⟩
  have cc0 : w2.cell? ⟨w.heap.size, 0, none⟩ = some (.bool true) := (hb2.cell (p := ⟨w.heap.size, 0, none⟩) (by go_size)).trans (by go_simp)
  have fc0 : w2.frozen? ⟨w.heap.size, 0, none⟩ = false := (hb2.frozen (p := ⟨w.heap.size, 0, none⟩) (by go_size)).trans (by go_simp)
  have cc1 : w2.cell? ⟨w.heap.size, 1, none⟩ = some (.int .i64 a) := (hb2.cell (p := ⟨w.heap.size, 1, none⟩) (by go_size)).trans (by go_simp)
  have fc1 : w2.frozen? ⟨w.heap.size, 1, none⟩ = false := (hb2.frozen (p := ⟨w.heap.size, 1, none⟩) (by go_size)).trans (by go_simp)
  have cc2 : w2.cell? ⟨w.heap.size, 2, none⟩ = some (.int .i64 b) := (hb2.cell (p := ⟨w.heap.size, 2, none⟩) (by go_size)).trans (by go_simp)
  have fc2 : w2.frozen? ⟨w.heap.size, 2, none⟩ = false := (hb2.frozen (p := ⟨w.heap.size, 2, none⟩) (by go_size)).trans (by go_simp)
  have cc3 : w2.cell? ⟨w.heap.size, 3, none⟩ = some (.int .i64 z) := (hb2.cell (p := ⟨w.heap.size, 3, none⟩) (by go_size)).trans (by go_simp)
  have fc3 : w2.frozen? ⟨w.heap.size, 3, none⟩ = false := (hb2.frozen (p := ⟨w.heap.size, 3, none⟩) (by go_size)).trans (by go_simp)
  have zc4 : w.heap.size < w2.heap.size := Nat.lt_of_lt_of_le (by go_size) hb2.size
  have hwc : Below w.heap.size w w2 := Below.trans (by (repeat' (first | (with_reducible exact Below.refl _ _) | (with_reducible assumption) | (with_reducible refine Below.alloc ?_ ?_ _) | (with_reducible refine Below.drew ?_) | (with_reducible refine below_drewN ?_ _) | (with_reducible refine Below.setCell ?_ ?_ _) | go_size))) (hb2.mono (by go_size))
  have hsc : w.heap.size ≤ w2.heap.size := hwc.size
  clear cb0 fb0 cb1 fb1 cb2 fb2 cb3 fb3 zb4 hwb hsb hb1
  have nA : w.heap.size < w2.heap.size := by assumption
  have dA : ¬ w2.heap.size = w.heap.size := by omega
  have eA : ¬ w.heap.size = w2.heap.size := by omega
  go_wp2_with fail
  refine (HSN.out _).mono ?_
  rintro e w3 ⟨rfl, hb3⟩
  have cd0 : w3.cell? ⟨w.heap.size, 0, none⟩ = some (.bool true) := (hb3.cell (p := ⟨w.heap.size, 0, none⟩) (by go_size)).trans (by go_simp)
  have fd0 : w3.frozen? ⟨w.heap.size, 0, none⟩ = false := (hb3.frozen (p := ⟨w.heap.size, 0, none⟩) (by go_size)).trans (by go_simp)
  have cd1 : w3.cell? ⟨w.heap.size, 1, none⟩ = some (.int .i64 a) := (hb3.cell (p := ⟨w.heap.size, 1, none⟩) (by go_size)).trans (by go_simp)
  have fd1 : w3.frozen? ⟨w.heap.size, 1, none⟩ = false := (hb3.frozen (p := ⟨w.heap.size, 1, none⟩) (by go_size)).trans (by go_simp)
  have cd2 : w3.cell? ⟨w.heap.size, 2, none⟩ = some (.int .i64 b) := (hb3.cell (p := ⟨w.heap.size, 2, none⟩) (by go_size)).trans (by go_simp)
  have fd2 : w3.frozen? ⟨w.heap.size, 2, none⟩ = false := (hb3.frozen (p := ⟨w.heap.size, 2, none⟩) (by go_size)).trans (by go_simp)
  have cd3 : w3.cell? ⟨w.heap.size, 3, none⟩ = some (.int .i64 z) := (hb3.cell (p := ⟨w.heap.size, 3, none⟩) (by go_size)).trans (by go_simp)
  have fd3 : w3.frozen? ⟨w.heap.size, 3, none⟩ = false := (hb3.frozen (p := ⟨w.heap.size, 3, none⟩) (by go_size)).trans (by go_simp)
  have zd4 : w.heap.size < w3.heap.size := Nat.lt_of_lt_of_le (by go_size) hb3.size
  have cd4 : w3.cell? ⟨w2.heap.size, 0, none⟩ = some (.bool true) := (hb3.cell (p := ⟨w2.heap.size, 0, none⟩) (by go_size)).trans (by go_simp)
  have fd4 : w3.frozen? ⟨w2.heap.size, 0, none⟩ = false := (hb3.frozen (p := ⟨w2.heap.size, 0, none⟩) (by go_size)).trans (by go_simp)
  have cd5 : w3.cell? ⟨w2.heap.size, 1, none⟩ = some (.int .i64 nl) := (hb3.cell (p := ⟨w2.heap.size, 1, none⟩) (by go_size)).trans (by go_simp)
  have fd5 : w3.frozen? ⟨w2.heap.size, 1, none⟩ = false := (hb3.frozen (p := ⟨w2.heap.size, 1, none⟩) (by go_size)).trans (by go_simp)
  have cd6 : w3.cell? ⟨w2.heap.size, 2, none⟩ = some (.int .i64 nh) := (hb3.cell (p := ⟨w2.heap.size, 2, none⟩) (by go_size)).trans (by go_simp)
  have fd6 : w3.frozen? ⟨w2.heap.size, 2, none⟩ = false := (hb3.frozen (p := ⟨w2.heap.size, 2, none⟩) (by go_size)).trans (by go_simp)
  have cd7 : w3.cell? ⟨w2.heap.size, 3, none⟩ = some (.int .i64 t4) := (hb3.cell (p := ⟨w2.heap.size, 3, none⟩) (by go_size)).trans (by go_simp)
  have fd7 : w3.frozen? ⟨w2.heap.size, 3, none⟩ = false := (hb3.frozen (p := ⟨w2.heap.size, 3, none⟩) (by go_size)).trans (by go_simp)
  have zd8 : w2.heap.size < w3.heap.size := Nat.lt_of_lt_of_le (by go_size) hb3.size
  have hwd : Below w.heap.size w w3 := Below.trans (by (repeat' (first | (with_reducible exact Below.refl _ _) | (with_reducible assumption) | (with_reducible refine Below.alloc ?_ ?_ _) | (with_reducible refine Below.drew ?_) | (with_reducible refine below_drewN ?_ _) | (with_reducible refine Below.setCell ?_ ?_ _) | go_size))) (hb3.mono (by go_size))
  have hsd : w.heap.size ≤ w3.heap.size := hwd.size
  clear cc0 fc0 cc1 fc1 cc2 fc2 cc3 fc3 zc4 hwc hsc hb2
  have nB : w2.heap.size < w3.heap.size := by assumption
  have nB2 : w.heap.size < w3.heap.size := by assumption
  have dB : ¬ w3.heap.size = w.heap.size := by omega
  have eB : ¬ w.heap.size = w3.heap.size := by omega
  have dC : ¬ w3.heap.size = w2.heap.size := by omega
  have eC : ¬ w2.heap.size = w3.heap.size := by omega
  go_wp2_with fail
  refine wp_region_kq (by kernel_rfl) (by kernel_rfl) ?_
  repeat (first | go_big_quiet_step ((first | (go_at_call 55; exact KW.call (smine_c _ _ _ _ _)) | (go_at_call 58; exact KW.call (HO.out _)) | (go_at_call 18; exact KW.call (within_c _ _ _ _ _)) | (go_at_call 60; exact KW.call (HF.out _)) | (go_at_call 53; exact KW.call (sawake_b (Below.refl _ _))))) | quiet_step ((first | (go_at_call 55; exact KW.call (smine_c _ _ _ _ _)) | (go_at_call 58; exact KW.call (HO.out _)) | (go_at_call 18; exact KW.call (within_c _ _ _ _ _)) | (go_at_call 60; exact KW.call (HF.out _)) | (go_at_call 53; exact KW.call (sawake_b (Below.refl _ _))))))
  refine wpQuiet_nil ?_
  intro k4
  have ce0 : k4.val.cell? ⟨w.heap.size, 0, none⟩ = some (.bool true) := (k4.kp.cell (p := ⟨w.heap.size, 0, none⟩) (by go_size)).trans (by go_simp)
  have fe0 : k4.val.frozen? ⟨w.heap.size, 0, none⟩ = false := (k4.kp.frozen (p := ⟨w.heap.size, 0, none⟩) (by go_size)).trans (by go_simp)
  have ce1 : k4.val.cell? ⟨w.heap.size, 1, none⟩ = some (.int .i64 a) := (k4.kp.cell (p := ⟨w.heap.size, 1, none⟩) (by go_size)).trans (by go_simp)
  have fe1 : k4.val.frozen? ⟨w.heap.size, 1, none⟩ = false := (k4.kp.frozen (p := ⟨w.heap.size, 1, none⟩) (by go_size)).trans (by go_simp)
  have ce2 : k4.val.cell? ⟨w.heap.size, 2, none⟩ = some (.int .i64 b) := (k4.kp.cell (p := ⟨w.heap.size, 2, none⟩) (by go_size)).trans (by go_simp)
  have fe2 : k4.val.frozen? ⟨w.heap.size, 2, none⟩ = false := (k4.kp.frozen (p := ⟨w.heap.size, 2, none⟩) (by go_size)).trans (by go_simp)
  have ce3 : k4.val.cell? ⟨w.heap.size, 3, none⟩ = some (.int .i64 z) := (k4.kp.cell (p := ⟨w.heap.size, 3, none⟩) (by go_size)).trans (by go_simp)
  have fe3 : k4.val.frozen? ⟨w.heap.size, 3, none⟩ = false := (k4.kp.frozen (p := ⟨w.heap.size, 3, none⟩) (by go_size)).trans (by go_simp)
  have ze4 : w.heap.size < k4.val.heap.size := Nat.lt_of_lt_of_le (by go_size) k4.kp.size
  have ce4 : k4.val.cell? ⟨w2.heap.size, 0, none⟩ = some (.bool true) := (k4.kp.cell (p := ⟨w2.heap.size, 0, none⟩) (by go_size)).trans (by go_simp)
  have fe4 : k4.val.frozen? ⟨w2.heap.size, 0, none⟩ = false := (k4.kp.frozen (p := ⟨w2.heap.size, 0, none⟩) (by go_size)).trans (by go_simp)
  have ce5 : k4.val.cell? ⟨w2.heap.size, 1, none⟩ = some (.int .i64 nl) := (k4.kp.cell (p := ⟨w2.heap.size, 1, none⟩) (by go_size)).trans (by go_simp)
  have fe5 : k4.val.frozen? ⟨w2.heap.size, 1, none⟩ = false := (k4.kp.frozen (p := ⟨w2.heap.size, 1, none⟩) (by go_size)).trans (by go_simp)
  have ce6 : k4.val.cell? ⟨w2.heap.size, 2, none⟩ = some (.int .i64 nh) := (k4.kp.cell (p := ⟨w2.heap.size, 2, none⟩) (by go_size)).trans (by go_simp)
  have fe6 : k4.val.frozen? ⟨w2.heap.size, 2, none⟩ = false := (k4.kp.frozen (p := ⟨w2.heap.size, 2, none⟩) (by go_size)).trans (by go_simp)
  have ce7 : k4.val.cell? ⟨w2.heap.size, 3, none⟩ = some (.int .i64 t4) := (k4.kp.cell (p := ⟨w2.heap.size, 3, none⟩) (by go_size)).trans (by go_simp)
  have fe7 : k4.val.frozen? ⟨w2.heap.size, 3, none⟩ = false := (k4.kp.frozen (p := ⟨w2.heap.size, 3, none⟩) (by go_size)).trans (by go_simp)
  have ze8 : w2.heap.size < k4.val.heap.size := Nat.lt_of_lt_of_le (by go_size) k4.kp.size
  have ce8 : k4.val.cell? ⟨w3.heap.size, 0, none⟩ = some (.bool true) := (k4.kp.cell (p := ⟨w3.heap.size, 0, none⟩) (by go_size)).trans (by go_simp)
  have fe8 : k4.val.frozen? ⟨w3.heap.size, 0, none⟩ = false := (k4.kp.frozen (p := ⟨w3.heap.size, 0, none⟩) (by go_size)).trans (by go_simp)
  have ce9 : k4.val.cell? ⟨w3.heap.size, 1, none⟩ = some (.int .i64 nl) := (k4.kp.cell (p := ⟨w3.heap.size, 1, none⟩) (by go_size)).trans (by go_simp)
  have fe9 : k4.val.frozen? ⟨w3.heap.size, 1, none⟩ = false := (k4.kp.frozen (p := ⟨w3.heap.size, 1, none⟩) (by go_size)).trans (by go_simp)
  have ce10 : k4.val.cell? ⟨w3.heap.size, 2, none⟩ = some (.int .i64 nh) := (k4.kp.cell (p := ⟨w3.heap.size, 2, none⟩) (by go_size)).trans (by go_simp)
  have fe10 : k4.val.frozen? ⟨w3.heap.size, 2, none⟩ = false := (k4.kp.frozen (p := ⟨w3.heap.size, 2, none⟩) (by go_size)).trans (by go_simp)
  have ce11 : k4.val.cell? ⟨w3.heap.size, 3, none⟩ = some (.int .i64 t4) := (k4.kp.cell (p := ⟨w3.heap.size, 3, none⟩) (by go_size)).trans (by go_simp)
  have fe11 : k4.val.frozen? ⟨w3.heap.size, 3, none⟩ = false := (k4.kp.frozen (p := ⟨w3.heap.size, 3, none⟩) (by go_size)).trans (by go_simp)
  have ze12 : w3.heap.size < k4.val.heap.size := Nat.lt_of_lt_of_le (by go_size) k4.kp.size
  have hwe : Below w.heap.size w k4.val := Below.trans (by (repeat' (first | (with_reducible exact Below.refl _ _) | (with_reducible assumption) | (with_reducible refine Below.alloc ?_ ?_ _) | (with_reducible refine Below.drew ?_) | (with_reducible refine below_drewN ?_ _) | (with_reducible refine Below.setCell ?_ ?_ _) | go_size))) (k4.kp.mono (by go_size))
  have hse : w.heap.size ≤ k4.val.heap.size := hwe.size
  clear cd0 fd0 cd1 fd1 cd2 fd2 cd3 fd3 zd4 cd4 fd4 cd5 fd5 cd6 fd6 cd7 fd7 zd8 hwd hsd hb3
  go_wp2_with fail
  go_ret
  exact ⟨rfl, by assumption⟩

set_option maxRecDepth 100000 in
set_option maxHeartbeats 4000000 in
theorem law11_ok_false (a b z t1 t2 t4 m nl nh : Int) (w : World) (g0 : ¬ z < 0) (g1 : ¬ 1099511627776 < z) (g2 : ¬ t4 < 0) (g3 : ¬ 1099511627776 < t4) (g4 : ¬ t1 < 0) (g5 : ¬ t4 < t1) (g6 : ¬ t2 < -1125899906842624) (g7 : ¬ 1125899906842624 < t2) (hr : Pl.sm false a b z t1 t2 t4 m = ((true, nl, nh, t4), 0)) (hag : Pl.sm true nl nh t4 t1 t2 t4 m = ((true, nl, nh, t4), 0)) (hw2 : Pl.wit nl nh (Pl.flo t1 t2 t4 m) (Pl.fhi t1 t2 t4 m) = true) :
    Calls Try.prog 11 #[.agg #[.bool false, .int .i64 a, .int .i64 b, .int .i64 z], .int .i64 t1, .int .i64 t2, .int .i64 t4, .int .i64 m] w fun e w' => e = .returned (.bool true) ∧ Below w.heap.size w w' := by
  have hsm := fun w => smeet_c false a b z t1 t2 t4 m w ⟨by omega, by omega⟩
  rw [hr] at hsm
  unfold est at hsm
  have HSM := Lib.hid hsm
  have hsn := fun w => smeet_c true nl nh t4 t1 t2 t4 m w ⟨by omega, by omega⟩
  rw [hag] at hsn
  unfold est at hsn
  have HSN := Lib.hid hsn
  clear hsm hr hsn hag
  have HO := Lib.hid (fun w => on_c false a b z t4 m w ⟨by omega, by omega⟩ ⟨by omega, by omega⟩)
  have HF := Lib.hid (fun w => fresh_c t1 t2 t4 m w ⟨by omega, by omega⟩ ⟨by omega, by omega⟩ ⟨by omega, by omega⟩)
  generalize Pl.flo t1 t2 t4 m = fl at *
  generalize Pl.fhi t1 t2 t4 m = fh at *
  go_enter Try.func11, Try.ntmps11
  go_wp2_with fail
  refine (smine_c _ _ _ _ _).mono ?_
  rintro e w1 ⟨rfl, hb1⟩
  have cb0 : w1.cell? ⟨w.heap.size, 0, none⟩ = some (.bool false) := (hb1.cell (p := ⟨w.heap.size, 0, none⟩) (by go_size)).trans (by go_simp)
  have fb0 : w1.frozen? ⟨w.heap.size, 0, none⟩ = false := (hb1.frozen (p := ⟨w.heap.size, 0, none⟩) (by go_size)).trans (by go_simp)
  have cb1 : w1.cell? ⟨w.heap.size, 1, none⟩ = some (.int .i64 a) := (hb1.cell (p := ⟨w.heap.size, 1, none⟩) (by go_size)).trans (by go_simp)
  have fb1 : w1.frozen? ⟨w.heap.size, 1, none⟩ = false := (hb1.frozen (p := ⟨w.heap.size, 1, none⟩) (by go_size)).trans (by go_simp)
  have cb2 : w1.cell? ⟨w.heap.size, 2, none⟩ = some (.int .i64 b) := (hb1.cell (p := ⟨w.heap.size, 2, none⟩) (by go_size)).trans (by go_simp)
  have fb2 : w1.frozen? ⟨w.heap.size, 2, none⟩ = false := (hb1.frozen (p := ⟨w.heap.size, 2, none⟩) (by go_size)).trans (by go_simp)
  have cb3 : w1.cell? ⟨w.heap.size, 3, none⟩ = some (.int .i64 z) := (hb1.cell (p := ⟨w.heap.size, 3, none⟩) (by go_size)).trans (by go_simp)
  have fb3 : w1.frozen? ⟨w.heap.size, 3, none⟩ = false := (hb1.frozen (p := ⟨w.heap.size, 3, none⟩) (by go_size)).trans (by go_simp)
  have zb4 : w.heap.size < w1.heap.size := Nat.lt_of_lt_of_le (by go_size) hb1.size
  have hwb : Below w.heap.size w w1 := Below.trans (by (repeat' (first | (with_reducible exact Below.refl _ _) | (with_reducible assumption) | (with_reducible refine Below.alloc ?_ ?_ _) | (with_reducible refine Below.drew ?_) | (with_reducible refine below_drewN ?_ _) | (with_reducible refine Below.setCell ?_ ?_ _) | go_size))) (hb1.mono (by go_size))
  have hsb : w.heap.size ≤ w1.heap.size := hwb.size
  go_wp2_with fail
  refine (HSM.out _).mono ?_
  rintro e w2 ⟨rfl, hb2⟩
  have cc0 : w2.cell? ⟨w.heap.size, 0, none⟩ = some (.bool false) := (hb2.cell (p := ⟨w.heap.size, 0, none⟩) (by go_size)).trans (by go_simp)
  have fc0 : w2.frozen? ⟨w.heap.size, 0, none⟩ = false := (hb2.frozen (p := ⟨w.heap.size, 0, none⟩) (by go_size)).trans (by go_simp)
  have cc1 : w2.cell? ⟨w.heap.size, 1, none⟩ = some (.int .i64 a) := (hb2.cell (p := ⟨w.heap.size, 1, none⟩) (by go_size)).trans (by go_simp)
  have fc1 : w2.frozen? ⟨w.heap.size, 1, none⟩ = false := (hb2.frozen (p := ⟨w.heap.size, 1, none⟩) (by go_size)).trans (by go_simp)
  have cc2 : w2.cell? ⟨w.heap.size, 2, none⟩ = some (.int .i64 b) := (hb2.cell (p := ⟨w.heap.size, 2, none⟩) (by go_size)).trans (by go_simp)
  have fc2 : w2.frozen? ⟨w.heap.size, 2, none⟩ = false := (hb2.frozen (p := ⟨w.heap.size, 2, none⟩) (by go_size)).trans (by go_simp)
  have cc3 : w2.cell? ⟨w.heap.size, 3, none⟩ = some (.int .i64 z) := (hb2.cell (p := ⟨w.heap.size, 3, none⟩) (by go_size)).trans (by go_simp)
  have fc3 : w2.frozen? ⟨w.heap.size, 3, none⟩ = false := (hb2.frozen (p := ⟨w.heap.size, 3, none⟩) (by go_size)).trans (by go_simp)
  have zc4 : w.heap.size < w2.heap.size := Nat.lt_of_lt_of_le (by go_size) hb2.size
  have hwc : Below w.heap.size w w2 := Below.trans (by (repeat' (first | (with_reducible exact Below.refl _ _) | (with_reducible assumption) | (with_reducible refine Below.alloc ?_ ?_ _) | (with_reducible refine Below.drew ?_) | (with_reducible refine below_drewN ?_ _) | (with_reducible refine Below.setCell ?_ ?_ _) | go_size))) (hb2.mono (by go_size))
  have hsc : w.heap.size ≤ w2.heap.size := hwc.size
  clear cb0 fb0 cb1 fb1 cb2 fb2 cb3 fb3 zb4 hwb hsb hb1
  have nA : w.heap.size < w2.heap.size := by assumption
  have dA : ¬ w2.heap.size = w.heap.size := by omega
  have eA : ¬ w.heap.size = w2.heap.size := by omega
  go_wp2_with fail
  refine (HSN.out _).mono ?_
  rintro e w3 ⟨rfl, hb3⟩
  have cd0 : w3.cell? ⟨w.heap.size, 0, none⟩ = some (.bool false) := (hb3.cell (p := ⟨w.heap.size, 0, none⟩) (by go_size)).trans (by go_simp)
  have fd0 : w3.frozen? ⟨w.heap.size, 0, none⟩ = false := (hb3.frozen (p := ⟨w.heap.size, 0, none⟩) (by go_size)).trans (by go_simp)
  have cd1 : w3.cell? ⟨w.heap.size, 1, none⟩ = some (.int .i64 a) := (hb3.cell (p := ⟨w.heap.size, 1, none⟩) (by go_size)).trans (by go_simp)
  have fd1 : w3.frozen? ⟨w.heap.size, 1, none⟩ = false := (hb3.frozen (p := ⟨w.heap.size, 1, none⟩) (by go_size)).trans (by go_simp)
  have cd2 : w3.cell? ⟨w.heap.size, 2, none⟩ = some (.int .i64 b) := (hb3.cell (p := ⟨w.heap.size, 2, none⟩) (by go_size)).trans (by go_simp)
  have fd2 : w3.frozen? ⟨w.heap.size, 2, none⟩ = false := (hb3.frozen (p := ⟨w.heap.size, 2, none⟩) (by go_size)).trans (by go_simp)
  have cd3 : w3.cell? ⟨w.heap.size, 3, none⟩ = some (.int .i64 z) := (hb3.cell (p := ⟨w.heap.size, 3, none⟩) (by go_size)).trans (by go_simp)
  have fd3 : w3.frozen? ⟨w.heap.size, 3, none⟩ = false := (hb3.frozen (p := ⟨w.heap.size, 3, none⟩) (by go_size)).trans (by go_simp)
  have zd4 : w.heap.size < w3.heap.size := Nat.lt_of_lt_of_le (by go_size) hb3.size
  have cd4 : w3.cell? ⟨w2.heap.size, 0, none⟩ = some (.bool true) := (hb3.cell (p := ⟨w2.heap.size, 0, none⟩) (by go_size)).trans (by go_simp)
  have fd4 : w3.frozen? ⟨w2.heap.size, 0, none⟩ = false := (hb3.frozen (p := ⟨w2.heap.size, 0, none⟩) (by go_size)).trans (by go_simp)
  have cd5 : w3.cell? ⟨w2.heap.size, 1, none⟩ = some (.int .i64 nl) := (hb3.cell (p := ⟨w2.heap.size, 1, none⟩) (by go_size)).trans (by go_simp)
  have fd5 : w3.frozen? ⟨w2.heap.size, 1, none⟩ = false := (hb3.frozen (p := ⟨w2.heap.size, 1, none⟩) (by go_size)).trans (by go_simp)
  have cd6 : w3.cell? ⟨w2.heap.size, 2, none⟩ = some (.int .i64 nh) := (hb3.cell (p := ⟨w2.heap.size, 2, none⟩) (by go_size)).trans (by go_simp)
  have fd6 : w3.frozen? ⟨w2.heap.size, 2, none⟩ = false := (hb3.frozen (p := ⟨w2.heap.size, 2, none⟩) (by go_size)).trans (by go_simp)
  have cd7 : w3.cell? ⟨w2.heap.size, 3, none⟩ = some (.int .i64 t4) := (hb3.cell (p := ⟨w2.heap.size, 3, none⟩) (by go_size)).trans (by go_simp)
  have fd7 : w3.frozen? ⟨w2.heap.size, 3, none⟩ = false := (hb3.frozen (p := ⟨w2.heap.size, 3, none⟩) (by go_size)).trans (by go_simp)
  have zd8 : w2.heap.size < w3.heap.size := Nat.lt_of_lt_of_le (by go_size) hb3.size
  have hwd : Below w.heap.size w w3 := Below.trans (by (repeat' (first | (with_reducible exact Below.refl _ _) | (with_reducible assumption) | (with_reducible refine Below.alloc ?_ ?_ _) | (with_reducible refine Below.drew ?_) | (with_reducible refine below_drewN ?_ _) | (with_reducible refine Below.setCell ?_ ?_ _) | go_size))) (hb3.mono (by go_size))
  have hsd : w.heap.size ≤ w3.heap.size := hwd.size
  clear cc0 fc0 cc1 fc1 cc2 fc2 cc3 fc3 zc4 hwc hsc hb2
  have nB : w2.heap.size < w3.heap.size := by assumption
  have nB2 : w.heap.size < w3.heap.size := by assumption
  have dB : ¬ w3.heap.size = w.heap.size := by omega
  have eB : ¬ w.heap.size = w3.heap.size := by omega
  have dC : ¬ w3.heap.size = w2.heap.size := by omega
  have eC : ¬ w2.heap.size = w3.heap.size := by omega
  go_wp2_with fail
  refine wp_region_kq (by kernel_rfl) (by kernel_rfl) ?_
  repeat (first | go_big_quiet_step ((first | (go_at_call 55; exact KW.call (smine_c _ _ _ _ _)) | (go_at_call 58; exact KW.call (HO.out _)) | (go_at_call 18; exact KW.call (within_c _ _ _ _ _)) | (go_at_call 60; exact KW.call (HF.out _)) | (go_at_call 53; exact KW.call (sawake_b (Below.refl _ _))))) | quiet_step ((first | (go_at_call 55; exact KW.call (smine_c _ _ _ _ _)) | (go_at_call 58; exact KW.call (HO.out _)) | (go_at_call 18; exact KW.call (within_c _ _ _ _ _)) | (go_at_call 60; exact KW.call (HF.out _)) | (go_at_call 53; exact KW.call (sawake_b (Below.refl _ _))))))
  refine wpQuiet_nil ?_
  intro k4
  have ce0 : k4.val.cell? ⟨w.heap.size, 0, none⟩ = some (.bool false) := (k4.kp.cell (p := ⟨w.heap.size, 0, none⟩) (by go_size)).trans (by go_simp)
  have fe0 : k4.val.frozen? ⟨w.heap.size, 0, none⟩ = false := (k4.kp.frozen (p := ⟨w.heap.size, 0, none⟩) (by go_size)).trans (by go_simp)
  have ce1 : k4.val.cell? ⟨w.heap.size, 1, none⟩ = some (.int .i64 a) := (k4.kp.cell (p := ⟨w.heap.size, 1, none⟩) (by go_size)).trans (by go_simp)
  have fe1 : k4.val.frozen? ⟨w.heap.size, 1, none⟩ = false := (k4.kp.frozen (p := ⟨w.heap.size, 1, none⟩) (by go_size)).trans (by go_simp)
  have ce2 : k4.val.cell? ⟨w.heap.size, 2, none⟩ = some (.int .i64 b) := (k4.kp.cell (p := ⟨w.heap.size, 2, none⟩) (by go_size)).trans (by go_simp)
  have fe2 : k4.val.frozen? ⟨w.heap.size, 2, none⟩ = false := (k4.kp.frozen (p := ⟨w.heap.size, 2, none⟩) (by go_size)).trans (by go_simp)
  have ce3 : k4.val.cell? ⟨w.heap.size, 3, none⟩ = some (.int .i64 z) := (k4.kp.cell (p := ⟨w.heap.size, 3, none⟩) (by go_size)).trans (by go_simp)
  have fe3 : k4.val.frozen? ⟨w.heap.size, 3, none⟩ = false := (k4.kp.frozen (p := ⟨w.heap.size, 3, none⟩) (by go_size)).trans (by go_simp)
  have ze4 : w.heap.size < k4.val.heap.size := Nat.lt_of_lt_of_le (by go_size) k4.kp.size
  have ce4 : k4.val.cell? ⟨w2.heap.size, 0, none⟩ = some (.bool true) := (k4.kp.cell (p := ⟨w2.heap.size, 0, none⟩) (by go_size)).trans (by go_simp)
  have fe4 : k4.val.frozen? ⟨w2.heap.size, 0, none⟩ = false := (k4.kp.frozen (p := ⟨w2.heap.size, 0, none⟩) (by go_size)).trans (by go_simp)
  have ce5 : k4.val.cell? ⟨w2.heap.size, 1, none⟩ = some (.int .i64 nl) := (k4.kp.cell (p := ⟨w2.heap.size, 1, none⟩) (by go_size)).trans (by go_simp)
  have fe5 : k4.val.frozen? ⟨w2.heap.size, 1, none⟩ = false := (k4.kp.frozen (p := ⟨w2.heap.size, 1, none⟩) (by go_size)).trans (by go_simp)
  have ce6 : k4.val.cell? ⟨w2.heap.size, 2, none⟩ = some (.int .i64 nh) := (k4.kp.cell (p := ⟨w2.heap.size, 2, none⟩) (by go_size)).trans (by go_simp)
  have fe6 : k4.val.frozen? ⟨w2.heap.size, 2, none⟩ = false := (k4.kp.frozen (p := ⟨w2.heap.size, 2, none⟩) (by go_size)).trans (by go_simp)
  have ce7 : k4.val.cell? ⟨w2.heap.size, 3, none⟩ = some (.int .i64 t4) := (k4.kp.cell (p := ⟨w2.heap.size, 3, none⟩) (by go_size)).trans (by go_simp)
  have fe7 : k4.val.frozen? ⟨w2.heap.size, 3, none⟩ = false := (k4.kp.frozen (p := ⟨w2.heap.size, 3, none⟩) (by go_size)).trans (by go_simp)
  have ze8 : w2.heap.size < k4.val.heap.size := Nat.lt_of_lt_of_le (by go_size) k4.kp.size
  have ce8 : k4.val.cell? ⟨w3.heap.size, 0, none⟩ = some (.bool true) := (k4.kp.cell (p := ⟨w3.heap.size, 0, none⟩) (by go_size)).trans (by go_simp)
  have fe8 : k4.val.frozen? ⟨w3.heap.size, 0, none⟩ = false := (k4.kp.frozen (p := ⟨w3.heap.size, 0, none⟩) (by go_size)).trans (by go_simp)
  have ce9 : k4.val.cell? ⟨w3.heap.size, 1, none⟩ = some (.int .i64 nl) := (k4.kp.cell (p := ⟨w3.heap.size, 1, none⟩) (by go_size)).trans (by go_simp)
  have fe9 : k4.val.frozen? ⟨w3.heap.size, 1, none⟩ = false := (k4.kp.frozen (p := ⟨w3.heap.size, 1, none⟩) (by go_size)).trans (by go_simp)
  have ce10 : k4.val.cell? ⟨w3.heap.size, 2, none⟩ = some (.int .i64 nh) := (k4.kp.cell (p := ⟨w3.heap.size, 2, none⟩) (by go_size)).trans (by go_simp)
  have fe10 : k4.val.frozen? ⟨w3.heap.size, 2, none⟩ = false := (k4.kp.frozen (p := ⟨w3.heap.size, 2, none⟩) (by go_size)).trans (by go_simp)
  have ce11 : k4.val.cell? ⟨w3.heap.size, 3, none⟩ = some (.int .i64 t4) := (k4.kp.cell (p := ⟨w3.heap.size, 3, none⟩) (by go_size)).trans (by go_simp)
  have fe11 : k4.val.frozen? ⟨w3.heap.size, 3, none⟩ = false := (k4.kp.frozen (p := ⟨w3.heap.size, 3, none⟩) (by go_size)).trans (by go_simp)
  have ze12 : w3.heap.size < k4.val.heap.size := Nat.lt_of_lt_of_le (by go_size) k4.kp.size
  have hwe : Below w.heap.size w k4.val := Below.trans (by (repeat' (first | (with_reducible exact Below.refl _ _) | (with_reducible assumption) | (with_reducible refine Below.alloc ?_ ?_ _) | (with_reducible refine Below.drew ?_) | (with_reducible refine below_drewN ?_ _) | (with_reducible refine Below.setCell ?_ ?_ _) | go_size))) (k4.kp.mono (by go_size))
  have hse : w.heap.size ≤ k4.val.heap.size := hwe.size
  clear cd0 fd0 cd1 fd1 cd2 fd2 cd3 fd3 zd4 cd4 fd4 cd5 fd5 cd6 fd6 cd7 fd7 zd8 hwd hsd hb3
  go_wp2_with fail
  go_ret
  exact ⟨rfl, by assumption⟩

end Go.Proofs.Ytgpeekmagckgcaa
