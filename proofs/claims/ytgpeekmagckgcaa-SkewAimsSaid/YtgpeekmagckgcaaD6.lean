/- What is proved here: what Meet of skew answers behind its guards. Condition: times. -/
import Derived.Test.YtgpeekmagckgcaaD5
namespace Go.Proofs.Ytgpeekmagckgcaa
open Go Go.RowKit
attribute [local go_sem] KW.cell KW.frozen
attribute [local go_sem ↓] eql24 eql23

set_option maxRecDepth 20000 in
set_option maxHeartbeats 2000000 in
theorem smeet_ok01 (a b z t1 t2 t4 m : Int) (w : World) (g0 : ¬ t1 < 0) (g1 : ¬ t4 < t1) (g2 : ¬ 1099511627776 < t4) (g3 : ¬ t2 < -1125899906842624) (g4 : ¬ 1125899906842624 < t2) (he : Pl.emp ((Pl.flo t1 t2 t4 m)) ((Pl.fhi t1 t2 t4 m)) = true) :
    Calls Try.prog 54 #[.agg #[.bool false, .int .i64 a, .int .i64 b, .int .i64 z], .int .i64 t1, .int .i64 t2, .int .i64 t4, .int .i64 m] w fun e w' => e = .returned (.tuple #[.agg #[.bool false, .int .i64 a, .int .i64 b, .int .i64 z], .int .i64 16]) ∧ Below w.heap.size w w' := by
  have hfr := fun w => fresh_c t1 t2 t4 m w (show Tm t1 from ⟨by omega, by omega⟩) (show Tm t2 from ⟨by omega, by omega⟩) (show Tm t4 from ⟨by omega, by omega⟩)
  have HFR := Lib.hid hfr
  clear hfr
  generalize Pl.flo t1 t2 t4 m = F at *
  generalize Pl.fhi t1 t2 t4 m = G at *
  go_enter Try.func54, Try.ntmps54
  go_wp2_with fail
  refine (HFR.out _).mono ?_
  rintro e w1 ⟨rfl, hb1⟩
  have cb0 : w1.cell? ⟨w.heap.size, 0, none⟩ = some (.bool false) := (hb1.cell (p := ⟨w.heap.size, 0, none⟩) (by go_size)).trans (by go_simp)
  have fb0 : w1.frozen? ⟨w.heap.size, 0, none⟩ = false := (hb1.frozen (p := ⟨w.heap.size, 0, none⟩) (by go_size)).trans (by go_simp)
  have cb1 : w1.cell? ⟨w.heap.size, 1, none⟩ = some (.int .i64 a) := (hb1.cell (p := ⟨w.heap.size, 1, none⟩) (by go_size)).trans (by go_simp)
  have fb1 : w1.frozen? ⟨w.heap.size, 1, none⟩ = false := (hb1.frozen (p := ⟨w.heap.size, 1, none⟩) (by go_size)).trans (by go_simp)
  have cb2 : w1.cell? ⟨w.heap.size, 2, none⟩ = some (.int .i64 b) := (hb1.cell (p := ⟨w.heap.size, 2, none⟩) (by go_size)).trans (by go_simp)
  have fb2 : w1.frozen? ⟨w.heap.size, 2, none⟩ = false := (hb1.frozen (p := ⟨w.heap.size, 2, none⟩) (by go_size)).trans (by go_simp)
  have cb3 : w1.cell? ⟨w.heap.size, 3, none⟩ = some (.int .i64 z) := (hb1.cell (p := ⟨w.heap.size, 3, none⟩) (by go_size)).trans (by go_simp)
  have fb3 : w1.frozen? ⟨w.heap.size, 3, none⟩ = false := (hb1.frozen (p := ⟨w.heap.size, 3, none⟩) (by go_size)).trans (by go_simp)
  have zb4 : w.heap.size < w1.heap.size := Nat.lt_of_lt_of_le (by go_size) hb1.size
  have cb4 : w1.cell? ⟨w.heap.size + 1, 0, none⟩ = some (.bool false) := (hb1.cell (p := ⟨w.heap.size + 1, 0, none⟩) (by go_size)).trans (by go_simp)
  have fb4 : w1.frozen? ⟨w.heap.size + 1, 0, none⟩ = false := (hb1.frozen (p := ⟨w.heap.size + 1, 0, none⟩) (by go_size)).trans (by go_simp)
  have cb5 : w1.cell? ⟨w.heap.size + 1, 1, none⟩ = some (.int .i64 0) := (hb1.cell (p := ⟨w.heap.size + 1, 1, none⟩) (by go_size)).trans (by go_simp)
  have fb5 : w1.frozen? ⟨w.heap.size + 1, 1, none⟩ = false := (hb1.frozen (p := ⟨w.heap.size + 1, 1, none⟩) (by go_size)).trans (by go_simp)
  have cb6 : w1.cell? ⟨w.heap.size + 1, 2, none⟩ = some (.int .i64 0) := (hb1.cell (p := ⟨w.heap.size + 1, 2, none⟩) (by go_size)).trans (by go_simp)
  have fb6 : w1.frozen? ⟨w.heap.size + 1, 2, none⟩ = false := (hb1.frozen (p := ⟨w.heap.size + 1, 2, none⟩) (by go_size)).trans (by go_simp)
  have cb7 : w1.cell? ⟨w.heap.size + 1, 3, none⟩ = some (.int .i64 0) := (hb1.cell (p := ⟨w.heap.size + 1, 3, none⟩) (by go_size)).trans (by go_simp)
  have fb7 : w1.frozen? ⟨w.heap.size + 1, 3, none⟩ = false := (hb1.frozen (p := ⟨w.heap.size + 1, 3, none⟩) (by go_size)).trans (by go_simp)
  have zb8 : w.heap.size + 1 < w1.heap.size := Nat.lt_of_lt_of_le (by go_size) hb1.size
  have hwb : Below w.heap.size w w1 := Below.trans (by (repeat' (first | (with_reducible exact Below.refl _ _) | (with_reducible assumption) | (with_reducible refine Below.alloc ?_ ?_ _) | (with_reducible refine Below.drew ?_) | (with_reducible refine below_drewN ?_ _) | (with_reducible refine Below.setCell ?_ ?_ _) | go_size))) (hb1.mono (by go_size))
  have hsb : w.heap.size ≤ w1.heap.size := hwb.size
  go_wp2_with fail
  refine (empty_c _ _ _).mono ?_
  rintro e w2 ⟨rfl, hb2⟩
  have cc0 : w2.cell? ⟨w.heap.size, 0, none⟩ = some (.bool false) := (hb2.cell (p := ⟨w.heap.size, 0, none⟩) (by go_size)).trans (by go_simp)
  have fc0 : w2.frozen? ⟨w.heap.size, 0, none⟩ = false := (hb2.frozen (p := ⟨w.heap.size, 0, none⟩) (by go_size)).trans (by go_simp)
  have cc1 : w2.cell? ⟨w.heap.size, 1, none⟩ = some (.int .i64 a) := (hb2.cell (p := ⟨w.heap.size, 1, none⟩) (by go_size)).trans (by go_simp)
  have fc1 : w2.frozen? ⟨w.heap.size, 1, none⟩ = false := (hb2.frozen (p := ⟨w.heap.size, 1, none⟩) (by go_size)).trans (by go_simp)
  have cc2 : w2.cell? ⟨w.heap.size, 2, none⟩ = some (.int .i64 b) := (hb2.cell (p := ⟨w.heap.size, 2, none⟩) (by go_size)).trans (by go_simp)
  have fc2 : w2.frozen? ⟨w.heap.size, 2, none⟩ = false := (hb2.frozen (p := ⟨w.heap.size, 2, none⟩) (by go_size)).trans (by go_simp)
  have cc3 : w2.cell? ⟨w.heap.size, 3, none⟩ = some (.int .i64 z) := (hb2.cell (p := ⟨w.heap.size, 3, none⟩) (by go_size)).trans (by go_simp)
  have fc3 : w2.frozen? ⟨w.heap.size, 3, none⟩ = false := (hb2.frozen (p := ⟨w.heap.size, 3, none⟩) (by go_size)).trans (by go_simp)
  have zc4 : w.heap.size < w2.heap.size := Nat.lt_of_lt_of_le (by go_size) hb2.size
  have cc4 : w2.cell? ⟨w.heap.size + 1, 0, none⟩ = some (.bool false) := (hb2.cell (p := ⟨w.heap.size + 1, 0, none⟩) (by go_size)).trans (by go_simp)
  have fc4 : w2.frozen? ⟨w.heap.size + 1, 0, none⟩ = false := (hb2.frozen (p := ⟨w.heap.size + 1, 0, none⟩) (by go_size)).trans (by go_simp)
  have cc5 : w2.cell? ⟨w.heap.size + 1, 1, none⟩ = some (.int .i64 0) := (hb2.cell (p := ⟨w.heap.size + 1, 1, none⟩) (by go_size)).trans (by go_simp)
  have fc5 : w2.frozen? ⟨w.heap.size + 1, 1, none⟩ = false := (hb2.frozen (p := ⟨w.heap.size + 1, 1, none⟩) (by go_size)).trans (by go_simp)
  have cc6 : w2.cell? ⟨w.heap.size + 1, 2, none⟩ = some (.int .i64 0) := (hb2.cell (p := ⟨w.heap.size + 1, 2, none⟩) (by go_size)).trans (by go_simp)
  have fc6 : w2.frozen? ⟨w.heap.size + 1, 2, none⟩ = false := (hb2.frozen (p := ⟨w.heap.size + 1, 2, none⟩) (by go_size)).trans (by go_simp)
  have cc7 : w2.cell? ⟨w.heap.size + 1, 3, none⟩ = some (.int .i64 0) := (hb2.cell (p := ⟨w.heap.size + 1, 3, none⟩) (by go_size)).trans (by go_simp)
  have fc7 : w2.frozen? ⟨w.heap.size + 1, 3, none⟩ = false := (hb2.frozen (p := ⟨w.heap.size + 1, 3, none⟩) (by go_size)).trans (by go_simp)
  have zc8 : w.heap.size + 1 < w2.heap.size := Nat.lt_of_lt_of_le (by go_size) hb2.size
  have cc8 : w2.cell? ⟨w1.heap.size, 0, none⟩ = some (.int .i64 F) := (hb2.cell (p := ⟨w1.heap.size, 0, none⟩) (by go_size)).trans (by go_simp)
  have fc8 : w2.frozen? ⟨w1.heap.size, 0, none⟩ = false := (hb2.frozen (p := ⟨w1.heap.size, 0, none⟩) (by go_size)).trans (by go_simp)
  have cc9 : w2.cell? ⟨w1.heap.size, 1, none⟩ = some (.int .i64 G) := (hb2.cell (p := ⟨w1.heap.size, 1, none⟩) (by go_size)).trans (by go_simp)
  have fc9 : w2.frozen? ⟨w1.heap.size, 1, none⟩ = false := (hb2.frozen (p := ⟨w1.heap.size, 1, none⟩) (by go_size)).trans (by go_simp)
  have zc10 : w1.heap.size < w2.heap.size := Nat.lt_of_lt_of_le (by go_size) hb2.size
  have hwc : Below w.heap.size w w2 := Below.trans (by (repeat' (first | (with_reducible exact Below.refl _ _) | (with_reducible assumption) | (with_reducible refine Below.alloc ?_ ?_ _) | (with_reducible refine Below.drew ?_) | (with_reducible refine below_drewN ?_ _) | (with_reducible refine Below.setCell ?_ ?_ _) | go_size))) (hb2.mono (by go_size))
  have hsc : w.heap.size ≤ w2.heap.size := hwc.size
  clear cb0 fb0 cb1 fb1 cb2 fb2 cb3 fb3 zb4 cb4 fb4 cb5 fb5 cb6 fb6 cb7 fb7 zb8 hwb hsb hb1
  skip
  go_wp2_with fail
  refine bodyPost_ret (v := .tuple #[.agg #[.bool false, .int .i64 a, .int .i64 b, .int .i64 z], .int .i64 16]) (by simp [results, Try.results54, go_sem, cc4, cc5, cc6, cc7]) rfl ⟨rfl, ?_⟩
  (repeat' (first | (with_reducible exact Below.refl _ _) | (with_reducible assumption) | (with_reducible refine Below.alloc ?_ ?_ _) | (with_reducible refine Below.drew ?_) | (with_reducible refine below_drewN ?_ _) | (with_reducible refine Below.setCell ?_ ?_ _) | go_size))

set_option maxRecDepth 20000 in
set_option maxHeartbeats 2000000 in
theorem smeet_ok00 (a b z t1 t2 t4 m : Int) (w : World) (g0 : ¬ t1 < 0) (g1 : ¬ t4 < t1) (g2 : ¬ 1099511627776 < t4) (g3 : ¬ t2 < -1125899906842624) (g4 : ¬ 1125899906842624 < t2) (he : Pl.emp ((Pl.flo t1 t2 t4 m)) ((Pl.fhi t1 t2 t4 m)) = false) :
    Calls Try.prog 54 #[.agg #[.bool false, .int .i64 a, .int .i64 b, .int .i64 z], .int .i64 t1, .int .i64 t2, .int .i64 t4, .int .i64 m] w fun e w' => e = .returned (.tuple #[.agg #[.bool true, .int .i64 ((Pl.flo t1 t2 t4 m)), .int .i64 ((Pl.fhi t1 t2 t4 m)), .int .i64 t4], .int .i64 0]) ∧ Below w.heap.size w w' := by
  have hfr := fun w => fresh_c t1 t2 t4 m w (show Tm t1 from ⟨by omega, by omega⟩) (show Tm t2 from ⟨by omega, by omega⟩) (show Tm t4 from ⟨by omega, by omega⟩)
  have HFR := Lib.hid hfr
  clear hfr
  generalize Pl.flo t1 t2 t4 m = F at *
  generalize Pl.fhi t1 t2 t4 m = G at *
  go_enter Try.func54, Try.ntmps54
  go_wp2_with fail
  refine (HFR.out _).mono ?_
  rintro e w1 ⟨rfl, hb1⟩
  have cb0 : w1.cell? ⟨w.heap.size, 0, none⟩ = some (.bool false) := (hb1.cell (p := ⟨w.heap.size, 0, none⟩) (by go_size)).trans (by go_simp)
  have fb0 : w1.frozen? ⟨w.heap.size, 0, none⟩ = false := (hb1.frozen (p := ⟨w.heap.size, 0, none⟩) (by go_size)).trans (by go_simp)
  have cb1 : w1.cell? ⟨w.heap.size, 1, none⟩ = some (.int .i64 a) := (hb1.cell (p := ⟨w.heap.size, 1, none⟩) (by go_size)).trans (by go_simp)
  have fb1 : w1.frozen? ⟨w.heap.size, 1, none⟩ = false := (hb1.frozen (p := ⟨w.heap.size, 1, none⟩) (by go_size)).trans (by go_simp)
  have cb2 : w1.cell? ⟨w.heap.size, 2, none⟩ = some (.int .i64 b) := (hb1.cell (p := ⟨w.heap.size, 2, none⟩) (by go_size)).trans (by go_simp)
  have fb2 : w1.frozen? ⟨w.heap.size, 2, none⟩ = false := (hb1.frozen (p := ⟨w.heap.size, 2, none⟩) (by go_size)).trans (by go_simp)
  have cb3 : w1.cell? ⟨w.heap.size, 3, none⟩ = some (.int .i64 z) := (hb1.cell (p := ⟨w.heap.size, 3, none⟩) (by go_size)).trans (by go_simp)
  have fb3 : w1.frozen? ⟨w.heap.size, 3, none⟩ = false := (hb1.frozen (p := ⟨w.heap.size, 3, none⟩) (by go_size)).trans (by go_simp)
  have zb4 : w.heap.size < w1.heap.size := Nat.lt_of_lt_of_le (by go_size) hb1.size
  have cb4 : w1.cell? ⟨w.heap.size + 1, 0, none⟩ = some (.bool false) := (hb1.cell (p := ⟨w.heap.size + 1, 0, none⟩) (by go_size)).trans (by go_simp)
  have fb4 : w1.frozen? ⟨w.heap.size + 1, 0, none⟩ = false := (hb1.frozen (p := ⟨w.heap.size + 1, 0, none⟩) (by go_size)).trans (by go_simp)
  have cb5 : w1.cell? ⟨w.heap.size + 1, 1, none⟩ = some (.int .i64 0) := (hb1.cell (p := ⟨w.heap.size + 1, 1, none⟩) (by go_size)).trans (by go_simp)
  have fb5 : w1.frozen? ⟨w.heap.size + 1, 1, none⟩ = false := (hb1.frozen (p := ⟨w.heap.size + 1, 1, none⟩) (by go_size)).trans (by go_simp)
  have cb6 : w1.cell? ⟨w.heap.size + 1, 2, none⟩ = some (.int .i64 0) := (hb1.cell (p := ⟨w.heap.size + 1, 2, none⟩) (by go_size)).trans (by go_simp)
  have fb6 : w1.frozen? ⟨w.heap.size + 1, 2, none⟩ = false := (hb1.frozen (p := ⟨w.heap.size + 1, 2, none⟩) (by go_size)).trans (by go_simp)
  have cb7 : w1.cell? ⟨w.heap.size + 1, 3, none⟩ = some (.int .i64 0) := (hb1.cell (p := ⟨w.heap.size + 1, 3, none⟩) (by go_size)).trans (by go_simp)
  have fb7 : w1.frozen? ⟨w.heap.size + 1, 3, none⟩ = false := (hb1.frozen (p := ⟨w.heap.size + 1, 3, none⟩) (by go_size)).trans (by go_simp)
  have zb8 : w.heap.size + 1 < w1.heap.size := Nat.lt_of_lt_of_le (by go_size) hb1.size
  have hwb : Below w.heap.size w w1 := Below.trans (by (repeat' (first | (with_reducible exact Below.refl _ _) | (with_reducible assumption) | (with_reducible refine Below.alloc ?_ ?_ _) | (with_reducible refine Below.drew ?_) | (with_reducible refine below_drewN ?_ _) | (with_reducible refine Below.setCell ?_ ?_ _) | go_size))) (hb1.mono (by go_size))
  have hsb : w.heap.size ≤ w1.heap.size := hwb.size
  go_wp2_with fail
  refine (empty_c _ _ _).mono ?_
  rintro e w2 ⟨rfl, hb2⟩
  have cc0 : w2.cell? ⟨w.heap.size, 0, none⟩ = some (.bool false) := (hb2.cell (p := ⟨w.heap.size, 0, none⟩) (by go_size)).trans (by go_simp)
  have fc0 : w2.frozen? ⟨w.heap.size, 0, none⟩ = false := (hb2.frozen (p := ⟨w.heap.size, 0, none⟩) (by go_size)).trans (by go_simp)
  have cc1 : w2.cell? ⟨w.heap.size, 1, none⟩ = some (.int .i64 a) := (hb2.cell (p := ⟨w.heap.size, 1, none⟩) (by go_size)).trans (by go_simp)
  have fc1 : w2.frozen? ⟨w.heap.size, 1, none⟩ = false := (hb2.frozen (p := ⟨w.heap.size, 1, none⟩) (by go_size)).trans (by go_simp)
  have cc2 : w2.cell? ⟨w.heap.size, 2, none⟩ = some (.int .i64 b) := (hb2.cell (p := ⟨w.heap.size, 2, none⟩) (by go_size)).trans (by go_simp)
  have fc2 : w2.frozen? ⟨w.heap.size, 2, none⟩ = false := (hb2.frozen (p := ⟨w.heap.size, 2, none⟩) (by go_size)).trans (by go_simp)
  have cc3 : w2.cell? ⟨w.heap.size, 3, none⟩ = some (.int .i64 z) := (hb2.cell (p := ⟨w.heap.size, 3, none⟩) (by go_size)).trans (by go_simp)
  have fc3 : w2.frozen? ⟨w.heap.size, 3, none⟩ = false := (hb2.frozen (p := ⟨w.heap.size, 3, none⟩) (by go_size)).trans (by go_simp)
  have zc4 : w.heap.size < w2.heap.size := Nat.lt_of_lt_of_le (by go_size) hb2.size
  have cc4 : w2.cell? ⟨w.heap.size + 1, 0, none⟩ = some (.bool false) := (hb2.cell (p := ⟨w.heap.size + 1, 0, none⟩) (by go_size)).trans (by go_simp)
  have fc4 : w2.frozen? ⟨w.heap.size + 1, 0, none⟩ = false := (hb2.frozen (p := ⟨w.heap.size + 1, 0, none⟩) (by go_size)).trans (by go_simp)
  have cc5 : w2.cell? ⟨w.heap.size + 1, 1, none⟩ = some (.int .i64 0) := (hb2.cell (p := ⟨w.heap.size + 1, 1, none⟩) (by go_size)).trans (by go_simp)
  have fc5 : w2.frozen? ⟨w.heap.size + 1, 1, none⟩ = false := (hb2.frozen (p := ⟨w.heap.size + 1, 1, none⟩) (by go_size)).trans (by go_simp)
  have cc6 : w2.cell? ⟨w.heap.size + 1, 2, none⟩ = some (.int .i64 0) := (hb2.cell (p := ⟨w.heap.size + 1, 2, none⟩) (by go_size)).trans (by go_simp)
  have fc6 : w2.frozen? ⟨w.heap.size + 1, 2, none⟩ = false := (hb2.frozen (p := ⟨w.heap.size + 1, 2, none⟩) (by go_size)).trans (by go_simp)
  have cc7 : w2.cell? ⟨w.heap.size + 1, 3, none⟩ = some (.int .i64 0) := (hb2.cell (p := ⟨w.heap.size + 1, 3, none⟩) (by go_size)).trans (by go_simp)
  have fc7 : w2.frozen? ⟨w.heap.size + 1, 3, none⟩ = false := (hb2.frozen (p := ⟨w.heap.size + 1, 3, none⟩) (by go_size)).trans (by go_simp)
  have zc8 : w.heap.size + 1 < w2.heap.size := Nat.lt_of_lt_of_le (by go_size) hb2.size
  have cc8 : w2.cell? ⟨w1.heap.size, 0, none⟩ = some (.int .i64 F) := (hb2.cell (p := ⟨w1.heap.size, 0, none⟩) (by go_size)).trans (by go_simp)
  have fc8 : w2.frozen? ⟨w1.heap.size, 0, none⟩ = false := (hb2.frozen (p := ⟨w1.heap.size, 0, none⟩) (by go_size)).trans (by go_simp)
  have cc9 : w2.cell? ⟨w1.heap.size, 1, none⟩ = some (.int .i64 G) := (hb2.cell (p := ⟨w1.heap.size, 1, none⟩) (by go_size)).trans (by go_simp)
  have fc9 : w2.frozen? ⟨w1.heap.size, 1, none⟩ = false := (hb2.frozen (p := ⟨w1.heap.size, 1, none⟩) (by go_size)).trans (by go_simp)
  have zc10 : w1.heap.size < w2.heap.size := Nat.lt_of_lt_of_le (by go_size) hb2.size
  have hwc : Below w.heap.size w w2 := Below.trans (by (repeat' (first | (with_reducible exact Below.refl _ _) | (with_reducible assumption) | (with_reducible refine Below.alloc ?_ ?_ _) | (with_reducible refine Below.drew ?_) | (with_reducible refine below_drewN ?_ _) | (with_reducible refine Below.setCell ?_ ?_ _) | go_size))) (hb2.mono (by go_size))
  have hsc : w.heap.size ≤ w2.heap.size := hwc.size
  clear cb0 fb0 cb1 fb1 cb2 fb2 cb3 fb3 zb4 cb4 fb4 cb5 fb5 cb6 fb6 cb7 fb7 zb8 hwb hsb hb1
  skip
  go_wp2_with fail
  refine bodyPost_ret (v := .tuple #[.agg #[.bool true, .int .i64 F, .int .i64 G, .int .i64 t4], .int .i64 0]) (by simp [results, Try.results54, go_sem, cc4, cc5, cc6, cc7]) rfl ⟨rfl, ?_⟩
  (repeat' (first | (with_reducible exact Below.refl _ _) | (with_reducible assumption) | (with_reducible refine Below.alloc ?_ ?_ _) | (with_reducible refine Below.drew ?_) | (with_reducible refine below_drewN ?_ _) | (with_reducible refine Below.setCell ?_ ?_ _) | go_size))

set_option maxRecDepth 20000 in
set_option maxHeartbeats 2000000 in
theorem smeet_ok11 (a b z t1 t2 t4 m : Int) (w : World) (g0 : ¬ t1 < 0) (g1 : ¬ t4 < t1) (g2 : ¬ 1099511627776 < t4) (g3 : ¬ t2 < -1125899906842624) (g4 : ¬ 1125899906842624 < t2) (g5 : ¬ t4 < z) (hz : Tm z) (he : Pl.emp (Pl.mlo (Pl.flo t1 t2 t4 m) (Pl.fhi t1 t2 t4 m) (Pl.olo true a b z t4 m) (Pl.ohi true a b z t4 m)) (Pl.mhi (Pl.flo t1 t2 t4 m) (Pl.fhi t1 t2 t4 m) (Pl.olo true a b z t4 m) (Pl.ohi true a b z t4 m)) = true) :
    Calls Try.prog 54 #[.agg #[.bool true, .int .i64 a, .int .i64 b, .int .i64 z], .int .i64 t1, .int .i64 t2, .int .i64 t4, .int .i64 m] w fun e w' => e = .returned (.tuple #[.agg #[.bool true, .int .i64 a, .int .i64 b, .int .i64 z], .int .i64 16]) ∧ Below w.heap.size w w' := by
  have hfr := fun w => fresh_c t1 t2 t4 m w (show Tm t1 from ⟨by omega, by omega⟩) (show Tm t2 from ⟨by omega, by omega⟩) (show Tm t4 from ⟨by omega, by omega⟩)
  have HFR := Lib.hid hfr
  clear hfr
  have hon := fun w => on_c true a b z t4 m w ⟨by omega, by omega⟩ hz
  have HON := Lib.hid hon
  clear hon hz
  generalize Pl.flo t1 t2 t4 m = F at *
  generalize Pl.fhi t1 t2 t4 m = G at *
  generalize Pl.olo true a b z t4 m = L at *
  generalize Pl.ohi true a b z t4 m = H at *
  go_enter Try.func54, Try.ntmps54
  go_wp2_with fail
  refine (HFR.out _).mono ?_
  rintro e w1 ⟨rfl, hb1⟩
  have cb0 : w1.cell? ⟨w.heap.size, 0, none⟩ = some (.bool true) := (hb1.cell (p := ⟨w.heap.size, 0, none⟩) (by go_size)).trans (by go_simp)
  have fb0 : w1.frozen? ⟨w.heap.size, 0, none⟩ = false := (hb1.frozen (p := ⟨w.heap.size, 0, none⟩) (by go_size)).trans (by go_simp)
  have cb1 : w1.cell? ⟨w.heap.size, 1, none⟩ = some (.int .i64 a) := (hb1.cell (p := ⟨w.heap.size, 1, none⟩) (by go_size)).trans (by go_simp)
  have fb1 : w1.frozen? ⟨w.heap.size, 1, none⟩ = false := (hb1.frozen (p := ⟨w.heap.size, 1, none⟩) (by go_size)).trans (by go_simp)
  have cb2 : w1.cell? ⟨w.heap.size, 2, none⟩ = some (.int .i64 b) := (hb1.cell (p := ⟨w.heap.size, 2, none⟩) (by go_size)).trans (by go_simp)
  have fb2 : w1.frozen? ⟨w.heap.size, 2, none⟩ = false := (hb1.frozen (p := ⟨w.heap.size, 2, none⟩) (by go_size)).trans (by go_simp)
  have cb3 : w1.cell? ⟨w.heap.size, 3, none⟩ = some (.int .i64 z) := (hb1.cell (p := ⟨w.heap.size, 3, none⟩) (by go_size)).trans (by go_simp)
  have fb3 : w1.frozen? ⟨w.heap.size, 3, none⟩ = false := (hb1.frozen (p := ⟨w.heap.size, 3, none⟩) (by go_size)).trans (by go_simp)
  have zb4 : w.heap.size < w1.heap.size := Nat.lt_of_lt_of_le (by go_size) hb1.size
  have cb4 : w1.cell? ⟨w.heap.size + 1, 0, none⟩ = some (.bool false) := (hb1.cell (p := ⟨w.heap.size + 1, 0, none⟩) (by go_size)).trans (by go_simp)
  have fb4 : w1.frozen? ⟨w.heap.size + 1, 0, none⟩ = false := (hb1.frozen (p := ⟨w.heap.size + 1, 0, none⟩) (by go_size)).trans (by go_simp)
  have cb5 : w1.cell? ⟨w.heap.size + 1, 1, none⟩ = some (.int .i64 0) := (hb1.cell (p := ⟨w.heap.size + 1, 1, none⟩) (by go_size)).trans (by go_simp)
  have fb5 : w1.frozen? ⟨w.heap.size + 1, 1, none⟩ = false := (hb1.frozen (p := ⟨w.heap.size + 1, 1, none⟩) (by go_size)).trans (by go_simp)
  have cb6 : w1.cell? ⟨w.heap.size + 1, 2, none⟩ = some (.int .i64 0) := (hb1.cell (p := ⟨w.heap.size + 1, 2, none⟩) (by go_size)).trans (by go_simp)
  have fb6 : w1.frozen? ⟨w.heap.size + 1, 2, none⟩ = false := (hb1.frozen (p := ⟨w.heap.size + 1, 2, none⟩) (by go_size)).trans (by go_simp)
  have cb7 : w1.cell? ⟨w.heap.size + 1, 3, none⟩ = some (.int .i64 0) := (hb1.cell (p := ⟨w.heap.size + 1, 3, none⟩) (by go_size)).trans (by go_simp)
  have fb7 : w1.frozen? ⟨w.heap.size + 1, 3, none⟩ = false := (hb1.frozen (p := ⟨w.heap.size + 1, 3, none⟩) (by go_size)).trans (by go_simp)
  have zb8 : w.heap.size + 1 < w1.heap.size := Nat.lt_of_lt_of_le (by go_size) hb1.size
  have hwb : Below w.heap.size w w1 := Below.trans (by (repeat' (first | (with_reducible exact Below.refl _ _) | (with_reducible assumption) | (with_reducible refine Below.alloc ?_ ?_ _) | (with_reducible refine Below.drew ?_) | (with_reducible refine below_drewN ?_ _) | (with_reducible refine Below.setCell ?_ ?_ _) | go_size))) (hb1.mono (by go_size))
  have hsb : w.heap.size ≤ w1.heap.size := hwb.size
  have n0 : w.heap.size + 1 < w1.heap.size := Nat.lt_of_lt_of_le (by go_size) hb1.size
  have n1 : ¬ w1.heap.size = w.heap.size := by omega
  have n2 : ¬ w1.heap.size = w.heap.size + 1 := by omega
  have n3 : ¬ w.heap.size = w1.heap.size := by omega
  have n4 : ¬ w.heap.size + 1 = w1.heap.size := by omega
  have n5 : w.heap.size ≤ w1.heap.size := by omega
  go_wp2_with fail
  refine wp_region_kw 6 (by kernel_rfl) (by kernel_rfl) ?_
  simp only [List.take_succ_cons, List.take_zero, List.drop_succ_cons, List.drop_zero]
  repeat (quiet_step (((first | (go_at_call 58; exact KW.call (HON.out _)) | (go_at_call 16; exact KW.call (meet_c _ _ _ _ _))))))
  refine wpQuiet_nil ?_
  intro k2
  have cc0 : k2.val.cell? ⟨w.heap.size, 0, none⟩ = some (.bool true) := (k2.kp.cell (p := ⟨w.heap.size, 0, none⟩) (by go_size)).trans (by go_simp)
  have fc0 : k2.val.frozen? ⟨w.heap.size, 0, none⟩ = false := (k2.kp.frozen (p := ⟨w.heap.size, 0, none⟩) (by go_size)).trans (by go_simp)
  have cc1 : k2.val.cell? ⟨w.heap.size, 1, none⟩ = some (.int .i64 a) := (k2.kp.cell (p := ⟨w.heap.size, 1, none⟩) (by go_size)).trans (by go_simp)
  have fc1 : k2.val.frozen? ⟨w.heap.size, 1, none⟩ = false := (k2.kp.frozen (p := ⟨w.heap.size, 1, none⟩) (by go_size)).trans (by go_simp)
  have cc2 : k2.val.cell? ⟨w.heap.size, 2, none⟩ = some (.int .i64 b) := (k2.kp.cell (p := ⟨w.heap.size, 2, none⟩) (by go_size)).trans (by go_simp)
  have fc2 : k2.val.frozen? ⟨w.heap.size, 2, none⟩ = false := (k2.kp.frozen (p := ⟨w.heap.size, 2, none⟩) (by go_size)).trans (by go_simp)
  have cc3 : k2.val.cell? ⟨w.heap.size, 3, none⟩ = some (.int .i64 z) := (k2.kp.cell (p := ⟨w.heap.size, 3, none⟩) (by go_size)).trans (by go_simp)
  have fc3 : k2.val.frozen? ⟨w.heap.size, 3, none⟩ = false := (k2.kp.frozen (p := ⟨w.heap.size, 3, none⟩) (by go_size)).trans (by go_simp)
  have zc4 : w.heap.size < k2.val.heap.size := Nat.lt_of_lt_of_le (by go_size) k2.kp.size
  have cc4 : k2.val.cell? ⟨w.heap.size + 1, 0, none⟩ = some (.bool false) := (k2.kp.cell (p := ⟨w.heap.size + 1, 0, none⟩) (by go_size)).trans (by go_simp)
  have fc4 : k2.val.frozen? ⟨w.heap.size + 1, 0, none⟩ = false := (k2.kp.frozen (p := ⟨w.heap.size + 1, 0, none⟩) (by go_size)).trans (by go_simp)
  have cc5 : k2.val.cell? ⟨w.heap.size + 1, 1, none⟩ = some (.int .i64 0) := (k2.kp.cell (p := ⟨w.heap.size + 1, 1, none⟩) (by go_size)).trans (by go_simp)
  have fc5 : k2.val.frozen? ⟨w.heap.size + 1, 1, none⟩ = false := (k2.kp.frozen (p := ⟨w.heap.size + 1, 1, none⟩) (by go_size)).trans (by go_simp)
  have cc6 : k2.val.cell? ⟨w.heap.size + 1, 2, none⟩ = some (.int .i64 0) := (k2.kp.cell (p := ⟨w.heap.size + 1, 2, none⟩) (by go_size)).trans (by go_simp)
  have fc6 : k2.val.frozen? ⟨w.heap.size + 1, 2, none⟩ = false := (k2.kp.frozen (p := ⟨w.heap.size + 1, 2, none⟩) (by go_size)).trans (by go_simp)
  have cc7 : k2.val.cell? ⟨w.heap.size + 1, 3, none⟩ = some (.int .i64 0) := (k2.kp.cell (p := ⟨w.heap.size + 1, 3, none⟩) (by go_size)).trans (by go_simp)
  have fc7 : k2.val.frozen? ⟨w.heap.size + 1, 3, none⟩ = false := (k2.kp.frozen (p := ⟨w.heap.size + 1, 3, none⟩) (by go_size)).trans (by go_simp)
  have zc8 : w.heap.size + 1 < k2.val.heap.size := Nat.lt_of_lt_of_le (by go_size) k2.kp.size
  have cc8 : k2.val.cell? ⟨w1.heap.size, 0, none⟩ = some (.int .i64 F) := (k2.kp.cell (p := ⟨w1.heap.size, 0, none⟩) (by go_size)).trans (by go_simp)
  have fc8 : k2.val.frozen? ⟨w1.heap.size, 0, none⟩ = false := (k2.kp.frozen (p := ⟨w1.heap.size, 0, none⟩) (by go_size)).trans (by go_simp)
  have cc9 : k2.val.cell? ⟨w1.heap.size, 1, none⟩ = some (.int .i64 G) := (k2.kp.cell (p := ⟨w1.heap.size, 1, none⟩) (by go_size)).trans (by go_simp)
  have fc9 : k2.val.frozen? ⟨w1.heap.size, 1, none⟩ = false := (k2.kp.frozen (p := ⟨w1.heap.size, 1, none⟩) (by go_size)).trans (by go_simp)
  have zc10 : w1.heap.size < k2.val.heap.size := Nat.lt_of_lt_of_le (by go_size) k2.kp.size
  have hwc : Below w.heap.size w k2.val := Below.trans (by (repeat' (first | (with_reducible exact Below.refl _ _) | (with_reducible assumption) | (with_reducible refine Below.alloc ?_ ?_ _) | (with_reducible refine Below.drew ?_) | (with_reducible refine below_drewN ?_ _) | (with_reducible refine Below.setCell ?_ ?_ _) | go_size))) (k2.kp.mono (by go_size))
  have hsc : w.heap.size ≤ k2.val.heap.size := hwc.size
  clear cb0 fb0 cb1 fb1 cb2 fb2 cb3 fb3 zb4 cb4 fb4 cb5 fb5 cb6 fb6 cb7 fb7 zb8 hwb hsb hb1
  go_wp2_with fail
  refine (empty_c _ _ _).mono ?_
  rintro e w3 ⟨rfl, hb3⟩
  have cd0 : w3.cell? ⟨w.heap.size, 0, none⟩ = some (.bool true) := (hb3.cell (p := ⟨w.heap.size, 0, none⟩) (by go_size)).trans (by go_simp)
  have fd0 : w3.frozen? ⟨w.heap.size, 0, none⟩ = false := (hb3.frozen (p := ⟨w.heap.size, 0, none⟩) (by go_size)).trans (by go_simp)
  have cd1 : w3.cell? ⟨w.heap.size, 1, none⟩ = some (.int .i64 a) := (hb3.cell (p := ⟨w.heap.size, 1, none⟩) (by go_size)).trans (by go_simp)
  have fd1 : w3.frozen? ⟨w.heap.size, 1, none⟩ = false := (hb3.frozen (p := ⟨w.heap.size, 1, none⟩) (by go_size)).trans (by go_simp)
  have cd2 : w3.cell? ⟨w.heap.size, 2, none⟩ = some (.int .i64 b) := (hb3.cell (p := ⟨w.heap.size, 2, none⟩) (by go_size)).trans (by go_simp)
  have fd2 : w3.frozen? ⟨w.heap.size, 2, none⟩ = false := (hb3.frozen (p := ⟨w.heap.size, 2, none⟩) (by go_size)).trans (by go_simp)
  have cd3 : w3.cell? ⟨w.heap.size, 3, none⟩ = some (.int .i64 z) := (hb3.cell (p := ⟨w.heap.size, 3, none⟩) (by go_size)).trans (by go_simp)
  have fd3 : w3.frozen? ⟨w.heap.size, 3, none⟩ = false := (hb3.frozen (p := ⟨w.heap.size, 3, none⟩) (by go_size)).trans (by go_simp)
  have zd4 : w.heap.size < w3.heap.size := Nat.lt_of_lt_of_le (by go_size) hb3.size
  have cd4 : w3.cell? ⟨w.heap.size + 1, 0, none⟩ = some (.bool false) := (hb3.cell (p := ⟨w.heap.size + 1, 0, none⟩) (by go_size)).trans (by go_simp)
  have fd4 : w3.frozen? ⟨w.heap.size + 1, 0, none⟩ = false := (hb3.frozen (p := ⟨w.heap.size + 1, 0, none⟩) (by go_size)).trans (by go_simp)
  have cd5 : w3.cell? ⟨w.heap.size + 1, 1, none⟩ = some (.int .i64 0) := (hb3.cell (p := ⟨w.heap.size + 1, 1, none⟩) (by go_size)).trans (by go_simp)
  have fd5 : w3.frozen? ⟨w.heap.size + 1, 1, none⟩ = false := (hb3.frozen (p := ⟨w.heap.size + 1, 1, none⟩) (by go_size)).trans (by go_simp)
  have cd6 : w3.cell? ⟨w.heap.size + 1, 2, none⟩ = some (.int .i64 0) := (hb3.cell (p := ⟨w.heap.size + 1, 2, none⟩) (by go_size)).trans (by go_simp)
  have fd6 : w3.frozen? ⟨w.heap.size + 1, 2, none⟩ = false := (hb3.frozen (p := ⟨w.heap.size + 1, 2, none⟩) (by go_size)).trans (by go_simp)
  have cd7 : w3.cell? ⟨w.heap.size + 1, 3, none⟩ = some (.int .i64 0) := (hb3.cell (p := ⟨w.heap.size + 1, 3, none⟩) (by go_size)).trans (by go_simp)
  have fd7 : w3.frozen? ⟨w.heap.size + 1, 3, none⟩ = false := (hb3.frozen (p := ⟨w.heap.size + 1, 3, none⟩) (by go_size)).trans (by go_simp)
  have zd8 : w.heap.size + 1 < w3.heap.size := Nat.lt_of_lt_of_le (by go_size) hb3.size
  have cd8 : w3.cell? ⟨w1.heap.size, 0, none⟩ = some (.int .i64 (Pl.mlo F G L H)) := (hb3.cell (p := ⟨w1.heap.size, 0, none⟩) (by go_size)).trans (by go_simp)
  have fd8 : w3.frozen? ⟨w1.heap.size, 0, none⟩ = false := (hb3.frozen (p := ⟨w1.heap.size, 0, none⟩) (by go_size)).trans (by go_simp)
  have cd9 : w3.cell? ⟨w1.heap.size, 1, none⟩ = some (.int .i64 (Pl.mhi F G L H)) := (hb3.cell (p := ⟨w1.heap.size, 1, none⟩) (by go_size)).trans (by go_simp)
  have fd9 : w3.frozen? ⟨w1.heap.size, 1, none⟩ = false := (hb3.frozen (p := ⟨w1.heap.size, 1, none⟩) (by go_size)).trans (by go_simp)
  have zd10 : w1.heap.size < w3.heap.size := Nat.lt_of_lt_of_le (by go_size) hb3.size
  have hwd : Below w.heap.size w w3 := Below.trans (by (repeat' (first | (with_reducible exact Below.refl _ _) | (with_reducible assumption) | (with_reducible refine Below.alloc ?_ ?_ _) | (with_reducible refine Below.drew ?_) | (with_reducible refine below_drewN ?_ _) | (with_reducible refine Below.setCell ?_ ?_ _) | go_size))) (hb3.mono (by go_size))
  have hsd : w.heap.size ≤ w3.heap.size := hwd.size
  clear cc0 fc0 cc1 fc1 cc2 fc2 cc3 fc3 zc4 cc4 fc4 cc5 fc5 cc6 fc6 cc7 fc7 zc8 cc8 fc8 cc9 fc9 zc10 hwc hsc
  skip
  go_wp2_with fail
  refine bodyPost_ret (v := .tuple #[.agg #[.bool true, .int .i64 a, .int .i64 b, .int .i64 z], .int .i64 16]) (by simp [results, Try.results54, go_sem, cd4, cd5, cd6, cd7]) rfl ⟨rfl, ?_⟩
  (repeat' (first | (with_reducible exact Below.refl _ _) | (with_reducible assumption) | (with_reducible refine Below.alloc ?_ ?_ _) | (with_reducible refine Below.drew ?_) | (with_reducible refine below_drewN ?_ _) | (with_reducible refine Below.setCell ?_ ?_ _) | go_size))

set_option maxRecDepth 20000 in
set_option maxHeartbeats 2000000 in
theorem smeet_ok10 (a b z t1 t2 t4 m : Int) (w : World) (g0 : ¬ t1 < 0) (g1 : ¬ t4 < t1) (g2 : ¬ 1099511627776 < t4) (g3 : ¬ t2 < -1125899906842624) (g4 : ¬ 1125899906842624 < t2) (g5 : ¬ t4 < z) (hz : Tm z) (he : Pl.emp (Pl.mlo (Pl.flo t1 t2 t4 m) (Pl.fhi t1 t2 t4 m) (Pl.olo true a b z t4 m) (Pl.ohi true a b z t4 m)) (Pl.mhi (Pl.flo t1 t2 t4 m) (Pl.fhi t1 t2 t4 m) (Pl.olo true a b z t4 m) (Pl.ohi true a b z t4 m)) = false) :
    Calls Try.prog 54 #[.agg #[.bool true, .int .i64 a, .int .i64 b, .int .i64 z], .int .i64 t1, .int .i64 t2, .int .i64 t4, .int .i64 m] w fun e w' => e = .returned (.tuple #[.agg #[.bool true, .int .i64 (Pl.mlo (Pl.flo t1 t2 t4 m) (Pl.fhi t1 t2 t4 m) (Pl.olo true a b z t4 m) (Pl.ohi true a b z t4 m)), .int .i64 (Pl.mhi (Pl.flo t1 t2 t4 m) (Pl.fhi t1 t2 t4 m) (Pl.olo true a b z t4 m) (Pl.ohi true a b z t4 m)), .int .i64 t4], .int .i64 0]) ∧ Below w.heap.size w w' := by
  have hfr := fun w => fresh_c t1 t2 t4 m w (show Tm t1 from ⟨by omega, by omega⟩) (show Tm t2 from ⟨by omega, by omega⟩) (show Tm t4 from ⟨by omega, by omega⟩)
  have HFR := Lib.hid hfr
  clear hfr
  have hon := fun w => on_c true a b z t4 m w ⟨by omega, by omega⟩ hz
  have HON := Lib.hid hon
  clear hon hz
  generalize Pl.flo t1 t2 t4 m = F at *
  generalize Pl.fhi t1 t2 t4 m = G at *
  generalize Pl.olo true a b z t4 m = L at *
  generalize Pl.ohi true a b z t4 m = H at *
  go_enter Try.func54, Try.ntmps54
  go_wp2_with fail
  refine (HFR.out _).mono ?_
  rintro e w1 ⟨rfl, hb1⟩
  have cb0 : w1.cell? ⟨w.heap.size, 0, none⟩ = some (.bool true) := (hb1.cell (p := ⟨w.heap.size, 0, none⟩) (by go_size)).trans (by go_simp)
  have fb0 : w1.frozen? ⟨w.heap.size, 0, none⟩ = false := (hb1.frozen (p := ⟨w.heap.size, 0, none⟩) (by go_size)).trans (by go_simp)
  have cb1 : w1.cell? ⟨w.heap.size, 1, none⟩ = some (.int .i64 a) := (hb1.cell (p := ⟨w.heap.size, 1, none⟩) (by go_size)).trans (by go_simp)
  have fb1 : w1.frozen? ⟨w.heap.size, 1, none⟩ = false := (hb1.frozen (p := ⟨w.heap.size, 1, none⟩) (by go_size)).trans (by go_simp)
  have cb2 : w1.cell? ⟨w.heap.size, 2, none⟩ = some (.int .i64 b) := (hb1.cell (p := ⟨w.heap.size, 2, none⟩) (by go_size)).trans (by go_simp)
  have fb2 : w1.frozen? ⟨w.heap.size, 2, none⟩ = false := (hb1.frozen (p := ⟨w.heap.size, 2, none⟩) (by go_size)).trans (by go_simp)
  have cb3 : w1.cell? ⟨w.heap.size, 3, none⟩ = some (.int .i64 z) := (hb1.cell (p := ⟨w.heap.size, 3, none⟩) (by go_size)).trans (by go_simp)
  have fb3 : w1.frozen? ⟨w.heap.size, 3, none⟩ = false := (hb1.frozen (p := ⟨w.heap.size, 3, none⟩) (by go_size)).trans (by go_simp)
  have zb4 : w.heap.size < w1.heap.size := Nat.lt_of_lt_of_le (by go_size) hb1.size
  have cb4 : w1.cell? ⟨w.heap.size + 1, 0, none⟩ = some (.bool false) := (hb1.cell (p := ⟨w.heap.size + 1, 0, none⟩) (by go_size)).trans (by go_simp)
  have fb4 : w1.frozen? ⟨w.heap.size + 1, 0, none⟩ = false := (hb1.frozen (p := ⟨w.heap.size + 1, 0, none⟩) (by go_size)).trans (by go_simp)
  have cb5 : w1.cell? ⟨w.heap.size + 1, 1, none⟩ = some (.int .i64 0) := (hb1.cell (p := ⟨w.heap.size + 1, 1, none⟩) (by go_size)).trans (by go_simp)
  have fb5 : w1.frozen? ⟨w.heap.size + 1, 1, none⟩ = false := (hb1.frozen (p := ⟨w.heap.size + 1, 1, none⟩) (by go_size)).trans (by go_simp)
  have cb6 : w1.cell? ⟨w.heap.size + 1, 2, none⟩ = some (.int .i64 0) := (hb1.cell (p := ⟨w.heap.size + 1, 2, none⟩) (by go_size)).trans (by go_simp)
  have fb6 : w1.frozen? ⟨w.heap.size + 1, 2, none⟩ = false := (hb1.frozen (p := ⟨w.heap.size + 1, 2, none⟩) (by go_size)).trans (by go_simp)
  have cb7 : w1.cell? ⟨w.heap.size + 1, 3, none⟩ = some (.int .i64 0) := (hb1.cell (p := ⟨w.heap.size + 1, 3, none⟩) (by go_size)).trans (by go_simp)
  have fb7 : w1.frozen? ⟨w.heap.size + 1, 3, none⟩ = false := (hb1.frozen (p := ⟨w.heap.size + 1, 3, none⟩) (by go_size)).trans (by go_simp)
  have zb8 : w.heap.size + 1 < w1.heap.size := Nat.lt_of_lt_of_le (by go_size) hb1.size
  have hwb : Below w.heap.size w w1 := Below.trans (by (repeat' (first | (with_reducible exact Below.refl _ _) | (with_reducible assumption) | (with_reducible refine Below.alloc ?_ ?_ _) | (with_reducible refine Below.drew ?_) | (with_reducible refine below_drewN ?_ _) | (with_reducible refine Below.setCell ?_ ?_ _) | go_size))) (hb1.mono (by go_size))
  have hsb : w.heap.size ≤ w1.heap.size := hwb.size
  have n0 : w.heap.size + 1 < w1.heap.size := Nat.lt_of_lt_of_le (by go_size) hb1.size
  have n1 : ¬ w1.heap.size = w.heap.size := by omega
  have n2 : ¬ w1.heap.size = w.heap.size + 1 := by omega
  have n3 : ¬ w.heap.size = w1.heap.size := by omega
  have n4 : ¬ w.heap.size + 1 = w1.heap.size := by omega
  have n5 : w.heap.size ≤ w1.heap.size := by omega
  go_wp2_with fail
  refine wp_region_kw 6 (by kernel_rfl) (by kernel_rfl) ?_
  simp only [List.take_succ_cons, List.take_zero, List.drop_succ_cons, List.drop_zero]
  repeat (quiet_step (((first | (go_at_call 58; exact KW.call (HON.out _)) | (go_at_call 16; exact KW.call (meet_c _ _ _ _ _))))))
  refine wpQuiet_nil ?_
  intro k2
  have cc0 : k2.val.cell? ⟨w.heap.size, 0, none⟩ = some (.bool true) := (k2.kp.cell (p := ⟨w.heap.size, 0, none⟩) (by go_size)).trans (by go_simp)
  have fc0 : k2.val.frozen? ⟨w.heap.size, 0, none⟩ = false := (k2.kp.frozen (p := ⟨w.heap.size, 0, none⟩) (by go_size)).trans (by go_simp)
  have cc1 : k2.val.cell? ⟨w.heap.size, 1, none⟩ = some (.int .i64 a) := (k2.kp.cell (p := ⟨w.heap.size, 1, none⟩) (by go_size)).trans (by go_simp)
  have fc1 : k2.val.frozen? ⟨w.heap.size, 1, none⟩ = false := (k2.kp.frozen (p := ⟨w.heap.size, 1, none⟩) (by go_size)).trans (by go_simp)
  have cc2 : k2.val.cell? ⟨w.heap.size, 2, none⟩ = some (.int .i64 b) := (k2.kp.cell (p := ⟨w.heap.size, 2, none⟩) (by go_size)).trans (by go_simp)
  have fc2 : k2.val.frozen? ⟨w.heap.size, 2, none⟩ = false := (k2.kp.frozen (p := ⟨w.heap.size, 2, none⟩) (by go_size)).trans (by go_simp)
  have cc3 : k2.val.cell? ⟨w.heap.size, 3, none⟩ = some (.int .i64 z) := (k2.kp.cell (p := ⟨w.heap.size, 3, none⟩) (by go_size)).trans (by go_simp)
  have fc3 : k2.val.frozen? ⟨w.heap.size, 3, none⟩ = false := (k2.kp.frozen (p := ⟨w.heap.size, 3, none⟩) (by go_size)).trans (by go_simp)
  have zc4 : w.heap.size < k2.val.heap.size := Nat.lt_of_lt_of_le (by go_size) k2.kp.size
  have cc4 : k2.val.cell? ⟨w.heap.size + 1, 0, none⟩ = some (.bool false) := (k2.kp.cell (p := ⟨w.heap.size + 1, 0, none⟩) (by go_size)).trans (by go_simp)
  have fc4 : k2.val.frozen? ⟨w.heap.size + 1, 0, none⟩ = false := (k2.kp.frozen (p := ⟨w.heap.size + 1, 0, none⟩) (by go_size)).trans (by go_simp)
  have cc5 : k2.val.cell? ⟨w.heap.size + 1, 1, none⟩ = some (.int .i64 0) := (k2.kp.cell (p := ⟨w.heap.size + 1, 1, none⟩) (by go_size)).trans (by go_simp)
  have fc5 : k2.val.frozen? ⟨w.heap.size + 1, 1, none⟩ = false := (k2.kp.frozen (p := ⟨w.heap.size + 1, 1, none⟩) (by go_size)).trans (by go_simp)
  have cc6 : k2.val.cell? ⟨w.heap.size + 1, 2, none⟩ = some (.int .i64 0) := (k2.kp.cell (p := ⟨w.heap.size + 1, 2, none⟩) (by go_size)).trans (by go_simp)
  have fc6 : k2.val.frozen? ⟨w.heap.size + 1, 2, none⟩ = false := (k2.kp.frozen (p := ⟨w.heap.size + 1, 2, none⟩) (by go_size)).trans (by go_simp)
  have cc7 : k2.val.cell? ⟨w.heap.size + 1, 3, none⟩ = some (.int .i64 0) := (k2.kp.cell (p := ⟨w.heap.size + 1, 3, none⟩) (by go_size)).trans (by go_simp)
  have fc7 : k2.val.frozen? ⟨w.heap.size + 1, 3, none⟩ = false := (k2.kp.frozen (p := ⟨w.heap.size + 1, 3, none⟩) (by go_size)).trans (by go_simp)
  have zc8 : w.heap.size + 1 < k2.val.heap.size := Nat.lt_of_lt_of_le (by go_size) k2.kp.size
  have cc8 : k2.val.cell? ⟨w1.heap.size, 0, none⟩ = some (.int .i64 F) := (k2.kp.cell (p := ⟨w1.heap.size, 0, none⟩) (by go_size)).trans (by go_simp)
  have fc8 : k2.val.frozen? ⟨w1.heap.size, 0, none⟩ = false := (k2.kp.frozen (p := ⟨w1.heap.size, 0, none⟩) (by go_size)).trans (by go_simp)
  have cc9 : k2.val.cell? ⟨w1.heap.size, 1, none⟩ = some (.int .i64 G) := (k2.kp.cell (p := ⟨w1.heap.size, 1, none⟩) (by go_size)).trans (by go_simp)
  have fc9 : k2.val.frozen? ⟨w1.heap.size, 1, none⟩ = false := (k2.kp.frozen (p := ⟨w1.heap.size, 1, none⟩) (by go_size)).trans (by go_simp)
  have zc10 : w1.heap.size < k2.val.heap.size := Nat.lt_of_lt_of_le (by go_size) k2.kp.size
  have hwc : Below w.heap.size w k2.val := Below.trans (by (repeat' (first | (with_reducible exact Below.refl _ _) | (with_reducible assumption) | (with_reducible refine Below.alloc ?_ ?_ _) | (with_reducible refine Below.drew ?_) | (with_reducible refine below_drewN ?_ _) | (with_reducible refine Below.setCell ?_ ?_ _) | go_size))) (k2.kp.mono (by go_size))
  have hsc : w.heap.size ≤ k2.val.heap.size := hwc.size
  clear cb0 fb0 cb1 fb1 cb2 fb2 cb3 fb3 zb4 cb4 fb4 cb5 fb5 cb6 fb6 cb7 fb7 zb8 hwb hsb hb1
  go_wp2_with fail
  refine (empty_c _ _ _).mono ?_
  rintro e w3 ⟨rfl, hb3⟩
  have cd0 : w3.cell? ⟨w.heap.size, 0, none⟩ = some (.bool true) := (hb3.cell (p := ⟨w.heap.size, 0, none⟩) (by go_size)).trans (by go_simp)
  have fd0 : w3.frozen? ⟨w.heap.size, 0, none⟩ = false := (hb3.frozen (p := ⟨w.heap.size, 0, none⟩) (by go_size)).trans (by go_simp)
  have cd1 : w3.cell? ⟨w.heap.size, 1, none⟩ = some (.int .i64 a) := (hb3.cell (p := ⟨w.heap.size, 1, none⟩) (by go_size)).trans (by go_simp)
  have fd1 : w3.frozen? ⟨w.heap.size, 1, none⟩ = false := (hb3.frozen (p := ⟨w.heap.size, 1, none⟩) (by go_size)).trans (by go_simp)
  have cd2 : w3.cell? ⟨w.heap.size, 2, none⟩ = some (.int .i64 b) := (hb3.cell (p := ⟨w.heap.size, 2, none⟩) (by go_size)).trans (by go_simp)
  have fd2 : w3.frozen? ⟨w.heap.size, 2, none⟩ = false := (hb3.frozen (p := ⟨w.heap.size, 2, none⟩) (by go_size)).trans (by go_simp)
  have cd3 : w3.cell? ⟨w.heap.size, 3, none⟩ = some (.int .i64 z) := (hb3.cell (p := ⟨w.heap.size, 3, none⟩) (by go_size)).trans (by go_simp)
  have fd3 : w3.frozen? ⟨w.heap.size, 3, none⟩ = false := (hb3.frozen (p := ⟨w.heap.size, 3, none⟩) (by go_size)).trans (by go_simp)
  have zd4 : w.heap.size < w3.heap.size := Nat.lt_of_lt_of_le (by go_size) hb3.size
  have cd4 : w3.cell? ⟨w.heap.size + 1, 0, none⟩ = some (.bool false) := (hb3.cell (p := ⟨w.heap.size + 1, 0, none⟩) (by go_size)).trans (by go_simp)
  have fd4 : w3.frozen? ⟨w.heap.size + 1, 0, none⟩ = false := (hb3.frozen (p := ⟨w.heap.size + 1, 0, none⟩) (by go_size)).trans (by go_simp)
  have cd5 : w3.cell? ⟨w.heap.size + 1, 1, none⟩ = some (.int .i64 0) := (hb3.cell (p := ⟨w.heap.size + 1, 1, none⟩) (by go_size)).trans (by go_simp)
  have fd5 : w3.frozen? ⟨w.heap.size + 1, 1, none⟩ = false := (hb3.frozen (p := ⟨w.heap.size + 1, 1, none⟩) (by go_size)).trans (by go_simp)
  have cd6 : w3.cell? ⟨w.heap.size + 1, 2, none⟩ = some (.int .i64 0) := (hb3.cell (p := ⟨w.heap.size + 1, 2, none⟩) (by go_size)).trans (by go_simp)
  have fd6 : w3.frozen? ⟨w.heap.size + 1, 2, none⟩ = false := (hb3.frozen (p := ⟨w.heap.size + 1, 2, none⟩) (by go_size)).trans (by go_simp)
  have cd7 : w3.cell? ⟨w.heap.size + 1, 3, none⟩ = some (.int .i64 0) := (hb3.cell (p := ⟨w.heap.size + 1, 3, none⟩) (by go_size)).trans (by go_simp)
  have fd7 : w3.frozen? ⟨w.heap.size + 1, 3, none⟩ = false := (hb3.frozen (p := ⟨w.heap.size + 1, 3, none⟩) (by go_size)).trans (by go_simp)
  have zd8 : w.heap.size + 1 < w3.heap.size := Nat.lt_of_lt_of_le (by go_size) hb3.size
  have cd8 : w3.cell? ⟨w1.heap.size, 0, none⟩ = some (.int .i64 (Pl.mlo F G L H)) := (hb3.cell (p := ⟨w1.heap.size, 0, none⟩) (by go_size)).trans (by go_simp)
  have fd8 : w3.frozen? ⟨w1.heap.size, 0, none⟩ = false := (hb3.frozen (p := ⟨w1.heap.size, 0, none⟩) (by go_size)).trans (by go_simp)
  have cd9 : w3.cell? ⟨w1.heap.size, 1, none⟩ = some (.int .i64 (Pl.mhi F G L H)) := (hb3.cell (p := ⟨w1.heap.size, 1, none⟩) (by go_size)).trans (by go_simp)
  have fd9 : w3.frozen? ⟨w1.heap.size, 1, none⟩ = false := (hb3.frozen (p := ⟨w1.heap.size, 1, none⟩) (by go_size)).trans (by go_simp)
  have zd10 : w1.heap.size < w3.heap.size := Nat.lt_of_lt_of_le (by go_size) hb3.size
  have hwd : Below w.heap.size w w3 := Below.trans (by (repeat' (first | (with_reducible exact Below.refl _ _) | (with_reducible assumption) | (with_reducible refine Below.alloc ?_ ?_ _) | (with_reducible refine Below.drew ?_) | (with_reducible refine below_drewN ?_ _) | (with_reducible refine Below.setCell ?_ ?_ _) | go_size))) (hb3.mono (by go_size))
  have hsd : w.heap.size ≤ w3.heap.size := hwd.size
  clear cc0 fc0 cc1 fc1 cc2 fc2 cc3 fc3 zc4 cc4 fc4 cc5 fc5 cc6 fc6 cc7 fc7 zc8 cc8 fc8 cc9 fc9 zc10 hwc hsc
  skip
  go_wp2_with fail
  refine bodyPost_ret (v := .tuple #[.agg #[.bool true, .int .i64 (Pl.mlo F G L H), .int .i64 (Pl.mhi F G L H), .int .i64 t4], .int .i64 0]) (by simp [results, Try.results54, go_sem, cd4, cd5, cd6, cd7]) rfl ⟨rfl, ?_⟩
  (repeat' (first | (with_reducible exact Below.refl _ _) | (with_reducible assumption) | (with_reducible refine Below.alloc ?_ ?_ _) | (with_reducible refine Below.drew ?_) | (with_reducible refine below_drewN ?_ _) | (with_reducible refine Below.setCell ?_ ?_ _) | go_size))

set_option maxRecDepth 20000 in
set_option maxHeartbeats 2000000 in
theorem rsmeet_ok01 (a b z t1 t2 t4 m : Int) (w : World) (g0 : ¬ t1 < 0) (g1 : ¬ t4 < t1) (g2 : ¬ 1099511627776 < t4) (g3 : ¬ 1125899906842624 < t2) (g4 : ¬ t2 < -1125899906842624) (he : Pl.emp ((Pl.flo t1 t2 t4 m)) ((Pl.fhi t1 t2 t4 m)) = true) :
    Calls Try.prog 56 #[.agg #[.bool false, .int .i64 a, .int .i64 b, .int .i64 z], .int .i64 t1, .int .i64 t2, .int .i64 t4, .int .i64 m] w fun e w' => e = .returned (.tuple #[.agg #[.bool false, .int .i64 a, .int .i64 b, .int .i64 z], .int .i64 16]) ∧ Below w.heap.size w w' := by
  have hfr := fun w => rfresh_c t1 t2 t4 m w (show Tm t1 from ⟨by omega, by omega⟩) (show Tm t2 from ⟨by omega, by omega⟩) (show Tm t4 from ⟨by omega, by omega⟩)
  have HFR := Lib.hid hfr
  clear hfr
  generalize Pl.flo t1 t2 t4 m = F at *
  generalize Pl.fhi t1 t2 t4 m = G at *
  go_enter Try.func56, Try.ntmps56
  go_wp2_with fail
  refine (HFR.out _).mono ?_
  rintro e w1 ⟨rfl, hb1⟩
  have cb0 : w1.cell? ⟨w.heap.size, 0, none⟩ = some (.bool false) := (hb1.cell (p := ⟨w.heap.size, 0, none⟩) (by go_size)).trans (by go_simp)
  have fb0 : w1.frozen? ⟨w.heap.size, 0, none⟩ = false := (hb1.frozen (p := ⟨w.heap.size, 0, none⟩) (by go_size)).trans (by go_simp)
  have cb1 : w1.cell? ⟨w.heap.size, 1, none⟩ = some (.int .i64 a) := (hb1.cell (p := ⟨w.heap.size, 1, none⟩) (by go_size)).trans (by go_simp)
  have fb1 : w1.frozen? ⟨w.heap.size, 1, none⟩ = false := (hb1.frozen (p := ⟨w.heap.size, 1, none⟩) (by go_size)).trans (by go_simp)
  have cb2 : w1.cell? ⟨w.heap.size, 2, none⟩ = some (.int .i64 b) := (hb1.cell (p := ⟨w.heap.size, 2, none⟩) (by go_size)).trans (by go_simp)
  have fb2 : w1.frozen? ⟨w.heap.size, 2, none⟩ = false := (hb1.frozen (p := ⟨w.heap.size, 2, none⟩) (by go_size)).trans (by go_simp)
  have cb3 : w1.cell? ⟨w.heap.size, 3, none⟩ = some (.int .i64 z) := (hb1.cell (p := ⟨w.heap.size, 3, none⟩) (by go_size)).trans (by go_simp)
  have fb3 : w1.frozen? ⟨w.heap.size, 3, none⟩ = false := (hb1.frozen (p := ⟨w.heap.size, 3, none⟩) (by go_size)).trans (by go_simp)
  have zb4 : w.heap.size < w1.heap.size := Nat.lt_of_lt_of_le (by go_size) hb1.size
  have cb4 : w1.cell? ⟨w.heap.size + 1, 0, none⟩ = some (.bool false) := (hb1.cell (p := ⟨w.heap.size + 1, 0, none⟩) (by go_size)).trans (by go_simp)
  have fb4 : w1.frozen? ⟨w.heap.size + 1, 0, none⟩ = false := (hb1.frozen (p := ⟨w.heap.size + 1, 0, none⟩) (by go_size)).trans (by go_simp)
  have cb5 : w1.cell? ⟨w.heap.size + 1, 1, none⟩ = some (.int .i64 0) := (hb1.cell (p := ⟨w.heap.size + 1, 1, none⟩) (by go_size)).trans (by go_simp)
  have fb5 : w1.frozen? ⟨w.heap.size + 1, 1, none⟩ = false := (hb1.frozen (p := ⟨w.heap.size + 1, 1, none⟩) (by go_size)).trans (by go_simp)
  have cb6 : w1.cell? ⟨w.heap.size + 1, 2, none⟩ = some (.int .i64 0) := (hb1.cell (p := ⟨w.heap.size + 1, 2, none⟩) (by go_size)).trans (by go_simp)
  have fb6 : w1.frozen? ⟨w.heap.size + 1, 2, none⟩ = false := (hb1.frozen (p := ⟨w.heap.size + 1, 2, none⟩) (by go_size)).trans (by go_simp)
  have cb7 : w1.cell? ⟨w.heap.size + 1, 3, none⟩ = some (.int .i64 0) := (hb1.cell (p := ⟨w.heap.size + 1, 3, none⟩) (by go_size)).trans (by go_simp)
  have fb7 : w1.frozen? ⟨w.heap.size + 1, 3, none⟩ = false := (hb1.frozen (p := ⟨w.heap.size + 1, 3, none⟩) (by go_size)).trans (by go_simp)
  have zb8 : w.heap.size + 1 < w1.heap.size := Nat.lt_of_lt_of_le (by go_size) hb1.size
  have hwb : Below w.heap.size w w1 := Below.trans (by (repeat' (first | (with_reducible exact Below.refl _ _) | (with_reducible assumption) | (with_reducible refine Below.alloc ?_ ?_ _) | (with_reducible refine Below.drew ?_) | (with_reducible refine below_drewN ?_ _) | (with_reducible refine Below.setCell ?_ ?_ _) | go_size))) (hb1.mono (by go_size))
  have hsb : w.heap.size ≤ w1.heap.size := hwb.size
  go_wp2_with fail
  refine (rempty_c _ _ _).mono ?_
  rintro e w2 ⟨rfl, hb2⟩
  have cc0 : w2.cell? ⟨w.heap.size, 0, none⟩ = some (.bool false) := (hb2.cell (p := ⟨w.heap.size, 0, none⟩) (by go_size)).trans (by go_simp)
  have fc0 : w2.frozen? ⟨w.heap.size, 0, none⟩ = false := (hb2.frozen (p := ⟨w.heap.size, 0, none⟩) (by go_size)).trans (by go_simp)
  have cc1 : w2.cell? ⟨w.heap.size, 1, none⟩ = some (.int .i64 a) := (hb2.cell (p := ⟨w.heap.size, 1, none⟩) (by go_size)).trans (by go_simp)
  have fc1 : w2.frozen? ⟨w.heap.size, 1, none⟩ = false := (hb2.frozen (p := ⟨w.heap.size, 1, none⟩) (by go_size)).trans (by go_simp)
  have cc2 : w2.cell? ⟨w.heap.size, 2, none⟩ = some (.int .i64 b) := (hb2.cell (p := ⟨w.heap.size, 2, none⟩) (by go_size)).trans (by go_simp)
  have fc2 : w2.frozen? ⟨w.heap.size, 2, none⟩ = false := (hb2.frozen (p := ⟨w.heap.size, 2, none⟩) (by go_size)).trans (by go_simp)
  have cc3 : w2.cell? ⟨w.heap.size, 3, none⟩ = some (.int .i64 z) := (hb2.cell (p := ⟨w.heap.size, 3, none⟩) (by go_size)).trans (by go_simp)
  have fc3 : w2.frozen? ⟨w.heap.size, 3, none⟩ = false := (hb2.frozen (p := ⟨w.heap.size, 3, none⟩) (by go_size)).trans (by go_simp)
  have zc4 : w.heap.size < w2.heap.size := Nat.lt_of_lt_of_le (by go_size) hb2.size
  have cc4 : w2.cell? ⟨w.heap.size + 1, 0, none⟩ = some (.bool false) := (hb2.cell (p := ⟨w.heap.size + 1, 0, none⟩) (by go_size)).trans (by go_simp)
  have fc4 : w2.frozen? ⟨w.heap.size + 1, 0, none⟩ = false := (hb2.frozen (p := ⟨w.heap.size + 1, 0, none⟩) (by go_size)).trans (by go_simp)
  have cc5 : w2.cell? ⟨w.heap.size + 1, 1, none⟩ = some (.int .i64 0) := (hb2.cell (p := ⟨w.heap.size + 1, 1, none⟩) (by go_size)).trans (by go_simp)
  have fc5 : w2.frozen? ⟨w.heap.size + 1, 1, none⟩ = false := (hb2.frozen (p := ⟨w.heap.size + 1, 1, none⟩) (by go_size)).trans (by go_simp)
  have cc6 : w2.cell? ⟨w.heap.size + 1, 2, none⟩ = some (.int .i64 0) := (hb2.cell (p := ⟨w.heap.size + 1, 2, none⟩) (by go_size)).trans (by go_simp)
  have fc6 : w2.frozen? ⟨w.heap.size + 1, 2, none⟩ = false := (hb2.frozen (p := ⟨w.heap.size + 1, 2, none⟩) (by go_size)).trans (by go_simp)
  have cc7 : w2.cell? ⟨w.heap.size + 1, 3, none⟩ = some (.int .i64 0) := (hb2.cell (p := ⟨w.heap.size + 1, 3, none⟩) (by go_size)).trans (by go_simp)
  have fc7 : w2.frozen? ⟨w.heap.size + 1, 3, none⟩ = false := (hb2.frozen (p := ⟨w.heap.size + 1, 3, none⟩) (by go_size)).trans (by go_simp)
  have zc8 : w.heap.size + 1 < w2.heap.size := Nat.lt_of_lt_of_le (by go_size) hb2.size
  have cc8 : w2.cell? ⟨w1.heap.size, 0, none⟩ = some (.int .i64 F) := (hb2.cell (p := ⟨w1.heap.size, 0, none⟩) (by go_size)).trans (by go_simp)
  have fc8 : w2.frozen? ⟨w1.heap.size, 0, none⟩ = false := (hb2.frozen (p := ⟨w1.heap.size, 0, none⟩) (by go_size)).trans (by go_simp)
  have cc9 : w2.cell? ⟨w1.heap.size, 1, none⟩ = some (.int .i64 G) := (hb2.cell (p := ⟨w1.heap.size, 1, none⟩) (by go_size)).trans (by go_simp)
  have fc9 : w2.frozen? ⟨w1.heap.size, 1, none⟩ = false := (hb2.frozen (p := ⟨w1.heap.size, 1, none⟩) (by go_size)).trans (by go_simp)
  have zc10 : w1.heap.size < w2.heap.size := Nat.lt_of_lt_of_le (by go_size) hb2.size
  have hwc : Below w.heap.size w w2 := Below.trans (by (repeat' (first | (with_reducible exact Below.refl _ _) | (with_reducible assumption) | (with_reducible refine Below.alloc ?_ ?_ _) | (with_reducible refine Below.drew ?_) | (with_reducible refine below_drewN ?_ _) | (with_reducible refine Below.setCell ?_ ?_ _) | go_size))) (hb2.mono (by go_size))
  have hsc : w.heap.size ≤ w2.heap.size := hwc.size
  clear cb0 fb0 cb1 fb1 cb2 fb2 cb3 fb3 zb4 cb4 fb4 cb5 fb5 cb6 fb6 cb7 fb7 zb8 hwb hsb hb1
  skip
  go_wp2_with fail
  refine bodyPost_ret (v := .tuple #[.agg #[.bool false, .int .i64 a, .int .i64 b, .int .i64 z], .int .i64 16]) (by simp [results, Try.results56, go_sem, cc4, cc5, cc6, cc7]) rfl ⟨rfl, ?_⟩
  (repeat' (first | (with_reducible exact Below.refl _ _) | (with_reducible assumption) | (with_reducible refine Below.alloc ?_ ?_ _) | (with_reducible refine Below.drew ?_) | (with_reducible refine below_drewN ?_ _) | (with_reducible refine Below.setCell ?_ ?_ _) | go_size))

set_option maxRecDepth 20000 in
set_option maxHeartbeats 2000000 in
theorem rsmeet_ok00 (a b z t1 t2 t4 m : Int) (w : World) (g0 : ¬ t1 < 0) (g1 : ¬ t4 < t1) (g2 : ¬ 1099511627776 < t4) (g3 : ¬ 1125899906842624 < t2) (g4 : ¬ t2 < -1125899906842624) (he : Pl.emp ((Pl.flo t1 t2 t4 m)) ((Pl.fhi t1 t2 t4 m)) = false) :
    Calls Try.prog 56 #[.agg #[.bool false, .int .i64 a, .int .i64 b, .int .i64 z], .int .i64 t1, .int .i64 t2, .int .i64 t4, .int .i64 m] w fun e w' => e = .returned (.tuple #[.agg #[.bool true, .int .i64 ((Pl.flo t1 t2 t4 m)), .int .i64 ((Pl.fhi t1 t2 t4 m)), .int .i64 t4], .int .i64 0]) ∧ Below w.heap.size w w' := by
  have hfr := fun w => rfresh_c t1 t2 t4 m w (show Tm t1 from ⟨by omega, by omega⟩) (show Tm t2 from ⟨by omega, by omega⟩) (show Tm t4 from ⟨by omega, by omega⟩)
  have HFR := Lib.hid hfr
  clear hfr
  generalize Pl.flo t1 t2 t4 m = F at *
  generalize Pl.fhi t1 t2 t4 m = G at *
  go_enter Try.func56, Try.ntmps56
  go_wp2_with fail
  refine (HFR.out _).mono ?_
  rintro e w1 ⟨rfl, hb1⟩
  have cb0 : w1.cell? ⟨w.heap.size, 0, none⟩ = some (.bool false) := (hb1.cell (p := ⟨w.heap.size, 0, none⟩) (by go_size)).trans (by go_simp)
  have fb0 : w1.frozen? ⟨w.heap.size, 0, none⟩ = false := (hb1.frozen (p := ⟨w.heap.size, 0, none⟩) (by go_size)).trans (by go_simp)
  have cb1 : w1.cell? ⟨w.heap.size, 1, none⟩ = some (.int .i64 a) := (hb1.cell (p := ⟨w.heap.size, 1, none⟩) (by go_size)).trans (by go_simp)
  have fb1 : w1.frozen? ⟨w.heap.size, 1, none⟩ = false := (hb1.frozen (p := ⟨w.heap.size, 1, none⟩) (by go_size)).trans (by go_simp)
  have cb2 : w1.cell? ⟨w.heap.size, 2, none⟩ = some (.int .i64 b) := (hb1.cell (p := ⟨w.heap.size, 2, none⟩) (by go_size)).trans (by go_simp)
  have fb2 : w1.frozen? ⟨w.heap.size, 2, none⟩ = false := (hb1.frozen (p := ⟨w.heap.size, 2, none⟩) (by go_size)).trans (by go_simp)
  have cb3 : w1.cell? ⟨w.heap.size, 3, none⟩ = some (.int .i64 z) := (hb1.cell (p := ⟨w.heap.size, 3, none⟩) (by go_size)).trans (by go_simp)
  have fb3 : w1.frozen? ⟨w.heap.size, 3, none⟩ = false := (hb1.frozen (p := ⟨w.heap.size, 3, none⟩) (by go_size)).trans (by go_simp)
  have zb4 : w.heap.size < w1.heap.size := Nat.lt_of_lt_of_le (by go_size) hb1.size
  have cb4 : w1.cell? ⟨w.heap.size + 1, 0, none⟩ = some (.bool false) := (hb1.cell (p := ⟨w.heap.size + 1, 0, none⟩) (by go_size)).trans (by go_simp)
  have fb4 : w1.frozen? ⟨w.heap.size + 1, 0, none⟩ = false := (hb1.frozen (p := ⟨w.heap.size + 1, 0, none⟩) (by go_size)).trans (by go_simp)
  have cb5 : w1.cell? ⟨w.heap.size + 1, 1, none⟩ = some (.int .i64 0) := (hb1.cell (p := ⟨w.heap.size + 1, 1, none⟩) (by go_size)).trans (by go_simp)
  have fb5 : w1.frozen? ⟨w.heap.size + 1, 1, none⟩ = false := (hb1.frozen (p := ⟨w.heap.size + 1, 1, none⟩) (by go_size)).trans (by go_simp)
  have cb6 : w1.cell? ⟨w.heap.size + 1, 2, none⟩ = some (.int .i64 0) := (hb1.cell (p := ⟨w.heap.size + 1, 2, none⟩) (by go_size)).trans (by go_simp)
  have fb6 : w1.frozen? ⟨w.heap.size + 1, 2, none⟩ = false := (hb1.frozen (p := ⟨w.heap.size + 1, 2, none⟩) (by go_size)).trans (by go_simp)
  have cb7 : w1.cell? ⟨w.heap.size + 1, 3, none⟩ = some (.int .i64 0) := (hb1.cell (p := ⟨w.heap.size + 1, 3, none⟩) (by go_size)).trans (by go_simp)
  have fb7 : w1.frozen? ⟨w.heap.size + 1, 3, none⟩ = false := (hb1.frozen (p := ⟨w.heap.size + 1, 3, none⟩) (by go_size)).trans (by go_simp)
  have zb8 : w.heap.size + 1 < w1.heap.size := Nat.lt_of_lt_of_le (by go_size) hb1.size
  have hwb : Below w.heap.size w w1 := Below.trans (by (repeat' (first | (with_reducible exact Below.refl _ _) | (with_reducible assumption) | (with_reducible refine Below.alloc ?_ ?_ _) | (with_reducible refine Below.drew ?_) | (with_reducible refine below_drewN ?_ _) | (with_reducible refine Below.setCell ?_ ?_ _) | go_size))) (hb1.mono (by go_size))
  have hsb : w.heap.size ≤ w1.heap.size := hwb.size
  go_wp2_with fail
  refine (rempty_c _ _ _).mono ?_
  rintro e w2 ⟨rfl, hb2⟩
  have cc0 : w2.cell? ⟨w.heap.size, 0, none⟩ = some (.bool false) := (hb2.cell (p := ⟨w.heap.size, 0, none⟩) (by go_size)).trans (by go_simp)
  have fc0 : w2.frozen? ⟨w.heap.size, 0, none⟩ = false := (hb2.frozen (p := ⟨w.heap.size, 0, none⟩) (by go_size)).trans (by go_simp)
  have cc1 : w2.cell? ⟨w.heap.size, 1, none⟩ = some (.int .i64 a) := (hb2.cell (p := ⟨w.heap.size, 1, none⟩) (by go_size)).trans (by go_simp)
  have fc1 : w2.frozen? ⟨w.heap.size, 1, none⟩ = false := (hb2.frozen (p := ⟨w.heap.size, 1, none⟩) (by go_size)).trans (by go_simp)
  have cc2 : w2.cell? ⟨w.heap.size, 2, none⟩ = some (.int .i64 b) := (hb2.cell (p := ⟨w.heap.size, 2, none⟩) (by go_size)).trans (by go_simp)
  have fc2 : w2.frozen? ⟨w.heap.size, 2, none⟩ = false := (hb2.frozen (p := ⟨w.heap.size, 2, none⟩) (by go_size)).trans (by go_simp)
  have cc3 : w2.cell? ⟨w.heap.size, 3, none⟩ = some (.int .i64 z) := (hb2.cell (p := ⟨w.heap.size, 3, none⟩) (by go_size)).trans (by go_simp)
  have fc3 : w2.frozen? ⟨w.heap.size, 3, none⟩ = false := (hb2.frozen (p := ⟨w.heap.size, 3, none⟩) (by go_size)).trans (by go_simp)
  have zc4 : w.heap.size < w2.heap.size := Nat.lt_of_lt_of_le (by go_size) hb2.size
  have cc4 : w2.cell? ⟨w.heap.size + 1, 0, none⟩ = some (.bool false) := (hb2.cell (p := ⟨w.heap.size + 1, 0, none⟩) (by go_size)).trans (by go_simp)
  have fc4 : w2.frozen? ⟨w.heap.size + 1, 0, none⟩ = false := (hb2.frozen (p := ⟨w.heap.size + 1, 0, none⟩) (by go_size)).trans (by go_simp)
  have cc5 : w2.cell? ⟨w.heap.size + 1, 1, none⟩ = some (.int .i64 0) := (hb2.cell (p := ⟨w.heap.size + 1, 1, none⟩) (by go_size)).trans (by go_simp)
  have fc5 : w2.frozen? ⟨w.heap.size + 1, 1, none⟩ = false := (hb2.frozen (p := ⟨w.heap.size + 1, 1, none⟩) (by go_size)).trans (by go_simp)
  have cc6 : w2.cell? ⟨w.heap.size + 1, 2, none⟩ = some (.int .i64 0) := (hb2.cell (p := ⟨w.heap.size + 1, 2, none⟩) (by go_size)).trans (by go_simp)
  have fc6 : w2.frozen? ⟨w.heap.size + 1, 2, none⟩ = false := (hb2.frozen (p := ⟨w.heap.size + 1, 2, none⟩) (by go_size)).trans (by go_simp)
  have cc7 : w2.cell? ⟨w.heap.size + 1, 3, none⟩ = some (.int .i64 0) := (hb2.cell (p := ⟨w.heap.size + 1, 3, none⟩) (by go_size)).trans (by go_simp)
  have fc7 : w2.frozen? ⟨w.heap.size + 1, 3, none⟩ = false := (hb2.frozen (p := ⟨w.heap.size + 1, 3, none⟩) (by go_size)).trans (by go_simp)
  have zc8 : w.heap.size + 1 < w2.heap.size := Nat.lt_of_lt_of_le (by go_size) hb2.size
  have cc8 : w2.cell? ⟨w1.heap.size, 0, none⟩ = some (.int .i64 F) := (hb2.cell (p := ⟨w1.heap.size, 0, none⟩) (by go_size)).trans (by go_simp)
  have fc8 : w2.frozen? ⟨w1.heap.size, 0, none⟩ = false := (hb2.frozen (p := ⟨w1.heap.size, 0, none⟩) (by go_size)).trans (by go_simp)
  have cc9 : w2.cell? ⟨w1.heap.size, 1, none⟩ = some (.int .i64 G) := (hb2.cell (p := ⟨w1.heap.size, 1, none⟩) (by go_size)).trans (by go_simp)
  have fc9 : w2.frozen? ⟨w1.heap.size, 1, none⟩ = false := (hb2.frozen (p := ⟨w1.heap.size, 1, none⟩) (by go_size)).trans (by go_simp)
  have zc10 : w1.heap.size < w2.heap.size := Nat.lt_of_lt_of_le (by go_size) hb2.size
  have hwc : Below w.heap.size w w2 := Below.trans (by (repeat' (first | (with_reducible exact Below.refl _ _) | (with_reducible assumption) | (with_reducible refine Below.alloc ?_ ?_ _) | (with_reducible refine Below.drew ?_) | (with_reducible refine below_drewN ?_ _) | (with_reducible refine Below.setCell ?_ ?_ _) | go_size))) (hb2.mono (by go_size))
  have hsc : w.heap.size ≤ w2.heap.size := hwc.size
  clear cb0 fb0 cb1 fb1 cb2 fb2 cb3 fb3 zb4 cb4 fb4 cb5 fb5 cb6 fb6 cb7 fb7 zb8 hwb hsb hb1
  skip
  go_wp2_with fail
  refine bodyPost_ret (v := .tuple #[.agg #[.bool true, .int .i64 F, .int .i64 G, .int .i64 t4], .int .i64 0]) (by simp [results, Try.results56, go_sem, cc4, cc5, cc6, cc7]) rfl ⟨rfl, ?_⟩
  (repeat' (first | (with_reducible exact Below.refl _ _) | (with_reducible assumption) | (with_reducible refine Below.alloc ?_ ?_ _) | (with_reducible refine Below.drew ?_) | (with_reducible refine below_drewN ?_ _) | (with_reducible refine Below.setCell ?_ ?_ _) | go_size))

set_option maxRecDepth 20000 in
set_option maxHeartbeats 2000000 in
theorem rsmeet_ok11 (a b z t1 t2 t4 m : Int) (w : World) (g0 : ¬ t1 < 0) (g1 : ¬ t4 < t1) (g2 : ¬ 1099511627776 < t4) (g3 : ¬ 1125899906842624 < t2) (g4 : ¬ t2 < -1125899906842624) (g5 : ¬ t4 < z) (hz : Tm z) (he : Pl.emp (Pl.mlo (Pl.olo true a b z t4 m) (Pl.ohi true a b z t4 m) (Pl.flo t1 t2 t4 m) (Pl.fhi t1 t2 t4 m)) (Pl.mhi (Pl.olo true a b z t4 m) (Pl.ohi true a b z t4 m) (Pl.flo t1 t2 t4 m) (Pl.fhi t1 t2 t4 m)) = true) :
    Calls Try.prog 56 #[.agg #[.bool true, .int .i64 a, .int .i64 b, .int .i64 z], .int .i64 t1, .int .i64 t2, .int .i64 t4, .int .i64 m] w fun e w' => e = .returned (.tuple #[.agg #[.bool true, .int .i64 a, .int .i64 b, .int .i64 z], .int .i64 16]) ∧ Below w.heap.size w w' := by
  have hfr := fun w => rfresh_c t1 t2 t4 m w (show Tm t1 from ⟨by omega, by omega⟩) (show Tm t2 from ⟨by omega, by omega⟩) (show Tm t4 from ⟨by omega, by omega⟩)
  have HFR := Lib.hid hfr
  clear hfr
  have hon := fun w => ron_c true a b z t4 m w ⟨by omega, by omega⟩ hz
  have HON := Lib.hid hon
  clear hon hz
  generalize Pl.flo t1 t2 t4 m = F at *
  generalize Pl.fhi t1 t2 t4 m = G at *
  generalize Pl.olo true a b z t4 m = L at *
  generalize Pl.ohi true a b z t4 m = H at *
  go_enter Try.func56, Try.ntmps56
  go_wp2_with fail
  refine (HFR.out _).mono ?_
  rintro e w1 ⟨rfl, hb1⟩
  have cb0 : w1.cell? ⟨w.heap.size, 0, none⟩ = some (.bool true) := (hb1.cell (p := ⟨w.heap.size, 0, none⟩) (by go_size)).trans (by go_simp)
  have fb0 : w1.frozen? ⟨w.heap.size, 0, none⟩ = false := (hb1.frozen (p := ⟨w.heap.size, 0, none⟩) (by go_size)).trans (by go_simp)
  have cb1 : w1.cell? ⟨w.heap.size, 1, none⟩ = some (.int .i64 a) := (hb1.cell (p := ⟨w.heap.size, 1, none⟩) (by go_size)).trans (by go_simp)
  have fb1 : w1.frozen? ⟨w.heap.size, 1, none⟩ = false := (hb1.frozen (p := ⟨w.heap.size, 1, none⟩) (by go_size)).trans (by go_simp)
  have cb2 : w1.cell? ⟨w.heap.size, 2, none⟩ = some (.int .i64 b) := (hb1.cell (p := ⟨w.heap.size, 2, none⟩) (by go_size)).trans (by go_simp)
  have fb2 : w1.frozen? ⟨w.heap.size, 2, none⟩ = false := (hb1.frozen (p := ⟨w.heap.size, 2, none⟩) (by go_size)).trans (by go_simp)
  have cb3 : w1.cell? ⟨w.heap.size, 3, none⟩ = some (.int .i64 z) := (hb1.cell (p := ⟨w.heap.size, 3, none⟩) (by go_size)).trans (by go_simp)
  have fb3 : w1.frozen? ⟨w.heap.size, 3, none⟩ = false := (hb1.frozen (p := ⟨w.heap.size, 3, none⟩) (by go_size)).trans (by go_simp)
  have zb4 : w.heap.size < w1.heap.size := Nat.lt_of_lt_of_le (by go_size) hb1.size
  have cb4 : w1.cell? ⟨w.heap.size + 1, 0, none⟩ = some (.bool false) := (hb1.cell (p := ⟨w.heap.size + 1, 0, none⟩) (by go_size)).trans (by go_simp)
  have fb4 : w1.frozen? ⟨w.heap.size + 1, 0, none⟩ = false := (hb1.frozen (p := ⟨w.heap.size + 1, 0, none⟩) (by go_size)).trans (by go_simp)
  have cb5 : w1.cell? ⟨w.heap.size + 1, 1, none⟩ = some (.int .i64 0) := (hb1.cell (p := ⟨w.heap.size + 1, 1, none⟩) (by go_size)).trans (by go_simp)
  have fb5 : w1.frozen? ⟨w.heap.size + 1, 1, none⟩ = false := (hb1.frozen (p := ⟨w.heap.size + 1, 1, none⟩) (by go_size)).trans (by go_simp)
  have cb6 : w1.cell? ⟨w.heap.size + 1, 2, none⟩ = some (.int .i64 0) := (hb1.cell (p := ⟨w.heap.size + 1, 2, none⟩) (by go_size)).trans (by go_simp)
  have fb6 : w1.frozen? ⟨w.heap.size + 1, 2, none⟩ = false := (hb1.frozen (p := ⟨w.heap.size + 1, 2, none⟩) (by go_size)).trans (by go_simp)
  have cb7 : w1.cell? ⟨w.heap.size + 1, 3, none⟩ = some (.int .i64 0) := (hb1.cell (p := ⟨w.heap.size + 1, 3, none⟩) (by go_size)).trans (by go_simp)
  have fb7 : w1.frozen? ⟨w.heap.size + 1, 3, none⟩ = false := (hb1.frozen (p := ⟨w.heap.size + 1, 3, none⟩) (by go_size)).trans (by go_simp)
  have zb8 : w.heap.size + 1 < w1.heap.size := Nat.lt_of_lt_of_le (by go_size) hb1.size
  have hwb : Below w.heap.size w w1 := Below.trans (by (repeat' (first | (with_reducible exact Below.refl _ _) | (with_reducible assumption) | (with_reducible refine Below.alloc ?_ ?_ _) | (with_reducible refine Below.drew ?_) | (with_reducible refine below_drewN ?_ _) | (with_reducible refine Below.setCell ?_ ?_ _) | go_size))) (hb1.mono (by go_size))
  have hsb : w.heap.size ≤ w1.heap.size := hwb.size
  have n0 : w.heap.size + 1 < w1.heap.size := Nat.lt_of_lt_of_le (by go_size) hb1.size
  have n1 : ¬ w1.heap.size = w.heap.size := by omega
  have n2 : ¬ w1.heap.size = w.heap.size + 1 := by omega
  have n3 : ¬ w.heap.size = w1.heap.size := by omega
  have n4 : ¬ w.heap.size + 1 = w1.heap.size := by omega
  have n5 : w.heap.size ≤ w1.heap.size := by omega
  go_wp2_with fail
  refine wp_region_kw 6 (by kernel_rfl) (by kernel_rfl) ?_
  simp only [List.take_succ_cons, List.take_zero, List.drop_succ_cons, List.drop_zero]
  repeat (quiet_step (((first | (go_at_call 59; exact KW.call (HON.out _)) | (go_at_call 42; exact KW.call (rmeet_c _ _ _ _ _))))))
  refine wpQuiet_nil ?_
  intro k2
  have cc0 : k2.val.cell? ⟨w.heap.size, 0, none⟩ = some (.bool true) := (k2.kp.cell (p := ⟨w.heap.size, 0, none⟩) (by go_size)).trans (by go_simp)
  have fc0 : k2.val.frozen? ⟨w.heap.size, 0, none⟩ = false := (k2.kp.frozen (p := ⟨w.heap.size, 0, none⟩) (by go_size)).trans (by go_simp)
  have cc1 : k2.val.cell? ⟨w.heap.size, 1, none⟩ = some (.int .i64 a) := (k2.kp.cell (p := ⟨w.heap.size, 1, none⟩) (by go_size)).trans (by go_simp)
  have fc1 : k2.val.frozen? ⟨w.heap.size, 1, none⟩ = false := (k2.kp.frozen (p := ⟨w.heap.size, 1, none⟩) (by go_size)).trans (by go_simp)
  have cc2 : k2.val.cell? ⟨w.heap.size, 2, none⟩ = some (.int .i64 b) := (k2.kp.cell (p := ⟨w.heap.size, 2, none⟩) (by go_size)).trans (by go_simp)
  have fc2 : k2.val.frozen? ⟨w.heap.size, 2, none⟩ = false := (k2.kp.frozen (p := ⟨w.heap.size, 2, none⟩) (by go_size)).trans (by go_simp)
  have cc3 : k2.val.cell? ⟨w.heap.size, 3, none⟩ = some (.int .i64 z) := (k2.kp.cell (p := ⟨w.heap.size, 3, none⟩) (by go_size)).trans (by go_simp)
  have fc3 : k2.val.frozen? ⟨w.heap.size, 3, none⟩ = false := (k2.kp.frozen (p := ⟨w.heap.size, 3, none⟩) (by go_size)).trans (by go_simp)
  have zc4 : w.heap.size < k2.val.heap.size := Nat.lt_of_lt_of_le (by go_size) k2.kp.size
  have cc4 : k2.val.cell? ⟨w.heap.size + 1, 0, none⟩ = some (.bool false) := (k2.kp.cell (p := ⟨w.heap.size + 1, 0, none⟩) (by go_size)).trans (by go_simp)
  have fc4 : k2.val.frozen? ⟨w.heap.size + 1, 0, none⟩ = false := (k2.kp.frozen (p := ⟨w.heap.size + 1, 0, none⟩) (by go_size)).trans (by go_simp)
  have cc5 : k2.val.cell? ⟨w.heap.size + 1, 1, none⟩ = some (.int .i64 0) := (k2.kp.cell (p := ⟨w.heap.size + 1, 1, none⟩) (by go_size)).trans (by go_simp)
  have fc5 : k2.val.frozen? ⟨w.heap.size + 1, 1, none⟩ = false := (k2.kp.frozen (p := ⟨w.heap.size + 1, 1, none⟩) (by go_size)).trans (by go_simp)
  have cc6 : k2.val.cell? ⟨w.heap.size + 1, 2, none⟩ = some (.int .i64 0) := (k2.kp.cell (p := ⟨w.heap.size + 1, 2, none⟩) (by go_size)).trans (by go_simp)
  have fc6 : k2.val.frozen? ⟨w.heap.size + 1, 2, none⟩ = false := (k2.kp.frozen (p := ⟨w.heap.size + 1, 2, none⟩) (by go_size)).trans (by go_simp)
  have cc7 : k2.val.cell? ⟨w.heap.size + 1, 3, none⟩ = some (.int .i64 0) := (k2.kp.cell (p := ⟨w.heap.size + 1, 3, none⟩) (by go_size)).trans (by go_simp)
  have fc7 : k2.val.frozen? ⟨w.heap.size + 1, 3, none⟩ = false := (k2.kp.frozen (p := ⟨w.heap.size + 1, 3, none⟩) (by go_size)).trans (by go_simp)
  have zc8 : w.heap.size + 1 < k2.val.heap.size := Nat.lt_of_lt_of_le (by go_size) k2.kp.size
  have cc8 : k2.val.cell? ⟨w1.heap.size, 0, none⟩ = some (.int .i64 F) := (k2.kp.cell (p := ⟨w1.heap.size, 0, none⟩) (by go_size)).trans (by go_simp)
  have fc8 : k2.val.frozen? ⟨w1.heap.size, 0, none⟩ = false := (k2.kp.frozen (p := ⟨w1.heap.size, 0, none⟩) (by go_size)).trans (by go_simp)
  have cc9 : k2.val.cell? ⟨w1.heap.size, 1, none⟩ = some (.int .i64 G) := (k2.kp.cell (p := ⟨w1.heap.size, 1, none⟩) (by go_size)).trans (by go_simp)
  have fc9 : k2.val.frozen? ⟨w1.heap.size, 1, none⟩ = false := (k2.kp.frozen (p := ⟨w1.heap.size, 1, none⟩) (by go_size)).trans (by go_simp)
  have zc10 : w1.heap.size < k2.val.heap.size := Nat.lt_of_lt_of_le (by go_size) k2.kp.size
  have hwc : Below w.heap.size w k2.val := Below.trans (by (repeat' (first | (with_reducible exact Below.refl _ _) | (with_reducible assumption) | (with_reducible refine Below.alloc ?_ ?_ _) | (with_reducible refine Below.drew ?_) | (with_reducible refine below_drewN ?_ _) | (with_reducible refine Below.setCell ?_ ?_ _) | go_size))) (k2.kp.mono (by go_size))
  have hsc : w.heap.size ≤ k2.val.heap.size := hwc.size
  clear cb0 fb0 cb1 fb1 cb2 fb2 cb3 fb3 zb4 cb4 fb4 cb5 fb5 cb6 fb6 cb7 fb7 zb8 hwb hsb hb1
  go_wp2_with fail
  refine (rempty_c _ _ _).mono ?_
  rintro e w3 ⟨rfl, hb3⟩
  have cd0 : w3.cell? ⟨w.heap.size, 0, none⟩ = some (.bool true) := (hb3.cell (p := ⟨w.heap.size, 0, none⟩) (by go_size)).trans (by go_simp)
  have fd0 : w3.frozen? ⟨w.heap.size, 0, none⟩ = false := (hb3.frozen (p := ⟨w.heap.size, 0, none⟩) (by go_size)).trans (by go_simp)
  have cd1 : w3.cell? ⟨w.heap.size, 1, none⟩ = some (.int .i64 a) := (hb3.cell (p := ⟨w.heap.size, 1, none⟩) (by go_size)).trans (by go_simp)
  have fd1 : w3.frozen? ⟨w.heap.size, 1, none⟩ = false := (hb3.frozen (p := ⟨w.heap.size, 1, none⟩) (by go_size)).trans (by go_simp)
  have cd2 : w3.cell? ⟨w.heap.size, 2, none⟩ = some (.int .i64 b) := (hb3.cell (p := ⟨w.heap.size, 2, none⟩) (by go_size)).trans (by go_simp)
  have fd2 : w3.frozen? ⟨w.heap.size, 2, none⟩ = false := (hb3.frozen (p := ⟨w.heap.size, 2, none⟩) (by go_size)).trans (by go_simp)
  have cd3 : w3.cell? ⟨w.heap.size, 3, none⟩ = some (.int .i64 z) := (hb3.cell (p := ⟨w.heap.size, 3, none⟩) (by go_size)).trans (by go_simp)
  have fd3 : w3.frozen? ⟨w.heap.size, 3, none⟩ = false := (hb3.frozen (p := ⟨w.heap.size, 3, none⟩) (by go_size)).trans (by go_simp)
  have zd4 : w.heap.size < w3.heap.size := Nat.lt_of_lt_of_le (by go_size) hb3.size
  have cd4 : w3.cell? ⟨w.heap.size + 1, 0, none⟩ = some (.bool false) := (hb3.cell (p := ⟨w.heap.size + 1, 0, none⟩) (by go_size)).trans (by go_simp)
  have fd4 : w3.frozen? ⟨w.heap.size + 1, 0, none⟩ = false := (hb3.frozen (p := ⟨w.heap.size + 1, 0, none⟩) (by go_size)).trans (by go_simp)
  have cd5 : w3.cell? ⟨w.heap.size + 1, 1, none⟩ = some (.int .i64 0) := (hb3.cell (p := ⟨w.heap.size + 1, 1, none⟩) (by go_size)).trans (by go_simp)
  have fd5 : w3.frozen? ⟨w.heap.size + 1, 1, none⟩ = false := (hb3.frozen (p := ⟨w.heap.size + 1, 1, none⟩) (by go_size)).trans (by go_simp)
  have cd6 : w3.cell? ⟨w.heap.size + 1, 2, none⟩ = some (.int .i64 0) := (hb3.cell (p := ⟨w.heap.size + 1, 2, none⟩) (by go_size)).trans (by go_simp)
  have fd6 : w3.frozen? ⟨w.heap.size + 1, 2, none⟩ = false := (hb3.frozen (p := ⟨w.heap.size + 1, 2, none⟩) (by go_size)).trans (by go_simp)
  have cd7 : w3.cell? ⟨w.heap.size + 1, 3, none⟩ = some (.int .i64 0) := (hb3.cell (p := ⟨w.heap.size + 1, 3, none⟩) (by go_size)).trans (by go_simp)
  have fd7 : w3.frozen? ⟨w.heap.size + 1, 3, none⟩ = false := (hb3.frozen (p := ⟨w.heap.size + 1, 3, none⟩) (by go_size)).trans (by go_simp)
  have zd8 : w.heap.size + 1 < w3.heap.size := Nat.lt_of_lt_of_le (by go_size) hb3.size
  have cd8 : w3.cell? ⟨w1.heap.size, 0, none⟩ = some (.int .i64 (Pl.mlo L H F G)) := (hb3.cell (p := ⟨w1.heap.size, 0, none⟩) (by go_size)).trans (by go_simp)
  have fd8 : w3.frozen? ⟨w1.heap.size, 0, none⟩ = false := (hb3.frozen (p := ⟨w1.heap.size, 0, none⟩) (by go_size)).trans (by go_simp)
  have cd9 : w3.cell? ⟨w1.heap.size, 1, none⟩ = some (.int .i64 (Pl.mhi L H F G)) := (hb3.cell (p := ⟨w1.heap.size, 1, none⟩) (by go_size)).trans (by go_simp)
  have fd9 : w3.frozen? ⟨w1.heap.size, 1, none⟩ = false := (hb3.frozen (p := ⟨w1.heap.size, 1, none⟩) (by go_size)).trans (by go_simp)
  have zd10 : w1.heap.size < w3.heap.size := Nat.lt_of_lt_of_le (by go_size) hb3.size
  have hwd : Below w.heap.size w w3 := Below.trans (by (repeat' (first | (with_reducible exact Below.refl _ _) | (with_reducible assumption) | (with_reducible refine Below.alloc ?_ ?_ _) | (with_reducible refine Below.drew ?_) | (with_reducible refine below_drewN ?_ _) | (with_reducible refine Below.setCell ?_ ?_ _) | go_size))) (hb3.mono (by go_size))
  have hsd : w.heap.size ≤ w3.heap.size := hwd.size
  clear cc0 fc0 cc1 fc1 cc2 fc2 cc3 fc3 zc4 cc4 fc4 cc5 fc5 cc6 fc6 cc7 fc7 zc8 cc8 fc8 cc9 fc9 zc10 hwc hsc
  skip
  go_wp2_with fail
  refine bodyPost_ret (v := .tuple #[.agg #[.bool true, .int .i64 a, .int .i64 b, .int .i64 z], .int .i64 16]) (by simp [results, Try.results56, go_sem, cd4, cd5, cd6, cd7]) rfl ⟨rfl, ?_⟩
  (repeat' (first | (with_reducible exact Below.refl _ _) | (with_reducible assumption) | (with_reducible refine Below.alloc ?_ ?_ _) | (with_reducible refine Below.drew ?_) | (with_reducible refine below_drewN ?_ _) | (with_reducible refine Below.setCell ?_ ?_ _) | go_size))

set_option maxRecDepth 20000 in
set_option maxHeartbeats 2000000 in
theorem rsmeet_ok10 (a b z t1 t2 t4 m : Int) (w : World) (g0 : ¬ t1 < 0) (g1 : ¬ t4 < t1) (g2 : ¬ 1099511627776 < t4) (g3 : ¬ 1125899906842624 < t2) (g4 : ¬ t2 < -1125899906842624) (g5 : ¬ t4 < z) (hz : Tm z) (he : Pl.emp (Pl.mlo (Pl.olo true a b z t4 m) (Pl.ohi true a b z t4 m) (Pl.flo t1 t2 t4 m) (Pl.fhi t1 t2 t4 m)) (Pl.mhi (Pl.olo true a b z t4 m) (Pl.ohi true a b z t4 m) (Pl.flo t1 t2 t4 m) (Pl.fhi t1 t2 t4 m)) = false) :
    Calls Try.prog 56 #[.agg #[.bool true, .int .i64 a, .int .i64 b, .int .i64 z], .int .i64 t1, .int .i64 t2, .int .i64 t4, .int .i64 m] w fun e w' => e = .returned (.tuple #[.agg #[.bool true, .int .i64 (Pl.mlo (Pl.olo true a b z t4 m) (Pl.ohi true a b z t4 m) (Pl.flo t1 t2 t4 m) (Pl.fhi t1 t2 t4 m)), .int .i64 (Pl.mhi (Pl.olo true a b z t4 m) (Pl.ohi true a b z t4 m) (Pl.flo t1 t2 t4 m) (Pl.fhi t1 t2 t4 m)), .int .i64 t4], .int .i64 0]) ∧ Below w.heap.size w w' := by
  have hfr := fun w => rfresh_c t1 t2 t4 m w (show Tm t1 from ⟨by omega, by omega⟩) (show Tm t2 from ⟨by omega, by omega⟩) (show Tm t4 from ⟨by omega, by omega⟩)
  have HFR := Lib.hid hfr
  clear hfr
  have hon := fun w => ron_c true a b z t4 m w ⟨by omega, by omega⟩ hz
  have HON := Lib.hid hon
  clear hon hz
  generalize Pl.flo t1 t2 t4 m = F at *
  generalize Pl.fhi t1 t2 t4 m = G at *
  generalize Pl.olo true a b z t4 m = L at *
  generalize Pl.ohi true a b z t4 m = H at *
  go_enter Try.func56, Try.ntmps56
  go_wp2_with fail
  refine (HFR.out _).mono ?_
  rintro e w1 ⟨rfl, hb1⟩
  have cb0 : w1.cell? ⟨w.heap.size, 0, none⟩ = some (.bool true) := (hb1.cell (p := ⟨w.heap.size, 0, none⟩) (by go_size)).trans (by go_simp)
  have fb0 : w1.frozen? ⟨w.heap.size, 0, none⟩ = false := (hb1.frozen (p := ⟨w.heap.size, 0, none⟩) (by go_size)).trans (by go_simp)
  have cb1 : w1.cell? ⟨w.heap.size, 1, none⟩ = some (.int .i64 a) := (hb1.cell (p := ⟨w.heap.size, 1, none⟩) (by go_size)).trans (by go_simp)
  have fb1 : w1.frozen? ⟨w.heap.size, 1, none⟩ = false := (hb1.frozen (p := ⟨w.heap.size, 1, none⟩) (by go_size)).trans (by go_simp)
  have cb2 : w1.cell? ⟨w.heap.size, 2, none⟩ = some (.int .i64 b) := (hb1.cell (p := ⟨w.heap.size, 2, none⟩) (by go_size)).trans (by go_simp)
  have fb2 : w1.frozen? ⟨w.heap.size, 2, none⟩ = false := (hb1.frozen (p := ⟨w.heap.size, 2, none⟩) (by go_size)).trans (by go_simp)
  have cb3 : w1.cell? ⟨w.heap.size, 3, none⟩ = some (.int .i64 z) := (hb1.cell (p := ⟨w.heap.size, 3, none⟩) (by go_size)).trans (by go_simp)
  have fb3 : w1.frozen? ⟨w.heap.size, 3, none⟩ = false := (hb1.frozen (p := ⟨w.heap.size, 3, none⟩) (by go_size)).trans (by go_simp)
  have zb4 : w.heap.size < w1.heap.size := Nat.lt_of_lt_of_le (by go_size) hb1.size
  have cb4 : w1.cell? ⟨w.heap.size + 1, 0, none⟩ = some (.bool false) := (hb1.cell (p := ⟨w.heap.size + 1, 0, none⟩) (by go_size)).trans (by go_simp)
  have fb4 : w1.frozen? ⟨w.heap.size + 1, 0, none⟩ = false := (hb1.frozen (p := ⟨w.heap.size + 1, 0, none⟩) (by go_size)).trans (by go_simp)
  have cb5 : w1.cell? ⟨w.heap.size + 1, 1, none⟩ = some (.int .i64 0) := (hb1.cell (p := ⟨w.heap.size + 1, 1, none⟩) (by go_size)).trans (by go_simp)
  have fb5 : w1.frozen? ⟨w.heap.size + 1, 1, none⟩ = false := (hb1.frozen (p := ⟨w.heap.size + 1, 1, none⟩) (by go_size)).trans (by go_simp)
  have cb6 : w1.cell? ⟨w.heap.size + 1, 2, none⟩ = some (.int .i64 0) := (hb1.cell (p := ⟨w.heap.size + 1, 2, none⟩) (by go_size)).trans (by go_simp)
  have fb6 : w1.frozen? ⟨w.heap.size + 1, 2, none⟩ = false := (hb1.frozen (p := ⟨w.heap.size + 1, 2, none⟩) (by go_size)).trans (by go_simp)
  have cb7 : w1.cell? ⟨w.heap.size + 1, 3, none⟩ = some (.int .i64 0) := (hb1.cell (p := ⟨w.heap.size + 1, 3, none⟩) (by go_size)).trans (by go_simp)
  have fb7 : w1.frozen? ⟨w.heap.size + 1, 3, none⟩ = false := (hb1.frozen (p := ⟨w.heap.size + 1, 3, none⟩) (by go_size)).trans (by go_simp)
  have zb8 : w.heap.size + 1 < w1.heap.size := Nat.lt_of_lt_of_le (by go_size) hb1.size
  have hwb : Below w.heap.size w w1 := Below.trans (by (repeat' (first | (with_reducible exact Below.refl _ _) | (with_reducible assumption) | (with_reducible refine Below.alloc ?_ ?_ _) | (with_reducible refine Below.drew ?_) | (with_reducible refine below_drewN ?_ _) | (with_reducible refine Below.setCell ?_ ?_ _) | go_size))) (hb1.mono (by go_size))
  have hsb : w.heap.size ≤ w1.heap.size := hwb.size
  have n0 : w.heap.size + 1 < w1.heap.size := Nat.lt_of_lt_of_le (by go_size) hb1.size
  have n1 : ¬ w1.heap.size = w.heap.size := by omega
  have n2 : ¬ w1.heap.size = w.heap.size + 1 := by omega
  have n3 : ¬ w.heap.size = w1.heap.size := by omega
  have n4 : ¬ w.heap.size + 1 = w1.heap.size := by omega
  have n5 : w.heap.size ≤ w1.heap.size := by omega
  go_wp2_with fail
  refine wp_region_kw 6 (by kernel_rfl) (by kernel_rfl) ?_
  simp only [List.take_succ_cons, List.take_zero, List.drop_succ_cons, List.drop_zero]
  repeat (quiet_step (((first | (go_at_call 59; exact KW.call (HON.out _)) | (go_at_call 42; exact KW.call (rmeet_c _ _ _ _ _))))))
  refine wpQuiet_nil ?_
  intro k2
  have cc0 : k2.val.cell? ⟨w.heap.size, 0, none⟩ = some (.bool true) := (k2.kp.cell (p := ⟨w.heap.size, 0, none⟩) (by go_size)).trans (by go_simp)
  have fc0 : k2.val.frozen? ⟨w.heap.size, 0, none⟩ = false := (k2.kp.frozen (p := ⟨w.heap.size, 0, none⟩) (by go_size)).trans (by go_simp)
  have cc1 : k2.val.cell? ⟨w.heap.size, 1, none⟩ = some (.int .i64 a) := (k2.kp.cell (p := ⟨w.heap.size, 1, none⟩) (by go_size)).trans (by go_simp)
  have fc1 : k2.val.frozen? ⟨w.heap.size, 1, none⟩ = false := (k2.kp.frozen (p := ⟨w.heap.size, 1, none⟩) (by go_size)).trans (by go_simp)
  have cc2 : k2.val.cell? ⟨w.heap.size, 2, none⟩ = some (.int .i64 b) := (k2.kp.cell (p := ⟨w.heap.size, 2, none⟩) (by go_size)).trans (by go_simp)
  have fc2 : k2.val.frozen? ⟨w.heap.size, 2, none⟩ = false := (k2.kp.frozen (p := ⟨w.heap.size, 2, none⟩) (by go_size)).trans (by go_simp)
  have cc3 : k2.val.cell? ⟨w.heap.size, 3, none⟩ = some (.int .i64 z) := (k2.kp.cell (p := ⟨w.heap.size, 3, none⟩) (by go_size)).trans (by go_simp)
  have fc3 : k2.val.frozen? ⟨w.heap.size, 3, none⟩ = false := (k2.kp.frozen (p := ⟨w.heap.size, 3, none⟩) (by go_size)).trans (by go_simp)
  have zc4 : w.heap.size < k2.val.heap.size := Nat.lt_of_lt_of_le (by go_size) k2.kp.size
  have cc4 : k2.val.cell? ⟨w.heap.size + 1, 0, none⟩ = some (.bool false) := (k2.kp.cell (p := ⟨w.heap.size + 1, 0, none⟩) (by go_size)).trans (by go_simp)
  have fc4 : k2.val.frozen? ⟨w.heap.size + 1, 0, none⟩ = false := (k2.kp.frozen (p := ⟨w.heap.size + 1, 0, none⟩) (by go_size)).trans (by go_simp)
  have cc5 : k2.val.cell? ⟨w.heap.size + 1, 1, none⟩ = some (.int .i64 0) := (k2.kp.cell (p := ⟨w.heap.size + 1, 1, none⟩) (by go_size)).trans (by go_simp)
  have fc5 : k2.val.frozen? ⟨w.heap.size + 1, 1, none⟩ = false := (k2.kp.frozen (p := ⟨w.heap.size + 1, 1, none⟩) (by go_size)).trans (by go_simp)
  have cc6 : k2.val.cell? ⟨w.heap.size + 1, 2, none⟩ = some (.int .i64 0) := (k2.kp.cell (p := ⟨w.heap.size + 1, 2, none⟩) (by go_size)).trans (by go_simp)
  have fc6 : k2.val.frozen? ⟨w.heap.size + 1, 2, none⟩ = false := (k2.kp.frozen (p := ⟨w.heap.size + 1, 2, none⟩) (by go_size)).trans (by go_simp)
  have cc7 : k2.val.cell? ⟨w.heap.size + 1, 3, none⟩ = some (.int .i64 0) := (k2.kp.cell (p := ⟨w.heap.size + 1, 3, none⟩) (by go_size)).trans (by go_simp)
  have fc7 : k2.val.frozen? ⟨w.heap.size + 1, 3, none⟩ = false := (k2.kp.frozen (p := ⟨w.heap.size + 1, 3, none⟩) (by go_size)).trans (by go_simp)
  have zc8 : w.heap.size + 1 < k2.val.heap.size := Nat.lt_of_lt_of_le (by go_size) k2.kp.size
  have cc8 : k2.val.cell? ⟨w1.heap.size, 0, none⟩ = some (.int .i64 F) := (k2.kp.cell (p := ⟨w1.heap.size, 0, none⟩) (by go_size)).trans (by go_simp)
  have fc8 : k2.val.frozen? ⟨w1.heap.size, 0, none⟩ = false := (k2.kp.frozen (p := ⟨w1.heap.size, 0, none⟩) (by go_size)).trans (by go_simp)
  have cc9 : k2.val.cell? ⟨w1.heap.size, 1, none⟩ = some (.int .i64 G) := (k2.kp.cell (p := ⟨w1.heap.size, 1, none⟩) (by go_size)).trans (by go_simp)
  have fc9 : k2.val.frozen? ⟨w1.heap.size, 1, none⟩ = false := (k2.kp.frozen (p := ⟨w1.heap.size, 1, none⟩) (by go_size)).trans (by go_simp)
  have zc10 : w1.heap.size < k2.val.heap.size := Nat.lt_of_lt_of_le (by go_size) k2.kp.size
  have hwc : Below w.heap.size w k2.val := Below.trans (by (repeat' (first | (with_reducible exact Below.refl _ _) | (with_reducible assumption) | (with_reducible refine Below.alloc ?_ ?_ _) | (with_reducible refine Below.drew ?_) | (with_reducible refine below_drewN ?_ _) | (with_reducible refine Below.setCell ?_ ?_ _) | go_size))) (k2.kp.mono (by go_size))
  have hsc : w.heap.size ≤ k2.val.heap.size := hwc.size
  clear cb0 fb0 cb1 fb1 cb2 fb2 cb3 fb3 zb4 cb4 fb4 cb5 fb5 cb6 fb6 cb7 fb7 zb8 hwb hsb hb1
  go_wp2_with fail
  refine (rempty_c _ _ _).mono ?_
  rintro e w3 ⟨rfl, hb3⟩
  have cd0 : w3.cell? ⟨w.heap.size, 0, none⟩ = some (.bool true) := (hb3.cell (p := ⟨w.heap.size, 0, none⟩) (by go_size)).trans (by go_simp)
  have fd0 : w3.frozen? ⟨w.heap.size, 0, none⟩ = false := (hb3.frozen (p := ⟨w.heap.size, 0, none⟩) (by go_size)).trans (by go_simp)
  have cd1 : w3.cell? ⟨w.heap.size, 1, none⟩ = some (.int .i64 a) := (hb3.cell (p := ⟨w.heap.size, 1, none⟩) (by go_size)).trans (by go_simp)
  have fd1 : w3.frozen? ⟨w.heap.size, 1, none⟩ = false := (hb3.frozen (p := ⟨w.heap.size, 1, none⟩) (by go_size)).trans (by go_simp)
  have cd2 : w3.cell? ⟨w.heap.size, 2, none⟩ = some (.int .i64 b) := (hb3.cell (p := ⟨w.heap.size, 2, none⟩) (by go_size)).trans (by go_simp)
  have fd2 : w3.frozen? ⟨w.heap.size, 2, none⟩ = false := (hb3.frozen (p := ⟨w.heap.size, 2, none⟩) (by go_size)).trans (by go_simp)
  have cd3 : w3.cell? ⟨w.heap.size, 3, none⟩ = some (.int .i64 z) := (hb3.cell (p := ⟨w.heap.size, 3, none⟩) (by go_size)).trans (by go_simp)
  have fd3 : w3.frozen? ⟨w.heap.size, 3, none⟩ = false := (hb3.frozen (p := ⟨w.heap.size, 3, none⟩) (by go_size)).trans (by go_simp)
  have zd4 : w.heap.size < w3.heap.size := Nat.lt_of_lt_of_le (by go_size) hb3.size
  have cd4 : w3.cell? ⟨w.heap.size + 1, 0, none⟩ = some (.bool false) := (hb3.cell (p := ⟨w.heap.size + 1, 0, none⟩) (by go_size)).trans (by go_simp)
  have fd4 : w3.frozen? ⟨w.heap.size + 1, 0, none⟩ = false := (hb3.frozen (p := ⟨w.heap.size + 1, 0, none⟩) (by go_size)).trans (by go_simp)
  have cd5 : w3.cell? ⟨w.heap.size + 1, 1, none⟩ = some (.int .i64 0) := (hb3.cell (p := ⟨w.heap.size + 1, 1, none⟩) (by go_size)).trans (by go_simp)
  have fd5 : w3.frozen? ⟨w.heap.size + 1, 1, none⟩ = false := (hb3.frozen (p := ⟨w.heap.size + 1, 1, none⟩) (by go_size)).trans (by go_simp)
  have cd6 : w3.cell? ⟨w.heap.size + 1, 2, none⟩ = some (.int .i64 0) := (hb3.cell (p := ⟨w.heap.size + 1, 2, none⟩) (by go_size)).trans (by go_simp)
  have fd6 : w3.frozen? ⟨w.heap.size + 1, 2, none⟩ = false := (hb3.frozen (p := ⟨w.heap.size + 1, 2, none⟩) (by go_size)).trans (by go_simp)
  have cd7 : w3.cell? ⟨w.heap.size + 1, 3, none⟩ = some (.int .i64 0) := (hb3.cell (p := ⟨w.heap.size + 1, 3, none⟩) (by go_size)).trans (by go_simp)
  have fd7 : w3.frozen? ⟨w.heap.size + 1, 3, none⟩ = false := (hb3.frozen (p := ⟨w.heap.size + 1, 3, none⟩) (by go_size)).trans (by go_simp)
  have zd8 : w.heap.size + 1 < w3.heap.size := Nat.lt_of_lt_of_le (by go_size) hb3.size
  have cd8 : w3.cell? ⟨w1.heap.size, 0, none⟩ = some (.int .i64 (Pl.mlo L H F G)) := (hb3.cell (p := ⟨w1.heap.size, 0, none⟩) (by go_size)).trans (by go_simp)
  have fd8 : w3.frozen? ⟨w1.heap.size, 0, none⟩ = false := (hb3.frozen (p := ⟨w1.heap.size, 0, none⟩) (by go_size)).trans (by go_simp)
  have cd9 : w3.cell? ⟨w1.heap.size, 1, none⟩ = some (.int .i64 (Pl.mhi L H F G)) := (hb3.cell (p := ⟨w1.heap.size, 1, none⟩) (by go_size)).trans (by go_simp)
  have fd9 : w3.frozen? ⟨w1.heap.size, 1, none⟩ = false := (hb3.frozen (p := ⟨w1.heap.size, 1, none⟩) (by go_size)).trans (by go_simp)
  have zd10 : w1.heap.size < w3.heap.size := Nat.lt_of_lt_of_le (by go_size) hb3.size
  have hwd : Below w.heap.size w w3 := Below.trans (by (repeat' (first | (with_reducible exact Below.refl _ _) | (with_reducible assumption) | (with_reducible refine Below.alloc ?_ ?_ _) | (with_reducible refine Below.drew ?_) | (with_reducible refine below_drewN ?_ _) | (with_reducible refine Below.setCell ?_ ?_ _) | go_size))) (hb3.mono (by go_size))
  have hsd : w.heap.size ≤ w3.heap.size := hwd.size
  clear cc0 fc0 cc1 fc1 cc2 fc2 cc3 fc3 zc4 cc4 fc4 cc5 fc5 cc6 fc6 cc7 fc7 zc8 cc8 fc8 cc9 fc9 zc10 hwc hsc
  skip
  go_wp2_with fail
  refine bodyPost_ret (v := .tuple #[.agg #[.bool true, .int .i64 (Pl.mlo L H F G), .int .i64 (Pl.mhi L H F G), .int .i64 t4], .int .i64 0]) (by simp [results, Try.results56, go_sem, cd4, cd5, cd6, cd7]) rfl ⟨rfl, ?_⟩
  (repeat' (first | (with_reducible exact Below.refl _ _) | (with_reducible assumption) | (with_reducible refine Below.alloc ?_ ?_ _) | (with_reducible refine Below.drew ?_) | (with_reducible refine below_drewN ?_ _) | (with_reducible refine Below.setCell ?_ ?_ _) | go_size))

end Go.Proofs.Ytgpeekmagckgcaa
