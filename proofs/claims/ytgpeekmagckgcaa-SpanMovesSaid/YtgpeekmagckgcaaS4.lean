/- What is proved here: the walk of SpanMoves. -/
import Derived.Test.YtgpeekmagckgcaaSy
import Derived.Test.YtgpeekmagckgcaaPm
import Derived.Test.YtgpeekmagckgcaaSa
namespace Go.Proofs.Ytgpeekmagckgcaa
open Go Go.RowKit
attribute [local go_sem] KW.cell KW.frozen
attribute [local go_sem ↓] eql24

set_option maxHeartbeats 2000000 in
theorem law4_no (a b x y z : Int) (w : World) (hbad : x < -1125899906842624 ∨ (¬ x < -1125899906842624 ∧ (1125899906842624 < x ∨ (¬ 1125899906842624 < x ∧ (y < -1125899906842624 ∨ (¬ y < -1125899906842624 ∧ (1125899906842624 < y ∨ (¬ 1125899906842624 < y ∧ (z < 0 ∨ (¬ z < 0 ∧ (y < z ∨ (¬ y < z ∧ (Pl.has a b x = false))))))))))))) :
    Calls Try.prog 4 #[.agg #[.int .i64 a, .int .i64 b], .int .i64 x, .int .i64 y, .int .i64 z] w fun e w' => e = .returned (.bool true) ∧ Below w.heap.size w w' := by
  rcases hbad with h1 | ⟨h1, hbad⟩
  ·
    go_enter Try.func4, Try.ntmps4
    go_wp2_with fail
    refine (mine_c _ _ _).mono ?_
    rintro e w1 ⟨rfl, hb1⟩
    have cb0 : w1.cell? ⟨w.heap.size, 0, none⟩ = some (.int .i64 a) := (hb1.cell (p := ⟨w.heap.size, 0, none⟩) (by go_size)).trans (by go_simp)
    have fb0 : w1.frozen? ⟨w.heap.size, 0, none⟩ = false := (hb1.frozen (p := ⟨w.heap.size, 0, none⟩) (by go_size)).trans (by go_simp)
    have cb1 : w1.cell? ⟨w.heap.size, 1, none⟩ = some (.int .i64 b) := (hb1.cell (p := ⟨w.heap.size, 1, none⟩) (by go_size)).trans (by go_simp)
    have fb1 : w1.frozen? ⟨w.heap.size, 1, none⟩ = false := (hb1.frozen (p := ⟨w.heap.size, 1, none⟩) (by go_size)).trans (by go_simp)
    have zb2 : w.heap.size < w1.heap.size := Nat.lt_of_lt_of_le (by go_size) hb1.size
    have hwb : Below w.heap.size w w1 := Below.trans (by (repeat' (first | (with_reducible exact Below.refl _ _) | (with_reducible assumption) | (with_reducible refine Below.alloc ?_ ?_ _) | (with_reducible refine Below.drew ?_) | (with_reducible refine below_drewN ?_ _) | (with_reducible refine Below.setCell ?_ ?_ _) | go_size))) (hb1.mono (by go_size))
    have hsb : w.heap.size ≤ w1.heap.size := hwb.size
    go_wp2_with fail
    refine (awake_c _).mono ?_
    rintro e w2 ⟨rfl, hb2⟩
    have hwc : Below w.heap.size w w2 := Below.trans (by (repeat' (first | (with_reducible exact Below.refl _ _) | (with_reducible assumption) | (with_reducible refine Below.alloc ?_ ?_ _) | (with_reducible refine Below.drew ?_) | (with_reducible refine below_drewN ?_ _) | (with_reducible refine Below.setCell ?_ ?_ _) | go_size))) (hb2.mono (by go_size))
    have hsc : w.heap.size ≤ w2.heap.size := hwc.size
    clear cb0 fb0 cb1 fb1 zb2 hwb hsb hb1
    go_wp2
    go_ret
    exact ⟨rfl, by assumption⟩
  rcases hbad with h2 | ⟨h2, hbad⟩
  ·
    go_enter Try.func4, Try.ntmps4
    go_wp2_with fail
    refine (mine_c _ _ _).mono ?_
    rintro e w1 ⟨rfl, hb1⟩
    have cb0 : w1.cell? ⟨w.heap.size, 0, none⟩ = some (.int .i64 a) := (hb1.cell (p := ⟨w.heap.size, 0, none⟩) (by go_size)).trans (by go_simp)
    have fb0 : w1.frozen? ⟨w.heap.size, 0, none⟩ = false := (hb1.frozen (p := ⟨w.heap.size, 0, none⟩) (by go_size)).trans (by go_simp)
    have cb1 : w1.cell? ⟨w.heap.size, 1, none⟩ = some (.int .i64 b) := (hb1.cell (p := ⟨w.heap.size, 1, none⟩) (by go_size)).trans (by go_simp)
    have fb1 : w1.frozen? ⟨w.heap.size, 1, none⟩ = false := (hb1.frozen (p := ⟨w.heap.size, 1, none⟩) (by go_size)).trans (by go_simp)
    have zb2 : w.heap.size < w1.heap.size := Nat.lt_of_lt_of_le (by go_size) hb1.size
    have hwb : Below w.heap.size w w1 := Below.trans (by (repeat' (first | (with_reducible exact Below.refl _ _) | (with_reducible assumption) | (with_reducible refine Below.alloc ?_ ?_ _) | (with_reducible refine Below.drew ?_) | (with_reducible refine below_drewN ?_ _) | (with_reducible refine Below.setCell ?_ ?_ _) | go_size))) (hb1.mono (by go_size))
    have hsb : w.heap.size ≤ w1.heap.size := hwb.size
    go_wp2_with fail
    refine (awake_c _).mono ?_
    rintro e w2 ⟨rfl, hb2⟩
    have hwc : Below w.heap.size w w2 := Below.trans (by (repeat' (first | (with_reducible exact Below.refl _ _) | (with_reducible assumption) | (with_reducible refine Below.alloc ?_ ?_ _) | (with_reducible refine Below.drew ?_) | (with_reducible refine below_drewN ?_ _) | (with_reducible refine Below.setCell ?_ ?_ _) | go_size))) (hb2.mono (by go_size))
    have hsc : w.heap.size ≤ w2.heap.size := hwc.size
    clear cb0 fb0 cb1 fb1 zb2 hwb hsb hb1
    go_wp2
    go_ret
    exact ⟨rfl, by assumption⟩
  rcases hbad with h3 | ⟨h3, hbad⟩
  ·
    go_enter Try.func4, Try.ntmps4
    go_wp2_with fail
    refine (mine_c _ _ _).mono ?_
    rintro e w1 ⟨rfl, hb1⟩
    have cb0 : w1.cell? ⟨w.heap.size, 0, none⟩ = some (.int .i64 a) := (hb1.cell (p := ⟨w.heap.size, 0, none⟩) (by go_size)).trans (by go_simp)
    have fb0 : w1.frozen? ⟨w.heap.size, 0, none⟩ = false := (hb1.frozen (p := ⟨w.heap.size, 0, none⟩) (by go_size)).trans (by go_simp)
    have cb1 : w1.cell? ⟨w.heap.size, 1, none⟩ = some (.int .i64 b) := (hb1.cell (p := ⟨w.heap.size, 1, none⟩) (by go_size)).trans (by go_simp)
    have fb1 : w1.frozen? ⟨w.heap.size, 1, none⟩ = false := (hb1.frozen (p := ⟨w.heap.size, 1, none⟩) (by go_size)).trans (by go_simp)
    have zb2 : w.heap.size < w1.heap.size := Nat.lt_of_lt_of_le (by go_size) hb1.size
    have hwb : Below w.heap.size w w1 := Below.trans (by (repeat' (first | (with_reducible exact Below.refl _ _) | (with_reducible assumption) | (with_reducible refine Below.alloc ?_ ?_ _) | (with_reducible refine Below.drew ?_) | (with_reducible refine below_drewN ?_ _) | (with_reducible refine Below.setCell ?_ ?_ _) | go_size))) (hb1.mono (by go_size))
    have hsb : w.heap.size ≤ w1.heap.size := hwb.size
    go_wp2_with fail
    refine (awake_c _).mono ?_
    rintro e w2 ⟨rfl, hb2⟩
    have hwc : Below w.heap.size w w2 := Below.trans (by (repeat' (first | (with_reducible exact Below.refl _ _) | (with_reducible assumption) | (with_reducible refine Below.alloc ?_ ?_ _) | (with_reducible refine Below.drew ?_) | (with_reducible refine below_drewN ?_ _) | (with_reducible refine Below.setCell ?_ ?_ _) | go_size))) (hb2.mono (by go_size))
    have hsc : w.heap.size ≤ w2.heap.size := hwc.size
    clear cb0 fb0 cb1 fb1 zb2 hwb hsb hb1
    go_wp2
    go_ret
    exact ⟨rfl, by assumption⟩
  rcases hbad with h4 | ⟨h4, hbad⟩
  ·
    go_enter Try.func4, Try.ntmps4
    go_wp2_with fail
    refine (mine_c _ _ _).mono ?_
    rintro e w1 ⟨rfl, hb1⟩
    have cb0 : w1.cell? ⟨w.heap.size, 0, none⟩ = some (.int .i64 a) := (hb1.cell (p := ⟨w.heap.size, 0, none⟩) (by go_size)).trans (by go_simp)
    have fb0 : w1.frozen? ⟨w.heap.size, 0, none⟩ = false := (hb1.frozen (p := ⟨w.heap.size, 0, none⟩) (by go_size)).trans (by go_simp)
    have cb1 : w1.cell? ⟨w.heap.size, 1, none⟩ = some (.int .i64 b) := (hb1.cell (p := ⟨w.heap.size, 1, none⟩) (by go_size)).trans (by go_simp)
    have fb1 : w1.frozen? ⟨w.heap.size, 1, none⟩ = false := (hb1.frozen (p := ⟨w.heap.size, 1, none⟩) (by go_size)).trans (by go_simp)
    have zb2 : w.heap.size < w1.heap.size := Nat.lt_of_lt_of_le (by go_size) hb1.size
    have hwb : Below w.heap.size w w1 := Below.trans (by (repeat' (first | (with_reducible exact Below.refl _ _) | (with_reducible assumption) | (with_reducible refine Below.alloc ?_ ?_ _) | (with_reducible refine Below.drew ?_) | (with_reducible refine below_drewN ?_ _) | (with_reducible refine Below.setCell ?_ ?_ _) | go_size))) (hb1.mono (by go_size))
    have hsb : w.heap.size ≤ w1.heap.size := hwb.size
    go_wp2_with fail
    refine (awake_c _).mono ?_
    rintro e w2 ⟨rfl, hb2⟩
    have hwc : Below w.heap.size w w2 := Below.trans (by (repeat' (first | (with_reducible exact Below.refl _ _) | (with_reducible assumption) | (with_reducible refine Below.alloc ?_ ?_ _) | (with_reducible refine Below.drew ?_) | (with_reducible refine below_drewN ?_ _) | (with_reducible refine Below.setCell ?_ ?_ _) | go_size))) (hb2.mono (by go_size))
    have hsc : w.heap.size ≤ w2.heap.size := hwc.size
    clear cb0 fb0 cb1 fb1 zb2 hwb hsb hb1
    go_wp2
    go_ret
    exact ⟨rfl, by assumption⟩
  rcases hbad with h5 | ⟨h5, hbad⟩
  ·
    go_enter Try.func4, Try.ntmps4
    go_wp2_with fail
    refine (mine_c _ _ _).mono ?_
    rintro e w1 ⟨rfl, hb1⟩
    have cb0 : w1.cell? ⟨w.heap.size, 0, none⟩ = some (.int .i64 a) := (hb1.cell (p := ⟨w.heap.size, 0, none⟩) (by go_size)).trans (by go_simp)
    have fb0 : w1.frozen? ⟨w.heap.size, 0, none⟩ = false := (hb1.frozen (p := ⟨w.heap.size, 0, none⟩) (by go_size)).trans (by go_simp)
    have cb1 : w1.cell? ⟨w.heap.size, 1, none⟩ = some (.int .i64 b) := (hb1.cell (p := ⟨w.heap.size, 1, none⟩) (by go_size)).trans (by go_simp)
    have fb1 : w1.frozen? ⟨w.heap.size, 1, none⟩ = false := (hb1.frozen (p := ⟨w.heap.size, 1, none⟩) (by go_size)).trans (by go_simp)
    have zb2 : w.heap.size < w1.heap.size := Nat.lt_of_lt_of_le (by go_size) hb1.size
    have hwb : Below w.heap.size w w1 := Below.trans (by (repeat' (first | (with_reducible exact Below.refl _ _) | (with_reducible assumption) | (with_reducible refine Below.alloc ?_ ?_ _) | (with_reducible refine Below.drew ?_) | (with_reducible refine below_drewN ?_ _) | (with_reducible refine Below.setCell ?_ ?_ _) | go_size))) (hb1.mono (by go_size))
    have hsb : w.heap.size ≤ w1.heap.size := hwb.size
    go_wp2_with fail
    refine (awake_c _).mono ?_
    rintro e w2 ⟨rfl, hb2⟩
    have hwc : Below w.heap.size w w2 := Below.trans (by (repeat' (first | (with_reducible exact Below.refl _ _) | (with_reducible assumption) | (with_reducible refine Below.alloc ?_ ?_ _) | (with_reducible refine Below.drew ?_) | (with_reducible refine below_drewN ?_ _) | (with_reducible refine Below.setCell ?_ ?_ _) | go_size))) (hb2.mono (by go_size))
    have hsc : w.heap.size ≤ w2.heap.size := hwc.size
    clear cb0 fb0 cb1 fb1 zb2 hwb hsb hb1
    go_wp2
    go_ret
    exact ⟨rfl, by assumption⟩
  rcases hbad with h6 | ⟨h6, hbad⟩
  ·
    go_enter Try.func4, Try.ntmps4
    go_wp2_with fail
    refine (mine_c _ _ _).mono ?_
    rintro e w1 ⟨rfl, hb1⟩
    have cb0 : w1.cell? ⟨w.heap.size, 0, none⟩ = some (.int .i64 a) := (hb1.cell (p := ⟨w.heap.size, 0, none⟩) (by go_size)).trans (by go_simp)
    have fb0 : w1.frozen? ⟨w.heap.size, 0, none⟩ = false := (hb1.frozen (p := ⟨w.heap.size, 0, none⟩) (by go_size)).trans (by go_simp)
    have cb1 : w1.cell? ⟨w.heap.size, 1, none⟩ = some (.int .i64 b) := (hb1.cell (p := ⟨w.heap.size, 1, none⟩) (by go_size)).trans (by go_simp)
    have fb1 : w1.frozen? ⟨w.heap.size, 1, none⟩ = false := (hb1.frozen (p := ⟨w.heap.size, 1, none⟩) (by go_size)).trans (by go_simp)
    have zb2 : w.heap.size < w1.heap.size := Nat.lt_of_lt_of_le (by go_size) hb1.size
    have hwb : Below w.heap.size w w1 := Below.trans (by (repeat' (first | (with_reducible exact Below.refl _ _) | (with_reducible assumption) | (with_reducible refine Below.alloc ?_ ?_ _) | (with_reducible refine Below.drew ?_) | (with_reducible refine below_drewN ?_ _) | (with_reducible refine Below.setCell ?_ ?_ _) | go_size))) (hb1.mono (by go_size))
    have hsb : w.heap.size ≤ w1.heap.size := hwb.size
    go_wp2_with fail
    refine (awake_c _).mono ?_
    rintro e w2 ⟨rfl, hb2⟩
    have hwc : Below w.heap.size w w2 := Below.trans (by (repeat' (first | (with_reducible exact Below.refl _ _) | (with_reducible assumption) | (with_reducible refine Below.alloc ?_ ?_ _) | (with_reducible refine Below.drew ?_) | (with_reducible refine below_drewN ?_ _) | (with_reducible refine Below.setCell ?_ ?_ _) | go_size))) (hb2.mono (by go_size))
    have hsc : w.heap.size ≤ w2.heap.size := hwc.size
    clear cb0 fb0 cb1 fb1 zb2 hwb hsb hb1
    go_wp2
    go_ret
    exact ⟨rfl, by assumption⟩
  go_enter Try.func4, Try.ntmps4
  go_wp2_with fail
  refine (mine_c _ _ _).mono ?_
  rintro e w1 ⟨rfl, hb1⟩
  have cb0 : w1.cell? ⟨w.heap.size, 0, none⟩ = some (.int .i64 a) := (hb1.cell (p := ⟨w.heap.size, 0, none⟩) (by go_size)).trans (by go_simp)
  have fb0 : w1.frozen? ⟨w.heap.size, 0, none⟩ = false := (hb1.frozen (p := ⟨w.heap.size, 0, none⟩) (by go_size)).trans (by go_simp)
  have cb1 : w1.cell? ⟨w.heap.size, 1, none⟩ = some (.int .i64 b) := (hb1.cell (p := ⟨w.heap.size, 1, none⟩) (by go_size)).trans (by go_simp)
  have fb1 : w1.frozen? ⟨w.heap.size, 1, none⟩ = false := (hb1.frozen (p := ⟨w.heap.size, 1, none⟩) (by go_size)).trans (by go_simp)
  have zb2 : w.heap.size < w1.heap.size := Nat.lt_of_lt_of_le (by go_size) hb1.size
  have hwb : Below w.heap.size w w1 := Below.trans (by (repeat' (first | (with_reducible exact Below.refl _ _) | (with_reducible assumption) | (with_reducible refine Below.alloc ?_ ?_ _) | (with_reducible refine Below.drew ?_) | (with_reducible refine below_drewN ?_ _) | (with_reducible refine Below.setCell ?_ ?_ _) | go_size))) (hb1.mono (by go_size))
  have hsb : w.heap.size ≤ w1.heap.size := hwb.size
  go_wp2_with fail
  refine (has_c _ _ _ _).mono ?_
  rintro e w2 ⟨rfl, hb2⟩
  have hwc : Below w.heap.size w w2 := Below.trans (by (repeat' (first | (with_reducible exact Below.refl _ _) | (with_reducible assumption) | (with_reducible refine Below.alloc ?_ ?_ _) | (with_reducible refine Below.drew ?_) | (with_reducible refine below_drewN ?_ _) | (with_reducible refine Below.setCell ?_ ?_ _) | go_size))) (hb2.mono (by go_size))
  have hsc : w.heap.size ≤ w2.heap.size := hwc.size
  clear cb0 fb0 cb1 fb1 zb2 hwb hsb hb1
  go_wp2_with fail
  refine (awake_c _).mono ?_
  rintro e w3 ⟨rfl, hb3⟩
  have hwd : Below w.heap.size w w3 := Below.trans (by (repeat' (first | (with_reducible exact Below.refl _ _) | (with_reducible assumption) | (with_reducible refine Below.alloc ?_ ?_ _) | (with_reducible refine Below.drew ?_) | (with_reducible refine below_drewN ?_ _) | (with_reducible refine Below.setCell ?_ ?_ _) | go_size))) (hb3.mono (by go_size))
  have hsd : w.heap.size ≤ w3.heap.size := hwd.size
  clear hwc hsc hb2
  go_wp2
  go_ret
  exact ⟨rfl, by assumption⟩

set_option maxHeartbeats 2000000 in
theorem law4_yes (a b x y z : Int) (w : World) (hx1 : -1125899906842624 ≤ x) (hx2 : x ≤ 1125899906842624) (hy1 : -1125899906842624 ≤ y) (hy2 : y ≤ 1125899906842624) (hz1 : 0 ≤ z) (hz2 : z ≤ y) (hin : Pl.has a b x = true) :
    Calls Try.prog 4 #[.agg #[.int .i64 a, .int .i64 b], .int .i64 x, .int .i64 y, .int .i64 z] w fun e w' => e = .returned (.bool true) ∧ Below w.heap.size w w' := by
  obtain ⟨m1, m2, m3, m4, m5, m6, m7⟩ := Pl.moves hx1 hx2 hy1 hy2 hz1 hz2 hin
  have q1 := Pl.mid_bd a b
  have q2 := Pl.half_bd a b
  go_enter Try.func4, Try.ntmps4
  go_wp2_with fail
  refine (mine_c _ _ _).mono ?_
  rintro e w1 ⟨rfl, hb1⟩
  have cb0 : w1.cell? ⟨w.heap.size, 0, none⟩ = some (.int .i64 a) := (hb1.cell (p := ⟨w.heap.size, 0, none⟩) (by go_size)).trans (by go_simp)
  have fb0 : w1.frozen? ⟨w.heap.size, 0, none⟩ = false := (hb1.frozen (p := ⟨w.heap.size, 0, none⟩) (by go_size)).trans (by go_simp)
  have cb1 : w1.cell? ⟨w.heap.size, 1, none⟩ = some (.int .i64 b) := (hb1.cell (p := ⟨w.heap.size, 1, none⟩) (by go_size)).trans (by go_simp)
  have fb1 : w1.frozen? ⟨w.heap.size, 1, none⟩ = false := (hb1.frozen (p := ⟨w.heap.size, 1, none⟩) (by go_size)).trans (by go_simp)
  have zb2 : w.heap.size < w1.heap.size := Nat.lt_of_lt_of_le (by go_size) hb1.size
  have hwb : Below w.heap.size w w1 := Below.trans (by (repeat' (first | (with_reducible exact Below.refl _ _) | (with_reducible assumption) | (with_reducible refine Below.alloc ?_ ?_ _) | (with_reducible refine Below.drew ?_) | (with_reducible refine below_drewN ?_ _) | (with_reducible refine Below.setCell ?_ ?_ _) | go_size))) (hb1.mono (by go_size))
  have hsb : w.heap.size ≤ w1.heap.size := hwb.size
  go_wp2_with fail
  refine (has_c _ _ _ _).mono ?_
  rintro e w2 ⟨rfl, hb2⟩
  have cc0 : w2.cell? ⟨w1.heap.size, 0, none⟩ = some (.int .i64 a) := (hb2.cell (p := ⟨w1.heap.size, 0, none⟩) (by go_size)).trans (by go_simp)
  have fc0 : w2.frozen? ⟨w1.heap.size, 0, none⟩ = false := (hb2.frozen (p := ⟨w1.heap.size, 0, none⟩) (by go_size)).trans (by go_simp)
  have cc1 : w2.cell? ⟨w1.heap.size, 1, none⟩ = some (.int .i64 b) := (hb2.cell (p := ⟨w1.heap.size, 1, none⟩) (by go_size)).trans (by go_simp)
  have fc1 : w2.frozen? ⟨w1.heap.size, 1, none⟩ = false := (hb2.frozen (p := ⟨w1.heap.size, 1, none⟩) (by go_size)).trans (by go_simp)
  have zc2 : w1.heap.size < w2.heap.size := Nat.lt_of_lt_of_le (by go_size) hb2.size
  have hwc : Below w.heap.size w w2 := Below.trans (by (repeat' (first | (with_reducible exact Below.refl _ _) | (with_reducible assumption) | (with_reducible refine Below.alloc ?_ ?_ _) | (with_reducible refine Below.drew ?_) | (with_reducible refine below_drewN ?_ _) | (with_reducible refine Below.setCell ?_ ?_ _) | go_size))) (hb2.mono (by go_size))
  have hsc : w.heap.size ≤ w2.heap.size := hwc.size
  clear cb0 fb0 cb1 fb1 zb2 hwb hsb hb1
  go_wp2_with fail
  refine wp_region_kq (by kernel_rfl) (by kernel_rfl) ?_
  repeat (quiet_step ((first | (go_at_call 20; exact KW.call (mid_c _ _ _)) | (go_at_call 21; exact KW.call (half_c _ _ _)))))
  refine wpQuiet_nil ?_
  intro k3
  have cd0 : k3.val.cell? ⟨w1.heap.size, 0, none⟩ = some (.int .i64 a) := (k3.kp.cell (p := ⟨w1.heap.size, 0, none⟩) (by go_size)).trans (by go_simp)
  have fd0 : k3.val.frozen? ⟨w1.heap.size, 0, none⟩ = false := (k3.kp.frozen (p := ⟨w1.heap.size, 0, none⟩) (by go_size)).trans (by go_simp)
  have cd1 : k3.val.cell? ⟨w1.heap.size, 1, none⟩ = some (.int .i64 b) := (k3.kp.cell (p := ⟨w1.heap.size, 1, none⟩) (by go_size)).trans (by go_simp)
  have fd1 : k3.val.frozen? ⟨w1.heap.size, 1, none⟩ = false := (k3.kp.frozen (p := ⟨w1.heap.size, 1, none⟩) (by go_size)).trans (by go_simp)
  have zd2 : w1.heap.size < k3.val.heap.size := Nat.lt_of_lt_of_le (by go_size) k3.kp.size
  have hwd : Below w.heap.size w k3.val := Below.trans (by (repeat' (first | (with_reducible exact Below.refl _ _) | (with_reducible assumption) | (with_reducible refine Below.alloc ?_ ?_ _) | (with_reducible refine Below.drew ?_) | (with_reducible refine below_drewN ?_ _) | (with_reducible refine Below.setCell ?_ ?_ _) | go_size))) (k3.kp.mono (by go_size))
  have hsd : w.heap.size ≤ k3.val.heap.size := hwd.size
  clear cc0 fc0 cc1 fc1 zc2 hwc hsc hb2
  go_wp2_with fail
  refine (has_c _ _ _ _).mono ?_
  rintro e w4 ⟨rfl, hb4⟩
  have ce0 : w4.cell? ⟨w1.heap.size, 0, none⟩ = some (.int .i64 a) := (hb4.cell (p := ⟨w1.heap.size, 0, none⟩) (by go_size)).trans (by go_simp)
  have fe0 : w4.frozen? ⟨w1.heap.size, 0, none⟩ = false := (hb4.frozen (p := ⟨w1.heap.size, 0, none⟩) (by go_size)).trans (by go_simp)
  have ce1 : w4.cell? ⟨w1.heap.size, 1, none⟩ = some (.int .i64 b) := (hb4.cell (p := ⟨w1.heap.size, 1, none⟩) (by go_size)).trans (by go_simp)
  have fe1 : w4.frozen? ⟨w1.heap.size, 1, none⟩ = false := (hb4.frozen (p := ⟨w1.heap.size, 1, none⟩) (by go_size)).trans (by go_simp)
  have ze2 : w1.heap.size < w4.heap.size := Nat.lt_of_lt_of_le (by go_size) hb4.size
  have hwe : Below w.heap.size w w4 := Below.trans (by (repeat' (first | (with_reducible exact Below.refl _ _) | (with_reducible assumption) | (with_reducible refine Below.alloc ?_ ?_ _) | (with_reducible refine Below.drew ?_) | (with_reducible refine below_drewN ?_ _) | (with_reducible refine Below.setCell ?_ ?_ _) | go_size))) (hb4.mono (by go_size))
  have hse : w.heap.size ≤ w4.heap.size := hwe.size
  clear cd0 fd0 cd1 fd1 zd2 hwd hsd
  go_wp2_with fail
  refine (widen_c _ _ _ _).mono ?_
  rintro e w5 ⟨rfl, hb5⟩
  have cf0 : w5.cell? ⟨w1.heap.size, 0, none⟩ = some (.int .i64 a) := (hb5.cell (p := ⟨w1.heap.size, 0, none⟩) (by go_size)).trans (by go_simp)
  have ff0 : w5.frozen? ⟨w1.heap.size, 0, none⟩ = false := (hb5.frozen (p := ⟨w1.heap.size, 0, none⟩) (by go_size)).trans (by go_simp)
  have cf1 : w5.cell? ⟨w1.heap.size, 1, none⟩ = some (.int .i64 b) := (hb5.cell (p := ⟨w1.heap.size, 1, none⟩) (by go_size)).trans (by go_simp)
  have ff1 : w5.frozen? ⟨w1.heap.size, 1, none⟩ = false := (hb5.frozen (p := ⟨w1.heap.size, 1, none⟩) (by go_size)).trans (by go_simp)
  have zf2 : w1.heap.size < w5.heap.size := Nat.lt_of_lt_of_le (by go_size) hb5.size
  have hwf : Below w.heap.size w w5 := Below.trans (by (repeat' (first | (with_reducible exact Below.refl _ _) | (with_reducible assumption) | (with_reducible refine Below.alloc ?_ ?_ _) | (with_reducible refine Below.drew ?_) | (with_reducible refine below_drewN ?_ _) | (with_reducible refine Below.setCell ?_ ?_ _) | go_size))) (hb5.mono (by go_size))
  have hsf : w.heap.size ≤ w5.heap.size := hwf.size
  clear ce0 fe0 ce1 fe1 ze2 hwe hse hb4
  go_wp2_with fail
  refine (shift_c _ _ _ _).mono ?_
  rintro e w6 ⟨rfl, hb6⟩
  have cg0 : w6.cell? ⟨w1.heap.size, 0, none⟩ = some (.int .i64 a) := (hb6.cell (p := ⟨w1.heap.size, 0, none⟩) (by go_size)).trans (by go_simp)
  have fg0 : w6.frozen? ⟨w1.heap.size, 0, none⟩ = false := (hb6.frozen (p := ⟨w1.heap.size, 0, none⟩) (by go_size)).trans (by go_simp)
  have cg1 : w6.cell? ⟨w1.heap.size, 1, none⟩ = some (.int .i64 b) := (hb6.cell (p := ⟨w1.heap.size, 1, none⟩) (by go_size)).trans (by go_simp)
  have fg1 : w6.frozen? ⟨w1.heap.size, 1, none⟩ = false := (hb6.frozen (p := ⟨w1.heap.size, 1, none⟩) (by go_size)).trans (by go_simp)
  have zg2 : w1.heap.size < w6.heap.size := Nat.lt_of_lt_of_le (by go_size) hb6.size
  have cg2 : w6.cell? ⟨w5.heap.size, 0, none⟩ = some (.int .i64 (Pl.wlo a b y)) := (hb6.cell (p := ⟨w5.heap.size, 0, none⟩) (by go_size)).trans (by go_simp)
  have fg2 : w6.frozen? ⟨w5.heap.size, 0, none⟩ = false := (hb6.frozen (p := ⟨w5.heap.size, 0, none⟩) (by go_size)).trans (by go_simp)
  have cg3 : w6.cell? ⟨w5.heap.size, 1, none⟩ = some (.int .i64 (Pl.whi a b y)) := (hb6.cell (p := ⟨w5.heap.size, 1, none⟩) (by go_size)).trans (by go_simp)
  have fg3 : w6.frozen? ⟨w5.heap.size, 1, none⟩ = false := (hb6.frozen (p := ⟨w5.heap.size, 1, none⟩) (by go_size)).trans (by go_simp)
  have zg4 : w5.heap.size < w6.heap.size := Nat.lt_of_lt_of_le (by go_size) hb6.size
  have hwg : Below w.heap.size w w6 := Below.trans (by (repeat' (first | (with_reducible exact Below.refl _ _) | (with_reducible assumption) | (with_reducible refine Below.alloc ?_ ?_ _) | (with_reducible refine Below.drew ?_) | (with_reducible refine below_drewN ?_ _) | (with_reducible refine Below.setCell ?_ ?_ _) | go_size))) (hb6.mono (by go_size))
  have hsg : w.heap.size ≤ w6.heap.size := hwg.size
  clear cf0 ff0 cf1 ff1 zf2 hwf hsf hb5
  go_wp2_with fail
  refine (has_c _ _ _ _).mono ?_
  rintro e w7 ⟨rfl, hb7⟩
  have ch0 : w7.cell? ⟨w1.heap.size, 0, none⟩ = some (.int .i64 a) := (hb7.cell (p := ⟨w1.heap.size, 0, none⟩) (by go_size)).trans (by go_simp)
  have fh0 : w7.frozen? ⟨w1.heap.size, 0, none⟩ = false := (hb7.frozen (p := ⟨w1.heap.size, 0, none⟩) (by go_size)).trans (by go_simp)
  have ch1 : w7.cell? ⟨w1.heap.size, 1, none⟩ = some (.int .i64 b) := (hb7.cell (p := ⟨w1.heap.size, 1, none⟩) (by go_size)).trans (by go_simp)
  have fh1 : w7.frozen? ⟨w1.heap.size, 1, none⟩ = false := (hb7.frozen (p := ⟨w1.heap.size, 1, none⟩) (by go_size)).trans (by go_simp)
  have zh2 : w1.heap.size < w7.heap.size := Nat.lt_of_lt_of_le (by go_size) hb7.size
  have ch2 : w7.cell? ⟨w5.heap.size, 0, none⟩ = some (.int .i64 (Pl.wlo a b y)) := (hb7.cell (p := ⟨w5.heap.size, 0, none⟩) (by go_size)).trans (by go_simp)
  have fh2 : w7.frozen? ⟨w5.heap.size, 0, none⟩ = false := (hb7.frozen (p := ⟨w5.heap.size, 0, none⟩) (by go_size)).trans (by go_simp)
  have ch3 : w7.cell? ⟨w5.heap.size, 1, none⟩ = some (.int .i64 (Pl.whi a b y)) := (hb7.cell (p := ⟨w5.heap.size, 1, none⟩) (by go_size)).trans (by go_simp)
  have fh3 : w7.frozen? ⟨w5.heap.size, 1, none⟩ = false := (hb7.frozen (p := ⟨w5.heap.size, 1, none⟩) (by go_size)).trans (by go_simp)
  have zh4 : w5.heap.size < w7.heap.size := Nat.lt_of_lt_of_le (by go_size) hb7.size
  have hwh : Below w.heap.size w w7 := Below.trans (by (repeat' (first | (with_reducible exact Below.refl _ _) | (with_reducible assumption) | (with_reducible refine Below.alloc ?_ ?_ _) | (with_reducible refine Below.drew ?_) | (with_reducible refine below_drewN ?_ _) | (with_reducible refine Below.setCell ?_ ?_ _) | go_size))) (hb7.mono (by go_size))
  have hsh : w.heap.size ≤ w7.heap.size := hwh.size
  clear cg0 fg0 cg1 fg1 zg2 cg2 fg2 cg3 fg3 zg4 hwg hsg hb6
  go_wp2_with fail
  refine (has_c _ _ _ _).mono ?_
  rintro e w8 ⟨rfl, hb8⟩
  have ci0 : w8.cell? ⟨w1.heap.size, 0, none⟩ = some (.int .i64 a) := (hb8.cell (p := ⟨w1.heap.size, 0, none⟩) (by go_size)).trans (by go_simp)
  have fi0 : w8.frozen? ⟨w1.heap.size, 0, none⟩ = false := (hb8.frozen (p := ⟨w1.heap.size, 0, none⟩) (by go_size)).trans (by go_simp)
  have ci1 : w8.cell? ⟨w1.heap.size, 1, none⟩ = some (.int .i64 b) := (hb8.cell (p := ⟨w1.heap.size, 1, none⟩) (by go_size)).trans (by go_simp)
  have fi1 : w8.frozen? ⟨w1.heap.size, 1, none⟩ = false := (hb8.frozen (p := ⟨w1.heap.size, 1, none⟩) (by go_size)).trans (by go_simp)
  have zi2 : w1.heap.size < w8.heap.size := Nat.lt_of_lt_of_le (by go_size) hb8.size
  have ci2 : w8.cell? ⟨w5.heap.size, 0, none⟩ = some (.int .i64 (Pl.wlo a b y)) := (hb8.cell (p := ⟨w5.heap.size, 0, none⟩) (by go_size)).trans (by go_simp)
  have fi2 : w8.frozen? ⟨w5.heap.size, 0, none⟩ = false := (hb8.frozen (p := ⟨w5.heap.size, 0, none⟩) (by go_size)).trans (by go_simp)
  have ci3 : w8.cell? ⟨w5.heap.size, 1, none⟩ = some (.int .i64 (Pl.whi a b y)) := (hb8.cell (p := ⟨w5.heap.size, 1, none⟩) (by go_size)).trans (by go_simp)
  have fi3 : w8.frozen? ⟨w5.heap.size, 1, none⟩ = false := (hb8.frozen (p := ⟨w5.heap.size, 1, none⟩) (by go_size)).trans (by go_simp)
  have zi4 : w5.heap.size < w8.heap.size := Nat.lt_of_lt_of_le (by go_size) hb8.size
  have hwi : Below w.heap.size w w8 := Below.trans (by (repeat' (first | (with_reducible exact Below.refl _ _) | (with_reducible assumption) | (with_reducible refine Below.alloc ?_ ?_ _) | (with_reducible refine Below.drew ?_) | (with_reducible refine below_drewN ?_ _) | (with_reducible refine Below.setCell ?_ ?_ _) | go_size))) (hb8.mono (by go_size))
  have hsi : w.heap.size ≤ w8.heap.size := hwi.size
  clear ch0 fh0 ch1 fh1 zh2 ch2 fh2 ch3 fh3 zh4 hwh hsh hb7
  go_wp2_with fail
  refine (has_c _ _ _ _).mono ?_
  rintro e w9 ⟨rfl, hb9⟩
  have cj0 : w9.cell? ⟨w1.heap.size, 0, none⟩ = some (.int .i64 a) := (hb9.cell (p := ⟨w1.heap.size, 0, none⟩) (by go_size)).trans (by go_simp)
  have fj0 : w9.frozen? ⟨w1.heap.size, 0, none⟩ = false := (hb9.frozen (p := ⟨w1.heap.size, 0, none⟩) (by go_size)).trans (by go_simp)
  have cj1 : w9.cell? ⟨w1.heap.size, 1, none⟩ = some (.int .i64 b) := (hb9.cell (p := ⟨w1.heap.size, 1, none⟩) (by go_size)).trans (by go_simp)
  have fj1 : w9.frozen? ⟨w1.heap.size, 1, none⟩ = false := (hb9.frozen (p := ⟨w1.heap.size, 1, none⟩) (by go_size)).trans (by go_simp)
  have zj2 : w1.heap.size < w9.heap.size := Nat.lt_of_lt_of_le (by go_size) hb9.size
  have cj2 : w9.cell? ⟨w5.heap.size, 0, none⟩ = some (.int .i64 (Pl.wlo a b y)) := (hb9.cell (p := ⟨w5.heap.size, 0, none⟩) (by go_size)).trans (by go_simp)
  have fj2 : w9.frozen? ⟨w5.heap.size, 0, none⟩ = false := (hb9.frozen (p := ⟨w5.heap.size, 0, none⟩) (by go_size)).trans (by go_simp)
  have cj3 : w9.cell? ⟨w5.heap.size, 1, none⟩ = some (.int .i64 (Pl.whi a b y)) := (hb9.cell (p := ⟨w5.heap.size, 1, none⟩) (by go_size)).trans (by go_simp)
  have fj3 : w9.frozen? ⟨w5.heap.size, 1, none⟩ = false := (hb9.frozen (p := ⟨w5.heap.size, 1, none⟩) (by go_size)).trans (by go_simp)
  have zj4 : w5.heap.size < w9.heap.size := Nat.lt_of_lt_of_le (by go_size) hb9.size
  have hwj : Below w.heap.size w w9 := Below.trans (by (repeat' (first | (with_reducible exact Below.refl _ _) | (with_reducible assumption) | (with_reducible refine Below.alloc ?_ ?_ _) | (with_reducible refine Below.drew ?_) | (with_reducible refine below_drewN ?_ _) | (with_reducible refine Below.setCell ?_ ?_ _) | go_size))) (hb9.mono (by go_size))
  have hsj : w.heap.size ≤ w9.heap.size := hwj.size
  clear ci0 fi0 ci1 fi1 zi2 ci2 fi2 ci3 fi3 zi4 hwi hsi hb8
  go_wp2_with fail
  refine (within_c _ _ _ _ _).mono ?_
  rintro e w10 ⟨rfl, hb10⟩
  have ck0 : w10.cell? ⟨w1.heap.size, 0, none⟩ = some (.int .i64 a) := (hb10.cell (p := ⟨w1.heap.size, 0, none⟩) (by go_size)).trans (by go_simp)
  have fk0 : w10.frozen? ⟨w1.heap.size, 0, none⟩ = false := (hb10.frozen (p := ⟨w1.heap.size, 0, none⟩) (by go_size)).trans (by go_simp)
  have ck1 : w10.cell? ⟨w1.heap.size, 1, none⟩ = some (.int .i64 b) := (hb10.cell (p := ⟨w1.heap.size, 1, none⟩) (by go_size)).trans (by go_simp)
  have fk1 : w10.frozen? ⟨w1.heap.size, 1, none⟩ = false := (hb10.frozen (p := ⟨w1.heap.size, 1, none⟩) (by go_size)).trans (by go_simp)
  have zk2 : w1.heap.size < w10.heap.size := Nat.lt_of_lt_of_le (by go_size) hb10.size
  have ck2 : w10.cell? ⟨w5.heap.size, 0, none⟩ = some (.int .i64 (Pl.wlo a b y)) := (hb10.cell (p := ⟨w5.heap.size, 0, none⟩) (by go_size)).trans (by go_simp)
  have fk2 : w10.frozen? ⟨w5.heap.size, 0, none⟩ = false := (hb10.frozen (p := ⟨w5.heap.size, 0, none⟩) (by go_size)).trans (by go_simp)
  have ck3 : w10.cell? ⟨w5.heap.size, 1, none⟩ = some (.int .i64 (Pl.whi a b y)) := (hb10.cell (p := ⟨w5.heap.size, 1, none⟩) (by go_size)).trans (by go_simp)
  have fk3 : w10.frozen? ⟨w5.heap.size, 1, none⟩ = false := (hb10.frozen (p := ⟨w5.heap.size, 1, none⟩) (by go_size)).trans (by go_simp)
  have zk4 : w5.heap.size < w10.heap.size := Nat.lt_of_lt_of_le (by go_size) hb10.size
  have hwk : Below w.heap.size w w10 := Below.trans (by (repeat' (first | (with_reducible exact Below.refl _ _) | (with_reducible assumption) | (with_reducible refine Below.alloc ?_ ?_ _) | (with_reducible refine Below.drew ?_) | (with_reducible refine below_drewN ?_ _) | (with_reducible refine Below.setCell ?_ ?_ _) | go_size))) (hb10.mono (by go_size))
  have hsk : w.heap.size ≤ w10.heap.size := hwk.size
  clear cj0 fj0 cj1 fj1 zj2 cj2 fj2 cj3 fj3 zj4 hwj hsj hb9
  go_wp2_with fail
  refine (awake_c _).mono ?_
  rintro e w11 ⟨rfl, hb11⟩
  have hwl : Below w.heap.size w w11 := Below.trans (by (repeat' (first | (with_reducible exact Below.refl _ _) | (with_reducible assumption) | (with_reducible refine Below.alloc ?_ ?_ _) | (with_reducible refine Below.drew ?_) | (with_reducible refine below_drewN ?_ _) | (with_reducible refine Below.setCell ?_ ?_ _) | go_size))) (hb11.mono (by go_size))
  have hsl : w.heap.size ≤ w11.heap.size := hwl.size
  clear ck0 fk0 ck1 fk1 zk2 ck2 fk2 ck3 fk3 zk4 hwk hsk hb10
  go_wp2
  go_ret
  exact ⟨rfl, by assumption⟩

theorem law4 (a b x y z : Int) (w : World) :
    Calls Try.prog 4 #[.agg #[.int .i64 a, .int .i64 b], .int .i64 x, .int .i64 y, .int .i64 z] w fun e w' => e = .returned (.bool true) ∧ Below w.heap.size w w' := by
  by_cases h : -1125899906842624 ≤ x ∧ x ≤ 1125899906842624 ∧ -1125899906842624 ≤ y ∧ y ≤ 1125899906842624 ∧ 0 ≤ z ∧ z ≤ y ∧ Pl.has a b x = true
  · obtain ⟨h1, h2, h3, h4, h5, h6, h7⟩ := h
    exact law4_yes a b x y z w h1 h2 h3 h4 h5 h6 h7
  · refine law4_no a b x y z w ?_
    cases hh : Pl.has a b x
    · simp only [and_true]; omega
    · simp only [hh, and_true] at h
      simp only [Bool.true_eq_false, and_false, or_false]
      omega
end Go.Proofs.Ytgpeekmagckgcaa
