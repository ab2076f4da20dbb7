/- What is proved here: what Fresh, mine and Miss answer. Condition: times. -/
import Derived.Test.YtgpeekmagckgcaaD1
import Derived.Test.YtgpeekmagckgcaaSy
import Derived.Test.YtgpeekmagckgcaaSz
namespace Go.Proofs.Ytgpeekmagckgcaa
open Go Go.RowKit
attribute [local go_sem] KW.cell KW.frozen
attribute [local go_sem ↓] eql24

namespace Pl
def flo (t1 t2 t4 m : Int) : Int := wlo (t2 - t4) (t2 - t1) (drift (t4 - t1) m)
def fhi (t1 t2 t4 m : Int) : Int := whi (t2 - t4) (t2 - t1) (drift (t4 - t1) m)
def miss (h : Int) : Int := if h < 0 then 2 else if 1073741824 < h then 2147483650 else h + h + 2
end Pl
def Tm (n : Int) : Prop := -1125899906842624 ≤ n ∧ n ≤ 1125899906842624

set_option maxRecDepth 20000 in
set_option maxHeartbeats 2000000 in
theorem fresh_c (t1 t2 t4 m : Int) (w : World) (h1 : Tm t1) (h2 : Tm t2) (h4 : Tm t4) :
    Calls Try.prog 60 #[.int .i64 t1, .int .i64 t2, .int .i64 t4, .int .i64 m] w fun e w' => e = .returned (.agg #[.int .i64 (Pl.flo t1 t2 t4 m), .int .i64 (Pl.fhi t1 t2 t4 m)]) ∧ Below w.heap.size w w' := by
  obtain ⟨a1, a2⟩ := h1
  obtain ⟨b1, b2⟩ := h2
  obtain ⟨c1, c2⟩ := h4
  have x1 : IntKind.i64.wrap (t2 - t4) = t2 - t4 := wrap_of (by omega) (by omega)
  have x2 : IntKind.i64.wrap (t2 - t1) = t2 - t1 := wrap_of (by omega) (by omega)
  have x3 : IntKind.i64.wrap (t4 - t1) = t4 - t1 := wrap_of (by omega) (by omega)
  go_enter Try.func60, Try.ntmps60
  go_wp2_with (go_at_call 37; refine (drift_c _ _ _).mono ?_; rintro e w' ⟨rfl, rfl⟩)
  refine (widen_c _ _ _ _).mono ?_
  rintro e w1 ⟨rfl, hb1⟩
  have cb0 : w1.cell? ⟨w.heap.size, 0, none⟩ = some (.int .i64 0) := (hb1.cell (p := ⟨w.heap.size, 0, none⟩) (by go_size)).trans (by go_simp)
  have fb0 : w1.frozen? ⟨w.heap.size, 0, none⟩ = false := (hb1.frozen (p := ⟨w.heap.size, 0, none⟩) (by go_size)).trans (by go_simp)
  have cb1 : w1.cell? ⟨w.heap.size, 1, none⟩ = some (.int .i64 0) := (hb1.cell (p := ⟨w.heap.size, 1, none⟩) (by go_size)).trans (by go_simp)
  have fb1 : w1.frozen? ⟨w.heap.size, 1, none⟩ = false := (hb1.frozen (p := ⟨w.heap.size, 1, none⟩) (by go_size)).trans (by go_simp)
  have zb2 : w.heap.size < w1.heap.size := Nat.lt_of_lt_of_le (by go_size) hb1.size
  have hwb : Below w.heap.size w w1 := Below.trans (by (repeat' (first | (with_reducible exact Below.refl _ _) | (with_reducible assumption) | (with_reducible refine Below.alloc ?_ ?_ _) | (with_reducible refine Below.drew ?_) | (with_reducible refine below_drewN ?_ _) | (with_reducible refine Below.setCell ?_ ?_ _) | go_size))) (hb1.mono (by go_size))
  have hsb : w.heap.size ≤ w1.heap.size := hwb.size
  go_wp2_with fail
  refine bodyPost_ret (v := .agg #[.int .i64 _, .int .i64 _]) (by simp [results, Try.results60, go_sem, cb0, cb1]; exact ⟨rfl, rfl⟩) rfl ⟨ret_sp ?_ ?_, ?_⟩
  · rfl
  · rfl
  · (repeat' (first | (with_reducible exact Below.refl _ _) | (with_reducible assumption) | (with_reducible refine Below.alloc ?_ ?_ _) | (with_reducible refine Below.drew ?_) | (with_reducible refine below_drewN ?_ _) | (with_reducible refine Below.setCell ?_ ?_ _) | go_size))

set_option maxRecDepth 20000 in
set_option maxHeartbeats 2000000 in
theorem rfresh_c (t1 t2 t4 m : Int) (w : World) (h1 : Tm t1) (h2 : Tm t2) (h4 : Tm t4) :
    Calls Try.prog 61 #[.int .i64 t1, .int .i64 t2, .int .i64 t4, .int .i64 m] w fun e w' => e = .returned (.agg #[.int .i64 (Pl.flo t1 t2 t4 m), .int .i64 (Pl.fhi t1 t2 t4 m)]) ∧ Below w.heap.size w w' := by
  obtain ⟨a1, a2⟩ := h1
  obtain ⟨b1, b2⟩ := h2
  obtain ⟨c1, c2⟩ := h4
  have x1 : IntKind.i64.wrap (t2 - t4) = t2 - t4 := wrap_of (by omega) (by omega)
  have x2 : IntKind.i64.wrap (t2 - t1) = t2 - t1 := wrap_of (by omega) (by omega)
  have x3 : IntKind.i64.wrap (t4 - t1) = t4 - t1 := wrap_of (by omega) (by omega)
  go_enter Try.func61, Try.ntmps61
  go_wp2_with (go_at_call 38; refine (rdrift_c _ _ _).mono ?_; rintro e w' ⟨rfl, rfl⟩)
  refine (rwiden_c _ _ _ _).mono ?_
  rintro e w1 ⟨rfl, hb1⟩
  have cb0 : w1.cell? ⟨w.heap.size, 0, none⟩ = some (.int .i64 0) := (hb1.cell (p := ⟨w.heap.size, 0, none⟩) (by go_size)).trans (by go_simp)
  have fb0 : w1.frozen? ⟨w.heap.size, 0, none⟩ = false := (hb1.frozen (p := ⟨w.heap.size, 0, none⟩) (by go_size)).trans (by go_simp)
  have cb1 : w1.cell? ⟨w.heap.size, 1, none⟩ = some (.int .i64 0) := (hb1.cell (p := ⟨w.heap.size, 1, none⟩) (by go_size)).trans (by go_simp)
  have fb1 : w1.frozen? ⟨w.heap.size, 1, none⟩ = false := (hb1.frozen (p := ⟨w.heap.size, 1, none⟩) (by go_size)).trans (by go_simp)
  have zb2 : w.heap.size < w1.heap.size := Nat.lt_of_lt_of_le (by go_size) hb1.size
  have hwb : Below w.heap.size w w1 := Below.trans (by (repeat' (first | (with_reducible exact Below.refl _ _) | (with_reducible assumption) | (with_reducible refine Below.alloc ?_ ?_ _) | (with_reducible refine Below.drew ?_) | (with_reducible refine below_drewN ?_ _) | (with_reducible refine Below.setCell ?_ ?_ _) | go_size))) (hb1.mono (by go_size))
  have hsb : w.heap.size ≤ w1.heap.size := hwb.size
  go_wp2_with fail
  refine bodyPost_ret (v := .agg #[.int .i64 _, .int .i64 _]) (by simp [results, Try.results61, go_sem, cb0, cb1]; exact ⟨rfl, rfl⟩) rfl ⟨ret_sp ?_ ?_, ?_⟩
  · rfl
  · rfl
  · (repeat' (first | (with_reducible exact Below.refl _ _) | (with_reducible assumption) | (with_reducible refine Below.alloc ?_ ?_ _) | (with_reducible refine Below.drew ?_) | (with_reducible refine below_drewN ?_ _) | (with_reducible refine Below.setCell ?_ ?_ _) | go_size))

set_option maxRecDepth 20000 in
set_option maxHeartbeats 2000000 in
theorem miss_c (h : Int) (w : World) :
    Calls Try.prog 64 #[.int .i64 h] w fun e w' => e = .returned (.int .i64 (Pl.miss h)) ∧ w = w' := by
  go_enter Try.func64, Try.ntmps64
  go_wp2
  all_goals
    go_ret
    exact ⟨ret_int (by unfold Pl.miss; omega), rfl⟩
set_option maxRecDepth 20000 in
set_option maxHeartbeats 2000000 in
theorem rmiss_c (h : Int) (w : World) :
    Calls Try.prog 65 #[.int .i64 h] w fun e w' => e = .returned (.int .i64 (Pl.miss h)) ∧ w = w' := by
  by_cases h1 : h < 0
  · go_enter Try.func65, Try.ntmps65
    go_wp2
    go_ret
    exact ⟨ret_int (by unfold Pl.miss; omega), rfl⟩
  by_cases h2 : 1073741824 < h
  · go_enter Try.func65, Try.ntmps65
    go_wp2
    go_ret
    exact ⟨ret_int (by unfold Pl.miss; omega), rfl⟩
  go_enter Try.func65, Try.ntmps65
  go_wp2
  go_ret
  exact ⟨ret_int (by unfold Pl.miss; omega), rfl⟩
set_option maxRecDepth 20000 in
set_option maxHeartbeats 2000000 in
theorem smine_c (k : Bool) (a b t : Int) (w : World) :
    Calls Try.prog 55 #[.agg #[.bool k, .int .i64 a, .int .i64 b, .int .i64 t]] w fun e w' => e = .returned (.agg #[.bool k, .int .i64 a, .int .i64 b, .int .i64 t]) ∧ Below w.heap.size w w' := by
  go_enter Try.func55, Try.ntmps55
  go_wp2
  refine bodyPost_ret (v := .agg #[.bool k, .int .i64 a, .int .i64 b, .int .i64 t]) (by simp [results, Try.results55, go_sem]) rfl ⟨rfl, ?_⟩
  (repeat' (first | (with_reducible exact Below.refl _ _) | (with_reducible assumption) | (with_reducible refine Below.alloc ?_ ?_ _) | (with_reducible refine Below.drew ?_) | (with_reducible refine below_drewN ?_ _) | (with_reducible refine Below.setCell ?_ ?_ _) | go_size))
set_option maxRecDepth 20000 in
set_option maxHeartbeats 2000000 in
theorem slike_c (a b c d : Int) (w : World) :
    Calls Try.prog 57 #[.agg #[.int .i64 a, .int .i64 b], .agg #[.int .i64 c, .int .i64 d]] w fun e w' => e = .returned (.bool (decide (a = c) && decide (b = d))) ∧ Below w.heap.size w w' := by
  by_cases h : a = c
  all_goals by_cases k : b = d
  all_goals
    go_enter Try.func57, Try.ntmps57
    go_wp2
    go_ret
    refine ⟨ret_bool (by simp [h, k]), ?_⟩
    (repeat' (first | (with_reducible exact Below.refl _ _) | (with_reducible assumption) | (with_reducible refine Below.alloc ?_ ?_ _) | (with_reducible refine Below.drew ?_) | (with_reducible refine below_drewN ?_ _) | (with_reducible refine Below.setCell ?_ ?_ _) | go_size))
end Go.Proofs.Ytgpeekmagckgcaa
