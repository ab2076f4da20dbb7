/- What is proved here: what Meet of skew answers. Condition: times. -/
import Derived.Test.YtgpeekmagckgcaaD3
namespace Go.Proofs.Ytgpeekmagckgcaa
open Go Go.RowKit
attribute [local go_sem] KW.cell KW.frozen
attribute [local go_sem ↓] eql24 eql23

set_option maxRecDepth 20000 in
set_option maxHeartbeats 2000000 in
theorem smeet_bad0 (k : Bool) (a b z t1 t2 t4 m : Int) (w : World)  (h : t1 < 0) :
    Calls Try.prog 54 #[.agg #[.bool k, .int .i64 a, .int .i64 b, .int .i64 z], .int .i64 t1, .int .i64 t2, .int .i64 t4, .int .i64 m] w fun e w' => e = .returned (.tuple #[.agg #[.bool k, .int .i64 a, .int .i64 b, .int .i64 z], .int .i64 2]) ∧ Below w.heap.size w w' := by
  go_enter Try.func54, Try.ntmps54
  go_wp2
  refine bodyPost_ret (v := .tuple #[.agg #[.bool k, .int .i64 a, .int .i64 b, .int .i64 z], .int .i64 2]) (by simp [results, Try.results54, go_sem]) rfl ⟨rfl, ?_⟩
  (repeat' (first | (with_reducible exact Below.refl _ _) | (with_reducible assumption) | (with_reducible refine Below.alloc ?_ ?_ _) | (with_reducible refine Below.drew ?_) | (with_reducible refine below_drewN ?_ _) | (with_reducible refine Below.setCell ?_ ?_ _) | go_size))

set_option maxRecDepth 20000 in
set_option maxHeartbeats 2000000 in
theorem smeet_bad1 (k : Bool) (a b z t1 t2 t4 m : Int) (w : World) (g0 : ¬ t1 < 0) (h : t4 < t1) :
    Calls Try.prog 54 #[.agg #[.bool k, .int .i64 a, .int .i64 b, .int .i64 z], .int .i64 t1, .int .i64 t2, .int .i64 t4, .int .i64 m] w fun e w' => e = .returned (.tuple #[.agg #[.bool k, .int .i64 a, .int .i64 b, .int .i64 z], .int .i64 2]) ∧ Below w.heap.size w w' := by
  go_enter Try.func54, Try.ntmps54
  go_wp2
  refine bodyPost_ret (v := .tuple #[.agg #[.bool k, .int .i64 a, .int .i64 b, .int .i64 z], .int .i64 2]) (by simp [results, Try.results54, go_sem]) rfl ⟨rfl, ?_⟩
  (repeat' (first | (with_reducible exact Below.refl _ _) | (with_reducible assumption) | (with_reducible refine Below.alloc ?_ ?_ _) | (with_reducible refine Below.drew ?_) | (with_reducible refine below_drewN ?_ _) | (with_reducible refine Below.setCell ?_ ?_ _) | go_size))

set_option maxRecDepth 20000 in
set_option maxHeartbeats 2000000 in
theorem smeet_bad2 (k : Bool) (a b z t1 t2 t4 m : Int) (w : World) (g0 : ¬ t1 < 0) (g1 : ¬ t4 < t1) (h : 1099511627776 < t4) :
    Calls Try.prog 54 #[.agg #[.bool k, .int .i64 a, .int .i64 b, .int .i64 z], .int .i64 t1, .int .i64 t2, .int .i64 t4, .int .i64 m] w fun e w' => e = .returned (.tuple #[.agg #[.bool k, .int .i64 a, .int .i64 b, .int .i64 z], .int .i64 2]) ∧ Below w.heap.size w w' := by
  go_enter Try.func54, Try.ntmps54
  go_wp2
  refine bodyPost_ret (v := .tuple #[.agg #[.bool k, .int .i64 a, .int .i64 b, .int .i64 z], .int .i64 2]) (by simp [results, Try.results54, go_sem]) rfl ⟨rfl, ?_⟩
  (repeat' (first | (with_reducible exact Below.refl _ _) | (with_reducible assumption) | (with_reducible refine Below.alloc ?_ ?_ _) | (with_reducible refine Below.drew ?_) | (with_reducible refine below_drewN ?_ _) | (with_reducible refine Below.setCell ?_ ?_ _) | go_size))

set_option maxRecDepth 20000 in
set_option maxHeartbeats 2000000 in
theorem smeet_bad3 (k : Bool) (a b z t1 t2 t4 m : Int) (w : World) (g0 : ¬ t1 < 0) (g1 : ¬ t4 < t1) (g2 : ¬ 1099511627776 < t4) (h : t2 < -1125899906842624) :
    Calls Try.prog 54 #[.agg #[.bool k, .int .i64 a, .int .i64 b, .int .i64 z], .int .i64 t1, .int .i64 t2, .int .i64 t4, .int .i64 m] w fun e w' => e = .returned (.tuple #[.agg #[.bool k, .int .i64 a, .int .i64 b, .int .i64 z], .int .i64 2]) ∧ Below w.heap.size w w' := by
  go_enter Try.func54, Try.ntmps54
  go_wp2
  refine bodyPost_ret (v := .tuple #[.agg #[.bool k, .int .i64 a, .int .i64 b, .int .i64 z], .int .i64 2]) (by simp [results, Try.results54, go_sem]) rfl ⟨rfl, ?_⟩
  (repeat' (first | (with_reducible exact Below.refl _ _) | (with_reducible assumption) | (with_reducible refine Below.alloc ?_ ?_ _) | (with_reducible refine Below.drew ?_) | (with_reducible refine below_drewN ?_ _) | (with_reducible refine Below.setCell ?_ ?_ _) | go_size))

set_option maxRecDepth 20000 in
set_option maxHeartbeats 2000000 in
theorem smeet_bad4 (k : Bool) (a b z t1 t2 t4 m : Int) (w : World) (g0 : ¬ t1 < 0) (g1 : ¬ t4 < t1) (g2 : ¬ 1099511627776 < t4) (g3 : ¬ t2 < -1125899906842624) (h : 1125899906842624 < t2) :
    Calls Try.prog 54 #[.agg #[.bool k, .int .i64 a, .int .i64 b, .int .i64 z], .int .i64 t1, .int .i64 t2, .int .i64 t4, .int .i64 m] w fun e w' => e = .returned (.tuple #[.agg #[.bool k, .int .i64 a, .int .i64 b, .int .i64 z], .int .i64 2]) ∧ Below w.heap.size w w' := by
  go_enter Try.func54, Try.ntmps54
  go_wp2
  refine bodyPost_ret (v := .tuple #[.agg #[.bool k, .int .i64 a, .int .i64 b, .int .i64 z], .int .i64 2]) (by simp [results, Try.results54, go_sem]) rfl ⟨rfl, ?_⟩
  (repeat' (first | (with_reducible exact Below.refl _ _) | (with_reducible assumption) | (with_reducible refine Below.alloc ?_ ?_ _) | (with_reducible refine Below.drew ?_) | (with_reducible refine below_drewN ?_ _) | (with_reducible refine Below.setCell ?_ ?_ _) | go_size))

set_option maxRecDepth 20000 in
set_option maxHeartbeats 2000000 in
theorem smeet_bad5 (a b z t1 t2 t4 m : Int) (w : World) (g0 : ¬ t1 < 0) (g1 : ¬ t4 < t1) (g2 : ¬ 1099511627776 < t4) (g3 : ¬ t2 < -1125899906842624) (g4 : ¬ 1125899906842624 < t2) (h : t4 < z) :
    Calls Try.prog 54 #[.agg #[.bool true, .int .i64 a, .int .i64 b, .int .i64 z], .int .i64 t1, .int .i64 t2, .int .i64 t4, .int .i64 m] w fun e w' => e = .returned (.tuple #[.agg #[.bool true, .int .i64 a, .int .i64 b, .int .i64 z], .int .i64 2]) ∧ Below w.heap.size w w' := by
  go_enter Try.func54, Try.ntmps54
  go_wp2
  refine bodyPost_ret (v := .tuple #[.agg #[.bool true, .int .i64 a, .int .i64 b, .int .i64 z], .int .i64 2]) (by simp [results, Try.results54, go_sem]) rfl ⟨rfl, ?_⟩
  (repeat' (first | (with_reducible exact Below.refl _ _) | (with_reducible assumption) | (with_reducible refine Below.alloc ?_ ?_ _) | (with_reducible refine Below.drew ?_) | (with_reducible refine below_drewN ?_ _) | (with_reducible refine Below.setCell ?_ ?_ _) | go_size))

set_option maxRecDepth 20000 in
set_option maxHeartbeats 2000000 in
theorem rsmeet_bad0 (k : Bool) (a b z t1 t2 t4 m : Int) (w : World)  (h : t1 < 0) :
    Calls Try.prog 56 #[.agg #[.bool k, .int .i64 a, .int .i64 b, .int .i64 z], .int .i64 t1, .int .i64 t2, .int .i64 t4, .int .i64 m] w fun e w' => e = .returned (.tuple #[.agg #[.bool k, .int .i64 a, .int .i64 b, .int .i64 z], .int .i64 2]) ∧ Below w.heap.size w w' := by
  go_enter Try.func56, Try.ntmps56
  go_wp2
  refine bodyPost_ret (v := .tuple #[.agg #[.bool k, .int .i64 a, .int .i64 b, .int .i64 z], .int .i64 2]) (by simp [results, Try.results56, go_sem]) rfl ⟨rfl, ?_⟩
  (repeat' (first | (with_reducible exact Below.refl _ _) | (with_reducible assumption) | (with_reducible refine Below.alloc ?_ ?_ _) | (with_reducible refine Below.drew ?_) | (with_reducible refine below_drewN ?_ _) | (with_reducible refine Below.setCell ?_ ?_ _) | go_size))

set_option maxRecDepth 20000 in
set_option maxHeartbeats 2000000 in
theorem rsmeet_bad1 (k : Bool) (a b z t1 t2 t4 m : Int) (w : World) (g0 : ¬ t1 < 0) (h : t4 < t1) :
    Calls Try.prog 56 #[.agg #[.bool k, .int .i64 a, .int .i64 b, .int .i64 z], .int .i64 t1, .int .i64 t2, .int .i64 t4, .int .i64 m] w fun e w' => e = .returned (.tuple #[.agg #[.bool k, .int .i64 a, .int .i64 b, .int .i64 z], .int .i64 2]) ∧ Below w.heap.size w w' := by
  go_enter Try.func56, Try.ntmps56
  go_wp2
  refine bodyPost_ret (v := .tuple #[.agg #[.bool k, .int .i64 a, .int .i64 b, .int .i64 z], .int .i64 2]) (by simp [results, Try.results56, go_sem]) rfl ⟨rfl, ?_⟩
  (repeat' (first | (with_reducible exact Below.refl _ _) | (with_reducible assumption) | (with_reducible refine Below.alloc ?_ ?_ _) | (with_reducible refine Below.drew ?_) | (with_reducible refine below_drewN ?_ _) | (with_reducible refine Below.setCell ?_ ?_ _) | go_size))

set_option maxRecDepth 20000 in
set_option maxHeartbeats 2000000 in
theorem rsmeet_bad2 (k : Bool) (a b z t1 t2 t4 m : Int) (w : World) (g0 : ¬ t1 < 0) (g1 : ¬ t4 < t1) (h : 1099511627776 < t4) :
    Calls Try.prog 56 #[.agg #[.bool k, .int .i64 a, .int .i64 b, .int .i64 z], .int .i64 t1, .int .i64 t2, .int .i64 t4, .int .i64 m] w fun e w' => e = .returned (.tuple #[.agg #[.bool k, .int .i64 a, .int .i64 b, .int .i64 z], .int .i64 2]) ∧ Below w.heap.size w w' := by
  go_enter Try.func56, Try.ntmps56
  go_wp2
  refine bodyPost_ret (v := .tuple #[.agg #[.bool k, .int .i64 a, .int .i64 b, .int .i64 z], .int .i64 2]) (by simp [results, Try.results56, go_sem]) rfl ⟨rfl, ?_⟩
  (repeat' (first | (with_reducible exact Below.refl _ _) | (with_reducible assumption) | (with_reducible refine Below.alloc ?_ ?_ _) | (with_reducible refine Below.drew ?_) | (with_reducible refine below_drewN ?_ _) | (with_reducible refine Below.setCell ?_ ?_ _) | go_size))

set_option maxRecDepth 20000 in
set_option maxHeartbeats 2000000 in
theorem rsmeet_bad3 (k : Bool) (a b z t1 t2 t4 m : Int) (w : World) (g0 : ¬ t1 < 0) (g1 : ¬ t4 < t1) (g2 : ¬ 1099511627776 < t4) (h : 1125899906842624 < t2) :
    Calls Try.prog 56 #[.agg #[.bool k, .int .i64 a, .int .i64 b, .int .i64 z], .int .i64 t1, .int .i64 t2, .int .i64 t4, .int .i64 m] w fun e w' => e = .returned (.tuple #[.agg #[.bool k, .int .i64 a, .int .i64 b, .int .i64 z], .int .i64 2]) ∧ Below w.heap.size w w' := by
  go_enter Try.func56, Try.ntmps56
  go_wp2
  refine bodyPost_ret (v := .tuple #[.agg #[.bool k, .int .i64 a, .int .i64 b, .int .i64 z], .int .i64 2]) (by simp [results, Try.results56, go_sem]) rfl ⟨rfl, ?_⟩
  (repeat' (first | (with_reducible exact Below.refl _ _) | (with_reducible assumption) | (with_reducible refine Below.alloc ?_ ?_ _) | (with_reducible refine Below.drew ?_) | (with_reducible refine below_drewN ?_ _) | (with_reducible refine Below.setCell ?_ ?_ _) | go_size))

set_option maxRecDepth 20000 in
set_option maxHeartbeats 2000000 in
theorem rsmeet_bad4 (k : Bool) (a b z t1 t2 t4 m : Int) (w : World) (g0 : ¬ t1 < 0) (g1 : ¬ t4 < t1) (g2 : ¬ 1099511627776 < t4) (g3 : ¬ 1125899906842624 < t2) (h : t2 < -1125899906842624) :
    Calls Try.prog 56 #[.agg #[.bool k, .int .i64 a, .int .i64 b, .int .i64 z], .int .i64 t1, .int .i64 t2, .int .i64 t4, .int .i64 m] w fun e w' => e = .returned (.tuple #[.agg #[.bool k, .int .i64 a, .int .i64 b, .int .i64 z], .int .i64 2]) ∧ Below w.heap.size w w' := by
  go_enter Try.func56, Try.ntmps56
  go_wp2
  refine bodyPost_ret (v := .tuple #[.agg #[.bool k, .int .i64 a, .int .i64 b, .int .i64 z], .int .i64 2]) (by simp [results, Try.results56, go_sem]) rfl ⟨rfl, ?_⟩
  (repeat' (first | (with_reducible exact Below.refl _ _) | (with_reducible assumption) | (with_reducible refine Below.alloc ?_ ?_ _) | (with_reducible refine Below.drew ?_) | (with_reducible refine below_drewN ?_ _) | (with_reducible refine Below.setCell ?_ ?_ _) | go_size))

set_option maxRecDepth 20000 in
set_option maxHeartbeats 2000000 in
theorem rsmeet_bad5 (a b z t1 t2 t4 m : Int) (w : World) (g0 : ¬ t1 < 0) (g1 : ¬ t4 < t1) (g2 : ¬ 1099511627776 < t4) (g3 : ¬ 1125899906842624 < t2) (g4 : ¬ t2 < -1125899906842624) (h : t4 < z) :
    Calls Try.prog 56 #[.agg #[.bool true, .int .i64 a, .int .i64 b, .int .i64 z], .int .i64 t1, .int .i64 t2, .int .i64 t4, .int .i64 m] w fun e w' => e = .returned (.tuple #[.agg #[.bool true, .int .i64 a, .int .i64 b, .int .i64 z], .int .i64 2]) ∧ Below w.heap.size w w' := by
  go_enter Try.func56, Try.ntmps56
  go_wp2
  refine bodyPost_ret (v := .tuple #[.agg #[.bool true, .int .i64 a, .int .i64 b, .int .i64 z], .int .i64 2]) (by simp [results, Try.results56, go_sem]) rfl ⟨rfl, ?_⟩
  (repeat' (first | (with_reducible exact Below.refl _ _) | (with_reducible assumption) | (with_reducible refine Below.alloc ?_ ?_ _) | (with_reducible refine Below.drew ?_) | (with_reducible refine below_drewN ?_ _) | (with_reducible refine Below.setCell ?_ ?_ _) | go_size))

end Go.Proofs.Ytgpeekmagckgcaa
