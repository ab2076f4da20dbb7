/- What is proved here: what each function of package span, and of its reference, returns, for every interval and number; each makes new blocks alone. Condition: none but that numbers fit where it is said. -/
import Derived.Test.YtgpeekmagckgcaaRows
import Derived.Test.YtgpeekmagckgcaaPl
import Derived.Test.YtgpeekmagckgcaaMem
import Derived.WalkKit
import Derived.WalkSpells
import Derived.WalkLawsBesides
import Derived.Handy
import Derived.Lib.Hide
namespace Go.Proofs.Ytgpeekmagckgcaa
open Go Go.RowKit
attribute [local go_sem] KW.cell KW.frozen

theorem ret_int {k : IntKind} {a b : Int} (h : a = b) : Ending.returned (.int k a) = .returned (.int k b) := by rw [h]
theorem ret_bool {a b : Bool} (h : a = b) : Ending.returned (.bool a) = .returned (.bool b) := by rw [h]
theorem ret_sp {a b c d : Int} (h : a = c) (k : b = d) : Ending.returned (.agg #[.int .i64 a, .int .i64 b]) = .returned (.agg #[.int .i64 c, .int .i64 d]) := by rw [h, k]

theorem eql24 (x y u v : Int) (w : World) : (binOp .eql 24 (.agg #[.int .i64 x, .int .i64 y]) (.agg #[.int .i64 u, .int .i64 v])).run Try.prog w = .ok (.bool (decide (x = u) && decide (y = v))) w := by
  by_cases h : x = u <;> by_cases k : y = v <;> simp [h, k, go_sem]

set_option maxHeartbeats 1000000 in
theorem near_c (n : Int) (w : World) :
    Calls Try.prog 67 #[.int .i64 n] w fun e w' => e = .returned (.int .i64 (Pl.nr n)) ∧ w = w' := by
  go_enter Try.func67, Try.ntmps67
  go_wp2
  all_goals
    go_ret
    exact ⟨ret_int (by unfold Pl.nr; omega), rfl⟩

set_option maxHeartbeats 1000000 in
theorem rnear_c (n : Int) (w : World) :
    Calls Try.prog 70 #[.int .i64 n] w fun e w' => e = .returned (.int .i64 (Pl.nr n)) ∧ w = w' := by
  go_enter Try.func70, Try.ntmps70
  go_wp2
  all_goals
    go_ret
    exact ⟨ret_int (by unfold Pl.nr; omega), rfl⟩

set_option maxHeartbeats 1000000 in
theorem nothing_c (w : World) :
    Calls Try.prog 52 #[] w fun e w' => e = .returned (.agg #[.int .i64 1, .int .i64 0]) ∧ Below w.heap.size w w' := by
  go_enter Try.func52, Try.ntmps52
  go_wp2
  go_returns
  refine ⟨rfl, ?_⟩
  go_grown

set_option maxHeartbeats 1000000 in
theorem clean_c (a b : Int) (w : World) :
    Calls Try.prog 40 #[.agg #[.int .i64 a, .int .i64 b]] w fun e w' => e = .returned (.agg #[.int .i64 (Pl.clo a b), .int .i64 (Pl.chi a b)]) ∧ Below w.heap.size w w' := by
  go_enter Try.func40, Try.ntmps40
  go_wp2_with fail
  refine wp_region_dw 7 (by kernel_rfl) (by kernel_rfl) ?_
  simp only [List.take_succ_cons, List.take_zero, List.drop_succ_cons, List.drop_zero]
  repeat (quiet_step ((go_at_call 67; exact quiet_eq (near_c _ _))))
  refine wpQuiet_nil ?_
  intro k
  by_cases h : Pl.nr b < Pl.nr a
  all_goals
    go_wp2
    go_returns
    refine ⟨ret_sp (by unfold Pl.clo; split <;> omega) (by unfold Pl.chi; split <;> omega), ?_⟩
    (repeat' (first | (with_reducible exact Below.refl _ _) | (with_reducible assumption) | (with_reducible refine Below.alloc ?_ ?_ _) | (with_reducible refine Below.drew ?_) | (with_reducible refine below_drewN ?_ _) | (with_reducible refine Below.setCell ?_ ?_ _) | go_size))

set_option maxHeartbeats 1000000 in
theorem rclean_c (a b : Int) (w : World) :
    Calls Try.prog 41 #[.agg #[.int .i64 a, .int .i64 b]] w fun e w' => e = .returned (.agg #[.int .i64 (Pl.clo a b), .int .i64 (Pl.chi a b)]) ∧ Below w.heap.size w w' := by
  go_enter Try.func41, Try.ntmps41
  go_wp2_with fail
  go_quiet ((go_at_call 70; exact quiet_eq (rnear_c _ _)))
  by_cases h : Pl.nr b < Pl.nr a
  all_goals
    go_wp2
    go_returns
    refine ⟨ret_sp (by unfold Pl.clo; split <;> omega) (by unfold Pl.chi; split <;> omega), ?_⟩
    (repeat' (first | (with_reducible exact Below.refl _ _) | (with_reducible assumption) | (with_reducible refine Below.alloc ?_ ?_ _) | (with_reducible refine Below.drew ?_) | (with_reducible refine below_drewN ?_ _) | (with_reducible refine Below.setCell ?_ ?_ _) | go_size))

set_option maxHeartbeats 1000000 in
theorem mine_c (a b : Int) (w : World) :
    Calls Try.prog 14 #[.agg #[.int .i64 a, .int .i64 b]] w fun e w' => e = .returned (.agg #[.int .i64 a, .int .i64 b]) ∧ Below w.heap.size w w' := by
  go_enter Try.func14, Try.ntmps14
  go_wp2
  go_returns
  refine ⟨rfl, ?_⟩
  go_grown

set_option maxHeartbeats 1000000 in
theorem has_c (a b x : Int) (w : World) :
    Calls Try.prog 15 #[.agg #[.int .i64 a, .int .i64 b], .int .i64 x] w fun e w' => e = .returned (.bool (Pl.has a b x)) ∧ Below w.heap.size w w' := by
  go_enter Try.func15, Try.ntmps15
  go_wp2_with fail
  refine (clean_c _ _ _).mono ?_
  rintro e w1 ⟨rfl, hb⟩
  have c0 : w1.cell? ⟨w.heap.size, 0, none⟩ = some (.int .i64 a) := (hb.cell (p := ⟨w.heap.size, 0, none⟩) (by go_size)).trans (by go_simp)
  have f0 : w1.frozen? ⟨w.heap.size, 0, none⟩ = false := (hb.frozen (p := ⟨w.heap.size, 0, none⟩) (by go_size)).trans (by go_simp)
  have c1 : w1.cell? ⟨w.heap.size, 1, none⟩ = some (.int .i64 b) := (hb.cell (p := ⟨w.heap.size, 1, none⟩) (by go_size)).trans (by go_simp)
  have f1 : w1.frozen? ⟨w.heap.size, 1, none⟩ = false := (hb.frozen (p := ⟨w.heap.size, 1, none⟩) (by go_size)).trans (by go_simp)
  have z2 : w.heap.size < w1.heap.size := Nat.lt_of_lt_of_le (by go_size) hb.size
  have hw : Below w.heap.size w w1 := Below.trans (by (repeat' (first | (with_reducible exact Below.refl _ _) | (with_reducible assumption) | (with_reducible refine Below.alloc ?_ ?_ _) | (with_reducible refine Below.drew ?_) | (with_reducible refine below_drewN ?_ _) | (with_reducible refine Below.setCell ?_ ?_ _) | go_size))) (hb.mono (by go_size))
  by_cases h1 : Pl.clo a b ≤ Pl.nr x
  · by_cases h2 : Pl.nr x ≤ Pl.chi a b
    · go_wp2_with (go_at_call 67; refine (near_c _ _).mono ?_; rintro e w' ⟨rfl, rfl⟩)
      go_ret
      exact ⟨ret_bool (by simp [Pl.has, h1, h2]), by (repeat' (first | (with_reducible exact Below.refl _ _) | (with_reducible assumption) | (with_reducible refine Below.alloc ?_ ?_ _) | (with_reducible refine Below.drew ?_) | (with_reducible refine below_drewN ?_ _) | (with_reducible refine Below.setCell ?_ ?_ _) | go_size))⟩
    · go_wp2_with (go_at_call 67; refine (near_c _ _).mono ?_; rintro e w' ⟨rfl, rfl⟩)
      go_ret
      exact ⟨ret_bool (by simp [Pl.has, h1]), by (repeat' (first | (with_reducible exact Below.refl _ _) | (with_reducible assumption) | (with_reducible refine Below.alloc ?_ ?_ _) | (with_reducible refine Below.drew ?_) | (with_reducible refine below_drewN ?_ _) | (with_reducible refine Below.setCell ?_ ?_ _) | go_size))⟩
  · go_wp2_with (go_at_call 67; refine (near_c _ _).mono ?_; rintro e w' ⟨rfl, rfl⟩)
    go_ret
    exact ⟨ret_bool (by simp [Pl.has]; omega), by (repeat' (first | (with_reducible exact Below.refl _ _) | (with_reducible assumption) | (with_reducible refine Below.alloc ?_ ?_ _) | (with_reducible refine Below.drew ?_) | (with_reducible refine below_drewN ?_ _) | (with_reducible refine Below.setCell ?_ ?_ _) | go_size))⟩

set_option maxHeartbeats 1000000 in
theorem meet_c (a b c d : Int) (w : World) :
    Calls Try.prog 16 #[.agg #[.int .i64 a, .int .i64 b], .agg #[.int .i64 c, .int .i64 d]] w fun e w' => e = .returned (.agg #[.int .i64 (Pl.mlo a b c d), .int .i64 (Pl.mhi a b c d)]) ∧ Below w.heap.size w w' := by
  go_enter Try.func16, Try.ntmps16
  go_wp2_with fail
  refine wp_region_kw 4 (by kernel_rfl) (by kernel_rfl) ?_
  simp only [List.take_succ_cons, List.take_zero, List.drop_succ_cons, List.drop_zero]
  repeat (quiet_step ((go_at_call 40; exact KW.call (clean_c _ _ _))))
  refine wpQuiet_nil ?_
  intro k
  have c0 : k.val.cell? ⟨w.heap.size, 0, none⟩ = some (.int .i64 a) := (k.kp.cell (p := ⟨w.heap.size, 0, none⟩) (by go_size)).trans (by go_simp)
  have f0 : k.val.frozen? ⟨w.heap.size, 0, none⟩ = false := (k.kp.frozen (p := ⟨w.heap.size, 0, none⟩) (by go_size)).trans (by go_simp)
  have c1 : k.val.cell? ⟨w.heap.size, 1, none⟩ = some (.int .i64 b) := (k.kp.cell (p := ⟨w.heap.size, 1, none⟩) (by go_size)).trans (by go_simp)
  have f1 : k.val.frozen? ⟨w.heap.size, 1, none⟩ = false := (k.kp.frozen (p := ⟨w.heap.size, 1, none⟩) (by go_size)).trans (by go_simp)
  have z2 : w.heap.size < k.val.heap.size := Nat.lt_of_lt_of_le (by go_size) k.kp.size
  have c2 : k.val.cell? ⟨w.heap.size + 1, 0, none⟩ = some (.int .i64 c) := (k.kp.cell (p := ⟨w.heap.size + 1, 0, none⟩) (by go_size)).trans (by go_simp)
  have f2 : k.val.frozen? ⟨w.heap.size + 1, 0, none⟩ = false := (k.kp.frozen (p := ⟨w.heap.size + 1, 0, none⟩) (by go_size)).trans (by go_simp)
  have c3 : k.val.cell? ⟨w.heap.size + 1, 1, none⟩ = some (.int .i64 d) := (k.kp.cell (p := ⟨w.heap.size + 1, 1, none⟩) (by go_size)).trans (by go_simp)
  have f3 : k.val.frozen? ⟨w.heap.size + 1, 1, none⟩ = false := (k.kp.frozen (p := ⟨w.heap.size + 1, 1, none⟩) (by go_size)).trans (by go_simp)
  have z4 : w.heap.size + 1 < k.val.heap.size := Nat.lt_of_lt_of_le (by go_size) k.kp.size
  have c4 : k.val.cell? ⟨w.heap.size + 1 + 1, 0, none⟩ = some (.int .i64 0) := (k.kp.cell (p := ⟨w.heap.size + 1 + 1, 0, none⟩) (by go_size)).trans (by go_simp)
  have f4 : k.val.frozen? ⟨w.heap.size + 1 + 1, 0, none⟩ = false := (k.kp.frozen (p := ⟨w.heap.size + 1 + 1, 0, none⟩) (by go_size)).trans (by go_simp)
  have c5 : k.val.cell? ⟨w.heap.size + 1 + 1, 1, none⟩ = some (.int .i64 0) := (k.kp.cell (p := ⟨w.heap.size + 1 + 1, 1, none⟩) (by go_size)).trans (by go_simp)
  have f5 : k.val.frozen? ⟨w.heap.size + 1 + 1, 1, none⟩ = false := (k.kp.frozen (p := ⟨w.heap.size + 1 + 1, 1, none⟩) (by go_size)).trans (by go_simp)
  have z6 : w.heap.size + 1 + 1 < k.val.heap.size := Nat.lt_of_lt_of_le (by go_size) k.kp.size
  have hw : Below w.heap.size w k.val := Below.trans (by (repeat' (first | (with_reducible exact Below.refl _ _) | (with_reducible assumption) | (with_reducible refine Below.alloc ?_ ?_ _) | (with_reducible refine Below.drew ?_) | (with_reducible refine below_drewN ?_ _) | (with_reducible refine Below.setCell ?_ ?_ _) | go_size))) (k.kp.mono (by go_size))
  go_wp2_with fail
  all_goals
    refine (clean_c _ _ _).mono ?_
    rintro e w2 ⟨rfl, hb2⟩
    have cr0 : w2.cell? ⟨w.heap.size + 1 + 1, 0, none⟩ = some (.int .i64 0) := (hb2.cell (p := ⟨w.heap.size + 1 + 1, 0, none⟩) (by go_size)).trans (by go_simp)
    have fr0 : w2.frozen? ⟨w.heap.size + 1 + 1, 0, none⟩ = false := (hb2.frozen (p := ⟨w.heap.size + 1 + 1, 0, none⟩) (by go_size)).trans (by go_simp)
    have cr1 : w2.cell? ⟨w.heap.size + 1 + 1, 1, none⟩ = some (.int .i64 0) := (hb2.cell (p := ⟨w.heap.size + 1 + 1, 1, none⟩) (by go_size)).trans (by go_simp)
    have fr1 : w2.frozen? ⟨w.heap.size + 1 + 1, 1, none⟩ = false := (hb2.frozen (p := ⟨w.heap.size + 1 + 1, 1, none⟩) (by go_size)).trans (by go_simp)
    have zr2 : w.heap.size + 1 + 1 < w2.heap.size := Nat.lt_of_lt_of_le (by go_size) hb2.size
    have hw2 : Below w.heap.size w w2 := Below.trans (by (repeat' (first | (with_reducible exact Below.refl _ _) | (with_reducible assumption) | (with_reducible refine Below.alloc ?_ ?_ _) | (with_reducible refine Below.drew ?_) | (with_reducible refine below_drewN ?_ _) | (with_reducible refine Below.setCell ?_ ?_ _) | go_size))) (hb2.mono (by go_size))
    go_wp2
    refine bodyPost_ret (v := .agg #[.int .i64 _, .int .i64 _]) (by simp [results, Try.results16, go_sem, cr0, cr1]; exact ⟨rfl, rfl⟩) rfl ⟨ret_sp ?_ ?_, ?_⟩
    · unfold Pl.mlo Pl.gmax Pl.gmin; (repeat' split) <;> first | rfl | omega
    · unfold Pl.mhi Pl.gmax Pl.gmin; (repeat' split) <;> first | rfl | omega
    · (repeat' (first | (with_reducible exact Below.refl _ _) | (with_reducible assumption) | (with_reducible refine Below.alloc ?_ ?_ _) | (with_reducible refine Below.drew ?_) | (with_reducible refine below_drewN ?_ _) | (with_reducible refine Below.setCell ?_ ?_ _) | go_size))
end Go.Proofs.Ytgpeekmagckgcaa
