/- What is proved here: what more functions of package span return. Condition: none. -/
import Derived.Test.YtgpeekmagckgcaaSw
namespace Go.Proofs.Ytgpeekmagckgcaa
open Go Go.RowKit
attribute [local go_sem] KW.cell KW.frozen
attribute [local go_sem ↓] eql24

set_option maxHeartbeats 1000000 in
theorem empty_c (a b : Int) (w : World) :
    Calls Try.prog 47 #[.agg #[.int .i64 a, .int .i64 b]] w fun e w' => e = .returned (.bool (Pl.emp a b)) ∧ Below w.heap.size w w' := by
  go_enter Try.func47, Try.ntmps47
  go_wp2_with fail
  refine (clean_c _ _ _).mono ?_
  rintro e w1 ⟨rfl, hb1⟩
  have hwb : Below w.heap.size w w1 := Below.trans (by (repeat' (first | (with_reducible exact Below.refl _ _) | (with_reducible assumption) | (with_reducible refine Below.alloc ?_ ?_ _) | (with_reducible refine Below.drew ?_) | (with_reducible refine below_drewN ?_ _) | (with_reducible refine Below.setCell ?_ ?_ _) | go_size))) (hb1.mono (by go_size))
  have hsb : w.heap.size ≤ w1.heap.size := hwb.size
  go_wp2_with fail
  refine (nothing_c _).mono ?_
  rintro e w2 ⟨rfl, hb2⟩
  have hwc : Below w.heap.size w w2 := Below.trans (by (repeat' (first | (with_reducible exact Below.refl _ _) | (with_reducible assumption) | (with_reducible refine Below.alloc ?_ ?_ _) | (with_reducible refine Below.drew ?_) | (with_reducible refine below_drewN ?_ _) | (with_reducible refine Below.setCell ?_ ?_ _) | go_size))) (hb2.mono (by go_size))
  have hsc : w.heap.size ≤ w2.heap.size := hwc.size
  clear hwb hsb hb1
  go_wp2
  go_ret
  exact ⟨ret_bool (Pl.emp_iff a b), by assumption⟩

set_option maxHeartbeats 1000000 in
theorem rempty_c (a b : Int) (w : World) :
    Calls Try.prog 48 #[.agg #[.int .i64 a, .int .i64 b]] w fun e w' => e = .returned (.bool (Pl.emp a b)) ∧ Below w.heap.size w w' := by
  go_enter Try.func48, Try.ntmps48
  go_wp2_with fail
  go_quiet ((go_at_call 70; exact quiet_eq (rnear_c _ _)))
  by_cases h : Pl.nr b < Pl.nr a
  all_goals
    go_wp2
    go_ret
    exact ⟨ret_bool (by simp [Pl.emp] <;> omega), by (repeat' (first | (with_reducible exact Below.refl _ _) | (with_reducible assumption) | (with_reducible refine Below.alloc ?_ ?_ _) | (with_reducible refine Below.drew ?_) | (with_reducible refine below_drewN ?_ _) | (with_reducible refine Below.setCell ?_ ?_ _) | go_size))⟩

set_option maxHeartbeats 1000000 in
theorem hull_c (a b c d : Int) (w : World) :
    Calls Try.prog 17 #[.agg #[.int .i64 a, .int .i64 b], .agg #[.int .i64 c, .int .i64 d]] w fun e w' => e = .returned (.agg #[.int .i64 (Pl.hlo a b c d), .int .i64 (Pl.hhi a b c d)]) ∧ Below w.heap.size w w' := by
  go_enter Try.func17, Try.ntmps17
  go_wp2_with fail
  refine wp_region_kw 4 (by kernel_rfl) (by kernel_rfl) ?_
  simp only [List.take_succ_cons, List.take_zero, List.drop_succ_cons, List.drop_zero]
  repeat (quiet_step ((go_at_call 40; exact KW.call (clean_c _ _ _))))
  refine wpQuiet_nil ?_
  intro k1
  have cb0 : k1.val.cell? ⟨w.heap.size, 0, none⟩ = some (.int .i64 a) := (k1.kp.cell (p := ⟨w.heap.size, 0, none⟩) (by go_size)).trans (by go_simp)
  have fb0 : k1.val.frozen? ⟨w.heap.size, 0, none⟩ = false := (k1.kp.frozen (p := ⟨w.heap.size, 0, none⟩) (by go_size)).trans (by go_simp)
  have cb1 : k1.val.cell? ⟨w.heap.size, 1, none⟩ = some (.int .i64 b) := (k1.kp.cell (p := ⟨w.heap.size, 1, none⟩) (by go_size)).trans (by go_simp)
  have fb1 : k1.val.frozen? ⟨w.heap.size, 1, none⟩ = false := (k1.kp.frozen (p := ⟨w.heap.size, 1, none⟩) (by go_size)).trans (by go_simp)
  have zb2 : w.heap.size < k1.val.heap.size := Nat.lt_of_lt_of_le (by go_size) k1.kp.size
  have cb2 : k1.val.cell? ⟨w.heap.size + 1, 0, none⟩ = some (.int .i64 c) := (k1.kp.cell (p := ⟨w.heap.size + 1, 0, none⟩) (by go_size)).trans (by go_simp)
  have fb2 : k1.val.frozen? ⟨w.heap.size + 1, 0, none⟩ = false := (k1.kp.frozen (p := ⟨w.heap.size + 1, 0, none⟩) (by go_size)).trans (by go_simp)
  have cb3 : k1.val.cell? ⟨w.heap.size + 1, 1, none⟩ = some (.int .i64 d) := (k1.kp.cell (p := ⟨w.heap.size + 1, 1, none⟩) (by go_size)).trans (by go_simp)
  have fb3 : k1.val.frozen? ⟨w.heap.size + 1, 1, none⟩ = false := (k1.kp.frozen (p := ⟨w.heap.size + 1, 1, none⟩) (by go_size)).trans (by go_simp)
  have zb4 : w.heap.size + 1 < k1.val.heap.size := Nat.lt_of_lt_of_le (by go_size) k1.kp.size
  have cb4 : k1.val.cell? ⟨w.heap.size + 1 + 1, 0, none⟩ = some (.int .i64 0) := (k1.kp.cell (p := ⟨w.heap.size + 1 + 1, 0, none⟩) (by go_size)).trans (by go_simp)
  have fb4 : k1.val.frozen? ⟨w.heap.size + 1 + 1, 0, none⟩ = false := (k1.kp.frozen (p := ⟨w.heap.size + 1 + 1, 0, none⟩) (by go_size)).trans (by go_simp)
  have cb5 : k1.val.cell? ⟨w.heap.size + 1 + 1, 1, none⟩ = some (.int .i64 0) := (k1.kp.cell (p := ⟨w.heap.size + 1 + 1, 1, none⟩) (by go_size)).trans (by go_simp)
  have fb5 : k1.val.frozen? ⟨w.heap.size + 1 + 1, 1, none⟩ = false := (k1.kp.frozen (p := ⟨w.heap.size + 1 + 1, 1, none⟩) (by go_size)).trans (by go_simp)
  have zb6 : w.heap.size + 1 + 1 < k1.val.heap.size := Nat.lt_of_lt_of_le (by go_size) k1.kp.size
  have hwb : Below w.heap.size w k1.val := Below.trans (by (repeat' (first | (with_reducible exact Below.refl _ _) | (with_reducible assumption) | (with_reducible refine Below.alloc ?_ ?_ _) | (with_reducible refine Below.drew ?_) | (with_reducible refine below_drewN ?_ _) | (with_reducible refine Below.setCell ?_ ?_ _) | go_size))) (k1.kp.mono (by go_size))
  have hsb : w.heap.size ≤ k1.val.heap.size := hwb.size
  cases he : Pl.emp (Pl.clo a b) (Pl.chi a b)
  ·
    go_wp2_with fail
    refine (empty_c _ _ _).mono ?_
    rintro e w2 ⟨rfl, hb2⟩
    have cc0 : w2.cell? ⟨w.heap.size, 0, none⟩ = some (.int .i64 (Pl.clo a b)) := (hb2.cell (p := ⟨w.heap.size, 0, none⟩) (by go_size)).trans (by go_simp)
    have fc0 : w2.frozen? ⟨w.heap.size, 0, none⟩ = false := (hb2.frozen (p := ⟨w.heap.size, 0, none⟩) (by go_size)).trans (by go_simp)
    have cc1 : w2.cell? ⟨w.heap.size, 1, none⟩ = some (.int .i64 (Pl.chi a b)) := (hb2.cell (p := ⟨w.heap.size, 1, none⟩) (by go_size)).trans (by go_simp)
    have fc1 : w2.frozen? ⟨w.heap.size, 1, none⟩ = false := (hb2.frozen (p := ⟨w.heap.size, 1, none⟩) (by go_size)).trans (by go_simp)
    have zc2 : w.heap.size < w2.heap.size := Nat.lt_of_lt_of_le (by go_size) hb2.size
    have cc2 : w2.cell? ⟨w.heap.size + 1, 0, none⟩ = some (.int .i64 (Pl.clo c d)) := (hb2.cell (p := ⟨w.heap.size + 1, 0, none⟩) (by go_size)).trans (by go_simp)
    have fc2 : w2.frozen? ⟨w.heap.size + 1, 0, none⟩ = false := (hb2.frozen (p := ⟨w.heap.size + 1, 0, none⟩) (by go_size)).trans (by go_simp)
    have cc3 : w2.cell? ⟨w.heap.size + 1, 1, none⟩ = some (.int .i64 (Pl.chi c d)) := (hb2.cell (p := ⟨w.heap.size + 1, 1, none⟩) (by go_size)).trans (by go_simp)
    have fc3 : w2.frozen? ⟨w.heap.size + 1, 1, none⟩ = false := (hb2.frozen (p := ⟨w.heap.size + 1, 1, none⟩) (by go_size)).trans (by go_simp)
    have zc4 : w.heap.size + 1 < w2.heap.size := Nat.lt_of_lt_of_le (by go_size) hb2.size
    have cc4 : w2.cell? ⟨w.heap.size + 1 + 1, 0, none⟩ = some (.int .i64 0) := (hb2.cell (p := ⟨w.heap.size + 1 + 1, 0, none⟩) (by go_size)).trans (by go_simp)
    have fc4 : w2.frozen? ⟨w.heap.size + 1 + 1, 0, none⟩ = false := (hb2.frozen (p := ⟨w.heap.size + 1 + 1, 0, none⟩) (by go_size)).trans (by go_simp)
    have cc5 : w2.cell? ⟨w.heap.size + 1 + 1, 1, none⟩ = some (.int .i64 0) := (hb2.cell (p := ⟨w.heap.size + 1 + 1, 1, none⟩) (by go_size)).trans (by go_simp)
    have fc5 : w2.frozen? ⟨w.heap.size + 1 + 1, 1, none⟩ = false := (hb2.frozen (p := ⟨w.heap.size + 1 + 1, 1, none⟩) (by go_size)).trans (by go_simp)
    have zc6 : w.heap.size + 1 + 1 < w2.heap.size := Nat.lt_of_lt_of_le (by go_size) hb2.size
    have hwc : Below w.heap.size w w2 := Below.trans (by (repeat' (first | (with_reducible exact Below.refl _ _) | (with_reducible assumption) | (with_reducible refine Below.alloc ?_ ?_ _) | (with_reducible refine Below.drew ?_) | (with_reducible refine below_drewN ?_ _) | (with_reducible refine Below.setCell ?_ ?_ _) | go_size))) (hb2.mono (by go_size))
    have hsc : w.heap.size ≤ w2.heap.size := hwc.size
    clear cb0 fb0 cb1 fb1 zb2 cb2 fb2 cb3 fb3 zb4 cb4 fb4 cb5 fb5 zb6 hwb hsb
    cases hf : Pl.emp (Pl.clo c d) (Pl.chi c d)
    ·
      go_wp2_with fail
      refine (empty_c _ _ _).mono ?_
      rintro e w3 ⟨rfl, hb3⟩
      have cd0 : w3.cell? ⟨w.heap.size, 0, none⟩ = some (.int .i64 (Pl.clo a b)) := (hb3.cell (p := ⟨w.heap.size, 0, none⟩) (by go_size)).trans (by go_simp)
      have fd0 : w3.frozen? ⟨w.heap.size, 0, none⟩ = false := (hb3.frozen (p := ⟨w.heap.size, 0, none⟩) (by go_size)).trans (by go_simp)
      have cd1 : w3.cell? ⟨w.heap.size, 1, none⟩ = some (.int .i64 (Pl.chi a b)) := (hb3.cell (p := ⟨w.heap.size, 1, none⟩) (by go_size)).trans (by go_simp)
      have fd1 : w3.frozen? ⟨w.heap.size, 1, none⟩ = false := (hb3.frozen (p := ⟨w.heap.size, 1, none⟩) (by go_size)).trans (by go_simp)
      have zd2 : w.heap.size < w3.heap.size := Nat.lt_of_lt_of_le (by go_size) hb3.size
      have cd2 : w3.cell? ⟨w.heap.size + 1, 0, none⟩ = some (.int .i64 (Pl.clo c d)) := (hb3.cell (p := ⟨w.heap.size + 1, 0, none⟩) (by go_size)).trans (by go_simp)
      have fd2 : w3.frozen? ⟨w.heap.size + 1, 0, none⟩ = false := (hb3.frozen (p := ⟨w.heap.size + 1, 0, none⟩) (by go_size)).trans (by go_simp)
      have cd3 : w3.cell? ⟨w.heap.size + 1, 1, none⟩ = some (.int .i64 (Pl.chi c d)) := (hb3.cell (p := ⟨w.heap.size + 1, 1, none⟩) (by go_size)).trans (by go_simp)
      have fd3 : w3.frozen? ⟨w.heap.size + 1, 1, none⟩ = false := (hb3.frozen (p := ⟨w.heap.size + 1, 1, none⟩) (by go_size)).trans (by go_simp)
      have zd4 : w.heap.size + 1 < w3.heap.size := Nat.lt_of_lt_of_le (by go_size) hb3.size
      have cd4 : w3.cell? ⟨w.heap.size + 1 + 1, 0, none⟩ = some (.int .i64 0) := (hb3.cell (p := ⟨w.heap.size + 1 + 1, 0, none⟩) (by go_size)).trans (by go_simp)
      have fd4 : w3.frozen? ⟨w.heap.size + 1 + 1, 0, none⟩ = false := (hb3.frozen (p := ⟨w.heap.size + 1 + 1, 0, none⟩) (by go_size)).trans (by go_simp)
      have cd5 : w3.cell? ⟨w.heap.size + 1 + 1, 1, none⟩ = some (.int .i64 0) := (hb3.cell (p := ⟨w.heap.size + 1 + 1, 1, none⟩) (by go_size)).trans (by go_simp)
      have fd5 : w3.frozen? ⟨w.heap.size + 1 + 1, 1, none⟩ = false := (hb3.frozen (p := ⟨w.heap.size + 1 + 1, 1, none⟩) (by go_size)).trans (by go_simp)
      have zd6 : w.heap.size + 1 + 1 < w3.heap.size := Nat.lt_of_lt_of_le (by go_size) hb3.size
      have hwd : Below w.heap.size w w3 := Below.trans (by (repeat' (first | (with_reducible exact Below.refl _ _) | (with_reducible assumption) | (with_reducible refine Below.alloc ?_ ?_ _) | (with_reducible refine Below.drew ?_) | (with_reducible refine below_drewN ?_ _) | (with_reducible refine Below.setCell ?_ ?_ _) | go_size))) (hb3.mono (by go_size))
      have hsd : w.heap.size ≤ w3.heap.size := hwd.size
      clear cc0 fc0 cc1 fc1 zc2 cc2 fc2 cc3 fc3 zc4 cc4 fc4 cc5 fc5 zc6 hwc hsc hb2
      go_wp2
      all_goals
        refine bodyPost_ret (v := .agg #[.int .i64 _, .int .i64 _]) (by simp [results, Try.results17, go_sem, cd4, cd5]; exact ⟨rfl, rfl⟩) rfl ⟨ret_sp ?_ ?_, ?_⟩
        · simp [Pl.hlo, Pl.gmin, he, hf] <;> omega
        · simp [Pl.hhi, Pl.gmax, he, hf] <;> omega
        · (repeat' (first | (with_reducible exact Below.refl _ _) | (with_reducible assumption) | (with_reducible refine Below.alloc ?_ ?_ _) | (with_reducible refine Below.drew ?_) | (with_reducible refine below_drewN ?_ _) | (with_reducible refine Below.setCell ?_ ?_ _) | go_size))
    ·
      go_wp2_with fail
      refine (empty_c _ _ _).mono ?_
      rintro e w3 ⟨rfl, hb3⟩
      have cd0 : w3.cell? ⟨w.heap.size, 0, none⟩ = some (.int .i64 (Pl.clo a b)) := (hb3.cell (p := ⟨w.heap.size, 0, none⟩) (by go_size)).trans (by go_simp)
      have fd0 : w3.frozen? ⟨w.heap.size, 0, none⟩ = false := (hb3.frozen (p := ⟨w.heap.size, 0, none⟩) (by go_size)).trans (by go_simp)
      have cd1 : w3.cell? ⟨w.heap.size, 1, none⟩ = some (.int .i64 (Pl.chi a b)) := (hb3.cell (p := ⟨w.heap.size, 1, none⟩) (by go_size)).trans (by go_simp)
      have fd1 : w3.frozen? ⟨w.heap.size, 1, none⟩ = false := (hb3.frozen (p := ⟨w.heap.size, 1, none⟩) (by go_size)).trans (by go_simp)
      have zd2 : w.heap.size < w3.heap.size := Nat.lt_of_lt_of_le (by go_size) hb3.size
      have cd2 : w3.cell? ⟨w.heap.size + 1, 0, none⟩ = some (.int .i64 (Pl.clo c d)) := (hb3.cell (p := ⟨w.heap.size + 1, 0, none⟩) (by go_size)).trans (by go_simp)
      have fd2 : w3.frozen? ⟨w.heap.size + 1, 0, none⟩ = false := (hb3.frozen (p := ⟨w.heap.size + 1, 0, none⟩) (by go_size)).trans (by go_simp)
      have cd3 : w3.cell? ⟨w.heap.size + 1, 1, none⟩ = some (.int .i64 (Pl.chi c d)) := (hb3.cell (p := ⟨w.heap.size + 1, 1, none⟩) (by go_size)).trans (by go_simp)
      have fd3 : w3.frozen? ⟨w.heap.size + 1, 1, none⟩ = false := (hb3.frozen (p := ⟨w.heap.size + 1, 1, none⟩) (by go_size)).trans (by go_simp)
      have zd4 : w.heap.size + 1 < w3.heap.size := Nat.lt_of_lt_of_le (by go_size) hb3.size
      have cd4 : w3.cell? ⟨w.heap.size + 1 + 1, 0, none⟩ = some (.int .i64 0) := (hb3.cell (p := ⟨w.heap.size + 1 + 1, 0, none⟩) (by go_size)).trans (by go_simp)
      have fd4 : w3.frozen? ⟨w.heap.size + 1 + 1, 0, none⟩ = false := (hb3.frozen (p := ⟨w.heap.size + 1 + 1, 0, none⟩) (by go_size)).trans (by go_simp)
      have cd5 : w3.cell? ⟨w.heap.size + 1 + 1, 1, none⟩ = some (.int .i64 0) := (hb3.cell (p := ⟨w.heap.size + 1 + 1, 1, none⟩) (by go_size)).trans (by go_simp)
      have fd5 : w3.frozen? ⟨w.heap.size + 1 + 1, 1, none⟩ = false := (hb3.frozen (p := ⟨w.heap.size + 1 + 1, 1, none⟩) (by go_size)).trans (by go_simp)
      have zd6 : w.heap.size + 1 + 1 < w3.heap.size := Nat.lt_of_lt_of_le (by go_size) hb3.size
      have hwd : Below w.heap.size w w3 := Below.trans (by (repeat' (first | (with_reducible exact Below.refl _ _) | (with_reducible assumption) | (with_reducible refine Below.alloc ?_ ?_ _) | (with_reducible refine Below.drew ?_) | (with_reducible refine below_drewN ?_ _) | (with_reducible refine Below.setCell ?_ ?_ _) | go_size))) (hb3.mono (by go_size))
      have hsd : w.heap.size ≤ w3.heap.size := hwd.size
      clear cc0 fc0 cc1 fc1 zc2 cc2 fc2 cc3 fc3 zc4 cc4 fc4 cc5 fc5 zc6 hwc hsc hb2
      go_wp2
      refine bodyPost_ret (v := .agg #[.int .i64 _, .int .i64 _]) (by simp [results, Try.results17, go_sem, cd4, cd5]; exact ⟨rfl, rfl⟩) rfl ⟨ret_sp ?_ ?_, ?_⟩
      · unfold Pl.hlo; simp [*]
      · unfold Pl.hhi; simp [*]
      · (repeat' (first | (with_reducible exact Below.refl _ _) | (with_reducible assumption) | (with_reducible refine Below.alloc ?_ ?_ _) | (with_reducible refine Below.drew ?_) | (with_reducible refine below_drewN ?_ _) | (with_reducible refine Below.setCell ?_ ?_ _) | go_size))
  ·
    go_wp2_with fail
    refine (empty_c _ _ _).mono ?_
    rintro e w2 ⟨rfl, hb2⟩
    have cc0 : w2.cell? ⟨w.heap.size, 0, none⟩ = some (.int .i64 (Pl.clo a b)) := (hb2.cell (p := ⟨w.heap.size, 0, none⟩) (by go_size)).trans (by go_simp)
    have fc0 : w2.frozen? ⟨w.heap.size, 0, none⟩ = false := (hb2.frozen (p := ⟨w.heap.size, 0, none⟩) (by go_size)).trans (by go_simp)
    have cc1 : w2.cell? ⟨w.heap.size, 1, none⟩ = some (.int .i64 (Pl.chi a b)) := (hb2.cell (p := ⟨w.heap.size, 1, none⟩) (by go_size)).trans (by go_simp)
    have fc1 : w2.frozen? ⟨w.heap.size, 1, none⟩ = false := (hb2.frozen (p := ⟨w.heap.size, 1, none⟩) (by go_size)).trans (by go_simp)
    have zc2 : w.heap.size < w2.heap.size := Nat.lt_of_lt_of_le (by go_size) hb2.size
    have cc2 : w2.cell? ⟨w.heap.size + 1, 0, none⟩ = some (.int .i64 (Pl.clo c d)) := (hb2.cell (p := ⟨w.heap.size + 1, 0, none⟩) (by go_size)).trans (by go_simp)
    have fc2 : w2.frozen? ⟨w.heap.size + 1, 0, none⟩ = false := (hb2.frozen (p := ⟨w.heap.size + 1, 0, none⟩) (by go_size)).trans (by go_simp)
    have cc3 : w2.cell? ⟨w.heap.size + 1, 1, none⟩ = some (.int .i64 (Pl.chi c d)) := (hb2.cell (p := ⟨w.heap.size + 1, 1, none⟩) (by go_size)).trans (by go_simp)
    have fc3 : w2.frozen? ⟨w.heap.size + 1, 1, none⟩ = false := (hb2.frozen (p := ⟨w.heap.size + 1, 1, none⟩) (by go_size)).trans (by go_simp)
    have zc4 : w.heap.size + 1 < w2.heap.size := Nat.lt_of_lt_of_le (by go_size) hb2.size
    have cc4 : w2.cell? ⟨w.heap.size + 1 + 1, 0, none⟩ = some (.int .i64 0) := (hb2.cell (p := ⟨w.heap.size + 1 + 1, 0, none⟩) (by go_size)).trans (by go_simp)
    have fc4 : w2.frozen? ⟨w.heap.size + 1 + 1, 0, none⟩ = false := (hb2.frozen (p := ⟨w.heap.size + 1 + 1, 0, none⟩) (by go_size)).trans (by go_simp)
    have cc5 : w2.cell? ⟨w.heap.size + 1 + 1, 1, none⟩ = some (.int .i64 0) := (hb2.cell (p := ⟨w.heap.size + 1 + 1, 1, none⟩) (by go_size)).trans (by go_simp)
    have fc5 : w2.frozen? ⟨w.heap.size + 1 + 1, 1, none⟩ = false := (hb2.frozen (p := ⟨w.heap.size + 1 + 1, 1, none⟩) (by go_size)).trans (by go_simp)
    have zc6 : w.heap.size + 1 + 1 < w2.heap.size := Nat.lt_of_lt_of_le (by go_size) hb2.size
    have hwc : Below w.heap.size w w2 := Below.trans (by (repeat' (first | (with_reducible exact Below.refl _ _) | (with_reducible assumption) | (with_reducible refine Below.alloc ?_ ?_ _) | (with_reducible refine Below.drew ?_) | (with_reducible refine below_drewN ?_ _) | (with_reducible refine Below.setCell ?_ ?_ _) | go_size))) (hb2.mono (by go_size))
    have hsc : w.heap.size ≤ w2.heap.size := hwc.size
    clear cb0 fb0 cb1 fb1 zb2 cb2 fb2 cb3 fb3 zb4 cb4 fb4 cb5 fb5 zb6 hwb hsb
    go_wp2
    refine bodyPost_ret (v := .agg #[.int .i64 _, .int .i64 _]) (by simp [results, Try.results17, go_sem, cc4, cc5]; exact ⟨rfl, rfl⟩) rfl ⟨ret_sp ?_ ?_, ?_⟩
    · unfold Pl.hlo; simp [*]
    · unfold Pl.hhi; simp [*]
    · (repeat' (first | (with_reducible exact Below.refl _ _) | (with_reducible assumption) | (with_reducible refine Below.alloc ?_ ?_ _) | (with_reducible refine Below.drew ?_) | (with_reducible refine below_drewN ?_ _) | (with_reducible refine Below.setCell ?_ ?_ _) | go_size))

set_option maxHeartbeats 1000000 in
theorem within_c (a b c d : Int) (w : World) :
    Calls Try.prog 18 #[.agg #[.int .i64 a, .int .i64 b], .agg #[.int .i64 c, .int .i64 d]] w fun e w' => e = .returned (.bool (Pl.wit a b c d)) ∧ Below w.heap.size w w' := by
  go_enter Try.func18, Try.ntmps18
  go_wp2_with fail
  refine wp_region_kq (by kernel_rfl) (by kernel_rfl) ?_
  repeat (quiet_step ((first | (go_at_call 40; exact KW.call (clean_c _ _ _)) | (go_at_call 16; exact KW.call (meet_c _ _ _ _ _)))))
  refine wpQuiet_nil ?_
  intro k1
  have cb0 : k1.val.cell? ⟨w.heap.size, 0, none⟩ = some (.int .i64 a) := (k1.kp.cell (p := ⟨w.heap.size, 0, none⟩) (by go_size)).trans (by go_simp)
  have fb0 : k1.val.frozen? ⟨w.heap.size, 0, none⟩ = false := (k1.kp.frozen (p := ⟨w.heap.size, 0, none⟩) (by go_size)).trans (by go_simp)
  have cb1 : k1.val.cell? ⟨w.heap.size, 1, none⟩ = some (.int .i64 b) := (k1.kp.cell (p := ⟨w.heap.size, 1, none⟩) (by go_size)).trans (by go_simp)
  have fb1 : k1.val.frozen? ⟨w.heap.size, 1, none⟩ = false := (k1.kp.frozen (p := ⟨w.heap.size, 1, none⟩) (by go_size)).trans (by go_simp)
  have zb2 : w.heap.size < k1.val.heap.size := Nat.lt_of_lt_of_le (by go_size) k1.kp.size
  have cb2 : k1.val.cell? ⟨w.heap.size + 1, 0, none⟩ = some (.int .i64 c) := (k1.kp.cell (p := ⟨w.heap.size + 1, 0, none⟩) (by go_size)).trans (by go_simp)
  have fb2 : k1.val.frozen? ⟨w.heap.size + 1, 0, none⟩ = false := (k1.kp.frozen (p := ⟨w.heap.size + 1, 0, none⟩) (by go_size)).trans (by go_simp)
  have cb3 : k1.val.cell? ⟨w.heap.size + 1, 1, none⟩ = some (.int .i64 d) := (k1.kp.cell (p := ⟨w.heap.size + 1, 1, none⟩) (by go_size)).trans (by go_simp)
  have fb3 : k1.val.frozen? ⟨w.heap.size + 1, 1, none⟩ = false := (k1.kp.frozen (p := ⟨w.heap.size + 1, 1, none⟩) (by go_size)).trans (by go_simp)
  have zb4 : w.heap.size + 1 < k1.val.heap.size := Nat.lt_of_lt_of_le (by go_size) k1.kp.size
  have hwb : Below w.heap.size w k1.val := Below.trans (by (repeat' (first | (with_reducible exact Below.refl _ _) | (with_reducible assumption) | (with_reducible refine Below.alloc ?_ ?_ _) | (with_reducible refine Below.drew ?_) | (with_reducible refine below_drewN ?_ _) | (with_reducible refine Below.setCell ?_ ?_ _) | go_size))) (k1.kp.mono (by go_size))
  have hsb : w.heap.size ≤ k1.val.heap.size := hwb.size
  go_wp2
  all_goals
    go_ret
    exact ⟨ret_bool (by simp [Pl.wit, *]), by assumption⟩

end Go.Proofs.Ytgpeekmagckgcaa
