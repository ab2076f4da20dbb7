/- What is proved here: what the functions of package span's reference return. Condition: none but that the numbers of 'Moved' are bounded where it is said. -/
import Derived.Test.YtgpeekmagckgcaaSy
import Derived.Test.YtgpeekmagckgcaaPm
namespace Go.Proofs.Ytgpeekmagckgcaa
open Go Go.RowKit
attribute [local go_sem] KW.cell KW.frozen
attribute [local go_sem ↓] eql24

theorem eql23 (x y u v : Int) (w : World) : (binOp .eql 23 (.agg #[.int .i64 x, .int .i64 y]) (.agg #[.int .i64 u, .int .i64 v])).run Try.prog w = .ok (.bool (decide (x = u) && decide (y = v))) w := by
  by_cases h : x = u <;> by_cases k : y = v <;> simp [h, k, go_sem]

theorem fld0 (x y : Int) (w : World) : (Instr.field 23 (.agg #[.int .i64 x, .int .i64 y]) 0).run Try.prog w = .ok (.int .i64 x) w := by kernel_rfl
theorem fld1 (x y : Int) (w : World) : (Instr.field 23 (.agg #[.int .i64 x, .int .i64 y]) 1).run Try.prog w = .ok (.int .i64 y) w := by kernel_rfl
attribute [local go_sem] fld0 fld1

set_option maxHeartbeats 1000000 in
theorem rmeet_c (a b c d : Int) (w : World) :
    Calls Try.prog 42 #[.agg #[.int .i64 a, .int .i64 b], .agg #[.int .i64 c, .int .i64 d]] w fun e w' => e = .returned (.agg #[.int .i64 (Pl.mlo a b c d), .int .i64 (Pl.mhi a b c d)]) ∧ Below w.heap.size w w' := by
  go_enter Try.func42, Try.ntmps42
  go_wp2_with fail
  refine (rclean_c _ _ _).mono ?_
  rintro e w1 ⟨rfl, hb1⟩
  have cb0 : w1.cell? ⟨w.heap.size, 0, none⟩ = some (.int .i64 a) := (hb1.cell (p := ⟨w.heap.size, 0, none⟩) (by go_size)).trans (by go_simp)
  have fb0 : w1.frozen? ⟨w.heap.size, 0, none⟩ = false := (hb1.frozen (p := ⟨w.heap.size, 0, none⟩) (by go_size)).trans (by go_simp)
  have cb1 : w1.cell? ⟨w.heap.size, 1, none⟩ = some (.int .i64 b) := (hb1.cell (p := ⟨w.heap.size, 1, none⟩) (by go_size)).trans (by go_simp)
  have fb1 : w1.frozen? ⟨w.heap.size, 1, none⟩ = false := (hb1.frozen (p := ⟨w.heap.size, 1, none⟩) (by go_size)).trans (by go_simp)
  have zb2 : w.heap.size < w1.heap.size := Nat.lt_of_lt_of_le (by go_size) hb1.size
  have cb2 : w1.cell? ⟨w.heap.size + 1, 0, none⟩ = some (.int .i64 c) := (hb1.cell (p := ⟨w.heap.size + 1, 0, none⟩) (by go_size)).trans (by go_simp)
  have fb2 : w1.frozen? ⟨w.heap.size + 1, 0, none⟩ = false := (hb1.frozen (p := ⟨w.heap.size + 1, 0, none⟩) (by go_size)).trans (by go_simp)
  have cb3 : w1.cell? ⟨w.heap.size + 1, 1, none⟩ = some (.int .i64 d) := (hb1.cell (p := ⟨w.heap.size + 1, 1, none⟩) (by go_size)).trans (by go_simp)
  have fb3 : w1.frozen? ⟨w.heap.size + 1, 1, none⟩ = false := (hb1.frozen (p := ⟨w.heap.size + 1, 1, none⟩) (by go_size)).trans (by go_simp)
  have zb4 : w.heap.size + 1 < w1.heap.size := Nat.lt_of_lt_of_le (by go_size) hb1.size
  have cb4 : w1.cell? ⟨w.heap.size + 1 + 1, 0, none⟩ = some (.int .i64 0) := (hb1.cell (p := ⟨w.heap.size + 1 + 1, 0, none⟩) (by go_size)).trans (by go_simp)
  have fb4 : w1.frozen? ⟨w.heap.size + 1 + 1, 0, none⟩ = false := (hb1.frozen (p := ⟨w.heap.size + 1 + 1, 0, none⟩) (by go_size)).trans (by go_simp)
  have cb5 : w1.cell? ⟨w.heap.size + 1 + 1, 1, none⟩ = some (.int .i64 0) := (hb1.cell (p := ⟨w.heap.size + 1 + 1, 1, none⟩) (by go_size)).trans (by go_simp)
  have fb5 : w1.frozen? ⟨w.heap.size + 1 + 1, 1, none⟩ = false := (hb1.frozen (p := ⟨w.heap.size + 1 + 1, 1, none⟩) (by go_size)).trans (by go_simp)
  have zb6 : w.heap.size + 1 + 1 < w1.heap.size := Nat.lt_of_lt_of_le (by go_size) hb1.size
  have hwb : Below w.heap.size w w1 := Below.trans (by (repeat' (first | (with_reducible exact Below.refl _ _) | (with_reducible assumption) | (with_reducible refine Below.alloc ?_ ?_ _) | (with_reducible refine Below.drew ?_) | (with_reducible refine below_drewN ?_ _) | (with_reducible refine Below.setCell ?_ ?_ _) | go_size))) (hb1.mono (by go_size))
  have hsb : w.heap.size ≤ w1.heap.size := hwb.size
  go_wp2_with fail
  refine (rclean_c _ _ _).mono ?_
  rintro e w2 ⟨rfl, hb2⟩
  have cc0 : w2.cell? ⟨w.heap.size, 0, none⟩ = some (.int .i64 (Pl.clo a b)) := (hb2.cell (p := ⟨w.heap.size, 0, none⟩) (by go_size)).trans (by go_simp)
  have fc0 : w2.frozen? ⟨w.heap.size, 0, none⟩ = false := (hb2.frozen (p := ⟨w.heap.size, 0, none⟩) (by go_size)).trans (by go_simp)
  have cc1 : w2.cell? ⟨w.heap.size, 1, none⟩ = some (.int .i64 (Pl.chi a b)) := (hb2.cell (p := ⟨w.heap.size, 1, none⟩) (by go_size)).trans (by go_simp)
  have fc1 : w2.frozen? ⟨w.heap.size, 1, none⟩ = false := (hb2.frozen (p := ⟨w.heap.size, 1, none⟩) (by go_size)).trans (by go_simp)
  have zc2 : w.heap.size < w2.heap.size := Nat.lt_of_lt_of_le (by go_size) hb2.size
  have cc2 : w2.cell? ⟨w.heap.size + 1, 0, none⟩ = some (.int .i64 c) := (hb2.cell (p := ⟨w.heap.size + 1, 0, none⟩) (by go_size)).trans (by go_simp)
  have fc2 : w2.frozen? ⟨w.heap.size + 1, 0, none⟩ = false := (hb2.frozen (p := ⟨w.heap.size + 1, 0, none⟩) (by go_size)).trans (by go_simp)
  have cc3 : w2.cell? ⟨w.heap.size + 1, 1, none⟩ = some (.int .i64 d) := (hb2.cell (p := ⟨w.heap.size + 1, 1, none⟩) (by go_size)).trans (by go_simp)
  have fc3 : w2.frozen? ⟨w.heap.size + 1, 1, none⟩ = false := (hb2.frozen (p := ⟨w.heap.size + 1, 1, none⟩) (by go_size)).trans (by go_simp)
  have zc4 : w.heap.size + 1 < w2.heap.size := Nat.lt_of_lt_of_le (by go_size) hb2.size
  have cc4 : w2.cell? ⟨w.heap.size + 1 + 1, 0, none⟩ = some (.int .i64 0) := (hb2.cell (p := ⟨w.heap.size + 1 + 1, 0, none⟩) (by go_size)).trans (by go_simp)
  have fc4 : w2.frozen? ⟨w.heap.size + 1 + 1, 0, none⟩ = false := (hb2.frozen (p := ⟨w.heap.size + 1 + 1, 0, none⟩) (by go_size)).trans (by go_simp)
  have cc5 : w2.cell? ⟨w.heap.size + 1 + 1, 1, none⟩ = some (.int .i64 0) := (hb2.cell (p := ⟨w.heap.size + 1 + 1, 1, none⟩) (by go_size)).trans (by go_simp)
  have fc5 : w2.frozen? ⟨w.heap.size + 1 + 1, 1, none⟩ = false := (hb2.frozen (p := ⟨w.heap.size + 1 + 1, 1, none⟩) (by go_size)).trans (by go_simp)
  have zc6 : w.heap.size + 1 + 1 < w2.heap.size := Nat.lt_of_lt_of_le (by go_size) hb2.size
  have hwc : Below w.heap.size w w2 := Below.trans (by (repeat' (first | (with_reducible exact Below.refl _ _) | (with_reducible assumption) | (with_reducible refine Below.alloc ?_ ?_ _) | (with_reducible refine Below.drew ?_) | (with_reducible refine below_drewN ?_ _) | (with_reducible refine Below.setCell ?_ ?_ _) | go_size))) (hb2.mono (by go_size))
  have hsc : w.heap.size ≤ w2.heap.size := hwc.size
  clear cb0 fb0 cb1 fb1 zb2 cb2 fb2 cb3 fb3 zb4 cb4 fb4 cb5 fb5 zb6 hwb hsb hb1
  by_cases h1 : Pl.clo a b < Pl.clo c d
  all_goals by_cases h2 : Pl.chi c d < Pl.chi a b
  all_goals
    go_wp2_with fail
    refine (rclean_c _ _ _).mono ?_
    rintro e w3 ⟨rfl, hb3⟩
    have cd0 : w3.cell? ⟨w.heap.size + 1 + 1, 0, none⟩ = some (.int .i64 0) := (hb3.cell (p := ⟨w.heap.size + 1 + 1, 0, none⟩) (by go_size)).trans (by go_simp)
    have fd0 : w3.frozen? ⟨w.heap.size + 1 + 1, 0, none⟩ = false := (hb3.frozen (p := ⟨w.heap.size + 1 + 1, 0, none⟩) (by go_size)).trans (by go_simp)
    have cd1 : w3.cell? ⟨w.heap.size + 1 + 1, 1, none⟩ = some (.int .i64 0) := (hb3.cell (p := ⟨w.heap.size + 1 + 1, 1, none⟩) (by go_size)).trans (by go_simp)
    have fd1 : w3.frozen? ⟨w.heap.size + 1 + 1, 1, none⟩ = false := (hb3.frozen (p := ⟨w.heap.size + 1 + 1, 1, none⟩) (by go_size)).trans (by go_simp)
    have zd2 : w.heap.size + 1 + 1 < w3.heap.size := Nat.lt_of_lt_of_le (by go_size) hb3.size
    have hwd : Below w.heap.size w w3 := Below.trans (by (repeat' (first | (with_reducible exact Below.refl _ _) | (with_reducible assumption) | (with_reducible refine Below.alloc ?_ ?_ _) | (with_reducible refine Below.drew ?_) | (with_reducible refine below_drewN ?_ _) | (with_reducible refine Below.setCell ?_ ?_ _) | go_size))) (hb3.mono (by go_size))
    have hsd : w.heap.size ≤ w3.heap.size := hwd.size
    clear cc0 fc0 cc1 fc1 zc2 cc2 fc2 cc3 fc3 zc4 cc4 fc4 cc5 fc5 zc6 hwc hsc hb2
    go_wp2
    refine bodyPost_ret (v := .agg #[.int .i64 _, .int .i64 _]) (by simp [results, Try.results42, go_sem, cd0, cd1]; exact ⟨rfl, rfl⟩) rfl ⟨ret_sp ?_ ?_, ?_⟩
    · unfold Pl.mlo Pl.gmax Pl.gmin; (repeat' split) <;> first | rfl | omega
    · unfold Pl.mhi Pl.gmax Pl.gmin; (repeat' split) <;> first | rfl | omega
    · (repeat' (first | (with_reducible exact Below.refl _ _) | (with_reducible assumption) | (with_reducible refine Below.alloc ?_ ?_ _) | (with_reducible refine Below.drew ?_) | (with_reducible refine below_drewN ?_ _) | (with_reducible refine Below.setCell ?_ ?_ _) | go_size))

set_option maxHeartbeats 1000000 in
theorem moved_c (a b y z : Int) (w : World) :
    Calls Try.prog 44 #[.agg #[.int .i64 a, .int .i64 b], .int .i64 y, .int .i64 z] w fun e w' => e = .returned (.agg #[.int .i64 (Pl.vlo a b y z), .int .i64 (Pl.vhi a b y z)]) ∧ Below w.heap.size w w' := by
  have q1 := Pl.clo_bd a b
  have q2 := Pl.chi_bd a b
  have q3 := Pl.nr_bd y
  have q4 := Pl.nr_bd z
  cases he : Pl.emp a b
  ·
    go_enter Try.func44, Try.ntmps44
    go_wp2_with fail
    refine (rempty_c _ _ _).mono ?_
    rintro e w1 ⟨rfl, hb1⟩
    have cb0 : w1.cell? ⟨w.heap.size, 0, none⟩ = some (.int .i64 a) := (hb1.cell (p := ⟨w.heap.size, 0, none⟩) (by go_size)).trans (by go_simp)
    have fb0 : w1.frozen? ⟨w.heap.size, 0, none⟩ = false := (hb1.frozen (p := ⟨w.heap.size, 0, none⟩) (by go_size)).trans (by go_simp)
    have cb1 : w1.cell? ⟨w.heap.size, 1, none⟩ = some (.int .i64 b) := (hb1.cell (p := ⟨w.heap.size, 1, none⟩) (by go_size)).trans (by go_simp)
    have fb1 : w1.frozen? ⟨w.heap.size, 1, none⟩ = false := (hb1.frozen (p := ⟨w.heap.size, 1, none⟩) (by go_size)).trans (by go_simp)
    have zb2 : w.heap.size < w1.heap.size := Nat.lt_of_lt_of_le (by go_size) hb1.size
    have cb2 : w1.cell? ⟨w.heap.size + 1, 0, none⟩ = some (.int .i64 0) := (hb1.cell (p := ⟨w.heap.size + 1, 0, none⟩) (by go_size)).trans (by go_simp)
    have fb2 : w1.frozen? ⟨w.heap.size + 1, 0, none⟩ = false := (hb1.frozen (p := ⟨w.heap.size + 1, 0, none⟩) (by go_size)).trans (by go_simp)
    have cb3 : w1.cell? ⟨w.heap.size + 1, 1, none⟩ = some (.int .i64 0) := (hb1.cell (p := ⟨w.heap.size + 1, 1, none⟩) (by go_size)).trans (by go_simp)
    have fb3 : w1.frozen? ⟨w.heap.size + 1, 1, none⟩ = false := (hb1.frozen (p := ⟨w.heap.size + 1, 1, none⟩) (by go_size)).trans (by go_simp)
    have zb4 : w.heap.size + 1 < w1.heap.size := Nat.lt_of_lt_of_le (by go_size) hb1.size
    have hwb : Below w.heap.size w w1 := Below.trans (by (repeat' (first | (with_reducible exact Below.refl _ _) | (with_reducible assumption) | (with_reducible refine Below.alloc ?_ ?_ _) | (with_reducible refine Below.drew ?_) | (with_reducible refine below_drewN ?_ _) | (with_reducible refine Below.setCell ?_ ?_ _) | go_size))) (hb1.mono (by go_size))
    have hsb : w.heap.size ≤ w1.heap.size := hwb.size
    go_wp2_with fail
    refine (rclean_c _ _ _).mono ?_
    rintro e w2 ⟨rfl, hb2⟩
    have cc0 : w2.cell? ⟨w.heap.size + 1, 0, none⟩ = some (.int .i64 0) := (hb2.cell (p := ⟨w.heap.size + 1, 0, none⟩) (by go_size)).trans (by go_simp)
    have fc0 : w2.frozen? ⟨w.heap.size + 1, 0, none⟩ = false := (hb2.frozen (p := ⟨w.heap.size + 1, 0, none⟩) (by go_size)).trans (by go_simp)
    have cc1 : w2.cell? ⟨w.heap.size + 1, 1, none⟩ = some (.int .i64 0) := (hb2.cell (p := ⟨w.heap.size + 1, 1, none⟩) (by go_size)).trans (by go_simp)
    have fc1 : w2.frozen? ⟨w.heap.size + 1, 1, none⟩ = false := (hb2.frozen (p := ⟨w.heap.size + 1, 1, none⟩) (by go_size)).trans (by go_simp)
    have zc2 : w.heap.size + 1 < w2.heap.size := Nat.lt_of_lt_of_le (by go_size) hb2.size
    have hwc : Below w.heap.size w w2 := Below.trans (by (repeat' (first | (with_reducible exact Below.refl _ _) | (with_reducible assumption) | (with_reducible refine Below.alloc ?_ ?_ _) | (with_reducible refine Below.drew ?_) | (with_reducible refine below_drewN ?_ _) | (with_reducible refine Below.setCell ?_ ?_ _) | go_size))) (hb2.mono (by go_size))
    have hsc : w.heap.size ≤ w2.heap.size := hwc.size
    clear cb0 fb0 cb1 fb1 zb2 cb2 fb2 cb3 fb3 zb4 hwb hsb hb1
    go_wp2_with fail
    have hq : w2.heap.size < w2.heap.size + 1 := Nat.lt_succ_self _
    refine wp_region_kw 12 (by kernel_rfl) (by kernel_rfl) ?_
    simp only [List.take_succ_cons, List.take_zero, List.drop_succ_cons, List.drop_zero]
    repeat (quiet_step ((first | (go_at_call 70; exact KW.same (rnear_c _ _)) | (go_at_call 41; exact KW.call (rclean_c _ _ _)))))
    refine wpQuiet_nil ?_
    intro k3
    have cd0 : k3.val.cell? ⟨w.heap.size + 1, 0, none⟩ = some (.int .i64 0) := (k3.kp.cell (p := ⟨w.heap.size + 1, 0, none⟩) (by go_size)).trans (by go_simp)
    have fd0 : k3.val.frozen? ⟨w.heap.size + 1, 0, none⟩ = false := (k3.kp.frozen (p := ⟨w.heap.size + 1, 0, none⟩) (by go_size)).trans (by go_simp)
    have cd1 : k3.val.cell? ⟨w.heap.size + 1, 1, none⟩ = some (.int .i64 0) := (k3.kp.cell (p := ⟨w.heap.size + 1, 1, none⟩) (by go_size)).trans (by go_simp)
    have fd1 : k3.val.frozen? ⟨w.heap.size + 1, 1, none⟩ = false := (k3.kp.frozen (p := ⟨w.heap.size + 1, 1, none⟩) (by go_size)).trans (by go_simp)
    have zd2 : w.heap.size + 1 < k3.val.heap.size := Nat.lt_of_lt_of_le (by go_size) k3.kp.size
    have hwd : Below w.heap.size w k3.val := Below.trans (by (repeat' (first | (with_reducible exact Below.refl _ _) | (with_reducible assumption) | (with_reducible refine Below.alloc ?_ ?_ _) | (with_reducible refine Below.drew ?_) | (with_reducible refine below_drewN ?_ _) | (with_reducible refine Below.setCell ?_ ?_ _) | go_size))) (k3.kp.mono (by go_size))
    have hsd : w.heap.size ≤ k3.val.heap.size := hwd.size
    clear cc0 fc0 cc1 fc1 zc2 hwc hsc hb2
    go_wp2
    refine bodyPost_ret (v := .agg #[.int .i64 _, .int .i64 _]) (by simp [results, Try.results44, go_sem, cd0, cd1]; exact ⟨rfl, rfl⟩) rfl ⟨ret_sp ?_ ?_, ?_⟩
    · first | rfl | (simp [Pl.vlo, he] <;> (try congr 1) <;> (try rw [IntWalk.i64_in _ (by omega)]))
    · first | rfl | (simp [Pl.vhi, he] <;> (try congr 1) <;> (try rw [IntWalk.i64_in _ (by omega)]))
    · (repeat' (first | (with_reducible exact Below.refl _ _) | (with_reducible assumption) | (with_reducible refine Below.alloc ?_ ?_ _) | (with_reducible refine Below.drew ?_) | (with_reducible refine below_drewN ?_ _) | (with_reducible refine Below.setCell ?_ ?_ _) | go_size))
  ·
    go_enter Try.func44, Try.ntmps44
    go_wp2_with fail
    refine (rempty_c _ _ _).mono ?_
    rintro e w1 ⟨rfl, hb1⟩
    have cb0 : w1.cell? ⟨w.heap.size, 0, none⟩ = some (.int .i64 a) := (hb1.cell (p := ⟨w.heap.size, 0, none⟩) (by go_size)).trans (by go_simp)
    have fb0 : w1.frozen? ⟨w.heap.size, 0, none⟩ = false := (hb1.frozen (p := ⟨w.heap.size, 0, none⟩) (by go_size)).trans (by go_simp)
    have cb1 : w1.cell? ⟨w.heap.size, 1, none⟩ = some (.int .i64 b) := (hb1.cell (p := ⟨w.heap.size, 1, none⟩) (by go_size)).trans (by go_simp)
    have fb1 : w1.frozen? ⟨w.heap.size, 1, none⟩ = false := (hb1.frozen (p := ⟨w.heap.size, 1, none⟩) (by go_size)).trans (by go_simp)
    have zb2 : w.heap.size < w1.heap.size := Nat.lt_of_lt_of_le (by go_size) hb1.size
    have cb2 : w1.cell? ⟨w.heap.size + 1, 0, none⟩ = some (.int .i64 0) := (hb1.cell (p := ⟨w.heap.size + 1, 0, none⟩) (by go_size)).trans (by go_simp)
    have fb2 : w1.frozen? ⟨w.heap.size + 1, 0, none⟩ = false := (hb1.frozen (p := ⟨w.heap.size + 1, 0, none⟩) (by go_size)).trans (by go_simp)
    have cb3 : w1.cell? ⟨w.heap.size + 1, 1, none⟩ = some (.int .i64 0) := (hb1.cell (p := ⟨w.heap.size + 1, 1, none⟩) (by go_size)).trans (by go_simp)
    have fb3 : w1.frozen? ⟨w.heap.size + 1, 1, none⟩ = false := (hb1.frozen (p := ⟨w.heap.size + 1, 1, none⟩) (by go_size)).trans (by go_simp)
    have zb4 : w.heap.size + 1 < w1.heap.size := Nat.lt_of_lt_of_le (by go_size) hb1.size
    have hwb : Below w.heap.size w w1 := Below.trans (by (repeat' (first | (with_reducible exact Below.refl _ _) | (with_reducible assumption) | (with_reducible refine Below.alloc ?_ ?_ _) | (with_reducible refine Below.drew ?_) | (with_reducible refine below_drewN ?_ _) | (with_reducible refine Below.setCell ?_ ?_ _) | go_size))) (hb1.mono (by go_size))
    have hsb : w.heap.size ≤ w1.heap.size := hwb.size
    go_wp2_with fail
    refine (rclean_c _ _ _).mono ?_
    rintro e w2 ⟨rfl, hb2⟩
    have cc0 : w2.cell? ⟨w.heap.size + 1, 0, none⟩ = some (.int .i64 0) := (hb2.cell (p := ⟨w.heap.size + 1, 0, none⟩) (by go_size)).trans (by go_simp)
    have fc0 : w2.frozen? ⟨w.heap.size + 1, 0, none⟩ = false := (hb2.frozen (p := ⟨w.heap.size + 1, 0, none⟩) (by go_size)).trans (by go_simp)
    have cc1 : w2.cell? ⟨w.heap.size + 1, 1, none⟩ = some (.int .i64 0) := (hb2.cell (p := ⟨w.heap.size + 1, 1, none⟩) (by go_size)).trans (by go_simp)
    have fc1 : w2.frozen? ⟨w.heap.size + 1, 1, none⟩ = false := (hb2.frozen (p := ⟨w.heap.size + 1, 1, none⟩) (by go_size)).trans (by go_simp)
    have zc2 : w.heap.size + 1 < w2.heap.size := Nat.lt_of_lt_of_le (by go_size) hb2.size
    have hwc : Below w.heap.size w w2 := Below.trans (by (repeat' (first | (with_reducible exact Below.refl _ _) | (with_reducible assumption) | (with_reducible refine Below.alloc ?_ ?_ _) | (with_reducible refine Below.drew ?_) | (with_reducible refine below_drewN ?_ _) | (with_reducible refine Below.setCell ?_ ?_ _) | go_size))) (hb2.mono (by go_size))
    have hsc : w.heap.size ≤ w2.heap.size := hwc.size
    clear cb0 fb0 cb1 fb1 zb2 cb2 fb2 cb3 fb3 zb4 hwb hsb hb1
    go_wp2
    refine bodyPost_ret (v := .agg #[.int .i64 _, .int .i64 _]) (by simp [results, Try.results44, go_sem, cc0, cc1]; exact ⟨rfl, rfl⟩) rfl ⟨ret_sp ?_ ?_, ?_⟩
    · simp [Pl.vlo, he]
    · simp [Pl.vhi, he]
    · (repeat' (first | (with_reducible exact Below.refl _ _) | (with_reducible assumption) | (with_reducible refine Below.alloc ?_ ?_ _) | (with_reducible refine Below.drew ?_) | (with_reducible refine below_drewN ?_ _) | (with_reducible refine Below.setCell ?_ ?_ _) | go_size))

set_option maxHeartbeats 1000000 in
theorem rhas_c (a b x : Int) (w : World) :
    Calls Try.prog 46 #[.agg #[.int .i64 a, .int .i64 b], .int .i64 x] w fun e w' => e = .returned (.bool (Pl.has a b x)) ∧ Below w.heap.size w w' := by
  go_enter Try.func46, Try.ntmps46
  go_wp2_with fail
  refine (rclean_c _ _ _).mono ?_
  rintro e w1 ⟨rfl, hb1⟩
  have cb0 : w1.cell? ⟨w.heap.size, 0, none⟩ = some (.int .i64 a) := (hb1.cell (p := ⟨w.heap.size, 0, none⟩) (by go_size)).trans (by go_simp)
  have fb0 : w1.frozen? ⟨w.heap.size, 0, none⟩ = false := (hb1.frozen (p := ⟨w.heap.size, 0, none⟩) (by go_size)).trans (by go_simp)
  have cb1 : w1.cell? ⟨w.heap.size, 1, none⟩ = some (.int .i64 b) := (hb1.cell (p := ⟨w.heap.size, 1, none⟩) (by go_size)).trans (by go_simp)
  have fb1 : w1.frozen? ⟨w.heap.size, 1, none⟩ = false := (hb1.frozen (p := ⟨w.heap.size, 1, none⟩) (by go_size)).trans (by go_simp)
  have zb2 : w.heap.size < w1.heap.size := Nat.lt_of_lt_of_le (by go_size) hb1.size
  have hwb : Below w.heap.size w w1 := Below.trans (by (repeat' (first | (with_reducible exact Below.refl _ _) | (with_reducible assumption) | (with_reducible refine Below.alloc ?_ ?_ _) | (with_reducible refine Below.drew ?_) | (with_reducible refine below_drewN ?_ _) | (with_reducible refine Below.setCell ?_ ?_ _) | go_size))) (hb1.mono (by go_size))
  have hsb : w.heap.size ≤ w1.heap.size := hwb.size
  by_cases h1 : Pl.clo a b ≤ Pl.nr x
  ·
    by_cases h2 : Pl.nr x ≤ Pl.chi a b
    ·
      have d1 : decide (Pl.clo a b ≤ Pl.nr x) = true := by simpa using h1
      have d2 : decide (Pl.nr x ≤ Pl.chi a b) = true := by simpa using h2
      have H1 := Lib.hid h1
      have H2 := Lib.hid h2
      clear h1 h2
      go_wp2_with fail
      refine abs_wp ?_
      intro W2 hW
      have cc0 : W2.cell? ⟨w1.heap.size, 0, none⟩ = some (.int .i64 (Pl.clo a b)) := by rw [hW]; go_simp
      have fc0 : W2.frozen? ⟨w1.heap.size, 0, none⟩ = false := by rw [hW]; go_simp
      have cc1 : W2.cell? ⟨w1.heap.size, 1, none⟩ = some (.int .i64 (Pl.chi a b)) := by rw [hW]; go_simp
      have fc1 : W2.frozen? ⟨w1.heap.size, 1, none⟩ = false := by rw [hW]; go_simp
      have zc2 : w1.heap.size < W2.heap.size := by rw [hW]; go_size
      have hwc : Below w.heap.size w W2 := by
        rw [hW]
        (repeat' (first | (with_reducible exact Below.refl _ _) | (with_reducible assumption) | (with_reducible refine Below.alloc ?_ ?_ _) | (with_reducible refine Below.drew ?_) | (with_reducible refine below_drewN ?_ _) | (with_reducible refine Below.setCell ?_ ?_ _) | go_size))
      have hsc : w.heap.size ≤ W2.heap.size := hwc.size
      clear hW
      clear cb0 fb0 cb1 fb1 zb2 hwb hsb hb1
      refine wp_region_kq (by kernel_rfl) (by kernel_rfl) ?_
      repeat (quiet_step ((go_at_call 70; exact KW.same (rnear_c _ _))))
      refine wpQuiet_nil ?_
      intro k3
      have cd0 : k3.val.cell? ⟨w1.heap.size, 0, none⟩ = some (.int .i64 (Pl.clo a b)) := (k3.kp.cell (p := ⟨w1.heap.size, 0, none⟩) (by go_size)).trans (by go_simp)
      have fd0 : k3.val.frozen? ⟨w1.heap.size, 0, none⟩ = false := (k3.kp.frozen (p := ⟨w1.heap.size, 0, none⟩) (by go_size)).trans (by go_simp)
      have cd1 : k3.val.cell? ⟨w1.heap.size, 1, none⟩ = some (.int .i64 (Pl.chi a b)) := (k3.kp.cell (p := ⟨w1.heap.size, 1, none⟩) (by go_size)).trans (by go_simp)
      have fd1 : k3.val.frozen? ⟨w1.heap.size, 1, none⟩ = false := (k3.kp.frozen (p := ⟨w1.heap.size, 1, none⟩) (by go_size)).trans (by go_simp)
      have zd2 : w1.heap.size < k3.val.heap.size := Nat.lt_of_lt_of_le (by go_size) k3.kp.size
      have hwd : Below w.heap.size w k3.val := Below.trans (by (repeat' (first | (with_reducible exact Below.refl _ _) | (with_reducible assumption) | (with_reducible refine Below.alloc ?_ ?_ _) | (with_reducible refine Below.drew ?_) | (with_reducible refine below_drewN ?_ _) | (with_reducible refine Below.setCell ?_ ?_ _) | go_size))) (k3.kp.mono (by go_size))
      have hsd : w.heap.size ≤ k3.val.heap.size := hwd.size
      clear cc0 fc0 cc1 fc1 zc2 hwc hsc
      go_wp2
      go_ret
      exact ⟨ret_bool (by simp [Pl.has, H1.out, H2.out]), by assumption⟩
    ·
      have d1 : decide (Pl.clo a b ≤ Pl.nr x) = true := by simpa using h1
      have d2 : decide (Pl.nr x ≤ Pl.chi a b) = false := by simpa using h2
      have H1 := Lib.hid h1
      have H2 := Lib.hid h2
      clear h1 h2
      go_wp2_with fail
      refine abs_wp ?_
      intro W2 hW
      have cc0 : W2.cell? ⟨w1.heap.size, 0, none⟩ = some (.int .i64 (Pl.clo a b)) := by rw [hW]; go_simp
      have fc0 : W2.frozen? ⟨w1.heap.size, 0, none⟩ = false := by rw [hW]; go_simp
      have cc1 : W2.cell? ⟨w1.heap.size, 1, none⟩ = some (.int .i64 (Pl.chi a b)) := by rw [hW]; go_simp
      have fc1 : W2.frozen? ⟨w1.heap.size, 1, none⟩ = false := by rw [hW]; go_simp
      have zc2 : w1.heap.size < W2.heap.size := by rw [hW]; go_size
      have hwc : Below w.heap.size w W2 := by
        rw [hW]
        (repeat' (first | (with_reducible exact Below.refl _ _) | (with_reducible assumption) | (with_reducible refine Below.alloc ?_ ?_ _) | (with_reducible refine Below.drew ?_) | (with_reducible refine below_drewN ?_ _) | (with_reducible refine Below.setCell ?_ ?_ _) | go_size))
      have hsc : w.heap.size ≤ W2.heap.size := hwc.size
      clear hW
      clear cb0 fb0 cb1 fb1 zb2 hwb hsb hb1
      refine wp_region_kq (by kernel_rfl) (by kernel_rfl) ?_
      repeat (quiet_step ((go_at_call 70; exact KW.same (rnear_c _ _))))
      refine wpQuiet_nil ?_
      intro k3
      have cd0 : k3.val.cell? ⟨w1.heap.size, 0, none⟩ = some (.int .i64 (Pl.clo a b)) := (k3.kp.cell (p := ⟨w1.heap.size, 0, none⟩) (by go_size)).trans (by go_simp)
      have fd0 : k3.val.frozen? ⟨w1.heap.size, 0, none⟩ = false := (k3.kp.frozen (p := ⟨w1.heap.size, 0, none⟩) (by go_size)).trans (by go_simp)
      have cd1 : k3.val.cell? ⟨w1.heap.size, 1, none⟩ = some (.int .i64 (Pl.chi a b)) := (k3.kp.cell (p := ⟨w1.heap.size, 1, none⟩) (by go_size)).trans (by go_simp)
      have fd1 : k3.val.frozen? ⟨w1.heap.size, 1, none⟩ = false := (k3.kp.frozen (p := ⟨w1.heap.size, 1, none⟩) (by go_size)).trans (by go_simp)
      have zd2 : w1.heap.size < k3.val.heap.size := Nat.lt_of_lt_of_le (by go_size) k3.kp.size
      have hwd : Below w.heap.size w k3.val := Below.trans (by (repeat' (first | (with_reducible exact Below.refl _ _) | (with_reducible assumption) | (with_reducible refine Below.alloc ?_ ?_ _) | (with_reducible refine Below.drew ?_) | (with_reducible refine below_drewN ?_ _) | (with_reducible refine Below.setCell ?_ ?_ _) | go_size))) (k3.kp.mono (by go_size))
      have hsd : w.heap.size ≤ k3.val.heap.size := hwd.size
      clear cc0 fc0 cc1 fc1 zc2 hwc hsc
      go_wp2
      go_ret
      exact ⟨ret_bool (by simp [Pl.has, H1.out, H2.out]), by assumption⟩
  ·
    by_cases h2 : Pl.nr x ≤ Pl.chi a b
    ·
      have d1 : decide (Pl.clo a b ≤ Pl.nr x) = false := by simpa using h1
      have d2 : decide (Pl.nr x ≤ Pl.chi a b) = true := by simpa using h2
      have H1 := Lib.hid h1
      have H2 := Lib.hid h2
      clear h1 h2
      go_wp2_with fail
      refine abs_wp ?_
      intro W2 hW
      have cc0 : W2.cell? ⟨w1.heap.size, 0, none⟩ = some (.int .i64 (Pl.clo a b)) := by rw [hW]; go_simp
      have fc0 : W2.frozen? ⟨w1.heap.size, 0, none⟩ = false := by rw [hW]; go_simp
      have cc1 : W2.cell? ⟨w1.heap.size, 1, none⟩ = some (.int .i64 (Pl.chi a b)) := by rw [hW]; go_simp
      have fc1 : W2.frozen? ⟨w1.heap.size, 1, none⟩ = false := by rw [hW]; go_simp
      have zc2 : w1.heap.size < W2.heap.size := by rw [hW]; go_size
      have hwc : Below w.heap.size w W2 := by
        rw [hW]
        (repeat' (first | (with_reducible exact Below.refl _ _) | (with_reducible assumption) | (with_reducible refine Below.alloc ?_ ?_ _) | (with_reducible refine Below.drew ?_) | (with_reducible refine below_drewN ?_ _) | (with_reducible refine Below.setCell ?_ ?_ _) | go_size))
      have hsc : w.heap.size ≤ W2.heap.size := hwc.size
      clear hW
      clear cb0 fb0 cb1 fb1 zb2 hwb hsb hb1
      refine wp_region_kq (by kernel_rfl) (by kernel_rfl) ?_
      repeat (quiet_step ((go_at_call 70; exact KW.same (rnear_c _ _))))
      refine wpQuiet_nil ?_
      intro k3
      have cd0 : k3.val.cell? ⟨w1.heap.size, 0, none⟩ = some (.int .i64 (Pl.clo a b)) := (k3.kp.cell (p := ⟨w1.heap.size, 0, none⟩) (by go_size)).trans (by go_simp)
      have fd0 : k3.val.frozen? ⟨w1.heap.size, 0, none⟩ = false := (k3.kp.frozen (p := ⟨w1.heap.size, 0, none⟩) (by go_size)).trans (by go_simp)
      have cd1 : k3.val.cell? ⟨w1.heap.size, 1, none⟩ = some (.int .i64 (Pl.chi a b)) := (k3.kp.cell (p := ⟨w1.heap.size, 1, none⟩) (by go_size)).trans (by go_simp)
      have fd1 : k3.val.frozen? ⟨w1.heap.size, 1, none⟩ = false := (k3.kp.frozen (p := ⟨w1.heap.size, 1, none⟩) (by go_size)).trans (by go_simp)
      have zd2 : w1.heap.size < k3.val.heap.size := Nat.lt_of_lt_of_le (by go_size) k3.kp.size
      have hwd : Below w.heap.size w k3.val := Below.trans (by (repeat' (first | (with_reducible exact Below.refl _ _) | (with_reducible assumption) | (with_reducible refine Below.alloc ?_ ?_ _) | (with_reducible refine Below.drew ?_) | (with_reducible refine below_drewN ?_ _) | (with_reducible refine Below.setCell ?_ ?_ _) | go_size))) (k3.kp.mono (by go_size))
      have hsd : w.heap.size ≤ k3.val.heap.size := hwd.size
      clear cc0 fc0 cc1 fc1 zc2 hwc hsc
      go_wp2
      go_ret
      exact ⟨ret_bool (by simp [Pl.has, H1.out, H2.out]), by assumption⟩
    ·
      have d1 : decide (Pl.clo a b ≤ Pl.nr x) = false := by simpa using h1
      have d2 : decide (Pl.nr x ≤ Pl.chi a b) = false := by simpa using h2
      have H1 := Lib.hid h1
      have H2 := Lib.hid h2
      clear h1 h2
      go_wp2_with fail
      refine abs_wp ?_
      intro W2 hW
      have cc0 : W2.cell? ⟨w1.heap.size, 0, none⟩ = some (.int .i64 (Pl.clo a b)) := by rw [hW]; go_simp
      have fc0 : W2.frozen? ⟨w1.heap.size, 0, none⟩ = false := by rw [hW]; go_simp
      have cc1 : W2.cell? ⟨w1.heap.size, 1, none⟩ = some (.int .i64 (Pl.chi a b)) := by rw [hW]; go_simp
      have fc1 : W2.frozen? ⟨w1.heap.size, 1, none⟩ = false := by rw [hW]; go_simp
      have zc2 : w1.heap.size < W2.heap.size := by rw [hW]; go_size
      have hwc : Below w.heap.size w W2 := by
        rw [hW]
        (repeat' (first | (with_reducible exact Below.refl _ _) | (with_reducible assumption) | (with_reducible refine Below.alloc ?_ ?_ _) | (with_reducible refine Below.drew ?_) | (with_reducible refine below_drewN ?_ _) | (with_reducible refine Below.setCell ?_ ?_ _) | go_size))
      have hsc : w.heap.size ≤ W2.heap.size := hwc.size
      clear hW
      clear cb0 fb0 cb1 fb1 zb2 hwb hsb hb1
      refine wp_region_kq (by kernel_rfl) (by kernel_rfl) ?_
      repeat (quiet_step ((go_at_call 70; exact KW.same (rnear_c _ _))))
      refine wpQuiet_nil ?_
      intro k3
      have cd0 : k3.val.cell? ⟨w1.heap.size, 0, none⟩ = some (.int .i64 (Pl.clo a b)) := (k3.kp.cell (p := ⟨w1.heap.size, 0, none⟩) (by go_size)).trans (by go_simp)
      have fd0 : k3.val.frozen? ⟨w1.heap.size, 0, none⟩ = false := (k3.kp.frozen (p := ⟨w1.heap.size, 0, none⟩) (by go_size)).trans (by go_simp)
      have cd1 : k3.val.cell? ⟨w1.heap.size, 1, none⟩ = some (.int .i64 (Pl.chi a b)) := (k3.kp.cell (p := ⟨w1.heap.size, 1, none⟩) (by go_size)).trans (by go_simp)
      have fd1 : k3.val.frozen? ⟨w1.heap.size, 1, none⟩ = false := (k3.kp.frozen (p := ⟨w1.heap.size, 1, none⟩) (by go_size)).trans (by go_simp)
      have zd2 : w1.heap.size < k3.val.heap.size := Nat.lt_of_lt_of_le (by go_size) k3.kp.size
      have hwd : Below w.heap.size w k3.val := Below.trans (by (repeat' (first | (with_reducible exact Below.refl _ _) | (with_reducible assumption) | (with_reducible refine Below.alloc ?_ ?_ _) | (with_reducible refine Below.drew ?_) | (with_reducible refine below_drewN ?_ _) | (with_reducible refine Below.setCell ?_ ?_ _) | go_size))) (k3.kp.mono (by go_size))
      have hsd : w.heap.size ≤ k3.val.heap.size := hwd.size
      clear cc0 fc0 cc1 fc1 zc2 hwc hsc
      go_wp2
      go_ret
      exact ⟨ret_bool (by simp [Pl.has, H2.out]), by assumption⟩

set_option maxHeartbeats 1000000 in
theorem rwiden_c (a b y : Int) (w : World) :
    Calls Try.prog 45 #[.agg #[.int .i64 a, .int .i64 b], .int .i64 y] w fun e w' => e = .returned (.agg #[.int .i64 (Pl.wlo a b y), .int .i64 (Pl.whi a b y)]) ∧ Below w.heap.size w w' := by
  have q3 := Pl.nr_bd y
  by_cases h1 : Pl.nr y < 0
  ·
    go_enter Try.func45, Try.ntmps45
    go_wp2_with fail
    refine (rnear_c _ _).mono ?_
    rintro e w' ⟨rfl, rfl⟩
    go_wp2_with fail
    refine (moved_c _ _ _ _ _).mono ?_
    rintro e w1 ⟨rfl, hb1⟩
    have cb0 : w1.cell? ⟨w.heap.size + 1, 0, none⟩ = some (.int .i64 0) := (hb1.cell (p := ⟨w.heap.size + 1, 0, none⟩) (by go_size)).trans (by go_simp)
    have fb0 : w1.frozen? ⟨w.heap.size + 1, 0, none⟩ = false := (hb1.frozen (p := ⟨w.heap.size + 1, 0, none⟩) (by go_size)).trans (by go_simp)
    have cb1 : w1.cell? ⟨w.heap.size + 1, 1, none⟩ = some (.int .i64 0) := (hb1.cell (p := ⟨w.heap.size + 1, 1, none⟩) (by go_size)).trans (by go_simp)
    have fb1 : w1.frozen? ⟨w.heap.size + 1, 1, none⟩ = false := (hb1.frozen (p := ⟨w.heap.size + 1, 1, none⟩) (by go_size)).trans (by go_simp)
    have zb2 : w.heap.size + 1 < w1.heap.size := Nat.lt_of_lt_of_le (by go_size) hb1.size
    have hwb : Below w.heap.size w w1 := Below.trans (by (repeat' (first | (with_reducible exact Below.refl _ _) | (with_reducible assumption) | (with_reducible refine Below.alloc ?_ ?_ _) | (with_reducible refine Below.drew ?_) | (with_reducible refine below_drewN ?_ _) | (with_reducible refine Below.setCell ?_ ?_ _) | go_size))) (hb1.mono (by go_size))
    have hsb : w.heap.size ≤ w1.heap.size := hwb.size
    go_wp2
    refine bodyPost_ret (v := .agg #[.int .i64 _, .int .i64 _]) (by simp [results, Try.results45, go_sem, cb0, cb1]; exact ⟨rfl, rfl⟩) rfl ⟨ret_sp ?_ ?_, ?_⟩
    · exact (Pl.v_w (by omega) (by omega)).1
    · exact (Pl.v_w (by omega) (by omega)).2
    · (repeat' (first | (with_reducible exact Below.refl _ _) | (with_reducible assumption) | (with_reducible refine Below.alloc ?_ ?_ _) | (with_reducible refine Below.drew ?_) | (with_reducible refine below_drewN ?_ _) | (with_reducible refine Below.setCell ?_ ?_ _) | go_size))
  ·
    go_enter Try.func45, Try.ntmps45
    go_wp2_with fail
    refine (rnear_c _ _).mono ?_
    rintro e w' ⟨rfl, rfl⟩
    go_wp2_with fail
    refine (moved_c _ _ _ _ _).mono ?_
    rintro e w1 ⟨rfl, hb1⟩
    have cb0 : w1.cell? ⟨w.heap.size + 1, 0, none⟩ = some (.int .i64 0) := (hb1.cell (p := ⟨w.heap.size + 1, 0, none⟩) (by go_size)).trans (by go_simp)
    have fb0 : w1.frozen? ⟨w.heap.size + 1, 0, none⟩ = false := (hb1.frozen (p := ⟨w.heap.size + 1, 0, none⟩) (by go_size)).trans (by go_simp)
    have cb1 : w1.cell? ⟨w.heap.size + 1, 1, none⟩ = some (.int .i64 0) := (hb1.cell (p := ⟨w.heap.size + 1, 1, none⟩) (by go_size)).trans (by go_simp)
    have fb1 : w1.frozen? ⟨w.heap.size + 1, 1, none⟩ = false := (hb1.frozen (p := ⟨w.heap.size + 1, 1, none⟩) (by go_size)).trans (by go_simp)
    have zb2 : w.heap.size + 1 < w1.heap.size := Nat.lt_of_lt_of_le (by go_size) hb1.size
    have hwb : Below w.heap.size w w1 := Below.trans (by (repeat' (first | (with_reducible exact Below.refl _ _) | (with_reducible assumption) | (with_reducible refine Below.alloc ?_ ?_ _) | (with_reducible refine Below.drew ?_) | (with_reducible refine below_drewN ?_ _) | (with_reducible refine Below.setCell ?_ ?_ _) | go_size))) (hb1.mono (by go_size))
    have hsb : w.heap.size ≤ w1.heap.size := hwb.size
    go_wp2
    refine bodyPost_ret (v := .agg #[.int .i64 _, .int .i64 _]) (by simp [results, Try.results45, go_sem, cb0, cb1]; exact ⟨rfl, rfl⟩) rfl ⟨ret_sp ?_ ?_, ?_⟩
    · exact (Pl.v_w (by omega) (by omega)).1
    · exact (Pl.v_w (by omega) (by omega)).2
    · (repeat' (first | (with_reducible exact Below.refl _ _) | (with_reducible assumption) | (with_reducible refine Below.alloc ?_ ?_ _) | (with_reducible refine Below.drew ?_) | (with_reducible refine below_drewN ?_ _) | (with_reducible refine Below.setCell ?_ ?_ _) | go_size))

set_option maxHeartbeats 1000000 in
theorem rmid_c (a b : Int) (w : World) :
    Calls Try.prog 49 #[.agg #[.int .i64 a, .int .i64 b]] w fun e w' => e = .returned (.int .i64 (Pl.mid a b)) ∧ Below w.heap.size w w' := by
  have q1 := Pl.clo_bd a b
  have q2 := Pl.chi_bd a b
  have q4 := Pl.emp2 a b
  cases he : Pl.emp a b
  ·
    rw [he] at q4
    by_cases hs : 0 ≤ Pl.clo a b + Pl.chi a b
    ·
      go_enter Try.func49, Try.ntmps49
      go_wp2_with fail
      refine (rempty_c _ _ _).mono ?_
      rintro e w1 ⟨rfl, hb1⟩
      have cb0 : w1.cell? ⟨w.heap.size, 0, none⟩ = some (.int .i64 a) := (hb1.cell (p := ⟨w.heap.size, 0, none⟩) (by go_size)).trans (by go_simp)
      have fb0 : w1.frozen? ⟨w.heap.size, 0, none⟩ = false := (hb1.frozen (p := ⟨w.heap.size, 0, none⟩) (by go_size)).trans (by go_simp)
      have cb1 : w1.cell? ⟨w.heap.size, 1, none⟩ = some (.int .i64 b) := (hb1.cell (p := ⟨w.heap.size, 1, none⟩) (by go_size)).trans (by go_simp)
      have fb1 : w1.frozen? ⟨w.heap.size, 1, none⟩ = false := (hb1.frozen (p := ⟨w.heap.size, 1, none⟩) (by go_size)).trans (by go_simp)
      have zb2 : w.heap.size < w1.heap.size := Nat.lt_of_lt_of_le (by go_size) hb1.size
      have hwb : Below w.heap.size w w1 := Below.trans (by (repeat' (first | (with_reducible exact Below.refl _ _) | (with_reducible assumption) | (with_reducible refine Below.alloc ?_ ?_ _) | (with_reducible refine Below.drew ?_) | (with_reducible refine below_drewN ?_ _) | (with_reducible refine Below.setCell ?_ ?_ _) | go_size))) (hb1.mono (by go_size))
      have hsb : w.heap.size ≤ w1.heap.size := hwb.size
      go_wp2_with fail
      refine (rclean_c _ _ _).mono ?_
      rintro e w2 ⟨rfl, hb2⟩
      have cc0 : w2.cell? ⟨w.heap.size, 0, none⟩ = some (.int .i64 a) := (hb2.cell (p := ⟨w.heap.size, 0, none⟩) (by go_size)).trans (by go_simp)
      have fc0 : w2.frozen? ⟨w.heap.size, 0, none⟩ = false := (hb2.frozen (p := ⟨w.heap.size, 0, none⟩) (by go_size)).trans (by go_simp)
      have cc1 : w2.cell? ⟨w.heap.size, 1, none⟩ = some (.int .i64 b) := (hb2.cell (p := ⟨w.heap.size, 1, none⟩) (by go_size)).trans (by go_simp)
      have fc1 : w2.frozen? ⟨w.heap.size, 1, none⟩ = false := (hb2.frozen (p := ⟨w.heap.size, 1, none⟩) (by go_size)).trans (by go_simp)
      have zc2 : w.heap.size < w2.heap.size := Nat.lt_of_lt_of_le (by go_size) hb2.size
      have hwc : Below w.heap.size w w2 := Below.trans (by (repeat' (first | (with_reducible exact Below.refl _ _) | (with_reducible assumption) | (with_reducible refine Below.alloc ?_ ?_ _) | (with_reducible refine Below.drew ?_) | (with_reducible refine below_drewN ?_ _) | (with_reducible refine Below.setCell ?_ ?_ _) | go_size))) (hb2.mono (by go_size))
      have hsc : w.heap.size ≤ w2.heap.size := hwc.size
      clear cb0 fb0 cb1 fb1 zb2 hwb hsb hb1
      have hq : w2.heap.size < w2.heap.size + 1 := Nat.lt_succ_self _
      go_wp2
      all_goals
        go_ret
        refine ⟨ret_int ?_, by (repeat' (first | (with_reducible exact Below.refl _ _) | (with_reducible assumption) | (with_reducible refine Below.alloc ?_ ?_ _) | (with_reducible refine Below.drew ?_) | (with_reducible refine below_drewN ?_ _) | (with_reducible refine Below.setCell ?_ ?_ _) | go_size))⟩
        simp only [Pl.mid, q4, Bool.false_eq_true, if_false]
        omega
    ·
      obtain ⟨t1, t2, t3⟩ := Pl.tdiv_facts (Pl.clo a b + Pl.chi a b) 2 (by omega)
      have t4 := t3 (by omega)
      clear t2 t3
      have t5 : -4503599627370496 ≤ (Pl.clo a b + Pl.chi a b).tdiv 2 := by omega
      have t6 : (Pl.clo a b + Pl.chi a b).tdiv 2 ≤ 4503599627370496 := by omega
      have T1 := Lib.hid t1
      clear t1
      go_enter Try.func49, Try.ntmps49
      go_wp2_with fail
      refine (rempty_c _ _ _).mono ?_
      rintro e w1 ⟨rfl, hb1⟩
      have cb0 : w1.cell? ⟨w.heap.size, 0, none⟩ = some (.int .i64 a) := (hb1.cell (p := ⟨w.heap.size, 0, none⟩) (by go_size)).trans (by go_simp)
      have fb0 : w1.frozen? ⟨w.heap.size, 0, none⟩ = false := (hb1.frozen (p := ⟨w.heap.size, 0, none⟩) (by go_size)).trans (by go_simp)
      have cb1 : w1.cell? ⟨w.heap.size, 1, none⟩ = some (.int .i64 b) := (hb1.cell (p := ⟨w.heap.size, 1, none⟩) (by go_size)).trans (by go_simp)
      have fb1 : w1.frozen? ⟨w.heap.size, 1, none⟩ = false := (hb1.frozen (p := ⟨w.heap.size, 1, none⟩) (by go_size)).trans (by go_simp)
      have zb2 : w.heap.size < w1.heap.size := Nat.lt_of_lt_of_le (by go_size) hb1.size
      have hwb : Below w.heap.size w w1 := Below.trans (by (repeat' (first | (with_reducible exact Below.refl _ _) | (with_reducible assumption) | (with_reducible refine Below.alloc ?_ ?_ _) | (with_reducible refine Below.drew ?_) | (with_reducible refine below_drewN ?_ _) | (with_reducible refine Below.setCell ?_ ?_ _) | go_size))) (hb1.mono (by go_size))
      have hsb : w.heap.size ≤ w1.heap.size := hwb.size
      go_wp2_with fail
      refine (rclean_c _ _ _).mono ?_
      rintro e w2 ⟨rfl, hb2⟩
      have cc0 : w2.cell? ⟨w.heap.size, 0, none⟩ = some (.int .i64 a) := (hb2.cell (p := ⟨w.heap.size, 0, none⟩) (by go_size)).trans (by go_simp)
      have fc0 : w2.frozen? ⟨w.heap.size, 0, none⟩ = false := (hb2.frozen (p := ⟨w.heap.size, 0, none⟩) (by go_size)).trans (by go_simp)
      have cc1 : w2.cell? ⟨w.heap.size, 1, none⟩ = some (.int .i64 b) := (hb2.cell (p := ⟨w.heap.size, 1, none⟩) (by go_size)).trans (by go_simp)
      have fc1 : w2.frozen? ⟨w.heap.size, 1, none⟩ = false := (hb2.frozen (p := ⟨w.heap.size, 1, none⟩) (by go_size)).trans (by go_simp)
      have zc2 : w.heap.size < w2.heap.size := Nat.lt_of_lt_of_le (by go_size) hb2.size
      have hwc : Below w.heap.size w w2 := Below.trans (by (repeat' (first | (with_reducible exact Below.refl _ _) | (with_reducible assumption) | (with_reducible refine Below.alloc ?_ ?_ _) | (with_reducible refine Below.drew ?_) | (with_reducible refine below_drewN ?_ _) | (with_reducible refine Below.setCell ?_ ?_ _) | go_size))) (hb2.mono (by go_size))
      have hsc : w.heap.size ≤ w2.heap.size := hwc.size
      clear cb0 fb0 cb1 fb1 zb2 hwb hsb hb1
      have hq : w2.heap.size < w2.heap.size + 1 := Nat.lt_succ_self _
      go_wp2
      all_goals
        go_ret
        refine ⟨ret_int ?_, by (repeat' (first | (with_reducible exact Below.refl _ _) | (with_reducible assumption) | (with_reducible refine Below.alloc ?_ ?_ _) | (with_reducible refine Below.drew ?_) | (with_reducible refine below_drewN ?_ _) | (with_reducible refine Below.setCell ?_ ?_ _) | go_size))⟩
        have t1 := T1.out
        simp only [Pl.mid, q4, Bool.false_eq_true, if_false]
        omega
  ·
    rw [he] at q4
    go_enter Try.func49, Try.ntmps49
    go_wp2_with fail
    refine (rempty_c _ _ _).mono ?_
    rintro e w1 ⟨rfl, hb1⟩
    have cb0 : w1.cell? ⟨w.heap.size, 0, none⟩ = some (.int .i64 a) := (hb1.cell (p := ⟨w.heap.size, 0, none⟩) (by go_size)).trans (by go_simp)
    have fb0 : w1.frozen? ⟨w.heap.size, 0, none⟩ = false := (hb1.frozen (p := ⟨w.heap.size, 0, none⟩) (by go_size)).trans (by go_simp)
    have cb1 : w1.cell? ⟨w.heap.size, 1, none⟩ = some (.int .i64 b) := (hb1.cell (p := ⟨w.heap.size, 1, none⟩) (by go_size)).trans (by go_simp)
    have fb1 : w1.frozen? ⟨w.heap.size, 1, none⟩ = false := (hb1.frozen (p := ⟨w.heap.size, 1, none⟩) (by go_size)).trans (by go_simp)
    have zb2 : w.heap.size < w1.heap.size := Nat.lt_of_lt_of_le (by go_size) hb1.size
    have hwb : Below w.heap.size w w1 := Below.trans (by (repeat' (first | (with_reducible exact Below.refl _ _) | (with_reducible assumption) | (with_reducible refine Below.alloc ?_ ?_ _) | (with_reducible refine Below.drew ?_) | (with_reducible refine below_drewN ?_ _) | (with_reducible refine Below.setCell ?_ ?_ _) | go_size))) (hb1.mono (by go_size))
    have hsb : w.heap.size ≤ w1.heap.size := hwb.size
    go_wp2
    go_ret
    exact ⟨ret_int (by simp [Pl.mid, q4]), by assumption⟩

end Go.Proofs.Ytgpeekmagckgcaa
