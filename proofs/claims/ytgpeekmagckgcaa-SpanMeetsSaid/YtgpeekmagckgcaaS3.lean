/- What is proved here: the walk of SpanMeets. -/
import Derived.Test.YtgpeekmagckgcaaSy
import Derived.Test.YtgpeekmagckgcaaVar
import Derived.Test.YtgpeekmagckgcaaPm
import Derived.Test.YtgpeekmagckgcaaSa
namespace Go.Proofs.Ytgpeekmagckgcaa
open Go Go.RowKit
attribute [local go_sem] KW.cell KW.frozen
attribute [local go_sem ↓] eql24

set_option maxHeartbeats 2000000 in
theorem law3 (a b c d e f x : Int) (w : World) :
    Calls Try.prog 3 #[.agg #[.int .i64 a, .int .i64 b], .agg #[.int .i64 c, .int .i64 d], .agg #[.int .i64 e, .int .i64 f], .int .i64 x] w fun e w' => e = .returned (.bool true) ∧ Below w.heap.size w w' := by
  have m1 := Pl.mlo_comm c d a b
  have m2 := Pl.mhi_comm c d a b
  have m3 := (Pl.meet_assoc a b c d e f).1
  have m4 := (Pl.meet_assoc a b c d e f).2
  have m5 := Pl.hlo_comm c d a b
  have m6 := Pl.hhi_comm c d a b
  have m7 := Pl.wit_meet a b c d
  have m8 := Pl.wit_hull a b c d
  have m9 := Pl.has_meet a b c d x
  have m10 := Pl.has_hull a b c d x
  cases hin : Pl.has a b x
  all_goals cases hot : Pl.has c d x
  ·
    rw [hin, hot] at m9 m10
    simp only [Bool.and_true, Bool.and_false, Bool.true_and, Bool.false_and, Bool.or_true, Bool.or_false, Bool.true_or, Bool.false_or, forall_const, Bool.false_eq_true, false_implies] at m9 m10
    go_enter Try.func3, Try.ntmps3
    go_wp2_with fail
    refine wp_region_vars 9 (fun i => ([.agg #[.int .i64 a, .int .i64 b], .agg #[.int .i64 a, .int .i64 b], .agg #[.int .i64 c, .int .i64 d], .agg #[.int .i64 c, .int .i64 d], .agg #[.int .i64 e, .int .i64 f], .agg #[.int .i64 e, .int .i64 f], undef, undef, undef] : List Value).getD i undef) (fun i => i == 6 || i == 7 || i == 8) (fun _ => .cells #[.int .i64 0, .int .i64 0] 24) (by kernel_rfl) (by kernel_rfl) ?hal ?_
    case hal =>
      intro i o ho hi a w
      simp only [Bool.or_eq_true, beq_iff_eq] at hi
      rcases hi with (rfl | rfl) | rfl
      all_goals
        obtain rfl := Option.some.inj ho
        go_simp
    simp only [List.take_succ_cons, List.take_zero, List.drop_succ_cons, List.drop_zero]
    refine wpVars_val rfl rfl ?q0 (fun K hK => ?_)
    case q0 =>
      intro wx hb
      have c0 : wx.cell? ⟨w.heap.size, 0, none⟩ = some (.int .i64 a) := (hb.cell (p := ⟨w.heap.size, 0, none⟩) (by go_size)).trans (by go_simp)
      have c1 : wx.cell? ⟨w.heap.size, 1, none⟩ = some (.int .i64 b) := (hb.cell (p := ⟨w.heap.size, 1, none⟩) (by go_size)).trans (by go_simp)
      have c2 : wx.cell? ⟨w.heap.size + 1, 0, none⟩ = some (.int .i64 c) := (hb.cell (p := ⟨w.heap.size + 1, 0, none⟩) (by go_size)).trans (by go_simp)
      have c3 : wx.cell? ⟨w.heap.size + 1, 1, none⟩ = some (.int .i64 d) := (hb.cell (p := ⟨w.heap.size + 1, 1, none⟩) (by go_size)).trans (by go_simp)
      have c4 : wx.cell? ⟨w.heap.size + 1 + 1, 0, none⟩ = some (.int .i64 e) := (hb.cell (p := ⟨w.heap.size + 1 + 1, 0, none⟩) (by go_size)).trans (by go_simp)
      have c5 : wx.cell? ⟨w.heap.size + 1 + 1, 1, none⟩ = some (.int .i64 f) := (hb.cell (p := ⟨w.heap.size + 1 + 1, 1, none⟩) (by go_size)).trans (by go_simp)
      unfold growAt
      go_simp
    go_simp
    refine hK _ ?_
    clear hK K
    refine wpVars_val rfl rfl ?q1 (fun K hK => ?_)
    case q1 =>
      intro wx hb
      unfold growAt
      go_simp
      exact mine_c _ _ _
    go_simp
    refine hK _ ?_
    clear hK K
    refine wpVars_val rfl rfl ?q2 (fun K hK => ?_)
    case q2 =>
      intro wx hb
      have c0 : wx.cell? ⟨w.heap.size, 0, none⟩ = some (.int .i64 a) := (hb.cell (p := ⟨w.heap.size, 0, none⟩) (by go_size)).trans (by go_simp)
      have c1 : wx.cell? ⟨w.heap.size, 1, none⟩ = some (.int .i64 b) := (hb.cell (p := ⟨w.heap.size, 1, none⟩) (by go_size)).trans (by go_simp)
      have c2 : wx.cell? ⟨w.heap.size + 1, 0, none⟩ = some (.int .i64 c) := (hb.cell (p := ⟨w.heap.size + 1, 0, none⟩) (by go_size)).trans (by go_simp)
      have c3 : wx.cell? ⟨w.heap.size + 1, 1, none⟩ = some (.int .i64 d) := (hb.cell (p := ⟨w.heap.size + 1, 1, none⟩) (by go_size)).trans (by go_simp)
      have c4 : wx.cell? ⟨w.heap.size + 1 + 1, 0, none⟩ = some (.int .i64 e) := (hb.cell (p := ⟨w.heap.size + 1 + 1, 0, none⟩) (by go_size)).trans (by go_simp)
      have c5 : wx.cell? ⟨w.heap.size + 1 + 1, 1, none⟩ = some (.int .i64 f) := (hb.cell (p := ⟨w.heap.size + 1 + 1, 1, none⟩) (by go_size)).trans (by go_simp)
      unfold growAt
      go_simp
    go_simp
    refine hK _ ?_
    clear hK K
    refine wpVars_val rfl rfl ?q3 (fun K hK => ?_)
    case q3 =>
      intro wx hb
      unfold growAt
      go_simp
      exact mine_c _ _ _
    go_simp
    refine hK _ ?_
    clear hK K
    refine wpVars_val rfl rfl ?q4 (fun K hK => ?_)
    case q4 =>
      intro wx hb
      have c0 : wx.cell? ⟨w.heap.size, 0, none⟩ = some (.int .i64 a) := (hb.cell (p := ⟨w.heap.size, 0, none⟩) (by go_size)).trans (by go_simp)
      have c1 : wx.cell? ⟨w.heap.size, 1, none⟩ = some (.int .i64 b) := (hb.cell (p := ⟨w.heap.size, 1, none⟩) (by go_size)).trans (by go_simp)
      have c2 : wx.cell? ⟨w.heap.size + 1, 0, none⟩ = some (.int .i64 c) := (hb.cell (p := ⟨w.heap.size + 1, 0, none⟩) (by go_size)).trans (by go_simp)
      have c3 : wx.cell? ⟨w.heap.size + 1, 1, none⟩ = some (.int .i64 d) := (hb.cell (p := ⟨w.heap.size + 1, 1, none⟩) (by go_size)).trans (by go_simp)
      have c4 : wx.cell? ⟨w.heap.size + 1 + 1, 0, none⟩ = some (.int .i64 e) := (hb.cell (p := ⟨w.heap.size + 1 + 1, 0, none⟩) (by go_size)).trans (by go_simp)
      have c5 : wx.cell? ⟨w.heap.size + 1 + 1, 1, none⟩ = some (.int .i64 f) := (hb.cell (p := ⟨w.heap.size + 1 + 1, 1, none⟩) (by go_size)).trans (by go_simp)
      unfold growAt
      go_simp
    go_simp
    refine hK _ ?_
    clear hK K
    refine wpVars_val rfl rfl ?q5 (fun K hK => ?_)
    case q5 =>
      intro wx hb
      unfold growAt
      go_simp
      exact mine_c _ _ _
    go_simp
    refine hK _ ?_
    clear hK K
    refine wpVars_var rfl rfl (fun g6 K hK => ?_)
    go_simp
    refine hK _ ?_
    clear hK K
    refine wpVars_var rfl rfl (fun g7 K hK => ?_)
    go_simp
    refine hK _ ?_
    clear hK K
    refine wpVars_var rfl rfl (fun g8 K hK => ?_)
    go_simp
    refine hK _ ?_
    clear hK K
    refine wpVars_nil ?_
    intro v1 hl
    have hwb : Below w.heap.size w v1 := Below.trans (by (repeat' (first | (with_reducible exact Below.refl _ _) | (with_reducible assumption) | (with_reducible refine Below.alloc ?_ ?_ _) | (with_reducible refine Below.drew ?_) | (with_reducible refine below_drewN ?_ _) | (with_reducible refine Below.setCell ?_ ?_ _) | go_size))) (hl.kept.mono (by go_size))
    have l6 := hl.lies 6 rfl (by omega)
    simp [upd] at l6
    have z6b := block_lt l6.2
    have y6b : w.heap.size < g6 := Nat.lt_of_lt_of_le (by go_size) l6.1
    have c6b0 : v1.cell? ⟨g6, 0, none⟩ = some (.int .i64 0) := block_cell l6.2 0
    have f6b0 : v1.frozen? ⟨g6, 0, none⟩ = false := block_free l6.2 0
    have c6b1 : v1.cell? ⟨g6, 1, none⟩ = some (.int .i64 0) := block_cell l6.2 1
    have f6b1 : v1.frozen? ⟨g6, 1, none⟩ = false := block_free l6.2 1
    have l7 := hl.lies 7 rfl (by omega)
    simp [upd] at l7
    have z7b := block_lt l7.2
    have y7b : w.heap.size < g7 := Nat.lt_of_lt_of_le (by go_size) l7.1
    have c7b0 : v1.cell? ⟨g7, 0, none⟩ = some (.int .i64 0) := block_cell l7.2 0
    have f7b0 : v1.frozen? ⟨g7, 0, none⟩ = false := block_free l7.2 0
    have c7b1 : v1.cell? ⟨g7, 1, none⟩ = some (.int .i64 0) := block_cell l7.2 1
    have f7b1 : v1.frozen? ⟨g7, 1, none⟩ = false := block_free l7.2 1
    have l8 := hl.lies 8 rfl (by omega)
    simp [upd] at l8
    have z8b := block_lt l8.2
    have y8b : w.heap.size < g8 := Nat.lt_of_lt_of_le (by go_size) l8.1
    have c8b0 : v1.cell? ⟨g8, 0, none⟩ = some (.int .i64 0) := block_cell l8.2 0
    have f8b0 : v1.frozen? ⟨g8, 0, none⟩ = false := block_free l8.2 0
    have c8b1 : v1.cell? ⟨g8, 1, none⟩ = some (.int .i64 0) := block_cell l8.2 1
    have f8b1 : v1.frozen? ⟨g8, 1, none⟩ = false := block_free l8.2 1
    have n01b : ¬ g6 = g7 := by have := hl.apart 6 7 rfl rfl (by omega) (by omega) (by omega); simpa [upd] using this
    have n02b : ¬ g6 = g8 := by have := hl.apart 6 8 rfl rfl (by omega) (by omega) (by omega); simpa [upd] using this
    have n10b : ¬ g7 = g6 := by have := hl.apart 7 6 rfl rfl (by omega) (by omega) (by omega); simpa [upd] using this
    have n12b : ¬ g7 = g8 := by have := hl.apart 7 8 rfl rfl (by omega) (by omega) (by omega); simpa [upd] using this
    have n20b : ¬ g8 = g6 := by have := hl.apart 8 6 rfl rfl (by omega) (by omega) (by omega); simpa [upd] using this
    have n21b : ¬ g8 = g7 := by have := hl.apart 8 7 rfl rfl (by omega) (by omega) (by omega); simpa [upd] using this
    clear l6
    clear l7
    clear l8
    clear hl
    go_wp2_with fail
    refine abs_wp ?_
    intro W2 hW
    have cc0 : W2.cell? ⟨g6, 0, none⟩ = some (.int .i64 a) := by rw [hW]; go_simp
    have fc0 : W2.frozen? ⟨g6, 0, none⟩ = false := by rw [hW]; go_simp
    have cc1 : W2.cell? ⟨g6, 1, none⟩ = some (.int .i64 b) := by rw [hW]; go_simp
    have fc1 : W2.frozen? ⟨g6, 1, none⟩ = false := by rw [hW]; go_simp
    have zc2 : g6 < W2.heap.size := by rw [hW]; go_size
    have cc2 : W2.cell? ⟨g7, 0, none⟩ = some (.int .i64 c) := by rw [hW]; go_simp
    have fc2 : W2.frozen? ⟨g7, 0, none⟩ = false := by rw [hW]; go_simp
    have cc3 : W2.cell? ⟨g7, 1, none⟩ = some (.int .i64 d) := by rw [hW]; go_simp
    have fc3 : W2.frozen? ⟨g7, 1, none⟩ = false := by rw [hW]; go_simp
    have zc4 : g7 < W2.heap.size := by rw [hW]; go_size
    have cc4 : W2.cell? ⟨g8, 0, none⟩ = some (.int .i64 e) := by rw [hW]; go_simp
    have fc4 : W2.frozen? ⟨g8, 0, none⟩ = false := by rw [hW]; go_simp
    have cc5 : W2.cell? ⟨g8, 1, none⟩ = some (.int .i64 f) := by rw [hW]; go_simp
    have fc5 : W2.frozen? ⟨g8, 1, none⟩ = false := by rw [hW]; go_simp
    have zc6 : g8 < W2.heap.size := by rw [hW]; go_size
    have hwc : Below w.heap.size w W2 := by
      rw [hW]
      (repeat' (first | (with_reducible exact Below.refl _ _) | (with_reducible assumption) | (with_reducible refine Below.alloc ?_ ?_ _) | (with_reducible refine Below.drew ?_) | (with_reducible refine below_drewN ?_ _) | (with_reducible refine Below.setCell ?_ ?_ _) | go_size))
    have hsc : w.heap.size ≤ W2.heap.size := hwc.size
    clear hW
    clear hwb z6b y6b c6b0 f6b0 c6b1 f6b1 z7b y7b c7b0 f7b0 c7b1 f7b1 z8b y8b c8b0 f8b0 c8b1 f8b1
    refine wp_region_kq (by kernel_rfl) (by kernel_rfl) ?_
    repeat (quiet_step ((go_at_call 15; exact KW.call (has_c _ _ _ _))))
    refine wpQuiet_nil ?_
    intro k3
    have cd0 : k3.val.cell? ⟨g6, 0, none⟩ = some (.int .i64 a) := (k3.kp.cell (p := ⟨g6, 0, none⟩) (by go_size)).trans (by go_simp)
    have fd0 : k3.val.frozen? ⟨g6, 0, none⟩ = false := (k3.kp.frozen (p := ⟨g6, 0, none⟩) (by go_size)).trans (by go_simp)
    have cd1 : k3.val.cell? ⟨g6, 1, none⟩ = some (.int .i64 b) := (k3.kp.cell (p := ⟨g6, 1, none⟩) (by go_size)).trans (by go_simp)
    have fd1 : k3.val.frozen? ⟨g6, 1, none⟩ = false := (k3.kp.frozen (p := ⟨g6, 1, none⟩) (by go_size)).trans (by go_simp)
    have zd2 : g6 < k3.val.heap.size := Nat.lt_of_lt_of_le (by go_size) k3.kp.size
    have cd2 : k3.val.cell? ⟨g7, 0, none⟩ = some (.int .i64 c) := (k3.kp.cell (p := ⟨g7, 0, none⟩) (by go_size)).trans (by go_simp)
    have fd2 : k3.val.frozen? ⟨g7, 0, none⟩ = false := (k3.kp.frozen (p := ⟨g7, 0, none⟩) (by go_size)).trans (by go_simp)
    have cd3 : k3.val.cell? ⟨g7, 1, none⟩ = some (.int .i64 d) := (k3.kp.cell (p := ⟨g7, 1, none⟩) (by go_size)).trans (by go_simp)
    have fd3 : k3.val.frozen? ⟨g7, 1, none⟩ = false := (k3.kp.frozen (p := ⟨g7, 1, none⟩) (by go_size)).trans (by go_simp)
    have zd4 : g7 < k3.val.heap.size := Nat.lt_of_lt_of_le (by go_size) k3.kp.size
    have cd4 : k3.val.cell? ⟨g8, 0, none⟩ = some (.int .i64 e) := (k3.kp.cell (p := ⟨g8, 0, none⟩) (by go_size)).trans (by go_simp)
    have fd4 : k3.val.frozen? ⟨g8, 0, none⟩ = false := (k3.kp.frozen (p := ⟨g8, 0, none⟩) (by go_size)).trans (by go_simp)
    have cd5 : k3.val.cell? ⟨g8, 1, none⟩ = some (.int .i64 f) := (k3.kp.cell (p := ⟨g8, 1, none⟩) (by go_size)).trans (by go_simp)
    have fd5 : k3.val.frozen? ⟨g8, 1, none⟩ = false := (k3.kp.frozen (p := ⟨g8, 1, none⟩) (by go_size)).trans (by go_simp)
    have zd6 : g8 < k3.val.heap.size := Nat.lt_of_lt_of_le (by go_size) k3.kp.size
    have hwd : Below w.heap.size w k3.val := Below.trans (by (repeat' (first | (with_reducible exact Below.refl _ _) | (with_reducible assumption) | (with_reducible refine Below.alloc ?_ ?_ _) | (with_reducible refine Below.drew ?_) | (with_reducible refine below_drewN ?_ _) | (with_reducible refine Below.setCell ?_ ?_ _) | go_size))) (k3.kp.mono (by go_size))
    have hsd : w.heap.size ≤ k3.val.heap.size := hwd.size
    clear cc0 fc0 cc1 fc1 zc2 cc2 fc2 cc3 fc3 zc4 cc4 fc4 cc5 fc5 zc6 hwc hsc
    go_wp2_with fail
    refine (meet_c _ _ _ _ _).mono ?_
    rintro e w4 ⟨rfl, hb4⟩
    have ce0 : w4.cell? ⟨g6, 0, none⟩ = some (.int .i64 a) := (hb4.cell (p := ⟨g6, 0, none⟩) (by go_size)).trans (by go_simp)
    have fe0 : w4.frozen? ⟨g6, 0, none⟩ = false := (hb4.frozen (p := ⟨g6, 0, none⟩) (by go_size)).trans (by go_simp)
    have ce1 : w4.cell? ⟨g6, 1, none⟩ = some (.int .i64 b) := (hb4.cell (p := ⟨g6, 1, none⟩) (by go_size)).trans (by go_simp)
    have fe1 : w4.frozen? ⟨g6, 1, none⟩ = false := (hb4.frozen (p := ⟨g6, 1, none⟩) (by go_size)).trans (by go_simp)
    have ze2 : g6 < w4.heap.size := Nat.lt_of_lt_of_le (by go_size) hb4.size
    have ce2 : w4.cell? ⟨g7, 0, none⟩ = some (.int .i64 c) := (hb4.cell (p := ⟨g7, 0, none⟩) (by go_size)).trans (by go_simp)
    have fe2 : w4.frozen? ⟨g7, 0, none⟩ = false := (hb4.frozen (p := ⟨g7, 0, none⟩) (by go_size)).trans (by go_simp)
    have ce3 : w4.cell? ⟨g7, 1, none⟩ = some (.int .i64 d) := (hb4.cell (p := ⟨g7, 1, none⟩) (by go_size)).trans (by go_simp)
    have fe3 : w4.frozen? ⟨g7, 1, none⟩ = false := (hb4.frozen (p := ⟨g7, 1, none⟩) (by go_size)).trans (by go_simp)
    have ze4 : g7 < w4.heap.size := Nat.lt_of_lt_of_le (by go_size) hb4.size
    have ce4 : w4.cell? ⟨g8, 0, none⟩ = some (.int .i64 e) := (hb4.cell (p := ⟨g8, 0, none⟩) (by go_size)).trans (by go_simp)
    have fe4 : w4.frozen? ⟨g8, 0, none⟩ = false := (hb4.frozen (p := ⟨g8, 0, none⟩) (by go_size)).trans (by go_simp)
    have ce5 : w4.cell? ⟨g8, 1, none⟩ = some (.int .i64 f) := (hb4.cell (p := ⟨g8, 1, none⟩) (by go_size)).trans (by go_simp)
    have fe5 : w4.frozen? ⟨g8, 1, none⟩ = false := (hb4.frozen (p := ⟨g8, 1, none⟩) (by go_size)).trans (by go_simp)
    have ze6 : g8 < w4.heap.size := Nat.lt_of_lt_of_le (by go_size) hb4.size
    have hwe : Below w.heap.size w w4 := Below.trans (by (repeat' (first | (with_reducible exact Below.refl _ _) | (with_reducible assumption) | (with_reducible refine Below.alloc ?_ ?_ _) | (with_reducible refine Below.drew ?_) | (with_reducible refine below_drewN ?_ _) | (with_reducible refine Below.setCell ?_ ?_ _) | go_size))) (hb4.mono (by go_size))
    have hse : w.heap.size ≤ w4.heap.size := hwe.size
    clear cd0 fd0 cd1 fd1 zd2 cd2 fd2 cd3 fd3 zd4 cd4 fd4 cd5 fd5 zd6 hwd hsd
    go_wp2_with fail
    refine (has_c _ _ _ _).mono ?_
    rintro e w5 ⟨rfl, hb5⟩
    have cf0 : w5.cell? ⟨g6, 0, none⟩ = some (.int .i64 a) := (hb5.cell (p := ⟨g6, 0, none⟩) (by go_size)).trans (by go_simp)
    have ff0 : w5.frozen? ⟨g6, 0, none⟩ = false := (hb5.frozen (p := ⟨g6, 0, none⟩) (by go_size)).trans (by go_simp)
    have cf1 : w5.cell? ⟨g6, 1, none⟩ = some (.int .i64 b) := (hb5.cell (p := ⟨g6, 1, none⟩) (by go_size)).trans (by go_simp)
    have ff1 : w5.frozen? ⟨g6, 1, none⟩ = false := (hb5.frozen (p := ⟨g6, 1, none⟩) (by go_size)).trans (by go_simp)
    have zf2 : g6 < w5.heap.size := Nat.lt_of_lt_of_le (by go_size) hb5.size
    have cf2 : w5.cell? ⟨g7, 0, none⟩ = some (.int .i64 c) := (hb5.cell (p := ⟨g7, 0, none⟩) (by go_size)).trans (by go_simp)
    have ff2 : w5.frozen? ⟨g7, 0, none⟩ = false := (hb5.frozen (p := ⟨g7, 0, none⟩) (by go_size)).trans (by go_simp)
    have cf3 : w5.cell? ⟨g7, 1, none⟩ = some (.int .i64 d) := (hb5.cell (p := ⟨g7, 1, none⟩) (by go_size)).trans (by go_simp)
    have ff3 : w5.frozen? ⟨g7, 1, none⟩ = false := (hb5.frozen (p := ⟨g7, 1, none⟩) (by go_size)).trans (by go_simp)
    have zf4 : g7 < w5.heap.size := Nat.lt_of_lt_of_le (by go_size) hb5.size
    have cf4 : w5.cell? ⟨g8, 0, none⟩ = some (.int .i64 e) := (hb5.cell (p := ⟨g8, 0, none⟩) (by go_size)).trans (by go_simp)
    have ff4 : w5.frozen? ⟨g8, 0, none⟩ = false := (hb5.frozen (p := ⟨g8, 0, none⟩) (by go_size)).trans (by go_simp)
    have cf5 : w5.cell? ⟨g8, 1, none⟩ = some (.int .i64 f) := (hb5.cell (p := ⟨g8, 1, none⟩) (by go_size)).trans (by go_simp)
    have ff5 : w5.frozen? ⟨g8, 1, none⟩ = false := (hb5.frozen (p := ⟨g8, 1, none⟩) (by go_size)).trans (by go_simp)
    have zf6 : g8 < w5.heap.size := Nat.lt_of_lt_of_le (by go_size) hb5.size
    have hwf : Below w.heap.size w w5 := Below.trans (by (repeat' (first | (with_reducible exact Below.refl _ _) | (with_reducible assumption) | (with_reducible refine Below.alloc ?_ ?_ _) | (with_reducible refine Below.drew ?_) | (with_reducible refine below_drewN ?_ _) | (with_reducible refine Below.setCell ?_ ?_ _) | go_size))) (hb5.mono (by go_size))
    have hsf : w.heap.size ≤ w5.heap.size := hwf.size
    clear ce0 fe0 ce1 fe1 ze2 ce2 fe2 ce3 fe3 ze4 ce4 fe4 ce5 fe5 ze6 hwe hse hb4
    go_wp2_with fail
    refine wp_region_kq (by kernel_rfl) (by kernel_rfl) ?_
    repeat (quiet_step ((first | (go_at_call 16; exact KW.call (meet_c _ _ _ _ _)) | (go_at_call 17; exact KW.call (hull_c _ _ _ _ _)) | (go_at_call 18; exact KW.call (within_c _ _ _ _ _)) | (go_at_call 19; exact KW.call (awake_c _)))))
    refine wpQuiet_nil ?_
    intro k6
    have cg0 : k6.val.cell? ⟨g6, 0, none⟩ = some (.int .i64 a) := (k6.kp.cell (p := ⟨g6, 0, none⟩) (by go_size)).trans (by go_simp)
    have fg0 : k6.val.frozen? ⟨g6, 0, none⟩ = false := (k6.kp.frozen (p := ⟨g6, 0, none⟩) (by go_size)).trans (by go_simp)
    have cg1 : k6.val.cell? ⟨g6, 1, none⟩ = some (.int .i64 b) := (k6.kp.cell (p := ⟨g6, 1, none⟩) (by go_size)).trans (by go_simp)
    have fg1 : k6.val.frozen? ⟨g6, 1, none⟩ = false := (k6.kp.frozen (p := ⟨g6, 1, none⟩) (by go_size)).trans (by go_simp)
    have zg2 : g6 < k6.val.heap.size := Nat.lt_of_lt_of_le (by go_size) k6.kp.size
    have cg2 : k6.val.cell? ⟨g7, 0, none⟩ = some (.int .i64 c) := (k6.kp.cell (p := ⟨g7, 0, none⟩) (by go_size)).trans (by go_simp)
    have fg2 : k6.val.frozen? ⟨g7, 0, none⟩ = false := (k6.kp.frozen (p := ⟨g7, 0, none⟩) (by go_size)).trans (by go_simp)
    have cg3 : k6.val.cell? ⟨g7, 1, none⟩ = some (.int .i64 d) := (k6.kp.cell (p := ⟨g7, 1, none⟩) (by go_size)).trans (by go_simp)
    have fg3 : k6.val.frozen? ⟨g7, 1, none⟩ = false := (k6.kp.frozen (p := ⟨g7, 1, none⟩) (by go_size)).trans (by go_simp)
    have zg4 : g7 < k6.val.heap.size := Nat.lt_of_lt_of_le (by go_size) k6.kp.size
    have cg4 : k6.val.cell? ⟨g8, 0, none⟩ = some (.int .i64 e) := (k6.kp.cell (p := ⟨g8, 0, none⟩) (by go_size)).trans (by go_simp)
    have fg4 : k6.val.frozen? ⟨g8, 0, none⟩ = false := (k6.kp.frozen (p := ⟨g8, 0, none⟩) (by go_size)).trans (by go_simp)
    have cg5 : k6.val.cell? ⟨g8, 1, none⟩ = some (.int .i64 f) := (k6.kp.cell (p := ⟨g8, 1, none⟩) (by go_size)).trans (by go_simp)
    have fg5 : k6.val.frozen? ⟨g8, 1, none⟩ = false := (k6.kp.frozen (p := ⟨g8, 1, none⟩) (by go_size)).trans (by go_simp)
    have zg6 : g8 < k6.val.heap.size := Nat.lt_of_lt_of_le (by go_size) k6.kp.size
    have hwg : Below w.heap.size w k6.val := Below.trans (by (repeat' (first | (with_reducible exact Below.refl _ _) | (with_reducible assumption) | (with_reducible refine Below.alloc ?_ ?_ _) | (with_reducible refine Below.drew ?_) | (with_reducible refine below_drewN ?_ _) | (with_reducible refine Below.setCell ?_ ?_ _) | go_size))) (k6.kp.mono (by go_size))
    have hsg : w.heap.size ≤ k6.val.heap.size := hwg.size
    clear cf0 ff0 cf1 ff1 zf2 cf2 ff2 cf3 ff3 zf4 cf4 ff4 cf5 ff5 zf6 hwf hsf hb5
    go_wp2
    go_ret
    exact ⟨rfl, by assumption⟩
  ·
    rw [hin, hot] at m9 m10
    simp only [Bool.and_true, Bool.and_false, Bool.true_and, Bool.false_and, Bool.or_true, Bool.or_false, Bool.true_or, Bool.false_or, forall_const, Bool.false_eq_true, false_implies] at m9 m10
    go_enter Try.func3, Try.ntmps3
    go_wp2_with fail
    refine wp_region_vars 9 (fun i => ([.agg #[.int .i64 a, .int .i64 b], .agg #[.int .i64 a, .int .i64 b], .agg #[.int .i64 c, .int .i64 d], .agg #[.int .i64 c, .int .i64 d], .agg #[.int .i64 e, .int .i64 f], .agg #[.int .i64 e, .int .i64 f], undef, undef, undef] : List Value).getD i undef) (fun i => i == 6 || i == 7 || i == 8) (fun _ => .cells #[.int .i64 0, .int .i64 0] 24) (by kernel_rfl) (by kernel_rfl) ?hal ?_
    case hal =>
      intro i o ho hi a w
      simp only [Bool.or_eq_true, beq_iff_eq] at hi
      rcases hi with (rfl | rfl) | rfl
      all_goals
        obtain rfl := Option.some.inj ho
        go_simp
    simp only [List.take_succ_cons, List.take_zero, List.drop_succ_cons, List.drop_zero]
    refine wpVars_val rfl rfl ?q0 (fun K hK => ?_)
    case q0 =>
      intro wx hb
      have c0 : wx.cell? ⟨w.heap.size, 0, none⟩ = some (.int .i64 a) := (hb.cell (p := ⟨w.heap.size, 0, none⟩) (by go_size)).trans (by go_simp)
      have c1 : wx.cell? ⟨w.heap.size, 1, none⟩ = some (.int .i64 b) := (hb.cell (p := ⟨w.heap.size, 1, none⟩) (by go_size)).trans (by go_simp)
      have c2 : wx.cell? ⟨w.heap.size + 1, 0, none⟩ = some (.int .i64 c) := (hb.cell (p := ⟨w.heap.size + 1, 0, none⟩) (by go_size)).trans (by go_simp)
      have c3 : wx.cell? ⟨w.heap.size + 1, 1, none⟩ = some (.int .i64 d) := (hb.cell (p := ⟨w.heap.size + 1, 1, none⟩) (by go_size)).trans (by go_simp)
      have c4 : wx.cell? ⟨w.heap.size + 1 + 1, 0, none⟩ = some (.int .i64 e) := (hb.cell (p := ⟨w.heap.size + 1 + 1, 0, none⟩) (by go_size)).trans (by go_simp)
      have c5 : wx.cell? ⟨w.heap.size + 1 + 1, 1, none⟩ = some (.int .i64 f) := (hb.cell (p := ⟨w.heap.size + 1 + 1, 1, none⟩) (by go_size)).trans (by go_simp)
      unfold growAt
      go_simp
    go_simp
    refine hK _ ?_
    clear hK K
    refine wpVars_val rfl rfl ?q1 (fun K hK => ?_)
    case q1 =>
      intro wx hb
      unfold growAt
      go_simp
      exact mine_c _ _ _
    go_simp
    refine hK _ ?_
    clear hK K
    refine wpVars_val rfl rfl ?q2 (fun K hK => ?_)
    case q2 =>
      intro wx hb
      have c0 : wx.cell? ⟨w.heap.size, 0, none⟩ = some (.int .i64 a) := (hb.cell (p := ⟨w.heap.size, 0, none⟩) (by go_size)).trans (by go_simp)
      have c1 : wx.cell? ⟨w.heap.size, 1, none⟩ = some (.int .i64 b) := (hb.cell (p := ⟨w.heap.size, 1, none⟩) (by go_size)).trans (by go_simp)
      have c2 : wx.cell? ⟨w.heap.size + 1, 0, none⟩ = some (.int .i64 c) := (hb.cell (p := ⟨w.heap.size + 1, 0, none⟩) (by go_size)).trans (by go_simp)
      have c3 : wx.cell? ⟨w.heap.size + 1, 1, none⟩ = some (.int .i64 d) := (hb.cell (p := ⟨w.heap.size + 1, 1, none⟩) (by go_size)).trans (by go_simp)
      have c4 : wx.cell? ⟨w.heap.size + 1 + 1, 0, none⟩ = some (.int .i64 e) := (hb.cell (p := ⟨w.heap.size + 1 + 1, 0, none⟩) (by go_size)).trans (by go_simp)
      have c5 : wx.cell? ⟨w.heap.size + 1 + 1, 1, none⟩ = some (.int .i64 f) := (hb.cell (p := ⟨w.heap.size + 1 + 1, 1, none⟩) (by go_size)).trans (by go_simp)
      unfold growAt
      go_simp
    go_simp
    refine hK _ ?_
    clear hK K
    refine wpVars_val rfl rfl ?q3 (fun K hK => ?_)
    case q3 =>
      intro wx hb
      unfold growAt
      go_simp
      exact mine_c _ _ _
    go_simp
    refine hK _ ?_
    clear hK K
    refine wpVars_val rfl rfl ?q4 (fun K hK => ?_)
    case q4 =>
      intro wx hb
      have c0 : wx.cell? ⟨w.heap.size, 0, none⟩ = some (.int .i64 a) := (hb.cell (p := ⟨w.heap.size, 0, none⟩) (by go_size)).trans (by go_simp)
      have c1 : wx.cell? ⟨w.heap.size, 1, none⟩ = some (.int .i64 b) := (hb.cell (p := ⟨w.heap.size, 1, none⟩) (by go_size)).trans (by go_simp)
      have c2 : wx.cell? ⟨w.heap.size + 1, 0, none⟩ = some (.int .i64 c) := (hb.cell (p := ⟨w.heap.size + 1, 0, none⟩) (by go_size)).trans (by go_simp)
      have c3 : wx.cell? ⟨w.heap.size + 1, 1, none⟩ = some (.int .i64 d) := (hb.cell (p := ⟨w.heap.size + 1, 1, none⟩) (by go_size)).trans (by go_simp)
      have c4 : wx.cell? ⟨w.heap.size + 1 + 1, 0, none⟩ = some (.int .i64 e) := (hb.cell (p := ⟨w.heap.size + 1 + 1, 0, none⟩) (by go_size)).trans (by go_simp)
      have c5 : wx.cell? ⟨w.heap.size + 1 + 1, 1, none⟩ = some (.int .i64 f) := (hb.cell (p := ⟨w.heap.size + 1 + 1, 1, none⟩) (by go_size)).trans (by go_simp)
      unfold growAt
      go_simp
    go_simp
    refine hK _ ?_
    clear hK K
    refine wpVars_val rfl rfl ?q5 (fun K hK => ?_)
    case q5 =>
      intro wx hb
      unfold growAt
      go_simp
      exact mine_c _ _ _
    go_simp
    refine hK _ ?_
    clear hK K
    refine wpVars_var rfl rfl (fun g6 K hK => ?_)
    go_simp
    refine hK _ ?_
    clear hK K
    refine wpVars_var rfl rfl (fun g7 K hK => ?_)
    go_simp
    refine hK _ ?_
    clear hK K
    refine wpVars_var rfl rfl (fun g8 K hK => ?_)
    go_simp
    refine hK _ ?_
    clear hK K
    refine wpVars_nil ?_
    intro v1 hl
    have hwb : Below w.heap.size w v1 := Below.trans (by (repeat' (first | (with_reducible exact Below.refl _ _) | (with_reducible assumption) | (with_reducible refine Below.alloc ?_ ?_ _) | (with_reducible refine Below.drew ?_) | (with_reducible refine below_drewN ?_ _) | (with_reducible refine Below.setCell ?_ ?_ _) | go_size))) (hl.kept.mono (by go_size))
    have l6 := hl.lies 6 rfl (by omega)
    simp [upd] at l6
    have z6b := block_lt l6.2
    have y6b : w.heap.size < g6 := Nat.lt_of_lt_of_le (by go_size) l6.1
    have c6b0 : v1.cell? ⟨g6, 0, none⟩ = some (.int .i64 0) := block_cell l6.2 0
    have f6b0 : v1.frozen? ⟨g6, 0, none⟩ = false := block_free l6.2 0
    have c6b1 : v1.cell? ⟨g6, 1, none⟩ = some (.int .i64 0) := block_cell l6.2 1
    have f6b1 : v1.frozen? ⟨g6, 1, none⟩ = false := block_free l6.2 1
    have l7 := hl.lies 7 rfl (by omega)
    simp [upd] at l7
    have z7b := block_lt l7.2
    have y7b : w.heap.size < g7 := Nat.lt_of_lt_of_le (by go_size) l7.1
    have c7b0 : v1.cell? ⟨g7, 0, none⟩ = some (.int .i64 0) := block_cell l7.2 0
    have f7b0 : v1.frozen? ⟨g7, 0, none⟩ = false := block_free l7.2 0
    have c7b1 : v1.cell? ⟨g7, 1, none⟩ = some (.int .i64 0) := block_cell l7.2 1
    have f7b1 : v1.frozen? ⟨g7, 1, none⟩ = false := block_free l7.2 1
    have l8 := hl.lies 8 rfl (by omega)
    simp [upd] at l8
    have z8b := block_lt l8.2
    have y8b : w.heap.size < g8 := Nat.lt_of_lt_of_le (by go_size) l8.1
    have c8b0 : v1.cell? ⟨g8, 0, none⟩ = some (.int .i64 0) := block_cell l8.2 0
    have f8b0 : v1.frozen? ⟨g8, 0, none⟩ = false := block_free l8.2 0
    have c8b1 : v1.cell? ⟨g8, 1, none⟩ = some (.int .i64 0) := block_cell l8.2 1
    have f8b1 : v1.frozen? ⟨g8, 1, none⟩ = false := block_free l8.2 1
    have n01b : ¬ g6 = g7 := by have := hl.apart 6 7 rfl rfl (by omega) (by omega) (by omega); simpa [upd] using this
    have n02b : ¬ g6 = g8 := by have := hl.apart 6 8 rfl rfl (by omega) (by omega) (by omega); simpa [upd] using this
    have n10b : ¬ g7 = g6 := by have := hl.apart 7 6 rfl rfl (by omega) (by omega) (by omega); simpa [upd] using this
    have n12b : ¬ g7 = g8 := by have := hl.apart 7 8 rfl rfl (by omega) (by omega) (by omega); simpa [upd] using this
    have n20b : ¬ g8 = g6 := by have := hl.apart 8 6 rfl rfl (by omega) (by omega) (by omega); simpa [upd] using this
    have n21b : ¬ g8 = g7 := by have := hl.apart 8 7 rfl rfl (by omega) (by omega) (by omega); simpa [upd] using this
    clear l6
    clear l7
    clear l8
    clear hl
    go_wp2_with fail
    refine abs_wp ?_
    intro W2 hW
    have cc0 : W2.cell? ⟨g6, 0, none⟩ = some (.int .i64 a) := by rw [hW]; go_simp
    have fc0 : W2.frozen? ⟨g6, 0, none⟩ = false := by rw [hW]; go_simp
    have cc1 : W2.cell? ⟨g6, 1, none⟩ = some (.int .i64 b) := by rw [hW]; go_simp
    have fc1 : W2.frozen? ⟨g6, 1, none⟩ = false := by rw [hW]; go_simp
    have zc2 : g6 < W2.heap.size := by rw [hW]; go_size
    have cc2 : W2.cell? ⟨g7, 0, none⟩ = some (.int .i64 c) := by rw [hW]; go_simp
    have fc2 : W2.frozen? ⟨g7, 0, none⟩ = false := by rw [hW]; go_simp
    have cc3 : W2.cell? ⟨g7, 1, none⟩ = some (.int .i64 d) := by rw [hW]; go_simp
    have fc3 : W2.frozen? ⟨g7, 1, none⟩ = false := by rw [hW]; go_simp
    have zc4 : g7 < W2.heap.size := by rw [hW]; go_size
    have cc4 : W2.cell? ⟨g8, 0, none⟩ = some (.int .i64 e) := by rw [hW]; go_simp
    have fc4 : W2.frozen? ⟨g8, 0, none⟩ = false := by rw [hW]; go_simp
    have cc5 : W2.cell? ⟨g8, 1, none⟩ = some (.int .i64 f) := by rw [hW]; go_simp
    have fc5 : W2.frozen? ⟨g8, 1, none⟩ = false := by rw [hW]; go_simp
    have zc6 : g8 < W2.heap.size := by rw [hW]; go_size
    have hwc : Below w.heap.size w W2 := by
      rw [hW]
      (repeat' (first | (with_reducible exact Below.refl _ _) | (with_reducible assumption) | (with_reducible refine Below.alloc ?_ ?_ _) | (with_reducible refine Below.drew ?_) | (with_reducible refine below_drewN ?_ _) | (with_reducible refine Below.setCell ?_ ?_ _) | go_size))
    have hsc : w.heap.size ≤ W2.heap.size := hwc.size
    clear hW
    clear hwb z6b y6b c6b0 f6b0 c6b1 f6b1 z7b y7b c7b0 f7b0 c7b1 f7b1 z8b y8b c8b0 f8b0 c8b1 f8b1
    refine wp_region_kq (by kernel_rfl) (by kernel_rfl) ?_
    repeat (quiet_step ((go_at_call 15; exact KW.call (has_c _ _ _ _))))
    refine wpQuiet_nil ?_
    intro k3
    have cd0 : k3.val.cell? ⟨g6, 0, none⟩ = some (.int .i64 a) := (k3.kp.cell (p := ⟨g6, 0, none⟩) (by go_size)).trans (by go_simp)
    have fd0 : k3.val.frozen? ⟨g6, 0, none⟩ = false := (k3.kp.frozen (p := ⟨g6, 0, none⟩) (by go_size)).trans (by go_simp)
    have cd1 : k3.val.cell? ⟨g6, 1, none⟩ = some (.int .i64 b) := (k3.kp.cell (p := ⟨g6, 1, none⟩) (by go_size)).trans (by go_simp)
    have fd1 : k3.val.frozen? ⟨g6, 1, none⟩ = false := (k3.kp.frozen (p := ⟨g6, 1, none⟩) (by go_size)).trans (by go_simp)
    have zd2 : g6 < k3.val.heap.size := Nat.lt_of_lt_of_le (by go_size) k3.kp.size
    have cd2 : k3.val.cell? ⟨g7, 0, none⟩ = some (.int .i64 c) := (k3.kp.cell (p := ⟨g7, 0, none⟩) (by go_size)).trans (by go_simp)
    have fd2 : k3.val.frozen? ⟨g7, 0, none⟩ = false := (k3.kp.frozen (p := ⟨g7, 0, none⟩) (by go_size)).trans (by go_simp)
    have cd3 : k3.val.cell? ⟨g7, 1, none⟩ = some (.int .i64 d) := (k3.kp.cell (p := ⟨g7, 1, none⟩) (by go_size)).trans (by go_simp)
    have fd3 : k3.val.frozen? ⟨g7, 1, none⟩ = false := (k3.kp.frozen (p := ⟨g7, 1, none⟩) (by go_size)).trans (by go_simp)
    have zd4 : g7 < k3.val.heap.size := Nat.lt_of_lt_of_le (by go_size) k3.kp.size
    have cd4 : k3.val.cell? ⟨g8, 0, none⟩ = some (.int .i64 e) := (k3.kp.cell (p := ⟨g8, 0, none⟩) (by go_size)).trans (by go_simp)
    have fd4 : k3.val.frozen? ⟨g8, 0, none⟩ = false := (k3.kp.frozen (p := ⟨g8, 0, none⟩) (by go_size)).trans (by go_simp)
    have cd5 : k3.val.cell? ⟨g8, 1, none⟩ = some (.int .i64 f) := (k3.kp.cell (p := ⟨g8, 1, none⟩) (by go_size)).trans (by go_simp)
    have fd5 : k3.val.frozen? ⟨g8, 1, none⟩ = false := (k3.kp.frozen (p := ⟨g8, 1, none⟩) (by go_size)).trans (by go_simp)
    have zd6 : g8 < k3.val.heap.size := Nat.lt_of_lt_of_le (by go_size) k3.kp.size
    have hwd : Below w.heap.size w k3.val := Below.trans (by (repeat' (first | (with_reducible exact Below.refl _ _) | (with_reducible assumption) | (with_reducible refine Below.alloc ?_ ?_ _) | (with_reducible refine Below.drew ?_) | (with_reducible refine below_drewN ?_ _) | (with_reducible refine Below.setCell ?_ ?_ _) | go_size))) (k3.kp.mono (by go_size))
    have hsd : w.heap.size ≤ k3.val.heap.size := hwd.size
    clear cc0 fc0 cc1 fc1 zc2 cc2 fc2 cc3 fc3 zc4 cc4 fc4 cc5 fc5 zc6 hwc hsc
    go_wp2_with fail
    refine (meet_c _ _ _ _ _).mono ?_
    rintro e w4 ⟨rfl, hb4⟩
    have ce0 : w4.cell? ⟨g6, 0, none⟩ = some (.int .i64 a) := (hb4.cell (p := ⟨g6, 0, none⟩) (by go_size)).trans (by go_simp)
    have fe0 : w4.frozen? ⟨g6, 0, none⟩ = false := (hb4.frozen (p := ⟨g6, 0, none⟩) (by go_size)).trans (by go_simp)
    have ce1 : w4.cell? ⟨g6, 1, none⟩ = some (.int .i64 b) := (hb4.cell (p := ⟨g6, 1, none⟩) (by go_size)).trans (by go_simp)
    have fe1 : w4.frozen? ⟨g6, 1, none⟩ = false := (hb4.frozen (p := ⟨g6, 1, none⟩) (by go_size)).trans (by go_simp)
    have ze2 : g6 < w4.heap.size := Nat.lt_of_lt_of_le (by go_size) hb4.size
    have ce2 : w4.cell? ⟨g7, 0, none⟩ = some (.int .i64 c) := (hb4.cell (p := ⟨g7, 0, none⟩) (by go_size)).trans (by go_simp)
    have fe2 : w4.frozen? ⟨g7, 0, none⟩ = false := (hb4.frozen (p := ⟨g7, 0, none⟩) (by go_size)).trans (by go_simp)
    have ce3 : w4.cell? ⟨g7, 1, none⟩ = some (.int .i64 d) := (hb4.cell (p := ⟨g7, 1, none⟩) (by go_size)).trans (by go_simp)
    have fe3 : w4.frozen? ⟨g7, 1, none⟩ = false := (hb4.frozen (p := ⟨g7, 1, none⟩) (by go_size)).trans (by go_simp)
    have ze4 : g7 < w4.heap.size := Nat.lt_of_lt_of_le (by go_size) hb4.size
    have ce4 : w4.cell? ⟨g8, 0, none⟩ = some (.int .i64 e) := (hb4.cell (p := ⟨g8, 0, none⟩) (by go_size)).trans (by go_simp)
    have fe4 : w4.frozen? ⟨g8, 0, none⟩ = false := (hb4.frozen (p := ⟨g8, 0, none⟩) (by go_size)).trans (by go_simp)
    have ce5 : w4.cell? ⟨g8, 1, none⟩ = some (.int .i64 f) := (hb4.cell (p := ⟨g8, 1, none⟩) (by go_size)).trans (by go_simp)
    have fe5 : w4.frozen? ⟨g8, 1, none⟩ = false := (hb4.frozen (p := ⟨g8, 1, none⟩) (by go_size)).trans (by go_simp)
    have ze6 : g8 < w4.heap.size := Nat.lt_of_lt_of_le (by go_size) hb4.size
    have hwe : Below w.heap.size w w4 := Below.trans (by (repeat' (first | (with_reducible exact Below.refl _ _) | (with_reducible assumption) | (with_reducible refine Below.alloc ?_ ?_ _) | (with_reducible refine Below.drew ?_) | (with_reducible refine below_drewN ?_ _) | (with_reducible refine Below.setCell ?_ ?_ _) | go_size))) (hb4.mono (by go_size))
    have hse : w.heap.size ≤ w4.heap.size := hwe.size
    clear cd0 fd0 cd1 fd1 zd2 cd2 fd2 cd3 fd3 zd4 cd4 fd4 cd5 fd5 zd6 hwd hsd
    go_wp2_with fail
    refine (has_c _ _ _ _).mono ?_
    rintro e w5 ⟨rfl, hb5⟩
    have cf0 : w5.cell? ⟨g6, 0, none⟩ = some (.int .i64 a) := (hb5.cell (p := ⟨g6, 0, none⟩) (by go_size)).trans (by go_simp)
    have ff0 : w5.frozen? ⟨g6, 0, none⟩ = false := (hb5.frozen (p := ⟨g6, 0, none⟩) (by go_size)).trans (by go_simp)
    have cf1 : w5.cell? ⟨g6, 1, none⟩ = some (.int .i64 b) := (hb5.cell (p := ⟨g6, 1, none⟩) (by go_size)).trans (by go_simp)
    have ff1 : w5.frozen? ⟨g6, 1, none⟩ = false := (hb5.frozen (p := ⟨g6, 1, none⟩) (by go_size)).trans (by go_simp)
    have zf2 : g6 < w5.heap.size := Nat.lt_of_lt_of_le (by go_size) hb5.size
    have cf2 : w5.cell? ⟨g7, 0, none⟩ = some (.int .i64 c) := (hb5.cell (p := ⟨g7, 0, none⟩) (by go_size)).trans (by go_simp)
    have ff2 : w5.frozen? ⟨g7, 0, none⟩ = false := (hb5.frozen (p := ⟨g7, 0, none⟩) (by go_size)).trans (by go_simp)
    have cf3 : w5.cell? ⟨g7, 1, none⟩ = some (.int .i64 d) := (hb5.cell (p := ⟨g7, 1, none⟩) (by go_size)).trans (by go_simp)
    have ff3 : w5.frozen? ⟨g7, 1, none⟩ = false := (hb5.frozen (p := ⟨g7, 1, none⟩) (by go_size)).trans (by go_simp)
    have zf4 : g7 < w5.heap.size := Nat.lt_of_lt_of_le (by go_size) hb5.size
    have cf4 : w5.cell? ⟨g8, 0, none⟩ = some (.int .i64 e) := (hb5.cell (p := ⟨g8, 0, none⟩) (by go_size)).trans (by go_simp)
    have ff4 : w5.frozen? ⟨g8, 0, none⟩ = false := (hb5.frozen (p := ⟨g8, 0, none⟩) (by go_size)).trans (by go_simp)
    have cf5 : w5.cell? ⟨g8, 1, none⟩ = some (.int .i64 f) := (hb5.cell (p := ⟨g8, 1, none⟩) (by go_size)).trans (by go_simp)
    have ff5 : w5.frozen? ⟨g8, 1, none⟩ = false := (hb5.frozen (p := ⟨g8, 1, none⟩) (by go_size)).trans (by go_simp)
    have zf6 : g8 < w5.heap.size := Nat.lt_of_lt_of_le (by go_size) hb5.size
    have hwf : Below w.heap.size w w5 := Below.trans (by (repeat' (first | (with_reducible exact Below.refl _ _) | (with_reducible assumption) | (with_reducible refine Below.alloc ?_ ?_ _) | (with_reducible refine Below.drew ?_) | (with_reducible refine below_drewN ?_ _) | (with_reducible refine Below.setCell ?_ ?_ _) | go_size))) (hb5.mono (by go_size))
    have hsf : w.heap.size ≤ w5.heap.size := hwf.size
    clear ce0 fe0 ce1 fe1 ze2 ce2 fe2 ce3 fe3 ze4 ce4 fe4 ce5 fe5 ze6 hwe hse hb4
    go_wp2_with fail
    refine (hull_c _ _ _ _ _).mono ?_
    rintro e w6 ⟨rfl, hb6⟩
    have cg0 : w6.cell? ⟨g6, 0, none⟩ = some (.int .i64 a) := (hb6.cell (p := ⟨g6, 0, none⟩) (by go_size)).trans (by go_simp)
    have fg0 : w6.frozen? ⟨g6, 0, none⟩ = false := (hb6.frozen (p := ⟨g6, 0, none⟩) (by go_size)).trans (by go_simp)
    have cg1 : w6.cell? ⟨g6, 1, none⟩ = some (.int .i64 b) := (hb6.cell (p := ⟨g6, 1, none⟩) (by go_size)).trans (by go_simp)
    have fg1 : w6.frozen? ⟨g6, 1, none⟩ = false := (hb6.frozen (p := ⟨g6, 1, none⟩) (by go_size)).trans (by go_simp)
    have zg2 : g6 < w6.heap.size := Nat.lt_of_lt_of_le (by go_size) hb6.size
    have cg2 : w6.cell? ⟨g7, 0, none⟩ = some (.int .i64 c) := (hb6.cell (p := ⟨g7, 0, none⟩) (by go_size)).trans (by go_simp)
    have fg2 : w6.frozen? ⟨g7, 0, none⟩ = false := (hb6.frozen (p := ⟨g7, 0, none⟩) (by go_size)).trans (by go_simp)
    have cg3 : w6.cell? ⟨g7, 1, none⟩ = some (.int .i64 d) := (hb6.cell (p := ⟨g7, 1, none⟩) (by go_size)).trans (by go_simp)
    have fg3 : w6.frozen? ⟨g7, 1, none⟩ = false := (hb6.frozen (p := ⟨g7, 1, none⟩) (by go_size)).trans (by go_simp)
    have zg4 : g7 < w6.heap.size := Nat.lt_of_lt_of_le (by go_size) hb6.size
    have cg4 : w6.cell? ⟨g8, 0, none⟩ = some (.int .i64 e) := (hb6.cell (p := ⟨g8, 0, none⟩) (by go_size)).trans (by go_simp)
    have fg4 : w6.frozen? ⟨g8, 0, none⟩ = false := (hb6.frozen (p := ⟨g8, 0, none⟩) (by go_size)).trans (by go_simp)
    have cg5 : w6.cell? ⟨g8, 1, none⟩ = some (.int .i64 f) := (hb6.cell (p := ⟨g8, 1, none⟩) (by go_size)).trans (by go_simp)
    have fg5 : w6.frozen? ⟨g8, 1, none⟩ = false := (hb6.frozen (p := ⟨g8, 1, none⟩) (by go_size)).trans (by go_simp)
    have zg6 : g8 < w6.heap.size := Nat.lt_of_lt_of_le (by go_size) hb6.size
    have hwg : Below w.heap.size w w6 := Below.trans (by (repeat' (first | (with_reducible exact Below.refl _ _) | (with_reducible assumption) | (with_reducible refine Below.alloc ?_ ?_ _) | (with_reducible refine Below.drew ?_) | (with_reducible refine below_drewN ?_ _) | (with_reducible refine Below.setCell ?_ ?_ _) | go_size))) (hb6.mono (by go_size))
    have hsg : w.heap.size ≤ w6.heap.size := hwg.size
    clear cf0 ff0 cf1 ff1 zf2 cf2 ff2 cf3 ff3 zf4 cf4 ff4 cf5 ff5 zf6 hwf hsf hb5
    go_wp2_with fail
    refine (has_c _ _ _ _).mono ?_
    rintro e w7 ⟨rfl, hb7⟩
    have ch0 : w7.cell? ⟨g6, 0, none⟩ = some (.int .i64 a) := (hb7.cell (p := ⟨g6, 0, none⟩) (by go_size)).trans (by go_simp)
    have fh0 : w7.frozen? ⟨g6, 0, none⟩ = false := (hb7.frozen (p := ⟨g6, 0, none⟩) (by go_size)).trans (by go_simp)
    have ch1 : w7.cell? ⟨g6, 1, none⟩ = some (.int .i64 b) := (hb7.cell (p := ⟨g6, 1, none⟩) (by go_size)).trans (by go_simp)
    have fh1 : w7.frozen? ⟨g6, 1, none⟩ = false := (hb7.frozen (p := ⟨g6, 1, none⟩) (by go_size)).trans (by go_simp)
    have zh2 : g6 < w7.heap.size := Nat.lt_of_lt_of_le (by go_size) hb7.size
    have ch2 : w7.cell? ⟨g7, 0, none⟩ = some (.int .i64 c) := (hb7.cell (p := ⟨g7, 0, none⟩) (by go_size)).trans (by go_simp)
    have fh2 : w7.frozen? ⟨g7, 0, none⟩ = false := (hb7.frozen (p := ⟨g7, 0, none⟩) (by go_size)).trans (by go_simp)
    have ch3 : w7.cell? ⟨g7, 1, none⟩ = some (.int .i64 d) := (hb7.cell (p := ⟨g7, 1, none⟩) (by go_size)).trans (by go_simp)
    have fh3 : w7.frozen? ⟨g7, 1, none⟩ = false := (hb7.frozen (p := ⟨g7, 1, none⟩) (by go_size)).trans (by go_simp)
    have zh4 : g7 < w7.heap.size := Nat.lt_of_lt_of_le (by go_size) hb7.size
    have ch4 : w7.cell? ⟨g8, 0, none⟩ = some (.int .i64 e) := (hb7.cell (p := ⟨g8, 0, none⟩) (by go_size)).trans (by go_simp)
    have fh4 : w7.frozen? ⟨g8, 0, none⟩ = false := (hb7.frozen (p := ⟨g8, 0, none⟩) (by go_size)).trans (by go_simp)
    have ch5 : w7.cell? ⟨g8, 1, none⟩ = some (.int .i64 f) := (hb7.cell (p := ⟨g8, 1, none⟩) (by go_size)).trans (by go_simp)
    have fh5 : w7.frozen? ⟨g8, 1, none⟩ = false := (hb7.frozen (p := ⟨g8, 1, none⟩) (by go_size)).trans (by go_simp)
    have zh6 : g8 < w7.heap.size := Nat.lt_of_lt_of_le (by go_size) hb7.size
    have hwh : Below w.heap.size w w7 := Below.trans (by (repeat' (first | (with_reducible exact Below.refl _ _) | (with_reducible assumption) | (with_reducible refine Below.alloc ?_ ?_ _) | (with_reducible refine Below.drew ?_) | (with_reducible refine below_drewN ?_ _) | (with_reducible refine Below.setCell ?_ ?_ _) | go_size))) (hb7.mono (by go_size))
    have hsh : w.heap.size ≤ w7.heap.size := hwh.size
    clear cg0 fg0 cg1 fg1 zg2 cg2 fg2 cg3 fg3 zg4 cg4 fg4 cg5 fg5 zg6 hwg hsg hb6
    go_wp2_with fail
    refine wp_region_kq (by kernel_rfl) (by kernel_rfl) ?_
    repeat (quiet_step ((first | (go_at_call 16; exact KW.call (meet_c _ _ _ _ _)) | (go_at_call 17; exact KW.call (hull_c _ _ _ _ _)) | (go_at_call 18; exact KW.call (within_c _ _ _ _ _)) | (go_at_call 19; exact KW.call (awake_c _)))))
    refine wpQuiet_nil ?_
    intro k8
    have ci0 : k8.val.cell? ⟨g6, 0, none⟩ = some (.int .i64 a) := (k8.kp.cell (p := ⟨g6, 0, none⟩) (by go_size)).trans (by go_simp)
    have fi0 : k8.val.frozen? ⟨g6, 0, none⟩ = false := (k8.kp.frozen (p := ⟨g6, 0, none⟩) (by go_size)).trans (by go_simp)
    have ci1 : k8.val.cell? ⟨g6, 1, none⟩ = some (.int .i64 b) := (k8.kp.cell (p := ⟨g6, 1, none⟩) (by go_size)).trans (by go_simp)
    have fi1 : k8.val.frozen? ⟨g6, 1, none⟩ = false := (k8.kp.frozen (p := ⟨g6, 1, none⟩) (by go_size)).trans (by go_simp)
    have zi2 : g6 < k8.val.heap.size := Nat.lt_of_lt_of_le (by go_size) k8.kp.size
    have ci2 : k8.val.cell? ⟨g7, 0, none⟩ = some (.int .i64 c) := (k8.kp.cell (p := ⟨g7, 0, none⟩) (by go_size)).trans (by go_simp)
    have fi2 : k8.val.frozen? ⟨g7, 0, none⟩ = false := (k8.kp.frozen (p := ⟨g7, 0, none⟩) (by go_size)).trans (by go_simp)
    have ci3 : k8.val.cell? ⟨g7, 1, none⟩ = some (.int .i64 d) := (k8.kp.cell (p := ⟨g7, 1, none⟩) (by go_size)).trans (by go_simp)
    have fi3 : k8.val.frozen? ⟨g7, 1, none⟩ = false := (k8.kp.frozen (p := ⟨g7, 1, none⟩) (by go_size)).trans (by go_simp)
    have zi4 : g7 < k8.val.heap.size := Nat.lt_of_lt_of_le (by go_size) k8.kp.size
    have ci4 : k8.val.cell? ⟨g8, 0, none⟩ = some (.int .i64 e) := (k8.kp.cell (p := ⟨g8, 0, none⟩) (by go_size)).trans (by go_simp)
    have fi4 : k8.val.frozen? ⟨g8, 0, none⟩ = false := (k8.kp.frozen (p := ⟨g8, 0, none⟩) (by go_size)).trans (by go_simp)
    have ci5 : k8.val.cell? ⟨g8, 1, none⟩ = some (.int .i64 f) := (k8.kp.cell (p := ⟨g8, 1, none⟩) (by go_size)).trans (by go_simp)
    have fi5 : k8.val.frozen? ⟨g8, 1, none⟩ = false := (k8.kp.frozen (p := ⟨g8, 1, none⟩) (by go_size)).trans (by go_simp)
    have zi6 : g8 < k8.val.heap.size := Nat.lt_of_lt_of_le (by go_size) k8.kp.size
    have hwi : Below w.heap.size w k8.val := Below.trans (by (repeat' (first | (with_reducible exact Below.refl _ _) | (with_reducible assumption) | (with_reducible refine Below.alloc ?_ ?_ _) | (with_reducible refine Below.drew ?_) | (with_reducible refine below_drewN ?_ _) | (with_reducible refine Below.setCell ?_ ?_ _) | go_size))) (k8.kp.mono (by go_size))
    have hsi : w.heap.size ≤ k8.val.heap.size := hwi.size
    clear ch0 fh0 ch1 fh1 zh2 ch2 fh2 ch3 fh3 zh4 ch4 fh4 ch5 fh5 zh6 hwh hsh hb7
    go_wp2
    go_ret
    exact ⟨rfl, by assumption⟩
  ·
    rw [hin, hot] at m9 m10
    simp only [Bool.and_true, Bool.and_false, Bool.true_and, Bool.false_and, Bool.or_true, Bool.or_false, Bool.true_or, Bool.false_or, forall_const, Bool.false_eq_true, false_implies] at m9 m10
    go_enter Try.func3, Try.ntmps3
    go_wp2_with fail
    refine wp_region_vars 9 (fun i => ([.agg #[.int .i64 a, .int .i64 b], .agg #[.int .i64 a, .int .i64 b], .agg #[.int .i64 c, .int .i64 d], .agg #[.int .i64 c, .int .i64 d], .agg #[.int .i64 e, .int .i64 f], .agg #[.int .i64 e, .int .i64 f], undef, undef, undef] : List Value).getD i undef) (fun i => i == 6 || i == 7 || i == 8) (fun _ => .cells #[.int .i64 0, .int .i64 0] 24) (by kernel_rfl) (by kernel_rfl) ?hal ?_
    case hal =>
      intro i o ho hi a w
      simp only [Bool.or_eq_true, beq_iff_eq] at hi
      rcases hi with (rfl | rfl) | rfl
      all_goals
        obtain rfl := Option.some.inj ho
        go_simp
    simp only [List.take_succ_cons, List.take_zero, List.drop_succ_cons, List.drop_zero]
    refine wpVars_val rfl rfl ?q0 (fun K hK => ?_)
    case q0 =>
      intro wx hb
      have c0 : wx.cell? ⟨w.heap.size, 0, none⟩ = some (.int .i64 a) := (hb.cell (p := ⟨w.heap.size, 0, none⟩) (by go_size)).trans (by go_simp)
      have c1 : wx.cell? ⟨w.heap.size, 1, none⟩ = some (.int .i64 b) := (hb.cell (p := ⟨w.heap.size, 1, none⟩) (by go_size)).trans (by go_simp)
      have c2 : wx.cell? ⟨w.heap.size + 1, 0, none⟩ = some (.int .i64 c) := (hb.cell (p := ⟨w.heap.size + 1, 0, none⟩) (by go_size)).trans (by go_simp)
      have c3 : wx.cell? ⟨w.heap.size + 1, 1, none⟩ = some (.int .i64 d) := (hb.cell (p := ⟨w.heap.size + 1, 1, none⟩) (by go_size)).trans (by go_simp)
      have c4 : wx.cell? ⟨w.heap.size + 1 + 1, 0, none⟩ = some (.int .i64 e) := (hb.cell (p := ⟨w.heap.size + 1 + 1, 0, none⟩) (by go_size)).trans (by go_simp)
      have c5 : wx.cell? ⟨w.heap.size + 1 + 1, 1, none⟩ = some (.int .i64 f) := (hb.cell (p := ⟨w.heap.size + 1 + 1, 1, none⟩) (by go_size)).trans (by go_simp)
      unfold growAt
      go_simp
    go_simp
    refine hK _ ?_
    clear hK K
    refine wpVars_val rfl rfl ?q1 (fun K hK => ?_)
    case q1 =>
      intro wx hb
      unfold growAt
      go_simp
      exact mine_c _ _ _
    go_simp
    refine hK _ ?_
    clear hK K
    refine wpVars_val rfl rfl ?q2 (fun K hK => ?_)
    case q2 =>
      intro wx hb
      have c0 : wx.cell? ⟨w.heap.size, 0, none⟩ = some (.int .i64 a) := (hb.cell (p := ⟨w.heap.size, 0, none⟩) (by go_size)).trans (by go_simp)
      have c1 : wx.cell? ⟨w.heap.size, 1, none⟩ = some (.int .i64 b) := (hb.cell (p := ⟨w.heap.size, 1, none⟩) (by go_size)).trans (by go_simp)
      have c2 : wx.cell? ⟨w.heap.size + 1, 0, none⟩ = some (.int .i64 c) := (hb.cell (p := ⟨w.heap.size + 1, 0, none⟩) (by go_size)).trans (by go_simp)
      have c3 : wx.cell? ⟨w.heap.size + 1, 1, none⟩ = some (.int .i64 d) := (hb.cell (p := ⟨w.heap.size + 1, 1, none⟩) (by go_size)).trans (by go_simp)
      have c4 : wx.cell? ⟨w.heap.size + 1 + 1, 0, none⟩ = some (.int .i64 e) := (hb.cell (p := ⟨w.heap.size + 1 + 1, 0, none⟩) (by go_size)).trans (by go_simp)
      have c5 : wx.cell? ⟨w.heap.size + 1 + 1, 1, none⟩ = some (.int .i64 f) := (hb.cell (p := ⟨w.heap.size + 1 + 1, 1, none⟩) (by go_size)).trans (by go_simp)
      unfold growAt
      go_simp
    go_simp
    refine hK _ ?_
    clear hK K
    refine wpVars_val rfl rfl ?q3 (fun K hK => ?_)
    case q3 =>
      intro wx hb
      unfold growAt
      go_simp
      exact mine_c _ _ _
    go_simp
    refine hK _ ?_
    clear hK K
    refine wpVars_val rfl rfl ?q4 (fun K hK => ?_)
    case q4 =>
      intro wx hb
      have c0 : wx.cell? ⟨w.heap.size, 0, none⟩ = some (.int .i64 a) := (hb.cell (p := ⟨w.heap.size, 0, none⟩) (by go_size)).trans (by go_simp)
      have c1 : wx.cell? ⟨w.heap.size, 1, none⟩ = some (.int .i64 b) := (hb.cell (p := ⟨w.heap.size, 1, none⟩) (by go_size)).trans (by go_simp)
      have c2 : wx.cell? ⟨w.heap.size + 1, 0, none⟩ = some (.int .i64 c) := (hb.cell (p := ⟨w.heap.size + 1, 0, none⟩) (by go_size)).trans (by go_simp)
      have c3 : wx.cell? ⟨w.heap.size + 1, 1, none⟩ = some (.int .i64 d) := (hb.cell (p := ⟨w.heap.size + 1, 1, none⟩) (by go_size)).trans (by go_simp)
      have c4 : wx.cell? ⟨w.heap.size + 1 + 1, 0, none⟩ = some (.int .i64 e) := (hb.cell (p := ⟨w.heap.size + 1 + 1, 0, none⟩) (by go_size)).trans (by go_simp)
      have c5 : wx.cell? ⟨w.heap.size + 1 + 1, 1, none⟩ = some (.int .i64 f) := (hb.cell (p := ⟨w.heap.size + 1 + 1, 1, none⟩) (by go_size)).trans (by go_simp)
      unfold growAt
      go_simp
    go_simp
    refine hK _ ?_
    clear hK K
    refine wpVars_val rfl rfl ?q5 (fun K hK => ?_)
    case q5 =>
      intro wx hb
      unfold growAt
      go_simp
      exact mine_c _ _ _
    go_simp
    refine hK _ ?_
    clear hK K
    refine wpVars_var rfl rfl (fun g6 K hK => ?_)
    go_simp
    refine hK _ ?_
    clear hK K
    refine wpVars_var rfl rfl (fun g7 K hK => ?_)
    go_simp
    refine hK _ ?_
    clear hK K
    refine wpVars_var rfl rfl (fun g8 K hK => ?_)
    go_simp
    refine hK _ ?_
    clear hK K
    refine wpVars_nil ?_
    intro v1 hl
    have hwb : Below w.heap.size w v1 := Below.trans (by (repeat' (first | (with_reducible exact Below.refl _ _) | (with_reducible assumption) | (with_reducible refine Below.alloc ?_ ?_ _) | (with_reducible refine Below.drew ?_) | (with_reducible refine below_drewN ?_ _) | (with_reducible refine Below.setCell ?_ ?_ _) | go_size))) (hl.kept.mono (by go_size))
    have l6 := hl.lies 6 rfl (by omega)
    simp [upd] at l6
    have z6b := block_lt l6.2
    have y6b : w.heap.size < g6 := Nat.lt_of_lt_of_le (by go_size) l6.1
    have c6b0 : v1.cell? ⟨g6, 0, none⟩ = some (.int .i64 0) := block_cell l6.2 0
    have f6b0 : v1.frozen? ⟨g6, 0, none⟩ = false := block_free l6.2 0
    have c6b1 : v1.cell? ⟨g6, 1, none⟩ = some (.int .i64 0) := block_cell l6.2 1
    have f6b1 : v1.frozen? ⟨g6, 1, none⟩ = false := block_free l6.2 1
    have l7 := hl.lies 7 rfl (by omega)
    simp [upd] at l7
    have z7b := block_lt l7.2
    have y7b : w.heap.size < g7 := Nat.lt_of_lt_of_le (by go_size) l7.1
    have c7b0 : v1.cell? ⟨g7, 0, none⟩ = some (.int .i64 0) := block_cell l7.2 0
    have f7b0 : v1.frozen? ⟨g7, 0, none⟩ = false := block_free l7.2 0
    have c7b1 : v1.cell? ⟨g7, 1, none⟩ = some (.int .i64 0) := block_cell l7.2 1
    have f7b1 : v1.frozen? ⟨g7, 1, none⟩ = false := block_free l7.2 1
    have l8 := hl.lies 8 rfl (by omega)
    simp [upd] at l8
    have z8b := block_lt l8.2
    have y8b : w.heap.size < g8 := Nat.lt_of_lt_of_le (by go_size) l8.1
    have c8b0 : v1.cell? ⟨g8, 0, none⟩ = some (.int .i64 0) := block_cell l8.2 0
    have f8b0 : v1.frozen? ⟨g8, 0, none⟩ = false := block_free l8.2 0
    have c8b1 : v1.cell? ⟨g8, 1, none⟩ = some (.int .i64 0) := block_cell l8.2 1
    have f8b1 : v1.frozen? ⟨g8, 1, none⟩ = false := block_free l8.2 1
    have n01b : ¬ g6 = g7 := by have := hl.apart 6 7 rfl rfl (by omega) (by omega) (by omega); simpa [upd] using this
    have n02b : ¬ g6 = g8 := by have := hl.apart 6 8 rfl rfl (by omega) (by omega) (by omega); simpa [upd] using this
    have n10b : ¬ g7 = g6 := by have := hl.apart 7 6 rfl rfl (by omega) (by omega) (by omega); simpa [upd] using this
    have n12b : ¬ g7 = g8 := by have := hl.apart 7 8 rfl rfl (by omega) (by omega) (by omega); simpa [upd] using this
    have n20b : ¬ g8 = g6 := by have := hl.apart 8 6 rfl rfl (by omega) (by omega) (by omega); simpa [upd] using this
    have n21b : ¬ g8 = g7 := by have := hl.apart 8 7 rfl rfl (by omega) (by omega) (by omega); simpa [upd] using this
    clear l6
    clear l7
    clear l8
    clear hl
    go_wp2_with fail
    refine abs_wp ?_
    intro W2 hW
    have cc0 : W2.cell? ⟨g6, 0, none⟩ = some (.int .i64 a) := by rw [hW]; go_simp
    have fc0 : W2.frozen? ⟨g6, 0, none⟩ = false := by rw [hW]; go_simp
    have cc1 : W2.cell? ⟨g6, 1, none⟩ = some (.int .i64 b) := by rw [hW]; go_simp
    have fc1 : W2.frozen? ⟨g6, 1, none⟩ = false := by rw [hW]; go_simp
    have zc2 : g6 < W2.heap.size := by rw [hW]; go_size
    have cc2 : W2.cell? ⟨g7, 0, none⟩ = some (.int .i64 c) := by rw [hW]; go_simp
    have fc2 : W2.frozen? ⟨g7, 0, none⟩ = false := by rw [hW]; go_simp
    have cc3 : W2.cell? ⟨g7, 1, none⟩ = some (.int .i64 d) := by rw [hW]; go_simp
    have fc3 : W2.frozen? ⟨g7, 1, none⟩ = false := by rw [hW]; go_simp
    have zc4 : g7 < W2.heap.size := by rw [hW]; go_size
    have cc4 : W2.cell? ⟨g8, 0, none⟩ = some (.int .i64 e) := by rw [hW]; go_simp
    have fc4 : W2.frozen? ⟨g8, 0, none⟩ = false := by rw [hW]; go_simp
    have cc5 : W2.cell? ⟨g8, 1, none⟩ = some (.int .i64 f) := by rw [hW]; go_simp
    have fc5 : W2.frozen? ⟨g8, 1, none⟩ = false := by rw [hW]; go_simp
    have zc6 : g8 < W2.heap.size := by rw [hW]; go_size
    have hwc : Below w.heap.size w W2 := by
      rw [hW]
      (repeat' (first | (with_reducible exact Below.refl _ _) | (with_reducible assumption) | (with_reducible refine Below.alloc ?_ ?_ _) | (with_reducible refine Below.drew ?_) | (with_reducible refine below_drewN ?_ _) | (with_reducible refine Below.setCell ?_ ?_ _) | go_size))
    have hsc : w.heap.size ≤ W2.heap.size := hwc.size
    clear hW
    clear hwb z6b y6b c6b0 f6b0 c6b1 f6b1 z7b y7b c7b0 f7b0 c7b1 f7b1 z8b y8b c8b0 f8b0 c8b1 f8b1
    refine wp_region_kq (by kernel_rfl) (by kernel_rfl) ?_
    repeat (quiet_step ((go_at_call 15; exact KW.call (has_c _ _ _ _))))
    refine wpQuiet_nil ?_
    intro k3
    have cd0 : k3.val.cell? ⟨g6, 0, none⟩ = some (.int .i64 a) := (k3.kp.cell (p := ⟨g6, 0, none⟩) (by go_size)).trans (by go_simp)
    have fd0 : k3.val.frozen? ⟨g6, 0, none⟩ = false := (k3.kp.frozen (p := ⟨g6, 0, none⟩) (by go_size)).trans (by go_simp)
    have cd1 : k3.val.cell? ⟨g6, 1, none⟩ = some (.int .i64 b) := (k3.kp.cell (p := ⟨g6, 1, none⟩) (by go_size)).trans (by go_simp)
    have fd1 : k3.val.frozen? ⟨g6, 1, none⟩ = false := (k3.kp.frozen (p := ⟨g6, 1, none⟩) (by go_size)).trans (by go_simp)
    have zd2 : g6 < k3.val.heap.size := Nat.lt_of_lt_of_le (by go_size) k3.kp.size
    have cd2 : k3.val.cell? ⟨g7, 0, none⟩ = some (.int .i64 c) := (k3.kp.cell (p := ⟨g7, 0, none⟩) (by go_size)).trans (by go_simp)
    have fd2 : k3.val.frozen? ⟨g7, 0, none⟩ = false := (k3.kp.frozen (p := ⟨g7, 0, none⟩) (by go_size)).trans (by go_simp)
    have cd3 : k3.val.cell? ⟨g7, 1, none⟩ = some (.int .i64 d) := (k3.kp.cell (p := ⟨g7, 1, none⟩) (by go_size)).trans (by go_simp)
    have fd3 : k3.val.frozen? ⟨g7, 1, none⟩ = false := (k3.kp.frozen (p := ⟨g7, 1, none⟩) (by go_size)).trans (by go_simp)
    have zd4 : g7 < k3.val.heap.size := Nat.lt_of_lt_of_le (by go_size) k3.kp.size
    have cd4 : k3.val.cell? ⟨g8, 0, none⟩ = some (.int .i64 e) := (k3.kp.cell (p := ⟨g8, 0, none⟩) (by go_size)).trans (by go_simp)
    have fd4 : k3.val.frozen? ⟨g8, 0, none⟩ = false := (k3.kp.frozen (p := ⟨g8, 0, none⟩) (by go_size)).trans (by go_simp)
    have cd5 : k3.val.cell? ⟨g8, 1, none⟩ = some (.int .i64 f) := (k3.kp.cell (p := ⟨g8, 1, none⟩) (by go_size)).trans (by go_simp)
    have fd5 : k3.val.frozen? ⟨g8, 1, none⟩ = false := (k3.kp.frozen (p := ⟨g8, 1, none⟩) (by go_size)).trans (by go_simp)
    have zd6 : g8 < k3.val.heap.size := Nat.lt_of_lt_of_le (by go_size) k3.kp.size
    have hwd : Below w.heap.size w k3.val := Below.trans (by (repeat' (first | (with_reducible exact Below.refl _ _) | (with_reducible assumption) | (with_reducible refine Below.alloc ?_ ?_ _) | (with_reducible refine Below.drew ?_) | (with_reducible refine below_drewN ?_ _) | (with_reducible refine Below.setCell ?_ ?_ _) | go_size))) (k3.kp.mono (by go_size))
    have hsd : w.heap.size ≤ k3.val.heap.size := hwd.size
    clear cc0 fc0 cc1 fc1 zc2 cc2 fc2 cc3 fc3 zc4 cc4 fc4 cc5 fc5 zc6 hwc hsc
    go_wp2_with fail
    refine (meet_c _ _ _ _ _).mono ?_
    rintro e w4 ⟨rfl, hb4⟩
    have ce0 : w4.cell? ⟨g6, 0, none⟩ = some (.int .i64 a) := (hb4.cell (p := ⟨g6, 0, none⟩) (by go_size)).trans (by go_simp)
    have fe0 : w4.frozen? ⟨g6, 0, none⟩ = false := (hb4.frozen (p := ⟨g6, 0, none⟩) (by go_size)).trans (by go_simp)
    have ce1 : w4.cell? ⟨g6, 1, none⟩ = some (.int .i64 b) := (hb4.cell (p := ⟨g6, 1, none⟩) (by go_size)).trans (by go_simp)
    have fe1 : w4.frozen? ⟨g6, 1, none⟩ = false := (hb4.frozen (p := ⟨g6, 1, none⟩) (by go_size)).trans (by go_simp)
    have ze2 : g6 < w4.heap.size := Nat.lt_of_lt_of_le (by go_size) hb4.size
    have ce2 : w4.cell? ⟨g7, 0, none⟩ = some (.int .i64 c) := (hb4.cell (p := ⟨g7, 0, none⟩) (by go_size)).trans (by go_simp)
    have fe2 : w4.frozen? ⟨g7, 0, none⟩ = false := (hb4.frozen (p := ⟨g7, 0, none⟩) (by go_size)).trans (by go_simp)
    have ce3 : w4.cell? ⟨g7, 1, none⟩ = some (.int .i64 d) := (hb4.cell (p := ⟨g7, 1, none⟩) (by go_size)).trans (by go_simp)
    have fe3 : w4.frozen? ⟨g7, 1, none⟩ = false := (hb4.frozen (p := ⟨g7, 1, none⟩) (by go_size)).trans (by go_simp)
    have ze4 : g7 < w4.heap.size := Nat.lt_of_lt_of_le (by go_size) hb4.size
    have ce4 : w4.cell? ⟨g8, 0, none⟩ = some (.int .i64 e) := (hb4.cell (p := ⟨g8, 0, none⟩) (by go_size)).trans (by go_simp)
    have fe4 : w4.frozen? ⟨g8, 0, none⟩ = false := (hb4.frozen (p := ⟨g8, 0, none⟩) (by go_size)).trans (by go_simp)
    have ce5 : w4.cell? ⟨g8, 1, none⟩ = some (.int .i64 f) := (hb4.cell (p := ⟨g8, 1, none⟩) (by go_size)).trans (by go_simp)
    have fe5 : w4.frozen? ⟨g8, 1, none⟩ = false := (hb4.frozen (p := ⟨g8, 1, none⟩) (by go_size)).trans (by go_simp)
    have ze6 : g8 < w4.heap.size := Nat.lt_of_lt_of_le (by go_size) hb4.size
    have hwe : Below w.heap.size w w4 := Below.trans (by (repeat' (first | (with_reducible exact Below.refl _ _) | (with_reducible assumption) | (with_reducible refine Below.alloc ?_ ?_ _) | (with_reducible refine Below.drew ?_) | (with_reducible refine below_drewN ?_ _) | (with_reducible refine Below.setCell ?_ ?_ _) | go_size))) (hb4.mono (by go_size))
    have hse : w.heap.size ≤ w4.heap.size := hwe.size
    clear cd0 fd0 cd1 fd1 zd2 cd2 fd2 cd3 fd3 zd4 cd4 fd4 cd5 fd5 zd6 hwd hsd
    go_wp2_with fail
    refine (has_c _ _ _ _).mono ?_
    rintro e w5 ⟨rfl, hb5⟩
    have cf0 : w5.cell? ⟨g6, 0, none⟩ = some (.int .i64 a) := (hb5.cell (p := ⟨g6, 0, none⟩) (by go_size)).trans (by go_simp)
    have ff0 : w5.frozen? ⟨g6, 0, none⟩ = false := (hb5.frozen (p := ⟨g6, 0, none⟩) (by go_size)).trans (by go_simp)
    have cf1 : w5.cell? ⟨g6, 1, none⟩ = some (.int .i64 b) := (hb5.cell (p := ⟨g6, 1, none⟩) (by go_size)).trans (by go_simp)
    have ff1 : w5.frozen? ⟨g6, 1, none⟩ = false := (hb5.frozen (p := ⟨g6, 1, none⟩) (by go_size)).trans (by go_simp)
    have zf2 : g6 < w5.heap.size := Nat.lt_of_lt_of_le (by go_size) hb5.size
    have cf2 : w5.cell? ⟨g7, 0, none⟩ = some (.int .i64 c) := (hb5.cell (p := ⟨g7, 0, none⟩) (by go_size)).trans (by go_simp)
    have ff2 : w5.frozen? ⟨g7, 0, none⟩ = false := (hb5.frozen (p := ⟨g7, 0, none⟩) (by go_size)).trans (by go_simp)
    have cf3 : w5.cell? ⟨g7, 1, none⟩ = some (.int .i64 d) := (hb5.cell (p := ⟨g7, 1, none⟩) (by go_size)).trans (by go_simp)
    have ff3 : w5.frozen? ⟨g7, 1, none⟩ = false := (hb5.frozen (p := ⟨g7, 1, none⟩) (by go_size)).trans (by go_simp)
    have zf4 : g7 < w5.heap.size := Nat.lt_of_lt_of_le (by go_size) hb5.size
    have cf4 : w5.cell? ⟨g8, 0, none⟩ = some (.int .i64 e) := (hb5.cell (p := ⟨g8, 0, none⟩) (by go_size)).trans (by go_simp)
    have ff4 : w5.frozen? ⟨g8, 0, none⟩ = false := (hb5.frozen (p := ⟨g8, 0, none⟩) (by go_size)).trans (by go_simp)
    have cf5 : w5.cell? ⟨g8, 1, none⟩ = some (.int .i64 f) := (hb5.cell (p := ⟨g8, 1, none⟩) (by go_size)).trans (by go_simp)
    have ff5 : w5.frozen? ⟨g8, 1, none⟩ = false := (hb5.frozen (p := ⟨g8, 1, none⟩) (by go_size)).trans (by go_simp)
    have zf6 : g8 < w5.heap.size := Nat.lt_of_lt_of_le (by go_size) hb5.size
    have hwf : Below w.heap.size w w5 := Below.trans (by (repeat' (first | (with_reducible exact Below.refl _ _) | (with_reducible assumption) | (with_reducible refine Below.alloc ?_ ?_ _) | (with_reducible refine Below.drew ?_) | (with_reducible refine below_drewN ?_ _) | (with_reducible refine Below.setCell ?_ ?_ _) | go_size))) (hb5.mono (by go_size))
    have hsf : w.heap.size ≤ w5.heap.size := hwf.size
    clear ce0 fe0 ce1 fe1 ze2 ce2 fe2 ce3 fe3 ze4 ce4 fe4 ce5 fe5 ze6 hwe hse hb4
    go_wp2_with fail
    refine (hull_c _ _ _ _ _).mono ?_
    rintro e w6 ⟨rfl, hb6⟩
    have cg0 : w6.cell? ⟨g6, 0, none⟩ = some (.int .i64 a) := (hb6.cell (p := ⟨g6, 0, none⟩) (by go_size)).trans (by go_simp)
    have fg0 : w6.frozen? ⟨g6, 0, none⟩ = false := (hb6.frozen (p := ⟨g6, 0, none⟩) (by go_size)).trans (by go_simp)
    have cg1 : w6.cell? ⟨g6, 1, none⟩ = some (.int .i64 b) := (hb6.cell (p := ⟨g6, 1, none⟩) (by go_size)).trans (by go_simp)
    have fg1 : w6.frozen? ⟨g6, 1, none⟩ = false := (hb6.frozen (p := ⟨g6, 1, none⟩) (by go_size)).trans (by go_simp)
    have zg2 : g6 < w6.heap.size := Nat.lt_of_lt_of_le (by go_size) hb6.size
    have cg2 : w6.cell? ⟨g7, 0, none⟩ = some (.int .i64 c) := (hb6.cell (p := ⟨g7, 0, none⟩) (by go_size)).trans (by go_simp)
    have fg2 : w6.frozen? ⟨g7, 0, none⟩ = false := (hb6.frozen (p := ⟨g7, 0, none⟩) (by go_size)).trans (by go_simp)
    have cg3 : w6.cell? ⟨g7, 1, none⟩ = some (.int .i64 d) := (hb6.cell (p := ⟨g7, 1, none⟩) (by go_size)).trans (by go_simp)
    have fg3 : w6.frozen? ⟨g7, 1, none⟩ = false := (hb6.frozen (p := ⟨g7, 1, none⟩) (by go_size)).trans (by go_simp)
    have zg4 : g7 < w6.heap.size := Nat.lt_of_lt_of_le (by go_size) hb6.size
    have cg4 : w6.cell? ⟨g8, 0, none⟩ = some (.int .i64 e) := (hb6.cell (p := ⟨g8, 0, none⟩) (by go_size)).trans (by go_simp)
    have fg4 : w6.frozen? ⟨g8, 0, none⟩ = false := (hb6.frozen (p := ⟨g8, 0, none⟩) (by go_size)).trans (by go_simp)
    have cg5 : w6.cell? ⟨g8, 1, none⟩ = some (.int .i64 f) := (hb6.cell (p := ⟨g8, 1, none⟩) (by go_size)).trans (by go_simp)
    have fg5 : w6.frozen? ⟨g8, 1, none⟩ = false := (hb6.frozen (p := ⟨g8, 1, none⟩) (by go_size)).trans (by go_simp)
    have zg6 : g8 < w6.heap.size := Nat.lt_of_lt_of_le (by go_size) hb6.size
    have hwg : Below w.heap.size w w6 := Below.trans (by (repeat' (first | (with_reducible exact Below.refl _ _) | (with_reducible assumption) | (with_reducible refine Below.alloc ?_ ?_ _) | (with_reducible refine Below.drew ?_) | (with_reducible refine below_drewN ?_ _) | (with_reducible refine Below.setCell ?_ ?_ _) | go_size))) (hb6.mono (by go_size))
    have hsg : w.heap.size ≤ w6.heap.size := hwg.size
    clear cf0 ff0 cf1 ff1 zf2 cf2 ff2 cf3 ff3 zf4 cf4 ff4 cf5 ff5 zf6 hwf hsf hb5
    go_wp2_with fail
    refine (has_c _ _ _ _).mono ?_
    rintro e w7 ⟨rfl, hb7⟩
    have ch0 : w7.cell? ⟨g6, 0, none⟩ = some (.int .i64 a) := (hb7.cell (p := ⟨g6, 0, none⟩) (by go_size)).trans (by go_simp)
    have fh0 : w7.frozen? ⟨g6, 0, none⟩ = false := (hb7.frozen (p := ⟨g6, 0, none⟩) (by go_size)).trans (by go_simp)
    have ch1 : w7.cell? ⟨g6, 1, none⟩ = some (.int .i64 b) := (hb7.cell (p := ⟨g6, 1, none⟩) (by go_size)).trans (by go_simp)
    have fh1 : w7.frozen? ⟨g6, 1, none⟩ = false := (hb7.frozen (p := ⟨g6, 1, none⟩) (by go_size)).trans (by go_simp)
    have zh2 : g6 < w7.heap.size := Nat.lt_of_lt_of_le (by go_size) hb7.size
    have ch2 : w7.cell? ⟨g7, 0, none⟩ = some (.int .i64 c) := (hb7.cell (p := ⟨g7, 0, none⟩) (by go_size)).trans (by go_simp)
    have fh2 : w7.frozen? ⟨g7, 0, none⟩ = false := (hb7.frozen (p := ⟨g7, 0, none⟩) (by go_size)).trans (by go_simp)
    have ch3 : w7.cell? ⟨g7, 1, none⟩ = some (.int .i64 d) := (hb7.cell (p := ⟨g7, 1, none⟩) (by go_size)).trans (by go_simp)
    have fh3 : w7.frozen? ⟨g7, 1, none⟩ = false := (hb7.frozen (p := ⟨g7, 1, none⟩) (by go_size)).trans (by go_simp)
    have zh4 : g7 < w7.heap.size := Nat.lt_of_lt_of_le (by go_size) hb7.size
    have ch4 : w7.cell? ⟨g8, 0, none⟩ = some (.int .i64 e) := (hb7.cell (p := ⟨g8, 0, none⟩) (by go_size)).trans (by go_simp)
    have fh4 : w7.frozen? ⟨g8, 0, none⟩ = false := (hb7.frozen (p := ⟨g8, 0, none⟩) (by go_size)).trans (by go_simp)
    have ch5 : w7.cell? ⟨g8, 1, none⟩ = some (.int .i64 f) := (hb7.cell (p := ⟨g8, 1, none⟩) (by go_size)).trans (by go_simp)
    have fh5 : w7.frozen? ⟨g8, 1, none⟩ = false := (hb7.frozen (p := ⟨g8, 1, none⟩) (by go_size)).trans (by go_simp)
    have zh6 : g8 < w7.heap.size := Nat.lt_of_lt_of_le (by go_size) hb7.size
    have hwh : Below w.heap.size w w7 := Below.trans (by (repeat' (first | (with_reducible exact Below.refl _ _) | (with_reducible assumption) | (with_reducible refine Below.alloc ?_ ?_ _) | (with_reducible refine Below.drew ?_) | (with_reducible refine below_drewN ?_ _) | (with_reducible refine Below.setCell ?_ ?_ _) | go_size))) (hb7.mono (by go_size))
    have hsh : w.heap.size ≤ w7.heap.size := hwh.size
    clear cg0 fg0 cg1 fg1 zg2 cg2 fg2 cg3 fg3 zg4 cg4 fg4 cg5 fg5 zg6 hwg hsg hb6
    go_wp2_with fail
    refine wp_region_kq (by kernel_rfl) (by kernel_rfl) ?_
    repeat (quiet_step ((first | (go_at_call 16; exact KW.call (meet_c _ _ _ _ _)) | (go_at_call 17; exact KW.call (hull_c _ _ _ _ _)) | (go_at_call 18; exact KW.call (within_c _ _ _ _ _)) | (go_at_call 19; exact KW.call (awake_c _)))))
    refine wpQuiet_nil ?_
    intro k8
    have ci0 : k8.val.cell? ⟨g6, 0, none⟩ = some (.int .i64 a) := (k8.kp.cell (p := ⟨g6, 0, none⟩) (by go_size)).trans (by go_simp)
    have fi0 : k8.val.frozen? ⟨g6, 0, none⟩ = false := (k8.kp.frozen (p := ⟨g6, 0, none⟩) (by go_size)).trans (by go_simp)
    have ci1 : k8.val.cell? ⟨g6, 1, none⟩ = some (.int .i64 b) := (k8.kp.cell (p := ⟨g6, 1, none⟩) (by go_size)).trans (by go_simp)
    have fi1 : k8.val.frozen? ⟨g6, 1, none⟩ = false := (k8.kp.frozen (p := ⟨g6, 1, none⟩) (by go_size)).trans (by go_simp)
    have zi2 : g6 < k8.val.heap.size := Nat.lt_of_lt_of_le (by go_size) k8.kp.size
    have ci2 : k8.val.cell? ⟨g7, 0, none⟩ = some (.int .i64 c) := (k8.kp.cell (p := ⟨g7, 0, none⟩) (by go_size)).trans (by go_simp)
    have fi2 : k8.val.frozen? ⟨g7, 0, none⟩ = false := (k8.kp.frozen (p := ⟨g7, 0, none⟩) (by go_size)).trans (by go_simp)
    have ci3 : k8.val.cell? ⟨g7, 1, none⟩ = some (.int .i64 d) := (k8.kp.cell (p := ⟨g7, 1, none⟩) (by go_size)).trans (by go_simp)
    have fi3 : k8.val.frozen? ⟨g7, 1, none⟩ = false := (k8.kp.frozen (p := ⟨g7, 1, none⟩) (by go_size)).trans (by go_simp)
    have zi4 : g7 < k8.val.heap.size := Nat.lt_of_lt_of_le (by go_size) k8.kp.size
    have ci4 : k8.val.cell? ⟨g8, 0, none⟩ = some (.int .i64 e) := (k8.kp.cell (p := ⟨g8, 0, none⟩) (by go_size)).trans (by go_simp)
    have fi4 : k8.val.frozen? ⟨g8, 0, none⟩ = false := (k8.kp.frozen (p := ⟨g8, 0, none⟩) (by go_size)).trans (by go_simp)
    have ci5 : k8.val.cell? ⟨g8, 1, none⟩ = some (.int .i64 f) := (k8.kp.cell (p := ⟨g8, 1, none⟩) (by go_size)).trans (by go_simp)
    have fi5 : k8.val.frozen? ⟨g8, 1, none⟩ = false := (k8.kp.frozen (p := ⟨g8, 1, none⟩) (by go_size)).trans (by go_simp)
    have zi6 : g8 < k8.val.heap.size := Nat.lt_of_lt_of_le (by go_size) k8.kp.size
    have hwi : Below w.heap.size w k8.val := Below.trans (by (repeat' (first | (with_reducible exact Below.refl _ _) | (with_reducible assumption) | (with_reducible refine Below.alloc ?_ ?_ _) | (with_reducible refine Below.drew ?_) | (with_reducible refine below_drewN ?_ _) | (with_reducible refine Below.setCell ?_ ?_ _) | go_size))) (k8.kp.mono (by go_size))
    have hsi : w.heap.size ≤ k8.val.heap.size := hwi.size
    clear ch0 fh0 ch1 fh1 zh2 ch2 fh2 ch3 fh3 zh4 ch4 fh4 ch5 fh5 zh6 hwh hsh hb7
    go_wp2
    go_ret
    exact ⟨rfl, by assumption⟩
  ·
    rw [hin, hot] at m9 m10
    simp only [Bool.and_true, Bool.and_false, Bool.true_and, Bool.false_and, Bool.or_true, Bool.or_false, Bool.true_or, Bool.false_or, forall_const, Bool.false_eq_true, false_implies] at m9 m10
    go_enter Try.func3, Try.ntmps3
    go_wp2_with fail
    refine wp_region_vars 9 (fun i => ([.agg #[.int .i64 a, .int .i64 b], .agg #[.int .i64 a, .int .i64 b], .agg #[.int .i64 c, .int .i64 d], .agg #[.int .i64 c, .int .i64 d], .agg #[.int .i64 e, .int .i64 f], .agg #[.int .i64 e, .int .i64 f], undef, undef, undef] : List Value).getD i undef) (fun i => i == 6 || i == 7 || i == 8) (fun _ => .cells #[.int .i64 0, .int .i64 0] 24) (by kernel_rfl) (by kernel_rfl) ?hal ?_
    case hal =>
      intro i o ho hi a w
      simp only [Bool.or_eq_true, beq_iff_eq] at hi
      rcases hi with (rfl | rfl) | rfl
      all_goals
        obtain rfl := Option.some.inj ho
        go_simp
    simp only [List.take_succ_cons, List.take_zero, List.drop_succ_cons, List.drop_zero]
    refine wpVars_val rfl rfl ?q0 (fun K hK => ?_)
    case q0 =>
      intro wx hb
      have c0 : wx.cell? ⟨w.heap.size, 0, none⟩ = some (.int .i64 a) := (hb.cell (p := ⟨w.heap.size, 0, none⟩) (by go_size)).trans (by go_simp)
      have c1 : wx.cell? ⟨w.heap.size, 1, none⟩ = some (.int .i64 b) := (hb.cell (p := ⟨w.heap.size, 1, none⟩) (by go_size)).trans (by go_simp)
      have c2 : wx.cell? ⟨w.heap.size + 1, 0, none⟩ = some (.int .i64 c) := (hb.cell (p := ⟨w.heap.size + 1, 0, none⟩) (by go_size)).trans (by go_simp)
      have c3 : wx.cell? ⟨w.heap.size + 1, 1, none⟩ = some (.int .i64 d) := (hb.cell (p := ⟨w.heap.size + 1, 1, none⟩) (by go_size)).trans (by go_simp)
      have c4 : wx.cell? ⟨w.heap.size + 1 + 1, 0, none⟩ = some (.int .i64 e) := (hb.cell (p := ⟨w.heap.size + 1 + 1, 0, none⟩) (by go_size)).trans (by go_simp)
      have c5 : wx.cell? ⟨w.heap.size + 1 + 1, 1, none⟩ = some (.int .i64 f) := (hb.cell (p := ⟨w.heap.size + 1 + 1, 1, none⟩) (by go_size)).trans (by go_simp)
      unfold growAt
      go_simp
    go_simp
    refine hK _ ?_
    clear hK K
    refine wpVars_val rfl rfl ?q1 (fun K hK => ?_)
    case q1 =>
      intro wx hb
      unfold growAt
      go_simp
      exact mine_c _ _ _
    go_simp
    refine hK _ ?_
    clear hK K
    refine wpVars_val rfl rfl ?q2 (fun K hK => ?_)
    case q2 =>
      intro wx hb
      have c0 : wx.cell? ⟨w.heap.size, 0, none⟩ = some (.int .i64 a) := (hb.cell (p := ⟨w.heap.size, 0, none⟩) (by go_size)).trans (by go_simp)
      have c1 : wx.cell? ⟨w.heap.size, 1, none⟩ = some (.int .i64 b) := (hb.cell (p := ⟨w.heap.size, 1, none⟩) (by go_size)).trans (by go_simp)
      have c2 : wx.cell? ⟨w.heap.size + 1, 0, none⟩ = some (.int .i64 c) := (hb.cell (p := ⟨w.heap.size + 1, 0, none⟩) (by go_size)).trans (by go_simp)
      have c3 : wx.cell? ⟨w.heap.size + 1, 1, none⟩ = some (.int .i64 d) := (hb.cell (p := ⟨w.heap.size + 1, 1, none⟩) (by go_size)).trans (by go_simp)
      have c4 : wx.cell? ⟨w.heap.size + 1 + 1, 0, none⟩ = some (.int .i64 e) := (hb.cell (p := ⟨w.heap.size + 1 + 1, 0, none⟩) (by go_size)).trans (by go_simp)
      have c5 : wx.cell? ⟨w.heap.size + 1 + 1, 1, none⟩ = some (.int .i64 f) := (hb.cell (p := ⟨w.heap.size + 1 + 1, 1, none⟩) (by go_size)).trans (by go_simp)
      unfold growAt
      go_simp
    go_simp
    refine hK _ ?_
    clear hK K
    refine wpVars_val rfl rfl ?q3 (fun K hK => ?_)
    case q3 =>
      intro wx hb
      unfold growAt
      go_simp
      exact mine_c _ _ _
    go_simp
    refine hK _ ?_
    clear hK K
    refine wpVars_val rfl rfl ?q4 (fun K hK => ?_)
    case q4 =>
      intro wx hb
      have c0 : wx.cell? ⟨w.heap.size, 0, none⟩ = some (.int .i64 a) := (hb.cell (p := ⟨w.heap.size, 0, none⟩) (by go_size)).trans (by go_simp)
      have c1 : wx.cell? ⟨w.heap.size, 1, none⟩ = some (.int .i64 b) := (hb.cell (p := ⟨w.heap.size, 1, none⟩) (by go_size)).trans (by go_simp)
      have c2 : wx.cell? ⟨w.heap.size + 1, 0, none⟩ = some (.int .i64 c) := (hb.cell (p := ⟨w.heap.size + 1, 0, none⟩) (by go_size)).trans (by go_simp)
      have c3 : wx.cell? ⟨w.heap.size + 1, 1, none⟩ = some (.int .i64 d) := (hb.cell (p := ⟨w.heap.size + 1, 1, none⟩) (by go_size)).trans (by go_simp)
      have c4 : wx.cell? ⟨w.heap.size + 1 + 1, 0, none⟩ = some (.int .i64 e) := (hb.cell (p := ⟨w.heap.size + 1 + 1, 0, none⟩) (by go_size)).trans (by go_simp)
      have c5 : wx.cell? ⟨w.heap.size + 1 + 1, 1, none⟩ = some (.int .i64 f) := (hb.cell (p := ⟨w.heap.size + 1 + 1, 1, none⟩) (by go_size)).trans (by go_simp)
      unfold growAt
      go_simp
    go_simp
    refine hK _ ?_
    clear hK K
    refine wpVars_val rfl rfl ?q5 (fun K hK => ?_)
    case q5 =>
      intro wx hb
      unfold growAt
      go_simp
      exact mine_c _ _ _
    go_simp
    refine hK _ ?_
    clear hK K
    refine wpVars_var rfl rfl (fun g6 K hK => ?_)
    go_simp
    refine hK _ ?_
    clear hK K
    refine wpVars_var rfl rfl (fun g7 K hK => ?_)
    go_simp
    refine hK _ ?_
    clear hK K
    refine wpVars_var rfl rfl (fun g8 K hK => ?_)
    go_simp
    refine hK _ ?_
    clear hK K
    refine wpVars_nil ?_
    intro v1 hl
    have hwb : Below w.heap.size w v1 := Below.trans (by (repeat' (first | (with_reducible exact Below.refl _ _) | (with_reducible assumption) | (with_reducible refine Below.alloc ?_ ?_ _) | (with_reducible refine Below.drew ?_) | (with_reducible refine below_drewN ?_ _) | (with_reducible refine Below.setCell ?_ ?_ _) | go_size))) (hl.kept.mono (by go_size))
    have l6 := hl.lies 6 rfl (by omega)
    simp [upd] at l6
    have z6b := block_lt l6.2
    have y6b : w.heap.size < g6 := Nat.lt_of_lt_of_le (by go_size) l6.1
    have c6b0 : v1.cell? ⟨g6, 0, none⟩ = some (.int .i64 0) := block_cell l6.2 0
    have f6b0 : v1.frozen? ⟨g6, 0, none⟩ = false := block_free l6.2 0
    have c6b1 : v1.cell? ⟨g6, 1, none⟩ = some (.int .i64 0) := block_cell l6.2 1
    have f6b1 : v1.frozen? ⟨g6, 1, none⟩ = false := block_free l6.2 1
    have l7 := hl.lies 7 rfl (by omega)
    simp [upd] at l7
    have z7b := block_lt l7.2
    have y7b : w.heap.size < g7 := Nat.lt_of_lt_of_le (by go_size) l7.1
    have c7b0 : v1.cell? ⟨g7, 0, none⟩ = some (.int .i64 0) := block_cell l7.2 0
    have f7b0 : v1.frozen? ⟨g7, 0, none⟩ = false := block_free l7.2 0
    have c7b1 : v1.cell? ⟨g7, 1, none⟩ = some (.int .i64 0) := block_cell l7.2 1
    have f7b1 : v1.frozen? ⟨g7, 1, none⟩ = false := block_free l7.2 1
    have l8 := hl.lies 8 rfl (by omega)
    simp [upd] at l8
    have z8b := block_lt l8.2
    have y8b : w.heap.size < g8 := Nat.lt_of_lt_of_le (by go_size) l8.1
    have c8b0 : v1.cell? ⟨g8, 0, none⟩ = some (.int .i64 0) := block_cell l8.2 0
    have f8b0 : v1.frozen? ⟨g8, 0, none⟩ = false := block_free l8.2 0
    have c8b1 : v1.cell? ⟨g8, 1, none⟩ = some (.int .i64 0) := block_cell l8.2 1
    have f8b1 : v1.frozen? ⟨g8, 1, none⟩ = false := block_free l8.2 1
    have n01b : ¬ g6 = g7 := by have := hl.apart 6 7 rfl rfl (by omega) (by omega) (by omega); simpa [upd] using this
    have n02b : ¬ g6 = g8 := by have := hl.apart 6 8 rfl rfl (by omega) (by omega) (by omega); simpa [upd] using this
    have n10b : ¬ g7 = g6 := by have := hl.apart 7 6 rfl rfl (by omega) (by omega) (by omega); simpa [upd] using this
    have n12b : ¬ g7 = g8 := by have := hl.apart 7 8 rfl rfl (by omega) (by omega) (by omega); simpa [upd] using this
    have n20b : ¬ g8 = g6 := by have := hl.apart 8 6 rfl rfl (by omega) (by omega) (by omega); simpa [upd] using this
    have n21b : ¬ g8 = g7 := by have := hl.apart 8 7 rfl rfl (by omega) (by omega) (by omega); simpa [upd] using this
    clear l6
    clear l7
    clear l8
    clear hl
    go_wp2_with fail
    refine abs_wp ?_
    intro W2 hW
    have cc0 : W2.cell? ⟨g6, 0, none⟩ = some (.int .i64 a) := by rw [hW]; go_simp
    have fc0 : W2.frozen? ⟨g6, 0, none⟩ = false := by rw [hW]; go_simp
    have cc1 : W2.cell? ⟨g6, 1, none⟩ = some (.int .i64 b) := by rw [hW]; go_simp
    have fc1 : W2.frozen? ⟨g6, 1, none⟩ = false := by rw [hW]; go_simp
    have zc2 : g6 < W2.heap.size := by rw [hW]; go_size
    have cc2 : W2.cell? ⟨g7, 0, none⟩ = some (.int .i64 c) := by rw [hW]; go_simp
    have fc2 : W2.frozen? ⟨g7, 0, none⟩ = false := by rw [hW]; go_simp
    have cc3 : W2.cell? ⟨g7, 1, none⟩ = some (.int .i64 d) := by rw [hW]; go_simp
    have fc3 : W2.frozen? ⟨g7, 1, none⟩ = false := by rw [hW]; go_simp
    have zc4 : g7 < W2.heap.size := by rw [hW]; go_size
    have cc4 : W2.cell? ⟨g8, 0, none⟩ = some (.int .i64 e) := by rw [hW]; go_simp
    have fc4 : W2.frozen? ⟨g8, 0, none⟩ = false := by rw [hW]; go_simp
    have cc5 : W2.cell? ⟨g8, 1, none⟩ = some (.int .i64 f) := by rw [hW]; go_simp
    have fc5 : W2.frozen? ⟨g8, 1, none⟩ = false := by rw [hW]; go_simp
    have zc6 : g8 < W2.heap.size := by rw [hW]; go_size
    have hwc : Below w.heap.size w W2 := by
      rw [hW]
      (repeat' (first | (with_reducible exact Below.refl _ _) | (with_reducible assumption) | (with_reducible refine Below.alloc ?_ ?_ _) | (with_reducible refine Below.drew ?_) | (with_reducible refine below_drewN ?_ _) | (with_reducible refine Below.setCell ?_ ?_ _) | go_size))
    have hsc : w.heap.size ≤ W2.heap.size := hwc.size
    clear hW
    clear hwb z6b y6b c6b0 f6b0 c6b1 f6b1 z7b y7b c7b0 f7b0 c7b1 f7b1 z8b y8b c8b0 f8b0 c8b1 f8b1
    refine wp_region_kq (by kernel_rfl) (by kernel_rfl) ?_
    repeat (quiet_step ((go_at_call 15; exact KW.call (has_c _ _ _ _))))
    refine wpQuiet_nil ?_
    intro k3
    have cd0 : k3.val.cell? ⟨g6, 0, none⟩ = some (.int .i64 a) := (k3.kp.cell (p := ⟨g6, 0, none⟩) (by go_size)).trans (by go_simp)
    have fd0 : k3.val.frozen? ⟨g6, 0, none⟩ = false := (k3.kp.frozen (p := ⟨g6, 0, none⟩) (by go_size)).trans (by go_simp)
    have cd1 : k3.val.cell? ⟨g6, 1, none⟩ = some (.int .i64 b) := (k3.kp.cell (p := ⟨g6, 1, none⟩) (by go_size)).trans (by go_simp)
    have fd1 : k3.val.frozen? ⟨g6, 1, none⟩ = false := (k3.kp.frozen (p := ⟨g6, 1, none⟩) (by go_size)).trans (by go_simp)
    have zd2 : g6 < k3.val.heap.size := Nat.lt_of_lt_of_le (by go_size) k3.kp.size
    have cd2 : k3.val.cell? ⟨g7, 0, none⟩ = some (.int .i64 c) := (k3.kp.cell (p := ⟨g7, 0, none⟩) (by go_size)).trans (by go_simp)
    have fd2 : k3.val.frozen? ⟨g7, 0, none⟩ = false := (k3.kp.frozen (p := ⟨g7, 0, none⟩) (by go_size)).trans (by go_simp)
    have cd3 : k3.val.cell? ⟨g7, 1, none⟩ = some (.int .i64 d) := (k3.kp.cell (p := ⟨g7, 1, none⟩) (by go_size)).trans (by go_simp)
    have fd3 : k3.val.frozen? ⟨g7, 1, none⟩ = false := (k3.kp.frozen (p := ⟨g7, 1, none⟩) (by go_size)).trans (by go_simp)
    have zd4 : g7 < k3.val.heap.size := Nat.lt_of_lt_of_le (by go_size) k3.kp.size
    have cd4 : k3.val.cell? ⟨g8, 0, none⟩ = some (.int .i64 e) := (k3.kp.cell (p := ⟨g8, 0, none⟩) (by go_size)).trans (by go_simp)
    have fd4 : k3.val.frozen? ⟨g8, 0, none⟩ = false := (k3.kp.frozen (p := ⟨g8, 0, none⟩) (by go_size)).trans (by go_simp)
    have cd5 : k3.val.cell? ⟨g8, 1, none⟩ = some (.int .i64 f) := (k3.kp.cell (p := ⟨g8, 1, none⟩) (by go_size)).trans (by go_simp)
    have fd5 : k3.val.frozen? ⟨g8, 1, none⟩ = false := (k3.kp.frozen (p := ⟨g8, 1, none⟩) (by go_size)).trans (by go_simp)
    have zd6 : g8 < k3.val.heap.size := Nat.lt_of_lt_of_le (by go_size) k3.kp.size
    have hwd : Below w.heap.size w k3.val := Below.trans (by (repeat' (first | (with_reducible exact Below.refl _ _) | (with_reducible assumption) | (with_reducible refine Below.alloc ?_ ?_ _) | (with_reducible refine Below.drew ?_) | (with_reducible refine below_drewN ?_ _) | (with_reducible refine Below.setCell ?_ ?_ _) | go_size))) (k3.kp.mono (by go_size))
    have hsd : w.heap.size ≤ k3.val.heap.size := hwd.size
    clear cc0 fc0 cc1 fc1 zc2 cc2 fc2 cc3 fc3 zc4 cc4 fc4 cc5 fc5 zc6 hwc hsc
    go_wp2_with fail
    refine (meet_c _ _ _ _ _).mono ?_
    rintro e w4 ⟨rfl, hb4⟩
    have ce0 : w4.cell? ⟨g6, 0, none⟩ = some (.int .i64 a) := (hb4.cell (p := ⟨g6, 0, none⟩) (by go_size)).trans (by go_simp)
    have fe0 : w4.frozen? ⟨g6, 0, none⟩ = false := (hb4.frozen (p := ⟨g6, 0, none⟩) (by go_size)).trans (by go_simp)
    have ce1 : w4.cell? ⟨g6, 1, none⟩ = some (.int .i64 b) := (hb4.cell (p := ⟨g6, 1, none⟩) (by go_size)).trans (by go_simp)
    have fe1 : w4.frozen? ⟨g6, 1, none⟩ = false := (hb4.frozen (p := ⟨g6, 1, none⟩) (by go_size)).trans (by go_simp)
    have ze2 : g6 < w4.heap.size := Nat.lt_of_lt_of_le (by go_size) hb4.size
    have ce2 : w4.cell? ⟨g7, 0, none⟩ = some (.int .i64 c) := (hb4.cell (p := ⟨g7, 0, none⟩) (by go_size)).trans (by go_simp)
    have fe2 : w4.frozen? ⟨g7, 0, none⟩ = false := (hb4.frozen (p := ⟨g7, 0, none⟩) (by go_size)).trans (by go_simp)
    have ce3 : w4.cell? ⟨g7, 1, none⟩ = some (.int .i64 d) := (hb4.cell (p := ⟨g7, 1, none⟩) (by go_size)).trans (by go_simp)
    have fe3 : w4.frozen? ⟨g7, 1, none⟩ = false := (hb4.frozen (p := ⟨g7, 1, none⟩) (by go_size)).trans (by go_simp)
    have ze4 : g7 < w4.heap.size := Nat.lt_of_lt_of_le (by go_size) hb4.size
    have ce4 : w4.cell? ⟨g8, 0, none⟩ = some (.int .i64 e) := (hb4.cell (p := ⟨g8, 0, none⟩) (by go_size)).trans (by go_simp)
    have fe4 : w4.frozen? ⟨g8, 0, none⟩ = false := (hb4.frozen (p := ⟨g8, 0, none⟩) (by go_size)).trans (by go_simp)
    have ce5 : w4.cell? ⟨g8, 1, none⟩ = some (.int .i64 f) := (hb4.cell (p := ⟨g8, 1, none⟩) (by go_size)).trans (by go_simp)
    have fe5 : w4.frozen? ⟨g8, 1, none⟩ = false := (hb4.frozen (p := ⟨g8, 1, none⟩) (by go_size)).trans (by go_simp)
    have ze6 : g8 < w4.heap.size := Nat.lt_of_lt_of_le (by go_size) hb4.size
    have hwe : Below w.heap.size w w4 := Below.trans (by (repeat' (first | (with_reducible exact Below.refl _ _) | (with_reducible assumption) | (with_reducible refine Below.alloc ?_ ?_ _) | (with_reducible refine Below.drew ?_) | (with_reducible refine below_drewN ?_ _) | (with_reducible refine Below.setCell ?_ ?_ _) | go_size))) (hb4.mono (by go_size))
    have hse : w.heap.size ≤ w4.heap.size := hwe.size
    clear cd0 fd0 cd1 fd1 zd2 cd2 fd2 cd3 fd3 zd4 cd4 fd4 cd5 fd5 zd6 hwd hsd
    go_wp2_with fail
    refine (has_c _ _ _ _).mono ?_
    rintro e w5 ⟨rfl, hb5⟩
    have cf0 : w5.cell? ⟨g6, 0, none⟩ = some (.int .i64 a) := (hb5.cell (p := ⟨g6, 0, none⟩) (by go_size)).trans (by go_simp)
    have ff0 : w5.frozen? ⟨g6, 0, none⟩ = false := (hb5.frozen (p := ⟨g6, 0, none⟩) (by go_size)).trans (by go_simp)
    have cf1 : w5.cell? ⟨g6, 1, none⟩ = some (.int .i64 b) := (hb5.cell (p := ⟨g6, 1, none⟩) (by go_size)).trans (by go_simp)
    have ff1 : w5.frozen? ⟨g6, 1, none⟩ = false := (hb5.frozen (p := ⟨g6, 1, none⟩) (by go_size)).trans (by go_simp)
    have zf2 : g6 < w5.heap.size := Nat.lt_of_lt_of_le (by go_size) hb5.size
    have cf2 : w5.cell? ⟨g7, 0, none⟩ = some (.int .i64 c) := (hb5.cell (p := ⟨g7, 0, none⟩) (by go_size)).trans (by go_simp)
    have ff2 : w5.frozen? ⟨g7, 0, none⟩ = false := (hb5.frozen (p := ⟨g7, 0, none⟩) (by go_size)).trans (by go_simp)
    have cf3 : w5.cell? ⟨g7, 1, none⟩ = some (.int .i64 d) := (hb5.cell (p := ⟨g7, 1, none⟩) (by go_size)).trans (by go_simp)
    have ff3 : w5.frozen? ⟨g7, 1, none⟩ = false := (hb5.frozen (p := ⟨g7, 1, none⟩) (by go_size)).trans (by go_simp)
    have zf4 : g7 < w5.heap.size := Nat.lt_of_lt_of_le (by go_size) hb5.size
    have cf4 : w5.cell? ⟨g8, 0, none⟩ = some (.int .i64 e) := (hb5.cell (p := ⟨g8, 0, none⟩) (by go_size)).trans (by go_simp)
    have ff4 : w5.frozen? ⟨g8, 0, none⟩ = false := (hb5.frozen (p := ⟨g8, 0, none⟩) (by go_size)).trans (by go_simp)
    have cf5 : w5.cell? ⟨g8, 1, none⟩ = some (.int .i64 f) := (hb5.cell (p := ⟨g8, 1, none⟩) (by go_size)).trans (by go_simp)
    have ff5 : w5.frozen? ⟨g8, 1, none⟩ = false := (hb5.frozen (p := ⟨g8, 1, none⟩) (by go_size)).trans (by go_simp)
    have zf6 : g8 < w5.heap.size := Nat.lt_of_lt_of_le (by go_size) hb5.size
    have hwf : Below w.heap.size w w5 := Below.trans (by (repeat' (first | (with_reducible exact Below.refl _ _) | (with_reducible assumption) | (with_reducible refine Below.alloc ?_ ?_ _) | (with_reducible refine Below.drew ?_) | (with_reducible refine below_drewN ?_ _) | (with_reducible refine Below.setCell ?_ ?_ _) | go_size))) (hb5.mono (by go_size))
    have hsf : w.heap.size ≤ w5.heap.size := hwf.size
    clear ce0 fe0 ce1 fe1 ze2 ce2 fe2 ce3 fe3 ze4 ce4 fe4 ce5 fe5 ze6 hwe hse hb4
    go_wp2_with fail
    refine (hull_c _ _ _ _ _).mono ?_
    rintro e w6 ⟨rfl, hb6⟩
    have cg0 : w6.cell? ⟨g6, 0, none⟩ = some (.int .i64 a) := (hb6.cell (p := ⟨g6, 0, none⟩) (by go_size)).trans (by go_simp)
    have fg0 : w6.frozen? ⟨g6, 0, none⟩ = false := (hb6.frozen (p := ⟨g6, 0, none⟩) (by go_size)).trans (by go_simp)
    have cg1 : w6.cell? ⟨g6, 1, none⟩ = some (.int .i64 b) := (hb6.cell (p := ⟨g6, 1, none⟩) (by go_size)).trans (by go_simp)
    have fg1 : w6.frozen? ⟨g6, 1, none⟩ = false := (hb6.frozen (p := ⟨g6, 1, none⟩) (by go_size)).trans (by go_simp)
    have zg2 : g6 < w6.heap.size := Nat.lt_of_lt_of_le (by go_size) hb6.size
    have cg2 : w6.cell? ⟨g7, 0, none⟩ = some (.int .i64 c) := (hb6.cell (p := ⟨g7, 0, none⟩) (by go_size)).trans (by go_simp)
    have fg2 : w6.frozen? ⟨g7, 0, none⟩ = false := (hb6.frozen (p := ⟨g7, 0, none⟩) (by go_size)).trans (by go_simp)
    have cg3 : w6.cell? ⟨g7, 1, none⟩ = some (.int .i64 d) := (hb6.cell (p := ⟨g7, 1, none⟩) (by go_size)).trans (by go_simp)
    have fg3 : w6.frozen? ⟨g7, 1, none⟩ = false := (hb6.frozen (p := ⟨g7, 1, none⟩) (by go_size)).trans (by go_simp)
    have zg4 : g7 < w6.heap.size := Nat.lt_of_lt_of_le (by go_size) hb6.size
    have cg4 : w6.cell? ⟨g8, 0, none⟩ = some (.int .i64 e) := (hb6.cell (p := ⟨g8, 0, none⟩) (by go_size)).trans (by go_simp)
    have fg4 : w6.frozen? ⟨g8, 0, none⟩ = false := (hb6.frozen (p := ⟨g8, 0, none⟩) (by go_size)).trans (by go_simp)
    have cg5 : w6.cell? ⟨g8, 1, none⟩ = some (.int .i64 f) := (hb6.cell (p := ⟨g8, 1, none⟩) (by go_size)).trans (by go_simp)
    have fg5 : w6.frozen? ⟨g8, 1, none⟩ = false := (hb6.frozen (p := ⟨g8, 1, none⟩) (by go_size)).trans (by go_simp)
    have zg6 : g8 < w6.heap.size := Nat.lt_of_lt_of_le (by go_size) hb6.size
    have hwg : Below w.heap.size w w6 := Below.trans (by (repeat' (first | (with_reducible exact Below.refl _ _) | (with_reducible assumption) | (with_reducible refine Below.alloc ?_ ?_ _) | (with_reducible refine Below.drew ?_) | (with_reducible refine below_drewN ?_ _) | (with_reducible refine Below.setCell ?_ ?_ _) | go_size))) (hb6.mono (by go_size))
    have hsg : w.heap.size ≤ w6.heap.size := hwg.size
    clear cf0 ff0 cf1 ff1 zf2 cf2 ff2 cf3 ff3 zf4 cf4 ff4 cf5 ff5 zf6 hwf hsf hb5
    go_wp2_with fail
    refine (has_c _ _ _ _).mono ?_
    rintro e w7 ⟨rfl, hb7⟩
    have ch0 : w7.cell? ⟨g6, 0, none⟩ = some (.int .i64 a) := (hb7.cell (p := ⟨g6, 0, none⟩) (by go_size)).trans (by go_simp)
    have fh0 : w7.frozen? ⟨g6, 0, none⟩ = false := (hb7.frozen (p := ⟨g6, 0, none⟩) (by go_size)).trans (by go_simp)
    have ch1 : w7.cell? ⟨g6, 1, none⟩ = some (.int .i64 b) := (hb7.cell (p := ⟨g6, 1, none⟩) (by go_size)).trans (by go_simp)
    have fh1 : w7.frozen? ⟨g6, 1, none⟩ = false := (hb7.frozen (p := ⟨g6, 1, none⟩) (by go_size)).trans (by go_simp)
    have zh2 : g6 < w7.heap.size := Nat.lt_of_lt_of_le (by go_size) hb7.size
    have ch2 : w7.cell? ⟨g7, 0, none⟩ = some (.int .i64 c) := (hb7.cell (p := ⟨g7, 0, none⟩) (by go_size)).trans (by go_simp)
    have fh2 : w7.frozen? ⟨g7, 0, none⟩ = false := (hb7.frozen (p := ⟨g7, 0, none⟩) (by go_size)).trans (by go_simp)
    have ch3 : w7.cell? ⟨g7, 1, none⟩ = some (.int .i64 d) := (hb7.cell (p := ⟨g7, 1, none⟩) (by go_size)).trans (by go_simp)
    have fh3 : w7.frozen? ⟨g7, 1, none⟩ = false := (hb7.frozen (p := ⟨g7, 1, none⟩) (by go_size)).trans (by go_simp)
    have zh4 : g7 < w7.heap.size := Nat.lt_of_lt_of_le (by go_size) hb7.size
    have ch4 : w7.cell? ⟨g8, 0, none⟩ = some (.int .i64 e) := (hb7.cell (p := ⟨g8, 0, none⟩) (by go_size)).trans (by go_simp)
    have fh4 : w7.frozen? ⟨g8, 0, none⟩ = false := (hb7.frozen (p := ⟨g8, 0, none⟩) (by go_size)).trans (by go_simp)
    have ch5 : w7.cell? ⟨g8, 1, none⟩ = some (.int .i64 f) := (hb7.cell (p := ⟨g8, 1, none⟩) (by go_size)).trans (by go_simp)
    have fh5 : w7.frozen? ⟨g8, 1, none⟩ = false := (hb7.frozen (p := ⟨g8, 1, none⟩) (by go_size)).trans (by go_simp)
    have zh6 : g8 < w7.heap.size := Nat.lt_of_lt_of_le (by go_size) hb7.size
    have hwh : Below w.heap.size w w7 := Below.trans (by (repeat' (first | (with_reducible exact Below.refl _ _) | (with_reducible assumption) | (with_reducible refine Below.alloc ?_ ?_ _) | (with_reducible refine Below.drew ?_) | (with_reducible refine below_drewN ?_ _) | (with_reducible refine Below.setCell ?_ ?_ _) | go_size))) (hb7.mono (by go_size))
    have hsh : w.heap.size ≤ w7.heap.size := hwh.size
    clear cg0 fg0 cg1 fg1 zg2 cg2 fg2 cg3 fg3 zg4 cg4 fg4 cg5 fg5 zg6 hwg hsg hb6
    go_wp2_with fail
    refine wp_region_kq (by kernel_rfl) (by kernel_rfl) ?_
    repeat (quiet_step ((first | (go_at_call 16; exact KW.call (meet_c _ _ _ _ _)) | (go_at_call 17; exact KW.call (hull_c _ _ _ _ _)) | (go_at_call 18; exact KW.call (within_c _ _ _ _ _)) | (go_at_call 19; exact KW.call (awake_c _)))))
    refine wpQuiet_nil ?_
    intro k8
    have ci0 : k8.val.cell? ⟨g6, 0, none⟩ = some (.int .i64 a) := (k8.kp.cell (p := ⟨g6, 0, none⟩) (by go_size)).trans (by go_simp)
    have fi0 : k8.val.frozen? ⟨g6, 0, none⟩ = false := (k8.kp.frozen (p := ⟨g6, 0, none⟩) (by go_size)).trans (by go_simp)
    have ci1 : k8.val.cell? ⟨g6, 1, none⟩ = some (.int .i64 b) := (k8.kp.cell (p := ⟨g6, 1, none⟩) (by go_size)).trans (by go_simp)
    have fi1 : k8.val.frozen? ⟨g6, 1, none⟩ = false := (k8.kp.frozen (p := ⟨g6, 1, none⟩) (by go_size)).trans (by go_simp)
    have zi2 : g6 < k8.val.heap.size := Nat.lt_of_lt_of_le (by go_size) k8.kp.size
    have ci2 : k8.val.cell? ⟨g7, 0, none⟩ = some (.int .i64 c) := (k8.kp.cell (p := ⟨g7, 0, none⟩) (by go_size)).trans (by go_simp)
    have fi2 : k8.val.frozen? ⟨g7, 0, none⟩ = false := (k8.kp.frozen (p := ⟨g7, 0, none⟩) (by go_size)).trans (by go_simp)
    have ci3 : k8.val.cell? ⟨g7, 1, none⟩ = some (.int .i64 d) := (k8.kp.cell (p := ⟨g7, 1, none⟩) (by go_size)).trans (by go_simp)
    have fi3 : k8.val.frozen? ⟨g7, 1, none⟩ = false := (k8.kp.frozen (p := ⟨g7, 1, none⟩) (by go_size)).trans (by go_simp)
    have zi4 : g7 < k8.val.heap.size := Nat.lt_of_lt_of_le (by go_size) k8.kp.size
    have ci4 : k8.val.cell? ⟨g8, 0, none⟩ = some (.int .i64 e) := (k8.kp.cell (p := ⟨g8, 0, none⟩) (by go_size)).trans (by go_simp)
    have fi4 : k8.val.frozen? ⟨g8, 0, none⟩ = false := (k8.kp.frozen (p := ⟨g8, 0, none⟩) (by go_size)).trans (by go_simp)
    have ci5 : k8.val.cell? ⟨g8, 1, none⟩ = some (.int .i64 f) := (k8.kp.cell (p := ⟨g8, 1, none⟩) (by go_size)).trans (by go_simp)
    have fi5 : k8.val.frozen? ⟨g8, 1, none⟩ = false := (k8.kp.frozen (p := ⟨g8, 1, none⟩) (by go_size)).trans (by go_simp)
    have zi6 : g8 < k8.val.heap.size := Nat.lt_of_lt_of_le (by go_size) k8.kp.size
    have hwi : Below w.heap.size w k8.val := Below.trans (by (repeat' (first | (with_reducible exact Below.refl _ _) | (with_reducible assumption) | (with_reducible refine Below.alloc ?_ ?_ _) | (with_reducible refine Below.drew ?_) | (with_reducible refine below_drewN ?_ _) | (with_reducible refine Below.setCell ?_ ?_ _) | go_size))) (k8.kp.mono (by go_size))
    have hsi : w.heap.size ≤ k8.val.heap.size := hwi.size
    clear ch0 fh0 ch1 fh1 zh2 ch2 fh2 ch3 fh3 zh4 ch4 fh4 ch5 fh5 zh6 hwh hsh hb7
    go_wp2
    go_ret
    exact ⟨rfl, by assumption⟩
end Go.Proofs.Ytgpeekmagckgcaa
