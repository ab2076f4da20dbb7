/- What is proved here: the walk of SpanTells. -/
import Derived.Test.YtgpeekmagckgcaaSh
import Derived.Test.YtgpeekmagckgcaaVar
import Derived.Test.YtgpeekmagckgcaaSa
import Derived.Test.YtgpeekmagckgcaaPn
namespace Go.Proofs.Ytgpeekmagckgcaa
open Go Go.RowKit
attribute [local go_sem] KW.cell KW.frozen fld0 fld1
attribute [local go_sem ↓] eql24 eql23

set_option maxRecDepth 100000 in
set_option maxHeartbeats 4000000 in
theorem law9_11 (a b c d x : Int) (w : World) (h : Pl.chi a b < Pl.clo a b) (k : x < a) :
    Calls Try.prog 9 #[.agg #[.int .i64 a, .int .i64 b], .agg #[.int .i64 c, .int .i64 d], .int .i64 x] w fun e w' => e = .returned (.bool true) ∧ Below w.heap.size w w' := by
  have q1 := Pl.clo_bd a b
  have q2 := Pl.chi_bd a b
  have q3 := Pl.mid_bd a b
  have m1 := (Pl.v_s a b x).1
  have m2 := (Pl.v_s a b x).2
  have m3 : Pl.wit a b c d = (decide (Pl.mlo a b c d = Pl.clo a b) && decide (Pl.mhi a b c d = Pl.chi a b)) := rfl
  have m4 : IntKind.i64.wrap (Pl.chi a b - Pl.clo a b) = Pl.chi a b - Pl.clo a b := IntWalk.i64_in _ (by omega)
  have m5 : IntKind.i64.wrap (Pl.chi a b - Pl.clo a b + 1) = Pl.chi a b - Pl.clo a b + 1 := IntWalk.i64_in _ (by omega)
  have m6 : IntKind.i64.wrap (Pl.chi a b - Pl.mid a b) = Pl.chi a b - Pl.mid a b := IntWalk.i64_in _ (by omega)
  have m7 := (Pl.half_emp h).1
  have m8 := (Pl.half_emp h).2
  have m9 : Pl.gmin a x = x := by unfold Pl.gmin; omega
  have m10 : Pl.gmax a x = a := by unfold Pl.gmax; omega
  clear h
  go_enter Try.func9, Try.ntmps9
  go_wp2_with fail
  refine wp_region_vars 6 (fun i => ([.agg #[.int .i64 a, .int .i64 b], .agg #[.int .i64 a, .int .i64 b], .agg #[.int .i64 c, .int .i64 d], .agg #[.int .i64 c, .int .i64 d], undef, undef] : List Value).getD i undef) (fun i => i == 4 || i == 5) (fun _ => .cells #[.int .i64 0, .int .i64 0] 24) (by kernel_rfl) (by kernel_rfl) ?hal ?_
  case hal =>
    intro i o ho hi a w
    simp only [Bool.or_eq_true, beq_iff_eq] at hi
    rcases hi with rfl | rfl
    all_goals
      obtain rfl := Option.some.inj ho
      go_simp
  simp only [List.take_succ_cons, List.take_zero, List.drop_succ_cons, List.drop_zero]
  refine wpVars_val rfl rfl ?q0 (fun K hK => ?_)
  case q0 =>
    intro wx hb
    have c0 : wx.cell? ⟨w.heap.size, 0, none⟩ = some (.int .i64 a) := (hb.cell (p := ⟨w.heap.size, 0, none⟩) (by go_size)).trans (by go_simp)
    have c1 : wx.cell? ⟨w.heap.size, 1, none⟩ = some (.int .i64 b) := (hb.cell (p := ⟨w.heap.size, 1, none⟩) (by go_size)).trans (by go_simp)
    have c2 : wx.cell? ⟨w.heap.size + 1, 0, none⟩ = some (.int .i64 c) := (hb.cell (p := ⟨w.heap.size + 1, 0, none⟩) (by go_size)).trans (by go_simp)
    have c3 : wx.cell? ⟨w.heap.size + 1, 1, none⟩ = some (.int .i64 d) := (hb.cell (p := ⟨w.heap.size + 1, 1, none⟩) (by go_size)).trans (by go_simp)
    unfold growAt
    go_simp
  go_simp
  refine hK _ ?_
  clear hK K
  refine wpVars_val rfl rfl ?q1 (fun K hK => ?_)
  case q1 =>
    intro wx hb
    unfold growAt
    go_simp
    exact mine_c _ _ _
  go_simp
  refine hK _ ?_
  clear hK K
  refine wpVars_val rfl rfl ?q2 (fun K hK => ?_)
  case q2 =>
    intro wx hb
    have c0 : wx.cell? ⟨w.heap.size, 0, none⟩ = some (.int .i64 a) := (hb.cell (p := ⟨w.heap.size, 0, none⟩) (by go_size)).trans (by go_simp)
    have c1 : wx.cell? ⟨w.heap.size, 1, none⟩ = some (.int .i64 b) := (hb.cell (p := ⟨w.heap.size, 1, none⟩) (by go_size)).trans (by go_simp)
    have c2 : wx.cell? ⟨w.heap.size + 1, 0, none⟩ = some (.int .i64 c) := (hb.cell (p := ⟨w.heap.size + 1, 0, none⟩) (by go_size)).trans (by go_simp)
    have c3 : wx.cell? ⟨w.heap.size + 1, 1, none⟩ = some (.int .i64 d) := (hb.cell (p := ⟨w.heap.size + 1, 1, none⟩) (by go_size)).trans (by go_simp)
    unfold growAt
    go_simp
  go_simp
  refine hK _ ?_
  clear hK K
  refine wpVars_val rfl rfl ?q3 (fun K hK => ?_)
  case q3 =>
    intro wx hb
    unfold growAt
    go_simp
    exact mine_c _ _ _
  go_simp
  refine hK _ ?_
  clear hK K
  refine wpVars_var rfl rfl (fun g4 K hK => ?_)
  go_simp
  refine hK _ ?_
  clear hK K
  refine wpVars_var rfl rfl (fun g5 K hK => ?_)
  go_simp
  refine hK _ ?_
  clear hK K
  refine wpVars_nil ?_
  intro v1 hl
  have hwb : Below w.heap.size w v1 := Below.trans (by (repeat' (first | (with_reducible exact Below.refl _ _) | (with_reducible assumption) | (with_reducible refine Below.alloc ?_ ?_ _) | (with_reducible refine Below.drew ?_) | (with_reducible refine below_drewN ?_ _) | (with_reducible refine Below.setCell ?_ ?_ _) | go_size))) (hl.kept.mono (by go_size))
  have l4 := hl.lies 4 rfl (by omega)
  simp [upd] at l4
  have z4b := block_lt l4.2
  have y4b : w.heap.size < g4 := Nat.lt_of_lt_of_le (by go_size) l4.1
  have c4b0 : v1.cell? ⟨g4, 0, none⟩ = some (.int .i64 0) := block_cell l4.2 0
  have f4b0 : v1.frozen? ⟨g4, 0, none⟩ = false := block_free l4.2 0
  have c4b1 : v1.cell? ⟨g4, 1, none⟩ = some (.int .i64 0) := block_cell l4.2 1
  have f4b1 : v1.frozen? ⟨g4, 1, none⟩ = false := block_free l4.2 1
  have l5 := hl.lies 5 rfl (by omega)
  simp [upd] at l5
  have z5b := block_lt l5.2
  have y5b : w.heap.size < g5 := Nat.lt_of_lt_of_le (by go_size) l5.1
  have c5b0 : v1.cell? ⟨g5, 0, none⟩ = some (.int .i64 0) := block_cell l5.2 0
  have f5b0 : v1.frozen? ⟨g5, 0, none⟩ = false := block_free l5.2 0
  have c5b1 : v1.cell? ⟨g5, 1, none⟩ = some (.int .i64 0) := block_cell l5.2 1
  have f5b1 : v1.frozen? ⟨g5, 1, none⟩ = false := block_free l5.2 1
  have n01b : ¬ g4 = g5 := by have := hl.apart 4 5 rfl rfl (by omega) (by omega) (by omega); simpa [upd] using this
  have n10b : ¬ g5 = g4 := by have := hl.apart 5 4 rfl rfl (by omega) (by omega) (by omega); simpa [upd] using this
  have kb0 : v1.cell? ⟨w.heap.size, 0, none⟩ = some (.int .i64 a) := (hl.kept.cell (p := ⟨w.heap.size, 0, none⟩) (by go_size)).trans (by go_simp)
  have xb0 : v1.frozen? ⟨w.heap.size, 0, none⟩ = false := (hl.kept.frozen (p := ⟨w.heap.size, 0, none⟩) (by go_size)).trans (by go_simp)
  have kb1 : v1.cell? ⟨w.heap.size, 1, none⟩ = some (.int .i64 b) := (hl.kept.cell (p := ⟨w.heap.size, 1, none⟩) (by go_size)).trans (by go_simp)
  have xb1 : v1.frozen? ⟨w.heap.size, 1, none⟩ = false := (hl.kept.frozen (p := ⟨w.heap.size, 1, none⟩) (by go_size)).trans (by go_simp)
  have s4b2 : ¬ w.heap.size = g4 := by have := l4.1; omega
  have r4b2 : ¬ g4 = w.heap.size := by have := l4.1; omega
  have s5b2 : ¬ w.heap.size = g5 := by have := l5.1; omega
  have r5b2 : ¬ g5 = w.heap.size := by have := l5.1; omega
  have zzb2 : w.heap.size < v1.heap.size := Nat.lt_of_lt_of_le (by go_size) hl.kept.size
  have kb2 : v1.cell? ⟨w.heap.size + 1, 0, none⟩ = some (.int .i64 c) := (hl.kept.cell (p := ⟨w.heap.size + 1, 0, none⟩) (by go_size)).trans (by go_simp)
  have xb2 : v1.frozen? ⟨w.heap.size + 1, 0, none⟩ = false := (hl.kept.frozen (p := ⟨w.heap.size + 1, 0, none⟩) (by go_size)).trans (by go_simp)
  have kb3 : v1.cell? ⟨w.heap.size + 1, 1, none⟩ = some (.int .i64 d) := (hl.kept.cell (p := ⟨w.heap.size + 1, 1, none⟩) (by go_size)).trans (by go_simp)
  have xb3 : v1.frozen? ⟨w.heap.size + 1, 1, none⟩ = false := (hl.kept.frozen (p := ⟨w.heap.size + 1, 1, none⟩) (by go_size)).trans (by go_simp)
  have s4b4 : ¬ w.heap.size + 1 = g4 := by have := l4.1; omega
  have r4b4 : ¬ g4 = w.heap.size + 1 := by have := l4.1; omega
  have s5b4 : ¬ w.heap.size + 1 = g5 := by have := l5.1; omega
  have r5b4 : ¬ g5 = w.heap.size + 1 := by have := l5.1; omega
  have zzb4 : w.heap.size + 1 < v1.heap.size := Nat.lt_of_lt_of_le (by go_size) hl.kept.size
  clear l4
  clear l5
  clear hl
  go_wp2_with fail
  refine abs_wp ?_
  intro W2 hW
  have cc0 : W2.cell? ⟨w.heap.size, 0, none⟩ = some (.int .i64 a) := by rw [hW]; go_simp
  have fc0 : W2.frozen? ⟨w.heap.size, 0, none⟩ = false := by rw [hW]; go_simp
  have cc1 : W2.cell? ⟨w.heap.size, 1, none⟩ = some (.int .i64 b) := by rw [hW]; go_simp
  have fc1 : W2.frozen? ⟨w.heap.size, 1, none⟩ = false := by rw [hW]; go_simp
  have zc2 : w.heap.size < W2.heap.size := by rw [hW]; go_size
  have cc2 : W2.cell? ⟨w.heap.size + 1, 0, none⟩ = some (.int .i64 c) := by rw [hW]; go_simp
  have fc2 : W2.frozen? ⟨w.heap.size + 1, 0, none⟩ = false := by rw [hW]; go_simp
  have cc3 : W2.cell? ⟨w.heap.size + 1, 1, none⟩ = some (.int .i64 d) := by rw [hW]; go_simp
  have fc3 : W2.frozen? ⟨w.heap.size + 1, 1, none⟩ = false := by rw [hW]; go_simp
  have zc4 : w.heap.size + 1 < W2.heap.size := by rw [hW]; go_size
  have cc4 : W2.cell? ⟨g4, 0, none⟩ = some (.int .i64 a) := by rw [hW]; go_simp
  have fc4 : W2.frozen? ⟨g4, 0, none⟩ = false := by rw [hW]; go_simp
  have cc5 : W2.cell? ⟨g4, 1, none⟩ = some (.int .i64 b) := by rw [hW]; go_simp
  have fc5 : W2.frozen? ⟨g4, 1, none⟩ = false := by rw [hW]; go_simp
  have zc6 : g4 < W2.heap.size := by rw [hW]; go_size
  have cc6 : W2.cell? ⟨g5, 0, none⟩ = some (.int .i64 c) := by rw [hW]; go_simp
  have fc6 : W2.frozen? ⟨g5, 0, none⟩ = false := by rw [hW]; go_simp
  have cc7 : W2.cell? ⟨g5, 1, none⟩ = some (.int .i64 d) := by rw [hW]; go_simp
  have fc7 : W2.frozen? ⟨g5, 1, none⟩ = false := by rw [hW]; go_simp
  have zc8 : g5 < W2.heap.size := by rw [hW]; go_size
  have hwc : Below w.heap.size w W2 := by
    rw [hW]
    (repeat' (first | (with_reducible exact Below.refl _ _) | (with_reducible assumption) | (with_reducible refine Below.alloc ?_ ?_ _) | (with_reducible refine Below.drew ?_) | (with_reducible refine below_drewN ?_ _) | (with_reducible refine Below.setCell ?_ ?_ _) | go_size))
  have hsc : w.heap.size ≤ W2.heap.size := hwc.size
  clear hW
  clear hwb z4b y4b c4b0 f4b0 c4b1 f4b1 z5b y5b c5b0 f5b0 c5b1 f5b1 kb0 xb0 kb1 xb1 zzb2 kb2 xb2 kb3 xb3 zzb4
  refine wp_region_kq (by kernel_rfl) (by kernel_rfl) ?_
  repeat (quiet_step ((first | (go_at_call 40; exact KW.call (clean_c _ _ _)) | (go_at_call 41; exact KW.call (rclean_c _ _ _)) | (go_at_call 39; exact KW.call (like_c _ _ _ _ _)) | (go_at_call 16; exact KW.call (meet_c _ _ _ _ _)) | (go_at_call 42; exact KW.call (rmeet_c _ _ _ _ _)) | (go_at_call 17; exact KW.call (hull_c _ _ _ _ _)) | (go_at_call 43; exact KW.call (rhull_c _ _ _ _ _)) | (go_at_call 23; exact KW.call (shift_c _ _ _ _)) | (go_at_call 44; exact KW.call (moved_c _ _ _ _ _)) | (go_at_call 22; exact KW.call (widen_c _ _ _ _)) | (go_at_call 45; exact KW.call (rwiden_c _ _ _ _)) | (go_at_call 15; exact KW.call (has_c _ _ _ _)) | (go_at_call 46; exact KW.call (rhas_c _ _ _ _)) | (go_at_call 47; exact KW.call (empty_c _ _ _)) | (go_at_call 48; exact KW.call (rempty_c _ _ _)) | (go_at_call 18; exact KW.call (within_c _ _ _ _ _)) | (go_at_call 20; exact KW.call (mid_c _ _ _)) | (go_at_call 49; exact KW.call (rmid_c _ _ _)) | (go_at_call 50; exact KW.call (size_c _ _ _)) | (go_at_call 21; exact KW.call (half_c _ _ _)))))
  refine wpQuiet_nil ?_
  intro k3
  have cd0 : k3.val.cell? ⟨w.heap.size, 0, none⟩ = some (.int .i64 a) := (k3.kp.cell (p := ⟨w.heap.size, 0, none⟩) (by go_size)).trans (by go_simp)
  have fd0 : k3.val.frozen? ⟨w.heap.size, 0, none⟩ = false := (k3.kp.frozen (p := ⟨w.heap.size, 0, none⟩) (by go_size)).trans (by go_simp)
  have cd1 : k3.val.cell? ⟨w.heap.size, 1, none⟩ = some (.int .i64 b) := (k3.kp.cell (p := ⟨w.heap.size, 1, none⟩) (by go_size)).trans (by go_simp)
  have fd1 : k3.val.frozen? ⟨w.heap.size, 1, none⟩ = false := (k3.kp.frozen (p := ⟨w.heap.size, 1, none⟩) (by go_size)).trans (by go_simp)
  have zd2 : w.heap.size < k3.val.heap.size := Nat.lt_of_lt_of_le (by go_size) k3.kp.size
  have cd2 : k3.val.cell? ⟨w.heap.size + 1, 0, none⟩ = some (.int .i64 c) := (k3.kp.cell (p := ⟨w.heap.size + 1, 0, none⟩) (by go_size)).trans (by go_simp)
  have fd2 : k3.val.frozen? ⟨w.heap.size + 1, 0, none⟩ = false := (k3.kp.frozen (p := ⟨w.heap.size + 1, 0, none⟩) (by go_size)).trans (by go_simp)
  have cd3 : k3.val.cell? ⟨w.heap.size + 1, 1, none⟩ = some (.int .i64 d) := (k3.kp.cell (p := ⟨w.heap.size + 1, 1, none⟩) (by go_size)).trans (by go_simp)
  have fd3 : k3.val.frozen? ⟨w.heap.size + 1, 1, none⟩ = false := (k3.kp.frozen (p := ⟨w.heap.size + 1, 1, none⟩) (by go_size)).trans (by go_simp)
  have zd4 : w.heap.size + 1 < k3.val.heap.size := Nat.lt_of_lt_of_le (by go_size) k3.kp.size
  have cd4 : k3.val.cell? ⟨g4, 0, none⟩ = some (.int .i64 a) := (k3.kp.cell (p := ⟨g4, 0, none⟩) (by go_size)).trans (by go_simp)
  have fd4 : k3.val.frozen? ⟨g4, 0, none⟩ = false := (k3.kp.frozen (p := ⟨g4, 0, none⟩) (by go_size)).trans (by go_simp)
  have cd5 : k3.val.cell? ⟨g4, 1, none⟩ = some (.int .i64 b) := (k3.kp.cell (p := ⟨g4, 1, none⟩) (by go_size)).trans (by go_simp)
  have fd5 : k3.val.frozen? ⟨g4, 1, none⟩ = false := (k3.kp.frozen (p := ⟨g4, 1, none⟩) (by go_size)).trans (by go_simp)
  have zd6 : g4 < k3.val.heap.size := Nat.lt_of_lt_of_le (by go_size) k3.kp.size
  have cd6 : k3.val.cell? ⟨g5, 0, none⟩ = some (.int .i64 c) := (k3.kp.cell (p := ⟨g5, 0, none⟩) (by go_size)).trans (by go_simp)
  have fd6 : k3.val.frozen? ⟨g5, 0, none⟩ = false := (k3.kp.frozen (p := ⟨g5, 0, none⟩) (by go_size)).trans (by go_simp)
  have cd7 : k3.val.cell? ⟨g5, 1, none⟩ = some (.int .i64 d) := (k3.kp.cell (p := ⟨g5, 1, none⟩) (by go_size)).trans (by go_simp)
  have fd7 : k3.val.frozen? ⟨g5, 1, none⟩ = false := (k3.kp.frozen (p := ⟨g5, 1, none⟩) (by go_size)).trans (by go_simp)
  have zd8 : g5 < k3.val.heap.size := Nat.lt_of_lt_of_le (by go_size) k3.kp.size
  have hwd : Below w.heap.size w k3.val := Below.trans (by (repeat' (first | (with_reducible exact Below.refl _ _) | (with_reducible assumption) | (with_reducible refine Below.alloc ?_ ?_ _) | (with_reducible refine Below.drew ?_) | (with_reducible refine below_drewN ?_ _) | (with_reducible refine Below.setCell ?_ ?_ _) | go_size))) (k3.kp.mono (by go_size))
  have hsd : w.heap.size ≤ k3.val.heap.size := hwd.size
  clear cc0 fc0 cc1 fc1 zc2 cc2 fc2 cc3 fc3 zc4 cc4 fc4 cc5 fc5 zc6 cc6 fc6 cc7 fc7 zc8 hwc hsc
  go_wp2_with fail
  refine wp_region_kq (by kernel_rfl) (by kernel_rfl) ?_
  repeat (quiet_step ((first | (go_at_call 40; exact KW.call (clean_c _ _ _)) | (go_at_call 41; exact KW.call (rclean_c _ _ _)) | (go_at_call 39; exact KW.call (like_c _ _ _ _ _)) | (go_at_call 16; exact KW.call (meet_c _ _ _ _ _)) | (go_at_call 42; exact KW.call (rmeet_c _ _ _ _ _)) | (go_at_call 17; exact KW.call (hull_c _ _ _ _ _)) | (go_at_call 43; exact KW.call (rhull_c _ _ _ _ _)) | (go_at_call 23; exact KW.call (shift_c _ _ _ _)) | (go_at_call 44; exact KW.call (moved_c _ _ _ _ _)) | (go_at_call 22; exact KW.call (widen_c _ _ _ _)) | (go_at_call 45; exact KW.call (rwiden_c _ _ _ _)) | (go_at_call 15; exact KW.call (has_c _ _ _ _)) | (go_at_call 46; exact KW.call (rhas_c _ _ _ _)) | (go_at_call 47; exact KW.call (empty_c _ _ _)) | (go_at_call 48; exact KW.call (rempty_c _ _ _)) | (go_at_call 18; exact KW.call (within_c _ _ _ _ _)) | (go_at_call 20; exact KW.call (mid_c _ _ _)) | (go_at_call 49; exact KW.call (rmid_c _ _ _)) | (go_at_call 50; exact KW.call (size_c _ _ _)) | (go_at_call 21; exact KW.call (half_c _ _ _)))))
  refine wpQuiet_nil ?_
  intro k4
  have ce0 : k4.val.cell? ⟨w.heap.size, 0, none⟩ = some (.int .i64 a) := (k4.kp.cell (p := ⟨w.heap.size, 0, none⟩) (by go_size)).trans (by go_simp)
  have fe0 : k4.val.frozen? ⟨w.heap.size, 0, none⟩ = false := (k4.kp.frozen (p := ⟨w.heap.size, 0, none⟩) (by go_size)).trans (by go_simp)
  have ce1 : k4.val.cell? ⟨w.heap.size, 1, none⟩ = some (.int .i64 b) := (k4.kp.cell (p := ⟨w.heap.size, 1, none⟩) (by go_size)).trans (by go_simp)
  have fe1 : k4.val.frozen? ⟨w.heap.size, 1, none⟩ = false := (k4.kp.frozen (p := ⟨w.heap.size, 1, none⟩) (by go_size)).trans (by go_simp)
  have ze2 : w.heap.size < k4.val.heap.size := Nat.lt_of_lt_of_le (by go_size) k4.kp.size
  have ce2 : k4.val.cell? ⟨w.heap.size + 1, 0, none⟩ = some (.int .i64 c) := (k4.kp.cell (p := ⟨w.heap.size + 1, 0, none⟩) (by go_size)).trans (by go_simp)
  have fe2 : k4.val.frozen? ⟨w.heap.size + 1, 0, none⟩ = false := (k4.kp.frozen (p := ⟨w.heap.size + 1, 0, none⟩) (by go_size)).trans (by go_simp)
  have ce3 : k4.val.cell? ⟨w.heap.size + 1, 1, none⟩ = some (.int .i64 d) := (k4.kp.cell (p := ⟨w.heap.size + 1, 1, none⟩) (by go_size)).trans (by go_simp)
  have fe3 : k4.val.frozen? ⟨w.heap.size + 1, 1, none⟩ = false := (k4.kp.frozen (p := ⟨w.heap.size + 1, 1, none⟩) (by go_size)).trans (by go_simp)
  have ze4 : w.heap.size + 1 < k4.val.heap.size := Nat.lt_of_lt_of_le (by go_size) k4.kp.size
  have ce4 : k4.val.cell? ⟨g4, 0, none⟩ = some (.int .i64 a) := (k4.kp.cell (p := ⟨g4, 0, none⟩) (by go_size)).trans (by go_simp)
  have fe4 : k4.val.frozen? ⟨g4, 0, none⟩ = false := (k4.kp.frozen (p := ⟨g4, 0, none⟩) (by go_size)).trans (by go_simp)
  have ce5 : k4.val.cell? ⟨g4, 1, none⟩ = some (.int .i64 b) := (k4.kp.cell (p := ⟨g4, 1, none⟩) (by go_size)).trans (by go_simp)
  have fe5 : k4.val.frozen? ⟨g4, 1, none⟩ = false := (k4.kp.frozen (p := ⟨g4, 1, none⟩) (by go_size)).trans (by go_simp)
  have ze6 : g4 < k4.val.heap.size := Nat.lt_of_lt_of_le (by go_size) k4.kp.size
  have ce6 : k4.val.cell? ⟨g5, 0, none⟩ = some (.int .i64 c) := (k4.kp.cell (p := ⟨g5, 0, none⟩) (by go_size)).trans (by go_simp)
  have fe6 : k4.val.frozen? ⟨g5, 0, none⟩ = false := (k4.kp.frozen (p := ⟨g5, 0, none⟩) (by go_size)).trans (by go_simp)
  have ce7 : k4.val.cell? ⟨g5, 1, none⟩ = some (.int .i64 d) := (k4.kp.cell (p := ⟨g5, 1, none⟩) (by go_size)).trans (by go_simp)
  have fe7 : k4.val.frozen? ⟨g5, 1, none⟩ = false := (k4.kp.frozen (p := ⟨g5, 1, none⟩) (by go_size)).trans (by go_simp)
  have ze8 : g5 < k4.val.heap.size := Nat.lt_of_lt_of_le (by go_size) k4.kp.size
  have hwe : Below w.heap.size w k4.val := Below.trans (by (repeat' (first | (with_reducible exact Below.refl _ _) | (with_reducible assumption) | (with_reducible refine Below.alloc ?_ ?_ _) | (with_reducible refine Below.drew ?_) | (with_reducible refine below_drewN ?_ _) | (with_reducible refine Below.setCell ?_ ?_ _) | go_size))) (k4.kp.mono (by go_size))
  have hse : w.heap.size ≤ k4.val.heap.size := hwe.size
  clear cd0 fd0 cd1 fd1 zd2 cd2 fd2 cd3 fd3 zd4 cd4 fd4 cd5 fd5 zd6 cd6 fd6 cd7 fd7 zd8 hwd hsd
  go_wp2_with fail
  refine (rclean_c _ _ _).mono ?_
  rintro e w5 ⟨rfl, hb5⟩
  have cf0 : w5.cell? ⟨w.heap.size, 0, none⟩ = some (.int .i64 a) := (hb5.cell (p := ⟨w.heap.size, 0, none⟩) (by go_size)).trans (by go_simp)
  have ff0 : w5.frozen? ⟨w.heap.size, 0, none⟩ = false := (hb5.frozen (p := ⟨w.heap.size, 0, none⟩) (by go_size)).trans (by go_simp)
  have cf1 : w5.cell? ⟨w.heap.size, 1, none⟩ = some (.int .i64 b) := (hb5.cell (p := ⟨w.heap.size, 1, none⟩) (by go_size)).trans (by go_simp)
  have ff1 : w5.frozen? ⟨w.heap.size, 1, none⟩ = false := (hb5.frozen (p := ⟨w.heap.size, 1, none⟩) (by go_size)).trans (by go_simp)
  have zf2 : w.heap.size < w5.heap.size := Nat.lt_of_lt_of_le (by go_size) hb5.size
  have cf2 : w5.cell? ⟨w.heap.size + 1, 0, none⟩ = some (.int .i64 c) := (hb5.cell (p := ⟨w.heap.size + 1, 0, none⟩) (by go_size)).trans (by go_simp)
  have ff2 : w5.frozen? ⟨w.heap.size + 1, 0, none⟩ = false := (hb5.frozen (p := ⟨w.heap.size + 1, 0, none⟩) (by go_size)).trans (by go_simp)
  have cf3 : w5.cell? ⟨w.heap.size + 1, 1, none⟩ = some (.int .i64 d) := (hb5.cell (p := ⟨w.heap.size + 1, 1, none⟩) (by go_size)).trans (by go_simp)
  have ff3 : w5.frozen? ⟨w.heap.size + 1, 1, none⟩ = false := (hb5.frozen (p := ⟨w.heap.size + 1, 1, none⟩) (by go_size)).trans (by go_simp)
  have zf4 : w.heap.size + 1 < w5.heap.size := Nat.lt_of_lt_of_le (by go_size) hb5.size
  have cf4 : w5.cell? ⟨g4, 0, none⟩ = some (.int .i64 a) := (hb5.cell (p := ⟨g4, 0, none⟩) (by go_size)).trans (by go_simp)
  have ff4 : w5.frozen? ⟨g4, 0, none⟩ = false := (hb5.frozen (p := ⟨g4, 0, none⟩) (by go_size)).trans (by go_simp)
  have cf5 : w5.cell? ⟨g4, 1, none⟩ = some (.int .i64 b) := (hb5.cell (p := ⟨g4, 1, none⟩) (by go_size)).trans (by go_simp)
  have ff5 : w5.frozen? ⟨g4, 1, none⟩ = false := (hb5.frozen (p := ⟨g4, 1, none⟩) (by go_size)).trans (by go_simp)
  have zf6 : g4 < w5.heap.size := Nat.lt_of_lt_of_le (by go_size) hb5.size
  have cf6 : w5.cell? ⟨g5, 0, none⟩ = some (.int .i64 c) := (hb5.cell (p := ⟨g5, 0, none⟩) (by go_size)).trans (by go_simp)
  have ff6 : w5.frozen? ⟨g5, 0, none⟩ = false := (hb5.frozen (p := ⟨g5, 0, none⟩) (by go_size)).trans (by go_simp)
  have cf7 : w5.cell? ⟨g5, 1, none⟩ = some (.int .i64 d) := (hb5.cell (p := ⟨g5, 1, none⟩) (by go_size)).trans (by go_simp)
  have ff7 : w5.frozen? ⟨g5, 1, none⟩ = false := (hb5.frozen (p := ⟨g5, 1, none⟩) (by go_size)).trans (by go_simp)
  have zf8 : g5 < w5.heap.size := Nat.lt_of_lt_of_le (by go_size) hb5.size
  have hwf : Below w.heap.size w w5 := Below.trans (by (repeat' (first | (with_reducible exact Below.refl _ _) | (with_reducible assumption) | (with_reducible refine Below.alloc ?_ ?_ _) | (with_reducible refine Below.drew ?_) | (with_reducible refine below_drewN ?_ _) | (with_reducible refine Below.setCell ?_ ?_ _) | go_size))) (hb5.mono (by go_size))
  have hsf : w.heap.size ≤ w5.heap.size := hwf.size
  clear ce0 fe0 ce1 fe1 ze2 ce2 fe2 ce3 fe3 ze4 ce4 fe4 ce5 fe5 ze6 ce6 fe6 ce7 fe7 ze8 hwe hse
  go_wp2_with fail
  refine (half_c _ _ _).mono ?_
  rintro e w6 ⟨rfl, hb6⟩
  have cg0 : w6.cell? ⟨w.heap.size, 0, none⟩ = some (.int .i64 a) := (hb6.cell (p := ⟨w.heap.size, 0, none⟩) (by go_size)).trans (by go_simp)
  have fg0 : w6.frozen? ⟨w.heap.size, 0, none⟩ = false := (hb6.frozen (p := ⟨w.heap.size, 0, none⟩) (by go_size)).trans (by go_simp)
  have cg1 : w6.cell? ⟨w.heap.size, 1, none⟩ = some (.int .i64 b) := (hb6.cell (p := ⟨w.heap.size, 1, none⟩) (by go_size)).trans (by go_simp)
  have fg1 : w6.frozen? ⟨w.heap.size, 1, none⟩ = false := (hb6.frozen (p := ⟨w.heap.size, 1, none⟩) (by go_size)).trans (by go_simp)
  have zg2 : w.heap.size < w6.heap.size := Nat.lt_of_lt_of_le (by go_size) hb6.size
  have cg2 : w6.cell? ⟨w.heap.size + 1, 0, none⟩ = some (.int .i64 c) := (hb6.cell (p := ⟨w.heap.size + 1, 0, none⟩) (by go_size)).trans (by go_simp)
  have fg2 : w6.frozen? ⟨w.heap.size + 1, 0, none⟩ = false := (hb6.frozen (p := ⟨w.heap.size + 1, 0, none⟩) (by go_size)).trans (by go_simp)
  have cg3 : w6.cell? ⟨w.heap.size + 1, 1, none⟩ = some (.int .i64 d) := (hb6.cell (p := ⟨w.heap.size + 1, 1, none⟩) (by go_size)).trans (by go_simp)
  have fg3 : w6.frozen? ⟨w.heap.size + 1, 1, none⟩ = false := (hb6.frozen (p := ⟨w.heap.size + 1, 1, none⟩) (by go_size)).trans (by go_simp)
  have zg4 : w.heap.size + 1 < w6.heap.size := Nat.lt_of_lt_of_le (by go_size) hb6.size
  have cg4 : w6.cell? ⟨g4, 0, none⟩ = some (.int .i64 a) := (hb6.cell (p := ⟨g4, 0, none⟩) (by go_size)).trans (by go_simp)
  have fg4 : w6.frozen? ⟨g4, 0, none⟩ = false := (hb6.frozen (p := ⟨g4, 0, none⟩) (by go_size)).trans (by go_simp)
  have cg5 : w6.cell? ⟨g4, 1, none⟩ = some (.int .i64 b) := (hb6.cell (p := ⟨g4, 1, none⟩) (by go_size)).trans (by go_simp)
  have fg5 : w6.frozen? ⟨g4, 1, none⟩ = false := (hb6.frozen (p := ⟨g4, 1, none⟩) (by go_size)).trans (by go_simp)
  have zg6 : g4 < w6.heap.size := Nat.lt_of_lt_of_le (by go_size) hb6.size
  have cg6 : w6.cell? ⟨g5, 0, none⟩ = some (.int .i64 c) := (hb6.cell (p := ⟨g5, 0, none⟩) (by go_size)).trans (by go_simp)
  have fg6 : w6.frozen? ⟨g5, 0, none⟩ = false := (hb6.frozen (p := ⟨g5, 0, none⟩) (by go_size)).trans (by go_simp)
  have cg7 : w6.cell? ⟨g5, 1, none⟩ = some (.int .i64 d) := (hb6.cell (p := ⟨g5, 1, none⟩) (by go_size)).trans (by go_simp)
  have fg7 : w6.frozen? ⟨g5, 1, none⟩ = false := (hb6.frozen (p := ⟨g5, 1, none⟩) (by go_size)).trans (by go_simp)
  have zg8 : g5 < w6.heap.size := Nat.lt_of_lt_of_le (by go_size) hb6.size
  have hwg : Below w.heap.size w w6 := Below.trans (by (repeat' (first | (with_reducible exact Below.refl _ _) | (with_reducible assumption) | (with_reducible refine Below.alloc ?_ ?_ _) | (with_reducible refine Below.drew ?_) | (with_reducible refine below_drewN ?_ _) | (with_reducible refine Below.setCell ?_ ?_ _) | go_size))) (hb6.mono (by go_size))
  have hsg : w.heap.size ≤ w6.heap.size := hwg.size
  clear cf0 ff0 cf1 ff1 zf2 cf2 ff2 cf3 ff3 zf4 cf4 ff4 cf5 ff5 zf6 cf6 ff6 cf7 ff7 zf8 hwf hsf hb5
  go_wp2_with fail
  refine (of_c _ _ _).mono ?_
  rintro e w7 ⟨rfl, hb7⟩
  have ch0 : w7.cell? ⟨w.heap.size, 0, none⟩ = some (.int .i64 a) := (hb7.cell (p := ⟨w.heap.size, 0, none⟩) (by go_size)).trans (by go_simp)
  have fh0 : w7.frozen? ⟨w.heap.size, 0, none⟩ = false := (hb7.frozen (p := ⟨w.heap.size, 0, none⟩) (by go_size)).trans (by go_simp)
  have ch1 : w7.cell? ⟨w.heap.size, 1, none⟩ = some (.int .i64 b) := (hb7.cell (p := ⟨w.heap.size, 1, none⟩) (by go_size)).trans (by go_simp)
  have fh1 : w7.frozen? ⟨w.heap.size, 1, none⟩ = false := (hb7.frozen (p := ⟨w.heap.size, 1, none⟩) (by go_size)).trans (by go_simp)
  have zh2 : w.heap.size < w7.heap.size := Nat.lt_of_lt_of_le (by go_size) hb7.size
  have ch2 : w7.cell? ⟨w.heap.size + 1, 0, none⟩ = some (.int .i64 c) := (hb7.cell (p := ⟨w.heap.size + 1, 0, none⟩) (by go_size)).trans (by go_simp)
  have fh2 : w7.frozen? ⟨w.heap.size + 1, 0, none⟩ = false := (hb7.frozen (p := ⟨w.heap.size + 1, 0, none⟩) (by go_size)).trans (by go_simp)
  have ch3 : w7.cell? ⟨w.heap.size + 1, 1, none⟩ = some (.int .i64 d) := (hb7.cell (p := ⟨w.heap.size + 1, 1, none⟩) (by go_size)).trans (by go_simp)
  have fh3 : w7.frozen? ⟨w.heap.size + 1, 1, none⟩ = false := (hb7.frozen (p := ⟨w.heap.size + 1, 1, none⟩) (by go_size)).trans (by go_simp)
  have zh4 : w.heap.size + 1 < w7.heap.size := Nat.lt_of_lt_of_le (by go_size) hb7.size
  have ch4 : w7.cell? ⟨g4, 0, none⟩ = some (.int .i64 a) := (hb7.cell (p := ⟨g4, 0, none⟩) (by go_size)).trans (by go_simp)
  have fh4 : w7.frozen? ⟨g4, 0, none⟩ = false := (hb7.frozen (p := ⟨g4, 0, none⟩) (by go_size)).trans (by go_simp)
  have ch5 : w7.cell? ⟨g4, 1, none⟩ = some (.int .i64 b) := (hb7.cell (p := ⟨g4, 1, none⟩) (by go_size)).trans (by go_simp)
  have fh5 : w7.frozen? ⟨g4, 1, none⟩ = false := (hb7.frozen (p := ⟨g4, 1, none⟩) (by go_size)).trans (by go_simp)
  have zh6 : g4 < w7.heap.size := Nat.lt_of_lt_of_le (by go_size) hb7.size
  have ch6 : w7.cell? ⟨g5, 0, none⟩ = some (.int .i64 c) := (hb7.cell (p := ⟨g5, 0, none⟩) (by go_size)).trans (by go_simp)
  have fh6 : w7.frozen? ⟨g5, 0, none⟩ = false := (hb7.frozen (p := ⟨g5, 0, none⟩) (by go_size)).trans (by go_simp)
  have ch7 : w7.cell? ⟨g5, 1, none⟩ = some (.int .i64 d) := (hb7.cell (p := ⟨g5, 1, none⟩) (by go_size)).trans (by go_simp)
  have fh7 : w7.frozen? ⟨g5, 1, none⟩ = false := (hb7.frozen (p := ⟨g5, 1, none⟩) (by go_size)).trans (by go_simp)
  have zh8 : g5 < w7.heap.size := Nat.lt_of_lt_of_le (by go_size) hb7.size
  have hwh : Below w.heap.size w w7 := Below.trans (by (repeat' (first | (with_reducible exact Below.refl _ _) | (with_reducible assumption) | (with_reducible refine Below.alloc ?_ ?_ _) | (with_reducible refine Below.drew ?_) | (with_reducible refine below_drewN ?_ _) | (with_reducible refine Below.setCell ?_ ?_ _) | go_size))) (hb7.mono (by go_size))
  have hsh : w.heap.size ≤ w7.heap.size := hwh.size
  clear cg0 fg0 cg1 fg1 zg2 cg2 fg2 cg3 fg3 zg4 cg4 fg4 cg5 fg5 zg6 cg6 fg6 cg7 fg7 zg8 hwg hsg hb6
  go_wp2_with fail
  refine (rclean_c _ _ _).mono ?_
  rintro e w8 ⟨rfl, hb8⟩
  have ci0 : w8.cell? ⟨w.heap.size, 0, none⟩ = some (.int .i64 a) := (hb8.cell (p := ⟨w.heap.size, 0, none⟩) (by go_size)).trans (by go_simp)
  have fi0 : w8.frozen? ⟨w.heap.size, 0, none⟩ = false := (hb8.frozen (p := ⟨w.heap.size, 0, none⟩) (by go_size)).trans (by go_simp)
  have ci1 : w8.cell? ⟨w.heap.size, 1, none⟩ = some (.int .i64 b) := (hb8.cell (p := ⟨w.heap.size, 1, none⟩) (by go_size)).trans (by go_simp)
  have fi1 : w8.frozen? ⟨w.heap.size, 1, none⟩ = false := (hb8.frozen (p := ⟨w.heap.size, 1, none⟩) (by go_size)).trans (by go_simp)
  have zi2 : w.heap.size < w8.heap.size := Nat.lt_of_lt_of_le (by go_size) hb8.size
  have ci2 : w8.cell? ⟨w.heap.size + 1, 0, none⟩ = some (.int .i64 c) := (hb8.cell (p := ⟨w.heap.size + 1, 0, none⟩) (by go_size)).trans (by go_simp)
  have fi2 : w8.frozen? ⟨w.heap.size + 1, 0, none⟩ = false := (hb8.frozen (p := ⟨w.heap.size + 1, 0, none⟩) (by go_size)).trans (by go_simp)
  have ci3 : w8.cell? ⟨w.heap.size + 1, 1, none⟩ = some (.int .i64 d) := (hb8.cell (p := ⟨w.heap.size + 1, 1, none⟩) (by go_size)).trans (by go_simp)
  have fi3 : w8.frozen? ⟨w.heap.size + 1, 1, none⟩ = false := (hb8.frozen (p := ⟨w.heap.size + 1, 1, none⟩) (by go_size)).trans (by go_simp)
  have zi4 : w.heap.size + 1 < w8.heap.size := Nat.lt_of_lt_of_le (by go_size) hb8.size
  have ci4 : w8.cell? ⟨g4, 0, none⟩ = some (.int .i64 a) := (hb8.cell (p := ⟨g4, 0, none⟩) (by go_size)).trans (by go_simp)
  have fi4 : w8.frozen? ⟨g4, 0, none⟩ = false := (hb8.frozen (p := ⟨g4, 0, none⟩) (by go_size)).trans (by go_simp)
  have ci5 : w8.cell? ⟨g4, 1, none⟩ = some (.int .i64 b) := (hb8.cell (p := ⟨g4, 1, none⟩) (by go_size)).trans (by go_simp)
  have fi5 : w8.frozen? ⟨g4, 1, none⟩ = false := (hb8.frozen (p := ⟨g4, 1, none⟩) (by go_size)).trans (by go_simp)
  have zi6 : g4 < w8.heap.size := Nat.lt_of_lt_of_le (by go_size) hb8.size
  have ci6 : w8.cell? ⟨g5, 0, none⟩ = some (.int .i64 c) := (hb8.cell (p := ⟨g5, 0, none⟩) (by go_size)).trans (by go_simp)
  have fi6 : w8.frozen? ⟨g5, 0, none⟩ = false := (hb8.frozen (p := ⟨g5, 0, none⟩) (by go_size)).trans (by go_simp)
  have ci7 : w8.cell? ⟨g5, 1, none⟩ = some (.int .i64 d) := (hb8.cell (p := ⟨g5, 1, none⟩) (by go_size)).trans (by go_simp)
  have fi7 : w8.frozen? ⟨g5, 1, none⟩ = false := (hb8.frozen (p := ⟨g5, 1, none⟩) (by go_size)).trans (by go_simp)
  have zi8 : g5 < w8.heap.size := Nat.lt_of_lt_of_le (by go_size) hb8.size
  have hwi : Below w.heap.size w w8 := Below.trans (by (repeat' (first | (with_reducible exact Below.refl _ _) | (with_reducible assumption) | (with_reducible refine Below.alloc ?_ ?_ _) | (with_reducible refine Below.drew ?_) | (with_reducible refine below_drewN ?_ _) | (with_reducible refine Below.setCell ?_ ?_ _) | go_size))) (hb8.mono (by go_size))
  have hsi : w.heap.size ≤ w8.heap.size := hwi.size
  clear ch0 fh0 ch1 fh1 zh2 ch2 fh2 ch3 fh3 zh4 ch4 fh4 ch5 fh5 zh6 ch6 fh6 ch7 fh7 zh8 hwh hsh hb7
  go_wp2_with fail
  refine (like_c _ _ _ _ _).mono ?_
  rintro e w9 ⟨rfl, hb9⟩
  have cj0 : w9.cell? ⟨w.heap.size, 0, none⟩ = some (.int .i64 a) := (hb9.cell (p := ⟨w.heap.size, 0, none⟩) (by go_size)).trans (by go_simp)
  have fj0 : w9.frozen? ⟨w.heap.size, 0, none⟩ = false := (hb9.frozen (p := ⟨w.heap.size, 0, none⟩) (by go_size)).trans (by go_simp)
  have cj1 : w9.cell? ⟨w.heap.size, 1, none⟩ = some (.int .i64 b) := (hb9.cell (p := ⟨w.heap.size, 1, none⟩) (by go_size)).trans (by go_simp)
  have fj1 : w9.frozen? ⟨w.heap.size, 1, none⟩ = false := (hb9.frozen (p := ⟨w.heap.size, 1, none⟩) (by go_size)).trans (by go_simp)
  have zj2 : w.heap.size < w9.heap.size := Nat.lt_of_lt_of_le (by go_size) hb9.size
  have cj2 : w9.cell? ⟨w.heap.size + 1, 0, none⟩ = some (.int .i64 c) := (hb9.cell (p := ⟨w.heap.size + 1, 0, none⟩) (by go_size)).trans (by go_simp)
  have fj2 : w9.frozen? ⟨w.heap.size + 1, 0, none⟩ = false := (hb9.frozen (p := ⟨w.heap.size + 1, 0, none⟩) (by go_size)).trans (by go_simp)
  have cj3 : w9.cell? ⟨w.heap.size + 1, 1, none⟩ = some (.int .i64 d) := (hb9.cell (p := ⟨w.heap.size + 1, 1, none⟩) (by go_size)).trans (by go_simp)
  have fj3 : w9.frozen? ⟨w.heap.size + 1, 1, none⟩ = false := (hb9.frozen (p := ⟨w.heap.size + 1, 1, none⟩) (by go_size)).trans (by go_simp)
  have zj4 : w.heap.size + 1 < w9.heap.size := Nat.lt_of_lt_of_le (by go_size) hb9.size
  have cj4 : w9.cell? ⟨g4, 0, none⟩ = some (.int .i64 a) := (hb9.cell (p := ⟨g4, 0, none⟩) (by go_size)).trans (by go_simp)
  have fj4 : w9.frozen? ⟨g4, 0, none⟩ = false := (hb9.frozen (p := ⟨g4, 0, none⟩) (by go_size)).trans (by go_simp)
  have cj5 : w9.cell? ⟨g4, 1, none⟩ = some (.int .i64 b) := (hb9.cell (p := ⟨g4, 1, none⟩) (by go_size)).trans (by go_simp)
  have fj5 : w9.frozen? ⟨g4, 1, none⟩ = false := (hb9.frozen (p := ⟨g4, 1, none⟩) (by go_size)).trans (by go_simp)
  have zj6 : g4 < w9.heap.size := Nat.lt_of_lt_of_le (by go_size) hb9.size
  have cj6 : w9.cell? ⟨g5, 0, none⟩ = some (.int .i64 c) := (hb9.cell (p := ⟨g5, 0, none⟩) (by go_size)).trans (by go_simp)
  have fj6 : w9.frozen? ⟨g5, 0, none⟩ = false := (hb9.frozen (p := ⟨g5, 0, none⟩) (by go_size)).trans (by go_simp)
  have cj7 : w9.cell? ⟨g5, 1, none⟩ = some (.int .i64 d) := (hb9.cell (p := ⟨g5, 1, none⟩) (by go_size)).trans (by go_simp)
  have fj7 : w9.frozen? ⟨g5, 1, none⟩ = false := (hb9.frozen (p := ⟨g5, 1, none⟩) (by go_size)).trans (by go_simp)
  have zj8 : g5 < w9.heap.size := Nat.lt_of_lt_of_le (by go_size) hb9.size
  have hwj : Below w.heap.size w w9 := Below.trans (by (repeat' (first | (with_reducible exact Below.refl _ _) | (with_reducible assumption) | (with_reducible refine Below.alloc ?_ ?_ _) | (with_reducible refine Below.drew ?_) | (with_reducible refine below_drewN ?_ _) | (with_reducible refine Below.setCell ?_ ?_ _) | go_size))) (hb9.mono (by go_size))
  have hsj : w.heap.size ≤ w9.heap.size := hwj.size
  clear ci0 fi0 ci1 fi1 zi2 ci2 fi2 ci3 fi3 zi4 ci4 fi4 ci5 fi5 zi6 ci6 fi6 ci7 fi7 zi8 hwi hsi hb8
  go_wp2_with fail
  refine (nothing_c _).mono ?_
  rintro e w10 ⟨rfl, hb10⟩
  have ck0 : w10.cell? ⟨w.heap.size, 0, none⟩ = some (.int .i64 a) := (hb10.cell (p := ⟨w.heap.size, 0, none⟩) (by go_size)).trans (by go_simp)
  have fk0 : w10.frozen? ⟨w.heap.size, 0, none⟩ = false := (hb10.frozen (p := ⟨w.heap.size, 0, none⟩) (by go_size)).trans (by go_simp)
  have ck1 : w10.cell? ⟨w.heap.size, 1, none⟩ = some (.int .i64 b) := (hb10.cell (p := ⟨w.heap.size, 1, none⟩) (by go_size)).trans (by go_simp)
  have fk1 : w10.frozen? ⟨w.heap.size, 1, none⟩ = false := (hb10.frozen (p := ⟨w.heap.size, 1, none⟩) (by go_size)).trans (by go_simp)
  have zk2 : w.heap.size < w10.heap.size := Nat.lt_of_lt_of_le (by go_size) hb10.size
  have ck2 : w10.cell? ⟨w.heap.size + 1, 0, none⟩ = some (.int .i64 c) := (hb10.cell (p := ⟨w.heap.size + 1, 0, none⟩) (by go_size)).trans (by go_simp)
  have fk2 : w10.frozen? ⟨w.heap.size + 1, 0, none⟩ = false := (hb10.frozen (p := ⟨w.heap.size + 1, 0, none⟩) (by go_size)).trans (by go_simp)
  have ck3 : w10.cell? ⟨w.heap.size + 1, 1, none⟩ = some (.int .i64 d) := (hb10.cell (p := ⟨w.heap.size + 1, 1, none⟩) (by go_size)).trans (by go_simp)
  have fk3 : w10.frozen? ⟨w.heap.size + 1, 1, none⟩ = false := (hb10.frozen (p := ⟨w.heap.size + 1, 1, none⟩) (by go_size)).trans (by go_simp)
  have zk4 : w.heap.size + 1 < w10.heap.size := Nat.lt_of_lt_of_le (by go_size) hb10.size
  have ck4 : w10.cell? ⟨g4, 0, none⟩ = some (.int .i64 a) := (hb10.cell (p := ⟨g4, 0, none⟩) (by go_size)).trans (by go_simp)
  have fk4 : w10.frozen? ⟨g4, 0, none⟩ = false := (hb10.frozen (p := ⟨g4, 0, none⟩) (by go_size)).trans (by go_simp)
  have ck5 : w10.cell? ⟨g4, 1, none⟩ = some (.int .i64 b) := (hb10.cell (p := ⟨g4, 1, none⟩) (by go_size)).trans (by go_simp)
  have fk5 : w10.frozen? ⟨g4, 1, none⟩ = false := (hb10.frozen (p := ⟨g4, 1, none⟩) (by go_size)).trans (by go_simp)
  have zk6 : g4 < w10.heap.size := Nat.lt_of_lt_of_le (by go_size) hb10.size
  have ck6 : w10.cell? ⟨g5, 0, none⟩ = some (.int .i64 c) := (hb10.cell (p := ⟨g5, 0, none⟩) (by go_size)).trans (by go_simp)
  have fk6 : w10.frozen? ⟨g5, 0, none⟩ = false := (hb10.frozen (p := ⟨g5, 0, none⟩) (by go_size)).trans (by go_simp)
  have ck7 : w10.cell? ⟨g5, 1, none⟩ = some (.int .i64 d) := (hb10.cell (p := ⟨g5, 1, none⟩) (by go_size)).trans (by go_simp)
  have fk7 : w10.frozen? ⟨g5, 1, none⟩ = false := (hb10.frozen (p := ⟨g5, 1, none⟩) (by go_size)).trans (by go_simp)
  have zk8 : g5 < w10.heap.size := Nat.lt_of_lt_of_le (by go_size) hb10.size
  have hwk : Below w.heap.size w w10 := Below.trans (by (repeat' (first | (with_reducible exact Below.refl _ _) | (with_reducible assumption) | (with_reducible refine Below.alloc ?_ ?_ _) | (with_reducible refine Below.drew ?_) | (with_reducible refine below_drewN ?_ _) | (with_reducible refine Below.setCell ?_ ?_ _) | go_size))) (hb10.mono (by go_size))
  have hsk : w.heap.size ≤ w10.heap.size := hwk.size
  clear cj0 fj0 cj1 fj1 zj2 cj2 fj2 cj3 fj3 zj4 cj4 fj4 cj5 fj5 zj6 cj6 fj6 cj7 fj7 zj8 hwj hsj hb9
  go_wp2_with fail
  refine (like_c _ _ _ _ _).mono ?_
  rintro e w11 ⟨rfl, hb11⟩
  have cl0 : w11.cell? ⟨w.heap.size, 0, none⟩ = some (.int .i64 a) := (hb11.cell (p := ⟨w.heap.size, 0, none⟩) (by go_size)).trans (by go_simp)
  have fl0 : w11.frozen? ⟨w.heap.size, 0, none⟩ = false := (hb11.frozen (p := ⟨w.heap.size, 0, none⟩) (by go_size)).trans (by go_simp)
  have cl1 : w11.cell? ⟨w.heap.size, 1, none⟩ = some (.int .i64 b) := (hb11.cell (p := ⟨w.heap.size, 1, none⟩) (by go_size)).trans (by go_simp)
  have fl1 : w11.frozen? ⟨w.heap.size, 1, none⟩ = false := (hb11.frozen (p := ⟨w.heap.size, 1, none⟩) (by go_size)).trans (by go_simp)
  have zl2 : w.heap.size < w11.heap.size := Nat.lt_of_lt_of_le (by go_size) hb11.size
  have cl2 : w11.cell? ⟨w.heap.size + 1, 0, none⟩ = some (.int .i64 c) := (hb11.cell (p := ⟨w.heap.size + 1, 0, none⟩) (by go_size)).trans (by go_simp)
  have fl2 : w11.frozen? ⟨w.heap.size + 1, 0, none⟩ = false := (hb11.frozen (p := ⟨w.heap.size + 1, 0, none⟩) (by go_size)).trans (by go_simp)
  have cl3 : w11.cell? ⟨w.heap.size + 1, 1, none⟩ = some (.int .i64 d) := (hb11.cell (p := ⟨w.heap.size + 1, 1, none⟩) (by go_size)).trans (by go_simp)
  have fl3 : w11.frozen? ⟨w.heap.size + 1, 1, none⟩ = false := (hb11.frozen (p := ⟨w.heap.size + 1, 1, none⟩) (by go_size)).trans (by go_simp)
  have zl4 : w.heap.size + 1 < w11.heap.size := Nat.lt_of_lt_of_le (by go_size) hb11.size
  have cl4 : w11.cell? ⟨g4, 0, none⟩ = some (.int .i64 a) := (hb11.cell (p := ⟨g4, 0, none⟩) (by go_size)).trans (by go_simp)
  have fl4 : w11.frozen? ⟨g4, 0, none⟩ = false := (hb11.frozen (p := ⟨g4, 0, none⟩) (by go_size)).trans (by go_simp)
  have cl5 : w11.cell? ⟨g4, 1, none⟩ = some (.int .i64 b) := (hb11.cell (p := ⟨g4, 1, none⟩) (by go_size)).trans (by go_simp)
  have fl5 : w11.frozen? ⟨g4, 1, none⟩ = false := (hb11.frozen (p := ⟨g4, 1, none⟩) (by go_size)).trans (by go_simp)
  have zl6 : g4 < w11.heap.size := Nat.lt_of_lt_of_le (by go_size) hb11.size
  have cl6 : w11.cell? ⟨g5, 0, none⟩ = some (.int .i64 c) := (hb11.cell (p := ⟨g5, 0, none⟩) (by go_size)).trans (by go_simp)
  have fl6 : w11.frozen? ⟨g5, 0, none⟩ = false := (hb11.frozen (p := ⟨g5, 0, none⟩) (by go_size)).trans (by go_simp)
  have cl7 : w11.cell? ⟨g5, 1, none⟩ = some (.int .i64 d) := (hb11.cell (p := ⟨g5, 1, none⟩) (by go_size)).trans (by go_simp)
  have fl7 : w11.frozen? ⟨g5, 1, none⟩ = false := (hb11.frozen (p := ⟨g5, 1, none⟩) (by go_size)).trans (by go_simp)
  have zl8 : g5 < w11.heap.size := Nat.lt_of_lt_of_le (by go_size) hb11.size
  have hwl : Below w.heap.size w w11 := Below.trans (by (repeat' (first | (with_reducible exact Below.refl _ _) | (with_reducible assumption) | (with_reducible refine Below.alloc ?_ ?_ _) | (with_reducible refine Below.drew ?_) | (with_reducible refine below_drewN ?_ _) | (with_reducible refine Below.setCell ?_ ?_ _) | go_size))) (hb11.mono (by go_size))
  have hsl : w.heap.size ≤ w11.heap.size := hwl.size
  clear ck0 fk0 ck1 fk1 zk2 ck2 fk2 ck3 fk3 zk4 ck4 fk4 ck5 fk5 zk6 ck6 fk6 ck7 fk7 zk8 hwk hsk hb10
  go_wp2_with fail
  refine (awake_c _).mono ?_
  rintro e w12 ⟨rfl, hb12⟩
  have cm0 : w12.cell? ⟨w.heap.size, 0, none⟩ = some (.int .i64 a) := (hb12.cell (p := ⟨w.heap.size, 0, none⟩) (by go_size)).trans (by go_simp)
  have fm0 : w12.frozen? ⟨w.heap.size, 0, none⟩ = false := (hb12.frozen (p := ⟨w.heap.size, 0, none⟩) (by go_size)).trans (by go_simp)
  have cm1 : w12.cell? ⟨w.heap.size, 1, none⟩ = some (.int .i64 b) := (hb12.cell (p := ⟨w.heap.size, 1, none⟩) (by go_size)).trans (by go_simp)
  have fm1 : w12.frozen? ⟨w.heap.size, 1, none⟩ = false := (hb12.frozen (p := ⟨w.heap.size, 1, none⟩) (by go_size)).trans (by go_simp)
  have zm2 : w.heap.size < w12.heap.size := Nat.lt_of_lt_of_le (by go_size) hb12.size
  have cm2 : w12.cell? ⟨w.heap.size + 1, 0, none⟩ = some (.int .i64 c) := (hb12.cell (p := ⟨w.heap.size + 1, 0, none⟩) (by go_size)).trans (by go_simp)
  have fm2 : w12.frozen? ⟨w.heap.size + 1, 0, none⟩ = false := (hb12.frozen (p := ⟨w.heap.size + 1, 0, none⟩) (by go_size)).trans (by go_simp)
  have cm3 : w12.cell? ⟨w.heap.size + 1, 1, none⟩ = some (.int .i64 d) := (hb12.cell (p := ⟨w.heap.size + 1, 1, none⟩) (by go_size)).trans (by go_simp)
  have fm3 : w12.frozen? ⟨w.heap.size + 1, 1, none⟩ = false := (hb12.frozen (p := ⟨w.heap.size + 1, 1, none⟩) (by go_size)).trans (by go_simp)
  have zm4 : w.heap.size + 1 < w12.heap.size := Nat.lt_of_lt_of_le (by go_size) hb12.size
  have cm4 : w12.cell? ⟨g4, 0, none⟩ = some (.int .i64 a) := (hb12.cell (p := ⟨g4, 0, none⟩) (by go_size)).trans (by go_simp)
  have fm4 : w12.frozen? ⟨g4, 0, none⟩ = false := (hb12.frozen (p := ⟨g4, 0, none⟩) (by go_size)).trans (by go_simp)
  have cm5 : w12.cell? ⟨g4, 1, none⟩ = some (.int .i64 b) := (hb12.cell (p := ⟨g4, 1, none⟩) (by go_size)).trans (by go_simp)
  have fm5 : w12.frozen? ⟨g4, 1, none⟩ = false := (hb12.frozen (p := ⟨g4, 1, none⟩) (by go_size)).trans (by go_simp)
  have zm6 : g4 < w12.heap.size := Nat.lt_of_lt_of_le (by go_size) hb12.size
  have cm6 : w12.cell? ⟨g5, 0, none⟩ = some (.int .i64 c) := (hb12.cell (p := ⟨g5, 0, none⟩) (by go_size)).trans (by go_simp)
  have fm6 : w12.frozen? ⟨g5, 0, none⟩ = false := (hb12.frozen (p := ⟨g5, 0, none⟩) (by go_size)).trans (by go_simp)
  have cm7 : w12.cell? ⟨g5, 1, none⟩ = some (.int .i64 d) := (hb12.cell (p := ⟨g5, 1, none⟩) (by go_size)).trans (by go_simp)
  have fm7 : w12.frozen? ⟨g5, 1, none⟩ = false := (hb12.frozen (p := ⟨g5, 1, none⟩) (by go_size)).trans (by go_simp)
  have zm8 : g5 < w12.heap.size := Nat.lt_of_lt_of_le (by go_size) hb12.size
  have hwm : Below w.heap.size w w12 := Below.trans (by (repeat' (first | (with_reducible exact Below.refl _ _) | (with_reducible assumption) | (with_reducible refine Below.alloc ?_ ?_ _) | (with_reducible refine Below.drew ?_) | (with_reducible refine below_drewN ?_ _) | (with_reducible refine Below.setCell ?_ ?_ _) | go_size))) (hb12.mono (by go_size))
  have hsm : w.heap.size ≤ w12.heap.size := hwm.size
  clear cl0 fl0 cl1 fl1 zl2 cl2 fl2 cl3 fl3 zl4 cl4 fl4 cl5 fl5 zl6 cl6 fl6 cl7 fl7 zl8 hwl hsl hb11
  go_wp2
  go_ret
  exact ⟨rfl, by assumption⟩

set_option maxRecDepth 100000 in
set_option maxHeartbeats 4000000 in
theorem law9_10 (a b c d x : Int) (w : World) (h : Pl.chi a b < Pl.clo a b) (k : ¬ x < a) :
    Calls Try.prog 9 #[.agg #[.int .i64 a, .int .i64 b], .agg #[.int .i64 c, .int .i64 d], .int .i64 x] w fun e w' => e = .returned (.bool true) ∧ Below w.heap.size w w' := by
  have q1 := Pl.clo_bd a b
  have q2 := Pl.chi_bd a b
  have q3 := Pl.mid_bd a b
  have m1 := (Pl.v_s a b x).1
  have m2 := (Pl.v_s a b x).2
  have m3 : Pl.wit a b c d = (decide (Pl.mlo a b c d = Pl.clo a b) && decide (Pl.mhi a b c d = Pl.chi a b)) := rfl
  have m4 : IntKind.i64.wrap (Pl.chi a b - Pl.clo a b) = Pl.chi a b - Pl.clo a b := IntWalk.i64_in _ (by omega)
  have m5 : IntKind.i64.wrap (Pl.chi a b - Pl.clo a b + 1) = Pl.chi a b - Pl.clo a b + 1 := IntWalk.i64_in _ (by omega)
  have m6 : IntKind.i64.wrap (Pl.chi a b - Pl.mid a b) = Pl.chi a b - Pl.mid a b := IntWalk.i64_in _ (by omega)
  have m7 := (Pl.half_emp h).1
  have m8 := (Pl.half_emp h).2
  have m9 : Pl.gmin a x = a := by unfold Pl.gmin; omega
  have m10 : Pl.gmax a x = x := by unfold Pl.gmax; omega
  clear h
  go_enter Try.func9, Try.ntmps9
  go_wp2_with fail
  refine wp_region_vars 6 (fun i => ([.agg #[.int .i64 a, .int .i64 b], .agg #[.int .i64 a, .int .i64 b], .agg #[.int .i64 c, .int .i64 d], .agg #[.int .i64 c, .int .i64 d], undef, undef] : List Value).getD i undef) (fun i => i == 4 || i == 5) (fun _ => .cells #[.int .i64 0, .int .i64 0] 24) (by kernel_rfl) (by kernel_rfl) ?hal ?_
  case hal =>
    intro i o ho hi a w
    simp only [Bool.or_eq_true, beq_iff_eq] at hi
    rcases hi with rfl | rfl
    all_goals
      obtain rfl := Option.some.inj ho
      go_simp
  simp only [List.take_succ_cons, List.take_zero, List.drop_succ_cons, List.drop_zero]
  refine wpVars_val rfl rfl ?q0 (fun K hK => ?_)
  case q0 =>
    intro wx hb
    have c0 : wx.cell? ⟨w.heap.size, 0, none⟩ = some (.int .i64 a) := (hb.cell (p := ⟨w.heap.size, 0, none⟩) (by go_size)).trans (by go_simp)
    have c1 : wx.cell? ⟨w.heap.size, 1, none⟩ = some (.int .i64 b) := (hb.cell (p := ⟨w.heap.size, 1, none⟩) (by go_size)).trans (by go_simp)
    have c2 : wx.cell? ⟨w.heap.size + 1, 0, none⟩ = some (.int .i64 c) := (hb.cell (p := ⟨w.heap.size + 1, 0, none⟩) (by go_size)).trans (by go_simp)
    have c3 : wx.cell? ⟨w.heap.size + 1, 1, none⟩ = some (.int .i64 d) := (hb.cell (p := ⟨w.heap.size + 1, 1, none⟩) (by go_size)).trans (by go_simp)
    unfold growAt
    go_simp
  go_simp
  refine hK _ ?_
  clear hK K
  refine wpVars_val rfl rfl ?q1 (fun K hK => ?_)
  case q1 =>
    intro wx hb
    unfold growAt
    go_simp
    exact mine_c _ _ _
  go_simp
  refine hK _ ?_
  clear hK K
  refine wpVars_val rfl rfl ?q2 (fun K hK => ?_)
  case q2 =>
    intro wx hb
    have c0 : wx.cell? ⟨w.heap.size, 0, none⟩ = some (.int .i64 a) := (hb.cell (p := ⟨w.heap.size, 0, none⟩) (by go_size)).trans (by go_simp)
    have c1 : wx.cell? ⟨w.heap.size, 1, none⟩ = some (.int .i64 b) := (hb.cell (p := ⟨w.heap.size, 1, none⟩) (by go_size)).trans (by go_simp)
    have c2 : wx.cell? ⟨w.heap.size + 1, 0, none⟩ = some (.int .i64 c) := (hb.cell (p := ⟨w.heap.size + 1, 0, none⟩) (by go_size)).trans (by go_simp)
    have c3 : wx.cell? ⟨w.heap.size + 1, 1, none⟩ = some (.int .i64 d) := (hb.cell (p := ⟨w.heap.size + 1, 1, none⟩) (by go_size)).trans (by go_simp)
    unfold growAt
    go_simp
  go_simp
  refine hK _ ?_
  clear hK K
  refine wpVars_val rfl rfl ?q3 (fun K hK => ?_)
  case q3 =>
    intro wx hb
    unfold growAt
    go_simp
    exact mine_c _ _ _
  go_simp
  refine hK _ ?_
  clear hK K
  refine wpVars_var rfl rfl (fun g4 K hK => ?_)
  go_simp
  refine hK _ ?_
  clear hK K
  refine wpVars_var rfl rfl (fun g5 K hK => ?_)
  go_simp
  refine hK _ ?_
  clear hK K
  refine wpVars_nil ?_
  intro v1 hl
  have hwb : Below w.heap.size w v1 := Below.trans (by (repeat' (first | (with_reducible exact Below.refl _ _) | (with_reducible assumption) | (with_reducible refine Below.alloc ?_ ?_ _) | (with_reducible refine Below.drew ?_) | (with_reducible refine below_drewN ?_ _) | (with_reducible refine Below.setCell ?_ ?_ _) | go_size))) (hl.kept.mono (by go_size))
  have l4 := hl.lies 4 rfl (by omega)
  simp [upd] at l4
  have z4b := block_lt l4.2
  have y4b : w.heap.size < g4 := Nat.lt_of_lt_of_le (by go_size) l4.1
  have c4b0 : v1.cell? ⟨g4, 0, none⟩ = some (.int .i64 0) := block_cell l4.2 0
  have f4b0 : v1.frozen? ⟨g4, 0, none⟩ = false := block_free l4.2 0
  have c4b1 : v1.cell? ⟨g4, 1, none⟩ = some (.int .i64 0) := block_cell l4.2 1
  have f4b1 : v1.frozen? ⟨g4, 1, none⟩ = false := block_free l4.2 1
  have l5 := hl.lies 5 rfl (by omega)
  simp [upd] at l5
  have z5b := block_lt l5.2
  have y5b : w.heap.size < g5 := Nat.lt_of_lt_of_le (by go_size) l5.1
  have c5b0 : v1.cell? ⟨g5, 0, none⟩ = some (.int .i64 0) := block_cell l5.2 0
  have f5b0 : v1.frozen? ⟨g5, 0, none⟩ = false := block_free l5.2 0
  have c5b1 : v1.cell? ⟨g5, 1, none⟩ = some (.int .i64 0) := block_cell l5.2 1
  have f5b1 : v1.frozen? ⟨g5, 1, none⟩ = false := block_free l5.2 1
  have n01b : ¬ g4 = g5 := by have := hl.apart 4 5 rfl rfl (by omega) (by omega) (by omega); simpa [upd] using this
  have n10b : ¬ g5 = g4 := by have := hl.apart 5 4 rfl rfl (by omega) (by omega) (by omega); simpa [upd] using this
  have kb0 : v1.cell? ⟨w.heap.size, 0, none⟩ = some (.int .i64 a) := (hl.kept.cell (p := ⟨w.heap.size, 0, none⟩) (by go_size)).trans (by go_simp)
  have xb0 : v1.frozen? ⟨w.heap.size, 0, none⟩ = false := (hl.kept.frozen (p := ⟨w.heap.size, 0, none⟩) (by go_size)).trans (by go_simp)
  have kb1 : v1.cell? ⟨w.heap.size, 1, none⟩ = some (.int .i64 b) := (hl.kept.cell (p := ⟨w.heap.size, 1, none⟩) (by go_size)).trans (by go_simp)
  have xb1 : v1.frozen? ⟨w.heap.size, 1, none⟩ = false := (hl.kept.frozen (p := ⟨w.heap.size, 1, none⟩) (by go_size)).trans (by go_simp)
  have s4b2 : ¬ w.heap.size = g4 := by have := l4.1; omega
  have r4b2 : ¬ g4 = w.heap.size := by have := l4.1; omega
  have s5b2 : ¬ w.heap.size = g5 := by have := l5.1; omega
  have r5b2 : ¬ g5 = w.heap.size := by have := l5.1; omega
  have zzb2 : w.heap.size < v1.heap.size := Nat.lt_of_lt_of_le (by go_size) hl.kept.size
  have kb2 : v1.cell? ⟨w.heap.size + 1, 0, none⟩ = some (.int .i64 c) := (hl.kept.cell (p := ⟨w.heap.size + 1, 0, none⟩) (by go_size)).trans (by go_simp)
  have xb2 : v1.frozen? ⟨w.heap.size + 1, 0, none⟩ = false := (hl.kept.frozen (p := ⟨w.heap.size + 1, 0, none⟩) (by go_size)).trans (by go_simp)
  have kb3 : v1.cell? ⟨w.heap.size + 1, 1, none⟩ = some (.int .i64 d) := (hl.kept.cell (p := ⟨w.heap.size + 1, 1, none⟩) (by go_size)).trans (by go_simp)
  have xb3 : v1.frozen? ⟨w.heap.size + 1, 1, none⟩ = false := (hl.kept.frozen (p := ⟨w.heap.size + 1, 1, none⟩) (by go_size)).trans (by go_simp)
  have s4b4 : ¬ w.heap.size + 1 = g4 := by have := l4.1; omega
  have r4b4 : ¬ g4 = w.heap.size + 1 := by have := l4.1; omega
  have s5b4 : ¬ w.heap.size + 1 = g5 := by have := l5.1; omega
  have r5b4 : ¬ g5 = w.heap.size + 1 := by have := l5.1; omega
  have zzb4 : w.heap.size + 1 < v1.heap.size := Nat.lt_of_lt_of_le (by go_size) hl.kept.size
  clear l4
  clear l5
  clear hl
  go_wp2_with fail
  refine abs_wp ?_
  intro W2 hW
  have cc0 : W2.cell? ⟨w.heap.size, 0, none⟩ = some (.int .i64 a) := by rw [hW]; go_simp
  have fc0 : W2.frozen? ⟨w.heap.size, 0, none⟩ = false := by rw [hW]; go_simp
  have cc1 : W2.cell? ⟨w.heap.size, 1, none⟩ = some (.int .i64 b) := by rw [hW]; go_simp
  have fc1 : W2.frozen? ⟨w.heap.size, 1, none⟩ = false := by rw [hW]; go_simp
  have zc2 : w.heap.size < W2.heap.size := by rw [hW]; go_size
  have cc2 : W2.cell? ⟨w.heap.size + 1, 0, none⟩ = some (.int .i64 c) := by rw [hW]; go_simp
  have fc2 : W2.frozen? ⟨w.heap.size + 1, 0, none⟩ = false := by rw [hW]; go_simp
  have cc3 : W2.cell? ⟨w.heap.size + 1, 1, none⟩ = some (.int .i64 d) := by rw [hW]; go_simp
  have fc3 : W2.frozen? ⟨w.heap.size + 1, 1, none⟩ = false := by rw [hW]; go_simp
  have zc4 : w.heap.size + 1 < W2.heap.size := by rw [hW]; go_size
  have cc4 : W2.cell? ⟨g4, 0, none⟩ = some (.int .i64 a) := by rw [hW]; go_simp
  have fc4 : W2.frozen? ⟨g4, 0, none⟩ = false := by rw [hW]; go_simp
  have cc5 : W2.cell? ⟨g4, 1, none⟩ = some (.int .i64 b) := by rw [hW]; go_simp
  have fc5 : W2.frozen? ⟨g4, 1, none⟩ = false := by rw [hW]; go_simp
  have zc6 : g4 < W2.heap.size := by rw [hW]; go_size
  have cc6 : W2.cell? ⟨g5, 0, none⟩ = some (.int .i64 c) := by rw [hW]; go_simp
  have fc6 : W2.frozen? ⟨g5, 0, none⟩ = false := by rw [hW]; go_simp
  have cc7 : W2.cell? ⟨g5, 1, none⟩ = some (.int .i64 d) := by rw [hW]; go_simp
  have fc7 : W2.frozen? ⟨g5, 1, none⟩ = false := by rw [hW]; go_simp
  have zc8 : g5 < W2.heap.size := by rw [hW]; go_size
  have hwc : Below w.heap.size w W2 := by
    rw [hW]
    (repeat' (first | (with_reducible exact Below.refl _ _) | (with_reducible assumption) | (with_reducible refine Below.alloc ?_ ?_ _) | (with_reducible refine Below.drew ?_) | (with_reducible refine below_drewN ?_ _) | (with_reducible refine Below.setCell ?_ ?_ _) | go_size))
  have hsc : w.heap.size ≤ W2.heap.size := hwc.size
  clear hW
  clear hwb z4b y4b c4b0 f4b0 c4b1 f4b1 z5b y5b c5b0 f5b0 c5b1 f5b1 kb0 xb0 kb1 xb1 zzb2 kb2 xb2 kb3 xb3 zzb4
  refine wp_region_kq (by kernel_rfl) (by kernel_rfl) ?_
  repeat (quiet_step ((first | (go_at_call 40; exact KW.call (clean_c _ _ _)) | (go_at_call 41; exact KW.call (rclean_c _ _ _)) | (go_at_call 39; exact KW.call (like_c _ _ _ _ _)) | (go_at_call 16; exact KW.call (meet_c _ _ _ _ _)) | (go_at_call 42; exact KW.call (rmeet_c _ _ _ _ _)) | (go_at_call 17; exact KW.call (hull_c _ _ _ _ _)) | (go_at_call 43; exact KW.call (rhull_c _ _ _ _ _)) | (go_at_call 23; exact KW.call (shift_c _ _ _ _)) | (go_at_call 44; exact KW.call (moved_c _ _ _ _ _)) | (go_at_call 22; exact KW.call (widen_c _ _ _ _)) | (go_at_call 45; exact KW.call (rwiden_c _ _ _ _)) | (go_at_call 15; exact KW.call (has_c _ _ _ _)) | (go_at_call 46; exact KW.call (rhas_c _ _ _ _)) | (go_at_call 47; exact KW.call (empty_c _ _ _)) | (go_at_call 48; exact KW.call (rempty_c _ _ _)) | (go_at_call 18; exact KW.call (within_c _ _ _ _ _)) | (go_at_call 20; exact KW.call (mid_c _ _ _)) | (go_at_call 49; exact KW.call (rmid_c _ _ _)) | (go_at_call 50; exact KW.call (size_c _ _ _)) | (go_at_call 21; exact KW.call (half_c _ _ _)))))
  refine wpQuiet_nil ?_
  intro k3
  have cd0 : k3.val.cell? ⟨w.heap.size, 0, none⟩ = some (.int .i64 a) := (k3.kp.cell (p := ⟨w.heap.size, 0, none⟩) (by go_size)).trans (by go_simp)
  have fd0 : k3.val.frozen? ⟨w.heap.size, 0, none⟩ = false := (k3.kp.frozen (p := ⟨w.heap.size, 0, none⟩) (by go_size)).trans (by go_simp)
  have cd1 : k3.val.cell? ⟨w.heap.size, 1, none⟩ = some (.int .i64 b) := (k3.kp.cell (p := ⟨w.heap.size, 1, none⟩) (by go_size)).trans (by go_simp)
  have fd1 : k3.val.frozen? ⟨w.heap.size, 1, none⟩ = false := (k3.kp.frozen (p := ⟨w.heap.size, 1, none⟩) (by go_size)).trans (by go_simp)
  have zd2 : w.heap.size < k3.val.heap.size := Nat.lt_of_lt_of_le (by go_size) k3.kp.size
  have cd2 : k3.val.cell? ⟨w.heap.size + 1, 0, none⟩ = some (.int .i64 c) := (k3.kp.cell (p := ⟨w.heap.size + 1, 0, none⟩) (by go_size)).trans (by go_simp)
  have fd2 : k3.val.frozen? ⟨w.heap.size + 1, 0, none⟩ = false := (k3.kp.frozen (p := ⟨w.heap.size + 1, 0, none⟩) (by go_size)).trans (by go_simp)
  have cd3 : k3.val.cell? ⟨w.heap.size + 1, 1, none⟩ = some (.int .i64 d) := (k3.kp.cell (p := ⟨w.heap.size + 1, 1, none⟩) (by go_size)).trans (by go_simp)
  have fd3 : k3.val.frozen? ⟨w.heap.size + 1, 1, none⟩ = false := (k3.kp.frozen (p := ⟨w.heap.size + 1, 1, none⟩) (by go_size)).trans (by go_simp)
  have zd4 : w.heap.size + 1 < k3.val.heap.size := Nat.lt_of_lt_of_le (by go_size) k3.kp.size
  have cd4 : k3.val.cell? ⟨g4, 0, none⟩ = some (.int .i64 a) := (k3.kp.cell (p := ⟨g4, 0, none⟩) (by go_size)).trans (by go_simp)
  have fd4 : k3.val.frozen? ⟨g4, 0, none⟩ = false := (k3.kp.frozen (p := ⟨g4, 0, none⟩) (by go_size)).trans (by go_simp)
  have cd5 : k3.val.cell? ⟨g4, 1, none⟩ = some (.int .i64 b) := (k3.kp.cell (p := ⟨g4, 1, none⟩) (by go_size)).trans (by go_simp)
  have fd5 : k3.val.frozen? ⟨g4, 1, none⟩ = false := (k3.kp.frozen (p := ⟨g4, 1, none⟩) (by go_size)).trans (by go_simp)
  have zd6 : g4 < k3.val.heap.size := Nat.lt_of_lt_of_le (by go_size) k3.kp.size
  have cd6 : k3.val.cell? ⟨g5, 0, none⟩ = some (.int .i64 c) := (k3.kp.cell (p := ⟨g5, 0, none⟩) (by go_size)).trans (by go_simp)
  have fd6 : k3.val.frozen? ⟨g5, 0, none⟩ = false := (k3.kp.frozen (p := ⟨g5, 0, none⟩) (by go_size)).trans (by go_simp)
  have cd7 : k3.val.cell? ⟨g5, 1, none⟩ = some (.int .i64 d) := (k3.kp.cell (p := ⟨g5, 1, none⟩) (by go_size)).trans (by go_simp)
  have fd7 : k3.val.frozen? ⟨g5, 1, none⟩ = false := (k3.kp.frozen (p := ⟨g5, 1, none⟩) (by go_size)).trans (by go_simp)
  have zd8 : g5 < k3.val.heap.size := Nat.lt_of_lt_of_le (by go_size) k3.kp.size
  have hwd : Below w.heap.size w k3.val := Below.trans (by (repeat' (first | (with_reducible exact Below.refl _ _) | (with_reducible assumption) | (with_reducible refine Below.alloc ?_ ?_ _) | (with_reducible refine Below.drew ?_) | (with_reducible refine below_drewN ?_ _) | (with_reducible refine Below.setCell ?_ ?_ _) | go_size))) (k3.kp.mono (by go_size))
  have hsd : w.heap.size ≤ k3.val.heap.size := hwd.size
  clear cc0 fc0 cc1 fc1 zc2 cc2 fc2 cc3 fc3 zc4 cc4 fc4 cc5 fc5 zc6 cc6 fc6 cc7 fc7 zc8 hwc hsc
  go_wp2_with fail
  refine wp_region_kq (by kernel_rfl) (by kernel_rfl) ?_
  repeat (quiet_step ((first | (go_at_call 40; exact KW.call (clean_c _ _ _)) | (go_at_call 41; exact KW.call (rclean_c _ _ _)) | (go_at_call 39; exact KW.call (like_c _ _ _ _ _)) | (go_at_call 16; exact KW.call (meet_c _ _ _ _ _)) | (go_at_call 42; exact KW.call (rmeet_c _ _ _ _ _)) | (go_at_call 17; exact KW.call (hull_c _ _ _ _ _)) | (go_at_call 43; exact KW.call (rhull_c _ _ _ _ _)) | (go_at_call 23; exact KW.call (shift_c _ _ _ _)) | (go_at_call 44; exact KW.call (moved_c _ _ _ _ _)) | (go_at_call 22; exact KW.call (widen_c _ _ _ _)) | (go_at_call 45; exact KW.call (rwiden_c _ _ _ _)) | (go_at_call 15; exact KW.call (has_c _ _ _ _)) | (go_at_call 46; exact KW.call (rhas_c _ _ _ _)) | (go_at_call 47; exact KW.call (empty_c _ _ _)) | (go_at_call 48; exact KW.call (rempty_c _ _ _)) | (go_at_call 18; exact KW.call (within_c _ _ _ _ _)) | (go_at_call 20; exact KW.call (mid_c _ _ _)) | (go_at_call 49; exact KW.call (rmid_c _ _ _)) | (go_at_call 50; exact KW.call (size_c _ _ _)) | (go_at_call 21; exact KW.call (half_c _ _ _)))))
  refine wpQuiet_nil ?_
  intro k4
  have ce0 : k4.val.cell? ⟨w.heap.size, 0, none⟩ = some (.int .i64 a) := (k4.kp.cell (p := ⟨w.heap.size, 0, none⟩) (by go_size)).trans (by go_simp)
  have fe0 : k4.val.frozen? ⟨w.heap.size, 0, none⟩ = false := (k4.kp.frozen (p := ⟨w.heap.size, 0, none⟩) (by go_size)).trans (by go_simp)
  have ce1 : k4.val.cell? ⟨w.heap.size, 1, none⟩ = some (.int .i64 b) := (k4.kp.cell (p := ⟨w.heap.size, 1, none⟩) (by go_size)).trans (by go_simp)
  have fe1 : k4.val.frozen? ⟨w.heap.size, 1, none⟩ = false := (k4.kp.frozen (p := ⟨w.heap.size, 1, none⟩) (by go_size)).trans (by go_simp)
  have ze2 : w.heap.size < k4.val.heap.size := Nat.lt_of_lt_of_le (by go_size) k4.kp.size
  have ce2 : k4.val.cell? ⟨w.heap.size + 1, 0, none⟩ = some (.int .i64 c) := (k4.kp.cell (p := ⟨w.heap.size + 1, 0, none⟩) (by go_size)).trans (by go_simp)
  have fe2 : k4.val.frozen? ⟨w.heap.size + 1, 0, none⟩ = false := (k4.kp.frozen (p := ⟨w.heap.size + 1, 0, none⟩) (by go_size)).trans (by go_simp)
  have ce3 : k4.val.cell? ⟨w.heap.size + 1, 1, none⟩ = some (.int .i64 d) := (k4.kp.cell (p := ⟨w.heap.size + 1, 1, none⟩) (by go_size)).trans (by go_simp)
  have fe3 : k4.val.frozen? ⟨w.heap.size + 1, 1, none⟩ = false := (k4.kp.frozen (p := ⟨w.heap.size + 1, 1, none⟩) (by go_size)).trans (by go_simp)
  have ze4 : w.heap.size + 1 < k4.val.heap.size := Nat.lt_of_lt_of_le (by go_size) k4.kp.size
  have ce4 : k4.val.cell? ⟨g4, 0, none⟩ = some (.int .i64 a) := (k4.kp.cell (p := ⟨g4, 0, none⟩) (by go_size)).trans (by go_simp)
  have fe4 : k4.val.frozen? ⟨g4, 0, none⟩ = false := (k4.kp.frozen (p := ⟨g4, 0, none⟩) (by go_size)).trans (by go_simp)
  have ce5 : k4.val.cell? ⟨g4, 1, none⟩ = some (.int .i64 b) := (k4.kp.cell (p := ⟨g4, 1, none⟩) (by go_size)).trans (by go_simp)
  have fe5 : k4.val.frozen? ⟨g4, 1, none⟩ = false := (k4.kp.frozen (p := ⟨g4, 1, none⟩) (by go_size)).trans (by go_simp)
  have ze6 : g4 < k4.val.heap.size := Nat.lt_of_lt_of_le (by go_size) k4.kp.size
  have ce6 : k4.val.cell? ⟨g5, 0, none⟩ = some (.int .i64 c) := (k4.kp.cell (p := ⟨g5, 0, none⟩) (by go_size)).trans (by go_simp)
  have fe6 : k4.val.frozen? ⟨g5, 0, none⟩ = false := (k4.kp.frozen (p := ⟨g5, 0, none⟩) (by go_size)).trans (by go_simp)
  have ce7 : k4.val.cell? ⟨g5, 1, none⟩ = some (.int .i64 d) := (k4.kp.cell (p := ⟨g5, 1, none⟩) (by go_size)).trans (by go_simp)
  have fe7 : k4.val.frozen? ⟨g5, 1, none⟩ = false := (k4.kp.frozen (p := ⟨g5, 1, none⟩) (by go_size)).trans (by go_simp)
  have ze8 : g5 < k4.val.heap.size := Nat.lt_of_lt_of_le (by go_size) k4.kp.size
  have hwe : Below w.heap.size w k4.val := Below.trans (by (repeat' (first | (with_reducible exact Below.refl _ _) | (with_reducible assumption) | (with_reducible refine Below.alloc ?_ ?_ _) | (with_reducible refine Below.drew ?_) | (with_reducible refine below_drewN ?_ _) | (with_reducible refine Below.setCell ?_ ?_ _) | go_size))) (k4.kp.mono (by go_size))
  have hse : w.heap.size ≤ k4.val.heap.size := hwe.size
  clear cd0 fd0 cd1 fd1 zd2 cd2 fd2 cd3 fd3 zd4 cd4 fd4 cd5 fd5 zd6 cd6 fd6 cd7 fd7 zd8 hwd hsd
  go_wp2_with fail
  refine (rclean_c _ _ _).mono ?_
  rintro e w5 ⟨rfl, hb5⟩
  have cf0 : w5.cell? ⟨w.heap.size, 0, none⟩ = some (.int .i64 a) := (hb5.cell (p := ⟨w.heap.size, 0, none⟩) (by go_size)).trans (by go_simp)
  have ff0 : w5.frozen? ⟨w.heap.size, 0, none⟩ = false := (hb5.frozen (p := ⟨w.heap.size, 0, none⟩) (by go_size)).trans (by go_simp)
  have cf1 : w5.cell? ⟨w.heap.size, 1, none⟩ = some (.int .i64 b) := (hb5.cell (p := ⟨w.heap.size, 1, none⟩) (by go_size)).trans (by go_simp)
  have ff1 : w5.frozen? ⟨w.heap.size, 1, none⟩ = false := (hb5.frozen (p := ⟨w.heap.size, 1, none⟩) (by go_size)).trans (by go_simp)
  have zf2 : w.heap.size < w5.heap.size := Nat.lt_of_lt_of_le (by go_size) hb5.size
  have cf2 : w5.cell? ⟨w.heap.size + 1, 0, none⟩ = some (.int .i64 c) := (hb5.cell (p := ⟨w.heap.size + 1, 0, none⟩) (by go_size)).trans (by go_simp)
  have ff2 : w5.frozen? ⟨w.heap.size + 1, 0, none⟩ = false := (hb5.frozen (p := ⟨w.heap.size + 1, 0, none⟩) (by go_size)).trans (by go_simp)
  have cf3 : w5.cell? ⟨w.heap.size + 1, 1, none⟩ = some (.int .i64 d) := (hb5.cell (p := ⟨w.heap.size + 1, 1, none⟩) (by go_size)).trans (by go_simp)
  have ff3 : w5.frozen? ⟨w.heap.size + 1, 1, none⟩ = false := (hb5.frozen (p := ⟨w.heap.size + 1, 1, none⟩) (by go_size)).trans (by go_simp)
  have zf4 : w.heap.size + 1 < w5.heap.size := Nat.lt_of_lt_of_le (by go_size) hb5.size
  have cf4 : w5.cell? ⟨g4, 0, none⟩ = some (.int .i64 a) := (hb5.cell (p := ⟨g4, 0, none⟩) (by go_size)).trans (by go_simp)
  have ff4 : w5.frozen? ⟨g4, 0, none⟩ = false := (hb5.frozen (p := ⟨g4, 0, none⟩) (by go_size)).trans (by go_simp)
  have cf5 : w5.cell? ⟨g4, 1, none⟩ = some (.int .i64 b) := (hb5.cell (p := ⟨g4, 1, none⟩) (by go_size)).trans (by go_simp)
  have ff5 : w5.frozen? ⟨g4, 1, none⟩ = false := (hb5.frozen (p := ⟨g4, 1, none⟩) (by go_size)).trans (by go_simp)
  have zf6 : g4 < w5.heap.size := Nat.lt_of_lt_of_le (by go_size) hb5.size
  have cf6 : w5.cell? ⟨g5, 0, none⟩ = some (.int .i64 c) := (hb5.cell (p := ⟨g5, 0, none⟩) (by go_size)).trans (by go_simp)
  have ff6 : w5.frozen? ⟨g5, 0, none⟩ = false := (hb5.frozen (p := ⟨g5, 0, none⟩) (by go_size)).trans (by go_simp)
  have cf7 : w5.cell? ⟨g5, 1, none⟩ = some (.int .i64 d) := (hb5.cell (p := ⟨g5, 1, none⟩) (by go_size)).trans (by go_simp)
  have ff7 : w5.frozen? ⟨g5, 1, none⟩ = false := (hb5.frozen (p := ⟨g5, 1, none⟩) (by go_size)).trans (by go_simp)
  have zf8 : g5 < w5.heap.size := Nat.lt_of_lt_of_le (by go_size) hb5.size
  have hwf : Below w.heap.size w w5 := Below.trans (by (repeat' (first | (with_reducible exact Below.refl _ _) | (with_reducible assumption) | (with_reducible refine Below.alloc ?_ ?_ _) | (with_reducible refine Below.drew ?_) | (with_reducible refine below_drewN ?_ _) | (with_reducible refine Below.setCell ?_ ?_ _) | go_size))) (hb5.mono (by go_size))
  have hsf : w.heap.size ≤ w5.heap.size := hwf.size
  clear ce0 fe0 ce1 fe1 ze2 ce2 fe2 ce3 fe3 ze4 ce4 fe4 ce5 fe5 ze6 ce6 fe6 ce7 fe7 ze8 hwe hse
  go_wp2_with fail
  refine (half_c _ _ _).mono ?_
  rintro e w6 ⟨rfl, hb6⟩
  have cg0 : w6.cell? ⟨w.heap.size, 0, none⟩ = some (.int .i64 a) := (hb6.cell (p := ⟨w.heap.size, 0, none⟩) (by go_size)).trans (by go_simp)
  have fg0 : w6.frozen? ⟨w.heap.size, 0, none⟩ = false := (hb6.frozen (p := ⟨w.heap.size, 0, none⟩) (by go_size)).trans (by go_simp)
  have cg1 : w6.cell? ⟨w.heap.size, 1, none⟩ = some (.int .i64 b) := (hb6.cell (p := ⟨w.heap.size, 1, none⟩) (by go_size)).trans (by go_simp)
  have fg1 : w6.frozen? ⟨w.heap.size, 1, none⟩ = false := (hb6.frozen (p := ⟨w.heap.size, 1, none⟩) (by go_size)).trans (by go_simp)
  have zg2 : w.heap.size < w6.heap.size := Nat.lt_of_lt_of_le (by go_size) hb6.size
  have cg2 : w6.cell? ⟨w.heap.size + 1, 0, none⟩ = some (.int .i64 c) := (hb6.cell (p := ⟨w.heap.size + 1, 0, none⟩) (by go_size)).trans (by go_simp)
  have fg2 : w6.frozen? ⟨w.heap.size + 1, 0, none⟩ = false := (hb6.frozen (p := ⟨w.heap.size + 1, 0, none⟩) (by go_size)).trans (by go_simp)
  have cg3 : w6.cell? ⟨w.heap.size + 1, 1, none⟩ = some (.int .i64 d) := (hb6.cell (p := ⟨w.heap.size + 1, 1, none⟩) (by go_size)).trans (by go_simp)
  have fg3 : w6.frozen? ⟨w.heap.size + 1, 1, none⟩ = false := (hb6.frozen (p := ⟨w.heap.size + 1, 1, none⟩) (by go_size)).trans (by go_simp)
  have zg4 : w.heap.size + 1 < w6.heap.size := Nat.lt_of_lt_of_le (by go_size) hb6.size
  have cg4 : w6.cell? ⟨g4, 0, none⟩ = some (.int .i64 a) := (hb6.cell (p := ⟨g4, 0, none⟩) (by go_size)).trans (by go_simp)
  have fg4 : w6.frozen? ⟨g4, 0, none⟩ = false := (hb6.frozen (p := ⟨g4, 0, none⟩) (by go_size)).trans (by go_simp)
  have cg5 : w6.cell? ⟨g4, 1, none⟩ = some (.int .i64 b) := (hb6.cell (p := ⟨g4, 1, none⟩) (by go_size)).trans (by go_simp)
  have fg5 : w6.frozen? ⟨g4, 1, none⟩ = false := (hb6.frozen (p := ⟨g4, 1, none⟩) (by go_size)).trans (by go_simp)
  have zg6 : g4 < w6.heap.size := Nat.lt_of_lt_of_le (by go_size) hb6.size
  have cg6 : w6.cell? ⟨g5, 0, none⟩ = some (.int .i64 c) := (hb6.cell (p := ⟨g5, 0, none⟩) (by go_size)).trans (by go_simp)
  have fg6 : w6.frozen? ⟨g5, 0, none⟩ = false := (hb6.frozen (p := ⟨g5, 0, none⟩) (by go_size)).trans (by go_simp)
  have cg7 : w6.cell? ⟨g5, 1, none⟩ = some (.int .i64 d) := (hb6.cell (p := ⟨g5, 1, none⟩) (by go_size)).trans (by go_simp)
  have fg7 : w6.frozen? ⟨g5, 1, none⟩ = false := (hb6.frozen (p := ⟨g5, 1, none⟩) (by go_size)).trans (by go_simp)
  have zg8 : g5 < w6.heap.size := Nat.lt_of_lt_of_le (by go_size) hb6.size
  have hwg : Below w.heap.size w w6 := Below.trans (by (repeat' (first | (with_reducible exact Below.refl _ _) | (with_reducible assumption) | (with_reducible refine Below.alloc ?_ ?_ _) | (with_reducible refine Below.drew ?_) | (with_reducible refine below_drewN ?_ _) | (with_reducible refine Below.setCell ?_ ?_ _) | go_size))) (hb6.mono (by go_size))
  have hsg : w.heap.size ≤ w6.heap.size := hwg.size
  clear cf0 ff0 cf1 ff1 zf2 cf2 ff2 cf3 ff3 zf4 cf4 ff4 cf5 ff5 zf6 cf6 ff6 cf7 ff7 zf8 hwf hsf hb5
  go_wp2_with fail
  refine (of_c _ _ _).mono ?_
  rintro e w7 ⟨rfl, hb7⟩
  have ch0 : w7.cell? ⟨w.heap.size, 0, none⟩ = some (.int .i64 a) := (hb7.cell (p := ⟨w.heap.size, 0, none⟩) (by go_size)).trans (by go_simp)
  have fh0 : w7.frozen? ⟨w.heap.size, 0, none⟩ = false := (hb7.frozen (p := ⟨w.heap.size, 0, none⟩) (by go_size)).trans (by go_simp)
  have ch1 : w7.cell? ⟨w.heap.size, 1, none⟩ = some (.int .i64 b) := (hb7.cell (p := ⟨w.heap.size, 1, none⟩) (by go_size)).trans (by go_simp)
  have fh1 : w7.frozen? ⟨w.heap.size, 1, none⟩ = false := (hb7.frozen (p := ⟨w.heap.size, 1, none⟩) (by go_size)).trans (by go_simp)
  have zh2 : w.heap.size < w7.heap.size := Nat.lt_of_lt_of_le (by go_size) hb7.size
  have ch2 : w7.cell? ⟨w.heap.size + 1, 0, none⟩ = some (.int .i64 c) := (hb7.cell (p := ⟨w.heap.size + 1, 0, none⟩) (by go_size)).trans (by go_simp)
  have fh2 : w7.frozen? ⟨w.heap.size + 1, 0, none⟩ = false := (hb7.frozen (p := ⟨w.heap.size + 1, 0, none⟩) (by go_size)).trans (by go_simp)
  have ch3 : w7.cell? ⟨w.heap.size + 1, 1, none⟩ = some (.int .i64 d) := (hb7.cell (p := ⟨w.heap.size + 1, 1, none⟩) (by go_size)).trans (by go_simp)
  have fh3 : w7.frozen? ⟨w.heap.size + 1, 1, none⟩ = false := (hb7.frozen (p := ⟨w.heap.size + 1, 1, none⟩) (by go_size)).trans (by go_simp)
  have zh4 : w.heap.size + 1 < w7.heap.size := Nat.lt_of_lt_of_le (by go_size) hb7.size
  have ch4 : w7.cell? ⟨g4, 0, none⟩ = some (.int .i64 a) := (hb7.cell (p := ⟨g4, 0, none⟩) (by go_size)).trans (by go_simp)
  have fh4 : w7.frozen? ⟨g4, 0, none⟩ = false := (hb7.frozen (p := ⟨g4, 0, none⟩) (by go_size)).trans (by go_simp)
  have ch5 : w7.cell? ⟨g4, 1, none⟩ = some (.int .i64 b) := (hb7.cell (p := ⟨g4, 1, none⟩) (by go_size)).trans (by go_simp)
  have fh5 : w7.frozen? ⟨g4, 1, none⟩ = false := (hb7.frozen (p := ⟨g4, 1, none⟩) (by go_size)).trans (by go_simp)
  have zh6 : g4 < w7.heap.size := Nat.lt_of_lt_of_le (by go_size) hb7.size
  have ch6 : w7.cell? ⟨g5, 0, none⟩ = some (.int .i64 c) := (hb7.cell (p := ⟨g5, 0, none⟩) (by go_size)).trans (by go_simp)
  have fh6 : w7.frozen? ⟨g5, 0, none⟩ = false := (hb7.frozen (p := ⟨g5, 0, none⟩) (by go_size)).trans (by go_simp)
  have ch7 : w7.cell? ⟨g5, 1, none⟩ = some (.int .i64 d) := (hb7.cell (p := ⟨g5, 1, none⟩) (by go_size)).trans (by go_simp)
  have fh7 : w7.frozen? ⟨g5, 1, none⟩ = false := (hb7.frozen (p := ⟨g5, 1, none⟩) (by go_size)).trans (by go_simp)
  have zh8 : g5 < w7.heap.size := Nat.lt_of_lt_of_le (by go_size) hb7.size
  have hwh : Below w.heap.size w w7 := Below.trans (by (repeat' (first | (with_reducible exact Below.refl _ _) | (with_reducible assumption) | (with_reducible refine Below.alloc ?_ ?_ _) | (with_reducible refine Below.drew ?_) | (with_reducible refine below_drewN ?_ _) | (with_reducible refine Below.setCell ?_ ?_ _) | go_size))) (hb7.mono (by go_size))
  have hsh : w.heap.size ≤ w7.heap.size := hwh.size
  clear cg0 fg0 cg1 fg1 zg2 cg2 fg2 cg3 fg3 zg4 cg4 fg4 cg5 fg5 zg6 cg6 fg6 cg7 fg7 zg8 hwg hsg hb6
  go_wp2_with fail
  refine (rclean_c _ _ _).mono ?_
  rintro e w8 ⟨rfl, hb8⟩
  have ci0 : w8.cell? ⟨w.heap.size, 0, none⟩ = some (.int .i64 a) := (hb8.cell (p := ⟨w.heap.size, 0, none⟩) (by go_size)).trans (by go_simp)
  have fi0 : w8.frozen? ⟨w.heap.size, 0, none⟩ = false := (hb8.frozen (p := ⟨w.heap.size, 0, none⟩) (by go_size)).trans (by go_simp)
  have ci1 : w8.cell? ⟨w.heap.size, 1, none⟩ = some (.int .i64 b) := (hb8.cell (p := ⟨w.heap.size, 1, none⟩) (by go_size)).trans (by go_simp)
  have fi1 : w8.frozen? ⟨w.heap.size, 1, none⟩ = false := (hb8.frozen (p := ⟨w.heap.size, 1, none⟩) (by go_size)).trans (by go_simp)
  have zi2 : w.heap.size < w8.heap.size := Nat.lt_of_lt_of_le (by go_size) hb8.size
  have ci2 : w8.cell? ⟨w.heap.size + 1, 0, none⟩ = some (.int .i64 c) := (hb8.cell (p := ⟨w.heap.size + 1, 0, none⟩) (by go_size)).trans (by go_simp)
  have fi2 : w8.frozen? ⟨w.heap.size + 1, 0, none⟩ = false := (hb8.frozen (p := ⟨w.heap.size + 1, 0, none⟩) (by go_size)).trans (by go_simp)
  have ci3 : w8.cell? ⟨w.heap.size + 1, 1, none⟩ = some (.int .i64 d) := (hb8.cell (p := ⟨w.heap.size + 1, 1, none⟩) (by go_size)).trans (by go_simp)
  have fi3 : w8.frozen? ⟨w.heap.size + 1, 1, none⟩ = false := (hb8.frozen (p := ⟨w.heap.size + 1, 1, none⟩) (by go_size)).trans (by go_simp)
  have zi4 : w.heap.size + 1 < w8.heap.size := Nat.lt_of_lt_of_le (by go_size) hb8.size
  have ci4 : w8.cell? ⟨g4, 0, none⟩ = some (.int .i64 a) := (hb8.cell (p := ⟨g4, 0, none⟩) (by go_size)).trans (by go_simp)
  have fi4 : w8.frozen? ⟨g4, 0, none⟩ = false := (hb8.frozen (p := ⟨g4, 0, none⟩) (by go_size)).trans (by go_simp)
  have ci5 : w8.cell? ⟨g4, 1, none⟩ = some (.int .i64 b) := (hb8.cell (p := ⟨g4, 1, none⟩) (by go_size)).trans (by go_simp)
  have fi5 : w8.frozen? ⟨g4, 1, none⟩ = false := (hb8.frozen (p := ⟨g4, 1, none⟩) (by go_size)).trans (by go_simp)
  have zi6 : g4 < w8.heap.size := Nat.lt_of_lt_of_le (by go_size) hb8.size
  have ci6 : w8.cell? ⟨g5, 0, none⟩ = some (.int .i64 c) := (hb8.cell (p := ⟨g5, 0, none⟩) (by go_size)).trans (by go_simp)
  have fi6 : w8.frozen? ⟨g5, 0, none⟩ = false := (hb8.frozen (p := ⟨g5, 0, none⟩) (by go_size)).trans (by go_simp)
  have ci7 : w8.cell? ⟨g5, 1, none⟩ = some (.int .i64 d) := (hb8.cell (p := ⟨g5, 1, none⟩) (by go_size)).trans (by go_simp)
  have fi7 : w8.frozen? ⟨g5, 1, none⟩ = false := (hb8.frozen (p := ⟨g5, 1, none⟩) (by go_size)).trans (by go_simp)
  have zi8 : g5 < w8.heap.size := Nat.lt_of_lt_of_le (by go_size) hb8.size
  have hwi : Below w.heap.size w w8 := Below.trans (by (repeat' (first | (with_reducible exact Below.refl _ _) | (with_reducible assumption) | (with_reducible refine Below.alloc ?_ ?_ _) | (with_reducible refine Below.drew ?_) | (with_reducible refine below_drewN ?_ _) | (with_reducible refine Below.setCell ?_ ?_ _) | go_size))) (hb8.mono (by go_size))
  have hsi : w.heap.size ≤ w8.heap.size := hwi.size
  clear ch0 fh0 ch1 fh1 zh2 ch2 fh2 ch3 fh3 zh4 ch4 fh4 ch5 fh5 zh6 ch6 fh6 ch7 fh7 zh8 hwh hsh hb7
  go_wp2_with fail
  refine (like_c _ _ _ _ _).mono ?_
  rintro e w9 ⟨rfl, hb9⟩
  have cj0 : w9.cell? ⟨w.heap.size, 0, none⟩ = some (.int .i64 a) := (hb9.cell (p := ⟨w.heap.size, 0, none⟩) (by go_size)).trans (by go_simp)
  have fj0 : w9.frozen? ⟨w.heap.size, 0, none⟩ = false := (hb9.frozen (p := ⟨w.heap.size, 0, none⟩) (by go_size)).trans (by go_simp)
  have cj1 : w9.cell? ⟨w.heap.size, 1, none⟩ = some (.int .i64 b) := (hb9.cell (p := ⟨w.heap.size, 1, none⟩) (by go_size)).trans (by go_simp)
  have fj1 : w9.frozen? ⟨w.heap.size, 1, none⟩ = false := (hb9.frozen (p := ⟨w.heap.size, 1, none⟩) (by go_size)).trans (by go_simp)
  have zj2 : w.heap.size < w9.heap.size := Nat.lt_of_lt_of_le (by go_size) hb9.size
  have cj2 : w9.cell? ⟨w.heap.size + 1, 0, none⟩ = some (.int .i64 c) := (hb9.cell (p := ⟨w.heap.size + 1, 0, none⟩) (by go_size)).trans (by go_simp)
  have fj2 : w9.frozen? ⟨w.heap.size + 1, 0, none⟩ = false := (hb9.frozen (p := ⟨w.heap.size + 1, 0, none⟩) (by go_size)).trans (by go_simp)
  have cj3 : w9.cell? ⟨w.heap.size + 1, 1, none⟩ = some (.int .i64 d) := (hb9.cell (p := ⟨w.heap.size + 1, 1, none⟩) (by go_size)).trans (by go_simp)
  have fj3 : w9.frozen? ⟨w.heap.size + 1, 1, none⟩ = false := (hb9.frozen (p := ⟨w.heap.size + 1, 1, none⟩) (by go_size)).trans (by go_simp)
  have zj4 : w.heap.size + 1 < w9.heap.size := Nat.lt_of_lt_of_le (by go_size) hb9.size
  have cj4 : w9.cell? ⟨g4, 0, none⟩ = some (.int .i64 a) := (hb9.cell (p := ⟨g4, 0, none⟩) (by go_size)).trans (by go_simp)
  have fj4 : w9.frozen? ⟨g4, 0, none⟩ = false := (hb9.frozen (p := ⟨g4, 0, none⟩) (by go_size)).trans (by go_simp)
  have cj5 : w9.cell? ⟨g4, 1, none⟩ = some (.int .i64 b) := (hb9.cell (p := ⟨g4, 1, none⟩) (by go_size)).trans (by go_simp)
  have fj5 : w9.frozen? ⟨g4, 1, none⟩ = false := (hb9.frozen (p := ⟨g4, 1, none⟩) (by go_size)).trans (by go_simp)
  have zj6 : g4 < w9.heap.size := Nat.lt_of_lt_of_le (by go_size) hb9.size
  have cj6 : w9.cell? ⟨g5, 0, none⟩ = some (.int .i64 c) := (hb9.cell (p := ⟨g5, 0, none⟩) (by go_size)).trans (by go_simp)
  have fj6 : w9.frozen? ⟨g5, 0, none⟩ = false := (hb9.frozen (p := ⟨g5, 0, none⟩) (by go_size)).trans (by go_simp)
  have cj7 : w9.cell? ⟨g5, 1, none⟩ = some (.int .i64 d) := (hb9.cell (p := ⟨g5, 1, none⟩) (by go_size)).trans (by go_simp)
  have fj7 : w9.frozen? ⟨g5, 1, none⟩ = false := (hb9.frozen (p := ⟨g5, 1, none⟩) (by go_size)).trans (by go_simp)
  have zj8 : g5 < w9.heap.size := Nat.lt_of_lt_of_le (by go_size) hb9.size
  have hwj : Below w.heap.size w w9 := Below.trans (by (repeat' (first | (with_reducible exact Below.refl _ _) | (with_reducible assumption) | (with_reducible refine Below.alloc ?_ ?_ _) | (with_reducible refine Below.drew ?_) | (with_reducible refine below_drewN ?_ _) | (with_reducible refine Below.setCell ?_ ?_ _) | go_size))) (hb9.mono (by go_size))
  have hsj : w.heap.size ≤ w9.heap.size := hwj.size
  clear ci0 fi0 ci1 fi1 zi2 ci2 fi2 ci3 fi3 zi4 ci4 fi4 ci5 fi5 zi6 ci6 fi6 ci7 fi7 zi8 hwi hsi hb8
  go_wp2_with fail
  refine (nothing_c _).mono ?_
  rintro e w10 ⟨rfl, hb10⟩
  have ck0 : w10.cell? ⟨w.heap.size, 0, none⟩ = some (.int .i64 a) := (hb10.cell (p := ⟨w.heap.size, 0, none⟩) (by go_size)).trans (by go_simp)
  have fk0 : w10.frozen? ⟨w.heap.size, 0, none⟩ = false := (hb10.frozen (p := ⟨w.heap.size, 0, none⟩) (by go_size)).trans (by go_simp)
  have ck1 : w10.cell? ⟨w.heap.size, 1, none⟩ = some (.int .i64 b) := (hb10.cell (p := ⟨w.heap.size, 1, none⟩) (by go_size)).trans (by go_simp)
  have fk1 : w10.frozen? ⟨w.heap.size, 1, none⟩ = false := (hb10.frozen (p := ⟨w.heap.size, 1, none⟩) (by go_size)).trans (by go_simp)
  have zk2 : w.heap.size < w10.heap.size := Nat.lt_of_lt_of_le (by go_size) hb10.size
  have ck2 : w10.cell? ⟨w.heap.size + 1, 0, none⟩ = some (.int .i64 c) := (hb10.cell (p := ⟨w.heap.size + 1, 0, none⟩) (by go_size)).trans (by go_simp)
  have fk2 : w10.frozen? ⟨w.heap.size + 1, 0, none⟩ = false := (hb10.frozen (p := ⟨w.heap.size + 1, 0, none⟩) (by go_size)).trans (by go_simp)
  have ck3 : w10.cell? ⟨w.heap.size + 1, 1, none⟩ = some (.int .i64 d) := (hb10.cell (p := ⟨w.heap.size + 1, 1, none⟩) (by go_size)).trans (by go_simp)
  have fk3 : w10.frozen? ⟨w.heap.size + 1, 1, none⟩ = false := (hb10.frozen (p := ⟨w.heap.size + 1, 1, none⟩) (by go_size)).trans (by go_simp)
  have zk4 : w.heap.size + 1 < w10.heap.size := Nat.lt_of_lt_of_le (by go_size) hb10.size
  have ck4 : w10.cell? ⟨g4, 0, none⟩ = some (.int .i64 a) := (hb10.cell (p := ⟨g4, 0, none⟩) (by go_size)).trans (by go_simp)
  have fk4 : w10.frozen? ⟨g4, 0, none⟩ = false := (hb10.frozen (p := ⟨g4, 0, none⟩) (by go_size)).trans (by go_simp)
  have ck5 : w10.cell? ⟨g4, 1, none⟩ = some (.int .i64 b) := (hb10.cell (p := ⟨g4, 1, none⟩) (by go_size)).trans (by go_simp)
  have fk5 : w10.frozen? ⟨g4, 1, none⟩ = false := (hb10.frozen (p := ⟨g4, 1, none⟩) (by go_size)).trans (by go_simp)
  have zk6 : g4 < w10.heap.size := Nat.lt_of_lt_of_le (by go_size) hb10.size
  have ck6 : w10.cell? ⟨g5, 0, none⟩ = some (.int .i64 c) := (hb10.cell (p := ⟨g5, 0, none⟩) (by go_size)).trans (by go_simp)
  have fk6 : w10.frozen? ⟨g5, 0, none⟩ = false := (hb10.frozen (p := ⟨g5, 0, none⟩) (by go_size)).trans (by go_simp)
  have ck7 : w10.cell? ⟨g5, 1, none⟩ = some (.int .i64 d) := (hb10.cell (p := ⟨g5, 1, none⟩) (by go_size)).trans (by go_simp)
  have fk7 : w10.frozen? ⟨g5, 1, none⟩ = false := (hb10.frozen (p := ⟨g5, 1, none⟩) (by go_size)).trans (by go_simp)
  have zk8 : g5 < w10.heap.size := Nat.lt_of_lt_of_le (by go_size) hb10.size
  have hwk : Below w.heap.size w w10 := Below.trans (by (repeat' (first | (with_reducible exact Below.refl _ _) | (with_reducible assumption) | (with_reducible refine Below.alloc ?_ ?_ _) | (with_reducible refine Below.drew ?_) | (with_reducible refine below_drewN ?_ _) | (with_reducible refine Below.setCell ?_ ?_ _) | go_size))) (hb10.mono (by go_size))
  have hsk : w.heap.size ≤ w10.heap.size := hwk.size
  clear cj0 fj0 cj1 fj1 zj2 cj2 fj2 cj3 fj3 zj4 cj4 fj4 cj5 fj5 zj6 cj6 fj6 cj7 fj7 zj8 hwj hsj hb9
  go_wp2_with fail
  refine (like_c _ _ _ _ _).mono ?_
  rintro e w11 ⟨rfl, hb11⟩
  have cl0 : w11.cell? ⟨w.heap.size, 0, none⟩ = some (.int .i64 a) := (hb11.cell (p := ⟨w.heap.size, 0, none⟩) (by go_size)).trans (by go_simp)
  have fl0 : w11.frozen? ⟨w.heap.size, 0, none⟩ = false := (hb11.frozen (p := ⟨w.heap.size, 0, none⟩) (by go_size)).trans (by go_simp)
  have cl1 : w11.cell? ⟨w.heap.size, 1, none⟩ = some (.int .i64 b) := (hb11.cell (p := ⟨w.heap.size, 1, none⟩) (by go_size)).trans (by go_simp)
  have fl1 : w11.frozen? ⟨w.heap.size, 1, none⟩ = false := (hb11.frozen (p := ⟨w.heap.size, 1, none⟩) (by go_size)).trans (by go_simp)
  have zl2 : w.heap.size < w11.heap.size := Nat.lt_of_lt_of_le (by go_size) hb11.size
  have cl2 : w11.cell? ⟨w.heap.size + 1, 0, none⟩ = some (.int .i64 c) := (hb11.cell (p := ⟨w.heap.size + 1, 0, none⟩) (by go_size)).trans (by go_simp)
  have fl2 : w11.frozen? ⟨w.heap.size + 1, 0, none⟩ = false := (hb11.frozen (p := ⟨w.heap.size + 1, 0, none⟩) (by go_size)).trans (by go_simp)
  have cl3 : w11.cell? ⟨w.heap.size + 1, 1, none⟩ = some (.int .i64 d) := (hb11.cell (p := ⟨w.heap.size + 1, 1, none⟩) (by go_size)).trans (by go_simp)
  have fl3 : w11.frozen? ⟨w.heap.size + 1, 1, none⟩ = false := (hb11.frozen (p := ⟨w.heap.size + 1, 1, none⟩) (by go_size)).trans (by go_simp)
  have zl4 : w.heap.size + 1 < w11.heap.size := Nat.lt_of_lt_of_le (by go_size) hb11.size
  have cl4 : w11.cell? ⟨g4, 0, none⟩ = some (.int .i64 a) := (hb11.cell (p := ⟨g4, 0, none⟩) (by go_size)).trans (by go_simp)
  have fl4 : w11.frozen? ⟨g4, 0, none⟩ = false := (hb11.frozen (p := ⟨g4, 0, none⟩) (by go_size)).trans (by go_simp)
  have cl5 : w11.cell? ⟨g4, 1, none⟩ = some (.int .i64 b) := (hb11.cell (p := ⟨g4, 1, none⟩) (by go_size)).trans (by go_simp)
  have fl5 : w11.frozen? ⟨g4, 1, none⟩ = false := (hb11.frozen (p := ⟨g4, 1, none⟩) (by go_size)).trans (by go_simp)
  have zl6 : g4 < w11.heap.size := Nat.lt_of_lt_of_le (by go_size) hb11.size
  have cl6 : w11.cell? ⟨g5, 0, none⟩ = some (.int .i64 c) := (hb11.cell (p := ⟨g5, 0, none⟩) (by go_size)).trans (by go_simp)
  have fl6 : w11.frozen? ⟨g5, 0, none⟩ = false := (hb11.frozen (p := ⟨g5, 0, none⟩) (by go_size)).trans (by go_simp)
  have cl7 : w11.cell? ⟨g5, 1, none⟩ = some (.int .i64 d) := (hb11.cell (p := ⟨g5, 1, none⟩) (by go_size)).trans (by go_simp)
  have fl7 : w11.frozen? ⟨g5, 1, none⟩ = false := (hb11.frozen (p := ⟨g5, 1, none⟩) (by go_size)).trans (by go_simp)
  have zl8 : g5 < w11.heap.size := Nat.lt_of_lt_of_le (by go_size) hb11.size
  have hwl : Below w.heap.size w w11 := Below.trans (by (repeat' (first | (with_reducible exact Below.refl _ _) | (with_reducible assumption) | (with_reducible refine Below.alloc ?_ ?_ _) | (with_reducible refine Below.drew ?_) | (with_reducible refine below_drewN ?_ _) | (with_reducible refine Below.setCell ?_ ?_ _) | go_size))) (hb11.mono (by go_size))
  have hsl : w.heap.size ≤ w11.heap.size := hwl.size
  clear ck0 fk0 ck1 fk1 zk2 ck2 fk2 ck3 fk3 zk4 ck4 fk4 ck5 fk5 zk6 ck6 fk6 ck7 fk7 zk8 hwk hsk hb10
  go_wp2_with fail
  refine (awake_c _).mono ?_
  rintro e w12 ⟨rfl, hb12⟩
  have cm0 : w12.cell? ⟨w.heap.size, 0, none⟩ = some (.int .i64 a) := (hb12.cell (p := ⟨w.heap.size, 0, none⟩) (by go_size)).trans (by go_simp)
  have fm0 : w12.frozen? ⟨w.heap.size, 0, none⟩ = false := (hb12.frozen (p := ⟨w.heap.size, 0, none⟩) (by go_size)).trans (by go_simp)
  have cm1 : w12.cell? ⟨w.heap.size, 1, none⟩ = some (.int .i64 b) := (hb12.cell (p := ⟨w.heap.size, 1, none⟩) (by go_size)).trans (by go_simp)
  have fm1 : w12.frozen? ⟨w.heap.size, 1, none⟩ = false := (hb12.frozen (p := ⟨w.heap.size, 1, none⟩) (by go_size)).trans (by go_simp)
  have zm2 : w.heap.size < w12.heap.size := Nat.lt_of_lt_of_le (by go_size) hb12.size
  have cm2 : w12.cell? ⟨w.heap.size + 1, 0, none⟩ = some (.int .i64 c) := (hb12.cell (p := ⟨w.heap.size + 1, 0, none⟩) (by go_size)).trans (by go_simp)
  have fm2 : w12.frozen? ⟨w.heap.size + 1, 0, none⟩ = false := (hb12.frozen (p := ⟨w.heap.size + 1, 0, none⟩) (by go_size)).trans (by go_simp)
  have cm3 : w12.cell? ⟨w.heap.size + 1, 1, none⟩ = some (.int .i64 d) := (hb12.cell (p := ⟨w.heap.size + 1, 1, none⟩) (by go_size)).trans (by go_simp)
  have fm3 : w12.frozen? ⟨w.heap.size + 1, 1, none⟩ = false := (hb12.frozen (p := ⟨w.heap.size + 1, 1, none⟩) (by go_size)).trans (by go_simp)
  have zm4 : w.heap.size + 1 < w12.heap.size := Nat.lt_of_lt_of_le (by go_size) hb12.size
  have cm4 : w12.cell? ⟨g4, 0, none⟩ = some (.int .i64 a) := (hb12.cell (p := ⟨g4, 0, none⟩) (by go_size)).trans (by go_simp)
  have fm4 : w12.frozen? ⟨g4, 0, none⟩ = false := (hb12.frozen (p := ⟨g4, 0, none⟩) (by go_size)).trans (by go_simp)
  have cm5 : w12.cell? ⟨g4, 1, none⟩ = some (.int .i64 b) := (hb12.cell (p := ⟨g4, 1, none⟩) (by go_size)).trans (by go_simp)
  have fm5 : w12.frozen? ⟨g4, 1, none⟩ = false := (hb12.frozen (p := ⟨g4, 1, none⟩) (by go_size)).trans (by go_simp)
  have zm6 : g4 < w12.heap.size := Nat.lt_of_lt_of_le (by go_size) hb12.size
  have cm6 : w12.cell? ⟨g5, 0, none⟩ = some (.int .i64 c) := (hb12.cell (p := ⟨g5, 0, none⟩) (by go_size)).trans (by go_simp)
  have fm6 : w12.frozen? ⟨g5, 0, none⟩ = false := (hb12.frozen (p := ⟨g5, 0, none⟩) (by go_size)).trans (by go_simp)
  have cm7 : w12.cell? ⟨g5, 1, none⟩ = some (.int .i64 d) := (hb12.cell (p := ⟨g5, 1, none⟩) (by go_size)).trans (by go_simp)
  have fm7 : w12.frozen? ⟨g5, 1, none⟩ = false := (hb12.frozen (p := ⟨g5, 1, none⟩) (by go_size)).trans (by go_simp)
  have zm8 : g5 < w12.heap.size := Nat.lt_of_lt_of_le (by go_size) hb12.size
  have hwm : Below w.heap.size w w12 := Below.trans (by (repeat' (first | (with_reducible exact Below.refl _ _) | (with_reducible assumption) | (with_reducible refine Below.alloc ?_ ?_ _) | (with_reducible refine Below.drew ?_) | (with_reducible refine below_drewN ?_ _) | (with_reducible refine Below.setCell ?_ ?_ _) | go_size))) (hb12.mono (by go_size))
  have hsm : w.heap.size ≤ w12.heap.size := hwm.size
  clear cl0 fl0 cl1 fl1 zl2 cl2 fl2 cl3 fl3 zl4 cl4 fl4 cl5 fl5 zl6 cl6 fl6 cl7 fl7 zl8 hwl hsl hb11
  go_wp2
  go_ret
  exact ⟨rfl, by assumption⟩

end Go.Proofs.Ytgpeekmagckgcaa
