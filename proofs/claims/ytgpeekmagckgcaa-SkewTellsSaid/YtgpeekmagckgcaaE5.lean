/- What is proved here: the walk of SkewTells. Condition: none. -/
import Derived.Test.YtgpeekmagckgcaaE1
namespace Go.Proofs.Ytgpeekmagckgcaa
open Go Go.RowKit
attribute [local go_sem] KW.cell KW.frozen
attribute [local go_sem ↓] eql24 eql23 eql73 neq73

theorem tm_of (n : Int) : (¬ n < -1125899906842624 ∧ ¬ 1125899906842624 < n) → Tm n := fun h => ⟨by omega, by omega⟩
/-- What is known behind k of the five times. -/
def Five (k : Nat) (z t1 t2 t4 t : Int) : Prop := (0 < k → Tm z) ∧ (1 < k → Tm t1) ∧ (2 < k → Tm t2) ∧ (3 < k → Tm t4) ∧ (4 < k → Tm t)
set_option maxRecDepth 100000 in
set_option maxHeartbeats 4000000 in
theorem law10 (k : Bool) (a b z t1 t2 t4 t m : Int) (w : World) :
    Calls Try.prog 10 #[.agg #[.bool k, .int .i64 a, .int .i64 b, .int .i64 z], .int .i64 t1, .int .i64 t2, .int .i64 t4, .int .i64 t, .int .i64 m] w fun e w' => e = .returned (.bool true) ∧ Below w.heap.size w w' := by
  go_enter Try.func10, Try.ntmps10
  go_wp2_with fail
  go_loop [14] (fun i => ∃ n : Nat, i = .int .i64 n ∧ n ≤ 5 ∧ Five n z t1 t2 t4 t) (fun i => 5 - (intOf i).toNat)
  case atStart => exact ⟨0, rfl, by omega, fun h => by omega, fun h => by omega, fun h => by omega, fun h => by omega, fun h => by omega⟩
  case round =>
    obtain ⟨n, rfl, hn, h5⟩ := hrel
    by_cases n0 : n = 0
    · subst n0
      have H5 := Lib.hid h5
      clear h5 hn
      by_cases u1 : z < -1125899906842624
      · go_wp2_with (go_at_call 53; refine (sawake_b (W := w) (by refine Below.alloc (Below.alloc (Below.refl _ _) (Nat.le_refl _) _) ?_ _; simp)).mono ?_; rintro e w1 ⟨rfl, hb1⟩)
        go_ret
        exact ⟨rfl, hb1⟩
      by_cases u2 : 1125899906842624 < z
      · go_wp2_with (go_at_call 53; refine (sawake_b (W := w) (by refine Below.alloc (Below.alloc (Below.refl _ _) (Nat.le_refl _) _) ?_ _; simp)).mono ?_; rintro e w1 ⟨rfl, hb1⟩)
        go_ret
        exact ⟨rfl, hb1⟩
      go_wp2_with fail
      go_round
      case rel => exact ⟨1, rfl, by omega, fun _ => tm_of _ ⟨u1, u2⟩, fun h => by omega, fun h => by omega, fun h => by omega, fun h => by omega⟩
      case measure => simp [intOf]
    by_cases n1 : n = 1
    · subst n1
      have H5 := Lib.hid h5
      clear h5 hn
      by_cases u1 : t1 < -1125899906842624
      · go_wp2_with (go_at_call 53; refine (sawake_b (W := w) (by refine Below.alloc (Below.alloc (Below.refl _ _) (Nat.le_refl _) _) ?_ _; simp)).mono ?_; rintro e w1 ⟨rfl, hb1⟩)
        go_ret
        exact ⟨rfl, hb1⟩
      by_cases u2 : 1125899906842624 < t1
      · go_wp2_with (go_at_call 53; refine (sawake_b (W := w) (by refine Below.alloc (Below.alloc (Below.refl _ _) (Nat.le_refl _) _) ?_ _; simp)).mono ?_; rintro e w1 ⟨rfl, hb1⟩)
        go_ret
        exact ⟨rfl, hb1⟩
      go_wp2_with fail
      go_round
      case rel => exact ⟨2, rfl, by omega, fun _ => (H5.out).1 (by omega), fun _ => tm_of _ ⟨u1, u2⟩, fun h => by omega, fun h => by omega, fun h => by omega⟩
      case measure => simp [intOf]
    by_cases n2 : n = 2
    · subst n2
      have H5 := Lib.hid h5
      clear h5 hn
      by_cases u1 : t2 < -1125899906842624
      · go_wp2_with (go_at_call 53; refine (sawake_b (W := w) (by refine Below.alloc (Below.alloc (Below.refl _ _) (Nat.le_refl _) _) ?_ _; simp)).mono ?_; rintro e w1 ⟨rfl, hb1⟩)
        go_ret
        exact ⟨rfl, hb1⟩
      by_cases u2 : 1125899906842624 < t2
      · go_wp2_with (go_at_call 53; refine (sawake_b (W := w) (by refine Below.alloc (Below.alloc (Below.refl _ _) (Nat.le_refl _) _) ?_ _; simp)).mono ?_; rintro e w1 ⟨rfl, hb1⟩)
        go_ret
        exact ⟨rfl, hb1⟩
      go_wp2_with fail
      go_round
      case rel => exact ⟨3, rfl, by omega, fun _ => (H5.out).1 (by omega), fun _ => (H5.out).2.1 (by omega), fun _ => tm_of _ ⟨u1, u2⟩, fun h => by omega, fun h => by omega⟩
      case measure => simp [intOf]
    by_cases n3 : n = 3
    · subst n3
      have H5 := Lib.hid h5
      clear h5 hn
      by_cases u1 : t4 < -1125899906842624
      · go_wp2_with (go_at_call 53; refine (sawake_b (W := w) (by refine Below.alloc (Below.alloc (Below.refl _ _) (Nat.le_refl _) _) ?_ _; simp)).mono ?_; rintro e w1 ⟨rfl, hb1⟩)
        go_ret
        exact ⟨rfl, hb1⟩
      by_cases u2 : 1125899906842624 < t4
      · go_wp2_with (go_at_call 53; refine (sawake_b (W := w) (by refine Below.alloc (Below.alloc (Below.refl _ _) (Nat.le_refl _) _) ?_ _; simp)).mono ?_; rintro e w1 ⟨rfl, hb1⟩)
        go_ret
        exact ⟨rfl, hb1⟩
      go_wp2_with fail
      go_round
      case rel => exact ⟨4, rfl, by omega, fun _ => (H5.out).1 (by omega), fun _ => (H5.out).2.1 (by omega), fun _ => (H5.out).2.2.1 (by omega), fun _ => tm_of _ ⟨u1, u2⟩, fun h => by omega⟩
      case measure => simp [intOf]
    by_cases n4 : n = 4
    · subst n4
      have H5 := Lib.hid h5
      clear h5 hn
      by_cases u1 : t < -1125899906842624
      · go_wp2_with (go_at_call 53; refine (sawake_b (W := w) (by refine Below.alloc (Below.alloc (Below.refl _ _) (Nat.le_refl _) _) ?_ _; simp)).mono ?_; rintro e w1 ⟨rfl, hb1⟩)
        go_ret
        exact ⟨rfl, hb1⟩
      by_cases u2 : 1125899906842624 < t
      · go_wp2_with (go_at_call 53; refine (sawake_b (W := w) (by refine Below.alloc (Below.alloc (Below.refl _ _) (Nat.le_refl _) _) ?_ _; simp)).mono ?_; rintro e w1 ⟨rfl, hb1⟩)
        go_ret
        exact ⟨rfl, hb1⟩
      go_wp2_with fail
      go_round
      case rel => exact ⟨5, rfl, by omega, fun _ => (H5.out).1 (by omega), fun _ => (H5.out).2.1 (by omega), fun _ => (H5.out).2.2.1 (by omega), fun _ => (H5.out).2.2.2.1 (by omega), fun _ => tm_of _ ⟨u1, u2⟩⟩
      case measure => simp [intOf]
    obtain rfl : n = 5 := by omega
    obtain ⟨T0, T1, T2, T3, T4⟩ := h5
    have Z := T0 (by omega)
    have X1 := T1 (by omega)
    have X2 := T2 (by omega)
    have X4 := T3 (by omega)
    have X := T4 (by omega)
    clear T0 T1 T2 T3 T4 n0 n1 n2 n3 n4 hn
    have HM := Lib.hid (fun w => smeet_c k a b z t1 t2 t4 m w Z)
    have HR := Lib.hid (fun w => rsmeet_c k a b z t1 t2 t4 m w Z)
    have HO := Lib.hid (fun w => on_c k a b z t m w X Z)
    have HP := Lib.hid (fun w => ron_c k a b z t m w X Z)
    have HF := Lib.hid (fun w => fresh_c t1 t2 t4 m w X1 X2 X4)
    have HG := Lib.hid (fun w => rfresh_c t1 t2 t4 m w X1 X2 X4)
    have HA := Lib.hid (fun w => aim_c k a b z t m w Z)
    have HB := Lib.hid (fun w => raim_c k a b z t m w Z)
    clear Z X1 X2 X4 X
    unfold est at HM HR HA HB
    generalize Pl.sm k a b z t1 t2 t4 m = S at *
    obtain ⟨⟨k', a', b', z'⟩, f⟩ := S
    generalize Pl.olo k a b z t m = ol at *
    generalize Pl.ohi k a b z t m = oh at *
    generalize Pl.flo t1 t2 t4 m = fl at *
    generalize Pl.fhi t1 t2 t4 m = fh at *
    generalize Pl.ax k a b z t m = ax at *
    generalize Pl.ay k a b z t m = ay at *
    generalize Pl.aims k t = ok at *
    go_wp2_with fail
    refine (smine_c _ _ _ _ _).mono ?_
    rintro e w1 ⟨rfl, hb1⟩
    have cb0 : w1.cell? ⟨w.heap.size, 0, none⟩ = some (.bool k) := (hb1.cell (p := ⟨w.heap.size, 0, none⟩) (by go_size)).trans (by go_simp)
    have fb0 : w1.frozen? ⟨w.heap.size, 0, none⟩ = false := (hb1.frozen (p := ⟨w.heap.size, 0, none⟩) (by go_size)).trans (by go_simp)
    have cb1 : w1.cell? ⟨w.heap.size, 1, none⟩ = some (.int .i64 a) := (hb1.cell (p := ⟨w.heap.size, 1, none⟩) (by go_size)).trans (by go_simp)
    have fb1 : w1.frozen? ⟨w.heap.size, 1, none⟩ = false := (hb1.frozen (p := ⟨w.heap.size, 1, none⟩) (by go_size)).trans (by go_simp)
    have cb2 : w1.cell? ⟨w.heap.size, 2, none⟩ = some (.int .i64 b) := (hb1.cell (p := ⟨w.heap.size, 2, none⟩) (by go_size)).trans (by go_simp)
    have fb2 : w1.frozen? ⟨w.heap.size, 2, none⟩ = false := (hb1.frozen (p := ⟨w.heap.size, 2, none⟩) (by go_size)).trans (by go_simp)
    have cb3 : w1.cell? ⟨w.heap.size, 3, none⟩ = some (.int .i64 z) := (hb1.cell (p := ⟨w.heap.size, 3, none⟩) (by go_size)).trans (by go_simp)
    have fb3 : w1.frozen? ⟨w.heap.size, 3, none⟩ = false := (hb1.frozen (p := ⟨w.heap.size, 3, none⟩) (by go_size)).trans (by go_simp)
    have zb4 : w.heap.size < w1.heap.size := Nat.lt_of_lt_of_le (by go_size) hb1.size
    have hwb : Below w.heap.size w w1 := Below.trans (by (repeat' (first | (with_reducible exact Below.refl _ _) | (with_reducible assumption) | (with_reducible refine Below.alloc ?_ ?_ _) | (with_reducible refine Below.drew ?_) | (with_reducible refine below_drewN ?_ _) | (with_reducible refine Below.setCell ?_ ?_ _) | go_size))) (hb1.mono (by go_size))
    have hsb : w.heap.size ≤ w1.heap.size := hwb.size
    go_wp2_with fail
    refine (HM.out _).mono ?_
    rintro e w2 ⟨rfl, hb2⟩
    have cc0 : w2.cell? ⟨w.heap.size, 0, none⟩ = some (.bool k) := (hb2.cell (p := ⟨w.heap.size, 0, none⟩) (by go_size)).trans (by go_simp)
    have fc0 : w2.frozen? ⟨w.heap.size, 0, none⟩ = false := (hb2.frozen (p := ⟨w.heap.size, 0, none⟩) (by go_size)).trans (by go_simp)
    have cc1 : w2.cell? ⟨w.heap.size, 1, none⟩ = some (.int .i64 a) := (hb2.cell (p := ⟨w.heap.size, 1, none⟩) (by go_size)).trans (by go_simp)
    have fc1 : w2.frozen? ⟨w.heap.size, 1, none⟩ = false := (hb2.frozen (p := ⟨w.heap.size, 1, none⟩) (by go_size)).trans (by go_simp)
    have cc2 : w2.cell? ⟨w.heap.size, 2, none⟩ = some (.int .i64 b) := (hb2.cell (p := ⟨w.heap.size, 2, none⟩) (by go_size)).trans (by go_simp)
    have fc2 : w2.frozen? ⟨w.heap.size, 2, none⟩ = false := (hb2.frozen (p := ⟨w.heap.size, 2, none⟩) (by go_size)).trans (by go_simp)
    have cc3 : w2.cell? ⟨w.heap.size, 3, none⟩ = some (.int .i64 z) := (hb2.cell (p := ⟨w.heap.size, 3, none⟩) (by go_size)).trans (by go_simp)
    have fc3 : w2.frozen? ⟨w.heap.size, 3, none⟩ = false := (hb2.frozen (p := ⟨w.heap.size, 3, none⟩) (by go_size)).trans (by go_simp)
    have zc4 : w.heap.size < w2.heap.size := Nat.lt_of_lt_of_le (by go_size) hb2.size
    have hwc : Below w.heap.size w w2 := Below.trans (by (repeat' (first | (with_reducible exact Below.refl _ _) | (with_reducible assumption) | (with_reducible refine Below.alloc ?_ ?_ _) | (with_reducible refine Below.drew ?_) | (with_reducible refine below_drewN ?_ _) | (with_reducible refine Below.setCell ?_ ?_ _) | go_size))) (hb2.mono (by go_size))
    have hsc : w.heap.size ≤ w2.heap.size := hwc.size
    clear cb0 fb0 cb1 fb1 cb2 fb2 cb3 fb3 zb4 hwb hsb hb1
    have nA : w.heap.size < w2.heap.size := by assumption
    have dA : ¬ w2.heap.size = w.heap.size := by omega
    have eA : ¬ w.heap.size = w2.heap.size := by omega
    go_wp2_with fail
    refine (HR.out _).mono ?_
    rintro e w3 ⟨rfl, hb3⟩
    have cd0 : w3.cell? ⟨w.heap.size, 0, none⟩ = some (.bool k) := (hb3.cell (p := ⟨w.heap.size, 0, none⟩) (by go_size)).trans (by go_simp)
    have fd0 : w3.frozen? ⟨w.heap.size, 0, none⟩ = false := (hb3.frozen (p := ⟨w.heap.size, 0, none⟩) (by go_size)).trans (by go_simp)
    have cd1 : w3.cell? ⟨w.heap.size, 1, none⟩ = some (.int .i64 a) := (hb3.cell (p := ⟨w.heap.size, 1, none⟩) (by go_size)).trans (by go_simp)
    have fd1 : w3.frozen? ⟨w.heap.size, 1, none⟩ = false := (hb3.frozen (p := ⟨w.heap.size, 1, none⟩) (by go_size)).trans (by go_simp)
    have cd2 : w3.cell? ⟨w.heap.size, 2, none⟩ = some (.int .i64 b) := (hb3.cell (p := ⟨w.heap.size, 2, none⟩) (by go_size)).trans (by go_simp)
    have fd2 : w3.frozen? ⟨w.heap.size, 2, none⟩ = false := (hb3.frozen (p := ⟨w.heap.size, 2, none⟩) (by go_size)).trans (by go_simp)
    have cd3 : w3.cell? ⟨w.heap.size, 3, none⟩ = some (.int .i64 z) := (hb3.cell (p := ⟨w.heap.size, 3, none⟩) (by go_size)).trans (by go_simp)
    have fd3 : w3.frozen? ⟨w.heap.size, 3, none⟩ = false := (hb3.frozen (p := ⟨w.heap.size, 3, none⟩) (by go_size)).trans (by go_simp)
    have zd4 : w.heap.size < w3.heap.size := Nat.lt_of_lt_of_le (by go_size) hb3.size
    have cd4 : w3.cell? ⟨w2.heap.size, 0, none⟩ = some (.bool k') := (hb3.cell (p := ⟨w2.heap.size, 0, none⟩) (by go_size)).trans (by go_simp)
    have fd4 : w3.frozen? ⟨w2.heap.size, 0, none⟩ = false := (hb3.frozen (p := ⟨w2.heap.size, 0, none⟩) (by go_size)).trans (by go_simp)
    have cd5 : w3.cell? ⟨w2.heap.size, 1, none⟩ = some (.int .i64 a') := (hb3.cell (p := ⟨w2.heap.size, 1, none⟩) (by go_size)).trans (by go_simp)
    have fd5 : w3.frozen? ⟨w2.heap.size, 1, none⟩ = false := (hb3.frozen (p := ⟨w2.heap.size, 1, none⟩) (by go_size)).trans (by go_simp)
    have cd6 : w3.cell? ⟨w2.heap.size, 2, none⟩ = some (.int .i64 b') := (hb3.cell (p := ⟨w2.heap.size, 2, none⟩) (by go_size)).trans (by go_simp)
    have fd6 : w3.frozen? ⟨w2.heap.size, 2, none⟩ = false := (hb3.frozen (p := ⟨w2.heap.size, 2, none⟩) (by go_size)).trans (by go_simp)
    have cd7 : w3.cell? ⟨w2.heap.size, 3, none⟩ = some (.int .i64 z') := (hb3.cell (p := ⟨w2.heap.size, 3, none⟩) (by go_size)).trans (by go_simp)
    have fd7 : w3.frozen? ⟨w2.heap.size, 3, none⟩ = false := (hb3.frozen (p := ⟨w2.heap.size, 3, none⟩) (by go_size)).trans (by go_simp)
    have zd8 : w2.heap.size < w3.heap.size := Nat.lt_of_lt_of_le (by go_size) hb3.size
    have hwd : Below w.heap.size w w3 := Below.trans (by (repeat' (first | (with_reducible exact Below.refl _ _) | (with_reducible assumption) | (with_reducible refine Below.alloc ?_ ?_ _) | (with_reducible refine Below.drew ?_) | (with_reducible refine below_drewN ?_ _) | (with_reducible refine Below.setCell ?_ ?_ _) | go_size))) (hb3.mono (by go_size))
    have hsd : w.heap.size ≤ w3.heap.size := hwd.size
    clear cc0 fc0 cc1 fc1 cc2 fc2 cc3 fc3 zc4 hwc hsc hb2
    have nB : w2.heap.size < w3.heap.size := by assumption
    have nB2 : w.heap.size < w3.heap.size := by assumption
    have dB : ¬ w3.heap.size = w.heap.size := by omega
    have eB : ¬ w.heap.size = w3.heap.size := by omega
    have dC : ¬ w3.heap.size = w2.heap.size := by omega
    have eC : ¬ w2.heap.size = w3.heap.size := by omega
    go_wp2_with fail
    refine wp_region_kq (by kernel_rfl) (by kernel_rfl) ?_
    repeat (first | go_big_quiet_step ((first | (go_at_call 55; exact KW.call (smine_c _ _ _ _ _)) | (go_at_call 58; exact KW.call (HO.out _)) | (go_at_call 59; exact KW.call (HP.out _)) | (go_at_call 57; exact KW.call (slike_c _ _ _ _ _)) | (go_at_call 60; exact KW.call (HF.out _)) | (go_at_call 61; exact KW.call (HG.out _)))) | quiet_step ((first | (go_at_call 55; exact KW.call (smine_c _ _ _ _ _)) | (go_at_call 58; exact KW.call (HO.out _)) | (go_at_call 59; exact KW.call (HP.out _)) | (go_at_call 57; exact KW.call (slike_c _ _ _ _ _)) | (go_at_call 60; exact KW.call (HF.out _)) | (go_at_call 61; exact KW.call (HG.out _)))))
    refine wpQuiet_nil ?_
    intro k4
    have ce0 : k4.val.cell? ⟨w.heap.size, 0, none⟩ = some (.bool k) := (k4.kp.cell (p := ⟨w.heap.size, 0, none⟩) (by go_size)).trans (by go_simp)
    have fe0 : k4.val.frozen? ⟨w.heap.size, 0, none⟩ = false := (k4.kp.frozen (p := ⟨w.heap.size, 0, none⟩) (by go_size)).trans (by go_simp)
    have ce1 : k4.val.cell? ⟨w.heap.size, 1, none⟩ = some (.int .i64 a) := (k4.kp.cell (p := ⟨w.heap.size, 1, none⟩) (by go_size)).trans (by go_simp)
    have fe1 : k4.val.frozen? ⟨w.heap.size, 1, none⟩ = false := (k4.kp.frozen (p := ⟨w.heap.size, 1, none⟩) (by go_size)).trans (by go_simp)
    have ce2 : k4.val.cell? ⟨w.heap.size, 2, none⟩ = some (.int .i64 b) := (k4.kp.cell (p := ⟨w.heap.size, 2, none⟩) (by go_size)).trans (by go_simp)
    have fe2 : k4.val.frozen? ⟨w.heap.size, 2, none⟩ = false := (k4.kp.frozen (p := ⟨w.heap.size, 2, none⟩) (by go_size)).trans (by go_simp)
    have ce3 : k4.val.cell? ⟨w.heap.size, 3, none⟩ = some (.int .i64 z) := (k4.kp.cell (p := ⟨w.heap.size, 3, none⟩) (by go_size)).trans (by go_simp)
    have fe3 : k4.val.frozen? ⟨w.heap.size, 3, none⟩ = false := (k4.kp.frozen (p := ⟨w.heap.size, 3, none⟩) (by go_size)).trans (by go_simp)
    have ze4 : w.heap.size < k4.val.heap.size := Nat.lt_of_lt_of_le (by go_size) k4.kp.size
    have ce4 : k4.val.cell? ⟨w2.heap.size, 0, none⟩ = some (.bool k') := (k4.kp.cell (p := ⟨w2.heap.size, 0, none⟩) (by go_size)).trans (by go_simp)
    have fe4 : k4.val.frozen? ⟨w2.heap.size, 0, none⟩ = false := (k4.kp.frozen (p := ⟨w2.heap.size, 0, none⟩) (by go_size)).trans (by go_simp)
    have ce5 : k4.val.cell? ⟨w2.heap.size, 1, none⟩ = some (.int .i64 a') := (k4.kp.cell (p := ⟨w2.heap.size, 1, none⟩) (by go_size)).trans (by go_simp)
    have fe5 : k4.val.frozen? ⟨w2.heap.size, 1, none⟩ = false := (k4.kp.frozen (p := ⟨w2.heap.size, 1, none⟩) (by go_size)).trans (by go_simp)
    have ce6 : k4.val.cell? ⟨w2.heap.size, 2, none⟩ = some (.int .i64 b') := (k4.kp.cell (p := ⟨w2.heap.size, 2, none⟩) (by go_size)).trans (by go_simp)
    have fe6 : k4.val.frozen? ⟨w2.heap.size, 2, none⟩ = false := (k4.kp.frozen (p := ⟨w2.heap.size, 2, none⟩) (by go_size)).trans (by go_simp)
    have ce7 : k4.val.cell? ⟨w2.heap.size, 3, none⟩ = some (.int .i64 z') := (k4.kp.cell (p := ⟨w2.heap.size, 3, none⟩) (by go_size)).trans (by go_simp)
    have fe7 : k4.val.frozen? ⟨w2.heap.size, 3, none⟩ = false := (k4.kp.frozen (p := ⟨w2.heap.size, 3, none⟩) (by go_size)).trans (by go_simp)
    have ze8 : w2.heap.size < k4.val.heap.size := Nat.lt_of_lt_of_le (by go_size) k4.kp.size
    have ce8 : k4.val.cell? ⟨w3.heap.size, 0, none⟩ = some (.bool k') := (k4.kp.cell (p := ⟨w3.heap.size, 0, none⟩) (by go_size)).trans (by go_simp)
    have fe8 : k4.val.frozen? ⟨w3.heap.size, 0, none⟩ = false := (k4.kp.frozen (p := ⟨w3.heap.size, 0, none⟩) (by go_size)).trans (by go_simp)
    have ce9 : k4.val.cell? ⟨w3.heap.size, 1, none⟩ = some (.int .i64 a') := (k4.kp.cell (p := ⟨w3.heap.size, 1, none⟩) (by go_size)).trans (by go_simp)
    have fe9 : k4.val.frozen? ⟨w3.heap.size, 1, none⟩ = false := (k4.kp.frozen (p := ⟨w3.heap.size, 1, none⟩) (by go_size)).trans (by go_simp)
    have ce10 : k4.val.cell? ⟨w3.heap.size, 2, none⟩ = some (.int .i64 b') := (k4.kp.cell (p := ⟨w3.heap.size, 2, none⟩) (by go_size)).trans (by go_simp)
    have fe10 : k4.val.frozen? ⟨w3.heap.size, 2, none⟩ = false := (k4.kp.frozen (p := ⟨w3.heap.size, 2, none⟩) (by go_size)).trans (by go_simp)
    have ce11 : k4.val.cell? ⟨w3.heap.size, 3, none⟩ = some (.int .i64 z') := (k4.kp.cell (p := ⟨w3.heap.size, 3, none⟩) (by go_size)).trans (by go_simp)
    have fe11 : k4.val.frozen? ⟨w3.heap.size, 3, none⟩ = false := (k4.kp.frozen (p := ⟨w3.heap.size, 3, none⟩) (by go_size)).trans (by go_simp)
    have ze12 : w3.heap.size < k4.val.heap.size := Nat.lt_of_lt_of_le (by go_size) k4.kp.size
    have hwe : Below w.heap.size w k4.val := Below.trans (by (repeat' (first | (with_reducible exact Below.refl _ _) | (with_reducible assumption) | (with_reducible refine Below.alloc ?_ ?_ _) | (with_reducible refine Below.drew ?_) | (with_reducible refine below_drewN ?_ _) | (with_reducible refine Below.setCell ?_ ?_ _) | go_size))) (k4.kp.mono (by go_size))
    have hse : w.heap.size ≤ k4.val.heap.size := hwe.size
    clear cd0 fd0 cd1 fd1 cd2 fd2 cd3 fd3 zd4 cd4 fd4 cd5 fd5 cd6 fd6 cd7 fd7 zd8 hwd hsd hb3
    go_wp2_with fail
    refine (smine_c _ _ _ _ _).mono ?_
    rintro e w5 ⟨rfl, hb5⟩
    have cf0 : w5.cell? ⟨w.heap.size, 0, none⟩ = some (.bool k) := (hb5.cell (p := ⟨w.heap.size, 0, none⟩) (by go_size)).trans (by go_simp)
    have ff0 : w5.frozen? ⟨w.heap.size, 0, none⟩ = false := (hb5.frozen (p := ⟨w.heap.size, 0, none⟩) (by go_size)).trans (by go_simp)
    have cf1 : w5.cell? ⟨w.heap.size, 1, none⟩ = some (.int .i64 a) := (hb5.cell (p := ⟨w.heap.size, 1, none⟩) (by go_size)).trans (by go_simp)
    have ff1 : w5.frozen? ⟨w.heap.size, 1, none⟩ = false := (hb5.frozen (p := ⟨w.heap.size, 1, none⟩) (by go_size)).trans (by go_simp)
    have cf2 : w5.cell? ⟨w.heap.size, 2, none⟩ = some (.int .i64 b) := (hb5.cell (p := ⟨w.heap.size, 2, none⟩) (by go_size)).trans (by go_simp)
    have ff2 : w5.frozen? ⟨w.heap.size, 2, none⟩ = false := (hb5.frozen (p := ⟨w.heap.size, 2, none⟩) (by go_size)).trans (by go_simp)
    have cf3 : w5.cell? ⟨w.heap.size, 3, none⟩ = some (.int .i64 z) := (hb5.cell (p := ⟨w.heap.size, 3, none⟩) (by go_size)).trans (by go_simp)
    have ff3 : w5.frozen? ⟨w.heap.size, 3, none⟩ = false := (hb5.frozen (p := ⟨w.heap.size, 3, none⟩) (by go_size)).trans (by go_simp)
    have zf4 : w.heap.size < w5.heap.size := Nat.lt_of_lt_of_le (by go_size) hb5.size
    have hwf : Below w.heap.size w w5 := Below.trans (by (repeat' (first | (with_reducible exact Below.refl _ _) | (with_reducible assumption) | (with_reducible refine Below.alloc ?_ ?_ _) | (with_reducible refine Below.drew ?_) | (with_reducible refine below_drewN ?_ _) | (with_reducible refine Below.setCell ?_ ?_ _) | go_size))) (hb5.mono (by go_size))
    have hsf : w.heap.size ≤ w5.heap.size := hwf.size
    clear ce0 fe0 ce1 fe1 ce2 fe2 ce3 fe3 ze4 ce4 fe4 ce5 fe5 ce6 fe6 ce7 fe7 ze8 ce8 fe8 ce9 fe9 ce10 fe10 ce11 fe11 ze12 hwe hse
    go_wp2_with fail
    refine (HA.out _).mono ?_
    rintro e w6 ⟨rfl, hb6⟩
    have cg0 : w6.cell? ⟨w.heap.size, 0, none⟩ = some (.bool k) := (hb6.cell (p := ⟨w.heap.size, 0, none⟩) (by go_size)).trans (by go_simp)
    have fg0 : w6.frozen? ⟨w.heap.size, 0, none⟩ = false := (hb6.frozen (p := ⟨w.heap.size, 0, none⟩) (by go_size)).trans (by go_simp)
    have cg1 : w6.cell? ⟨w.heap.size, 1, none⟩ = some (.int .i64 a) := (hb6.cell (p := ⟨w.heap.size, 1, none⟩) (by go_size)).trans (by go_simp)
    have fg1 : w6.frozen? ⟨w.heap.size, 1, none⟩ = false := (hb6.frozen (p := ⟨w.heap.size, 1, none⟩) (by go_size)).trans (by go_simp)
    have cg2 : w6.cell? ⟨w.heap.size, 2, none⟩ = some (.int .i64 b) := (hb6.cell (p := ⟨w.heap.size, 2, none⟩) (by go_size)).trans (by go_simp)
    have fg2 : w6.frozen? ⟨w.heap.size, 2, none⟩ = false := (hb6.frozen (p := ⟨w.heap.size, 2, none⟩) (by go_size)).trans (by go_simp)
    have cg3 : w6.cell? ⟨w.heap.size, 3, none⟩ = some (.int .i64 z) := (hb6.cell (p := ⟨w.heap.size, 3, none⟩) (by go_size)).trans (by go_simp)
    have fg3 : w6.frozen? ⟨w.heap.size, 3, none⟩ = false := (hb6.frozen (p := ⟨w.heap.size, 3, none⟩) (by go_size)).trans (by go_simp)
    have zg4 : w.heap.size < w6.heap.size := Nat.lt_of_lt_of_le (by go_size) hb6.size
    have hwg : Below w.heap.size w w6 := Below.trans (by (repeat' (first | (with_reducible exact Below.refl _ _) | (with_reducible assumption) | (with_reducible refine Below.alloc ?_ ?_ _) | (with_reducible refine Below.drew ?_) | (with_reducible refine below_drewN ?_ _) | (with_reducible refine Below.setCell ?_ ?_ _) | go_size))) (hb6.mono (by go_size))
    have hsg : w.heap.size ≤ w6.heap.size := hwg.size
    clear cf0 ff0 cf1 ff1 cf2 ff2 cf3 ff3 zf4 hwf hsf hb5
    go_wp2_with fail
    refine (HB.out _).mono ?_
    rintro e w7 ⟨rfl, hb7⟩
    have ch0 : w7.cell? ⟨w.heap.size, 0, none⟩ = some (.bool k) := (hb7.cell (p := ⟨w.heap.size, 0, none⟩) (by go_size)).trans (by go_simp)
    have fh0 : w7.frozen? ⟨w.heap.size, 0, none⟩ = false := (hb7.frozen (p := ⟨w.heap.size, 0, none⟩) (by go_size)).trans (by go_simp)
    have ch1 : w7.cell? ⟨w.heap.size, 1, none⟩ = some (.int .i64 a) := (hb7.cell (p := ⟨w.heap.size, 1, none⟩) (by go_size)).trans (by go_simp)
    have fh1 : w7.frozen? ⟨w.heap.size, 1, none⟩ = false := (hb7.frozen (p := ⟨w.heap.size, 1, none⟩) (by go_size)).trans (by go_simp)
    have ch2 : w7.cell? ⟨w.heap.size, 2, none⟩ = some (.int .i64 b) := (hb7.cell (p := ⟨w.heap.size, 2, none⟩) (by go_size)).trans (by go_simp)
    have fh2 : w7.frozen? ⟨w.heap.size, 2, none⟩ = false := (hb7.frozen (p := ⟨w.heap.size, 2, none⟩) (by go_size)).trans (by go_simp)
    have ch3 : w7.cell? ⟨w.heap.size, 3, none⟩ = some (.int .i64 z) := (hb7.cell (p := ⟨w.heap.size, 3, none⟩) (by go_size)).trans (by go_simp)
    have fh3 : w7.frozen? ⟨w.heap.size, 3, none⟩ = false := (hb7.frozen (p := ⟨w.heap.size, 3, none⟩) (by go_size)).trans (by go_simp)
    have zh4 : w.heap.size < w7.heap.size := Nat.lt_of_lt_of_le (by go_size) hb7.size
    have hwh : Below w.heap.size w w7 := Below.trans (by (repeat' (first | (with_reducible exact Below.refl _ _) | (with_reducible assumption) | (with_reducible refine Below.alloc ?_ ?_ _) | (with_reducible refine Below.drew ?_) | (with_reducible refine below_drewN ?_ _) | (with_reducible refine Below.setCell ?_ ?_ _) | go_size))) (hb7.mono (by go_size))
    have hsh : w.heap.size ≤ w7.heap.size := hwh.size
    clear cg0 fg0 cg1 fg1 cg2 fg2 cg3 fg3 zg4 hwg hsg hb6
    go_wp2_with fail
    go_wp2_with (first | (go_at_call 64; refine (miss_c _ _).mono ?_; rintro e w' ⟨rfl, rfl⟩) | (go_at_call 65; refine (rmiss_c _ _).mono ?_; rintro e w' ⟨rfl, rfl⟩) | (go_at_call 53; refine (sawake_b (by assumption)).mono ?_; rintro e wz ⟨rfl, hbz⟩))
    go_ret
    exact ⟨rfl, hbz⟩
end Go.Proofs.Ytgpeekmagckgcaa
