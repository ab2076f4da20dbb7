/- What is proved here: the walk of SkewAims. Condition: none. -/
import Derived.Test.YtgpeekmagckgcaaPa
import Derived.Test.YtgpeekmagckgcaaH2
import Derived.Test.YtgpeekmagckgcaaK9
namespace Go.Proofs.Ytgpeekmagckgcaa
open Go Go.RowKit
attribute [local go_sem] KW.cell KW.frozen
attribute [local go_sem ↓] eql24 eql23 Go.wp_at_zero Go.wp_at_succ

set_option maxRecDepth 100000 in
set_option maxHeartbeats 1000000 in
theorem law12_no (start m : Int) (v2 : Value) (ah : Int) (v4 : Value) (W : World) (hn : Pl.newB [start] m = false) :
    Calls Try.prog 12 #[.int .i64 start, .int .i64 m, v2, .int .i64 ah, v4] W fun e W' => e = .returned (.bool true) ∧ Below W.heap.size W W' := by
  have H := Lib.hid (played_no start m v2 W hn)
  unfold ec at H
  clear hn
  go_enter Try.func12, Try.ntmps12
  go_wp2_with fail
  refine H.out.mono ?_
  rintro e w1 ⟨rfl, hb⟩
  have hb2 := hb.alloc hb.size (.cells #[.bool false, .int .i64 0, .int .i64 0, .int .i64 0] 73)
  clear hb
  go_wp2_with (go_at_call 53; refine (sawake_b (by assumption)).mono ?_; rintro e w2 ⟨rfl, hb3⟩)
  go_ret
  exact ⟨rfl, hb3⟩

theorem getD_lt (rs : List Int) (n : Nat) (h : rs.length ≠ 0) : n % rs.length < rs.length := Nat.mod_lt _ (by omega)
theorem aim_k (a b z t m : Int) (h0 : 0 ≤ t) (h1 : t ≤ 1099511627776) (hz : z ≤ t) (hz0 : 0 ≤ z) (w : World) :
    Calls Try.prog 62 #[est (true, a, b, z), .int .i64 t, .int .i64 m] w fun e w' => e = .returned (.tuple #[.int .i64 (t + Pl.mid (Pl.wlo a b (Pl.drift (t - z) m)) (Pl.whi a b (Pl.drift (t - z) m))), .int .i64 (Pl.half (Pl.wlo a b (Pl.drift (t - z) m)) (Pl.whi a b (Pl.drift (t - z) m))), .bool true]) ∧ Below w.heap.size w w' := by
  have h : Pl.aims true t = true := by unfold Pl.aims; simp; omega
  have e0 : Pl.ap t z = t - z := by unfold Pl.ap; omega
  have := aim_c true a b z t m w ⟨by omega, by omega⟩
  rw [h] at this
  simpa [Pl.ax, Pl.ay, h, Pl.olo, Pl.ohi, e0] using this

set_option maxRecDepth 100000 in
set_option maxHeartbeats 4000000 in
theorem law12_yes (start m : Int) (ao : Option Addr) (c : Nat) (ds : List (Int × Int × Int)) (ah : Int) (ro : Option Addr) (rc : Nat) (rs : List Int) (w : World) (h2 : RdD (.slice ao ds.length c) ds w) (hlen : ds.length ≤ 9223372036854775807) (h4 : RdI (.slice ro rs.length rc) rs w) (hn : Pl.newB [start] m = true) :
    Calls Try.prog 12 #[.int .i64 start, .int .i64 m, .slice ao ds.length c, .int .i64 ah, .slice ro rs.length rc] w fun e w' => e = .returned (.bool true) ∧ Below w.heap.size w w' := by
  have HPL := Lib.hid (played_yes start m ao c ds w h2 hlen hn)
  have H4 := Lib.hid h4
  unfold ec at HPL
  clear hn h2 h4
  go_enter Try.func12, Try.ntmps12
  go_wp2_with fail
  refine HPL.out.mono ?_
  rintro e w1 ⟨p, g, cap, real, l, k, a, b, z, rfl, hc, hl, hH⟩
  clear HPL
  have ok := hc.ok
  cases k with
  | false =>
    have hb1 := hc.bl
    have hb2 := hb1.alloc hb1.size (.cells #[.bool false, .int .i64 a, .int .i64 b, .int .i64 z] 73)
    go_wp2_with (go_at_call 53; refine (sawake_b (by assumption)).mono ?_; rintro e w2 ⟨rfl, hb3⟩)
    go_ret
    exact ⟨rfl, hb3⟩
  | true =>
    have hc1 : CW w (w1.alloc (.cells #[.bool true, .int .i64 a, .int .i64 b, .int .i64 z] 73)) p g cap real m l := hc.kept ((Below.refl _ _).alloc (Nat.le_refl _) _)
    by_cases g0 : ah < 0
    · have hb2 := hc1.bl
      go_wp2_with (go_at_call 53; refine (sawake_b (by assumption)).mono ?_; rintro e wz ⟨rfl, hbz⟩)
      go_ret
      exact ⟨rfl, hbz⟩
    by_cases g1 : 400 < ah
    · have hb2 := hc1.bl
      go_wp2_with (go_at_call 53; refine (sawake_b (by assumption)).mono ?_; rintro e wz ⟨rfl, hbz⟩)
      go_ret
      exact ⟨rfl, hbz⟩
    by_cases g2 : 10 < rs.length
    · have hb2 := hc1.bl
      have g2' : decide ((10 : Int) < (rs.length : Int)) = true := by simp; omega
      go_wp2_with (go_at_call 53; refine (sawake_b (by assumption)).mono ?_; rintro e wz ⟨rfl, hbz⟩)
      go_ret
      exact ⟨rfl, hbz⟩
    have g2' : decide ((10 : Int) < (rs.length : Int)) = false := by simp; omega
    by_cases g3 : 549755813888 < real
    · have hb2 := hc1.bl
      go_wp2_with (first | (go_at_call 33; refine (real_w (by assumption)).mono ?_; rintro e wq ⟨rfl, rfl⟩) | (go_at_call 53; refine (sawake_b (by assumption)).mono ?_; rintro e wz ⟨rfl, hbz⟩))
      go_ret
      exact ⟨rfl, hbz⟩
    obtain ⟨hh, hz1, hz0⟩ := hH.on ok
    have r0 := ok.r0
    have A0 := Pl.Aims.start hH ok hl (t := real + ah) (by omega)
    have x1 : IntKind.i64.wrap (real + ah) = real + ah := wrap_of (by omega) (by omega)
    have AI := Lib.hid (fun w => aim_k a b z (real + ah) m (by omega) (by omega) (by omega) hz0 w)
    have hf0 : 0 ≤ Pl.half (Pl.wlo a b (Pl.drift (real + ah - z) m)) (Pl.whi a b (Pl.drift (real + ah - z) m)) := by have := (hH.upto ok (t := real + ah) (by omega)); omega
    generalize Pl.mid (Pl.wlo a b (Pl.drift (real + ah - z) m)) (Pl.whi a b (Pl.drift (real + ah - z) m)) = md at *
    generalize Pl.half (Pl.wlo a b (Pl.drift (real + ah - z) m)) (Pl.whi a b (Pl.drift (real + ah - z) m)) = hf at *
    have A1 := Lib.hid A0
    clear A0 hh hH g2
    generalize ht : real + ah = t at *
    go_wp2_with (go_at_call 33; refine (real_w (by assumption)).mono ?_; rintro e wq ⟨rfl, rfl⟩)
    refine (AI.out _).mono ?_
    rintro e w3 ⟨rfl, hb3⟩
    have hc3 := hc1.kept hb3
    clear hb3 AI
    by_cases g5 : 200 < hf
    · have hb2 := hc3.bl
      clear hc hc1
      go_wp2_with (go_at_call 53; refine (sawake_b (by assumption)).mono ?_; rintro e wz ⟨rfl, hbz⟩)
      go_ret
      exact ⟨rfl, hbz⟩
    have em : Pl.miss hf = 2 * hf + 2 := by unfold Pl.miss; omega
    have x2 : IntKind.i64.wrap (t - (2 * hf + 2)) = t - (2 * hf + 2) := wrap_of (by omega) (by omega)
    have x3 : IntKind.i64.wrap (t + (2 * hf + 2)) = t + (2 * hf + 2) := wrap_of (by omega) (by omega)
    have x4 : IntKind.i64.wrap (2 * (2 * hf + 2)) = 2 * (2 * hf + 2) := wrap_of (by omega) (by omega)
    have x5 : IntKind.i64.wrap (400 + 2 * (2 * hf + 2)) = 400 + 2 * (2 * hf + 2) := wrap_of (by omega) (by omega)
    have MI := Lib.hid (fun w => miss_c hf w)
    rw [em] at MI
    clear hc hc1
    by_cases g6 : t + md ≤ Pl.readAt real l 0
    · have e6 : t - (2 * hf + 2) < real := by have := A1.out.early ok g6; omega
      go_wp2_with (first | (go_at_call 64; refine (MI.out _).mono ?_; rintro e wm ⟨rfl, rfl⟩) | (go_at_call 31; refine (read_w _ (by assumption)).mono ?_; rintro e w4 ⟨rfl, hc4⟩; clear hc3; have hb2 := hc4.bl) | (go_at_call 33; refine (real_w (by assumption)).mono ?_; rintro e wq ⟨rfl, rfl⟩) | (go_at_call 53; refine (sawake_b (by assumption)).mono ?_; rintro e wz ⟨rfl, hbz⟩))
      go_ret
      exact ⟨rfl, hbz⟩
    go_wp2_with (first | (go_at_call 64; refine (MI.out _).mono ?_; rintro e wm ⟨rfl, rfl⟩) | (go_at_call 31; refine (read_w _ (by assumption)).mono ?_; rintro e w4 ⟨rfl, hc4⟩; clear hc3))
    go_loopw [19] (fun i wr => ∃ (n : Nat) (R : Int) (L : List Pl.Cl), i = .int .i64 n ∧ Hid (R = real + n) ∧ R ≤ t + 2 * hf ∧ Hid (Pl.Aims R L m a b z t md hf) ∧ CW w wr p g cap R m L) (fun i _ => (ah + 2 * hf).toNat - (intOf i).toNat)
    case atStart => exact ⟨0, real, l, rfl, Lib.hid (by simp), by omega, A1, hc4⟩
    case round =>
      clear hc4 A1 ok
      obtain ⟨n, R, L, rfl, hR, hRt, AR, HC⟩ := hrel
      have hR' := hR.out
      have ok := HC.ok
      have y0 : decide ((n : Int) < 400 + 2 * (2 * hf + 2)) = true := by simp; omega
      by_cases g7 : t + md ≤ Pl.readAt R L 0
      · have e6 : t - (2 * hf + 2) < R := by have := AR.out.early ok g7; omega
        have e7 : R < t + (2 * hf + 2) := by omega
        clear hR'
        go_wp2_with (first | (go_at_call 31; refine (read_w _ (by assumption)).mono ?_; rintro e wx ⟨rfl, hwx⟩; clear HC; have HC := hwx; clear hwx; have hb2 := HC.bl) | (go_at_call 33; refine (real_w (by assumption)).mono ?_; rintro e wq ⟨rfl, rfl⟩) | (go_at_call 53; refine (sawake_b (by assumption)).mono ?_; rintro e wz ⟨rfl, hbz⟩))
        go_ret
        exact ⟨rfl, hbz⟩
      · have e7 : R < t + 2 * hf := AR.out.late ok hf0 (by omega)
        have e8 : R < t + (2 * hf + 2) := by omega
        have eR : R + 1 ≤ 1099511627776 := by omega
        have en : (n : Int) ≤ 1000 := by omega
        have em : (n : Int) < ah + 2 * hf := by omega
        have e9 : R + 1 = real + ((n + 1 : Nat) : Int) := by omega
        have e9 := Lib.hid e9
        by_cases hr : rs.length = 0
        · have z0 : decide ((0 : Int) < (rs.length : Int)) = false := by rw [hr]; rfl
          have z1 : decide (0 < rs.length) = false := by rw [hr]; rfl
          clear hr
          have TI := Lib.hid (fun w' (H : CW w w' p g cap R m L) => tick_w 1 H)
          have es : Pl.step R 1 = 1 := by unfold Pl.step; omega
          rw [es] at TI
          have AT := Lib.hid (AR.out.tick ok eR)
          clear hR'
          go_wp2_with (first | (go_at_call 31; refine (read_w _ (by assumption)).mono ?_; rintro e wx ⟨rfl, hwx⟩; clear HC) | (go_at_call 33; refine (real_w (by assumption)).mono ?_; rintro e wq ⟨rfl, rfl⟩))
          refine (TI.out _ hwx).mono ?_
          rintro e w6 ⟨rfl, hw6⟩
          go_wp2_with fail
          go_roundw
          case rel => exact ⟨n + 1, R + 1, Pl.ticked 1 L, by go_num, e9, by omega, AT, hw6⟩
          case measure => simp [intOf]; omega
        · have z0 : decide ((0 : Int) < (rs.length : Int)) = true := by simp only [decide_eq_true_eq]; omega
          obtain ⟨q, hq⟩ : ∃ q, n % rs.length = q := ⟨_, rfl⟩
          have hlt : q < rs.length := by rw [← hq]; exact Nat.mod_lt _ (by omega)
          have er : ((n : Int) % (rs.length : Int)) = (q : Int) := by rw [← hq]; simp
          have hlt' : (q : Int) < (rs.length : Int) := by omega
          clear hq
          have ok2 := ok.rate 0 rs[q]
          have RT := Lib.hid (fun w' (H : CW w w' p g cap R m L) => rate_w 0 rs[q] H)
          have AT := Lib.hid ((AR.out.rate 0 rs[q]).tick ok2 eR)
          have RI := Lib.hid (fun w' (H : CW w w' p g cap R m L) => (H4.out.kept H.bl).at_ (q) hlt)
          have TI := Lib.hid (fun w' L (H : CW w w' p g cap R m L) => tick_w 1 H)
          have es : Pl.step R 1 = 1 := by unfold Pl.step; omega
          rw [es] at TI
          generalize rs[q] = rt at *
          clear hR'
          go_wp2_with (first | (go_at_call 31; refine (read_w _ (by assumption)).mono ?_; rintro e wx ⟨rfl, hwx⟩; clear HC; obtain ⟨a0, rfl, hab, e0⟩ := RI.out _ hwx) | (go_at_call 33; refine (real_w (by assumption)).mono ?_; rintro e wq ⟨rfl, rfl⟩))
          refine (RT.out _ hwx).mono ?_
          rintro e w5 ⟨rfl, hw5⟩
          clear hwx
          go_wp2_with fail
          refine (TI.out _ _ hw5).mono ?_
          rintro e w6 ⟨rfl, hw6⟩
          go_wp2_with fail
          go_roundw
          case rel => exact ⟨n + 1, R + 1, _, by go_num, e9, by omega, AT, hw6⟩
          case measure => simp [intOf]; omega

theorem law12 (start m : Int) (v2 : Value) (ds : List (Int × Int × Int)) (ah : Int) (v4 : Value) (rs : List Int) (W : World) (h2 : RdD v2 ds W) (h4 : RdI v4 rs W) :
    Calls Try.prog 12 #[.int .i64 start, .int .i64 m, v2, .int .i64 ah, v4] W fun e W' => e = .returned (.bool true) ∧ Below W.heap.size W W' := by
  cases hn : Pl.newB [start] m with
  | false => exact law12_no start m v2 ah v4 W hn
  | true =>
    obtain ⟨ao, c, rfl, h1, h3⟩ := h2.form
    obtain ⟨ro, rc, rfl⟩ := h4.form
    unfold maxLen at h3
    exact law12_yes start m ao c ds ah ro rc rs W h2 (by omega) h4 hn
end Go.Proofs.Ytgpeekmagckgcaa
