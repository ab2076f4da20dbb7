/- What is proved here: the walk of SkewHolds. Condition: none. -/
import Derived.Test.YtgpeekmagckgcaaH1
import Derived.Test.YtgpeekmagckgcaaVar
namespace Go.Proofs.Ytgpeekmagckgcaa
open Go Go.RowKit
attribute [local go_sem] KW.cell KW.frozen
attribute [local go_sem ↓] eql24 eql23 Go.wp_at_zero Go.wp_at_succ

set_option maxRecDepth 100000 in
set_option maxHeartbeats 1000000 in
theorem law13_no (start m : Int) (v2 : Value) (W : World) (hn : Pl.newB [start] m = false) :
    Calls Try.prog 13 #[.int .i64 start, .int .i64 m, v2] W fun e W' => e = .returned (.bool true) ∧ Below W.heap.size W W' := by
  have H := Lib.hid (played_no start m v2 W hn)
  unfold ec at H
  clear hn
  go_enter Try.func13, Try.ntmps13
  go_wp2_with fail
  refine H.out.mono ?_
  rintro e w1 ⟨rfl, hb⟩
  have hb2 := hb.alloc hb.size (.cells #[.bool false, .int .i64 0, .int .i64 0, .int .i64 0] 73)
  clear hb
  go_wp2_with (go_at_call 53; refine (sawake_b (by assumption)).mono ?_; rintro e w2 ⟨rfl, hb3⟩)
  go_ret
  exact ⟨rfl, hb3⟩

theorem real_b {W w : World} {p g cap : Nat} {real m : Int} {l : List Pl.Cl} (h : CW W w p g cap real m l) : Calls Try.prog 33 #[.pointer (some ⟨p, 0, none⟩)] w fun e w' => e = .returned (.int .i64 real) ∧ Below w.heap.size w w' :=
  (real_c h.ck).mono fun _ _ ⟨he, hw⟩ => ⟨he, hw ▸ Below.refl _ _⟩
theorem CW.st {W w : World} {p g cap : Nat} {real m : Int} {l : List Pl.Cl} (h : CW W w p g cap real m l) (R : Nat) (hR : W.heap.size ≤ R) (h1 : ¬ R = p) (h2 : ¬ R = g) {i : Nat} {u : Value} : CW W (w.setCell ⟨R, i, none⟩ u) p g cap real m l :=
  ⟨h.ck.far (Below.heap_setCell w ⟨R, i, none⟩ u p (by simpa using Ne.symm h1)) (Below.heap_setCell w ⟨R, i, none⟩ u g (by simpa using Ne.symm h2)), h.bl.setCell hR _, h.ok⟩
set_option maxRecDepth 100000 in
set_option maxHeartbeats 4000000 in
theorem law13_yes (start m : Int) (ao : Option Addr) (c : Nat) (ds : List (Int × Int × Int)) (w : World) (h2 : RdD (.slice ao ds.length c) ds w) (hlen : ds.length ≤ 9223372036854775807) (hn : Pl.newB [start] m = true) :
    Calls Try.prog 13 #[.int .i64 start, .int .i64 m, .slice ao ds.length c] w fun e w' => e = .returned (.bool true) ∧ Below w.heap.size w w' := by
  have HPL := Lib.hid (played_yes start m ao c ds w h2 hlen hn)
  unfold ec at HPL
  clear hn h2
  go_enter Try.func13, Try.ntmps13
  go_wp2_with fail
  refine HPL.out.mono ?_
  rintro e w1 ⟨p, g, cap, real, l, k, a, b, z, rfl, hc, _, hH⟩
  clear HPL
  have ok := hc.ok
  cases k with
  | false =>
    clear hH
    have hc1 : CW w (w1.alloc (.cells #[.bool false, .int .i64 a, .int .i64 b, .int .i64 z] 73)) p g cap real m l := hc.kept ((Below.refl _ _).alloc (Nat.le_refl _) _)
    have HO := Lib.hid (fun w => on_no a b z real m w)
    go_wp2_with fail
    have zE : w.heap.size ≤ w1.heap.size := hc.bl.size
    have hb1 := hc.bl
    refine wp_region_vars 6 (fun i => ([.agg #[.bool false, .int .i64 a, .int .i64 b, .int .i64 z], .pointer (some ⟨p, 0, none⟩), .int .i64 real, .int .i64 m, .agg #[.int .i64 1, .int .i64 0], undef] : List Value).getD i undef) (fun i => i == 5) (fun _ => .cells #[.int .i64 0, .int .i64 0] 24) (by kernel_rfl) (by kernel_rfl) ?hal ?_
    case hal =>
      intro i o ho hi a w
      simp only [beq_iff_eq] at hi
      subst hi
      all_goals
        obtain rfl := Option.some.inj ho
        go_simp
    simp only [List.take_succ_cons, List.take_zero, List.drop_succ_cons, List.drop_zero]
    refine wpVars_val rfl rfl ?q0 (fun K hK => ?_)
    case q0 =>
      intro wx hb
      have c0 : wx.cell? ⟨w1.heap.size, 0, none⟩ = some (.bool false) := (hb.cell (p := ⟨w1.heap.size, 0, none⟩) (by go_size)).trans (by go_simp)
      have c1 : wx.cell? ⟨w1.heap.size, 1, none⟩ = some (.int .i64 a) := (hb.cell (p := ⟨w1.heap.size, 1, none⟩) (by go_size)).trans (by go_simp)
      have c2 : wx.cell? ⟨w1.heap.size, 2, none⟩ = some (.int .i64 b) := (hb.cell (p := ⟨w1.heap.size, 2, none⟩) (by go_size)).trans (by go_simp)
      have c3 : wx.cell? ⟨w1.heap.size, 3, none⟩ = some (.int .i64 z) := (hb.cell (p := ⟨w1.heap.size, 3, none⟩) (by go_size)).trans (by go_simp)
      unfold growAt
      go_simp
    go_simp
    refine hK _ ?_
    clear hK K
    refine wpVars_val rfl rfl ?q1 (fun K hK => ?_)
    case q1 =>
      intro wx hb
      have c0 : wx.cell? ⟨w1.heap.size, 0, none⟩ = some (.bool false) := (hb.cell (p := ⟨w1.heap.size, 0, none⟩) (by go_size)).trans (by go_simp)
      have c1 : wx.cell? ⟨w1.heap.size, 1, none⟩ = some (.int .i64 a) := (hb.cell (p := ⟨w1.heap.size, 1, none⟩) (by go_size)).trans (by go_simp)
      have c2 : wx.cell? ⟨w1.heap.size, 2, none⟩ = some (.int .i64 b) := (hb.cell (p := ⟨w1.heap.size, 2, none⟩) (by go_size)).trans (by go_simp)
      have c3 : wx.cell? ⟨w1.heap.size, 3, none⟩ = some (.int .i64 z) := (hb.cell (p := ⟨w1.heap.size, 3, none⟩) (by go_size)).trans (by go_simp)
      unfold growAt
      go_simp
    go_simp
    refine hK _ ?_
    clear hK K
    refine wpVars_val rfl rfl ?q2 (fun K hK => ?_)
    case q2 =>
      intro wx hb
      unfold growAt
      go_simp
      exact real_b (hc1.kept hb)
    go_simp
    refine hK _ ?_
    clear hK K
    refine wpVars_val rfl rfl ?q3 (fun K hK => ?_)
    case q3 =>
      intro wx hb
      have c0 : wx.cell? ⟨w1.heap.size, 0, none⟩ = some (.bool false) := (hb.cell (p := ⟨w1.heap.size, 0, none⟩) (by go_size)).trans (by go_simp)
      have c1 : wx.cell? ⟨w1.heap.size, 1, none⟩ = some (.int .i64 a) := (hb.cell (p := ⟨w1.heap.size, 1, none⟩) (by go_size)).trans (by go_simp)
      have c2 : wx.cell? ⟨w1.heap.size, 2, none⟩ = some (.int .i64 b) := (hb.cell (p := ⟨w1.heap.size, 2, none⟩) (by go_size)).trans (by go_simp)
      have c3 : wx.cell? ⟨w1.heap.size, 3, none⟩ = some (.int .i64 z) := (hb.cell (p := ⟨w1.heap.size, 3, none⟩) (by go_size)).trans (by go_simp)
      unfold growAt
      go_simp
    go_simp
    refine hK _ ?_
    clear hK K
    refine wpVars_val rfl rfl ?q4 (fun K hK => ?_)
    case q4 =>
      intro wx hb
      unfold growAt
      go_simp
      exact HO.out _
    go_simp
    refine hK _ ?_
    clear hK K
    refine wpVars_var rfl rfl (fun g5 K hK => ?_)
    go_simp
    refine hK _ ?_
    clear hK K
    refine wpVars_nil ?_
    intro v1 hl
    have hcv := hc1.kept hl.kept
    have hlo := hl.lies 5 rfl (by omega)
    simp [upd] at hlo
    have hgp : ¬ g5 = p := by have := hc.ck.lt; have := hlo.1; omega
    have hgg : ¬ g5 = g := by have := hc.ck.hg.2; have := hlo.1; omega
    have hgw : w.heap.size ≤ g5 := by have := hlo.1; omega
    clear hlo
    have hwb : Below w.heap.size w v1 := Below.trans (by (repeat' (first | (with_reducible exact Below.refl _ _) | (with_reducible assumption) | (with_reducible refine Below.alloc ?_ ?_ _) | (with_reducible refine Below.drew ?_) | (with_reducible refine below_drewN ?_ _) | (with_reducible refine Below.setCell ?_ ?_ _) | go_size))) (hl.kept.mono (by go_size))
    have l5 := hl.lies 5 rfl (by omega)
    simp [upd] at l5
    have z5b := block_lt l5.2
    have y5b : w.heap.size < g5 := Nat.lt_of_lt_of_le (by go_size) l5.1
    have c5b0 : v1.cell? ⟨g5, 0, none⟩ = some (.int .i64 0) := block_cell l5.2 0
    have f5b0 : v1.frozen? ⟨g5, 0, none⟩ = false := block_free l5.2 0
    have c5b1 : v1.cell? ⟨g5, 1, none⟩ = some (.int .i64 0) := block_cell l5.2 1
    have f5b1 : v1.frozen? ⟨g5, 1, none⟩ = false := block_free l5.2 1
    have kb0 : v1.cell? ⟨w1.heap.size, 0, none⟩ = some (.bool false) := (hl.kept.cell (p := ⟨w1.heap.size, 0, none⟩) (by go_size)).trans (by go_simp)
    have xb0 : v1.frozen? ⟨w1.heap.size, 0, none⟩ = false := (hl.kept.frozen (p := ⟨w1.heap.size, 0, none⟩) (by go_size)).trans (by go_simp)
    have kb1 : v1.cell? ⟨w1.heap.size, 1, none⟩ = some (.int .i64 a) := (hl.kept.cell (p := ⟨w1.heap.size, 1, none⟩) (by go_size)).trans (by go_simp)
    have xb1 : v1.frozen? ⟨w1.heap.size, 1, none⟩ = false := (hl.kept.frozen (p := ⟨w1.heap.size, 1, none⟩) (by go_size)).trans (by go_simp)
    have kb2 : v1.cell? ⟨w1.heap.size, 2, none⟩ = some (.int .i64 b) := (hl.kept.cell (p := ⟨w1.heap.size, 2, none⟩) (by go_size)).trans (by go_simp)
    have xb2 : v1.frozen? ⟨w1.heap.size, 2, none⟩ = false := (hl.kept.frozen (p := ⟨w1.heap.size, 2, none⟩) (by go_size)).trans (by go_simp)
    have kb3 : v1.cell? ⟨w1.heap.size, 3, none⟩ = some (.int .i64 z) := (hl.kept.cell (p := ⟨w1.heap.size, 3, none⟩) (by go_size)).trans (by go_simp)
    have xb3 : v1.frozen? ⟨w1.heap.size, 3, none⟩ = false := (hl.kept.frozen (p := ⟨w1.heap.size, 3, none⟩) (by go_size)).trans (by go_simp)
    have s5b4 : ¬ w1.heap.size = g5 := by have := l5.1; omega
    have r5b4 : ¬ g5 = w1.heap.size := by have := l5.1; omega
    have zzb4 : w1.heap.size < v1.heap.size := Nat.lt_of_lt_of_le (by go_size) hl.kept.size
    clear l5
    clear hl
    go_wp2_with fail
    refine abs_wp ?_
    intro W2 hW
    have hcw : CW w W2 p g cap real m l := by
      rw [hW]
      exact (hcv.st g5 hgw hgp hgg).st g5 hgw hgp hgg
    have cc0 : W2.cell? ⟨w1.heap.size, 0, none⟩ = some (.bool false) := by rw [hW]; go_simp
    have fc0 : W2.frozen? ⟨w1.heap.size, 0, none⟩ = false := by rw [hW]; go_simp
    have cc1 : W2.cell? ⟨w1.heap.size, 1, none⟩ = some (.int .i64 a) := by rw [hW]; go_simp
    have fc1 : W2.frozen? ⟨w1.heap.size, 1, none⟩ = false := by rw [hW]; go_simp
    have cc2 : W2.cell? ⟨w1.heap.size, 2, none⟩ = some (.int .i64 b) := by rw [hW]; go_simp
    have fc2 : W2.frozen? ⟨w1.heap.size, 2, none⟩ = false := by rw [hW]; go_simp
    have cc3 : W2.cell? ⟨w1.heap.size, 3, none⟩ = some (.int .i64 z) := by rw [hW]; go_simp
    have fc3 : W2.frozen? ⟨w1.heap.size, 3, none⟩ = false := by rw [hW]; go_simp
    have zc4 : w1.heap.size < W2.heap.size := by rw [hW]; go_size
    have cc4 : W2.cell? ⟨g5, 0, none⟩ = some (.int .i64 1) := by rw [hW]; go_simp
    have fc4 : W2.frozen? ⟨g5, 0, none⟩ = false := by rw [hW]; go_simp
    have cc5 : W2.cell? ⟨g5, 1, none⟩ = some (.int .i64 0) := by rw [hW]; go_simp
    have fc5 : W2.frozen? ⟨g5, 1, none⟩ = false := by rw [hW]; go_simp
    have zc6 : g5 < W2.heap.size := by rw [hW]; go_size
    have hwc : Below w.heap.size w W2 := by
      rw [hW]
      (repeat' (first | (with_reducible exact Below.refl _ _) | (with_reducible assumption) | (with_reducible refine Below.alloc ?_ ?_ _) | (with_reducible refine Below.drew ?_) | (with_reducible refine below_drewN ?_ _) | (with_reducible refine Below.setCell ?_ ?_ _) | go_size))
    have hsc : w.heap.size ≤ W2.heap.size := hwc.size
    clear hW
    clear hwb z5b y5b c5b0 f5b0 c5b1 f5b1 kb0 xb0 kb1 xb1 kb2 xb2 kb3 xb3 zzb4
    have HAP := Lib.hid (fun kk : KW W2 => apart_c 0 (hcw.ck.kept kk.kp) hcw.ok)
    have HRE := Lib.hid (fun kk : KW W2 => real_c (hcw.ck.kept kk.kp))
    refine wp_region_kq (by kernel_rfl) (by kernel_rfl) ?_
    repeat (first | go_big_quiet_step ((first | (go_at_call 47; exact KW.call (empty_c _ _ _)) | (go_at_call 35; exact KW.call (HAP.out _)) | (go_at_call 33; exact KW.same (HRE.out _)) | (go_at_call 15; exact KW.call (has_c _ _ _ _)) | (go_at_call 53; exact KW.call (sawake_b (Below.refl _ _))))) | quiet_step ((first | (go_at_call 47; exact KW.call (empty_c _ _ _)) | (go_at_call 35; exact KW.call (HAP.out _)) | (go_at_call 33; exact KW.same (HRE.out _)) | (go_at_call 15; exact KW.call (has_c _ _ _ _)) | (go_at_call 53; exact KW.call (sawake_b (Below.refl _ _))))))
    refine wpQuiet_nil ?_
    intro kz
    have hz := bon (by assumption) kz.kp
    go_wp2_with fail
    go_ret
    exact ⟨rfl, hz⟩

  | true =>
    obtain ⟨hh, hz1, hz0⟩ := hH.on ok
    have he := Pl.has_emp hh
    clear hH
    have hc1 : CW w (w1.alloc (.cells #[.bool true, .int .i64 a, .int .i64 b, .int .i64 z] 73)) p g cap real m l := hc.kept ((Below.refl _ _).alloc (Nat.le_refl _) _)
    have r0 := ok.r0
    have r1 := ok.r1
    have HO := Lib.hid (fun w => on_c true a b z real m w ⟨by omega, by omega⟩ ⟨by omega, by omega⟩)
    clear r0 r1
    generalize Pl.olo true a b z real m = ol at *
    generalize Pl.ohi true a b z real m = oh at *
    go_wp2_with fail
    have zE : w.heap.size ≤ w1.heap.size := hc.bl.size
    have hb1 := hc.bl
    refine wp_region_vars 6 (fun i => ([.agg #[.bool true, .int .i64 a, .int .i64 b, .int .i64 z], .pointer (some ⟨p, 0, none⟩), .int .i64 real, .int .i64 m, .agg #[.int .i64 ol, .int .i64 oh], undef] : List Value).getD i undef) (fun i => i == 5) (fun _ => .cells #[.int .i64 0, .int .i64 0] 24) (by kernel_rfl) (by kernel_rfl) ?hal ?_
    case hal =>
      intro i o ho hi a w
      simp only [beq_iff_eq] at hi
      subst hi
      all_goals
        obtain rfl := Option.some.inj ho
        go_simp
    simp only [List.take_succ_cons, List.take_zero, List.drop_succ_cons, List.drop_zero]
    refine wpVars_val rfl rfl ?q0 (fun K hK => ?_)
    case q0 =>
      intro wx hb
      have c0 : wx.cell? ⟨w1.heap.size, 0, none⟩ = some (.bool true) := (hb.cell (p := ⟨w1.heap.size, 0, none⟩) (by go_size)).trans (by go_simp)
      have c1 : wx.cell? ⟨w1.heap.size, 1, none⟩ = some (.int .i64 a) := (hb.cell (p := ⟨w1.heap.size, 1, none⟩) (by go_size)).trans (by go_simp)
      have c2 : wx.cell? ⟨w1.heap.size, 2, none⟩ = some (.int .i64 b) := (hb.cell (p := ⟨w1.heap.size, 2, none⟩) (by go_size)).trans (by go_simp)
      have c3 : wx.cell? ⟨w1.heap.size, 3, none⟩ = some (.int .i64 z) := (hb.cell (p := ⟨w1.heap.size, 3, none⟩) (by go_size)).trans (by go_simp)
      unfold growAt
      go_simp
    go_simp
    refine hK _ ?_
    clear hK K
    refine wpVars_val rfl rfl ?q1 (fun K hK => ?_)
    case q1 =>
      intro wx hb
      have c0 : wx.cell? ⟨w1.heap.size, 0, none⟩ = some (.bool true) := (hb.cell (p := ⟨w1.heap.size, 0, none⟩) (by go_size)).trans (by go_simp)
      have c1 : wx.cell? ⟨w1.heap.size, 1, none⟩ = some (.int .i64 a) := (hb.cell (p := ⟨w1.heap.size, 1, none⟩) (by go_size)).trans (by go_simp)
      have c2 : wx.cell? ⟨w1.heap.size, 2, none⟩ = some (.int .i64 b) := (hb.cell (p := ⟨w1.heap.size, 2, none⟩) (by go_size)).trans (by go_simp)
      have c3 : wx.cell? ⟨w1.heap.size, 3, none⟩ = some (.int .i64 z) := (hb.cell (p := ⟨w1.heap.size, 3, none⟩) (by go_size)).trans (by go_simp)
      unfold growAt
      go_simp
    go_simp
    refine hK _ ?_
    clear hK K
    refine wpVars_val rfl rfl ?q2 (fun K hK => ?_)
    case q2 =>
      intro wx hb
      unfold growAt
      go_simp
      exact real_b (hc1.kept hb)
    go_simp
    refine hK _ ?_
    clear hK K
    refine wpVars_val rfl rfl ?q3 (fun K hK => ?_)
    case q3 =>
      intro wx hb
      have c0 : wx.cell? ⟨w1.heap.size, 0, none⟩ = some (.bool true) := (hb.cell (p := ⟨w1.heap.size, 0, none⟩) (by go_size)).trans (by go_simp)
      have c1 : wx.cell? ⟨w1.heap.size, 1, none⟩ = some (.int .i64 a) := (hb.cell (p := ⟨w1.heap.size, 1, none⟩) (by go_size)).trans (by go_simp)
      have c2 : wx.cell? ⟨w1.heap.size, 2, none⟩ = some (.int .i64 b) := (hb.cell (p := ⟨w1.heap.size, 2, none⟩) (by go_size)).trans (by go_simp)
      have c3 : wx.cell? ⟨w1.heap.size, 3, none⟩ = some (.int .i64 z) := (hb.cell (p := ⟨w1.heap.size, 3, none⟩) (by go_size)).trans (by go_simp)
      unfold growAt
      go_simp
    go_simp
    refine hK _ ?_
    clear hK K
    refine wpVars_val rfl rfl ?q4 (fun K hK => ?_)
    case q4 =>
      intro wx hb
      unfold growAt
      go_simp
      exact HO.out _
    go_simp
    refine hK _ ?_
    clear hK K
    refine wpVars_var rfl rfl (fun g5 K hK => ?_)
    go_simp
    refine hK _ ?_
    clear hK K
    refine wpVars_nil ?_
    intro v1 hl
    have hcv := hc1.kept hl.kept
    have hlo := hl.lies 5 rfl (by omega)
    simp [upd] at hlo
    have hgp : ¬ g5 = p := by have := hc.ck.lt; have := hlo.1; omega
    have hgg : ¬ g5 = g := by have := hc.ck.hg.2; have := hlo.1; omega
    have hgw : w.heap.size ≤ g5 := by have := hlo.1; omega
    clear hlo
    have hwb : Below w.heap.size w v1 := Below.trans (by (repeat' (first | (with_reducible exact Below.refl _ _) | (with_reducible assumption) | (with_reducible refine Below.alloc ?_ ?_ _) | (with_reducible refine Below.drew ?_) | (with_reducible refine below_drewN ?_ _) | (with_reducible refine Below.setCell ?_ ?_ _) | go_size))) (hl.kept.mono (by go_size))
    have l5 := hl.lies 5 rfl (by omega)
    simp [upd] at l5
    have z5b := block_lt l5.2
    have y5b : w.heap.size < g5 := Nat.lt_of_lt_of_le (by go_size) l5.1
    have c5b0 : v1.cell? ⟨g5, 0, none⟩ = some (.int .i64 0) := block_cell l5.2 0
    have f5b0 : v1.frozen? ⟨g5, 0, none⟩ = false := block_free l5.2 0
    have c5b1 : v1.cell? ⟨g5, 1, none⟩ = some (.int .i64 0) := block_cell l5.2 1
    have f5b1 : v1.frozen? ⟨g5, 1, none⟩ = false := block_free l5.2 1
    have kb0 : v1.cell? ⟨w1.heap.size, 0, none⟩ = some (.bool true) := (hl.kept.cell (p := ⟨w1.heap.size, 0, none⟩) (by go_size)).trans (by go_simp)
    have xb0 : v1.frozen? ⟨w1.heap.size, 0, none⟩ = false := (hl.kept.frozen (p := ⟨w1.heap.size, 0, none⟩) (by go_size)).trans (by go_simp)
    have kb1 : v1.cell? ⟨w1.heap.size, 1, none⟩ = some (.int .i64 a) := (hl.kept.cell (p := ⟨w1.heap.size, 1, none⟩) (by go_size)).trans (by go_simp)
    have xb1 : v1.frozen? ⟨w1.heap.size, 1, none⟩ = false := (hl.kept.frozen (p := ⟨w1.heap.size, 1, none⟩) (by go_size)).trans (by go_simp)
    have kb2 : v1.cell? ⟨w1.heap.size, 2, none⟩ = some (.int .i64 b) := (hl.kept.cell (p := ⟨w1.heap.size, 2, none⟩) (by go_size)).trans (by go_simp)
    have xb2 : v1.frozen? ⟨w1.heap.size, 2, none⟩ = false := (hl.kept.frozen (p := ⟨w1.heap.size, 2, none⟩) (by go_size)).trans (by go_simp)
    have kb3 : v1.cell? ⟨w1.heap.size, 3, none⟩ = some (.int .i64 z) := (hl.kept.cell (p := ⟨w1.heap.size, 3, none⟩) (by go_size)).trans (by go_simp)
    have xb3 : v1.frozen? ⟨w1.heap.size, 3, none⟩ = false := (hl.kept.frozen (p := ⟨w1.heap.size, 3, none⟩) (by go_size)).trans (by go_simp)
    have s5b4 : ¬ w1.heap.size = g5 := by have := l5.1; omega
    have r5b4 : ¬ g5 = w1.heap.size := by have := l5.1; omega
    have zzb4 : w1.heap.size < v1.heap.size := Nat.lt_of_lt_of_le (by go_size) hl.kept.size
    clear l5
    clear hl
    go_wp2_with fail
    refine abs_wp ?_
    intro W2 hW
    have hcw : CW w W2 p g cap real m l := by
      rw [hW]
      exact (hcv.st g5 hgw hgp hgg).st g5 hgw hgp hgg
    have cc0 : W2.cell? ⟨w1.heap.size, 0, none⟩ = some (.bool true) := by rw [hW]; go_simp
    have fc0 : W2.frozen? ⟨w1.heap.size, 0, none⟩ = false := by rw [hW]; go_simp
    have cc1 : W2.cell? ⟨w1.heap.size, 1, none⟩ = some (.int .i64 a) := by rw [hW]; go_simp
    have fc1 : W2.frozen? ⟨w1.heap.size, 1, none⟩ = false := by rw [hW]; go_simp
    have cc2 : W2.cell? ⟨w1.heap.size, 2, none⟩ = some (.int .i64 b) := by rw [hW]; go_simp
    have fc2 : W2.frozen? ⟨w1.heap.size, 2, none⟩ = false := by rw [hW]; go_simp
    have cc3 : W2.cell? ⟨w1.heap.size, 3, none⟩ = some (.int .i64 z) := by rw [hW]; go_simp
    have fc3 : W2.frozen? ⟨w1.heap.size, 3, none⟩ = false := by rw [hW]; go_simp
    have zc4 : w1.heap.size < W2.heap.size := by rw [hW]; go_size
    have cc4 : W2.cell? ⟨g5, 0, none⟩ = some (.int .i64 ol) := by rw [hW]; go_simp
    have fc4 : W2.frozen? ⟨g5, 0, none⟩ = false := by rw [hW]; go_simp
    have cc5 : W2.cell? ⟨g5, 1, none⟩ = some (.int .i64 oh) := by rw [hW]; go_simp
    have fc5 : W2.frozen? ⟨g5, 1, none⟩ = false := by rw [hW]; go_simp
    have zc6 : g5 < W2.heap.size := by rw [hW]; go_size
    have hwc : Below w.heap.size w W2 := by
      rw [hW]
      (repeat' (first | (with_reducible exact Below.refl _ _) | (with_reducible assumption) | (with_reducible refine Below.alloc ?_ ?_ _) | (with_reducible refine Below.drew ?_) | (with_reducible refine below_drewN ?_ _) | (with_reducible refine Below.setCell ?_ ?_ _) | go_size))
    have hsc : w.heap.size ≤ W2.heap.size := hwc.size
    clear hW
    clear hwb z5b y5b c5b0 f5b0 c5b1 f5b1 kb0 xb0 kb1 xb1 kb2 xb2 kb3 xb3 zzb4
    have HAP := Lib.hid (fun kk : KW W2 => apart_c 0 (hcw.ck.kept kk.kp) hcw.ok)
    have HRE := Lib.hid (fun kk : KW W2 => real_c (hcw.ck.kept kk.kp))
    generalize Pl.apartAt l 0 = A at *
    refine wp_region_kq (by kernel_rfl) (by kernel_rfl) ?_
    repeat (first | go_big_quiet_step ((first | (go_at_call 47; exact KW.call (empty_c _ _ _)) | (go_at_call 35; exact KW.call (HAP.out _)) | (go_at_call 33; exact KW.same (HRE.out _)) | (go_at_call 15; exact KW.call (has_c _ _ _ _)) | (go_at_call 53; exact KW.call (sawake_b (Below.refl _ _))))) | quiet_step ((first | (go_at_call 47; exact KW.call (empty_c _ _ _)) | (go_at_call 35; exact KW.call (HAP.out _)) | (go_at_call 33; exact KW.same (HRE.out _)) | (go_at_call 15; exact KW.call (has_c _ _ _ _)) | (go_at_call 53; exact KW.call (sawake_b (Below.refl _ _))))))
    refine wpQuiet_nil ?_
    intro kz
    have hz := bon (by assumption) kz.kp
    go_wp2_with fail
    go_ret
    exact ⟨rfl, hz⟩


theorem law13 (start m : Int) (v2 : Value) (ds : List (Int × Int × Int)) (W : World) (h2 : RdD v2 ds W) :
    Calls Try.prog 13 #[.int .i64 start, .int .i64 m, v2] W fun e W' => e = .returned (.bool true) ∧ Below W.heap.size W W' := by
  cases hn : Pl.newB [start] m with
  | false => exact law13_no start m v2 W hn
  | true =>
    obtain ⟨ao, c, rfl, h1, h3⟩ := h2.form
    unfold maxLen at h3
    exact law13_yes start m ao c ds W h2 (by omega) hn
end Go.Proofs.Ytgpeekmagckgcaa
