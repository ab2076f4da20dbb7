/- What is proved here: the walk of ClockTicks. Condition: none. -/
import Derived.Test.YtgpeekmagckgcaaK9a
namespace Go.Proofs.Ytgpeekmagckgcaa
open Go Go.RowKit
attribute [local go_sem] KW.cell KW.frozen
attribute [local go_sem ↓] Go.wp_at_zero Go.wp_at_succ

theorem RdI.at_ {ao : Option Addr} {n c : Nat} {xs : List Int} {w : World} (h : RdI (.slice ao n c) xs w) (k : Nat) (hk : k < xs.length) : ∃ a, ao = some a ∧ a.block < w.heap.size ∧ w.cell? (a.add k) = some (.int .i64 xs[k]) := by
  rcases h with ⟨_, rfl⟩ | ⟨a, cap, hv, hg, _, _, hc⟩
  · simp at hk
  · cases hv
    exact ⟨a, rfl, hg (by omega), hc k hk⟩

set_option maxRecDepth 100000 in
set_option maxHeartbeats 2000000 in
theorem law8_no (v0 v2 : Value) (xs : List Int) (m a b : Int) (W : World) (h0 : RdI v0 xs W) (hn : Pl.newB xs m = false) :
    Calls Try.prog 8 #[v0, .int .i64 m, v2, .int .i64 a, .int .i64 b] W fun e W' => e = .returned (.bool true) ∧ Below W.heap.size W W' := by
  have HN := Lib.hid (new_n v0 xs m h0 (Below.refl _ _) hn)
  have HM := Lib.hid (fun w (hb : Below W.heap.size W w) => new_n v0 xs m (h0.keptB hb) hb hn)
  clear h0 hn
  go_enter Try.func8, Try.ntmps8
  go_wp2_with fail
  refine HN.out.mono ?_
  rintro e w1 ⟨rfl, hb1⟩
  go_wp2_with fail
  refine (HM.out _ hb1).mono ?_
  rintro e w2 ⟨rfl, hb2⟩
  clear hb1
  go_wp2_with (go_at_call 26; refine (cawake_b (by assumption)).mono ?_; rintro e w3 ⟨rfl, hb3⟩)
  go_ret
  exact ⟨rfl, by assumption⟩

set_option maxRecDepth 100000 in
set_option maxHeartbeats 2000000 in
theorem law8_bad (v0 v2 : Value) (xs : List Int) (m a b : Int) (W : World) (h0 : RdI v0 xs W) (hn : Pl.newB xs m = true) (hab : a < 0 ∨ b < 0 ∨ 1073741824 < a ∨ 1073741824 < b) :
    Calls Try.prog 8 #[v0, .int .i64 m, v2, .int .i64 a, .int .i64 b] W fun e W' => e = .returned (.bool true) ∧ Below W.heap.size W W' := by
  have HN := Lib.hid (new_w v0 xs m h0 (Below.refl _ _) hn)
  have HM := Lib.hid (fun w (hb : Below W.heap.size W w) => new_w v0 xs m (h0.keptB hb) hb hn)
  have HAB := Lib.hid hab
  clear h0 hn hab
  go_enter Try.func8, Try.ntmps8
  go_wp2_with fail
  refine HN.out.mono ?_
  rintro e w1 ⟨p, g, cap, rfl, hw, _, _, _⟩
  have hb1 := hw.bl
  go_wp2_with fail
  refine (HM.out _ hb1).mono ?_
  rintro e w2 ⟨q, h, cap', rfl, hw2, _, _, _⟩
  have hb2 := hw2.bl
  clear hb1 HN HM hw
  by_cases a1 : a < 0
  · go_wp2_with (go_at_call 26; refine (cawake_b (by assumption)).mono ?_; rintro e w3 ⟨rfl, hb3⟩)
    go_ret
    exact ⟨rfl, by assumption⟩
  by_cases a2 : b < 0
  · go_wp2_with (go_at_call 26; refine (cawake_b (by assumption)).mono ?_; rintro e w3 ⟨rfl, hb3⟩)
    go_ret
    exact ⟨rfl, by assumption⟩
  by_cases a3 : 1073741824 < a
  · go_wp2_with (go_at_call 26; refine (cawake_b (by assumption)).mono ?_; rintro e w3 ⟨rfl, hb3⟩)
    go_ret
    exact ⟨rfl, by assumption⟩
  have a4 : 1073741824 < b := by have := HAB.out; omega
  go_wp2_with (go_at_call 26; refine (cawake_b (by assumption)).mono ?_; rintro e w3 ⟨rfl, hb3⟩)
  go_ret
  exact ⟨rfl, by assumption⟩

theorem tick2x' {W w : World} {p g cap q h cap' : Nat} {real real' m : Int} {lx ly : List Pl.Cl} (n R : Int) (L : List Pl.Cl) (hs : real + Pl.step real n = R) (hl : Pl.ticked (Pl.step real n) lx = L) (H : C2 W w p g cap q h cap' real m lx real' ly) :
    Calls Try.prog 27 #[.pointer (some ⟨p, 0, none⟩), .int .i64 n] w fun e w' => e = .returned (.tuple #[]) ∧ C2 W w' p g cap q h cap' R m L real' ly := by
  rw [← hs, ← hl]; exact tick2x n H
theorem tick2y' {W w : World} {p g cap q h cap' : Nat} {real real' m : Int} {lx ly : List Pl.Cl} (n R : Int) (L : List Pl.Cl) (hs : real' + Pl.step real' n = R) (hl : Pl.ticked (Pl.step real' n) ly = L) (H : C2 W w p g cap q h cap' real m lx real' ly) :
    Calls Try.prog 27 #[.pointer (some ⟨q, 0, none⟩), .int .i64 n] w fun e w' => e = .returned (.tuple #[]) ∧ C2 W w' p g cap q h cap' real m lx R L := by
  rw [← hs, ← hl]; exact tick2y n H

set_option maxRecDepth 100000 in
set_option maxHeartbeats 4000000 in
theorem law8_yes (v0 : Value) (xs : List Int) (m : Int) (ao : Option Addr) (c : Nat) (rs : List Int) (a b : Int) (W : World) (h0 : RdI v0 xs W) (h2 : RdI (.slice ao rs.length c) rs W) (hlen : rs.length ≤ 9223372036854775807) (hn : Pl.newB xs m = true)
    (a1 : ¬ a < 0) (a2 : ¬ b < 0) (a3 : ¬ 1073741824 < a) (a4 : ¬ 1073741824 < b) :
    Calls Try.prog 8 #[v0, .int .i64 m, .slice ao rs.length c, .int .i64 a, .int .i64 b] W fun e W' => e = .returned (.bool true) ∧ Below W.heap.size W W' := by
  have HN := Lib.hid (new_w v0 xs m h0 (Below.refl _ _) hn)
  have HM := Lib.hid (fun w (hb : Below W.heap.size W w) => new_w v0 xs m (h0.keptB hb) hb hn)
  have H2 := Lib.hid h2
  obtain ⟨ao0, c0, rfl⟩ := h0.form
  have OK := Lib.hid (Pl.ok_new hn)
  have hx8 : xs.length ≤ 8 := by have := OK.out.len; simpa [Pl.fresh] using this
  have LEN := Lib.hid (show (Pl.fresh xs).length = xs.length by simp [Pl.fresh])
  clear h0 hn h2
  go_enter Try.func8, Try.ntmps8
  go_wp2_with fail
  refine HN.out.mono ?_
  rintro e w1 ⟨p, g, cap, rfl, hw, _, _, _⟩
  have hb1 := hw.bl
  go_wp2_with fail
  refine (HM.out _ hb1).mono ?_
  rintro e w2 ⟨q, h, cap', rfl, hw2, hq, hh, hb2⟩
  have HC : C2 W w2 p g cap q h cap' 0 m (Pl.fresh xs) 0 (Pl.fresh xs) := ⟨hw.kept hb2, hw2, by have := hw.ck.lt; omega, by have := hw.ck.lt; omega, by have := hw.ck.hg.2; omega, by have := hw.ck.hg.2; omega⟩
  clear hb1 HN HM hw hw2 hq hh hb2
  generalize Pl.fresh xs = l0 at *
  go_wp2_with fail
  go_loopw [15] (fun i wr => ∃ (k : Nat) (l : List Pl.Cl), i = .int .i64 k ∧ k ≤ xs.length ∧ l.length = xs.length ∧ C2 W wr p g cap q h cap' 0 m l 0 l) (fun i _ => xs.length - (intOf i).toNat)
  case atStart => exact ⟨0, l0, rfl, Nat.zero_le _, LEN.out, HC⟩
  case round =>
    clear HC
    obtain ⟨k, l, rfl, hk, hll, HC⟩ := hrel
    by_cases hlt : k < xs.length ∧ k < rs.length
    · obtain ⟨hlt, hl2⟩ := hlt
      have hd : decide ((k : Int) < (xs.length : Int)) = true := by simp; omega
      have hd2 : decide ((k : Int) < (rs.length : Int)) = true := by simp; omega
      have HL := Lib.hid hll
      have CA := Lib.hid (fun w (hb : Below W.heap.size W w) => (H2.out.keptB hb).at_ k hl2)
      have hc0 := HC.drew
      obtain ⟨ad, rfl, _, ca⟩ := CA.out _ hc0.bl
      generalize rs[k] = r at *
      clear hll HC
      go_wp2_with fail
      go_region_with (first | (go_at_call 29; ((with_reducible refine (rate2x (k : Int) r hc0).mono ?_)); rintro e w3 ⟨rfl, hc1⟩; obtain ⟨ad', had', _, ca'⟩ := CA.out _ hc1.bl; injection had' with had'; subst had') | (go_at_call 29; ((with_reducible refine (rate2y (k : Int) r hc1).mono ?_)); rintro e w4 ⟨rfl, hc2⟩))
      all_goals
        clear CA ca ca' hc0 hc1
        go_wp2_with fail
        go_roundw
        case rel => exact ⟨k + 1, Pl.rated l m k r, by go_num, by omega, by rw [Pl.rated_len]; exact HL.out, hc2⟩
        case measure => simp [intOf]; omega
    · have m0 := HC.x.ok.m0
      have T1 := Lib.hid (fun w (H : C2 W w p g cap q h cap' 0 m l 0 l) => tick2x' a a (Pl.ticked a l) (by rw [Pl.step_in (by omega) (by omega)]; omega) (by rw [Pl.step_in (by omega) (by omega)]) H)
      have T2 := Lib.hid (fun w (H : C2 W w p g cap q h cap' a m (Pl.ticked a l) 0 l) => tick2x' b (a + b) (Pl.ticked (a + b) l) (by rw [Pl.step_in (by omega) (by omega)]) (by rw [Pl.step_in (by omega) (by omega), Pl.ticked_add]) H)
      have T3 := Lib.hid (fun w (H : C2 W w p g cap q h cap' (a + b) m (Pl.ticked (a + b) l) 0 l) => tick2y' (a + b) (a + b) (Pl.ticked (a + b) l) (by rw [Pl.step_in (by omega) (by omega)]; omega) (by rw [Pl.step_in (by omega) (by omega)]) H)
      have LL := Lib.hid (show (Pl.ticked (a + b) l).length = xs.length by rw [Pl.ticked_len]; exact hll)
      have hex : ¬ (k : Int) < (xs.length : Int) ∨ ((k : Int) < (xs.length : Int) ∧ ¬ (k : Int) < (rs.length : Int)) := by omega
      clear hlt hll
      generalize Pl.ticked a l = L1 at *
      generalize Pl.ticked (a + b) l = L at *
      rcases hex with hd | ⟨hd, hd2⟩
      all_goals
        go_wp2_with fail
        refine (T1.out _ HC).mono ?_
        rintro e w3 ⟨rfl, hc1⟩
        clear HC
        go_wp2_with fail
        refine (T2.out _ hc1).mono ?_
        rintro e w4 ⟨rfl, hc2⟩
        clear hc1
        go_wp2_with fail
        refine (T3.out _ hc2).mono ?_
        rintro e w5 ⟨rfl, HC⟩
        clear hc2 T1 T2 T3
        go_wp2_with fail
        go_loopw [16] (fun i wr => ∃ (k : Nat) (lx : List Pl.Cl), i = .int .i64 k ∧ k ≤ xs.length ∧ lx.length = xs.length ∧ Pl.Alike lx L ∧ Pl.Still k lx ∧ C2 W wr p g cap q h cap' (a + b) m lx (a + b) L) (fun i _ => xs.length - (intOf i).toNat)
        case atStart => exact ⟨0, L, rfl, Nat.zero_le _, LL.out, Pl.Alike.refl L, fun i h0 h1 => by omega, HC⟩
        case round =>
          clear HC hd
          obtain ⟨k2, lx, rfl, hk2, hl2, hal, hst, HC⟩ := hrel
          by_cases hlt : k2 < xs.length
          · have hd : decide ((k2 : Int) < (xs.length : Int)) = true := by simp; omega
            have RX := Lib.hid (fun w (H : C2 W w p g cap q h cap' (a + b) m lx (a + b) L) => read2x (k2 : Int) H)
            rw [hal.read] at RX
            have RT := Lib.hid (fun w (H : C2 W w p g cap q h cap' (a + b) m lx (a + b) L) => rate2x (k2 : Int) 0 H)
            rw [Pl.rateE_ok (by omega) m0] at RT
            have A := Lib.hid (hal.rate m k2 0)
            have S := Lib.hid (hst.next (m := m) (by omega) m0)
            have HL := Lib.hid (show (Pl.rated lx m k2 0).length = xs.length by rw [Pl.rated_len]; exact hl2)
            clear hal hst hl2
            go_wp2_with fail
            refine (RX.out _ HC).mono ?_
            rintro e w6 ⟨rfl, hc1⟩
            go_wp2_with fail
            refine (read2y (k2 : Int) hc1).mono ?_
            rintro e w7 ⟨rfl, hc2⟩
            clear HC hc1
            go_wp2_with fail
            refine (RT.out _ hc2).mono ?_
            rintro e w8 ⟨rfl, hc3⟩
            clear hc2
            go_wp2_with fail
            go_roundw
            case rel => exact ⟨k2 + 1, _, by go_num, by omega, HL.out, A.out, S.out, hc3⟩
            case measure => simp [intOf]; omega
          · obtain rfl : k2 = xs.length := by omega
            have hd : decide ((xs.length : Int) < (xs.length : Int)) = false := by simp
            rw [← hl2] at hst
            have A3 := Lib.hid (hal.still (n := a) hst)
            have T4 := Lib.hid (fun w (H : C2 W w p g cap q h cap' (a + b) m lx (a + b) L) => tick2x' a (a + b + a) (Pl.ticked a lx) (by rw [Pl.step_in (by omega) (by omega)]) (by rw [Pl.step_in (by omega) (by omega)]) H)
            clear hal hst hl2
            generalize Pl.ticked a lx = L3 at *
            go_wp2_with fail
            refine (T4.out _ HC).mono ?_
            rintro e w9 ⟨rfl, hc1⟩
            clear HC T4
            go_wp2_with fail
            go_loopw [17] (fun i wr => ∃ (k : Nat), i = .int .i64 k ∧ k ≤ xs.length ∧ C2 W wr p g cap q h cap' (a + b + a) m L3 (a + b) L) (fun i _ => xs.length - (intOf i).toNat)
            case atStart => exact ⟨0, rfl, Nat.zero_le _, hc1⟩
            case round =>
              clear hc1 hd
              obtain ⟨k3, rfl, hk3, HC⟩ := hrel
              by_cases hlt : k3 < xs.length
              · have hd : decide ((k3 : Int) < (xs.length : Int)) = true := by simp; omega
                have AX := Lib.hid (fun w (H : C2 W w p g cap q h cap' (a + b + a) m L3 (a + b) L) => apart2x (k3 : Int) H)
                rw [A3.out.apart] at AX
                go_wp2_with fail
                refine (AX.out _ HC).mono ?_
                rintro e w6 ⟨rfl, hc1⟩
                go_wp2_with fail
                refine (apart2y (k3 : Int) hc1).mono ?_
                rintro e w7 ⟨rfl, hc2⟩
                clear HC hc1
                go_wp2_with fail
                go_roundw
                case rel => exact ⟨k3 + 1, by go_num, by omega, hc2⟩
                case measure => simp [intOf]; omega
              · have hd : decide ((k3 : Int) < (xs.length : Int)) = false := by simp; omega
                go_wp2_with fail
                refine (real2x HC).mono ?_
                rintro e w6 ⟨rfl, rfl⟩
                go_wp2_with fail
                refine (real2y HC).mono ?_
                rintro e w6 ⟨rfl, rfl⟩
                have hb := HC.bl
                go_wp2_with (go_at_call 26; refine (cawake_b (by assumption)).mono ?_; rintro e w3 ⟨rfl, hb3⟩)
                go_ret
                exact ⟨rfl, by assumption⟩

theorem law8 (v0 : Value) (xs : List Int) (m : Int) (v2 : Value) (rs : List Int) (a b : Int) (W : World) (h0 : RdI v0 xs W) (h2 : RdI v2 rs W) :
    Calls Try.prog 8 #[v0, .int .i64 m, v2, .int .i64 a, .int .i64 b] W fun e W' => e = .returned (.bool true) ∧ Below W.heap.size W W' := by
  cases hn : Pl.newB xs m with
  | false => exact law8_no v0 v2 xs m a b W h0 hn
  | true =>
    by_cases hab : a < 0 ∨ b < 0 ∨ 1073741824 < a ∨ 1073741824 < b
    · exact law8_bad v0 v2 xs m a b W h0 hn hab
    · obtain ⟨ao, c, rfl⟩ := h2.form
      have hl : rs.length ≤ 9223372036854775807 := by
        rcases h2 with ⟨_, rfl⟩ | ⟨_, cap, _, _, h1, h3, _⟩
        · simp
        · unfold maxLen at h3; omega
      exact law8_yes v0 xs m ao c rs a b W h0 h2 hl hn (by omega) (by omega) (by omega) (by omega)
end Go.Proofs.Ytgpeekmagckgcaa
