/- What is proved here: what Least and Most answer; the walk of FloatLists. Condition: none. -/
import Derived.Test.YtijgopcddjnfdaaFd
namespace Go.Proofs.Ytijgopcddjnfdaa
open Go Go.RowKit

namespace Fl
/-- The one that stands first, behind out. -/
def least : List Nat → Nat → Nat
  | [], out => out
  | x :: t, out => if nan x = true then one else least t (if (place x : Int) < place out then x else out)
def most : List Nat → Nat → Nat
  | [], out => out
  | x :: t, out => if nan x = true then one else most t (if (place out : Int) < place x then x else out)
theorem least_clean : ∀ (l : List Nat) (out : Nat), clean out = out → clean (least l out) = least l out
  | [], out, h => h
  | x :: t, out, h => by
    unfold least
    split
    · decide
    · rename_i hn
      refine least_clean t _ ?_
      split
      · unfold clean; rw [if_neg hn]
      · exact h
theorem most_clean : ∀ (l : List Nat) (out : Nat), clean out = out → clean (most l out) = most l out
  | [], out, h => h
  | x :: t, out, h => by
    unfold most
    split
    · decide
    · rename_i hn
      refine most_clean t _ ?_
      split
      · unfold clean; rw [if_neg hn]
      · exact h
theorem least_w : ∀ (l : List Nat) (out : Nat), W64 out → (∀ x ∈ l, W64 x) → W64 (least l out)
  | [], out, h, _ => h
  | x :: t, out, h, hl => by
    unfold least
    split
    · exact w_one
    · refine least_w t _ ?_ (fun y hy => hl y (by simp [hy]))
      split
      · exact hl x (by simp)
      · exact h
theorem most_w : ∀ (l : List Nat) (out : Nat), W64 out → (∀ x ∈ l, W64 x) → W64 (most l out)
  | [], out, h, _ => h
  | x :: t, out, h, hl => by
    unfold most
    split
    · exact w_one
    · refine most_w t _ ?_ (fun y hy => hl y (by simp [hy]))
      split
      · exact hl x (by simp)
      · exact h
theorem least_cons {x : Nat} {t : List Nat} {out : Nat} (h : nan x = false) : least (x :: t) out = least t (if (place x : Int) < place out then x else out) := by
  show (if nan x = true then one else least t (if (place x : Int) < place out then x else out)) = _
  rw [if_neg (by rw [h]; simp)]
theorem least_nan {x : Nat} {t : List Nat} {out : Nat} (h : nan x = true) : least (x :: t) out = one := by
  show (if nan x = true then one else least t (if (place x : Int) < place out then x else out)) = _
  rw [if_pos h]
theorem most_cons {x : Nat} {t : List Nat} {out : Nat} (h : nan x = false) : most (x :: t) out = most t (if (place out : Int) < place x then x else out) := by
  show (if nan x = true then one else most t (if (place out : Int) < place x then x else out)) = _
  rw [if_neg (by rw [h]; simp)]
theorem most_nan {x : Nat} {t : List Nat} {out : Nat} (h : nan x = true) : most (x :: t) out = one := by
  show (if nan x = true then one else most t (if (place out : Int) < place x then x else out)) = _
  rw [if_pos h]
theorem cmp_lt {x y : Nat} : (decide (cmpW x y < 0)) = decide ((place x : Int) < place y) := by
  rw [Bool.eq_iff_iff, decide_eq_true_eq, decide_eq_true_eq]
  unfold cmpW; omega
theorem cmp_gt {x y : Nat} : (decide (0 < cmpW x y)) = decide ((place y : Int) < place x) := by
  rw [Bool.eq_iff_iff, decide_eq_true_eq, decide_eq_true_eq]
  unfold cmpW; omega
theorem drop_cons' {l : List Nat} {k : Nat} (h : k < l.length) : l.drop k = l[k] :: l.drop (k + 1) := List.drop_eq_getElem_cons h
end Fl

set_option maxRecDepth 100000 in
set_option maxHeartbeats 1000000 in
theorem least_c (v : Value) (xs : List Nat) (w : World) (h : Rd FLT v xs w) (hw : ∀ x ∈ xs, Fl.W64 x) : Calls Try.prog 32 #[v] w fun e w' => e = .returned (.float .f64 (Fl.least xs 9218868437227405312)) ∧ w = w' := by
  obtain ⟨ao, c, rfl, hm⟩ := h.form
  have H := Lib.hid h
  clear h
  obtain ⟨st, hst⟩ : ∃ s : Nat, s = 9218868437227405312 := ⟨_, rfl⟩
  have HI := Lib.hid (fun w => inf_p w)
  rw [← hst]
  have e0 : Fl.inf = st := hst.symm
  rw [e0] at HI
  have hs0 : Fl.W64 st := by rw [hst]; unfold Fl.W64; decide
  clear hst e0
  go_enter Try.func32, Try.ntmps32
  go_wp2_with (go_at_call 53; refine (HI.out _).mono ?_; rintro e w' ⟨rfl, rfl⟩)
  go_loop [3, 9] (fun s i => ∃ (k out : Nat), i = .int .i64 k ∧ k ≤ xs.length ∧ s = .float .f64 out ∧ Fl.W64 out ∧ Fl.least xs st = Fl.least (xs.drop k) out) (fun _ i => xs.length - (intOf i).toNat)
  case atStart => exact ⟨0, st, rfl, Nat.zero_le _, rfl, hs0, rfl⟩
  case round =>
    obtain ⟨k, out, rfl, hk, rfl, ho, hrun⟩ := hrel
    by_cases hlt : k < xs.length
    · have hd : decide ((k : Int) < (xs.length : Int)) = true := by simp; omega
      obtain ⟨a, rfl, _, hc⟩ := H.out.at_ k hlt
      unfold FLT at hc
      have hx := hw _ (List.getElem_mem hlt)
      rw [Fl.drop_cons' hlt] at hrun
      have CL := Lib.hid (clean_w xs[k] hx)
      have CM := Lib.hid (compare_w xs[k] out hx ho)
      have hne := Fl.ne_iff hx
      generalize xs[k] = x at *
      cases hn : Fl.nan x with
      | true =>
        have hcl : Fl.clean x = Fl.one := by unfold Fl.clean; rw [if_pos hn]
        have hr : Fl.least xs st = Fl.one := by rw [hrun, Fl.least_nan hn]
        rw [hn] at hne
        rw [hcl] at CL
        have HR := Lib.hid hr
        clear hr hrun hcl hn CM
        go_wp2_with (go_at_call 26; refine (CL.out _).mono ?_; rintro e w' ⟨rfl, rfl⟩)
        go_ret
        exact ⟨ret_flt HR.out.symm, rfl⟩
      | false =>
        rw [hn] at hne
        rw [Fl.least_cons hn] at hrun
        have ct := Fl.cmp_lt (x := x) (y := out)
        generalize Fl.cmpW x out = cm at *
        by_cases hp : (Fl.place x : Int) < Fl.place out
        · rw [if_pos hp] at hrun
          rw [decide_eq_true hp] at ct
          have HR := Lib.hid hrun
          clear hrun hp CL hn
          go_wp2_with (go_at_call 13; refine (CM.out _).mono ?_; rintro e w' ⟨rfl, rfl⟩)
          go_round
          case rel => exact ⟨k + 1, x, by go_num, by omega, rfl, hx, HR.out⟩
          case measure => simp [intOf]; omega
        · rw [if_neg hp] at hrun
          rw [decide_eq_false hp] at ct
          have HR := Lib.hid hrun
          clear hrun hp CL hn
          go_wp2_with (go_at_call 13; refine (CM.out _).mono ?_; rintro e w' ⟨rfl, rfl⟩)
          go_round
          case rel => exact ⟨k + 1, out, by go_num, by omega, rfl, ho, HR.out⟩
          case measure => simp [intOf]; omega
    · obtain rfl : k = xs.length := by omega
      have hd : decide ((xs.length : Int) < (xs.length : Int)) = false := by simp
      have hr : Fl.least xs st = out := by rw [hrun, List.drop_length]; rfl
      have HR := Lib.hid hr
      clear hr hrun
      go_wp2_with fail
      go_ret
      exact ⟨ret_flt HR.out.symm, rfl⟩

set_option maxRecDepth 100000 in
set_option maxHeartbeats 1000000 in
theorem most_c (v : Value) (xs : List Nat) (w : World) (h : Rd FLT v xs w) (hw : ∀ x ∈ xs, Fl.W64 x) : Calls Try.prog 34 #[v] w fun e w' => e = .returned (.float .f64 (Fl.most xs 18442240474082181120)) ∧ w = w' := by
  obtain ⟨ao, c, rfl, hm⟩ := h.form
  have H := Lib.hid h
  clear h
  obtain ⟨st, hst⟩ : ∃ s : Nat, s = 18442240474082181120 := ⟨_, rfl⟩
  have HI := Lib.hid (fun w => inf_n w)
  rw [← hst]
  have e0 : Fl.ninf = st := hst.symm
  rw [e0] at HI
  have hs0 : Fl.W64 st := by rw [hst]; unfold Fl.W64; decide
  clear hst e0
  go_enter Try.func34, Try.ntmps34
  go_wp2_with (go_at_call 53; refine (HI.out _).mono ?_; rintro e w' ⟨rfl, rfl⟩)
  go_loop [3, 9] (fun s i => ∃ (k out : Nat), i = .int .i64 k ∧ k ≤ xs.length ∧ s = .float .f64 out ∧ Fl.W64 out ∧ Fl.most xs st = Fl.most (xs.drop k) out) (fun _ i => xs.length - (intOf i).toNat)
  case atStart => exact ⟨0, st, rfl, Nat.zero_le _, rfl, hs0, rfl⟩
  case round =>
    obtain ⟨k, out, rfl, hk, rfl, ho, hrun⟩ := hrel
    by_cases hlt : k < xs.length
    · have hd : decide ((k : Int) < (xs.length : Int)) = true := by simp; omega
      obtain ⟨a, rfl, _, hc⟩ := H.out.at_ k hlt
      unfold FLT at hc
      have hx := hw _ (List.getElem_mem hlt)
      rw [Fl.drop_cons' hlt] at hrun
      have CL := Lib.hid (clean_w xs[k] hx)
      have CM := Lib.hid (compare_w xs[k] out hx ho)
      have hne := Fl.ne_iff hx
      generalize xs[k] = x at *
      cases hn : Fl.nan x with
      | true =>
        have hcl : Fl.clean x = Fl.one := by unfold Fl.clean; rw [if_pos hn]
        have hr : Fl.most xs st = Fl.one := by rw [hrun, Fl.most_nan hn]
        rw [hn] at hne
        rw [hcl] at CL
        have HR := Lib.hid hr
        clear hr hrun hcl hn CM
        go_wp2_with (go_at_call 26; refine (CL.out _).mono ?_; rintro e w' ⟨rfl, rfl⟩)
        go_ret
        exact ⟨ret_flt HR.out.symm, rfl⟩
      | false =>
        rw [hn] at hne
        rw [Fl.most_cons hn] at hrun
        have ct := Fl.cmp_gt (x := x) (y := out)
        generalize Fl.cmpW x out = cm at *
        by_cases hp : (Fl.place out : Int) < Fl.place x
        · rw [if_pos hp] at hrun
          rw [decide_eq_true hp] at ct
          have HR := Lib.hid hrun
          clear hrun hp CL hn
          go_wp2_with (go_at_call 13; refine (CM.out _).mono ?_; rintro e w' ⟨rfl, rfl⟩)
          go_round
          case rel => exact ⟨k + 1, x, by go_num, by omega, rfl, hx, HR.out⟩
          case measure => simp [intOf]; omega
        · rw [if_neg hp] at hrun
          rw [decide_eq_false hp] at ct
          have HR := Lib.hid hrun
          clear hrun hp CL hn
          go_wp2_with (go_at_call 13; refine (CM.out _).mono ?_; rintro e w' ⟨rfl, rfl⟩)
          go_round
          case rel => exact ⟨k + 1, out, by go_num, by omega, rfl, ho, HR.out⟩
          case measure => simp [intOf]; omega
    · obtain rfl : k = xs.length := by omega
      have hd : decide ((xs.length : Int) < (xs.length : Int)) = false := by simp
      have hr : Fl.most xs st = out := by rw [hrun, List.drop_length]; rfl
      have HR := Lib.hid hr
      clear hr hrun
      go_wp2_with fail
      go_ret
      exact ⟨ret_flt HR.out.symm, rfl⟩

set_option maxRecDepth 100000 in
set_option maxHeartbeats 1000000 in
theorem rleast_c (v : Value) (xs : List Nat) (w : World) (h : Rd WRD v xs w) (hw : ∀ x ∈ xs, Fl.W64 x) : Calls Try.prog 33 #[v] w fun e w' => e = .returned (.int .u64 ((Fl.least xs 9218868437227405312 : Nat) : Int)) ∧ w = w' := by
  obtain ⟨ao, c, rfl, hm⟩ := h.form
  have H := Lib.hid h
  clear h
  obtain ⟨st, hst⟩ : ∃ s : Nat, s = 9218868437227405312 := ⟨_, rfl⟩
  rw [← hst]
  have HS := Lib.hid hst
  clear hst
  go_enter Try.func33, Try.ntmps33
  go_wp2_with fail
  go_loop [3, 4] (fun s i => ∃ (k out : Nat), i = .int .i64 k ∧ k ≤ xs.length ∧ s = .int .u64 (out : Int) ∧ Fl.least xs st = Fl.least (xs.drop k) out) (fun _ i => xs.length - (intOf i).toNat)
  case atStart => exact ⟨0, st, rfl, Nat.zero_le _, by rw [HS.out]; rfl, rfl⟩
  case round =>
    obtain ⟨k, out, rfl, hk, rfl, hrun⟩ := hrel
    by_cases hlt : k < xs.length
    · have hd : decide ((k : Int) < (xs.length : Int)) = true := by simp; omega
      obtain ⟨a, rfl, _, hc⟩ := H.out.at_ k hlt
      unfold WRD at hc
      have hx := hw _ (List.getElem_mem hlt)
      rw [Fl.drop_cons' hlt] at hrun
      have CL := Lib.hid (rclean_w xs[k])
      have P1 := Lib.hid (rplace_c xs[k])
      have P2 := Lib.hid (rplace_c out)
      generalize xs[k] = x at *
      cases hn : Fl.nan x with
      | true =>
        have hcl : Fl.clean x = Fl.one := by unfold Fl.clean; rw [if_pos hn]
        have hr : Fl.least xs st = Fl.one := by rw [hrun, Fl.least_nan hn]
        rw [hcl] at CL
        have q1 : (((Fl.one : Nat) : Int) == 9221120237041090561) = true := rfl
        have HR := Lib.hid hr
        clear hr hrun hcl hn
        go_wp2_with (go_at_call 14; refine (CL.out _).mono ?_; rintro e w' ⟨rfl, rfl⟩)
        go_ret
        exact ⟨ret_wd (a := Fl.one) HR.out.symm, rfl⟩
      | false =>
        have hcl : Fl.clean x = x := by unfold Fl.clean; rw [if_neg (by rw [hn]; simp)]
        have hno := Fl.nan_no.1 hn
        have q1 : ((x : Int) == 9221120237041090561) = false := by rw [beq_eq_false_iff_ne]; omega
        rw [hcl] at CL
        rw [Fl.least_cons hn] at hrun
        clear hno hcl hn
        generalize hpx : Fl.place x = px at *
        generalize hpo : Fl.place out = po at *
        by_cases hp : (px : Int) < po
        · rw [if_pos hp] at hrun
          have ct : px < po := by omega
          have HR := Lib.hid hrun
          clear hrun hp hpx hpo
          go_wp2_with (first | (go_at_call 14; refine (CL.out _).mono ?_; rintro e w' ⟨rfl, rfl⟩) | (go_at_call 52; ((with_reducible refine (P1.out _).mono ?_)); rintro e w' ⟨rfl, rfl⟩) | (go_at_call 52; ((with_reducible refine (P2.out _).mono ?_)); rintro e w' ⟨rfl, rfl⟩))
          go_round
          case rel => exact ⟨k + 1, x, by go_num, by omega, rfl, HR.out⟩
          case measure => simp [intOf]; omega
        · rw [if_neg hp] at hrun
          have ct : ¬ px < po := by omega
          have HR := Lib.hid hrun
          clear hrun hp hpx hpo
          go_wp2_with (first | (go_at_call 14; refine (CL.out _).mono ?_; rintro e w' ⟨rfl, rfl⟩) | (go_at_call 52; ((with_reducible refine (P1.out _).mono ?_)); rintro e w' ⟨rfl, rfl⟩) | (go_at_call 52; ((with_reducible refine (P2.out _).mono ?_)); rintro e w' ⟨rfl, rfl⟩))
          go_round
          case rel => exact ⟨k + 1, out, by go_num, by omega, rfl, HR.out⟩
          case measure => simp [intOf]; omega
    · obtain rfl : k = xs.length := by omega
      have hd : decide ((xs.length : Int) < (xs.length : Int)) = false := by simp
      have hr : Fl.least xs st = out := by rw [hrun, List.drop_length]; rfl
      have HR := Lib.hid hr
      clear hr hrun
      go_wp2_with fail
      go_ret
      exact ⟨ret_wd HR.out.symm, rfl⟩

set_option maxRecDepth 100000 in
set_option maxHeartbeats 1000000 in
theorem rmost_c (v : Value) (xs : List Nat) (w : World) (h : Rd WRD v xs w) (hw : ∀ x ∈ xs, Fl.W64 x) : Calls Try.prog 35 #[v] w fun e w' => e = .returned (.int .u64 ((Fl.most xs 18442240474082181120 : Nat) : Int)) ∧ w = w' := by
  obtain ⟨ao, c, rfl, hm⟩ := h.form
  have H := Lib.hid h
  clear h
  obtain ⟨st, hst⟩ : ∃ s : Nat, s = 18442240474082181120 := ⟨_, rfl⟩
  rw [← hst]
  have HS := Lib.hid hst
  clear hst
  go_enter Try.func35, Try.ntmps35
  go_wp2_with fail
  go_loop [3, 4] (fun s i => ∃ (k out : Nat), i = .int .i64 k ∧ k ≤ xs.length ∧ s = .int .u64 (out : Int) ∧ Fl.most xs st = Fl.most (xs.drop k) out) (fun _ i => xs.length - (intOf i).toNat)
  case atStart => exact ⟨0, st, rfl, Nat.zero_le _, by rw [HS.out]; rfl, rfl⟩
  case round =>
    obtain ⟨k, out, rfl, hk, rfl, hrun⟩ := hrel
    by_cases hlt : k < xs.length
    · have hd : decide ((k : Int) < (xs.length : Int)) = true := by simp; omega
      obtain ⟨a, rfl, _, hc⟩ := H.out.at_ k hlt
      unfold WRD at hc
      have hx := hw _ (List.getElem_mem hlt)
      rw [Fl.drop_cons' hlt] at hrun
      have CL := Lib.hid (rclean_w xs[k])
      have P1 := Lib.hid (rplace_c xs[k])
      have P2 := Lib.hid (rplace_c out)
      generalize xs[k] = x at *
      cases hn : Fl.nan x with
      | true =>
        have hcl : Fl.clean x = Fl.one := by unfold Fl.clean; rw [if_pos hn]
        have hr : Fl.most xs st = Fl.one := by rw [hrun, Fl.most_nan hn]
        rw [hcl] at CL
        have q1 : (((Fl.one : Nat) : Int) == 9221120237041090561) = true := rfl
        have HR := Lib.hid hr
        clear hr hrun hcl hn
        go_wp2_with (go_at_call 14; refine (CL.out _).mono ?_; rintro e w' ⟨rfl, rfl⟩)
        go_ret
        exact ⟨ret_wd (a := Fl.one) HR.out.symm, rfl⟩
      | false =>
        have hcl : Fl.clean x = x := by unfold Fl.clean; rw [if_neg (by rw [hn]; simp)]
        have hno := Fl.nan_no.1 hn
        have q1 : ((x : Int) == 9221120237041090561) = false := by rw [beq_eq_false_iff_ne]; omega
        rw [hcl] at CL
        rw [Fl.most_cons hn] at hrun
        clear hno hcl hn
        generalize hpx : Fl.place x = px at *
        generalize hpo : Fl.place out = po at *
        by_cases hp : (po : Int) < px
        · rw [if_pos hp] at hrun
          have ct : po < px := by omega
          have HR := Lib.hid hrun
          clear hrun hp hpx hpo
          go_wp2_with (first | (go_at_call 14; refine (CL.out _).mono ?_; rintro e w' ⟨rfl, rfl⟩) | (go_at_call 52; ((with_reducible refine (P1.out _).mono ?_)); rintro e w' ⟨rfl, rfl⟩) | (go_at_call 52; ((with_reducible refine (P2.out _).mono ?_)); rintro e w' ⟨rfl, rfl⟩))
          go_round
          case rel => exact ⟨k + 1, x, by go_num, by omega, rfl, HR.out⟩
          case measure => simp [intOf]; omega
        · rw [if_neg hp] at hrun
          have ct : ¬ po < px := by omega
          have HR := Lib.hid hrun
          clear hrun hp hpx hpo
          go_wp2_with (first | (go_at_call 14; refine (CL.out _).mono ?_; rintro e w' ⟨rfl, rfl⟩) | (go_at_call 52; ((with_reducible refine (P1.out _).mono ?_)); rintro e w' ⟨rfl, rfl⟩) | (go_at_call 52; ((with_reducible refine (P2.out _).mono ?_)); rintro e w' ⟨rfl, rfl⟩))
          go_round
          case rel => exact ⟨k + 1, out, by go_num, by omega, rfl, HR.out⟩
          case measure => simp [intOf]; omega
    · obtain rfl : k = xs.length := by omega
      have hd : decide ((xs.length : Int) < (xs.length : Int)) = false := by simp
      have hr : Fl.most xs st = out := by rw [hrun, List.drop_length]; rfl
      have HR := Lib.hid hr
      clear hr hrun
      go_wp2_with fail
      go_ret
      exact ⟨ret_wd HR.out.symm, rfl⟩

set_option maxRecDepth 100000 in
set_option maxHeartbeats 2000000 in
theorem law8 (v : Value) (l : List Nat) (W : World) (h : Rd WRD v l W) (hw : ∀ x ∈ l, Fl.W64 x) : Calls Try.prog 8 #[v] W fun e W' => e = .returned (.bool true) ∧ Below W.heap.size W W' := by
  obtain ⟨ao, c, rfl, hm⟩ := h.form
  have H := Lib.hid h
  clear h
  by_cases hl : 40 < (l.length : Int)
  · have hd : decide (40 < (l.length : Int)) = true := by simpa using hl
    go_enter Try.func8, Try.ntmps8
    go_wp2_with (go_at_call 15; refine (fawake_b (Below.refl _ _)).mono ?_; rintro e w' ⟨rfl, hb1⟩)
    go_ret
    exact ⟨rfl, hb1⟩
  have hd : decide (40 < (l.length : Int)) = false := by simpa using hl
  have wl : Fl.W64 (Fl.least l 9218868437227405312) := Fl.least_w l _ Fl.w_inf hw
  have wm : Fl.W64 (Fl.most l 18442240474082181120) := Fl.most_w l _ Fl.w_ninf hw
  have B1 := Lib.hid (bits_w _ wl)
  have B2 := Lib.hid (bits_w _ wm)
  rw [Fl.least_clean _ _ Fl.aw2] at B1
  rw [Fl.most_clean _ _ Fl.aw3] at B2
  have L := Lib.hid (fun v w h => least_c v l w h hw)
  have M := Lib.hid (fun v w h => most_c v l w h hw)
  have RL := Lib.hid (fun v w h => rleast_c v l w h hw)
  have RM := Lib.hid (fun v w h => rmost_c v l w h hw)
  clear wl wm hw
  generalize Fl.least l 9218868437227405312 = x at *
  generalize Fl.most l 18442240474082181120 = y at *
  go_enter Try.func8, Try.ntmps8
  go_wp2_with fail
  refine (list_c _ l W H.out (by omega)).mono ?_
  rintro e w1 ⟨u, rfl, hown, hb1⟩
  have R1 := Lib.hid (Rd.of_own hown)
  clear hown
  go_wp2_with fail
  refine (L.out _ _ R1.out).mono ?_
  rintro e w' ⟨rfl, rfl⟩
  go_wp2_with fail
  refine (B1.out _).mono ?_
  rintro e w' ⟨rfl, rfl⟩
  go_wp2_with fail
  refine (RL.out _ _ (H.out.kept hb1)).mono ?_
  rintro e w' ⟨rfl, rfl⟩
  go_wp2_with fail
  refine (list_c _ l _ (H.out.kept hb1) (by omega)).mono ?_
  rintro e w2 ⟨u2, rfl, hown, hb2⟩
  have R2 := Lib.hid (Rd.of_own hown)
  have hb3 := bon hb1 hb2
  clear hown hb1 hb2
  go_wp2_with fail
  refine (M.out _ _ R2.out).mono ?_
  rintro e w' ⟨rfl, rfl⟩
  go_wp2_with fail
  refine (B2.out _).mono ?_
  rintro e w' ⟨rfl, rfl⟩
  go_wp2_with fail
  refine (RM.out _ _ (H.out.kept hb3)).mono ?_
  rintro e w' ⟨rfl, rfl⟩
  go_wp2_with (go_at_call 15; refine (fawake_b (by assumption)).mono ?_; rintro e w' ⟨rfl, hb9⟩)
  go_ret
  exact ⟨rfl, hb9⟩
end Go.Proofs.Ytijgopcddjnfdaa
