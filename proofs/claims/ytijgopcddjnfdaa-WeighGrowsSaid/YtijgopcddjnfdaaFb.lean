/- What is proved here: what each function of package float, and of its reference, answers (no loops). Condition: the words are of 64 bits. -/
import Derived.Test.YtijgopcddjnfdaaFa
namespace Go.Proofs.Ytijgopcddjnfdaa
open Go Go.RowKit
namespace Fl
def zero : Nat := 0
end Fl
theorem lop_eql_one (t : TypeId) (x : Nat) : binOp .eql t (.int .u64 (x : Int)) (.int .u64 9221120237041090561) = pure (.bool (Fl.isW x Fl.one)) := wop_eql t x Fl.one
theorem lop_eql_ninf (t : TypeId) (x : Nat) : binOp .eql t (.int .u64 (x : Int)) (.int .u64 18442240474082181120) = pure (.bool (Fl.isW x Fl.ninf)) := wop_eql t x Fl.ninf
theorem lop_eql_sign (t : TypeId) (x : Nat) : binOp .eql t (.int .u64 (x : Int)) (.int .u64 9223372036854775808) = pure (.bool (Fl.isW x Fl.sign)) := wop_eql t x Fl.sign
theorem lop_eql_zero (t : TypeId) (x : Nat) : binOp .eql t (.int .u64 (x : Int)) (.int .u64 0) = pure (.bool (Fl.isW x Fl.zero)) := wop_eql t x Fl.zero
theorem lop_gtr_inf (t : TypeId) (x : Nat) : binOp .gtr t (.int .u64 (x : Int)) (.int .u64 9218868437227405312) = pure (.bool (Fl.gtW x Fl.inf)) := wop_gtr t x Fl.inf
theorem lop_gtr_sign (t : TypeId) (x : Nat) : binOp .gtr t (.int .u64 (x : Int)) (.int .u64 9223372036854775808) = pure (.bool (Fl.gtW x Fl.sign)) := wop_gtr t x Fl.sign
theorem lop_lss_inf (t : TypeId) (x : Nat) : binOp .lss t (.int .u64 (x : Int)) (.int .u64 9218868437227405312) = pure (.bool (Fl.ltW x Fl.inf)) := wop_lss t x Fl.inf
theorem lop_geq_sign (t : TypeId) (x : Nat) : binOp .geq t (.int .u64 (x : Int)) (.int .u64 9223372036854775808) = pure (.bool (Fl.geW x Fl.sign)) := wop_geq t x Fl.sign
theorem lop_leq_inf (t : TypeId) (x : Nat) : binOp .leq t (.int .u64 (x : Int)) (.int .u64 9218868437227405312) = pure (.bool (Fl.leW x Fl.inf)) := wop_leq t x Fl.inf
theorem lop_rem (t : TypeId) (x : Nat) : binOp .rem t (.int .u64 (x : Int)) (.int .u64 9223372036854775808) = pure (.int .u64 ((Fl.rung x : Nat) : Int)) := op_rem x t
theorem lfrombits_one {w : World} : (callFunc 47 #[.int .u64 9221120237041090561]).run Try.prog w = .ok (.value (.float .f64 Fl.one)) w := run_frombits Fl.one
theorem lfrombits_inf {w : World} : (callFunc 47 #[.int .u64 9218868437227405312]).run Try.prog w = .ok (.value (.float .f64 Fl.inf)) w := run_frombits Fl.inf
theorem lfrombits_ninf {w : World} : (callFunc 47 #[.int .u64 18442240474082181120]).run Try.prog w = .ok (.value (.float .f64 Fl.ninf)) w := run_frombits Fl.ninf
theorem lgtr_maxf (t : TypeId) (x : Nat) : binOp .gtr t (.float .f64 x) (.float .f64 9218868437227405311) = pure (.bool (Fl.gt x Fl.maxf)) := op_gtr t x Fl.maxf
attribute [local go_sem ↓] op_lss op_gtr op_geq op_leq op_eql op_neq op_neg wop_eql wop_neq wop_lss wop_gtr wop_leq wop_geq run_frombits run_bits lop_eql_one lop_eql_ninf lop_eql_sign lop_eql_zero lop_gtr_inf lop_gtr_sign lop_lss_inf lop_geq_sign lop_leq_inf lop_rem lfrombits_one lfrombits_inf lfrombits_ninf lgtr_maxf

theorem u64_in {n : Int} (h0 : 0 ≤ n) (h1 : n < 18446744073709551616) : IntKind.u64.wrap n = n := by
  have e : IntKind.u64.wrap n = n % 18446744073709551616 := rfl
  rw [e]
  exact Int.emod_eq_of_lt h0 h1
theorem ret_int {k : IntKind} {a b : Int} (h : a = b) : Ending.returned (.int k a) = .returned (.int k b) := by rw [h]
theorem ret_wd {a b : Nat} (h : a = b) : Ending.returned (.int .u64 (a : Int)) = .returned (.int .u64 (b : Int)) := by rw [h]
theorem ret_bool {a b : Bool} (h : a = b) : Ending.returned (.bool a) = .returned (.bool b) := by rw [h]
theorem ret_flt {a b : Nat} (h : a = b) : Ending.returned (.float .f64 a) = .returned (.float .f64 b) := by rw [h]

namespace Fl
/-- Cleaned, by comparing. -/
def sel (x : Nat) : Nat := if (FloatKind.f64.format.order x x != some Ordering.eq) = true then one else x
/-- Cleaned, by bits. -/
def cln (x : Nat) : Nat := if (9218868437227405312 : Int) < (x : Int) % 9223372036854775808 then one else x
def pcls (x : Nat) : Int := if (FloatKind.f64.format.order x x != some Ordering.eq) = true then 0 else if (FloatKind.f64.format.order (neg x) 9218868437227405311 == some Ordering.gt) = true then 1 else if (FloatKind.f64.format.order x 9218868437227405311 == some Ordering.gt) = true then 6 else if (FloatKind.f64.format.order x 0 == some Ordering.lt) = true then 2 else if (FloatKind.f64.format.order x 0 == some Ordering.gt) = true then 5 else if wrap64 (x : Int) < 0 then 3 else 4
def rcls (n : Nat) : Int := if (n : Int) = 9221120237041090561 then 0 else if (n : Int) = 18442240474082181120 then 1 else if 9223372036854775808 < (n : Int) then 2 else if (n : Int) = 9223372036854775808 then 3 else if (n : Int) = 0 then 4 else if (n : Int) < 9218868437227405312 then 5 else 6
def rank (x : Nat) : Int := if pcls x = 0 then 2 else if pcls x = 3 then -1 else 0
def cmpI (a b : Int) : Int := if a < b then -1 else if b < a then 1 else 0
def cmpF (x y : Nat) : Int := if (FloatKind.f64.format.order x y == some Ordering.lt) = true then -1 else if (FloatKind.f64.format.order x y == some Ordering.gt) = true then 1 else cmpI (rank x) (rank y)
def place (n : Nat) : Nat := if 9223372036854775808 ≤ (cln n : Int) then 9223372036854775807 - cln n % 9223372036854775808 else 9223372036854775808 + cln n
def cmpW (a b : Nat) : Int := if (place a : Int) < (place b : Int) then -1 else if (place b : Int) < (place a : Int) then 1 else 0
def rcost (n : Nat) : Bool := decide ((n : Int) ≤ 9218868437227405312) || ((n : Int) == 9223372036854775808)
end Fl

set_option maxRecDepth 100000 in
theorem raw_c (n : Nat) (w : World) : Calls Try.prog 12 #[.int .u64 (n : Int)] w fun e w' => e = .returned (.float .f64 n) ∧ w = w' := by
  go_enter Try.func12, Try.ntmps12
  go_wp2
  all_goals
    go_ret
    exact ⟨rfl, rfl⟩
set_option maxRecDepth 100000 in
theorem clean_c (x : Nat) (w : World) : Calls Try.prog 26 #[.float .f64 x] w fun e w' => e = .returned (.float .f64 (Fl.sel x)) ∧ w = w' := by
  go_enter Try.func26, Try.ntmps26
  go_wp2
  all_goals
    go_ret
    exact ⟨ret_flt (by unfold Fl.sel; simp [*]), rfl⟩
set_option maxRecDepth 100000 in
theorem bits_c (x : Nat) (w : World) : Calls Try.prog 18 #[.float .f64 x] w fun e w' => e = .returned (.int .u64 ((Fl.sel x : Nat) : Int)) ∧ w = w' := by
  cases hx : (FloatKind.f64.format.order x x != some Ordering.eq) with
  | false =>
    have e : Fl.sel x = x := by unfold Fl.sel; rw [hx]; rfl
    rw [e]
    clear e
    go_enter Try.func18, Try.ntmps18
    go_wp2
    go_ret
    exact ⟨rfl, rfl⟩
  | true =>
    have e : Fl.sel x = Fl.one := by unfold Fl.sel; rw [hx]; rfl
    rw [e]
    clear e
    go_enter Try.func18, Try.ntmps18
    go_wp2
    go_ret
    exact ⟨rfl, rfl⟩
set_option maxRecDepth 100000 in
theorem of_c (n : Nat) (w : World) : Calls Try.prog 25 #[.int .u64 (n : Int)] w fun e w' => e = .returned (.float .f64 (Fl.sel n)) ∧ w = w' := by
  go_enter Try.func25, Try.ntmps25
  go_wp2_with (first | (go_at_call 26; (with_reducible refine (clean_c _ _).mono ?_); rintro e w' ⟨rfl, rfl⟩))
  all_goals
    go_ret
    exact ⟨rfl, rfl⟩
set_option maxRecDepth 100000 in
theorem rclean_c (x : Nat) (w : World) : Calls Try.prog 14 #[.int .u64 (x : Int)] w fun e w' => e = .returned (.int .u64 ((Fl.cln x : Nat) : Int)) ∧ w = w' := by
  by_cases hx : (9218868437227405312 : Int) < (x : Int) % 9223372036854775808
  · have e : Fl.cln x = Fl.one := by unfold Fl.cln; rw [if_pos hx]
    rw [e]
    clear e
    go_enter Try.func14, Try.ntmps14
    go_wp2
    go_ret
    exact ⟨rfl, rfl⟩
  · have e : Fl.cln x = x := by unfold Fl.cln; rw [if_neg hx]
    rw [e]
    clear e
    go_enter Try.func14, Try.ntmps14
    go_wp2
    go_ret
    exact ⟨rfl, rfl⟩
set_option maxRecDepth 100000 in
theorem cost_c (x : Nat) (w : World) : Calls Try.prog 22 #[.float .f64 x] w fun e w' => e = .returned (.bool (FloatKind.f64.format.order x 0 == some Ordering.gt || FloatKind.f64.format.order x 0 == some Ordering.eq)) ∧ w = w' := by
  go_enter Try.func22, Try.ntmps22
  go_wp2
  all_goals
    go_ret
    exact ⟨rfl, rfl⟩
set_option maxRecDepth 100000 in
theorem rcost_c (x : Nat) (w : World) : Calls Try.prog 20 #[.int .u64 (x : Int)] w fun e w' => e = .returned (.bool (Fl.rcost x)) ∧ w = w' := by
  go_enter Try.func20, Try.ntmps20
  go_wp2
  all_goals
    go_ret
    exact ⟨ret_bool (by unfold Fl.rcost; simp [*]), rfl⟩
set_option maxRecDepth 100000 in
theorem isinf_p (x : Nat) (w : World) : Calls Try.prog 50 #[.float .f64 x, .int .i64 1] w fun e w' => e = .returned (.bool (FloatKind.f64.format.order x 9218868437227405311 == some Ordering.gt)) ∧ w = w' := by
  go_enter Try.func50, Try.ntmps50
  go_wp2
  all_goals
    go_ret
    exact ⟨rfl, rfl⟩
set_option maxRecDepth 100000 in
theorem isinf_n (x : Nat) (w : World) : Calls Try.prog 50 #[.float .f64 x, .int .i64 (-1)] w fun e w' => e = .returned (.bool (FloatKind.f64.format.order (Fl.neg x) 9218868437227405311 == some Ordering.gt)) ∧ w = w' := by
  go_enter Try.func50, Try.ntmps50
  go_wp2
  all_goals
    go_ret
    exact ⟨rfl, rfl⟩
set_option maxRecDepth 100000 in
theorem signbit_c (x : Nat) (w : World) : Calls Try.prog 51 #[.float .f64 x] w fun e w' => e = .returned (.bool (decide (wrap64 (x : Int) < 0))) ∧ w = w' := by
  go_enter Try.func51, Try.ntmps51
  go_wp2
  all_goals
    go_ret
    exact ⟨rfl, rfl⟩
set_option maxRecDepth 100000 in
theorem class_c (x : Nat) (w : World) : Calls Try.prog 23 #[.float .f64 x] w fun e w' => e = .returned (.int .i64 (Fl.pcls x)) ∧ w = w' := by
  go_enter Try.func23, Try.ntmps23
  go_wp2_with (first | (go_at_call 50; (with_reducible refine (isinf_n _ _).mono ?_); rintro e w' ⟨rfl, rfl⟩) | (go_at_call 50; (with_reducible refine (isinf_p _ _).mono ?_); rintro e w' ⟨rfl, rfl⟩) | (go_at_call 51; (with_reducible refine (signbit_c _ _).mono ?_); rintro e w' ⟨rfl, rfl⟩))
  all_goals
    go_ret
    exact ⟨ret_int (by unfold Fl.pcls; simp [*]), rfl⟩
set_option maxRecDepth 100000 in
theorem rclass_c (x : Nat) (w : World) : Calls Try.prog 19 #[.int .u64 (x : Int)] w fun e w' => e = .returned (.int .i64 (Fl.rcls (Fl.cln x))) ∧ w = w' := by
  have H := Lib.hid (rclean_c x)
  generalize Fl.cln x = n at *
  unfold Fl.rcls
  by_cases h1 : (n : Int) = 9221120237041090561
  · rw [if_pos h1]
    have bh1 : ((n : Int) == 9221120237041090561) = true := by simp only [beq_iff_eq]; exact h1
    clear h1
    go_enter Try.func19, Try.ntmps19
    go_wp2_with (go_at_call 14; refine (H.out _).mono ?_; rintro e w' ⟨rfl, rfl⟩)
    go_ret
    exact ⟨rfl, rfl⟩
  rw [if_neg h1]
  have bh1 : ((n : Int) == 9221120237041090561) = false := by simp only [beq_eq_false_iff_ne, ne_eq]; exact h1
  clear h1
  by_cases h2 : (n : Int) = 18442240474082181120
  · rw [if_pos h2]
    have bh2 : ((n : Int) == 18442240474082181120) = true := by simp only [beq_iff_eq]; exact h2
    clear h2
    go_enter Try.func19, Try.ntmps19
    go_wp2_with (go_at_call 14; refine (H.out _).mono ?_; rintro e w' ⟨rfl, rfl⟩)
    go_ret
    exact ⟨rfl, rfl⟩
  rw [if_neg h2]
  have bh2 : ((n : Int) == 18442240474082181120) = false := by simp only [beq_eq_false_iff_ne, ne_eq]; exact h2
  clear h2
  by_cases h3 : 9223372036854775808 < (n : Int)
  · rw [if_pos h3]
    have bh3 : decide (9223372036854775808 < (n : Int)) = true := by simp only [decide_eq_true_eq]; exact h3
    clear h3
    go_enter Try.func19, Try.ntmps19
    go_wp2_with (go_at_call 14; refine (H.out _).mono ?_; rintro e w' ⟨rfl, rfl⟩)
    go_ret
    exact ⟨rfl, rfl⟩
  rw [if_neg h3]
  have bh3 : decide (9223372036854775808 < (n : Int)) = false := by simp only [decide_eq_false_iff_not]; exact h3
  clear h3
  by_cases h4 : (n : Int) = 9223372036854775808
  · rw [if_pos h4]
    have bh4 : ((n : Int) == 9223372036854775808) = true := by simp only [beq_iff_eq]; exact h4
    clear h4
    go_enter Try.func19, Try.ntmps19
    go_wp2_with (go_at_call 14; refine (H.out _).mono ?_; rintro e w' ⟨rfl, rfl⟩)
    go_ret
    exact ⟨rfl, rfl⟩
  rw [if_neg h4]
  have bh4 : ((n : Int) == 9223372036854775808) = false := by simp only [beq_eq_false_iff_ne, ne_eq]; exact h4
  clear h4
  by_cases h5 : (n : Int) = 0
  · rw [if_pos h5]
    have bh5 : ((n : Int) == 0) = true := by simp only [beq_iff_eq]; exact h5
    clear h5
    go_enter Try.func19, Try.ntmps19
    go_wp2_with (go_at_call 14; refine (H.out _).mono ?_; rintro e w' ⟨rfl, rfl⟩)
    go_ret
    exact ⟨rfl, rfl⟩
  rw [if_neg h5]
  have bh5 : ((n : Int) == 0) = false := by simp only [beq_eq_false_iff_ne, ne_eq]; exact h5
  clear h5
  by_cases h6 : (n : Int) < 9218868437227405312
  · rw [if_pos h6]
    have bh6 : decide ((n : Int) < 9218868437227405312) = true := by simp only [decide_eq_true_eq]; exact h6
    clear h6
    go_enter Try.func19, Try.ntmps19
    go_wp2_with (go_at_call 14; refine (H.out _).mono ?_; rintro e w' ⟨rfl, rfl⟩)
    go_ret
    exact ⟨rfl, rfl⟩
  rw [if_neg h6]
  have bh6 : decide ((n : Int) < 9218868437227405312) = false := by simp only [decide_eq_false_iff_not]; exact h6
  clear h6
  go_enter Try.func19, Try.ntmps19
  go_wp2_with (go_at_call 14; refine (H.out _).mono ?_; rintro e w' ⟨rfl, rfl⟩)
  go_ret
  exact ⟨rfl, rfl⟩
set_option maxRecDepth 100000 in
theorem nanI_c (x : Int) (w : World) : Calls Try.prog 58 #[.int .i64 x] w fun e w' => e = .returned (.bool false) ∧ w = w' := by
  go_enter Try.func58, Try.ntmps58
  go_wp2
  all_goals
    go_ret
    exact ⟨rfl, rfl⟩
set_option maxRecDepth 100000 in
theorem cmpI_c (x y : Int) (w : World) : Calls Try.prog 48 #[.int .i64 x, .int .i64 y] w fun e w' => e = .returned (.int .i64 (Fl.cmpI x y)) ∧ w = w' := by
  go_enter Try.func48, Try.ntmps48
  go_wp2_with (first | (go_at_call 58; (with_reducible refine (nanI_c _ _).mono ?_); rintro e w' ⟨rfl, rfl⟩))
  all_goals
    go_ret
    exact ⟨ret_int (by unfold Fl.cmpI; omega), rfl⟩
set_option maxRecDepth 100000 in
theorem rank_c (x : Nat) (w : World) : Calls Try.prog 49 #[.float .f64 x] w fun e w' => e = .returned (.int .i64 (Fl.rank x)) ∧ w = w' := by
  have H := Lib.hid (class_c x)
  unfold Fl.rank
  generalize Fl.pcls x = c at *
  by_cases h1 : c = 0
  · subst h1
    go_enter Try.func49, Try.ntmps49
    go_wp2_with (go_at_call 23; refine (H.out _).mono ?_; rintro e w' ⟨rfl, rfl⟩)
    go_ret
    exact ⟨rfl, rfl⟩
  by_cases h2 : c = 3
  · subst h2
    go_enter Try.func49, Try.ntmps49
    go_wp2_with (go_at_call 23; refine (H.out _).mono ?_; rintro e w' ⟨rfl, rfl⟩)
    go_ret
    exact ⟨rfl, rfl⟩
  rw [if_neg h1, if_neg h2]
  have b1 : (c == 0) = false := by simpa using h1
  have b2 : (c == 3) = false := by simpa using h2
  clear h1 h2
  go_enter Try.func49, Try.ntmps49
  go_wp2_with (go_at_call 23; refine (H.out _).mono ?_; rintro e w' ⟨rfl, rfl⟩)
  go_ret
  exact ⟨rfl, rfl⟩
set_option maxRecDepth 100000 in
theorem compare_c (x y : Nat) (w : World) : Calls Try.prog 13 #[.float .f64 x, .float .f64 y] w fun e w' => e = .returned (.int .i64 (Fl.cmpF x y)) ∧ w = w' := by
  go_enter Try.func13, Try.ntmps13
  go_wp2_with (first | (go_at_call 49; (with_reducible refine (rank_c _ _).mono ?_); rintro e w' ⟨rfl, rfl⟩) | (go_at_call 48; (with_reducible refine (cmpI_c _ _ _).mono ?_); rintro e w' ⟨rfl, rfl⟩))
  all_goals
    go_ret
    exact ⟨ret_int (by unfold Fl.cmpF; simp [*]), rfl⟩
set_option maxRecDepth 100000 in
theorem inf_p  (w : World) : Calls Try.prog 53 #[.int .i64 1] w fun e w' => e = .returned (.float .f64 Fl.inf) ∧ w = w' := by
  go_enter Try.func53, Try.ntmps53
  go_wp2
  all_goals
    go_ret
    exact ⟨rfl, rfl⟩
set_option maxRecDepth 100000 in
theorem inf_n  (w : World) : Calls Try.prog 53 #[.int .i64 (-1)] w fun e w' => e = .returned (.float .f64 Fl.ninf) ∧ w = w' := by
  go_enter Try.func53, Try.ntmps53
  go_wp2
  all_goals
    go_ret
    exact ⟨rfl, rfl⟩
set_option maxRecDepth 100000 in
theorem rplace_c (n : Nat) (w : World) : Calls Try.prog 52 #[.int .u64 (n : Int)] w fun e w' => e = .returned (.int .u64 ((Fl.place n : Nat) : Int)) ∧ w = w' := by
  have H := Lib.hid (rclean_c n)
  have e : (Fl.place n : Int) = if 9223372036854775808 ≤ (Fl.cln n : Int) then 9223372036854775807 - (Fl.cln n : Int) % 9223372036854775808 else 9223372036854775808 + (Fl.cln n : Int) := by
    unfold Fl.place
    split <;> omega
  rw [e]
  clear e
  generalize Fl.cln n = m at *
  by_cases hx : (9223372036854775808 : Int) ≤ (m : Int)
  · rw [if_pos hx]
    go_enter Try.func52, Try.ntmps52
    go_wp2_with (go_at_call 14; refine (H.out _).mono ?_; rintro e w' ⟨rfl, rfl⟩)
    go_ret
    exact ⟨rfl, rfl⟩
  · rw [if_neg hx]
    have b1 : decide ((9223372036854775808 : Int) ≤ (m : Int)) = false := decide_eq_false hx
    obtain ⟨s, hs⟩ : ∃ s, s = 9223372036854775808 + (m : Int) := ⟨_, rfl⟩
    rw [← hs]
    have x1 : IntKind.u64.wrap (9223372036854775808 + (m : Int)) = s := by rw [hs]; exact u64_in (by omega) (by omega)
    clear hs hx
    go_enter Try.func52, Try.ntmps52
    go_wp2_with (go_at_call 14; refine (H.out _).mono ?_; rintro e w' ⟨rfl, rfl⟩)
    go_ret
    exact ⟨rfl, rfl⟩
set_option maxRecDepth 100000 in
theorem rcompare_c (x y : Nat) (w : World) : Calls Try.prog 27 #[.int .u64 (x : Int), .int .u64 (y : Int)] w fun e w' => e = .returned (.int .i64 (Fl.cmpW x y)) ∧ w = w' := by
  go_enter Try.func27, Try.ntmps27
  go_wp2_with (first | (go_at_call 52; (with_reducible refine (rplace_c _ _).mono ?_); rintro e w' ⟨rfl, rfl⟩))
  all_goals
    go_ret
    exact ⟨ret_int (by unfold Fl.cmpW; simp [*]), rfl⟩
end Go.Proofs.Ytijgopcddjnfdaa
