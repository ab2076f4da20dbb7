/- What is proved here: what sums of doubles answer. Condition: the words are of 64 bits. -/
import Derived.Test.YtijgopcddjnfdaaFp
import Derived.Test.YtijgopcddjnfdaaMem
import Derived.Laws.OwnMore
import Derived.Deep.Slices
import Derived.Deep.AppendLies
import Derived.Laws.AppendOwnNone
namespace Go.Proofs.Ytijgopcddjnfdaa
open Go Go.RowKit
attribute [local go_sem ↓] run_frombits run_bits lfrombits_one lfrombits_inf lfrombits_ninf
attribute [local go_sem] op_neg

namespace Fl
/-- A sum, cleaned. -/
def cadd (x y : Nat) : Nat := match Ieee.double.add x y with
  | some r => clean r
  | none => one
def plusF (x y : Nat) : Nat := if (FloatKind.f64.format.order (cadd x y) 0 == some Ordering.eq) = true then 0 else cadd x y
def csum (l : List Nat) : Nat := l.foldl cadd 0
theorem add_w {x y r : Nat} (h : Ieee.double.add x y = some r) : W64 r := Ieee.Format.add_lt _ h
theorem cadd_w (x y : Nat) : W64 (cadd x y) := by
  unfold cadd
  cases h : Ieee.double.add x y with
  | some r => exact clean_w (add_w h)
  | none => exact w_one
theorem cadd_clean (x y : Nat) : clean (cadd x y) = cadd x y := by
  unfold cadd
  cases h : Ieee.double.add x y with
  | some r => exact clean_clean r
  | none => rfl
theorem csum_w (l : List Nat) : W64 (csum l) := by
  rcases List.eq_nil_or_concat l with rfl | ⟨m, x, rfl⟩
  · exact w_zero
  · unfold csum; rw [List.concat_eq_append, List.foldl_append]; exact cadd_w _ _
end Fl

/-- What '+' gives on two doubles. -/
theorem run_fadd (x y : Nat) (w : World) : ∃ r n, (binOp .add 23 (.float .f64 x) (.float .f64 y)).run Try.prog w = .ok (.float .f64 r) (w.drewN n) ∧ Fl.W64 r ∧ Fl.clean r = Fl.cadd x y := by
  cases h : Ieee.double.add x y with
  | some r =>
    refine ⟨r, 0, (run_float_arith w .add 23 .f64 x y r h).trans rfl, Fl.add_w h, ?_⟩
    unfold Fl.cadd
    rw [h]
  | none =>
    have hq : ∀ t : Nat, ∃ r, Question.cut (.nanBits .f64 x y) t = r ∧ Fl.W64 r ∧ Fl.nan r = true := by
      intro t
      refine ⟨_, rfl, ?_, ?_⟩
      · show (t % 2) * 2 ^ 63 + 0x7ff0000000000000 + 1 + (t / 2) % (2 ^ 52 - 1) < 18446744073709551616
        omega
      · show Fl.nan ((t % 2) * 2 ^ 63 + 0x7ff0000000000000 + 1 + (t / 2) % (2 ^ 52 - 1)) = true
        rw [Fl.nan_iff]
        have h1 : t / 2 % (2 ^ 52 - 1) < 2 ^ 52 - 1 := Nat.mod_lt _ (by decide)
        have h2 : t % 2 = 0 ∨ t % 2 = 1 := by omega
        generalize t / 2 % (2 ^ 52 - 1) = m at *
        rcases h2 with e | e <;> rw [e] <;> omega
    obtain ⟨r, hr, hw, hn⟩ := hq (w.tape w.drawn (.nanBits .f64 x y))
    refine ⟨r, 1, ?_, hw, ?_⟩
    · have h' : FloatKind.f64.format.add x y = none := h
      have e : (binOp .add 23 (.float .f64 x) (.float .f64 y)).run Try.prog w = .ok (.float .f64 (Question.cut (.nanBits .f64 x y) (w.tape w.drawn (.nanBits .f64 x y)))) w.drew := by
        simp [binOp, Op.floatArith, h', Question.forced]
      rw [e, hr]
      rfl
    · unfold Fl.cadd Fl.clean
      rw [h, if_pos hn]

theorem clean_w (x : Nat) (hx : Fl.W64 x) (w : World) : Calls Try.prog 26 #[.float .f64 x] w fun e w' => e = .returned (.float .f64 (Fl.clean x)) ∧ w = w' := by
  rw [← Fl.sel_eq hx]; exact clean_c x w
theorem bits_w (x : Nat) (hx : Fl.W64 x) (w : World) : Calls Try.prog 18 #[.float .f64 x] w fun e w' => e = .returned (.int .u64 ((Fl.clean x : Nat) : Int)) ∧ w = w' := by
  rw [← Fl.sel_eq hx]; exact bits_c x w
theorem of_w (x : Nat) (hx : Fl.W64 x) (w : World) : Calls Try.prog 25 #[.int .u64 (x : Int)] w fun e w' => e = .returned (.float .f64 (Fl.clean x)) ∧ w = w' := by
  rw [← Fl.sel_eq hx]; exact of_c x w
theorem rclean_w (x : Nat) (w : World) : Calls Try.prog 14 #[.int .u64 (x : Int)] w fun e w' => e = .returned (.int .u64 ((Fl.clean x : Nat) : Int)) ∧ w = w' := by
  rw [← Fl.cln_eq x]; exact rclean_c x w
theorem cost_w (x : Nat) (hx : Fl.W64 x) (w : World) : Calls Try.prog 22 #[.float .f64 x] w fun e w' => e = .returned (.bool (Fl.cost x)) ∧ w = w' := by
  rw [← Fl.rcost_eq, ← Fl.cost_eq hx]; exact cost_c x w
theorem rcost_w (x : Nat) (w : World) : Calls Try.prog 20 #[.int .u64 (x : Int)] w fun e w' => e = .returned (.bool (Fl.cost x)) ∧ w = w' := by
  rw [← Fl.rcost_eq]; exact rcost_c x w
namespace Fl
def cls (x : Nat) : Int := rcls (clean x)
end Fl
theorem class_w (x : Nat) (hx : Fl.W64 x) (w : World) : Calls Try.prog 23 #[.float .f64 x] w fun e w' => e = .returned (.int .i64 (Fl.cls x)) ∧ w = w' := by
  unfold Fl.cls; rw [← Fl.class_eq hx]; exact class_c x w
theorem rclass_w (x : Nat) (w : World) : Calls Try.prog 19 #[.int .u64 (x : Int)] w fun e w' => e = .returned (.int .i64 (Fl.cls x)) ∧ w = w' := by
  unfold Fl.cls; rw [← Fl.cln_eq x]; exact rclass_c x w
theorem compare_w (x y : Nat) (hx : Fl.W64 x) (hy : Fl.W64 y) (w : World) : Calls Try.prog 13 #[.float .f64 x, .float .f64 y] w fun e w' => e = .returned (.int .i64 (Fl.cmpW x y)) ∧ w = w' := by
  rw [← Fl.cmp_eq hx hy]; exact compare_c x y w

set_option maxRecDepth 100000 in
theorem plus_c (x y : Nat) (w : World) : Calls Try.prog 21 #[.float .f64 x, .float .f64 y] w fun e w' => e = .returned (.float .f64 (Fl.plusF x y)) ∧ ∃ n, w' = w.drewN n := by
  obtain ⟨r, n, hr, hw, hc⟩ := run_fadd x y w
  have H := Lib.hid (clean_w r hw)
  rw [hc] at H
  clear hc
  unfold Fl.plusF
  generalize Fl.cadd x y = s at *
  cases h0 : (FloatKind.f64.format.order s 0 == some Ordering.eq)
  all_goals
    go_enter Try.func21, Try.ntmps21
    go_wp2_with (go_at_call 26; refine (H.out _).mono ?_; rintro e w' ⟨rfl, rfl⟩)
    go_ret
    exact ⟨rfl, n, rfl⟩
end Go.Proofs.Ytijgopcddjnfdaa
