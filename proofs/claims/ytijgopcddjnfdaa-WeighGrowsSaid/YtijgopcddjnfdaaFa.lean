/- What is proved here: what single operations on doubles and words give. Condition: none. -/
import Derived.Test.YtijgopcddjnfdaaProg
import Derived.Test.YtijgopcddjnfdaaFm
import Derived.WalkKit
import Derived.WalkLawsBesides
import Derived.WalkSpells
import Derived.Handy
import Derived.Laws.Externs
import Derived.IntWalk
import Derived.Lib.Hide
import Derived.Below
import Derived.Laws.FloatArith
import Derived.Deep.Draws
namespace Go.Proofs.Ytijgopcddjnfdaa
open Go Go.RowKit

namespace Fl
/-- Comparisons, as the model has them. -/
def lt (x y : Nat) : Bool := Ieee.double.order x y == some .lt
def gt (x y : Nat) : Bool := Ieee.double.order x y == some .gt
def eq (x y : Nat) : Bool := Ieee.double.order x y == some .eq
def le (x y : Nat) : Bool := Ieee.double.order x y == some .lt || Ieee.double.order x y == some .eq
def ge (x y : Nat) : Bool := Ieee.double.order x y == some .gt || Ieee.double.order x y == some .eq
def one : Nat := 9221120237041090561
def inf : Nat := 9218868437227405312
def sign : Nat := 9223372036854775808
def ninf : Nat := 18442240474082181120
def maxf : Nat := 9218868437227405311
def clean (x : Nat) : Nat := if nan x = true then one else x
def neg (x : Nat) : Nat := x ^^^ 9223372036854775808
def W64 (x : Nat) : Prop := x < 18446744073709551616
def isW (n m : Nat) : Bool := decide (n = m)
def ltW (n m : Nat) : Bool := decide (n < m)
def gtW (n m : Nat) : Bool := decide (m < n)
def leW (n m : Nat) : Bool := decide (n ≤ m)
def geW (n m : Nat) : Bool := decide (m ≤ n)
end Fl

theorem op_lss (t : TypeId) (x y : Nat) : binOp .lss t (.float .f64 x) (.float .f64 y) = pure (.bool (Fl.lt x y)) := by simp only [go_sem]; rfl
theorem op_gtr (t : TypeId) (x y : Nat) : binOp .gtr t (.float .f64 x) (.float .f64 y) = pure (.bool (Fl.gt x y)) := by simp only [go_sem]; rfl
theorem op_geq (t : TypeId) (x y : Nat) : binOp .geq t (.float .f64 x) (.float .f64 y) = pure (.bool (Fl.ge x y)) := by simp only [go_sem]; rfl
theorem op_leq (t : TypeId) (x y : Nat) : binOp .leq t (.float .f64 x) (.float .f64 y) = pure (.bool (Fl.le x y)) := by simp only [go_sem]; rfl
theorem op_eql (t : TypeId) (x y : Nat) : binOp .eql t (.float .f64 x) (.float .f64 y) = pure (.bool (Fl.eq x y)) := by simp only [go_sem]; rfl
theorem op_neq (t : TypeId) (x y : Nat) : binOp .neq t (.float .f64 x) (.float .f64 y) = pure (.bool (!Fl.eq x y)) := by simp only [go_sem]; rfl
theorem op_neg (x : Nat) : Op.unary .neg (.float .f64 x) = pure (.float .f64 (Fl.neg x)) := rfl
theorem wop_eql (t : TypeId) (x y : Nat) : binOp .eql t (.int .u64 (x : Int)) (.int .u64 (y : Int)) = pure (.bool (Fl.isW x y)) := by
  show (pure (.bool _) : Sem Value) = _
  congr 2
  unfold Fl.isW
  rw [Bool.eq_iff_iff]
  simp only [beq_iff_eq, decide_eq_true_eq]
  omega
theorem wop_neq (t : TypeId) (x y : Nat) : binOp .neq t (.int .u64 (x : Int)) (.int .u64 (y : Int)) = pure (.bool (!Fl.isW x y)) := by
  show (pure (.bool _) : Sem Value) = _
  congr 2
  unfold Fl.isW
  rw [Bool.eq_iff_iff]
  simp only [bne_iff_ne, Bool.not_eq_true', decide_eq_false_iff_not, ne_eq]
  omega
theorem wop_lss (t : TypeId) (x y : Nat) : binOp .lss t (.int .u64 (x : Int)) (.int .u64 (y : Int)) = pure (.bool (Fl.ltW x y)) := by
  show (pure (.bool _) : Sem Value) = _
  congr 2
  unfold Fl.ltW
  rw [Bool.eq_iff_iff]
  simp
theorem wop_gtr (t : TypeId) (x y : Nat) : binOp .gtr t (.int .u64 (x : Int)) (.int .u64 (y : Int)) = pure (.bool (Fl.gtW x y)) := by
  show (pure (.bool _) : Sem Value) = _
  congr 2
  unfold Fl.gtW
  rw [Bool.eq_iff_iff]
  simp
theorem wop_leq (t : TypeId) (x y : Nat) : binOp .leq t (.int .u64 (x : Int)) (.int .u64 (y : Int)) = pure (.bool (Fl.leW x y)) := by
  show (pure (.bool _) : Sem Value) = _
  congr 2
  unfold Fl.leW
  rw [Bool.eq_iff_iff]
  simp
theorem wop_geq (t : TypeId) (x y : Nat) : binOp .geq t (.int .u64 (x : Int)) (.int .u64 (y : Int)) = pure (.bool (Fl.geW x y)) := by
  show (pure (.bool _) : Sem Value) = _
  congr 2
  unfold Fl.geW
  rw [Bool.eq_iff_iff]
  simp
/-- Literals read as words. -/
theorem lit_one : (9221120237041090561 : Int) = ((Fl.one : Nat) : Int) := rfl
theorem lit_inf : (9218868437227405312 : Int) = ((Fl.inf : Nat) : Int) := rfl
theorem lit_sign : (9223372036854775808 : Int) = ((Fl.sign : Nat) : Int) := rfl
theorem lit_ninf : (18442240474082181120 : Int) = ((Fl.ninf : Nat) : Int) := rfl
theorem lit_maxf : (9218868437227405311 : Nat) = Fl.maxf := rfl
theorem op_rem (x : Nat) (t : TypeId) : binOp .rem t (.int .u64 (x : Int)) (.int .u64 ((Fl.sign : Nat) : Int)) = pure (.int .u64 ((Fl.rung x : Nat) : Int)) := rfl
section
variable {w : World}
theorem run_frombits (n : Nat) : (callFunc 47 #[.int .u64 (n : Int)]).run Try.prog w = .ok (.value (.float .f64 n)) w :=
  (run_callFunc_extern (e := Extern.MathFloatBits.float64frombits) Try.func47 (by kernel_rfl) (by kernel_rfl) (by kernel_rfl) (by kernel_rfl) _ _).trans rfl
theorem run_bits (n : Nat) : (callFunc 24 #[.float .f64 n]).run Try.prog w = .ok (.value (.int .u64 (n : Int))) w :=
  (run_callFunc_extern (e := Extern.MathFloatBits.float64bits) Try.func24 (by kernel_rfl) (by kernel_rfl) (by kernel_rfl) (by kernel_rfl) _ _).trans rfl
end
end Go.Proofs.Ytijgopcddjnfdaa
