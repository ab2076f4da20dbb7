/- What is proved here: Meet of skew in one contract. Condition: times. -/
import Derived.Test.YtgpeekmagckgcaaD6
import Derived.Test.YtgpeekmagckgcaaD4
namespace Go.Proofs.Ytgpeekmagckgcaa
open Go Go.RowKit

namespace Pl
/-- The interval behind an exchange. -/
def nlo (k : Bool) (a b z t1 t2 t4 m : Int) : Int := if k = true then mlo (flo t1 t2 t4 m) (fhi t1 t2 t4 m) (olo true a b z t4 m) (ohi true a b z t4 m) else flo t1 t2 t4 m
def nhi (k : Bool) (a b z t1 t2 t4 m : Int) : Int := if k = true then mhi (flo t1 t2 t4 m) (fhi t1 t2 t4 m) (olo true a b z t4 m) (ohi true a b z t4 m) else fhi t1 t2 t4 m
theorem nlo_t (a b z t1 t2 t4 m : Int) : nlo true a b z t1 t2 t4 m = mlo (flo t1 t2 t4 m) (fhi t1 t2 t4 m) (olo true a b z t4 m) (ohi true a b z t4 m) := by unfold nlo; rw [if_pos rfl]
theorem nhi_t (a b z t1 t2 t4 m : Int) : nhi true a b z t1 t2 t4 m = mhi (flo t1 t2 t4 m) (fhi t1 t2 t4 m) (olo true a b z t4 m) (ohi true a b z t4 m) := by unfold nhi; rw [if_pos rfl]
theorem nlo_f (a b z t1 t2 t4 m : Int) : nlo false a b z t1 t2 t4 m = flo t1 t2 t4 m := by unfold nlo; rw [if_neg (by simp)]
theorem nhi_f (a b z t1 t2 t4 m : Int) : nhi false a b z t1 t2 t4 m = fhi t1 t2 t4 m := by unfold nhi; rw [if_neg (by simp)]
def bad (k : Bool) (z t1 t2 t4 : Int) : Prop := t1 < 0 ∨ t4 < t1 ∨ 1099511627776 < t4 ∨ t2 < -1125899906842624 ∨ 1125899906842624 < t2 ∨ (k = true ∧ t4 < z)
instance (k : Bool) (z t1 t2 t4 : Int) : Decidable (bad k z t1 t2 t4) := by unfold bad; infer_instance
/-- The estimate behind an exchange, the error. -/
def sm (k : Bool) (a b z t1 t2 t4 m : Int) : (Bool × Int × Int × Int) × Int :=
  if bad k z t1 t2 t4 then ((k, a, b, z), 2) else if emp (nlo k a b z t1 t2 t4 m) (nhi k a b z t1 t2 t4 m) = true then ((k, a, b, z), 16) else ((true, nlo k a b z t1 t2 t4 m, nhi k a b z t1 t2 t4 m, t4), 0)
end Pl

def est (e : Bool × Int × Int × Int) : Value := .agg #[.bool e.1, .int .i64 e.2.1, .int .i64 e.2.2.1, .int .i64 e.2.2.2]

theorem smeet_c (k : Bool) (a b z t1 t2 t4 m : Int) (w : World) (hz : Tm z) :
    Calls Try.prog 54 #[est (k, a, b, z), .int .i64 t1, .int .i64 t2, .int .i64 t4, .int .i64 m] w fun e w' => e = .returned (.tuple #[est (Pl.sm k a b z t1 t2 t4 m).1, .int .i64 (Pl.sm k a b z t1 t2 t4 m).2]) ∧ Below w.heap.size w w' := by
  by_cases hb : Pl.bad k z t1 t2 t4
  · have hr : Pl.sm k a b z t1 t2 t4 m = ((k, a, b, z), 2) := by unfold Pl.sm; rw [if_pos hb]
    rw [hr]
    unfold Pl.bad at hb
    by_cases g0 : t1 < 0
    · exact smeet_bad0 k a b z t1 t2 t4 m w g0
    by_cases g1 : t4 < t1
    · exact smeet_bad1 k a b z t1 t2 t4 m w g0 g1
    by_cases g2 : 1099511627776 < t4
    · exact smeet_bad2 k a b z t1 t2 t4 m w g0 g1 g2
    by_cases g3 : t2 < -1125899906842624
    · exact smeet_bad3 k a b z t1 t2 t4 m w g0 g1 g2 g3
    by_cases g4 : 1125899906842624 < t2
    · exact smeet_bad4 k a b z t1 t2 t4 m w g0 g1 g2 g3 g4
    have g5 : k = true ∧ t4 < z := by simpa [g0, g1, g2, g3, g4] using hb
    obtain ⟨rfl, g5⟩ := g5
    exact smeet_bad5 a b z t1 t2 t4 m w g0 g1 g2 g3 g4 g5
  · have hb' := hb
    unfold Pl.bad at hb'
    have g0 : ¬ t1 < 0 := fun h => hb' (by simp [h])
    have g1 : ¬ t4 < t1 := fun h => hb' (by simp [h])
    have g2 : ¬ 1099511627776 < t4 := fun h => hb' (by simp [h])
    have g3 : ¬ t2 < -1125899906842624 := fun h => hb' (by simp [h])
    have g4 : ¬ 1125899906842624 < t2 := fun h => hb' (by simp [h])
    cases he : Pl.emp (Pl.nlo k a b z t1 t2 t4 m) (Pl.nhi k a b z t1 t2 t4 m) with
    | true =>
      have hr : Pl.sm k a b z t1 t2 t4 m = ((k, a, b, z), 16) := by unfold Pl.sm; rw [if_neg hb, if_pos he]
      rw [hr]
      cases k with
      | true =>
        rw [Pl.nlo_t, Pl.nhi_t] at he
        exact smeet_ok11 a b z t1 t2 t4 m w g0 g1 g2 g3 g4 (fun h => hb' (by simp [h])) hz he
      | false =>
        rw [Pl.nlo_f, Pl.nhi_f] at he
        exact smeet_ok01 a b z t1 t2 t4 m w g0 g1 g2 g3 g4 he
    | false =>
      have hr : Pl.sm k a b z t1 t2 t4 m = ((true, Pl.nlo k a b z t1 t2 t4 m, Pl.nhi k a b z t1 t2 t4 m, t4), 0) := by unfold Pl.sm; rw [if_neg hb, if_neg (by rw [he]; simp)]
      rw [hr]
      cases k with
      | true =>
        rw [Pl.nlo_t, Pl.nhi_t] at he ⊢
        exact smeet_ok10 a b z t1 t2 t4 m w g0 g1 g2 g3 g4 (fun h => hb' (by simp [h])) hz he
      | false =>
        rw [Pl.nlo_f, Pl.nhi_f] at he ⊢
        exact smeet_ok00 a b z t1 t2 t4 m w g0 g1 g2 g3 g4 he
end Go.Proofs.Ytgpeekmagckgcaa
