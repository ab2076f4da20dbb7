/- What is proved here: the reference's Meet, and Aim, each in one contract. Condition: times. -/
import Derived.Test.YtgpeekmagckgcaaD7
namespace Go.Proofs.Ytgpeekmagckgcaa
open Go Go.RowKit

theorem rsmeet_c (k : Bool) (a b z t1 t2 t4 m : Int) (w : World) (hz : Tm z) :
    Calls Try.prog 56 #[est (k, a, b, z), .int .i64 t1, .int .i64 t2, .int .i64 t4, .int .i64 m] w fun e w' => e = .returned (.tuple #[est (Pl.sm k a b z t1 t2 t4 m).1, .int .i64 (Pl.sm k a b z t1 t2 t4 m).2]) ∧ Below w.heap.size w w' := by
  by_cases hb : Pl.bad k z t1 t2 t4
  · have hr : Pl.sm k a b z t1 t2 t4 m = ((k, a, b, z), 2) := by unfold Pl.sm; rw [if_pos hb]
    rw [hr]
    unfold Pl.bad at hb
    by_cases g0 : t1 < 0
    · exact rsmeet_bad0 k a b z t1 t2 t4 m w g0
    by_cases g1 : t4 < t1
    · exact rsmeet_bad1 k a b z t1 t2 t4 m w g0 g1
    by_cases g2 : 1099511627776 < t4
    · exact rsmeet_bad2 k a b z t1 t2 t4 m w g0 g1 g2
    by_cases g3 : 1125899906842624 < t2
    · exact rsmeet_bad3 k a b z t1 t2 t4 m w g0 g1 g2 g3
    by_cases g4 : t2 < -1125899906842624
    · exact rsmeet_bad4 k a b z t1 t2 t4 m w g0 g1 g2 g3 g4
    have g5 : k = true ∧ t4 < z := by simpa [g0, g1, g2, g3, g4] using hb
    obtain ⟨rfl, g5⟩ := g5
    exact rsmeet_bad5 a b z t1 t2 t4 m w g0 g1 g2 g3 g4 g5
  · have hb' := hb
    unfold Pl.bad at hb'
    have g0 : ¬ t1 < 0 := fun h => hb' (by simp [h])
    have g1 : ¬ t4 < t1 := fun h => hb' (by simp [h])
    have g2 : ¬ 1099511627776 < t4 := fun h => hb' (by simp [h])
    have g3 : ¬ 1125899906842624 < t2 := fun h => hb' (by simp [h])
    have g4 : ¬ t2 < -1125899906842624 := fun h => hb' (by simp [h])
    cases he : Pl.emp (Pl.nlo k a b z t1 t2 t4 m) (Pl.nhi k a b z t1 t2 t4 m) with
    | true =>
      have hr : Pl.sm k a b z t1 t2 t4 m = ((k, a, b, z), 16) := by unfold Pl.sm; rw [if_neg hb, if_pos he]
      rw [hr]
      cases k with
      | true =>
        rw [Pl.nlo_t, Pl.nhi_t, Pl.mlo_comm, Pl.mhi_comm] at he
        exact rsmeet_ok11 a b z t1 t2 t4 m w g0 g1 g2 g3 g4 (fun h => hb' (by simp [h])) hz he
      | false =>
        rw [Pl.nlo_f, Pl.nhi_f] at he
        exact rsmeet_ok01 a b z t1 t2 t4 m w g0 g1 g2 g3 g4 he
    | false =>
      have hr : Pl.sm k a b z t1 t2 t4 m = ((true, Pl.nlo k a b z t1 t2 t4 m, Pl.nhi k a b z t1 t2 t4 m, t4), 0) := by unfold Pl.sm; rw [if_neg hb, if_neg (by rw [he]; simp)]
      rw [hr]
      cases k with
      | true =>
        rw [Pl.nlo_t, Pl.nhi_t, Pl.mlo_comm, Pl.mhi_comm] at he ⊢
        exact rsmeet_ok10 a b z t1 t2 t4 m w g0 g1 g2 g3 g4 (fun h => hb' (by simp [h])) hz he
      | false =>
        rw [Pl.nlo_f, Pl.nhi_f] at he ⊢
        exact rsmeet_ok00 a b z t1 t2 t4 m w g0 g1 g2 g3 g4 he

namespace Pl
/-- Is it told what to aim at? -/
def aims (k : Bool) (t : Int) : Bool := k && (!decide (t < 0) && !decide (1099511627776 < t))
def ax (k : Bool) (a b z t m : Int) : Int := if aims k t = true then t + mid (olo true a b z t m) (ohi true a b z t m) else 0
def ay (k : Bool) (a b z t m : Int) : Int := if aims k t = true then half (olo true a b z t m) (ohi true a b z t m) else 0
end Pl
theorem aim_c (k : Bool) (a b z t m : Int) (w : World) (hz : Tm z) :
    Calls Try.prog 62 #[est (k, a, b, z), .int .i64 t, .int .i64 m] w fun e w' => e = .returned (.tuple #[.int .i64 (Pl.ax k a b z t m), .int .i64 (Pl.ay k a b z t m), .bool (Pl.aims k t)]) ∧ Below w.heap.size w w' := by
  have no : Pl.aims k t = false → Pl.ax k a b z t m = 0 ∧ Pl.ay k a b z t m = 0 := fun h => ⟨by unfold Pl.ax; rw [if_neg (by rw [h]; simp)], by unfold Pl.ay; rw [if_neg (by rw [h]; simp)]⟩
  cases k with
  | false =>
    have h : Pl.aims false t = false := rfl
    rw [(no h).1, (no h).2, h]
    exact aim_no0 a b z t m w
  | true =>
    by_cases g0 : t < 0
    · have h : Pl.aims true t = false := by simp [Pl.aims, g0]
      rw [(no h).1, (no h).2, h]
      exact aim_no1 a b z t m w g0
    by_cases g1 : 1099511627776 < t
    · have h : Pl.aims true t = false := by simp [Pl.aims, g1]
      rw [(no h).1, (no h).2, h]
      exact aim_no2 a b z t m w g0 g1
    have h : Pl.aims true t = true := by simp [Pl.aims, g0, g1]
    have e1 : Pl.ax true a b z t m = t + Pl.mid (Pl.olo true a b z t m) (Pl.ohi true a b z t m) := by unfold Pl.ax; rw [if_pos h]
    have e2 : Pl.ay true a b z t m = Pl.half (Pl.olo true a b z t m) (Pl.ohi true a b z t m) := by unfold Pl.ay; rw [if_pos h]
    rw [e1, e2, h]
    exact aim_ok a b z t m w g0 g1 hz
theorem raim_c (k : Bool) (a b z t m : Int) (w : World) (hz : Tm z) :
    Calls Try.prog 63 #[est (k, a, b, z), .int .i64 t, .int .i64 m] w fun e w' => e = .returned (.tuple #[.int .i64 (Pl.ax k a b z t m), .int .i64 (Pl.ay k a b z t m), .bool (Pl.aims k t)]) ∧ Below w.heap.size w w' := by
  have no : Pl.aims k t = false → Pl.ax k a b z t m = 0 ∧ Pl.ay k a b z t m = 0 := fun h => ⟨by unfold Pl.ax; rw [if_neg (by rw [h]; simp)], by unfold Pl.ay; rw [if_neg (by rw [h]; simp)]⟩
  cases k with
  | false =>
    have h : Pl.aims false t = false := rfl
    rw [(no h).1, (no h).2, h]
    exact raim_no0 a b z t m w
  | true =>
    by_cases g0 : t < 0
    · have h : Pl.aims true t = false := by simp [Pl.aims, g0]
      rw [(no h).1, (no h).2, h]
      exact raim_no1 a b z t m w g0
    by_cases g1 : 1099511627776 < t
    · have h : Pl.aims true t = false := by simp [Pl.aims, g1]
      rw [(no h).1, (no h).2, h]
      exact raim_no2 a b z t m w g0 g1
    have h : Pl.aims true t = true := by simp [Pl.aims, g0, g1]
    have e1 : Pl.ax true a b z t m = t + Pl.mid (Pl.olo true a b z t m) (Pl.ohi true a b z t m) := by unfold Pl.ax; rw [if_pos h]
    have e2 : Pl.ay true a b z t m = Pl.half (Pl.olo true a b z t m) (Pl.ohi true a b z t m) := by unfold Pl.ay; rw [if_pos h]
    rw [e1, e2, h]
    cases he : Pl.emp (Pl.olo true a b z t m) (Pl.ohi true a b z t m) with
    | true => exact raim_ok1 a b z t m w g0 g1 hz he
    | false => exact raim_ok0 a b z t m w g0 g1 hz he
end Go.Proofs.Ytgpeekmagckgcaa
