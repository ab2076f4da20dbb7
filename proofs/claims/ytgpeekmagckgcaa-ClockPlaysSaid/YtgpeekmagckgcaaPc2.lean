/- The plain laws of clocks: distances change by Drift at the most; no clock goes back. -/
import Derived.Test.YtgpeekmagckgcaaK5
import Derived.Test.YtgpeekmagckgcaaPc
namespace Go.Proofs.Ytgpeekmagckgcaa.Pl
def at0 (l : List Cl) (i : Int) : Cl := l.getD i.toNat (0, 0, 0)
theorem apartAt_eq (l : List Cl) (i : Int) : apartAt l i = if thereB l.length i = true then (at0 l i).1 + (at0 l i).2.2 / 1000 else 0 := by
  unfold apartAt
  by_cases h : 0 ≤ i ∧ i < (l.length : Int)
  · rw [dif_pos h, if_pos (thereB_iff.2 h)]
    unfold apart at0
    rw [List.getD_eq_getElem?_getD, List.getElem?_eq_getElem (by omega)]
    rfl
  · rw [dif_neg h, if_neg (by rw [thereB_no h]; simp)]
theorem ticked_at (n : Int) (l : List Cl) (i : Int) : at0 (ticked n l) i = tk n (at0 l i) := by
  unfold at0 ticked
  rw [List.getD_eq_getElem?_getD, List.getD_eq_getElem?_getD, List.getElem?_map]
  cases l[i.toNat]? <;> simp [tk]
theorem ticked_len (n : Int) (l : List Cl) : (ticked n l).length = l.length := by simp [ticked]
theorem rated_at (l : List Cl) (m j r i : Int) : (at0 (rated l m j r) i).1 = (at0 l i).1 ∧ (at0 (rated l m j r) i).2.2 = (at0 l i).2.2 := by
  unfold rated
  split
  · unfold at0
    rw [List.getD_eq_getElem?_getD, List.getD_eq_getElem?_getD, List.getElem?_modify]
    by_cases e : j.toNat = i.toNat
    · cases l[i.toNat]? <;> simp [e]
    · cases l[i.toNat]? <;> simp [e]
  · exact ⟨rfl, rfl⟩
theorem Ok.at0 {real most : Int} {l : List Cl} (h : Ok real most l) (i : Int) : -1048576 ≤ (at0 l i).1 ∧ (at0 l i).1 ≤ 1048576 ∧ -most ≤ (at0 l i).2.1 ∧ (at0 l i).2.1 ≤ most ∧ -(500 * real) ≤ (at0 l i).2.2 ∧ (at0 l i).2.2 ≤ 500 * real := by
  unfold Pl.at0
  rw [List.getD_eq_getElem?_getD]
  by_cases hi : i.toNat < l.length
  · rw [List.getElem?_eq_getElem hi]
    exact h.at_ _ hi
  · rw [List.getElem?_eq_none (by omega)]
    have := h.r0
    have := h.m0
    simp
    omega
/-- How far the distance may have come from A0, since R0. -/
def Near (l : List Cl) (i A0 R0 real most : Int) : Prop :=
  R0 ≤ real ∧ 0 ≤ R0 ∧ if thereB l.length i = true then ∃ s0, A0 = (at0 l i).1 + s0 / 1000 ∧ -(most * (real - R0)) ≤ (at0 l i).2.2 - s0 ∧ (at0 l i).2.2 - s0 ≤ most * (real - R0) else A0 = 0
theorem Near.refl {real most : Int} {l : List Cl} (h : Ok real most l) (i : Int) : Near l i (apartAt l i) real real most := by
  refine ⟨by omega, h.r0, ?_⟩
  rw [apartAt_eq]
  split
  · refine ⟨_, rfl, by simp, by simp⟩
  · rfl
theorem step_bd {real n : Int} (h0 : 0 ≤ real) (h1 : real ≤ 1099511627776) : 0 ≤ step real n ∧ real + step real n ≤ 1099511627776 := by unfold step; omega
theorem Near.tick {l : List Cl} {i A0 R0 real most : Int} (h : Near l i A0 R0 real most) (ok : Ok real most l) (n : Int) : Near (ticked (step real n) l) i A0 R0 (real + step real n) most := by
  obtain ⟨h1, h2, h3⟩ := h
  have hs := step_bd (n := n) ok.r0 ok.r1
  refine ⟨by omega, h2, ?_⟩
  rw [ticked_len]
  split
  · rename_i ht
    rw [if_pos ht] at h3
    obtain ⟨s0, e, b1, b2⟩ := h3
    rw [ticked_at]
    have hr := ok.at0 i
    refine ⟨s0, e, ?_, ?_⟩
    · have a := Int.mul_le_mul_of_nonneg_left hr.2.2.1 hs.1
      have e1 : most * (real + step real n - R0) = most * (real - R0) + step real n * most := by
        rw [show real + step real n - R0 = (real - R0) + step real n by omega, Int.mul_add, Int.mul_comm most (step real n)]
      have e2 : step real n * (-most) = -(step real n * most) := Int.mul_neg _ _
      simp only [tk]
      omega
    · have a := Int.mul_le_mul_of_nonneg_left hr.2.2.2.1 hs.1
      have e1 : most * (real + step real n - R0) = most * (real - R0) + step real n * most := by
        rw [show real + step real n - R0 = (real - R0) + step real n by omega, Int.mul_add, Int.mul_comm most (step real n)]
      simp only [tk]
      omega
  · rename_i ht
    rw [if_neg ht] at h3
    exact h3
theorem Near.rate {l : List Cl} {i A0 R0 real most : Int} (h : Near l i A0 R0 real most) (j r : Int) : Near (rated l most j r) i A0 R0 real most := by
  obtain ⟨h1, h2, h3⟩ := h
  refine ⟨h1, h2, ?_⟩
  rw [rated_len, (rated_at l most j r i).1, (rated_at l most j r i).2]
  exact h3
theorem Near.bd {l : List Cl} {i A0 R0 real most : Int} (h : Near l i A0 R0 real most) (ok : Ok real most l) : apartAt l i - A0 ≤ drift (real - R0) most ∧ A0 - apartAt l i ≤ drift (real - R0) most := by
  obtain ⟨h1, h2, h3⟩ := h
  have r1 := ok.r1
  have m0 := ok.m0
  have m1 := ok.m1
  have e1 : cs (real - R0) = real - R0 := by unfold cs; omega
  have e2 : cm most = most := by unfold cm; omega
  unfold drift
  rw [e1, e2, Int.mul_comm, apartAt_eq]
  have hp : 0 ≤ most * (real - R0) := Int.mul_nonneg m0 (by omega)
  split
  · rename_i ht
    rw [if_pos ht] at h3
    obtain ⟨s0, e, b1, b2⟩ := h3
    subst e
    generalize most * (real - R0) = q at *
    omega
  · rename_i ht
    rw [if_neg ht] at h3
    omega
theorem read_tick {l : List Cl} {real most : Int} (ok : Ok real most l) (n i : Int) : readAt real l i ≤ readAt (real + step real n) (ticked (step real n) l) i := by
  unfold readAt
  rw [apartAt_eq, apartAt_eq, ticked_len, ticked_at]
  split
  · have hr := ok.at0 i
    have hs := step_bd (n := n) ok.r0 ok.r1
    have m1 := ok.m1
    have a : step real n * (-500) ≤ step real n * (at0 l i).2.1 := Int.mul_le_mul_of_nonneg_left (by omega) hs.1
    simp only [tk]
    omega
  · exact Int.le_refl _
theorem read_rate (l : List Cl) (real m j r i : Int) : readAt real (rated l m j r) i = readAt real l i := by
  unfold readAt
  rw [apartAt_eq, apartAt_eq, rated_len, (rated_at l m j r i).1, (rated_at l m j r i).2]
end Go.Proofs.Ytgpeekmagckgcaa.Pl
