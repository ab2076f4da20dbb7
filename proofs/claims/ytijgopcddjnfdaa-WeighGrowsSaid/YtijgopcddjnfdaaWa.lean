/- What is proved here: plainly, what it costs to go over links, the program's way and the document's. -/
import Derived.Test.YtijgopcddjnfdaaFd
namespace Go.Proofs.Ytijgopcddjnfdaa
namespace Fl
/-- Is there such a link? -/
def hasB (n : Nat) (x : Int) : Bool := decide (0 ≤ x) && decide (x < (n : Int))
theorem hasB_iff {n : Nat} {x : Int} : hasB n x = true ↔ 0 ≤ x ∧ x < (n : Int) := by simp [hasB]
theorem hasB_no {n : Nat} {x : Int} : hasB n x = false ↔ ¬ (0 ≤ x ∧ x < (n : Int)) := by
  rw [← hasB_iff]
  cases hasB n x <;> simp
def wat (ws : List Nat) (x : Int) : Nat := ws.getD x.toNat 0
/-- From the last link on: none: there is no such link. -/
def back (ws : List Nat) : List Int → Option Nat
  | [] => some 0
  | x :: r => match back ws r with
    | none => none
    | some c => if hasB ws.length x = true then some (plusF (wat ws x) c) else none
def walkP (ws : List Nat) (way : List Int) : Nat := (back ws way).getD inf
def allB (n : Nat) (way : List Int) : Bool := way.all (hasB n)
theorem back_none {ws : List Nat} : ∀ {way : List Int}, back ws way = none ↔ allB ws.length way = false := by
  intro way
  induction way with
  | nil => simp [back, allB]
  | cons x r ih =>
    unfold back
    have e : allB ws.length (x :: r) = (hasB ws.length x && allB ws.length r) := rfl
    rw [e]
    cases hb : back ws r with
    | none => simp [ih.1 hb]
    | some c =>
      have : allB ws.length r = true := by
        cases h : allB ws.length r with
        | true => rfl
        | false => rw [ih.2 h] at hb; cases hb
      rw [this]
      cases h : hasB ws.length x <;> simp
/-- The document's: of bits. -/
def rwalkF (bs : List Nat) : List Int → Nat
  | [] => 0
  | x :: r => plusF (wat bs x) (rwalkF bs r)
def rwalkP (bs : List Nat) (way : List Int) : Nat := if allB bs.length way = true then rwalkF bs way else inf
theorem cadd_clean_l (x y : Nat) : cadd (clean x) y = cadd x y := by
  rcases clean_or x with ⟨h, e⟩ | ⟨_, e⟩
  · rw [e]
    have h1 : Ieee.double.add one y = none := add_nan (.inl nan_one)
    have h2 : Ieee.double.add x y = none := add_nan (.inl h)
    unfold cadd
    rw [h1, h2]
  · rw [e]
theorem plusF_clean_l (x y : Nat) : plusF (clean x) y = plusF x y := by unfold plusF; rw [cadd_clean_l]
theorem wat_clean (bs : List Nat) (x : Int) : wat (bs.map clean) x = clean (wat bs x) := by
  unfold wat
  rw [List.getD_eq_getElem?_getD, List.getD_eq_getElem?_getD, List.getElem?_map]
  cases bs[x.toNat]? <;> rfl
theorem back_all {bs : List Nat} : ∀ {way : List Int}, allB bs.length way = true → back (bs.map clean) way = some (rwalkF bs way) := by
  intro way
  induction way with
  | nil => intro _; rfl
  | cons x r ih =>
    intro h
    have e : allB bs.length (x :: r) = (hasB bs.length x && allB bs.length r) := rfl
    rw [e, Bool.and_eq_true] at h
    unfold back
    rw [ih h.2]
    simp only [List.length_map]
    rw [if_pos h.1, wat_clean, plusF_clean_l]
    rfl
theorem walk_eq (bs : List Nat) (way : List Int) : walkP (bs.map clean) way = rwalkP bs way := by
  unfold walkP rwalkP
  split
  · rename_i h; rw [back_all h]; rfl
  · rename_i h
    have : back (bs.map clean) way = none := back_none.2 (by rw [List.length_map]; simpa using h)
    rw [this]; rfl
theorem plusF_w (x y : Nat) : W64 (plusF x y) := by
  unfold plusF
  split
  · exact w_zero
  · exact cadd_w x y
theorem plusF_clean (x y : Nat) : clean (plusF x y) = plusF x y := by
  unfold plusF
  split
  · decide
  · exact cadd_clean x y
theorem rwalkP_clean (bs : List Nat) (way : List Int) : clean (rwalkP bs way) = rwalkP bs way := by
  unfold rwalkP
  split
  · cases way with
    | nil => exact (by decide : clean 0 = 0)
    | cons x r => exact plusF_clean _ _
  · decide
theorem rwalkP_w (bs : List Nat) (way : List Int) : W64 (rwalkP bs way) := by
  unfold rwalkP
  split
  · cases way with
    | nil => exact w_zero
    | cons x r => exact plusF_w _ _
  · exact w_inf
end Fl
end Go.Proofs.Ytijgopcddjnfdaa
