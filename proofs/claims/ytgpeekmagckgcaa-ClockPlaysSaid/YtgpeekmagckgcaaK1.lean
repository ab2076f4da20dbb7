/- What is proved here: what the program's clocks answer, read and turned. Condition: they lie in memory of the call's own. -/
import Derived.Test.YtgpeekmagckgcaaD1
import Derived.Laws.OwnMore
import Derived.Deep.Slices
import Derived.Maps.AppendAt
namespace Go.Proofs.Ytgpeekmagckgcaa
open Go Go.RowKit

namespace Pl
/-- A clock: start, rate, sum. -/
abbrev Cl := Int × Int × Int
def apart (c : Cl) : Int := c.1 + c.2.2 / 1000
end Pl
def cflat (l : List Pl.Cl) : List Value := l.flatMap fun c => [.int .i64 c.1, .int .i64 c.2.1, .int .i64 c.2.2]
theorem cflat_len (l : List Pl.Cl) : (cflat l).length = l.length * 3 := by
  induction l with
  | nil => rfl
  | cons o l ih => simp only [cflat, List.flatMap_cons, List.length_append, List.length_cons, List.length_nil] at *; omega
theorem cflat_append (a b : List Pl.Cl) : cflat (a ++ b) = cflat a ++ cflat b := by simp [cflat]
theorem cflat_get (l : List Pl.Cl) : ∀ (i : Nat) (h : i < l.length), (cflat l)[i * 3]? = some (.int .i64 (l[i]).1) ∧ (cflat l)[i * 3 + 1]? = some (.int .i64 (l[i]).2.1) ∧ (cflat l)[i * 3 + 2]? = some (.int .i64 (l[i]).2.2) := by
  induction l with
  | nil => intro i h; cases h
  | cons o l ih =>
    intro i h
    cases i with
    | zero => exact ⟨rfl, rfl, rfl⟩
    | succ i =>
      have := ih i (by simpa using h)
      have e1 : (i + 1) * 3 = i * 3 + 1 + 1 + 1 := by omega
      rw [e1]
      exact ⟨by simpa [cflat] using this.1, by simpa [cflat] using this.2.1, by simpa [cflat] using this.2.2⟩

/-- The clocks lie at block p, their row at block g, both from B on. -/
structure Ck (B : Nat) (w : World) (p g cap : Nat) (real most : Int) (l : List Pl.Cl) : Prop where
  hp : B ≤ p
  at_ : w.heap[p]? = some (.cells #[.int .i64 real, .int .i64 most, .slice (some ⟨g, 0, none⟩) l.length cap] 95 (0, 0))
  own : w.ownsRow B 97 3 (.slice (some ⟨g, 0, none⟩) l.length cap) l.length (cflat l)
section
variable {B : Nat} {w : World} {p g cap : Nat} {real most : Int} {l : List Pl.Cl}
theorem Ck.c0 (h : Ck B w p g cap real most l) : w.cell? ⟨p, 0, none⟩ = some (.int .i64 real) := block_cell h.at_ 0
theorem Ck.c1 (h : Ck B w p g cap real most l) : w.cell? ⟨p, 1, none⟩ = some (.int .i64 most) := block_cell h.at_ 1
theorem Ck.c2 (h : Ck B w p g cap real most l) : w.cell? ⟨p, 2, none⟩ = some (.slice (some ⟨g, 0, none⟩) l.length cap) := block_cell h.at_ 2
theorem Ck.fp (h : Ck B w p g cap real most l) (i : Nat) : w.frozen? ⟨p, i, none⟩ = false := block_free h.at_ i
theorem Ck.le (h : Ck B w p g cap real most l) : l.length ≤ cap ∧ cap ≤ maxLen := by
  rcases h.own.2 with ⟨h0, _⟩ | ⟨g', cap', cur, hv, _, _, h1, h2, _⟩
  · cases h0
  · cases hv; exact ⟨h1, h2⟩
theorem Ck.el (h : Ck B w p g cap real most l) (i : Nat) (hi : i < l.length) : w.cell? ⟨g, i * 3, none⟩ = some (.int .i64 (l[i]).1) ∧ w.cell? ⟨g, i * 3 + 1, none⟩ = some (.int .i64 (l[i]).2.1) ∧ w.cell? ⟨g, i * 3 + 2, none⟩ = some (.int .i64 (l[i]).2.2) := by
  have e := cflat_get l i hi
  have hl := cflat_len l
  refine ⟨(h.own.cellAt (i * 3) (by omega)).trans e.1, (h.own.cellAt (i * 3 + 1) (by omega)).trans e.2.1, (h.own.cellAt (i * 3 + 2) (by omega)).trans e.2.2⟩
theorem Ck.fg (h : Ck B w p g cap real most l) (i : Nat) : w.frozen? ⟨g, i, none⟩ = false := h.own.frozenAt i
end

/-- Is there such a clock? -/
def thereB (n : Nat) (i : Int) : Bool := decide (0 ≤ i) && decide (i < (n : Int))
theorem thereB_iff {n : Nat} {i : Int} : thereB n i = true ↔ 0 ≤ i ∧ i < (n : Int) := by unfold thereB; simp
theorem thereB_no {n : Nat} {i : Int} (h : ¬ (0 ≤ i ∧ i < (n : Int))) : thereB n i = false := by cases e : thereB n i; rfl; exact absurd (thereB_iff.1 e) h

/-! ### No clocks -/
theorem is_nil (i : Int) (w : World) : Calls Try.prog 68 #[.pointer none, .int .i64 i] w fun e w' => e = .returned (.bool false) ∧ w = w' := by
  go_enter Try.func68, Try.ntmps68
  go_wp2
  go_ret
  exact ⟨rfl, rfl⟩
theorem real_nil (w : World) : Calls Try.prog 33 #[.pointer none] w fun e w' => e = .returned (.int .i64 0) ∧ w = w' := by
  go_enter Try.func33, Try.ntmps33
  go_wp2
  go_ret
  exact ⟨rfl, rfl⟩
theorem apart_nil (i : Int) (w : World) : Calls Try.prog 35 #[.pointer none, .int .i64 i] w fun e w' => e = .returned (.int .i64 0) ∧ w = w' := by
  go_enter Try.func35, Try.ntmps35
  go_wp2_with (go_at_call 68; refine (is_nil _ _).mono ?_; rintro e w' ⟨rfl, rfl⟩)
  go_ret
  exact ⟨rfl, rfl⟩
theorem read_nil (i : Int) (w : World) : Calls Try.prog 31 #[.pointer none, .int .i64 i] w fun e w' => e = .returned (.int .i64 0) ∧ w = w' := by
  go_enter Try.func31, Try.ntmps31
  go_wp2_with (go_at_call 68; refine (is_nil _ _).mono ?_; rintro e w' ⟨rfl, rfl⟩)
  go_ret
  exact ⟨rfl, rfl⟩
theorem rate_nil (i r : Int) (w : World) : Calls Try.prog 29 #[.pointer none, .int .i64 i, .int .i64 r] w fun e w' => e = .returned (.int .i64 7) ∧ w = w' := by
  go_enter Try.func29, Try.ntmps29
  go_wp2_with (go_at_call 68; refine (is_nil _ _).mono ?_; rintro e w' ⟨rfl, rfl⟩)
  go_ret
  exact ⟨rfl, rfl⟩
theorem tick_nil (n : Int) (w : World) : Calls Try.prog 27 #[.pointer none, .int .i64 n] w fun e w' => e = .returned (.tuple #[]) ∧ w = w' := by
  go_enter Try.func27, Try.ntmps27
  go_wp2
  refine bodyPost_ret (results_none rfl _ _ _) rfl ?_
  exact ⟨rfl, rfl⟩

/-! ### Clocks -/
section
variable {B : Nat} {w : World} {p g cap : Nat} {real most : Int} {l : List Pl.Cl}
theorem is_c (i : Int) (h : Ck B w p g cap real most l) : Calls Try.prog 68 #[.pointer (some ⟨p, 0, none⟩), .int .i64 i] w fun e w' => e = .returned (.bool (thereB l.length i)) ∧ w = w' := by
  have c2 := h.c2
  clear h
  go_enter Try.func68, Try.ntmps68
  go_wp2
  all_goals
    go_ret
    exact ⟨ret_bool (by unfold thereB; simp; try omega), rfl⟩
theorem real_c (h : Ck B w p g cap real most l) : Calls Try.prog 33 #[.pointer (some ⟨p, 0, none⟩)] w fun e w' => e = .returned (.int .i64 real) ∧ w = w' := by
  have c0 := h.c0
  clear h
  go_enter Try.func33, Try.ntmps33
  go_wp2
  go_ret
  exact ⟨rfl, rfl⟩
theorem apart_no (i : Int) (h : Ck B w p g cap real most l) (hi : ¬ (0 ≤ i ∧ i < (l.length : Int))) : Calls Try.prog 35 #[.pointer (some ⟨p, 0, none⟩), .int .i64 i] w fun e w' => e = .returned (.int .i64 0) ∧ w = w' := by
  have hb := thereB_no hi
  clear hi
  have HI := Lib.hid (is_c i h)
  rw [hb] at HI
  clear hb
  go_enter Try.func35, Try.ntmps35
  go_wp2_with (go_at_call 68; refine HI.out.mono ?_; rintro e w' ⟨rfl, rfl⟩)
  go_ret
  exact ⟨rfl, rfl⟩
theorem apart_run (k : Nat) (h : Ck B w p g cap real most l) (hk : k < l.length) (hb : -4611686018427387904 ≤ (l[k]).2.2 ∧ (l[k]).2.2 ≤ 4611686018427387904) (hs : -4611686018427 ≤ (l[k]).1 ∧ (l[k]).1 ≤ 4611686018427) :
    Calls Try.prog 35 #[.pointer (some ⟨p, 0, none⟩), .int .i64 (k : Int)] w fun e w' => e = .returned (.int .i64 (Pl.apart l[k])) ∧ Below w.heap.size w w' := by
  have c2 := h.c2
  obtain ⟨e0, e1, e2⟩ := h.el k hk
  obtain ⟨l1, l2⟩ := h.le
  have HI := Lib.hid (is_c (k : Int) h)
  have hz := block_lt h.at_
  clear h
  rw [thereB_iff.2 ⟨by omega, by omega⟩] at HI
  have hf := Pl.floor_t (l[k]).2.2 1000 (by omega)
  unfold Pl.apart
  generalize (l[k]).1 = s at *
  generalize (l[k]).2.1 = r at *
  generalize (l[k]).2.2 = x at *
  obtain ⟨b1, b2⟩ := hb
  obtain ⟨b3, b4⟩ := hs
  have HF := Lib.hid hf
  clear hf
  go_enter Try.func35, Try.ntmps35
  go_wp2_with (go_at_call 68; refine HI.out.mono ?_; rintro e w' ⟨rfl, rfl⟩)
  all_goals
    go_ret
    refine ⟨ret_int ?_, by first | exact Below.refl _ _ | exact (Below.refl _ _).alloc (Nat.le_refl _) _⟩
  · have e : x.tdiv 1000 - 1 = x / 1000 := HF.out.1 (by assumption)
    have w1 : wrap64 (x.tdiv 1000 - 1) = x.tdiv 1000 - 1 := IntWalk.wrap64_in _ ⟨by omega, by omega⟩
    have w2 : wrap64 (s + x / 1000) = s + x / 1000 := IntWalk.wrap64_in _ ⟨by omega, by omega⟩
    rw [w1, e, w2]
  · have e : x.tdiv 1000 = x / 1000 := HF.out.2 (by omega)
    have w2 : wrap64 (s + x / 1000) = s + x / 1000 := IntWalk.wrap64_in _ ⟨by omega, by omega⟩
    rw [e, w2]
end
end Go.Proofs.Ytgpeekmagckgcaa
