/- What is proved here: what the functions of package tick do. Condition: where it is said. -/
import Derived.Test.YthmglahcampllaaRows
import Derived.WalkKit
import Derived.WalkSpells
import Derived.WalkLawsBesides
import Derived.Handy
import Derived.Lib.Hide
import Derived.Defers
import Derived.Recover
import Derived.Laws.Pointers
namespace Go.Proofs.Ythmglahcampllaa
open Go Go.RowKit

abbrev over : Ending := .panicked [{ v := .iface 34 (.int .i64 11), recovered := false }]

set_option maxHeartbeats 400000 in
theorem time_ok (n : Int) (w : World) (h1 : -1125899906842624 ≤ n) (h2 : n ≤ 1125899906842624) :
    Calls Try.prog 71 #[.int .i64 n] w fun e w' => e = .returned (.int .i64 n) ∧ w = w' := by
  go_enter Try.func71, Try.ntmps71
  go_wp2
  go_ret
  exact ⟨rfl, rfl⟩

set_option maxHeartbeats 400000 in
theorem time_over (n : Int) (w : World) (h : n < -1125899906842624 ∨ 1125899906842624 < n) :
    Calls Try.prog 71 #[.int .i64 n] w fun e w' => e = over ∧ w = w' := by
  rcases h with h | h
  · go_enter Try.func71, Try.ntmps71
    go_wp2
    exact ⟨rfl, rfl, rfl⟩
  · have h' : ¬ n < -1125899906842624 := by omega
    go_enter Try.func71, Try.ntmps71
    go_wp2
    exact ⟨rfl, rfl, rfl⟩

set_option maxHeartbeats 400000 in
theorem caught_nil (p q : Addr) (w : World) :
    Calls Try.prog 53 #[.pointer (some p), .pointer (some q), .nilIface] w fun e w' => e = .returned (.tuple #[]) ∧ w = w' := by
  go_enter Try.func53, Try.ntmps53
  go_wp2
  go_returns
  exact ⟨rfl, rfl⟩

theorem assert34 (c : Int) (w : World) : (Instr.typeAssert (.iface 34 (.int .i64 c)) 20 34 true).run Try.prog w = .ok (.tuple #[.int .i64 c, .bool true]) w := by kernel_rfl
attribute [local go_sem] assert34

set_option maxRecDepth 20000 in
set_option maxHeartbeats 1000000 in
theorem caught_err (b : Nat) (x y c : Int) (w : World) (h1 : w.cell? ⟨b, 0, none⟩ = some (.int .i64 x)) (h2 : w.cell? ⟨b + 1, 0, none⟩ = some (.int .i64 y)) (h3 : w.frozen? ⟨b, 0, none⟩ = false) (h4 : w.frozen? ⟨b + 1, 0, none⟩ = false) :
    Calls Try.prog 53 #[.pointer (some ⟨b, 0, none⟩), .pointer (some ⟨b + 1, 0, none⟩), .iface 34 (.int .i64 c)] w fun e w' => e = .returned (.tuple #[]) ∧ ((w.setCell ⟨b, 0, none⟩ (.int .i64 0)).setCell ⟨b + 1, 0, none⟩ (.int .i64 2)).setCell ⟨b + 1, 0, none⟩ (.int .i64 c) = w' := by
  go_enter Try.func53, Try.ntmps53
  go_wp2
  go_returns
  exact ⟨rfl, rfl⟩

theorem catch_err62 (b : Nat) (x y c : Int) (older : List PanicEntry) (w : World) (h1 : w.cell? ⟨b, 0, none⟩ = some (.int .i64 x)) (h2 : w.cell? ⟨b + 1, 0, none⟩ = some (.int .i64 y)) (h3 : w.frozen? ⟨b, 0, none⟩ = false) (h4 : w.frozen? ⟨b + 1, 0, none⟩ = false) :
    CallsD Try.prog 62 #[.pointer (some ⟨b, 0, none⟩), .pointer (some ⟨b + 1, 0, none⟩)] (.panicking ({ v := .iface 34 (.int .i64 c), recovered := false } :: older)) w fun e u' w' =>
      e = .returned (.tuple #[]) ∧ u' = .panicking ({ v := .iface 34 (.int .i64 c), recovered := true } :: older) ∧ w' = ((w.setCell ⟨b, 0, none⟩ (.int .i64 0)).setCell ⟨b + 1, 0, none⟩ (.int .i64 2)).setCell ⟨b + 1, 0, none⟩ (.int .i64 c) := by
  refine callsD_of_wpS Try.func62 rfl fun c₀ cs hu => ?_
  apply wpS_region
  simp [wpOpsS, go_sem, recoverD, hu, Try.ntmps62]
  refine (caught_err b x y c w h1 h2 h3 h4).mono ?_
  rintro e w' ⟨rfl, rfl⟩
  simp [bodyPostS, results, Try.results62]

theorem catch_nil62 (p q : Addr) (w : World) :
    CallsD Try.prog 62 #[.pointer (some p), .pointer (some q)] .returning w fun e u' w' => e = .returned (.tuple #[]) ∧ u' = .returning ∧ w' = w := by
  refine callsD_of_wpS Try.func62 rfl fun c₀ cs hu => ?_
  apply wpS_region
  simp [wpOpsS, go_sem, recoverD, hu, Try.ntmps62]
  refine (caught_nil p q w).mono ?_
  rintro e w' ⟨rfl, rfl⟩
  cases c₀
  simp_all [bodyPostS, results, Try.results62]

theorem catch_err64 (b : Nat) (x y c : Int) (older : List PanicEntry) (w : World) (h1 : w.cell? ⟨b, 0, none⟩ = some (.int .i64 x)) (h2 : w.cell? ⟨b + 1, 0, none⟩ = some (.int .i64 y)) (h3 : w.frozen? ⟨b, 0, none⟩ = false) (h4 : w.frozen? ⟨b + 1, 0, none⟩ = false) :
    CallsD Try.prog 64 #[.pointer (some ⟨b, 0, none⟩), .pointer (some ⟨b + 1, 0, none⟩)] (.panicking ({ v := .iface 34 (.int .i64 c), recovered := false } :: older)) w fun e u' w' =>
      e = .returned (.tuple #[]) ∧ u' = .panicking ({ v := .iface 34 (.int .i64 c), recovered := true } :: older) ∧ w' = ((w.setCell ⟨b, 0, none⟩ (.int .i64 0)).setCell ⟨b + 1, 0, none⟩ (.int .i64 2)).setCell ⟨b + 1, 0, none⟩ (.int .i64 c) := by
  refine callsD_of_wpS Try.func64 rfl fun c₀ cs hu => ?_
  apply wpS_region
  simp [wpOpsS, go_sem, recoverD, hu, Try.ntmps64]
  refine (caught_err b x y c w h1 h2 h3 h4).mono ?_
  rintro e w' ⟨rfl, rfl⟩
  simp [bodyPostS, results, Try.results64]

theorem catch_nil64 (p q : Addr) (w : World) :
    CallsD Try.prog 64 #[.pointer (some p), .pointer (some q)] .returning w fun e u' w' => e = .returned (.tuple #[]) ∧ u' = .returning ∧ w' = w := by
  refine callsD_of_wpS Try.func64 rfl fun c₀ cs hu => ?_
  apply wpS_region
  simp [wpOpsS, go_sem, recoverD, hu, Try.ntmps64]
  refine (caught_nil p q w).mono ?_
  rintro e w' ⟨rfl, rfl⟩
  cases c₀
  simp_all [bodyPostS, results, Try.results64]

theorem catch_err66 (b : Nat) (x y c : Int) (older : List PanicEntry) (w : World) (h1 : w.cell? ⟨b, 0, none⟩ = some (.int .i64 x)) (h2 : w.cell? ⟨b + 1, 0, none⟩ = some (.int .i64 y)) (h3 : w.frozen? ⟨b, 0, none⟩ = false) (h4 : w.frozen? ⟨b + 1, 0, none⟩ = false) :
    CallsD Try.prog 66 #[.pointer (some ⟨b, 0, none⟩), .pointer (some ⟨b + 1, 0, none⟩)] (.panicking ({ v := .iface 34 (.int .i64 c), recovered := false } :: older)) w fun e u' w' =>
      e = .returned (.tuple #[]) ∧ u' = .panicking ({ v := .iface 34 (.int .i64 c), recovered := true } :: older) ∧ w' = ((w.setCell ⟨b, 0, none⟩ (.int .i64 0)).setCell ⟨b + 1, 0, none⟩ (.int .i64 2)).setCell ⟨b + 1, 0, none⟩ (.int .i64 c) := by
  refine callsD_of_wpS Try.func66 rfl fun c₀ cs hu => ?_
  apply wpS_region
  simp [wpOpsS, go_sem, recoverD, hu, Try.ntmps66]
  refine (caught_err b x y c w h1 h2 h3 h4).mono ?_
  rintro e w' ⟨rfl, rfl⟩
  simp [bodyPostS, results, Try.results66]

theorem catch_nil66 (p q : Addr) (w : World) :
    CallsD Try.prog 66 #[.pointer (some p), .pointer (some q)] .returning w fun e u' w' => e = .returned (.tuple #[]) ∧ u' = .returning ∧ w' = w := by
  refine callsD_of_wpS Try.func66 rfl fun c₀ cs hu => ?_
  apply wpS_region
  simp [wpOpsS, go_sem, recoverD, hu, Try.ntmps66]
  refine (caught_nil p q w).mono ?_
  rintro e w' ⟨rfl, rfl⟩
  cases c₀
  simp_all [bodyPostS, results, Try.results66]

theorem catch_err68 (b : Nat) (x y c : Int) (older : List PanicEntry) (w : World) (h1 : w.cell? ⟨b, 0, none⟩ = some (.int .i64 x)) (h2 : w.cell? ⟨b + 1, 0, none⟩ = some (.int .i64 y)) (h3 : w.frozen? ⟨b, 0, none⟩ = false) (h4 : w.frozen? ⟨b + 1, 0, none⟩ = false) :
    CallsD Try.prog 68 #[.pointer (some ⟨b, 0, none⟩), .pointer (some ⟨b + 1, 0, none⟩)] (.panicking ({ v := .iface 34 (.int .i64 c), recovered := false } :: older)) w fun e u' w' =>
      e = .returned (.tuple #[]) ∧ u' = .panicking ({ v := .iface 34 (.int .i64 c), recovered := true } :: older) ∧ w' = ((w.setCell ⟨b, 0, none⟩ (.int .i64 0)).setCell ⟨b + 1, 0, none⟩ (.int .i64 2)).setCell ⟨b + 1, 0, none⟩ (.int .i64 c) := by
  refine callsD_of_wpS Try.func68 rfl fun c₀ cs hu => ?_
  apply wpS_region
  simp [wpOpsS, go_sem, recoverD, hu, Try.ntmps68]
  refine (caught_err b x y c w h1 h2 h3 h4).mono ?_
  rintro e w' ⟨rfl, rfl⟩
  simp [bodyPostS, results, Try.results68]

theorem catch_nil68 (p q : Addr) (w : World) :
    CallsD Try.prog 68 #[.pointer (some p), .pointer (some q)] .returning w fun e u' w' => e = .returned (.tuple #[]) ∧ u' = .returning ∧ w' = w := by
  refine callsD_of_wpS Try.func68 rfl fun c₀ cs hu => ?_
  apply wpS_region
  simp [wpOpsS, go_sem, recoverD, hu, Try.ntmps68]
  refine (caught_nil p q w).mono ?_
  rintro e w' ⟨rfl, rfl⟩
  cases c₀
  simp_all [bodyPostS, results, Try.results68]

theorem catch_err70 (b : Nat) (x y c : Int) (older : List PanicEntry) (w : World) (h1 : w.cell? ⟨b, 0, none⟩ = some (.int .i64 x)) (h2 : w.cell? ⟨b + 1, 0, none⟩ = some (.int .i64 y)) (h3 : w.frozen? ⟨b, 0, none⟩ = false) (h4 : w.frozen? ⟨b + 1, 0, none⟩ = false) :
    CallsD Try.prog 70 #[.pointer (some ⟨b, 0, none⟩), .pointer (some ⟨b + 1, 0, none⟩)] (.panicking ({ v := .iface 34 (.int .i64 c), recovered := false } :: older)) w fun e u' w' =>
      e = .returned (.tuple #[]) ∧ u' = .panicking ({ v := .iface 34 (.int .i64 c), recovered := true } :: older) ∧ w' = ((w.setCell ⟨b, 0, none⟩ (.int .i64 0)).setCell ⟨b + 1, 0, none⟩ (.int .i64 2)).setCell ⟨b + 1, 0, none⟩ (.int .i64 c) := by
  refine callsD_of_wpS Try.func70 rfl fun c₀ cs hu => ?_
  apply wpS_region
  simp [wpOpsS, go_sem, recoverD, hu, Try.ntmps70]
  refine (caught_err b x y c w h1 h2 h3 h4).mono ?_
  rintro e w' ⟨rfl, rfl⟩
  simp [bodyPostS, results, Try.results70]

theorem catch_nil70 (p q : Addr) (w : World) :
    CallsD Try.prog 70 #[.pointer (some p), .pointer (some q)] .returning w fun e u' w' => e = .returned (.tuple #[]) ∧ u' = .returning ∧ w' = w := by
  refine callsD_of_wpS Try.func70 rfl fun c₀ cs hu => ?_
  apply wpS_region
  simp [wpOpsS, go_sem, recoverD, hu, Try.ntmps70]
  refine (caught_nil p q w).mono ?_
  rintro e w' ⟨rfl, rfl⟩
  cases c₀
  simp_all [bodyPostS, results, Try.results70]

theorem catch_err52 (b : Nat) (x y c : Int) (older : List PanicEntry) (w : World) (h1 : w.cell? ⟨b, 0, none⟩ = some (.int .i64 x)) (h2 : w.cell? ⟨b + 1, 0, none⟩ = some (.int .i64 y)) (h3 : w.frozen? ⟨b, 0, none⟩ = false) (h4 : w.frozen? ⟨b + 1, 0, none⟩ = false) :
    CallsD Try.prog 52 #[.pointer (some ⟨b, 0, none⟩), .pointer (some ⟨b + 1, 0, none⟩)] (.panicking ({ v := .iface 34 (.int .i64 c), recovered := false } :: older)) w fun e u' w' =>
      e = .returned (.tuple #[]) ∧ u' = .panicking ({ v := .iface 34 (.int .i64 c), recovered := true } :: older) ∧ w' = ((w.setCell ⟨b, 0, none⟩ (.int .i64 0)).setCell ⟨b + 1, 0, none⟩ (.int .i64 2)).setCell ⟨b + 1, 0, none⟩ (.int .i64 c) := by
  refine callsD_of_wpS Try.func52 rfl fun c₀ cs hu => ?_
  apply wpS_region
  simp [wpOpsS, go_sem, recoverD, hu, Try.ntmps52]
  refine (caught_err b x y c w h1 h2 h3 h4).mono ?_
  rintro e w' ⟨rfl, rfl⟩
  simp [bodyPostS, results, Try.results52]

theorem catch_nil52 (p q : Addr) (w : World) :
    CallsD Try.prog 52 #[.pointer (some p), .pointer (some q)] .returning w fun e u' w' => e = .returned (.tuple #[]) ∧ u' = .returning ∧ w' = w := by
  refine callsD_of_wpS Try.func52 rfl fun c₀ cs hu => ?_
  apply wpS_region
  simp [wpOpsS, go_sem, recoverD, hu, Try.ntmps52]
  refine (caught_nil p q w).mono ?_
  rintro e w' ⟨rfl, rfl⟩
  cases c₀
  simp_all [bodyPostS, results, Try.results52]

theorem add_ok (a b : Int) (w : World) (h1 : -1125899906842624 ≤ a) (h2 : a ≤ 1125899906842624) (h3 : -1125899906842624 ≤ b) (h4 : b ≤ 1125899906842624) (h5 : -1125899906842624 ≤ a + b) (h6 : a + b ≤ 1125899906842624) :
    Calls Try.prog 63 #[.int .i64 a, .int .i64 b] w fun e w' => e = .returned (.int .i64 (a + b)) ∧ w = w' := by
  go_enter Try.func63, Try.ntmps63
  go_wp2_with (go_at_call 71; refine (time_ok _ _ (by omega) (by omega)).mono ?_; rintro e w' ⟨rfl, rfl⟩)
  go_ret
  exact ⟨rfl, rfl⟩
theorem sub_ok (a b : Int) (w : World) (h1 : -1125899906842624 ≤ a) (h2 : a ≤ 1125899906842624) (h3 : -1125899906842624 ≤ b) (h4 : b ≤ 1125899906842624) (h5 : -1125899906842624 ≤ a - b) (h6 : a - b ≤ 1125899906842624) :
    Calls Try.prog 67 #[.int .i64 a, .int .i64 b] w fun e w' => e = .returned (.int .i64 (a - b)) ∧ w = w' := by
  go_enter Try.func67, Try.ntmps67
  go_wp2_with (go_at_call 71; refine (time_ok _ _ (by omega) (by omega)).mono ?_; rintro e w' ⟨rfl, rfl⟩)
  go_ret
  exact ⟨rfl, rfl⟩
theorem neg_ok (a : Int) (w : World) (h1 : -1125899906842624 ≤ a) (h2 : a ≤ 1125899906842624) :
    Calls Try.prog 69 #[.int .i64 a] w fun e w' => e = .returned (.int .i64 (-a)) ∧ w = w' := by
  go_enter Try.func69, Try.ntmps69
  go_wp2_with (go_at_call 71; refine (time_ok _ _ (by omega) (by omega)).mono ?_; rintro e w' ⟨rfl, rfl⟩)
  go_ret
  exact ⟨rfl, rfl⟩
theorem neg_over0 (a : Int) (w : World) (h : a < -1125899906842624 ∨ 1125899906842624 < a) :
    Calls Try.prog 69 #[.int .i64 a] w fun e w' => e = over ∧ w = w' := by
  go_enter Try.func69, Try.ntmps69
  go_wp2_with (go_at_call 71; first | (refine (time_ok _ _ (by omega) (by omega)).mono ?_; rintro e w' ⟨rfl, rfl⟩) | (refine (time_over _ _ (by omega)).mono ?_; rintro e w' ⟨rfl, rfl⟩))
  exact ⟨rfl, rfl, rfl⟩
theorem add_over0 (a b : Int) (w : World) (h : a < -1125899906842624 ∨ 1125899906842624 < a) :
    Calls Try.prog 63 #[.int .i64 a, .int .i64 b] w fun e w' => e = over ∧ w = w' := by
  go_enter Try.func63, Try.ntmps63
  go_wp2_with (go_at_call 71; first | (refine (time_ok _ _ (by omega) (by omega)).mono ?_; rintro e w' ⟨rfl, rfl⟩) | (refine (time_over _ _ (by omega)).mono ?_; rintro e w' ⟨rfl, rfl⟩))
  exact ⟨rfl, rfl, rfl⟩
theorem add_over1 (a b : Int) (w : World) (p1 : -1125899906842624 ≤ a) (p2 : a ≤ 1125899906842624) (h : b < -1125899906842624 ∨ 1125899906842624 < b) :
    Calls Try.prog 63 #[.int .i64 a, .int .i64 b] w fun e w' => e = over ∧ w = w' := by
  go_enter Try.func63, Try.ntmps63
  go_wp2_with (go_at_call 71; first | (refine (time_ok _ _ (by omega) (by omega)).mono ?_; rintro e w' ⟨rfl, rfl⟩) | (refine (time_over _ _ (by omega)).mono ?_; rintro e w' ⟨rfl, rfl⟩))
  exact ⟨rfl, rfl, rfl⟩
theorem add_over2 (a b : Int) (w : World) (p1 : -1125899906842624 ≤ a) (p2 : a ≤ 1125899906842624) (q1 : -1125899906842624 ≤ b) (q2 : b ≤ 1125899906842624) (h : (a + b) < -1125899906842624 ∨ 1125899906842624 < (a + b)) :
    Calls Try.prog 63 #[.int .i64 a, .int .i64 b] w fun e w' => e = over ∧ w = w' := by
  go_enter Try.func63, Try.ntmps63
  go_wp2_with (go_at_call 71; first | (refine (time_ok _ _ (by omega) (by omega)).mono ?_; rintro e w' ⟨rfl, rfl⟩) | (refine (time_over _ _ (by omega)).mono ?_; rintro e w' ⟨rfl, rfl⟩))
  exact ⟨rfl, rfl, rfl⟩
theorem sub_over0 (a b : Int) (w : World) (h : a < -1125899906842624 ∨ 1125899906842624 < a) :
    Calls Try.prog 67 #[.int .i64 a, .int .i64 b] w fun e w' => e = over ∧ w = w' := by
  go_enter Try.func67, Try.ntmps67
  go_wp2_with (go_at_call 71; first | (refine (time_ok _ _ (by omega) (by omega)).mono ?_; rintro e w' ⟨rfl, rfl⟩) | (refine (time_over _ _ (by omega)).mono ?_; rintro e w' ⟨rfl, rfl⟩))
  exact ⟨rfl, rfl, rfl⟩
theorem sub_over1 (a b : Int) (w : World) (p1 : -1125899906842624 ≤ a) (p2 : a ≤ 1125899906842624) (h : b < -1125899906842624 ∨ 1125899906842624 < b) :
    Calls Try.prog 67 #[.int .i64 a, .int .i64 b] w fun e w' => e = over ∧ w = w' := by
  go_enter Try.func67, Try.ntmps67
  go_wp2_with (go_at_call 71; first | (refine (time_ok _ _ (by omega) (by omega)).mono ?_; rintro e w' ⟨rfl, rfl⟩) | (refine (time_over _ _ (by omega)).mono ?_; rintro e w' ⟨rfl, rfl⟩))
  exact ⟨rfl, rfl, rfl⟩
theorem sub_over2 (a b : Int) (w : World) (p1 : -1125899906842624 ≤ a) (p2 : a ≤ 1125899906842624) (q1 : -1125899906842624 ≤ b) (q2 : b ≤ 1125899906842624) (h : (a - b) < -1125899906842624 ∨ 1125899906842624 < (a - b)) :
    Calls Try.prog 67 #[.int .i64 a, .int .i64 b] w fun e w' => e = over ∧ w = w' := by
  go_enter Try.func67, Try.ntmps67
  go_wp2_with (go_at_call 71; first | (refine (time_ok _ _ (by omega) (by omega)).mono ?_; rintro e w' ⟨rfl, rfl⟩) | (refine (time_over _ _ (by omega)).mono ?_; rintro e w' ⟨rfl, rfl⟩))
  exact ⟨rfl, rfl, rfl⟩
theorem add_ret (a b : Int) (w : World) (p1 : -1125899906842624 ≤ a) (p2 : a ≤ 1125899906842624) (q1 : -1125899906842624 ≤ b) (q2 : b ≤ 1125899906842624) (r1 : -1125899906842624 ≤ (a + b)) (r2 : (a + b) ≤ 1125899906842624) :
    Calls Try.prog 27 #[.int .i64 a, .int .i64 b] w fun e w' => e = .returned (.tuple #[.int .i64 (a + b), .int .i64 0]) ∧ Below w.heap.size w w' := by
  have hmf : ∀ (fn : Fn) (first cap : Array Value) (w : World), (Instr.makeFunc fn first cap).run Try.prog w = .ok (.func fn first cap) w := fun _ _ _ _ => rfl
  go_enter_defers Try.func27, Try.ntmps27
  go_wp2_with (go_at_call 63; refine (add_ok _ _ _ (by omega) (by omega) (by omega) (by omega) (by omega) (by omega)).mono ?_; rintro e w' ⟨rfl, rfl⟩)
  refine leaves_cons (f := 62) (args := #[.pointer (some ⟨w.heap.size, 0, none⟩), .pointer (some ⟨w.heap.size + 1, 0, none⟩)]) (by simp) (by simp [go_sem]) ?_
  refine (catch_nil62 _ _ _).mono ?_
  rintro e u' w'' ⟨rfl, rfl, rfl⟩
  simp [Leaves, settle, results, Try.results27, go_sem]
  (repeat' (first | (with_reducible exact Below.refl _ _) | (with_reducible assumption) | (with_reducible refine Below.alloc ?_ ?_ _) | (with_reducible refine Below.drew ?_) | (with_reducible refine Below.setCell ?_ ?_ _) | go_size))
theorem add_err0 (a b : Int) (w : World) (h : a < -1125899906842624 ∨ 1125899906842624 < a) :
    Calls Try.prog 27 #[.int .i64 a, .int .i64 b] w fun e w' => e = .returned (.tuple #[.int .i64 0, .int .i64 11]) ∧ Below w.heap.size w w' := by
  have hmf : ∀ (fn : Fn) (first cap : Array Value) (w : World), (Instr.makeFunc fn first cap).run Try.prog w = .ok (.func fn first cap) w := fun _ _ _ _ => rfl
  go_enter_defers Try.func27, Try.ntmps27
  go_wp2_with (go_at_call 63; refine (add_over0 _ _ _ h).mono ?_; rintro e w' ⟨rfl, rfl⟩)
  refine leaves_cons (f := 62) (args := #[.pointer (some ⟨w.heap.size, 0, none⟩), .pointer (some ⟨w.heap.size + 1, 0, none⟩)]) (by simp) (by simp [go_sem]) ?_
  refine (catch_err62 _ 0 0 11 [] _ ?_ ?_ ?_ ?_).mono ?_
  · simp [go_sem]
  · simp [go_sem]
  · simp [go_sem]
  · simp [go_sem]
  rintro e u' w'' ⟨rfl, rfl, rfl⟩
  simp [Leaves, settle, results, Try.results27, go_sem]
  (repeat' (first | (with_reducible exact Below.refl _ _) | (with_reducible assumption) | (with_reducible refine Below.alloc ?_ ?_ _) | (with_reducible refine Below.drew ?_) | (with_reducible refine Below.setCell ?_ ?_ _) | go_size))
theorem add_err1 (a b : Int) (w : World) (p1 : -1125899906842624 ≤ a) (p2 : a ≤ 1125899906842624) (h : b < -1125899906842624 ∨ 1125899906842624 < b) :
    Calls Try.prog 27 #[.int .i64 a, .int .i64 b] w fun e w' => e = .returned (.tuple #[.int .i64 0, .int .i64 11]) ∧ Below w.heap.size w w' := by
  have hmf : ∀ (fn : Fn) (first cap : Array Value) (w : World), (Instr.makeFunc fn first cap).run Try.prog w = .ok (.func fn first cap) w := fun _ _ _ _ => rfl
  go_enter_defers Try.func27, Try.ntmps27
  go_wp2_with (go_at_call 63; refine (add_over1 _ _ _ p1 p2 h).mono ?_; rintro e w' ⟨rfl, rfl⟩)
  refine leaves_cons (f := 62) (args := #[.pointer (some ⟨w.heap.size, 0, none⟩), .pointer (some ⟨w.heap.size + 1, 0, none⟩)]) (by simp) (by simp [go_sem]) ?_
  refine (catch_err62 _ 0 0 11 [] _ ?_ ?_ ?_ ?_).mono ?_
  · simp [go_sem]
  · simp [go_sem]
  · simp [go_sem]
  · simp [go_sem]
  rintro e u' w'' ⟨rfl, rfl, rfl⟩
  simp [Leaves, settle, results, Try.results27, go_sem]
  (repeat' (first | (with_reducible exact Below.refl _ _) | (with_reducible assumption) | (with_reducible refine Below.alloc ?_ ?_ _) | (with_reducible refine Below.drew ?_) | (with_reducible refine Below.setCell ?_ ?_ _) | go_size))
theorem add_err2 (a b : Int) (w : World) (p1 : -1125899906842624 ≤ a) (p2 : a ≤ 1125899906842624) (q1 : -1125899906842624 ≤ b) (q2 : b ≤ 1125899906842624) (h : (a + b) < -1125899906842624 ∨ 1125899906842624 < (a + b)) :
    Calls Try.prog 27 #[.int .i64 a, .int .i64 b] w fun e w' => e = .returned (.tuple #[.int .i64 0, .int .i64 11]) ∧ Below w.heap.size w w' := by
  have hmf : ∀ (fn : Fn) (first cap : Array Value) (w : World), (Instr.makeFunc fn first cap).run Try.prog w = .ok (.func fn first cap) w := fun _ _ _ _ => rfl
  go_enter_defers Try.func27, Try.ntmps27
  go_wp2_with (go_at_call 63; refine (add_over2 _ _ _ p1 p2 q1 q2 h).mono ?_; rintro e w' ⟨rfl, rfl⟩)
  refine leaves_cons (f := 62) (args := #[.pointer (some ⟨w.heap.size, 0, none⟩), .pointer (some ⟨w.heap.size + 1, 0, none⟩)]) (by simp) (by simp [go_sem]) ?_
  refine (catch_err62 _ 0 0 11 [] _ ?_ ?_ ?_ ?_).mono ?_
  · simp [go_sem]
  · simp [go_sem]
  · simp [go_sem]
  · simp [go_sem]
  rintro e u' w'' ⟨rfl, rfl, rfl⟩
  simp [Leaves, settle, results, Try.results27, go_sem]
  (repeat' (first | (with_reducible exact Below.refl _ _) | (with_reducible assumption) | (with_reducible refine Below.alloc ?_ ?_ _) | (with_reducible refine Below.drew ?_) | (with_reducible refine Below.setCell ?_ ?_ _) | go_size))
theorem sub_ret (a b : Int) (w : World) (p1 : -1125899906842624 ≤ a) (p2 : a ≤ 1125899906842624) (q1 : -1125899906842624 ≤ b) (q2 : b ≤ 1125899906842624) (r1 : -1125899906842624 ≤ (a - b)) (r2 : (a - b) ≤ 1125899906842624) :
    Calls Try.prog 29 #[.int .i64 a, .int .i64 b] w fun e w' => e = .returned (.tuple #[.int .i64 (a - b), .int .i64 0]) ∧ Below w.heap.size w w' := by
  have hmf : ∀ (fn : Fn) (first cap : Array Value) (w : World), (Instr.makeFunc fn first cap).run Try.prog w = .ok (.func fn first cap) w := fun _ _ _ _ => rfl
  go_enter_defers Try.func29, Try.ntmps29
  go_wp2_with (go_at_call 67; refine (sub_ok _ _ _ (by omega) (by omega) (by omega) (by omega) (by omega) (by omega)).mono ?_; rintro e w' ⟨rfl, rfl⟩)
  refine leaves_cons (f := 66) (args := #[.pointer (some ⟨w.heap.size, 0, none⟩), .pointer (some ⟨w.heap.size + 1, 0, none⟩)]) (by simp) (by simp [go_sem]) ?_
  refine (catch_nil66 _ _ _).mono ?_
  rintro e u' w'' ⟨rfl, rfl, rfl⟩
  simp [Leaves, settle, results, Try.results29, go_sem]
  (repeat' (first | (with_reducible exact Below.refl _ _) | (with_reducible assumption) | (with_reducible refine Below.alloc ?_ ?_ _) | (with_reducible refine Below.drew ?_) | (with_reducible refine Below.setCell ?_ ?_ _) | go_size))
theorem sub_err0 (a b : Int) (w : World) (h : a < -1125899906842624 ∨ 1125899906842624 < a) :
    Calls Try.prog 29 #[.int .i64 a, .int .i64 b] w fun e w' => e = .returned (.tuple #[.int .i64 0, .int .i64 11]) ∧ Below w.heap.size w w' := by
  have hmf : ∀ (fn : Fn) (first cap : Array Value) (w : World), (Instr.makeFunc fn first cap).run Try.prog w = .ok (.func fn first cap) w := fun _ _ _ _ => rfl
  go_enter_defers Try.func29, Try.ntmps29
  go_wp2_with (go_at_call 67; refine (sub_over0 _ _ _ h).mono ?_; rintro e w' ⟨rfl, rfl⟩)
  refine leaves_cons (f := 66) (args := #[.pointer (some ⟨w.heap.size, 0, none⟩), .pointer (some ⟨w.heap.size + 1, 0, none⟩)]) (by simp) (by simp [go_sem]) ?_
  refine (catch_err66 _ 0 0 11 [] _ ?_ ?_ ?_ ?_).mono ?_
  · simp [go_sem]
  · simp [go_sem]
  · simp [go_sem]
  · simp [go_sem]
  rintro e u' w'' ⟨rfl, rfl, rfl⟩
  simp [Leaves, settle, results, Try.results29, go_sem]
  (repeat' (first | (with_reducible exact Below.refl _ _) | (with_reducible assumption) | (with_reducible refine Below.alloc ?_ ?_ _) | (with_reducible refine Below.drew ?_) | (with_reducible refine Below.setCell ?_ ?_ _) | go_size))
theorem sub_err1 (a b : Int) (w : World) (p1 : -1125899906842624 ≤ a) (p2 : a ≤ 1125899906842624) (h : b < -1125899906842624 ∨ 1125899906842624 < b) :
    Calls Try.prog 29 #[.int .i64 a, .int .i64 b] w fun e w' => e = .returned (.tuple #[.int .i64 0, .int .i64 11]) ∧ Below w.heap.size w w' := by
  have hmf : ∀ (fn : Fn) (first cap : Array Value) (w : World), (Instr.makeFunc fn first cap).run Try.prog w = .ok (.func fn first cap) w := fun _ _ _ _ => rfl
  go_enter_defers Try.func29, Try.ntmps29
  go_wp2_with (go_at_call 67; refine (sub_over1 _ _ _ p1 p2 h).mono ?_; rintro e w' ⟨rfl, rfl⟩)
  refine leaves_cons (f := 66) (args := #[.pointer (some ⟨w.heap.size, 0, none⟩), .pointer (some ⟨w.heap.size + 1, 0, none⟩)]) (by simp) (by simp [go_sem]) ?_
  refine (catch_err66 _ 0 0 11 [] _ ?_ ?_ ?_ ?_).mono ?_
  · simp [go_sem]
  · simp [go_sem]
  · simp [go_sem]
  · simp [go_sem]
  rintro e u' w'' ⟨rfl, rfl, rfl⟩
  simp [Leaves, settle, results, Try.results29, go_sem]
  (repeat' (first | (with_reducible exact Below.refl _ _) | (with_reducible assumption) | (with_reducible refine Below.alloc ?_ ?_ _) | (with_reducible refine Below.drew ?_) | (with_reducible refine Below.setCell ?_ ?_ _) | go_size))
theorem sub_err2 (a b : Int) (w : World) (p1 : -1125899906842624 ≤ a) (p2 : a ≤ 1125899906842624) (q1 : -1125899906842624 ≤ b) (q2 : b ≤ 1125899906842624) (h : (a - b) < -1125899906842624 ∨ 1125899906842624 < (a - b)) :
    Calls Try.prog 29 #[.int .i64 a, .int .i64 b] w fun e w' => e = .returned (.tuple #[.int .i64 0, .int .i64 11]) ∧ Below w.heap.size w w' := by
  have hmf : ∀ (fn : Fn) (first cap : Array Value) (w : World), (Instr.makeFunc fn first cap).run Try.prog w = .ok (.func fn first cap) w := fun _ _ _ _ => rfl
  go_enter_defers Try.func29, Try.ntmps29
  go_wp2_with (go_at_call 67; refine (sub_over2 _ _ _ p1 p2 q1 q2 h).mono ?_; rintro e w' ⟨rfl, rfl⟩)
  refine leaves_cons (f := 66) (args := #[.pointer (some ⟨w.heap.size, 0, none⟩), .pointer (some ⟨w.heap.size + 1, 0, none⟩)]) (by simp) (by simp [go_sem]) ?_
  refine (catch_err66 _ 0 0 11 [] _ ?_ ?_ ?_ ?_).mono ?_
  · simp [go_sem]
  · simp [go_sem]
  · simp [go_sem]
  · simp [go_sem]
  rintro e u' w'' ⟨rfl, rfl, rfl⟩
  simp [Leaves, settle, results, Try.results29, go_sem]
  (repeat' (first | (with_reducible exact Below.refl _ _) | (with_reducible assumption) | (with_reducible refine Below.alloc ?_ ?_ _) | (with_reducible refine Below.drew ?_) | (with_reducible refine Below.setCell ?_ ?_ _) | go_size))
theorem neg_ret (a : Int) (w : World) (p1 : -1125899906842624 ≤ a) (p2 : a ≤ 1125899906842624) :
    Calls Try.prog 30 #[.int .i64 a] w fun e w' => e = .returned (.tuple #[.int .i64 (-a), .int .i64 0]) ∧ Below w.heap.size w w' := by
  have hmf : ∀ (fn : Fn) (first cap : Array Value) (w : World), (Instr.makeFunc fn first cap).run Try.prog w = .ok (.func fn first cap) w := fun _ _ _ _ => rfl
  go_enter_defers Try.func30, Try.ntmps30
  go_wp2_with (go_at_call 69; refine (neg_ok _ _ (by omega) (by omega)).mono ?_; rintro e w' ⟨rfl, rfl⟩)
  refine leaves_cons (f := 68) (args := #[.pointer (some ⟨w.heap.size, 0, none⟩), .pointer (some ⟨w.heap.size + 1, 0, none⟩)]) (by simp) (by simp [go_sem]) ?_
  refine (catch_nil68 _ _ _).mono ?_
  rintro e u' w'' ⟨rfl, rfl, rfl⟩
  simp [Leaves, settle, results, Try.results30, go_sem]
  (repeat' (first | (with_reducible exact Below.refl _ _) | (with_reducible assumption) | (with_reducible refine Below.alloc ?_ ?_ _) | (with_reducible refine Below.drew ?_) | (with_reducible refine Below.setCell ?_ ?_ _) | go_size))
theorem neg_err0 (a : Int) (w : World) (h : a < -1125899906842624 ∨ 1125899906842624 < a) :
    Calls Try.prog 30 #[.int .i64 a] w fun e w' => e = .returned (.tuple #[.int .i64 0, .int .i64 11]) ∧ Below w.heap.size w w' := by
  have hmf : ∀ (fn : Fn) (first cap : Array Value) (w : World), (Instr.makeFunc fn first cap).run Try.prog w = .ok (.func fn first cap) w := fun _ _ _ _ => rfl
  go_enter_defers Try.func30, Try.ntmps30
  go_wp2_with (go_at_call 69; refine (neg_over0 _ _ h).mono ?_; rintro e w' ⟨rfl, rfl⟩)
  refine leaves_cons (f := 68) (args := #[.pointer (some ⟨w.heap.size, 0, none⟩), .pointer (some ⟨w.heap.size + 1, 0, none⟩)]) (by simp) (by simp [go_sem]) ?_
  refine (catch_err68 _ 0 0 11 [] _ ?_ ?_ ?_ ?_).mono ?_
  · simp [go_sem]
  · simp [go_sem]
  · simp [go_sem]
  · simp [go_sem]
  rintro e u' w'' ⟨rfl, rfl, rfl⟩
  simp [Leaves, settle, results, Try.results30, go_sem]
  (repeat' (first | (with_reducible exact Below.refl _ _) | (with_reducible assumption) | (with_reducible refine Below.alloc ?_ ?_ _) | (with_reducible refine Below.drew ?_) | (with_reducible refine Below.setCell ?_ ?_ _) | go_size))
end Go.Proofs.Ythmglahcampllaa
