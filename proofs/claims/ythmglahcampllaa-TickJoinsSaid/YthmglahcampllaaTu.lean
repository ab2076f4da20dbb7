/- What is proved here: Eval of package tick, whatever the operations. Condition: they lie at a block's head. -/
import Derived.Test.YthmglahcampllaaTv
namespace Go.Proofs.Ythmglahcampllaa
open Go Go.RowKit
attribute [local go_sem] assert34

set_option maxRecDepth 20000 in
set_option maxHeartbeats 2000000 in
theorem eval_empty (a : Option Addr) (cap : Nat) (w : World) :
    Calls Try.prog 18 #[.slice a 0 cap] w fun e w' => e = .returned (.tuple #[.int .i64 0, .int .i64 2]) ∧ Below w.heap.size w w' := by
  have hmf : ∀ (fn : Fn) (first cap : Array Value) (w : World), (Instr.makeFunc fn first cap).run Try.prog w = .ok (.func fn first cap) w := fun _ _ _ _ => rfl
  go_enter_defers Try.func18, Try.ntmps18
  go_wp2_with fail
  obtain ⟨W0, hW0⟩ : ∃ W0 : World, W0 = (((w.alloc (Obj.cells #[Value.int IntKind.i64 0] 3)).alloc (Obj.cells #[Value.int IntKind.i64 0] 34)).alloc (Obj.cells #[Value.slice none 0 0] 89)) := ⟨_, rfl⟩
  rw [← hW0]
  have hs0 : w.heap.size + 1 + 1 < W0.heap.size := by rw [hW0]; simp
  have hb0 : Below w.heap.size w W0 := by rw [hW0]; exact (((Below.refl _ _).alloc (Nat.le_refl _) _).alloc (by go_size) _).alloc (by go_size) _
  have hp0 : Pile (w.heap.size + 1 + 1) (w.heap.size + 1 + 1) [] W0 := by
    rw [hW0]
    exact ⟨.slice none 0 0, by show (((w.heap.push _).push _).push _)[w.heap.size + 1 + 1]? = _; rw [Array.getElem?_push, if_pos (by simp)], Nat.le_refl _, by simp [Value.ownBlock], by simp, .inl ⟨rfl, rfl⟩⟩
  have r0 : W0.cell? ⟨w.heap.size, 0, none⟩ = some (.int .i64 0) := by rw [hW0]; go_simp
  have r1 : W0.cell? ⟨w.heap.size + 1, 0, none⟩ = some (.int .i64 0) := by rw [hW0]; go_simp
  have f0 : W0.frozen? ⟨w.heap.size, 0, none⟩ = false := by rw [hW0]; go_simp
  have f1 : W0.frozen? ⟨w.heap.size + 1, 0, none⟩ = false := by rw [hW0]; go_simp
  clear hW0
  have hpop := pop_empty _ _ _ hp0
  have HP := Lib.hid hpop
  clear hpop hp0
  go_loopw [15] (fun i wr => i = .int .i64 0 ∧ wr = W0) (fun i _ => 0)
  case atStart => exact ⟨rfl, rfl⟩
  case round =>
    obtain ⟨rfl, rfl⟩ := hrel
    go_wp2_with fail
    refine HP.out.mono ?_
    rintro e w1 ⟨rfl, rfl⟩
    go_big_unhide
    simp only [bodyPostD]
    refine leaves_cons (f := 52) (args := #[.pointer (some ⟨w.heap.size, 0, none⟩), .pointer (some ⟨w.heap.size + 1, 0, none⟩)]) (by simp) (by simp [go_sem]) ?_
    refine (catch_err52 _ 0 0 2 [] _ r0 r1 f0 f1).mono ?_
    rintro e u' w' ⟨rfl, rfl, hw'⟩
    obtain ⟨z0, z1, zb⟩ := caught_cells _ w.heap.size w.heap.size 0 0 2 w r0 r1 hb0 (Nat.le_refl _)
    rw [← hw'] at z0 z1 zb
    clear hw'
    simp [Leaves, settle, results, Try.results18, go_sem, z0, z1]
    exact zb

set_option maxRecDepth 20000 in
set_option maxHeartbeats 2000000 in
theorem eval_over (a : Option Addr) (n cap : Nat) (w : World) (h : 64 < n) :
    Calls Try.prog 18 #[.slice a n cap] w fun e w' => e = .returned (.tuple #[.int .i64 0, .int .i64 3]) ∧ Below w.heap.size w w' := by
  have hmf : ∀ (fn : Fn) (first cap : Array Value) (w : World), (Instr.makeFunc fn first cap).run Try.prog w = .ok (.func fn first cap) w := fun _ _ _ _ => rfl
  have hd : decide (64 < (n : Int)) = true := by simp; omega
  go_enter_defers Try.func18, Try.ntmps18
  go_wp2_with fail
  try go_big_unhide
  simp only [bodyPostD]
  refine leaves_cons (f := 52) (args := #[.pointer (some ⟨w.heap.size, 0, none⟩), .pointer (some ⟨w.heap.size + 1, 0, none⟩)]) (by simp) (by simp [go_sem]) ?_
  refine (catch_nil52 _ _ _).mono ?_
  rintro e u' w' ⟨rfl, rfl, rfl⟩
  simp [Leaves, settle, results, Try.results18, go_sem]
  exact ((Below.refl _ _).alloc (Nat.le_refl _) _).alloc (by go_size) _

theorem eval_any (v : Value) (os : List (Int × Int)) (w : World) (h : Ops v os w) :
    Calls Try.prog 18 #[v] w fun e w' => e = .returned (.tuple #[.int .i64 (Pl.eval os).1, .int .i64 (Pl.eval os).2]) ∧ Below w.heap.size w w' := by
  rcases h with ⟨rfl, rfl⟩ | ⟨g, cap, rfl, hg, h1, h2, hc⟩
  · exact eval_empty none 0 w
  by_cases hl : 64 < os.length
  · have he : Pl.eval os = (0, 3) := by unfold Pl.eval; rw [if_pos hl]
    rw [he]
    exact eval_over _ _ _ w hl
  by_cases hp : 0 < os.length
  · exact eval_run g cap os w (by omega) hp hg h1 h2 hc
  · have : os = [] := List.eq_nil_of_length_eq_zero (by omega)
    subst this
    exact eval_empty _ cap w
end Go.Proofs.Ythmglahcampllaa
