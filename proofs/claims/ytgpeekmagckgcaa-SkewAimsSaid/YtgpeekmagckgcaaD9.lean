/- What is proved here: the example of chapter 15. Condition: none. -/
import Derived.Test.YtgpeekmagckgcaaD8
namespace Go.Proofs.Ytgpeekmagckgcaa
open Go Go.RowKit
attribute [local go_sem] KW.cell KW.frozen
attribute [local go_sem ↓] eql24 eql23

theorem aw_sm : Pl.sm false 0 0 0 10 27 14 0 = ((true, 13, 17, 14), 0) := by decide
theorem aw_ax : Pl.ax true 13 17 14 20 0 = 35 := by decide
theorem aw_ay : Pl.ay true 13 17 14 20 0 = 2 := by decide
theorem aw_ok : Pl.aims true 20 = true := by decide
theorem aw_miss : Pl.miss 2 = 6 := by decide

theorem Below.on {W w w' : World} (h : Below W.heap.size W w) (h2 : Below w.heap.size w w') : Below W.heap.size W w' := h.trans (h2.mono h.size)

set_option maxRecDepth 20000 in
set_option maxHeartbeats 2000000 in
theorem sawake_b {W w : World} (hb : Below W.heap.size W w) :
    Calls Try.prog 53 #[] w fun e w' => e = .returned (.bool true) ∧ Below W.heap.size W w' := by
  go_enter Try.func53, Try.ntmps53
  go_wp2_with fail
  refine (smeet_c false 0 0 0 10 27 14 0 w ⟨by omega, by omega⟩).mono ?_
  rw [aw_sm]
  unfold est
  rintro e w1 ⟨rfl, hb1⟩
  have hb2 := Below.on hb hb1
  clear hb1
  go_wp2_with fail
  refine (aim_c true 13 17 14 20 0 _ ⟨by omega, by omega⟩).mono ?_
  rw [aw_ax, aw_ay, aw_ok]
  rintro e w2 ⟨rfl, hb3⟩
  have hs := hb3.size
  have hs1 := hb2.size
  have c0 : w2.cell? ⟨w1.heap.size, 0, none⟩ = some (.bool true) := (hb3.cell (p := ⟨w1.heap.size, 0, none⟩) (by simp)).trans (by go_simp)
  have c1 : w2.cell? ⟨w1.heap.size, 1, none⟩ = some (.int .i64 13) := (hb3.cell (p := ⟨w1.heap.size, 1, none⟩) (by simp)).trans (by go_simp)
  have c2 : w2.cell? ⟨w1.heap.size, 2, none⟩ = some (.int .i64 17) := (hb3.cell (p := ⟨w1.heap.size, 2, none⟩) (by simp)).trans (by go_simp)
  go_wp2_with (go_at_call 64; refine (miss_c _ _).mono ?_; rw [aw_miss]; rintro e w' ⟨rfl, rfl⟩)
  go_ret
  exact ⟨rfl, Below.on (by (repeat' (first | (with_reducible exact Below.refl _ _) | (with_reducible assumption) | (with_reducible refine Below.alloc ?_ ?_ _) | (with_reducible refine Below.drew ?_) | (with_reducible refine below_drewN ?_ _) | (with_reducible refine Below.setCell ?_ ?_ _) | go_size))) hb3⟩
end Go.Proofs.Ytgpeekmagckgcaa
