/- What is proved here: chapter 2's example. -/
import Derived.Test.YtgpeekmagckgcaaSy
namespace Go.Proofs.Ytgpeekmagckgcaa
open Go Go.RowKit
attribute [local go_sem] KW.cell KW.frozen
attribute [local go_sem ↓] eql24

set_option maxHeartbeats 2000000 in
theorem awake_c (w : World) :
    Calls Try.prog 19 #[] w fun e w' => e = .returned (.bool true) ∧ Below w.heap.size w w' := by
  have m1 : Pl.mlo 1 5 4 9 = 4 := by decide
  have m2 : Pl.mhi 1 5 4 9 = 5 := by decide
  have m3 : Pl.mid 4 5 = 4 := by decide
  have m4 : Pl.half 4 5 = 1 := by decide
  have m5 : Pl.has 4 5 5 = true := by decide
  have m6 : Pl.has 4 5 3 = false := by decide
  go_enter Try.func19, Try.ntmps19
  go_wp2_with fail
  refine (meet_c _ _ _ _ _).mono ?_
  rintro e w1 ⟨rfl, hb1⟩
  have hs1 := hb1.size
  go_wp2_with fail
  refine (mid_c _ _ _).mono ?_
  rintro e w2 ⟨rfl, hb2⟩
  have cc0 : w2.cell? ⟨w1.heap.size, 0, none⟩ = some (.int .i64 4) := (hb2.cell (p := ⟨w1.heap.size, 0, none⟩) (by go_size)).trans (by go_simp)
  have fc0 : w2.frozen? ⟨w1.heap.size, 0, none⟩ = false := (hb2.frozen (p := ⟨w1.heap.size, 0, none⟩) (by go_size)).trans (by go_simp)
  have cc1 : w2.cell? ⟨w1.heap.size, 1, none⟩ = some (.int .i64 5) := (hb2.cell (p := ⟨w1.heap.size, 1, none⟩) (by go_size)).trans (by go_simp)
  have fc1 : w2.frozen? ⟨w1.heap.size, 1, none⟩ = false := (hb2.frozen (p := ⟨w1.heap.size, 1, none⟩) (by go_size)).trans (by go_simp)
  have zc2 : w1.heap.size < w2.heap.size := Nat.lt_of_lt_of_le (by go_size) hb2.size
  have hwc : Below w.heap.size w w2 := Below.trans (by (repeat' (first | (with_reducible exact Below.refl _ _) | (with_reducible assumption) | (with_reducible refine Below.alloc ?_ ?_ _) | (with_reducible refine Below.drew ?_) | (with_reducible refine below_drewN ?_ _) | (with_reducible refine Below.setCell ?_ ?_ _) | go_size))) (hb2.mono (by go_size))
  have hsc : w.heap.size ≤ w2.heap.size := hwc.size
  go_wp2_with fail
  refine (half_c _ _ _).mono ?_
  rintro e w3 ⟨rfl, hb3⟩
  have cd0 : w3.cell? ⟨w1.heap.size, 0, none⟩ = some (.int .i64 4) := (hb3.cell (p := ⟨w1.heap.size, 0, none⟩) (by go_size)).trans (by go_simp)
  have fd0 : w3.frozen? ⟨w1.heap.size, 0, none⟩ = false := (hb3.frozen (p := ⟨w1.heap.size, 0, none⟩) (by go_size)).trans (by go_simp)
  have cd1 : w3.cell? ⟨w1.heap.size, 1, none⟩ = some (.int .i64 5) := (hb3.cell (p := ⟨w1.heap.size, 1, none⟩) (by go_size)).trans (by go_simp)
  have fd1 : w3.frozen? ⟨w1.heap.size, 1, none⟩ = false := (hb3.frozen (p := ⟨w1.heap.size, 1, none⟩) (by go_size)).trans (by go_simp)
  have zd2 : w1.heap.size < w3.heap.size := Nat.lt_of_lt_of_le (by go_size) hb3.size
  have hwd : Below w.heap.size w w3 := Below.trans (by (repeat' (first | (with_reducible exact Below.refl _ _) | (with_reducible assumption) | (with_reducible refine Below.alloc ?_ ?_ _) | (with_reducible refine Below.drew ?_) | (with_reducible refine below_drewN ?_ _) | (with_reducible refine Below.setCell ?_ ?_ _) | go_size))) (hb3.mono (by go_size))
  have hsd : w.heap.size ≤ w3.heap.size := hwd.size
  clear cc0 fc0 cc1 fc1 zc2 hwc hsc hb2
  go_wp2_with fail
  refine (has_c _ _ _ _).mono ?_
  rintro e w4 ⟨rfl, hb4⟩
  have ce0 : w4.cell? ⟨w1.heap.size, 0, none⟩ = some (.int .i64 4) := (hb4.cell (p := ⟨w1.heap.size, 0, none⟩) (by go_size)).trans (by go_simp)
  have fe0 : w4.frozen? ⟨w1.heap.size, 0, none⟩ = false := (hb4.frozen (p := ⟨w1.heap.size, 0, none⟩) (by go_size)).trans (by go_simp)
  have ce1 : w4.cell? ⟨w1.heap.size, 1, none⟩ = some (.int .i64 5) := (hb4.cell (p := ⟨w1.heap.size, 1, none⟩) (by go_size)).trans (by go_simp)
  have fe1 : w4.frozen? ⟨w1.heap.size, 1, none⟩ = false := (hb4.frozen (p := ⟨w1.heap.size, 1, none⟩) (by go_size)).trans (by go_simp)
  have ze2 : w1.heap.size < w4.heap.size := Nat.lt_of_lt_of_le (by go_size) hb4.size
  have hwe : Below w.heap.size w w4 := Below.trans (by (repeat' (first | (with_reducible exact Below.refl _ _) | (with_reducible assumption) | (with_reducible refine Below.alloc ?_ ?_ _) | (with_reducible refine Below.drew ?_) | (with_reducible refine below_drewN ?_ _) | (with_reducible refine Below.setCell ?_ ?_ _) | go_size))) (hb4.mono (by go_size))
  have hse : w.heap.size ≤ w4.heap.size := hwe.size
  clear cd0 fd0 cd1 fd1 zd2 hwd hsd hb3
  go_wp2_with fail
  refine (has_c _ _ _ _).mono ?_
  rintro e w5 ⟨rfl, hb5⟩
  have cf0 : w5.cell? ⟨w1.heap.size, 0, none⟩ = some (.int .i64 4) := (hb5.cell (p := ⟨w1.heap.size, 0, none⟩) (by go_size)).trans (by go_simp)
  have ff0 : w5.frozen? ⟨w1.heap.size, 0, none⟩ = false := (hb5.frozen (p := ⟨w1.heap.size, 0, none⟩) (by go_size)).trans (by go_simp)
  have cf1 : w5.cell? ⟨w1.heap.size, 1, none⟩ = some (.int .i64 5) := (hb5.cell (p := ⟨w1.heap.size, 1, none⟩) (by go_size)).trans (by go_simp)
  have ff1 : w5.frozen? ⟨w1.heap.size, 1, none⟩ = false := (hb5.frozen (p := ⟨w1.heap.size, 1, none⟩) (by go_size)).trans (by go_simp)
  have zf2 : w1.heap.size < w5.heap.size := Nat.lt_of_lt_of_le (by go_size) hb5.size
  have hwf : Below w.heap.size w w5 := Below.trans (by (repeat' (first | (with_reducible exact Below.refl _ _) | (with_reducible assumption) | (with_reducible refine Below.alloc ?_ ?_ _) | (with_reducible refine Below.drew ?_) | (with_reducible refine below_drewN ?_ _) | (with_reducible refine Below.setCell ?_ ?_ _) | go_size))) (hb5.mono (by go_size))
  have hsf : w.heap.size ≤ w5.heap.size := hwf.size
  clear ce0 fe0 ce1 fe1 ze2 hwe hse hb4
  go_wp2
  go_ret
  exact ⟨rfl, by assumption⟩
end Go.Proofs.Ytgpeekmagckgcaa
