/- What is proved here: what the functions of package span's reference return. Condition: none but that the numbers of 'Moved' are bounded where it is said. -/
import Derived.Test.YtgpeekmagckgcaaSz
import Derived.Test.YtgpeekmagckgcaaPm
namespace Go.Proofs.Ytgpeekmagckgcaa
open Go Go.RowKit
attribute [local go_sem] KW.cell KW.frozen
attribute [local go_sem ↓] eql24

attribute [local go_sem] fld0 fld1

set_option maxHeartbeats 1000000 in
theorem rhull_c (a b c d : Int) (w : World) :
    Calls Try.prog 43 #[.agg #[.int .i64 a, .int .i64 b], .agg #[.int .i64 c, .int .i64 d]] w fun e w' => e = .returned (.agg #[.int .i64 (Pl.hlo a b c d), .int .i64 (Pl.hhi a b c d)]) ∧ Below w.heap.size w w' := by
  have e1 := Pl.emp2 a b
  have e2 := Pl.emp2 c d
  cases he : Pl.emp a b
  ·
    rw [he] at e1
    cases hf : Pl.emp c d
    ·
      rw [hf] at e2
      by_cases h1 : Pl.clo c d < Pl.clo a b
      · by_cases h2 : Pl.chi a b < Pl.chi c d
        · skip
          go_enter Try.func43, Try.ntmps43
          go_wp2_with fail
          refine (rempty_c _ _ _).mono ?_
          rintro e w1 ⟨rfl, hb1⟩
          have cb0 : w1.cell? ⟨w.heap.size, 0, none⟩ = some (.int .i64 a) := (hb1.cell (p := ⟨w.heap.size, 0, none⟩) (by go_size)).trans (by go_simp)
          have fb0 : w1.frozen? ⟨w.heap.size, 0, none⟩ = false := (hb1.frozen (p := ⟨w.heap.size, 0, none⟩) (by go_size)).trans (by go_simp)
          have cb1 : w1.cell? ⟨w.heap.size, 1, none⟩ = some (.int .i64 b) := (hb1.cell (p := ⟨w.heap.size, 1, none⟩) (by go_size)).trans (by go_simp)
          have fb1 : w1.frozen? ⟨w.heap.size, 1, none⟩ = false := (hb1.frozen (p := ⟨w.heap.size, 1, none⟩) (by go_size)).trans (by go_simp)
          have zb2 : w.heap.size < w1.heap.size := Nat.lt_of_lt_of_le (by go_size) hb1.size
          have cb2 : w1.cell? ⟨w.heap.size + 1, 0, none⟩ = some (.int .i64 c) := (hb1.cell (p := ⟨w.heap.size + 1, 0, none⟩) (by go_size)).trans (by go_simp)
          have fb2 : w1.frozen? ⟨w.heap.size + 1, 0, none⟩ = false := (hb1.frozen (p := ⟨w.heap.size + 1, 0, none⟩) (by go_size)).trans (by go_simp)
          have cb3 : w1.cell? ⟨w.heap.size + 1, 1, none⟩ = some (.int .i64 d) := (hb1.cell (p := ⟨w.heap.size + 1, 1, none⟩) (by go_size)).trans (by go_simp)
          have fb3 : w1.frozen? ⟨w.heap.size + 1, 1, none⟩ = false := (hb1.frozen (p := ⟨w.heap.size + 1, 1, none⟩) (by go_size)).trans (by go_simp)
          have zb4 : w.heap.size + 1 < w1.heap.size := Nat.lt_of_lt_of_le (by go_size) hb1.size
          have cb4 : w1.cell? ⟨w.heap.size + 1 + 1, 0, none⟩ = some (.int .i64 0) := (hb1.cell (p := ⟨w.heap.size + 1 + 1, 0, none⟩) (by go_size)).trans (by go_simp)
          have fb4 : w1.frozen? ⟨w.heap.size + 1 + 1, 0, none⟩ = false := (hb1.frozen (p := ⟨w.heap.size + 1 + 1, 0, none⟩) (by go_size)).trans (by go_simp)
          have cb5 : w1.cell? ⟨w.heap.size + 1 + 1, 1, none⟩ = some (.int .i64 0) := (hb1.cell (p := ⟨w.heap.size + 1 + 1, 1, none⟩) (by go_size)).trans (by go_simp)
          have fb5 : w1.frozen? ⟨w.heap.size + 1 + 1, 1, none⟩ = false := (hb1.frozen (p := ⟨w.heap.size + 1 + 1, 1, none⟩) (by go_size)).trans (by go_simp)
          have zb6 : w.heap.size + 1 + 1 < w1.heap.size := Nat.lt_of_lt_of_le (by go_size) hb1.size
          have hwb : Below w.heap.size w w1 := Below.trans (by (repeat' (first | (with_reducible exact Below.refl _ _) | (with_reducible assumption) | (with_reducible refine Below.alloc ?_ ?_ _) | (with_reducible refine Below.drew ?_) | (with_reducible refine below_drewN ?_ _) | (with_reducible refine Below.setCell ?_ ?_ _) | go_size))) (hb1.mono (by go_size))
          have hsb : w.heap.size ≤ w1.heap.size := hwb.size
          go_wp2_with fail
          refine (rempty_c _ _ _).mono ?_
          rintro e w2 ⟨rfl, hb2⟩
          have cc0 : w2.cell? ⟨w.heap.size, 0, none⟩ = some (.int .i64 a) := (hb2.cell (p := ⟨w.heap.size, 0, none⟩) (by go_size)).trans (by go_simp)
          have fc0 : w2.frozen? ⟨w.heap.size, 0, none⟩ = false := (hb2.frozen (p := ⟨w.heap.size, 0, none⟩) (by go_size)).trans (by go_simp)
          have cc1 : w2.cell? ⟨w.heap.size, 1, none⟩ = some (.int .i64 b) := (hb2.cell (p := ⟨w.heap.size, 1, none⟩) (by go_size)).trans (by go_simp)
          have fc1 : w2.frozen? ⟨w.heap.size, 1, none⟩ = false := (hb2.frozen (p := ⟨w.heap.size, 1, none⟩) (by go_size)).trans (by go_simp)
          have zc2 : w.heap.size < w2.heap.size := Nat.lt_of_lt_of_le (by go_size) hb2.size
          have cc2 : w2.cell? ⟨w.heap.size + 1, 0, none⟩ = some (.int .i64 c) := (hb2.cell (p := ⟨w.heap.size + 1, 0, none⟩) (by go_size)).trans (by go_simp)
          have fc2 : w2.frozen? ⟨w.heap.size + 1, 0, none⟩ = false := (hb2.frozen (p := ⟨w.heap.size + 1, 0, none⟩) (by go_size)).trans (by go_simp)
          have cc3 : w2.cell? ⟨w.heap.size + 1, 1, none⟩ = some (.int .i64 d) := (hb2.cell (p := ⟨w.heap.size + 1, 1, none⟩) (by go_size)).trans (by go_simp)
          have fc3 : w2.frozen? ⟨w.heap.size + 1, 1, none⟩ = false := (hb2.frozen (p := ⟨w.heap.size + 1, 1, none⟩) (by go_size)).trans (by go_simp)
          have zc4 : w.heap.size + 1 < w2.heap.size := Nat.lt_of_lt_of_le (by go_size) hb2.size
          have cc4 : w2.cell? ⟨w.heap.size + 1 + 1, 0, none⟩ = some (.int .i64 0) := (hb2.cell (p := ⟨w.heap.size + 1 + 1, 0, none⟩) (by go_size)).trans (by go_simp)
          have fc4 : w2.frozen? ⟨w.heap.size + 1 + 1, 0, none⟩ = false := (hb2.frozen (p := ⟨w.heap.size + 1 + 1, 0, none⟩) (by go_size)).trans (by go_simp)
          have cc5 : w2.cell? ⟨w.heap.size + 1 + 1, 1, none⟩ = some (.int .i64 0) := (hb2.cell (p := ⟨w.heap.size + 1 + 1, 1, none⟩) (by go_size)).trans (by go_simp)
          have fc5 : w2.frozen? ⟨w.heap.size + 1 + 1, 1, none⟩ = false := (hb2.frozen (p := ⟨w.heap.size + 1 + 1, 1, none⟩) (by go_size)).trans (by go_simp)
          have zc6 : w.heap.size + 1 + 1 < w2.heap.size := Nat.lt_of_lt_of_le (by go_size) hb2.size
          have hwc : Below w.heap.size w w2 := Below.trans (by (repeat' (first | (with_reducible exact Below.refl _ _) | (with_reducible assumption) | (with_reducible refine Below.alloc ?_ ?_ _) | (with_reducible refine Below.drew ?_) | (with_reducible refine below_drewN ?_ _) | (with_reducible refine Below.setCell ?_ ?_ _) | go_size))) (hb2.mono (by go_size))
          have hsc : w.heap.size ≤ w2.heap.size := hwc.size
          clear cb0 fb0 cb1 fb1 zb2 cb2 fb2 cb3 fb3 zb4 cb4 fb4 cb5 fb5 zb6 hwb hsb hb1
          go_wp2_with fail
          refine (rclean_c _ _ _).mono ?_
          rintro e w3 ⟨rfl, hb3⟩
          have cd0 : w3.cell? ⟨w.heap.size, 0, none⟩ = some (.int .i64 a) := (hb3.cell (p := ⟨w.heap.size, 0, none⟩) (by go_size)).trans (by go_simp)
          have fd0 : w3.frozen? ⟨w.heap.size, 0, none⟩ = false := (hb3.frozen (p := ⟨w.heap.size, 0, none⟩) (by go_size)).trans (by go_simp)
          have cd1 : w3.cell? ⟨w.heap.size, 1, none⟩ = some (.int .i64 b) := (hb3.cell (p := ⟨w.heap.size, 1, none⟩) (by go_size)).trans (by go_simp)
          have fd1 : w3.frozen? ⟨w.heap.size, 1, none⟩ = false := (hb3.frozen (p := ⟨w.heap.size, 1, none⟩) (by go_size)).trans (by go_simp)
          have zd2 : w.heap.size < w3.heap.size := Nat.lt_of_lt_of_le (by go_size) hb3.size
          have cd2 : w3.cell? ⟨w.heap.size + 1, 0, none⟩ = some (.int .i64 c) := (hb3.cell (p := ⟨w.heap.size + 1, 0, none⟩) (by go_size)).trans (by go_simp)
          have fd2 : w3.frozen? ⟨w.heap.size + 1, 0, none⟩ = false := (hb3.frozen (p := ⟨w.heap.size + 1, 0, none⟩) (by go_size)).trans (by go_simp)
          have cd3 : w3.cell? ⟨w.heap.size + 1, 1, none⟩ = some (.int .i64 d) := (hb3.cell (p := ⟨w.heap.size + 1, 1, none⟩) (by go_size)).trans (by go_simp)
          have fd3 : w3.frozen? ⟨w.heap.size + 1, 1, none⟩ = false := (hb3.frozen (p := ⟨w.heap.size + 1, 1, none⟩) (by go_size)).trans (by go_simp)
          have zd4 : w.heap.size + 1 < w3.heap.size := Nat.lt_of_lt_of_le (by go_size) hb3.size
          have cd4 : w3.cell? ⟨w.heap.size + 1 + 1, 0, none⟩ = some (.int .i64 0) := (hb3.cell (p := ⟨w.heap.size + 1 + 1, 0, none⟩) (by go_size)).trans (by go_simp)
          have fd4 : w3.frozen? ⟨w.heap.size + 1 + 1, 0, none⟩ = false := (hb3.frozen (p := ⟨w.heap.size + 1 + 1, 0, none⟩) (by go_size)).trans (by go_simp)
          have cd5 : w3.cell? ⟨w.heap.size + 1 + 1, 1, none⟩ = some (.int .i64 0) := (hb3.cell (p := ⟨w.heap.size + 1 + 1, 1, none⟩) (by go_size)).trans (by go_simp)
          have fd5 : w3.frozen? ⟨w.heap.size + 1 + 1, 1, none⟩ = false := (hb3.frozen (p := ⟨w.heap.size + 1 + 1, 1, none⟩) (by go_size)).trans (by go_simp)
          have zd6 : w.heap.size + 1 + 1 < w3.heap.size := Nat.lt_of_lt_of_le (by go_size) hb3.size
          have hwd : Below w.heap.size w w3 := Below.trans (by (repeat' (first | (with_reducible exact Below.refl _ _) | (with_reducible assumption) | (with_reducible refine Below.alloc ?_ ?_ _) | (with_reducible refine Below.drew ?_) | (with_reducible refine below_drewN ?_ _) | (with_reducible refine Below.setCell ?_ ?_ _) | go_size))) (hb3.mono (by go_size))
          have hsd : w.heap.size ≤ w3.heap.size := hwd.size
          clear cc0 fc0 cc1 fc1 zc2 cc2 fc2 cc3 fc3 zc4 cc4 fc4 cc5 fc5 zc6 hwc hsc hb2
          go_wp2_with fail
          have yo : w.heap.size + 1 + 1 < w3.heap.size := zd6
          refine abs_wp ?_
          intro W4 hW
          have ce0 : W4.cell? ⟨w.heap.size, 0, none⟩ = some (.int .i64 a) := by rw [hW]; go_simp
          have fe0 : W4.frozen? ⟨w.heap.size, 0, none⟩ = false := by rw [hW]; go_simp
          have ce1 : W4.cell? ⟨w.heap.size, 1, none⟩ = some (.int .i64 b) := by rw [hW]; go_simp
          have fe1 : W4.frozen? ⟨w.heap.size, 1, none⟩ = false := by rw [hW]; go_simp
          have ze2 : w.heap.size < W4.heap.size := by rw [hW]; go_size
          have ce2 : W4.cell? ⟨w.heap.size + 1, 0, none⟩ = some (.int .i64 c) := by rw [hW]; go_simp
          have fe2 : W4.frozen? ⟨w.heap.size + 1, 0, none⟩ = false := by rw [hW]; go_simp
          have ce3 : W4.cell? ⟨w.heap.size + 1, 1, none⟩ = some (.int .i64 d) := by rw [hW]; go_simp
          have fe3 : W4.frozen? ⟨w.heap.size + 1, 1, none⟩ = false := by rw [hW]; go_simp
          have ze4 : w.heap.size + 1 < W4.heap.size := by rw [hW]; go_size
          have ce4 : W4.cell? ⟨w.heap.size + 1 + 1, 0, none⟩ = some (.int .i64 0) := by rw [hW]; go_simp
          have fe4 : W4.frozen? ⟨w.heap.size + 1 + 1, 0, none⟩ = false := by rw [hW]; go_simp
          have ce5 : W4.cell? ⟨w.heap.size + 1 + 1, 1, none⟩ = some (.int .i64 0) := by rw [hW]; go_simp
          have fe5 : W4.frozen? ⟨w.heap.size + 1 + 1, 1, none⟩ = false := by rw [hW]; go_simp
          have ze6 : w.heap.size + 1 + 1 < W4.heap.size := by rw [hW]; go_size
          have ce6 : W4.cell? ⟨w3.heap.size, 0, none⟩ = some (.int .i64 (Pl.clo a b)) := by rw [hW]; go_simp
          have fe6 : W4.frozen? ⟨w3.heap.size, 0, none⟩ = false := by rw [hW]; go_simp
          have ce7 : W4.cell? ⟨w3.heap.size, 1, none⟩ = some (.int .i64 (Pl.chi a b)) := by rw [hW]; go_simp
          have fe7 : W4.frozen? ⟨w3.heap.size, 1, none⟩ = false := by rw [hW]; go_simp
          have ze8 : w3.heap.size < W4.heap.size := by rw [hW]; go_size
          have hwe : Below w.heap.size w W4 := by
            rw [hW]
            (repeat' (first | (with_reducible exact Below.refl _ _) | (with_reducible assumption) | (with_reducible refine Below.alloc ?_ ?_ _) | (with_reducible refine Below.drew ?_) | (with_reducible refine below_drewN ?_ _) | (with_reducible refine Below.setCell ?_ ?_ _) | go_size))
          have hse : w.heap.size ≤ W4.heap.size := hwe.size
          clear hW
          clear cd0 fd0 cd1 fd1 zd2 cd2 fd2 cd3 fd3 zd4 cd4 fd4 cd5 fd5 zd6 hwd hsd hb3
          refine wp_region_kq (by kernel_rfl) (by kernel_rfl) ?_
          repeat (quiet_step ((go_at_call 41; exact KW.call (rclean_c _ _ _))))
          refine wpQuiet_nil ?_
          intro k5
          have cf0 : k5.val.cell? ⟨w.heap.size, 0, none⟩ = some (.int .i64 a) := (k5.kp.cell (p := ⟨w.heap.size, 0, none⟩) (by go_size)).trans (by go_simp)
          have ff0 : k5.val.frozen? ⟨w.heap.size, 0, none⟩ = false := (k5.kp.frozen (p := ⟨w.heap.size, 0, none⟩) (by go_size)).trans (by go_simp)
          have cf1 : k5.val.cell? ⟨w.heap.size, 1, none⟩ = some (.int .i64 b) := (k5.kp.cell (p := ⟨w.heap.size, 1, none⟩) (by go_size)).trans (by go_simp)
          have ff1 : k5.val.frozen? ⟨w.heap.size, 1, none⟩ = false := (k5.kp.frozen (p := ⟨w.heap.size, 1, none⟩) (by go_size)).trans (by go_simp)
          have zf2 : w.heap.size < k5.val.heap.size := Nat.lt_of_lt_of_le (by go_size) k5.kp.size
          have cf2 : k5.val.cell? ⟨w.heap.size + 1, 0, none⟩ = some (.int .i64 c) := (k5.kp.cell (p := ⟨w.heap.size + 1, 0, none⟩) (by go_size)).trans (by go_simp)
          have ff2 : k5.val.frozen? ⟨w.heap.size + 1, 0, none⟩ = false := (k5.kp.frozen (p := ⟨w.heap.size + 1, 0, none⟩) (by go_size)).trans (by go_simp)
          have cf3 : k5.val.cell? ⟨w.heap.size + 1, 1, none⟩ = some (.int .i64 d) := (k5.kp.cell (p := ⟨w.heap.size + 1, 1, none⟩) (by go_size)).trans (by go_simp)
          have ff3 : k5.val.frozen? ⟨w.heap.size + 1, 1, none⟩ = false := (k5.kp.frozen (p := ⟨w.heap.size + 1, 1, none⟩) (by go_size)).trans (by go_simp)
          have zf4 : w.heap.size + 1 < k5.val.heap.size := Nat.lt_of_lt_of_le (by go_size) k5.kp.size
          have cf4 : k5.val.cell? ⟨w.heap.size + 1 + 1, 0, none⟩ = some (.int .i64 0) := (k5.kp.cell (p := ⟨w.heap.size + 1 + 1, 0, none⟩) (by go_size)).trans (by go_simp)
          have ff4 : k5.val.frozen? ⟨w.heap.size + 1 + 1, 0, none⟩ = false := (k5.kp.frozen (p := ⟨w.heap.size + 1 + 1, 0, none⟩) (by go_size)).trans (by go_simp)
          have cf5 : k5.val.cell? ⟨w.heap.size + 1 + 1, 1, none⟩ = some (.int .i64 0) := (k5.kp.cell (p := ⟨w.heap.size + 1 + 1, 1, none⟩) (by go_size)).trans (by go_simp)
          have ff5 : k5.val.frozen? ⟨w.heap.size + 1 + 1, 1, none⟩ = false := (k5.kp.frozen (p := ⟨w.heap.size + 1 + 1, 1, none⟩) (by go_size)).trans (by go_simp)
          have zf6 : w.heap.size + 1 + 1 < k5.val.heap.size := Nat.lt_of_lt_of_le (by go_size) k5.kp.size
          have cf6 : k5.val.cell? ⟨w3.heap.size, 0, none⟩ = some (.int .i64 (Pl.clo a b)) := (k5.kp.cell (p := ⟨w3.heap.size, 0, none⟩) (by go_size)).trans (by go_simp)
          have ff6 : k5.val.frozen? ⟨w3.heap.size, 0, none⟩ = false := (k5.kp.frozen (p := ⟨w3.heap.size, 0, none⟩) (by go_size)).trans (by go_simp)
          have cf7 : k5.val.cell? ⟨w3.heap.size, 1, none⟩ = some (.int .i64 (Pl.chi a b)) := (k5.kp.cell (p := ⟨w3.heap.size, 1, none⟩) (by go_size)).trans (by go_simp)
          have ff7 : k5.val.frozen? ⟨w3.heap.size, 1, none⟩ = false := (k5.kp.frozen (p := ⟨w3.heap.size, 1, none⟩) (by go_size)).trans (by go_simp)
          have zf8 : w3.heap.size < k5.val.heap.size := Nat.lt_of_lt_of_le (by go_size) k5.kp.size
          have hwf : Below w.heap.size w k5.val := Below.trans (by (repeat' (first | (with_reducible exact Below.refl _ _) | (with_reducible assumption) | (with_reducible refine Below.alloc ?_ ?_ _) | (with_reducible refine Below.drew ?_) | (with_reducible refine below_drewN ?_ _) | (with_reducible refine Below.setCell ?_ ?_ _) | go_size))) (k5.kp.mono (by go_size))
          have hsf : w.heap.size ≤ k5.val.heap.size := hwf.size
          clear ce0 fe0 ce1 fe1 ze2 ce2 fe2 ce3 fe3 ze4 ce4 fe4 ce5 fe5 ze6 ce6 fe6 ce7 fe7 ze8 hwe hse
          go_wp2_with fail
          refine (rclean_c _ _ _).mono ?_
          rintro e w6 ⟨rfl, hb6⟩
          have cg0 : w6.cell? ⟨w.heap.size, 0, none⟩ = some (.int .i64 a) := (hb6.cell (p := ⟨w.heap.size, 0, none⟩) (by go_size)).trans (by go_simp)
          have fg0 : w6.frozen? ⟨w.heap.size, 0, none⟩ = false := (hb6.frozen (p := ⟨w.heap.size, 0, none⟩) (by go_size)).trans (by go_simp)
          have cg1 : w6.cell? ⟨w.heap.size, 1, none⟩ = some (.int .i64 b) := (hb6.cell (p := ⟨w.heap.size, 1, none⟩) (by go_size)).trans (by go_simp)
          have fg1 : w6.frozen? ⟨w.heap.size, 1, none⟩ = false := (hb6.frozen (p := ⟨w.heap.size, 1, none⟩) (by go_size)).trans (by go_simp)
          have zg2 : w.heap.size < w6.heap.size := Nat.lt_of_lt_of_le (by go_size) hb6.size
          have cg2 : w6.cell? ⟨w.heap.size + 1, 0, none⟩ = some (.int .i64 c) := (hb6.cell (p := ⟨w.heap.size + 1, 0, none⟩) (by go_size)).trans (by go_simp)
          have fg2 : w6.frozen? ⟨w.heap.size + 1, 0, none⟩ = false := (hb6.frozen (p := ⟨w.heap.size + 1, 0, none⟩) (by go_size)).trans (by go_simp)
          have cg3 : w6.cell? ⟨w.heap.size + 1, 1, none⟩ = some (.int .i64 d) := (hb6.cell (p := ⟨w.heap.size + 1, 1, none⟩) (by go_size)).trans (by go_simp)
          have fg3 : w6.frozen? ⟨w.heap.size + 1, 1, none⟩ = false := (hb6.frozen (p := ⟨w.heap.size + 1, 1, none⟩) (by go_size)).trans (by go_simp)
          have zg4 : w.heap.size + 1 < w6.heap.size := Nat.lt_of_lt_of_le (by go_size) hb6.size
          have cg4 : w6.cell? ⟨w.heap.size + 1 + 1, 0, none⟩ = some (.int .i64 0) := (hb6.cell (p := ⟨w.heap.size + 1 + 1, 0, none⟩) (by go_size)).trans (by go_simp)
          have fg4 : w6.frozen? ⟨w.heap.size + 1 + 1, 0, none⟩ = false := (hb6.frozen (p := ⟨w.heap.size + 1 + 1, 0, none⟩) (by go_size)).trans (by go_simp)
          have cg5 : w6.cell? ⟨w.heap.size + 1 + 1, 1, none⟩ = some (.int .i64 0) := (hb6.cell (p := ⟨w.heap.size + 1 + 1, 1, none⟩) (by go_size)).trans (by go_simp)
          have fg5 : w6.frozen? ⟨w.heap.size + 1 + 1, 1, none⟩ = false := (hb6.frozen (p := ⟨w.heap.size + 1 + 1, 1, none⟩) (by go_size)).trans (by go_simp)
          have zg6 : w.heap.size + 1 + 1 < w6.heap.size := Nat.lt_of_lt_of_le (by go_size) hb6.size
          have cg6 : w6.cell? ⟨w3.heap.size, 0, none⟩ = some (.int .i64 (Pl.clo a b)) := (hb6.cell (p := ⟨w3.heap.size, 0, none⟩) (by go_size)).trans (by go_simp)
          have fg6 : w6.frozen? ⟨w3.heap.size, 0, none⟩ = false := (hb6.frozen (p := ⟨w3.heap.size, 0, none⟩) (by go_size)).trans (by go_simp)
          have cg7 : w6.cell? ⟨w3.heap.size, 1, none⟩ = some (.int .i64 (Pl.chi a b)) := (hb6.cell (p := ⟨w3.heap.size, 1, none⟩) (by go_size)).trans (by go_simp)
          have fg7 : w6.frozen? ⟨w3.heap.size, 1, none⟩ = false := (hb6.frozen (p := ⟨w3.heap.size, 1, none⟩) (by go_size)).trans (by go_simp)
          have zg8 : w3.heap.size < w6.heap.size := Nat.lt_of_lt_of_le (by go_size) hb6.size
          have hwg : Below w.heap.size w w6 := Below.trans (by (repeat' (first | (with_reducible exact Below.refl _ _) | (with_reducible assumption) | (with_reducible refine Below.alloc ?_ ?_ _) | (with_reducible refine Below.drew ?_) | (with_reducible refine below_drewN ?_ _) | (with_reducible refine Below.setCell ?_ ?_ _) | go_size))) (hb6.mono (by go_size))
          have hsg : w.heap.size ≤ w6.heap.size := hwg.size
          clear cf0 ff0 cf1 ff1 zf2 cf2 ff2 cf3 ff3 zf4 cf4 ff4 cf5 ff5 zf6 cf6 ff6 cf7 ff7 zf8 hwf hsf
          go_wp2_with fail
          refine abs_wp ?_
          intro W7 hW
          have ch0 : W7.cell? ⟨w.heap.size, 0, none⟩ = some (.int .i64 a) := by rw [hW]; go_simp
          have fh0 : W7.frozen? ⟨w.heap.size, 0, none⟩ = false := by rw [hW]; go_simp
          have ch1 : W7.cell? ⟨w.heap.size, 1, none⟩ = some (.int .i64 b) := by rw [hW]; go_simp
          have fh1 : W7.frozen? ⟨w.heap.size, 1, none⟩ = false := by rw [hW]; go_simp
          have zh2 : w.heap.size < W7.heap.size := by rw [hW]; go_size
          have ch2 : W7.cell? ⟨w.heap.size + 1, 0, none⟩ = some (.int .i64 c) := by rw [hW]; go_simp
          have fh2 : W7.frozen? ⟨w.heap.size + 1, 0, none⟩ = false := by rw [hW]; go_simp
          have ch3 : W7.cell? ⟨w.heap.size + 1, 1, none⟩ = some (.int .i64 d) := by rw [hW]; go_simp
          have fh3 : W7.frozen? ⟨w.heap.size + 1, 1, none⟩ = false := by rw [hW]; go_simp
          have zh4 : w.heap.size + 1 < W7.heap.size := by rw [hW]; go_size
          have ch4 : W7.cell? ⟨w.heap.size + 1 + 1, 0, none⟩ = some (.int .i64 0) := by rw [hW]; go_simp
          have fh4 : W7.frozen? ⟨w.heap.size + 1 + 1, 0, none⟩ = false := by rw [hW]; go_simp
          have ch5 : W7.cell? ⟨w.heap.size + 1 + 1, 1, none⟩ = some (.int .i64 0) := by rw [hW]; go_simp
          have fh5 : W7.frozen? ⟨w.heap.size + 1 + 1, 1, none⟩ = false := by rw [hW]; go_simp
          have zh6 : w.heap.size + 1 + 1 < W7.heap.size := by rw [hW]; go_size
          have ch6 : W7.cell? ⟨w3.heap.size, 0, none⟩ = some (.int .i64 (Pl.clo c d)) := by rw [hW]; go_simp
          have fh6 : W7.frozen? ⟨w3.heap.size, 0, none⟩ = false := by rw [hW]; go_simp
          have ch7 : W7.cell? ⟨w3.heap.size, 1, none⟩ = some (.int .i64 (Pl.chi a b)) := by rw [hW]; go_simp
          have fh7 : W7.frozen? ⟨w3.heap.size, 1, none⟩ = false := by rw [hW]; go_simp
          have zh8 : w3.heap.size < W7.heap.size := by rw [hW]; go_size
          have hwh : Below w.heap.size w W7 := by
            rw [hW]
            (repeat' (first | (with_reducible exact Below.refl _ _) | (with_reducible assumption) | (with_reducible refine Below.alloc ?_ ?_ _) | (with_reducible refine Below.drew ?_) | (with_reducible refine below_drewN ?_ _) | (with_reducible refine Below.setCell ?_ ?_ _) | go_size))
          have hsh : w.heap.size ≤ W7.heap.size := hwh.size
          clear hW
          clear cg0 fg0 cg1 fg1 zg2 cg2 fg2 cg3 fg3 zg4 cg4 fg4 cg5 fg5 zg6 cg6 fg6 cg7 fg7 zg8 hwg hsg hb6
          refine wp_region_kq (by kernel_rfl) (by kernel_rfl) ?_
          repeat (quiet_step ((go_at_call 41; exact KW.call (rclean_c _ _ _))))
          refine wpQuiet_nil ?_
          intro k8
          have ci0 : k8.val.cell? ⟨w.heap.size, 0, none⟩ = some (.int .i64 a) := (k8.kp.cell (p := ⟨w.heap.size, 0, none⟩) (by go_size)).trans (by go_simp)
          have fi0 : k8.val.frozen? ⟨w.heap.size, 0, none⟩ = false := (k8.kp.frozen (p := ⟨w.heap.size, 0, none⟩) (by go_size)).trans (by go_simp)
          have ci1 : k8.val.cell? ⟨w.heap.size, 1, none⟩ = some (.int .i64 b) := (k8.kp.cell (p := ⟨w.heap.size, 1, none⟩) (by go_size)).trans (by go_simp)
          have fi1 : k8.val.frozen? ⟨w.heap.size, 1, none⟩ = false := (k8.kp.frozen (p := ⟨w.heap.size, 1, none⟩) (by go_size)).trans (by go_simp)
          have zi2 : w.heap.size < k8.val.heap.size := Nat.lt_of_lt_of_le (by go_size) k8.kp.size
          have ci2 : k8.val.cell? ⟨w.heap.size + 1, 0, none⟩ = some (.int .i64 c) := (k8.kp.cell (p := ⟨w.heap.size + 1, 0, none⟩) (by go_size)).trans (by go_simp)
          have fi2 : k8.val.frozen? ⟨w.heap.size + 1, 0, none⟩ = false := (k8.kp.frozen (p := ⟨w.heap.size + 1, 0, none⟩) (by go_size)).trans (by go_simp)
          have ci3 : k8.val.cell? ⟨w.heap.size + 1, 1, none⟩ = some (.int .i64 d) := (k8.kp.cell (p := ⟨w.heap.size + 1, 1, none⟩) (by go_size)).trans (by go_simp)
          have fi3 : k8.val.frozen? ⟨w.heap.size + 1, 1, none⟩ = false := (k8.kp.frozen (p := ⟨w.heap.size + 1, 1, none⟩) (by go_size)).trans (by go_simp)
          have zi4 : w.heap.size + 1 < k8.val.heap.size := Nat.lt_of_lt_of_le (by go_size) k8.kp.size
          have ci4 : k8.val.cell? ⟨w.heap.size + 1 + 1, 0, none⟩ = some (.int .i64 0) := (k8.kp.cell (p := ⟨w.heap.size + 1 + 1, 0, none⟩) (by go_size)).trans (by go_simp)
          have fi4 : k8.val.frozen? ⟨w.heap.size + 1 + 1, 0, none⟩ = false := (k8.kp.frozen (p := ⟨w.heap.size + 1 + 1, 0, none⟩) (by go_size)).trans (by go_simp)
          have ci5 : k8.val.cell? ⟨w.heap.size + 1 + 1, 1, none⟩ = some (.int .i64 0) := (k8.kp.cell (p := ⟨w.heap.size + 1 + 1, 1, none⟩) (by go_size)).trans (by go_simp)
          have fi5 : k8.val.frozen? ⟨w.heap.size + 1 + 1, 1, none⟩ = false := (k8.kp.frozen (p := ⟨w.heap.size + 1 + 1, 1, none⟩) (by go_size)).trans (by go_simp)
          have zi6 : w.heap.size + 1 + 1 < k8.val.heap.size := Nat.lt_of_lt_of_le (by go_size) k8.kp.size
          have ci6 : k8.val.cell? ⟨w3.heap.size, 0, none⟩ = some (.int .i64 (Pl.clo c d)) := (k8.kp.cell (p := ⟨w3.heap.size, 0, none⟩) (by go_size)).trans (by go_simp)
          have fi6 : k8.val.frozen? ⟨w3.heap.size, 0, none⟩ = false := (k8.kp.frozen (p := ⟨w3.heap.size, 0, none⟩) (by go_size)).trans (by go_simp)
          have ci7 : k8.val.cell? ⟨w3.heap.size, 1, none⟩ = some (.int .i64 (Pl.chi a b)) := (k8.kp.cell (p := ⟨w3.heap.size, 1, none⟩) (by go_size)).trans (by go_simp)
          have fi7 : k8.val.frozen? ⟨w3.heap.size, 1, none⟩ = false := (k8.kp.frozen (p := ⟨w3.heap.size, 1, none⟩) (by go_size)).trans (by go_simp)
          have zi8 : w3.heap.size < k8.val.heap.size := Nat.lt_of_lt_of_le (by go_size) k8.kp.size
          have hwi : Below w.heap.size w k8.val := Below.trans (by (repeat' (first | (with_reducible exact Below.refl _ _) | (with_reducible assumption) | (with_reducible refine Below.alloc ?_ ?_ _) | (with_reducible refine Below.drew ?_) | (with_reducible refine below_drewN ?_ _) | (with_reducible refine Below.setCell ?_ ?_ _) | go_size))) (k8.kp.mono (by go_size))
          have hsi : w.heap.size ≤ k8.val.heap.size := hwi.size
          clear ch0 fh0 ch1 fh1 zh2 ch2 fh2 ch3 fh3 zh4 ch4 fh4 ch5 fh5 zh6 ch6 fh6 ch7 fh7 zh8 hwh hsh
          go_wp2_with fail
          refine (rclean_c _ _ _).mono ?_
          rintro e w9 ⟨rfl, hb9⟩
          have cj0 : w9.cell? ⟨w.heap.size, 0, none⟩ = some (.int .i64 a) := (hb9.cell (p := ⟨w.heap.size, 0, none⟩) (by go_size)).trans (by go_simp)
          have fj0 : w9.frozen? ⟨w.heap.size, 0, none⟩ = false := (hb9.frozen (p := ⟨w.heap.size, 0, none⟩) (by go_size)).trans (by go_simp)
          have cj1 : w9.cell? ⟨w.heap.size, 1, none⟩ = some (.int .i64 b) := (hb9.cell (p := ⟨w.heap.size, 1, none⟩) (by go_size)).trans (by go_simp)
          have fj1 : w9.frozen? ⟨w.heap.size, 1, none⟩ = false := (hb9.frozen (p := ⟨w.heap.size, 1, none⟩) (by go_size)).trans (by go_simp)
          have zj2 : w.heap.size < w9.heap.size := Nat.lt_of_lt_of_le (by go_size) hb9.size
          have cj2 : w9.cell? ⟨w.heap.size + 1, 0, none⟩ = some (.int .i64 c) := (hb9.cell (p := ⟨w.heap.size + 1, 0, none⟩) (by go_size)).trans (by go_simp)
          have fj2 : w9.frozen? ⟨w.heap.size + 1, 0, none⟩ = false := (hb9.frozen (p := ⟨w.heap.size + 1, 0, none⟩) (by go_size)).trans (by go_simp)
          have cj3 : w9.cell? ⟨w.heap.size + 1, 1, none⟩ = some (.int .i64 d) := (hb9.cell (p := ⟨w.heap.size + 1, 1, none⟩) (by go_size)).trans (by go_simp)
          have fj3 : w9.frozen? ⟨w.heap.size + 1, 1, none⟩ = false := (hb9.frozen (p := ⟨w.heap.size + 1, 1, none⟩) (by go_size)).trans (by go_simp)
          have zj4 : w.heap.size + 1 < w9.heap.size := Nat.lt_of_lt_of_le (by go_size) hb9.size
          have cj4 : w9.cell? ⟨w.heap.size + 1 + 1, 0, none⟩ = some (.int .i64 0) := (hb9.cell (p := ⟨w.heap.size + 1 + 1, 0, none⟩) (by go_size)).trans (by go_simp)
          have fj4 : w9.frozen? ⟨w.heap.size + 1 + 1, 0, none⟩ = false := (hb9.frozen (p := ⟨w.heap.size + 1 + 1, 0, none⟩) (by go_size)).trans (by go_simp)
          have cj5 : w9.cell? ⟨w.heap.size + 1 + 1, 1, none⟩ = some (.int .i64 0) := (hb9.cell (p := ⟨w.heap.size + 1 + 1, 1, none⟩) (by go_size)).trans (by go_simp)
          have fj5 : w9.frozen? ⟨w.heap.size + 1 + 1, 1, none⟩ = false := (hb9.frozen (p := ⟨w.heap.size + 1 + 1, 1, none⟩) (by go_size)).trans (by go_simp)
          have zj6 : w.heap.size + 1 + 1 < w9.heap.size := Nat.lt_of_lt_of_le (by go_size) hb9.size
          have cj6 : w9.cell? ⟨w3.heap.size, 0, none⟩ = some (.int .i64 (Pl.clo c d)) := (hb9.cell (p := ⟨w3.heap.size, 0, none⟩) (by go_size)).trans (by go_simp)
          have fj6 : w9.frozen? ⟨w3.heap.size, 0, none⟩ = false := (hb9.frozen (p := ⟨w3.heap.size, 0, none⟩) (by go_size)).trans (by go_simp)
          have cj7 : w9.cell? ⟨w3.heap.size, 1, none⟩ = some (.int .i64 (Pl.chi a b)) := (hb9.cell (p := ⟨w3.heap.size, 1, none⟩) (by go_size)).trans (by go_simp)
          have fj7 : w9.frozen? ⟨w3.heap.size, 1, none⟩ = false := (hb9.frozen (p := ⟨w3.heap.size, 1, none⟩) (by go_size)).trans (by go_simp)
          have zj8 : w3.heap.size < w9.heap.size := Nat.lt_of_lt_of_le (by go_size) hb9.size
          have hwj : Below w.heap.size w w9 := Below.trans (by (repeat' (first | (with_reducible exact Below.refl _ _) | (with_reducible assumption) | (with_reducible refine Below.alloc ?_ ?_ _) | (with_reducible refine Below.drew ?_) | (with_reducible refine below_drewN ?_ _) | (with_reducible refine Below.setCell ?_ ?_ _) | go_size))) (hb9.mono (by go_size))
          have hsj : w.heap.size ≤ w9.heap.size := hwj.size
          clear ci0 fi0 ci1 fi1 zi2 ci2 fi2 ci3 fi3 zi4 ci4 fi4 ci5 fi5 zi6 ci6 fi6 ci7 fi7 zi8 hwi hsi
          go_wp2
          refine bodyPost_ret (v := .agg #[.int .i64 _, .int .i64 _]) (by simp [results, Try.results43, go_sem, cj4, cj5]; exact ⟨rfl, rfl⟩) rfl ⟨ret_sp ?_ ?_, ?_⟩
          · simp only [Pl.hlo, Pl.gmin, e1, e2, Bool.false_eq_true, if_false]; (repeat' split) <;> first | rfl | omega
          · simp only [Pl.hhi, Pl.gmax, e1, e2, Bool.false_eq_true, if_false]; (repeat' split) <;> first | rfl | omega
          · (repeat' (first | (with_reducible exact Below.refl _ _) | (with_reducible assumption) | (with_reducible refine Below.alloc ?_ ?_ _) | (with_reducible refine Below.drew ?_) | (with_reducible refine below_drewN ?_ _) | (with_reducible refine Below.setCell ?_ ?_ _) | go_size))
        · skip
          go_enter Try.func43, Try.ntmps43
          go_wp2_with fail
          refine (rempty_c _ _ _).mono ?_
          rintro e w1 ⟨rfl, hb1⟩
          have cb0 : w1.cell? ⟨w.heap.size, 0, none⟩ = some (.int .i64 a) := (hb1.cell (p := ⟨w.heap.size, 0, none⟩) (by go_size)).trans (by go_simp)
          have fb0 : w1.frozen? ⟨w.heap.size, 0, none⟩ = false := (hb1.frozen (p := ⟨w.heap.size, 0, none⟩) (by go_size)).trans (by go_simp)
          have cb1 : w1.cell? ⟨w.heap.size, 1, none⟩ = some (.int .i64 b) := (hb1.cell (p := ⟨w.heap.size, 1, none⟩) (by go_size)).trans (by go_simp)
          have fb1 : w1.frozen? ⟨w.heap.size, 1, none⟩ = false := (hb1.frozen (p := ⟨w.heap.size, 1, none⟩) (by go_size)).trans (by go_simp)
          have zb2 : w.heap.size < w1.heap.size := Nat.lt_of_lt_of_le (by go_size) hb1.size
          have cb2 : w1.cell? ⟨w.heap.size + 1, 0, none⟩ = some (.int .i64 c) := (hb1.cell (p := ⟨w.heap.size + 1, 0, none⟩) (by go_size)).trans (by go_simp)
          have fb2 : w1.frozen? ⟨w.heap.size + 1, 0, none⟩ = false := (hb1.frozen (p := ⟨w.heap.size + 1, 0, none⟩) (by go_size)).trans (by go_simp)
          have cb3 : w1.cell? ⟨w.heap.size + 1, 1, none⟩ = some (.int .i64 d) := (hb1.cell (p := ⟨w.heap.size + 1, 1, none⟩) (by go_size)).trans (by go_simp)
          have fb3 : w1.frozen? ⟨w.heap.size + 1, 1, none⟩ = false := (hb1.frozen (p := ⟨w.heap.size + 1, 1, none⟩) (by go_size)).trans (by go_simp)
          have zb4 : w.heap.size + 1 < w1.heap.size := Nat.lt_of_lt_of_le (by go_size) hb1.size
          have cb4 : w1.cell? ⟨w.heap.size + 1 + 1, 0, none⟩ = some (.int .i64 0) := (hb1.cell (p := ⟨w.heap.size + 1 + 1, 0, none⟩) (by go_size)).trans (by go_simp)
          have fb4 : w1.frozen? ⟨w.heap.size + 1 + 1, 0, none⟩ = false := (hb1.frozen (p := ⟨w.heap.size + 1 + 1, 0, none⟩) (by go_size)).trans (by go_simp)
          have cb5 : w1.cell? ⟨w.heap.size + 1 + 1, 1, none⟩ = some (.int .i64 0) := (hb1.cell (p := ⟨w.heap.size + 1 + 1, 1, none⟩) (by go_size)).trans (by go_simp)
          have fb5 : w1.frozen? ⟨w.heap.size + 1 + 1, 1, none⟩ = false := (hb1.frozen (p := ⟨w.heap.size + 1 + 1, 1, none⟩) (by go_size)).trans (by go_simp)
          have zb6 : w.heap.size + 1 + 1 < w1.heap.size := Nat.lt_of_lt_of_le (by go_size) hb1.size
          have hwb : Below w.heap.size w w1 := Below.trans (by (repeat' (first | (with_reducible exact Below.refl _ _) | (with_reducible assumption) | (with_reducible refine Below.alloc ?_ ?_ _) | (with_reducible refine Below.drew ?_) | (with_reducible refine below_drewN ?_ _) | (with_reducible refine Below.setCell ?_ ?_ _) | go_size))) (hb1.mono (by go_size))
          have hsb : w.heap.size ≤ w1.heap.size := hwb.size
          go_wp2_with fail
          refine (rempty_c _ _ _).mono ?_
          rintro e w2 ⟨rfl, hb2⟩
          have cc0 : w2.cell? ⟨w.heap.size, 0, none⟩ = some (.int .i64 a) := (hb2.cell (p := ⟨w.heap.size, 0, none⟩) (by go_size)).trans (by go_simp)
          have fc0 : w2.frozen? ⟨w.heap.size, 0, none⟩ = false := (hb2.frozen (p := ⟨w.heap.size, 0, none⟩) (by go_size)).trans (by go_simp)
          have cc1 : w2.cell? ⟨w.heap.size, 1, none⟩ = some (.int .i64 b) := (hb2.cell (p := ⟨w.heap.size, 1, none⟩) (by go_size)).trans (by go_simp)
          have fc1 : w2.frozen? ⟨w.heap.size, 1, none⟩ = false := (hb2.frozen (p := ⟨w.heap.size, 1, none⟩) (by go_size)).trans (by go_simp)
          have zc2 : w.heap.size < w2.heap.size := Nat.lt_of_lt_of_le (by go_size) hb2.size
          have cc2 : w2.cell? ⟨w.heap.size + 1, 0, none⟩ = some (.int .i64 c) := (hb2.cell (p := ⟨w.heap.size + 1, 0, none⟩) (by go_size)).trans (by go_simp)
          have fc2 : w2.frozen? ⟨w.heap.size + 1, 0, none⟩ = false := (hb2.frozen (p := ⟨w.heap.size + 1, 0, none⟩) (by go_size)).trans (by go_simp)
          have cc3 : w2.cell? ⟨w.heap.size + 1, 1, none⟩ = some (.int .i64 d) := (hb2.cell (p := ⟨w.heap.size + 1, 1, none⟩) (by go_size)).trans (by go_simp)
          have fc3 : w2.frozen? ⟨w.heap.size + 1, 1, none⟩ = false := (hb2.frozen (p := ⟨w.heap.size + 1, 1, none⟩) (by go_size)).trans (by go_simp)
          have zc4 : w.heap.size + 1 < w2.heap.size := Nat.lt_of_lt_of_le (by go_size) hb2.size
          have cc4 : w2.cell? ⟨w.heap.size + 1 + 1, 0, none⟩ = some (.int .i64 0) := (hb2.cell (p := ⟨w.heap.size + 1 + 1, 0, none⟩) (by go_size)).trans (by go_simp)
          have fc4 : w2.frozen? ⟨w.heap.size + 1 + 1, 0, none⟩ = false := (hb2.frozen (p := ⟨w.heap.size + 1 + 1, 0, none⟩) (by go_size)).trans (by go_simp)
          have cc5 : w2.cell? ⟨w.heap.size + 1 + 1, 1, none⟩ = some (.int .i64 0) := (hb2.cell (p := ⟨w.heap.size + 1 + 1, 1, none⟩) (by go_size)).trans (by go_simp)
          have fc5 : w2.frozen? ⟨w.heap.size + 1 + 1, 1, none⟩ = false := (hb2.frozen (p := ⟨w.heap.size + 1 + 1, 1, none⟩) (by go_size)).trans (by go_simp)
          have zc6 : w.heap.size + 1 + 1 < w2.heap.size := Nat.lt_of_lt_of_le (by go_size) hb2.size
          have hwc : Below w.heap.size w w2 := Below.trans (by (repeat' (first | (with_reducible exact Below.refl _ _) | (with_reducible assumption) | (with_reducible refine Below.alloc ?_ ?_ _) | (with_reducible refine Below.drew ?_) | (with_reducible refine below_drewN ?_ _) | (with_reducible refine Below.setCell ?_ ?_ _) | go_size))) (hb2.mono (by go_size))
          have hsc : w.heap.size ≤ w2.heap.size := hwc.size
          clear cb0 fb0 cb1 fb1 zb2 cb2 fb2 cb3 fb3 zb4 cb4 fb4 cb5 fb5 zb6 hwb hsb hb1
          go_wp2_with fail
          refine (rclean_c _ _ _).mono ?_
          rintro e w3 ⟨rfl, hb3⟩
          have cd0 : w3.cell? ⟨w.heap.size, 0, none⟩ = some (.int .i64 a) := (hb3.cell (p := ⟨w.heap.size, 0, none⟩) (by go_size)).trans (by go_simp)
          have fd0 : w3.frozen? ⟨w.heap.size, 0, none⟩ = false := (hb3.frozen (p := ⟨w.heap.size, 0, none⟩) (by go_size)).trans (by go_simp)
          have cd1 : w3.cell? ⟨w.heap.size, 1, none⟩ = some (.int .i64 b) := (hb3.cell (p := ⟨w.heap.size, 1, none⟩) (by go_size)).trans (by go_simp)
          have fd1 : w3.frozen? ⟨w.heap.size, 1, none⟩ = false := (hb3.frozen (p := ⟨w.heap.size, 1, none⟩) (by go_size)).trans (by go_simp)
          have zd2 : w.heap.size < w3.heap.size := Nat.lt_of_lt_of_le (by go_size) hb3.size
          have cd2 : w3.cell? ⟨w.heap.size + 1, 0, none⟩ = some (.int .i64 c) := (hb3.cell (p := ⟨w.heap.size + 1, 0, none⟩) (by go_size)).trans (by go_simp)
          have fd2 : w3.frozen? ⟨w.heap.size + 1, 0, none⟩ = false := (hb3.frozen (p := ⟨w.heap.size + 1, 0, none⟩) (by go_size)).trans (by go_simp)
          have cd3 : w3.cell? ⟨w.heap.size + 1, 1, none⟩ = some (.int .i64 d) := (hb3.cell (p := ⟨w.heap.size + 1, 1, none⟩) (by go_size)).trans (by go_simp)
          have fd3 : w3.frozen? ⟨w.heap.size + 1, 1, none⟩ = false := (hb3.frozen (p := ⟨w.heap.size + 1, 1, none⟩) (by go_size)).trans (by go_simp)
          have zd4 : w.heap.size + 1 < w3.heap.size := Nat.lt_of_lt_of_le (by go_size) hb3.size
          have cd4 : w3.cell? ⟨w.heap.size + 1 + 1, 0, none⟩ = some (.int .i64 0) := (hb3.cell (p := ⟨w.heap.size + 1 + 1, 0, none⟩) (by go_size)).trans (by go_simp)
          have fd4 : w3.frozen? ⟨w.heap.size + 1 + 1, 0, none⟩ = false := (hb3.frozen (p := ⟨w.heap.size + 1 + 1, 0, none⟩) (by go_size)).trans (by go_simp)
          have cd5 : w3.cell? ⟨w.heap.size + 1 + 1, 1, none⟩ = some (.int .i64 0) := (hb3.cell (p := ⟨w.heap.size + 1 + 1, 1, none⟩) (by go_size)).trans (by go_simp)
          have fd5 : w3.frozen? ⟨w.heap.size + 1 + 1, 1, none⟩ = false := (hb3.frozen (p := ⟨w.heap.size + 1 + 1, 1, none⟩) (by go_size)).trans (by go_simp)
          have zd6 : w.heap.size + 1 + 1 < w3.heap.size := Nat.lt_of_lt_of_le (by go_size) hb3.size
          have hwd : Below w.heap.size w w3 := Below.trans (by (repeat' (first | (with_reducible exact Below.refl _ _) | (with_reducible assumption) | (with_reducible refine Below.alloc ?_ ?_ _) | (with_reducible refine Below.drew ?_) | (with_reducible refine below_drewN ?_ _) | (with_reducible refine Below.setCell ?_ ?_ _) | go_size))) (hb3.mono (by go_size))
          have hsd : w.heap.size ≤ w3.heap.size := hwd.size
          clear cc0 fc0 cc1 fc1 zc2 cc2 fc2 cc3 fc3 zc4 cc4 fc4 cc5 fc5 zc6 hwc hsc hb2
          go_wp2_with fail
          have yo : w.heap.size + 1 + 1 < w3.heap.size := zd6
          refine abs_wp ?_
          intro W4 hW
          have ce0 : W4.cell? ⟨w.heap.size, 0, none⟩ = some (.int .i64 a) := by rw [hW]; go_simp
          have fe0 : W4.frozen? ⟨w.heap.size, 0, none⟩ = false := by rw [hW]; go_simp
          have ce1 : W4.cell? ⟨w.heap.size, 1, none⟩ = some (.int .i64 b) := by rw [hW]; go_simp
          have fe1 : W4.frozen? ⟨w.heap.size, 1, none⟩ = false := by rw [hW]; go_simp
          have ze2 : w.heap.size < W4.heap.size := by rw [hW]; go_size
          have ce2 : W4.cell? ⟨w.heap.size + 1, 0, none⟩ = some (.int .i64 c) := by rw [hW]; go_simp
          have fe2 : W4.frozen? ⟨w.heap.size + 1, 0, none⟩ = false := by rw [hW]; go_simp
          have ce3 : W4.cell? ⟨w.heap.size + 1, 1, none⟩ = some (.int .i64 d) := by rw [hW]; go_simp
          have fe3 : W4.frozen? ⟨w.heap.size + 1, 1, none⟩ = false := by rw [hW]; go_simp
          have ze4 : w.heap.size + 1 < W4.heap.size := by rw [hW]; go_size
          have ce4 : W4.cell? ⟨w.heap.size + 1 + 1, 0, none⟩ = some (.int .i64 0) := by rw [hW]; go_simp
          have fe4 : W4.frozen? ⟨w.heap.size + 1 + 1, 0, none⟩ = false := by rw [hW]; go_simp
          have ce5 : W4.cell? ⟨w.heap.size + 1 + 1, 1, none⟩ = some (.int .i64 0) := by rw [hW]; go_simp
          have fe5 : W4.frozen? ⟨w.heap.size + 1 + 1, 1, none⟩ = false := by rw [hW]; go_simp
          have ze6 : w.heap.size + 1 + 1 < W4.heap.size := by rw [hW]; go_size
          have ce6 : W4.cell? ⟨w3.heap.size, 0, none⟩ = some (.int .i64 (Pl.clo a b)) := by rw [hW]; go_simp
          have fe6 : W4.frozen? ⟨w3.heap.size, 0, none⟩ = false := by rw [hW]; go_simp
          have ce7 : W4.cell? ⟨w3.heap.size, 1, none⟩ = some (.int .i64 (Pl.chi a b)) := by rw [hW]; go_simp
          have fe7 : W4.frozen? ⟨w3.heap.size, 1, none⟩ = false := by rw [hW]; go_simp
          have ze8 : w3.heap.size < W4.heap.size := by rw [hW]; go_size
          have hwe : Below w.heap.size w W4 := by
            rw [hW]
            (repeat' (first | (with_reducible exact Below.refl _ _) | (with_reducible assumption) | (with_reducible refine Below.alloc ?_ ?_ _) | (with_reducible refine Below.drew ?_) | (with_reducible refine below_drewN ?_ _) | (with_reducible refine Below.setCell ?_ ?_ _) | go_size))
          have hse : w.heap.size ≤ W4.heap.size := hwe.size
          clear hW
          clear cd0 fd0 cd1 fd1 zd2 cd2 fd2 cd3 fd3 zd4 cd4 fd4 cd5 fd5 zd6 hwd hsd hb3
          refine wp_region_kq (by kernel_rfl) (by kernel_rfl) ?_
          repeat (quiet_step ((go_at_call 41; exact KW.call (rclean_c _ _ _))))
          refine wpQuiet_nil ?_
          intro k5
          have cf0 : k5.val.cell? ⟨w.heap.size, 0, none⟩ = some (.int .i64 a) := (k5.kp.cell (p := ⟨w.heap.size, 0, none⟩) (by go_size)).trans (by go_simp)
          have ff0 : k5.val.frozen? ⟨w.heap.size, 0, none⟩ = false := (k5.kp.frozen (p := ⟨w.heap.size, 0, none⟩) (by go_size)).trans (by go_simp)
          have cf1 : k5.val.cell? ⟨w.heap.size, 1, none⟩ = some (.int .i64 b) := (k5.kp.cell (p := ⟨w.heap.size, 1, none⟩) (by go_size)).trans (by go_simp)
          have ff1 : k5.val.frozen? ⟨w.heap.size, 1, none⟩ = false := (k5.kp.frozen (p := ⟨w.heap.size, 1, none⟩) (by go_size)).trans (by go_simp)
          have zf2 : w.heap.size < k5.val.heap.size := Nat.lt_of_lt_of_le (by go_size) k5.kp.size
          have cf2 : k5.val.cell? ⟨w.heap.size + 1, 0, none⟩ = some (.int .i64 c) := (k5.kp.cell (p := ⟨w.heap.size + 1, 0, none⟩) (by go_size)).trans (by go_simp)
          have ff2 : k5.val.frozen? ⟨w.heap.size + 1, 0, none⟩ = false := (k5.kp.frozen (p := ⟨w.heap.size + 1, 0, none⟩) (by go_size)).trans (by go_simp)
          have cf3 : k5.val.cell? ⟨w.heap.size + 1, 1, none⟩ = some (.int .i64 d) := (k5.kp.cell (p := ⟨w.heap.size + 1, 1, none⟩) (by go_size)).trans (by go_simp)
          have ff3 : k5.val.frozen? ⟨w.heap.size + 1, 1, none⟩ = false := (k5.kp.frozen (p := ⟨w.heap.size + 1, 1, none⟩) (by go_size)).trans (by go_simp)
          have zf4 : w.heap.size + 1 < k5.val.heap.size := Nat.lt_of_lt_of_le (by go_size) k5.kp.size
          have cf4 : k5.val.cell? ⟨w.heap.size + 1 + 1, 0, none⟩ = some (.int .i64 0) := (k5.kp.cell (p := ⟨w.heap.size + 1 + 1, 0, none⟩) (by go_size)).trans (by go_simp)
          have ff4 : k5.val.frozen? ⟨w.heap.size + 1 + 1, 0, none⟩ = false := (k5.kp.frozen (p := ⟨w.heap.size + 1 + 1, 0, none⟩) (by go_size)).trans (by go_simp)
          have cf5 : k5.val.cell? ⟨w.heap.size + 1 + 1, 1, none⟩ = some (.int .i64 0) := (k5.kp.cell (p := ⟨w.heap.size + 1 + 1, 1, none⟩) (by go_size)).trans (by go_simp)
          have ff5 : k5.val.frozen? ⟨w.heap.size + 1 + 1, 1, none⟩ = false := (k5.kp.frozen (p := ⟨w.heap.size + 1 + 1, 1, none⟩) (by go_size)).trans (by go_simp)
          have zf6 : w.heap.size + 1 + 1 < k5.val.heap.size := Nat.lt_of_lt_of_le (by go_size) k5.kp.size
          have cf6 : k5.val.cell? ⟨w3.heap.size, 0, none⟩ = some (.int .i64 (Pl.clo a b)) := (k5.kp.cell (p := ⟨w3.heap.size, 0, none⟩) (by go_size)).trans (by go_simp)
          have ff6 : k5.val.frozen? ⟨w3.heap.size, 0, none⟩ = false := (k5.kp.frozen (p := ⟨w3.heap.size, 0, none⟩) (by go_size)).trans (by go_simp)
          have cf7 : k5.val.cell? ⟨w3.heap.size, 1, none⟩ = some (.int .i64 (Pl.chi a b)) := (k5.kp.cell (p := ⟨w3.heap.size, 1, none⟩) (by go_size)).trans (by go_simp)
          have ff7 : k5.val.frozen? ⟨w3.heap.size, 1, none⟩ = false := (k5.kp.frozen (p := ⟨w3.heap.size, 1, none⟩) (by go_size)).trans (by go_simp)
          have zf8 : w3.heap.size < k5.val.heap.size := Nat.lt_of_lt_of_le (by go_size) k5.kp.size
          have hwf : Below w.heap.size w k5.val := Below.trans (by (repeat' (first | (with_reducible exact Below.refl _ _) | (with_reducible assumption) | (with_reducible refine Below.alloc ?_ ?_ _) | (with_reducible refine Below.drew ?_) | (with_reducible refine below_drewN ?_ _) | (with_reducible refine Below.setCell ?_ ?_ _) | go_size))) (k5.kp.mono (by go_size))
          have hsf : w.heap.size ≤ k5.val.heap.size := hwf.size
          clear ce0 fe0 ce1 fe1 ze2 ce2 fe2 ce3 fe3 ze4 ce4 fe4 ce5 fe5 ze6 ce6 fe6 ce7 fe7 ze8 hwe hse
          go_wp2_with fail
          refine (rclean_c _ _ _).mono ?_
          rintro e w6 ⟨rfl, hb6⟩
          have cg0 : w6.cell? ⟨w.heap.size, 0, none⟩ = some (.int .i64 a) := (hb6.cell (p := ⟨w.heap.size, 0, none⟩) (by go_size)).trans (by go_simp)
          have fg0 : w6.frozen? ⟨w.heap.size, 0, none⟩ = false := (hb6.frozen (p := ⟨w.heap.size, 0, none⟩) (by go_size)).trans (by go_simp)
          have cg1 : w6.cell? ⟨w.heap.size, 1, none⟩ = some (.int .i64 b) := (hb6.cell (p := ⟨w.heap.size, 1, none⟩) (by go_size)).trans (by go_simp)
          have fg1 : w6.frozen? ⟨w.heap.size, 1, none⟩ = false := (hb6.frozen (p := ⟨w.heap.size, 1, none⟩) (by go_size)).trans (by go_simp)
          have zg2 : w.heap.size < w6.heap.size := Nat.lt_of_lt_of_le (by go_size) hb6.size
          have cg2 : w6.cell? ⟨w.heap.size + 1, 0, none⟩ = some (.int .i64 c) := (hb6.cell (p := ⟨w.heap.size + 1, 0, none⟩) (by go_size)).trans (by go_simp)
          have fg2 : w6.frozen? ⟨w.heap.size + 1, 0, none⟩ = false := (hb6.frozen (p := ⟨w.heap.size + 1, 0, none⟩) (by go_size)).trans (by go_simp)
          have cg3 : w6.cell? ⟨w.heap.size + 1, 1, none⟩ = some (.int .i64 d) := (hb6.cell (p := ⟨w.heap.size + 1, 1, none⟩) (by go_size)).trans (by go_simp)
          have fg3 : w6.frozen? ⟨w.heap.size + 1, 1, none⟩ = false := (hb6.frozen (p := ⟨w.heap.size + 1, 1, none⟩) (by go_size)).trans (by go_simp)
          have zg4 : w.heap.size + 1 < w6.heap.size := Nat.lt_of_lt_of_le (by go_size) hb6.size
          have cg4 : w6.cell? ⟨w.heap.size + 1 + 1, 0, none⟩ = some (.int .i64 0) := (hb6.cell (p := ⟨w.heap.size + 1 + 1, 0, none⟩) (by go_size)).trans (by go_simp)
          have fg4 : w6.frozen? ⟨w.heap.size + 1 + 1, 0, none⟩ = false := (hb6.frozen (p := ⟨w.heap.size + 1 + 1, 0, none⟩) (by go_size)).trans (by go_simp)
          have cg5 : w6.cell? ⟨w.heap.size + 1 + 1, 1, none⟩ = some (.int .i64 0) := (hb6.cell (p := ⟨w.heap.size + 1 + 1, 1, none⟩) (by go_size)).trans (by go_simp)
          have fg5 : w6.frozen? ⟨w.heap.size + 1 + 1, 1, none⟩ = false := (hb6.frozen (p := ⟨w.heap.size + 1 + 1, 1, none⟩) (by go_size)).trans (by go_simp)
          have zg6 : w.heap.size + 1 + 1 < w6.heap.size := Nat.lt_of_lt_of_le (by go_size) hb6.size
          have cg6 : w6.cell? ⟨w3.heap.size, 0, none⟩ = some (.int .i64 (Pl.clo a b)) := (hb6.cell (p := ⟨w3.heap.size, 0, none⟩) (by go_size)).trans (by go_simp)
          have fg6 : w6.frozen? ⟨w3.heap.size, 0, none⟩ = false := (hb6.frozen (p := ⟨w3.heap.size, 0, none⟩) (by go_size)).trans (by go_simp)
          have cg7 : w6.cell? ⟨w3.heap.size, 1, none⟩ = some (.int .i64 (Pl.chi a b)) := (hb6.cell (p := ⟨w3.heap.size, 1, none⟩) (by go_size)).trans (by go_simp)
          have fg7 : w6.frozen? ⟨w3.heap.size, 1, none⟩ = false := (hb6.frozen (p := ⟨w3.heap.size, 1, none⟩) (by go_size)).trans (by go_simp)
          have zg8 : w3.heap.size < w6.heap.size := Nat.lt_of_lt_of_le (by go_size) hb6.size
          have hwg : Below w.heap.size w w6 := Below.trans (by (repeat' (first | (with_reducible exact Below.refl _ _) | (with_reducible assumption) | (with_reducible refine Below.alloc ?_ ?_ _) | (with_reducible refine Below.drew ?_) | (with_reducible refine below_drewN ?_ _) | (with_reducible refine Below.setCell ?_ ?_ _) | go_size))) (hb6.mono (by go_size))
          have hsg : w.heap.size ≤ w6.heap.size := hwg.size
          clear cf0 ff0 cf1 ff1 zf2 cf2 ff2 cf3 ff3 zf4 cf4 ff4 cf5 ff5 zf6 cf6 ff6 cf7 ff7 zf8 hwf hsf
          go_wp2_with fail
          refine abs_wp ?_
          intro W7 hW
          have ch0 : W7.cell? ⟨w.heap.size, 0, none⟩ = some (.int .i64 a) := by rw [hW]; go_simp
          have fh0 : W7.frozen? ⟨w.heap.size, 0, none⟩ = false := by rw [hW]; go_simp
          have ch1 : W7.cell? ⟨w.heap.size, 1, none⟩ = some (.int .i64 b) := by rw [hW]; go_simp
          have fh1 : W7.frozen? ⟨w.heap.size, 1, none⟩ = false := by rw [hW]; go_simp
          have zh2 : w.heap.size < W7.heap.size := by rw [hW]; go_size
          have ch2 : W7.cell? ⟨w.heap.size + 1, 0, none⟩ = some (.int .i64 c) := by rw [hW]; go_simp
          have fh2 : W7.frozen? ⟨w.heap.size + 1, 0, none⟩ = false := by rw [hW]; go_simp
          have ch3 : W7.cell? ⟨w.heap.size + 1, 1, none⟩ = some (.int .i64 d) := by rw [hW]; go_simp
          have fh3 : W7.frozen? ⟨w.heap.size + 1, 1, none⟩ = false := by rw [hW]; go_simp
          have zh4 : w.heap.size + 1 < W7.heap.size := by rw [hW]; go_size
          have ch4 : W7.cell? ⟨w.heap.size + 1 + 1, 0, none⟩ = some (.int .i64 0) := by rw [hW]; go_simp
          have fh4 : W7.frozen? ⟨w.heap.size + 1 + 1, 0, none⟩ = false := by rw [hW]; go_simp
          have ch5 : W7.cell? ⟨w.heap.size + 1 + 1, 1, none⟩ = some (.int .i64 0) := by rw [hW]; go_simp
          have fh5 : W7.frozen? ⟨w.heap.size + 1 + 1, 1, none⟩ = false := by rw [hW]; go_simp
          have zh6 : w.heap.size + 1 + 1 < W7.heap.size := by rw [hW]; go_size
          have ch6 : W7.cell? ⟨w3.heap.size, 0, none⟩ = some (.int .i64 (Pl.clo c d)) := by rw [hW]; go_simp
          have fh6 : W7.frozen? ⟨w3.heap.size, 0, none⟩ = false := by rw [hW]; go_simp
          have ch7 : W7.cell? ⟨w3.heap.size, 1, none⟩ = some (.int .i64 (Pl.chi a b)) := by rw [hW]; go_simp
          have fh7 : W7.frozen? ⟨w3.heap.size, 1, none⟩ = false := by rw [hW]; go_simp
          have zh8 : w3.heap.size < W7.heap.size := by rw [hW]; go_size
          have hwh : Below w.heap.size w W7 := by
            rw [hW]
            (repeat' (first | (with_reducible exact Below.refl _ _) | (with_reducible assumption) | (with_reducible refine Below.alloc ?_ ?_ _) | (with_reducible refine Below.drew ?_) | (with_reducible refine below_drewN ?_ _) | (with_reducible refine Below.setCell ?_ ?_ _) | go_size))
          have hsh : w.heap.size ≤ W7.heap.size := hwh.size
          clear hW
          clear cg0 fg0 cg1 fg1 zg2 cg2 fg2 cg3 fg3 zg4 cg4 fg4 cg5 fg5 zg6 cg6 fg6 cg7 fg7 zg8 hwg hsg hb6
          refine wp_region_kq (by kernel_rfl) (by kernel_rfl) ?_
          repeat (quiet_step ((go_at_call 41; exact KW.call (rclean_c _ _ _))))
          refine wpQuiet_nil ?_
          intro k8
          have ci0 : k8.val.cell? ⟨w.heap.size, 0, none⟩ = some (.int .i64 a) := (k8.kp.cell (p := ⟨w.heap.size, 0, none⟩) (by go_size)).trans (by go_simp)
          have fi0 : k8.val.frozen? ⟨w.heap.size, 0, none⟩ = false := (k8.kp.frozen (p := ⟨w.heap.size, 0, none⟩) (by go_size)).trans (by go_simp)
          have ci1 : k8.val.cell? ⟨w.heap.size, 1, none⟩ = some (.int .i64 b) := (k8.kp.cell (p := ⟨w.heap.size, 1, none⟩) (by go_size)).trans (by go_simp)
          have fi1 : k8.val.frozen? ⟨w.heap.size, 1, none⟩ = false := (k8.kp.frozen (p := ⟨w.heap.size, 1, none⟩) (by go_size)).trans (by go_simp)
          have zi2 : w.heap.size < k8.val.heap.size := Nat.lt_of_lt_of_le (by go_size) k8.kp.size
          have ci2 : k8.val.cell? ⟨w.heap.size + 1, 0, none⟩ = some (.int .i64 c) := (k8.kp.cell (p := ⟨w.heap.size + 1, 0, none⟩) (by go_size)).trans (by go_simp)
          have fi2 : k8.val.frozen? ⟨w.heap.size + 1, 0, none⟩ = false := (k8.kp.frozen (p := ⟨w.heap.size + 1, 0, none⟩) (by go_size)).trans (by go_simp)
          have ci3 : k8.val.cell? ⟨w.heap.size + 1, 1, none⟩ = some (.int .i64 d) := (k8.kp.cell (p := ⟨w.heap.size + 1, 1, none⟩) (by go_size)).trans (by go_simp)
          have fi3 : k8.val.frozen? ⟨w.heap.size + 1, 1, none⟩ = false := (k8.kp.frozen (p := ⟨w.heap.size + 1, 1, none⟩) (by go_size)).trans (by go_simp)
          have zi4 : w.heap.size + 1 < k8.val.heap.size := Nat.lt_of_lt_of_le (by go_size) k8.kp.size
          have ci4 : k8.val.cell? ⟨w.heap.size + 1 + 1, 0, none⟩ = some (.int .i64 0) := (k8.kp.cell (p := ⟨w.heap.size + 1 + 1, 0, none⟩) (by go_size)).trans (by go_simp)
          have fi4 : k8.val.frozen? ⟨w.heap.size + 1 + 1, 0, none⟩ = false := (k8.kp.frozen (p := ⟨w.heap.size + 1 + 1, 0, none⟩) (by go_size)).trans (by go_simp)
          have ci5 : k8.val.cell? ⟨w.heap.size + 1 + 1, 1, none⟩ = some (.int .i64 0) := (k8.kp.cell (p := ⟨w.heap.size + 1 + 1, 1, none⟩) (by go_size)).trans (by go_simp)
          have fi5 : k8.val.frozen? ⟨w.heap.size + 1 + 1, 1, none⟩ = false := (k8.kp.frozen (p := ⟨w.heap.size + 1 + 1, 1, none⟩) (by go_size)).trans (by go_simp)
          have zi6 : w.heap.size + 1 + 1 < k8.val.heap.size := Nat.lt_of_lt_of_le (by go_size) k8.kp.size
          have ci6 : k8.val.cell? ⟨w3.heap.size, 0, none⟩ = some (.int .i64 (Pl.clo c d)) := (k8.kp.cell (p := ⟨w3.heap.size, 0, none⟩) (by go_size)).trans (by go_simp)
          have fi6 : k8.val.frozen? ⟨w3.heap.size, 0, none⟩ = false := (k8.kp.frozen (p := ⟨w3.heap.size, 0, none⟩) (by go_size)).trans (by go_simp)
          have ci7 : k8.val.cell? ⟨w3.heap.size, 1, none⟩ = some (.int .i64 (Pl.chi a b)) := (k8.kp.cell (p := ⟨w3.heap.size, 1, none⟩) (by go_size)).trans (by go_simp)
          have fi7 : k8.val.frozen? ⟨w3.heap.size, 1, none⟩ = false := (k8.kp.frozen (p := ⟨w3.heap.size, 1, none⟩) (by go_size)).trans (by go_simp)
          have zi8 : w3.heap.size < k8.val.heap.size := Nat.lt_of_lt_of_le (by go_size) k8.kp.size
          have hwi : Below w.heap.size w k8.val := Below.trans (by (repeat' (first | (with_reducible exact Below.refl _ _) | (with_reducible assumption) | (with_reducible refine Below.alloc ?_ ?_ _) | (with_reducible refine Below.drew ?_) | (with_reducible refine below_drewN ?_ _) | (with_reducible refine Below.setCell ?_ ?_ _) | go_size))) (k8.kp.mono (by go_size))
          have hsi : w.heap.size ≤ k8.val.heap.size := hwi.size
          clear ch0 fh0 ch1 fh1 zh2 ch2 fh2 ch3 fh3 zh4 ch4 fh4 ch5 fh5 zh6 ch6 fh6 ch7 fh7 zh8 hwh hsh
          go_wp2
          refine bodyPost_ret (v := .agg #[.int .i64 _, .int .i64 _]) (by simp [results, Try.results43, go_sem, ci4, ci5]; exact ⟨rfl, rfl⟩) rfl ⟨ret_sp ?_ ?_, ?_⟩
          · simp only [Pl.hlo, Pl.gmin, e1, e2, Bool.false_eq_true, if_false]; (repeat' split) <;> first | rfl | omega
          · simp only [Pl.hhi, Pl.gmax, e1, e2, Bool.false_eq_true, if_false]; (repeat' split) <;> first | rfl | omega
          · (repeat' (first | (with_reducible exact Below.refl _ _) | (with_reducible assumption) | (with_reducible refine Below.alloc ?_ ?_ _) | (with_reducible refine Below.drew ?_) | (with_reducible refine below_drewN ?_ _) | (with_reducible refine Below.setCell ?_ ?_ _) | go_size))
      · by_cases h2 : Pl.chi a b < Pl.chi c d
        · skip
          go_enter Try.func43, Try.ntmps43
          go_wp2_with fail
          refine (rempty_c _ _ _).mono ?_
          rintro e w1 ⟨rfl, hb1⟩
          have cb0 : w1.cell? ⟨w.heap.size, 0, none⟩ = some (.int .i64 a) := (hb1.cell (p := ⟨w.heap.size, 0, none⟩) (by go_size)).trans (by go_simp)
          have fb0 : w1.frozen? ⟨w.heap.size, 0, none⟩ = false := (hb1.frozen (p := ⟨w.heap.size, 0, none⟩) (by go_size)).trans (by go_simp)
          have cb1 : w1.cell? ⟨w.heap.size, 1, none⟩ = some (.int .i64 b) := (hb1.cell (p := ⟨w.heap.size, 1, none⟩) (by go_size)).trans (by go_simp)
          have fb1 : w1.frozen? ⟨w.heap.size, 1, none⟩ = false := (hb1.frozen (p := ⟨w.heap.size, 1, none⟩) (by go_size)).trans (by go_simp)
          have zb2 : w.heap.size < w1.heap.size := Nat.lt_of_lt_of_le (by go_size) hb1.size
          have cb2 : w1.cell? ⟨w.heap.size + 1, 0, none⟩ = some (.int .i64 c) := (hb1.cell (p := ⟨w.heap.size + 1, 0, none⟩) (by go_size)).trans (by go_simp)
          have fb2 : w1.frozen? ⟨w.heap.size + 1, 0, none⟩ = false := (hb1.frozen (p := ⟨w.heap.size + 1, 0, none⟩) (by go_size)).trans (by go_simp)
          have cb3 : w1.cell? ⟨w.heap.size + 1, 1, none⟩ = some (.int .i64 d) := (hb1.cell (p := ⟨w.heap.size + 1, 1, none⟩) (by go_size)).trans (by go_simp)
          have fb3 : w1.frozen? ⟨w.heap.size + 1, 1, none⟩ = false := (hb1.frozen (p := ⟨w.heap.size + 1, 1, none⟩) (by go_size)).trans (by go_simp)
          have zb4 : w.heap.size + 1 < w1.heap.size := Nat.lt_of_lt_of_le (by go_size) hb1.size
          have cb4 : w1.cell? ⟨w.heap.size + 1 + 1, 0, none⟩ = some (.int .i64 0) := (hb1.cell (p := ⟨w.heap.size + 1 + 1, 0, none⟩) (by go_size)).trans (by go_simp)
          have fb4 : w1.frozen? ⟨w.heap.size + 1 + 1, 0, none⟩ = false := (hb1.frozen (p := ⟨w.heap.size + 1 + 1, 0, none⟩) (by go_size)).trans (by go_simp)
          have cb5 : w1.cell? ⟨w.heap.size + 1 + 1, 1, none⟩ = some (.int .i64 0) := (hb1.cell (p := ⟨w.heap.size + 1 + 1, 1, none⟩) (by go_size)).trans (by go_simp)
          have fb5 : w1.frozen? ⟨w.heap.size + 1 + 1, 1, none⟩ = false := (hb1.frozen (p := ⟨w.heap.size + 1 + 1, 1, none⟩) (by go_size)).trans (by go_simp)
          have zb6 : w.heap.size + 1 + 1 < w1.heap.size := Nat.lt_of_lt_of_le (by go_size) hb1.size
          have hwb : Below w.heap.size w w1 := Below.trans (by (repeat' (first | (with_reducible exact Below.refl _ _) | (with_reducible assumption) | (with_reducible refine Below.alloc ?_ ?_ _) | (with_reducible refine Below.drew ?_) | (with_reducible refine below_drewN ?_ _) | (with_reducible refine Below.setCell ?_ ?_ _) | go_size))) (hb1.mono (by go_size))
          have hsb : w.heap.size ≤ w1.heap.size := hwb.size
          go_wp2_with fail
          refine (rempty_c _ _ _).mono ?_
          rintro e w2 ⟨rfl, hb2⟩
          have cc0 : w2.cell? ⟨w.heap.size, 0, none⟩ = some (.int .i64 a) := (hb2.cell (p := ⟨w.heap.size, 0, none⟩) (by go_size)).trans (by go_simp)
          have fc0 : w2.frozen? ⟨w.heap.size, 0, none⟩ = false := (hb2.frozen (p := ⟨w.heap.size, 0, none⟩) (by go_size)).trans (by go_simp)
          have cc1 : w2.cell? ⟨w.heap.size, 1, none⟩ = some (.int .i64 b) := (hb2.cell (p := ⟨w.heap.size, 1, none⟩) (by go_size)).trans (by go_simp)
          have fc1 : w2.frozen? ⟨w.heap.size, 1, none⟩ = false := (hb2.frozen (p := ⟨w.heap.size, 1, none⟩) (by go_size)).trans (by go_simp)
          have zc2 : w.heap.size < w2.heap.size := Nat.lt_of_lt_of_le (by go_size) hb2.size
          have cc2 : w2.cell? ⟨w.heap.size + 1, 0, none⟩ = some (.int .i64 c) := (hb2.cell (p := ⟨w.heap.size + 1, 0, none⟩) (by go_size)).trans (by go_simp)
          have fc2 : w2.frozen? ⟨w.heap.size + 1, 0, none⟩ = false := (hb2.frozen (p := ⟨w.heap.size + 1, 0, none⟩) (by go_size)).trans (by go_simp)
          have cc3 : w2.cell? ⟨w.heap.size + 1, 1, none⟩ = some (.int .i64 d) := (hb2.cell (p := ⟨w.heap.size + 1, 1, none⟩) (by go_size)).trans (by go_simp)
          have fc3 : w2.frozen? ⟨w.heap.size + 1, 1, none⟩ = false := (hb2.frozen (p := ⟨w.heap.size + 1, 1, none⟩) (by go_size)).trans (by go_simp)
          have zc4 : w.heap.size + 1 < w2.heap.size := Nat.lt_of_lt_of_le (by go_size) hb2.size
          have cc4 : w2.cell? ⟨w.heap.size + 1 + 1, 0, none⟩ = some (.int .i64 0) := (hb2.cell (p := ⟨w.heap.size + 1 + 1, 0, none⟩) (by go_size)).trans (by go_simp)
          have fc4 : w2.frozen? ⟨w.heap.size + 1 + 1, 0, none⟩ = false := (hb2.frozen (p := ⟨w.heap.size + 1 + 1, 0, none⟩) (by go_size)).trans (by go_simp)
          have cc5 : w2.cell? ⟨w.heap.size + 1 + 1, 1, none⟩ = some (.int .i64 0) := (hb2.cell (p := ⟨w.heap.size + 1 + 1, 1, none⟩) (by go_size)).trans (by go_simp)
          have fc5 : w2.frozen? ⟨w.heap.size + 1 + 1, 1, none⟩ = false := (hb2.frozen (p := ⟨w.heap.size + 1 + 1, 1, none⟩) (by go_size)).trans (by go_simp)
          have zc6 : w.heap.size + 1 + 1 < w2.heap.size := Nat.lt_of_lt_of_le (by go_size) hb2.size
          have hwc : Below w.heap.size w w2 := Below.trans (by (repeat' (first | (with_reducible exact Below.refl _ _) | (with_reducible assumption) | (with_reducible refine Below.alloc ?_ ?_ _) | (with_reducible refine Below.drew ?_) | (with_reducible refine below_drewN ?_ _) | (with_reducible refine Below.setCell ?_ ?_ _) | go_size))) (hb2.mono (by go_size))
          have hsc : w.heap.size ≤ w2.heap.size := hwc.size
          clear cb0 fb0 cb1 fb1 zb2 cb2 fb2 cb3 fb3 zb4 cb4 fb4 cb5 fb5 zb6 hwb hsb hb1
          go_wp2_with fail
          refine (rclean_c _ _ _).mono ?_
          rintro e w3 ⟨rfl, hb3⟩
          have cd0 : w3.cell? ⟨w.heap.size, 0, none⟩ = some (.int .i64 a) := (hb3.cell (p := ⟨w.heap.size, 0, none⟩) (by go_size)).trans (by go_simp)
          have fd0 : w3.frozen? ⟨w.heap.size, 0, none⟩ = false := (hb3.frozen (p := ⟨w.heap.size, 0, none⟩) (by go_size)).trans (by go_simp)
          have cd1 : w3.cell? ⟨w.heap.size, 1, none⟩ = some (.int .i64 b) := (hb3.cell (p := ⟨w.heap.size, 1, none⟩) (by go_size)).trans (by go_simp)
          have fd1 : w3.frozen? ⟨w.heap.size, 1, none⟩ = false := (hb3.frozen (p := ⟨w.heap.size, 1, none⟩) (by go_size)).trans (by go_simp)
          have zd2 : w.heap.size < w3.heap.size := Nat.lt_of_lt_of_le (by go_size) hb3.size
          have cd2 : w3.cell? ⟨w.heap.size + 1, 0, none⟩ = some (.int .i64 c) := (hb3.cell (p := ⟨w.heap.size + 1, 0, none⟩) (by go_size)).trans (by go_simp)
          have fd2 : w3.frozen? ⟨w.heap.size + 1, 0, none⟩ = false := (hb3.frozen (p := ⟨w.heap.size + 1, 0, none⟩) (by go_size)).trans (by go_simp)
          have cd3 : w3.cell? ⟨w.heap.size + 1, 1, none⟩ = some (.int .i64 d) := (hb3.cell (p := ⟨w.heap.size + 1, 1, none⟩) (by go_size)).trans (by go_simp)
          have fd3 : w3.frozen? ⟨w.heap.size + 1, 1, none⟩ = false := (hb3.frozen (p := ⟨w.heap.size + 1, 1, none⟩) (by go_size)).trans (by go_simp)
          have zd4 : w.heap.size + 1 < w3.heap.size := Nat.lt_of_lt_of_le (by go_size) hb3.size
          have cd4 : w3.cell? ⟨w.heap.size + 1 + 1, 0, none⟩ = some (.int .i64 0) := (hb3.cell (p := ⟨w.heap.size + 1 + 1, 0, none⟩) (by go_size)).trans (by go_simp)
          have fd4 : w3.frozen? ⟨w.heap.size + 1 + 1, 0, none⟩ = false := (hb3.frozen (p := ⟨w.heap.size + 1 + 1, 0, none⟩) (by go_size)).trans (by go_simp)
          have cd5 : w3.cell? ⟨w.heap.size + 1 + 1, 1, none⟩ = some (.int .i64 0) := (hb3.cell (p := ⟨w.heap.size + 1 + 1, 1, none⟩) (by go_size)).trans (by go_simp)
          have fd5 : w3.frozen? ⟨w.heap.size + 1 + 1, 1, none⟩ = false := (hb3.frozen (p := ⟨w.heap.size + 1 + 1, 1, none⟩) (by go_size)).trans (by go_simp)
          have zd6 : w.heap.size + 1 + 1 < w3.heap.size := Nat.lt_of_lt_of_le (by go_size) hb3.size
          have hwd : Below w.heap.size w w3 := Below.trans (by (repeat' (first | (with_reducible exact Below.refl _ _) | (with_reducible assumption) | (with_reducible refine Below.alloc ?_ ?_ _) | (with_reducible refine Below.drew ?_) | (with_reducible refine below_drewN ?_ _) | (with_reducible refine Below.setCell ?_ ?_ _) | go_size))) (hb3.mono (by go_size))
          have hsd : w.heap.size ≤ w3.heap.size := hwd.size
          clear cc0 fc0 cc1 fc1 zc2 cc2 fc2 cc3 fc3 zc4 cc4 fc4 cc5 fc5 zc6 hwc hsc hb2
          go_wp2_with fail
          have yo : w.heap.size + 1 + 1 < w3.heap.size := zd6
          refine abs_wp ?_
          intro W4 hW
          have ce0 : W4.cell? ⟨w.heap.size, 0, none⟩ = some (.int .i64 a) := by rw [hW]; go_simp
          have fe0 : W4.frozen? ⟨w.heap.size, 0, none⟩ = false := by rw [hW]; go_simp
          have ce1 : W4.cell? ⟨w.heap.size, 1, none⟩ = some (.int .i64 b) := by rw [hW]; go_simp
          have fe1 : W4.frozen? ⟨w.heap.size, 1, none⟩ = false := by rw [hW]; go_simp
          have ze2 : w.heap.size < W4.heap.size := by rw [hW]; go_size
          have ce2 : W4.cell? ⟨w.heap.size + 1, 0, none⟩ = some (.int .i64 c) := by rw [hW]; go_simp
          have fe2 : W4.frozen? ⟨w.heap.size + 1, 0, none⟩ = false := by rw [hW]; go_simp
          have ce3 : W4.cell? ⟨w.heap.size + 1, 1, none⟩ = some (.int .i64 d) := by rw [hW]; go_simp
          have fe3 : W4.frozen? ⟨w.heap.size + 1, 1, none⟩ = false := by rw [hW]; go_simp
          have ze4 : w.heap.size + 1 < W4.heap.size := by rw [hW]; go_size
          have ce4 : W4.cell? ⟨w.heap.size + 1 + 1, 0, none⟩ = some (.int .i64 0) := by rw [hW]; go_simp
          have fe4 : W4.frozen? ⟨w.heap.size + 1 + 1, 0, none⟩ = false := by rw [hW]; go_simp
          have ce5 : W4.cell? ⟨w.heap.size + 1 + 1, 1, none⟩ = some (.int .i64 0) := by rw [hW]; go_simp
          have fe5 : W4.frozen? ⟨w.heap.size + 1 + 1, 1, none⟩ = false := by rw [hW]; go_simp
          have ze6 : w.heap.size + 1 + 1 < W4.heap.size := by rw [hW]; go_size
          have ce6 : W4.cell? ⟨w3.heap.size, 0, none⟩ = some (.int .i64 (Pl.clo a b)) := by rw [hW]; go_simp
          have fe6 : W4.frozen? ⟨w3.heap.size, 0, none⟩ = false := by rw [hW]; go_simp
          have ce7 : W4.cell? ⟨w3.heap.size, 1, none⟩ = some (.int .i64 (Pl.chi a b)) := by rw [hW]; go_simp
          have fe7 : W4.frozen? ⟨w3.heap.size, 1, none⟩ = false := by rw [hW]; go_simp
          have ze8 : w3.heap.size < W4.heap.size := by rw [hW]; go_size
          have hwe : Below w.heap.size w W4 := by
            rw [hW]
            (repeat' (first | (with_reducible exact Below.refl _ _) | (with_reducible assumption) | (with_reducible refine Below.alloc ?_ ?_ _) | (with_reducible refine Below.drew ?_) | (with_reducible refine below_drewN ?_ _) | (with_reducible refine Below.setCell ?_ ?_ _) | go_size))
          have hse : w.heap.size ≤ W4.heap.size := hwe.size
          clear hW
          clear cd0 fd0 cd1 fd1 zd2 cd2 fd2 cd3 fd3 zd4 cd4 fd4 cd5 fd5 zd6 hwd hsd hb3
          refine wp_region_kq (by kernel_rfl) (by kernel_rfl) ?_
          repeat (quiet_step ((go_at_call 41; exact KW.call (rclean_c _ _ _))))
          refine wpQuiet_nil ?_
          intro k5
          have cf0 : k5.val.cell? ⟨w.heap.size, 0, none⟩ = some (.int .i64 a) := (k5.kp.cell (p := ⟨w.heap.size, 0, none⟩) (by go_size)).trans (by go_simp)
          have ff0 : k5.val.frozen? ⟨w.heap.size, 0, none⟩ = false := (k5.kp.frozen (p := ⟨w.heap.size, 0, none⟩) (by go_size)).trans (by go_simp)
          have cf1 : k5.val.cell? ⟨w.heap.size, 1, none⟩ = some (.int .i64 b) := (k5.kp.cell (p := ⟨w.heap.size, 1, none⟩) (by go_size)).trans (by go_simp)
          have ff1 : k5.val.frozen? ⟨w.heap.size, 1, none⟩ = false := (k5.kp.frozen (p := ⟨w.heap.size, 1, none⟩) (by go_size)).trans (by go_simp)
          have zf2 : w.heap.size < k5.val.heap.size := Nat.lt_of_lt_of_le (by go_size) k5.kp.size
          have cf2 : k5.val.cell? ⟨w.heap.size + 1, 0, none⟩ = some (.int .i64 c) := (k5.kp.cell (p := ⟨w.heap.size + 1, 0, none⟩) (by go_size)).trans (by go_simp)
          have ff2 : k5.val.frozen? ⟨w.heap.size + 1, 0, none⟩ = false := (k5.kp.frozen (p := ⟨w.heap.size + 1, 0, none⟩) (by go_size)).trans (by go_simp)
          have cf3 : k5.val.cell? ⟨w.heap.size + 1, 1, none⟩ = some (.int .i64 d) := (k5.kp.cell (p := ⟨w.heap.size + 1, 1, none⟩) (by go_size)).trans (by go_simp)
          have ff3 : k5.val.frozen? ⟨w.heap.size + 1, 1, none⟩ = false := (k5.kp.frozen (p := ⟨w.heap.size + 1, 1, none⟩) (by go_size)).trans (by go_simp)
          have zf4 : w.heap.size + 1 < k5.val.heap.size := Nat.lt_of_lt_of_le (by go_size) k5.kp.size
          have cf4 : k5.val.cell? ⟨w.heap.size + 1 + 1, 0, none⟩ = some (.int .i64 0) := (k5.kp.cell (p := ⟨w.heap.size + 1 + 1, 0, none⟩) (by go_size)).trans (by go_simp)
          have ff4 : k5.val.frozen? ⟨w.heap.size + 1 + 1, 0, none⟩ = false := (k5.kp.frozen (p := ⟨w.heap.size + 1 + 1, 0, none⟩) (by go_size)).trans (by go_simp)
          have cf5 : k5.val.cell? ⟨w.heap.size + 1 + 1, 1, none⟩ = some (.int .i64 0) := (k5.kp.cell (p := ⟨w.heap.size + 1 + 1, 1, none⟩) (by go_size)).trans (by go_simp)
          have ff5 : k5.val.frozen? ⟨w.heap.size + 1 + 1, 1, none⟩ = false := (k5.kp.frozen (p := ⟨w.heap.size + 1 + 1, 1, none⟩) (by go_size)).trans (by go_simp)
          have zf6 : w.heap.size + 1 + 1 < k5.val.heap.size := Nat.lt_of_lt_of_le (by go_size) k5.kp.size
          have cf6 : k5.val.cell? ⟨w3.heap.size, 0, none⟩ = some (.int .i64 (Pl.clo a b)) := (k5.kp.cell (p := ⟨w3.heap.size, 0, none⟩) (by go_size)).trans (by go_simp)
          have ff6 : k5.val.frozen? ⟨w3.heap.size, 0, none⟩ = false := (k5.kp.frozen (p := ⟨w3.heap.size, 0, none⟩) (by go_size)).trans (by go_simp)
          have cf7 : k5.val.cell? ⟨w3.heap.size, 1, none⟩ = some (.int .i64 (Pl.chi a b)) := (k5.kp.cell (p := ⟨w3.heap.size, 1, none⟩) (by go_size)).trans (by go_simp)
          have ff7 : k5.val.frozen? ⟨w3.heap.size, 1, none⟩ = false := (k5.kp.frozen (p := ⟨w3.heap.size, 1, none⟩) (by go_size)).trans (by go_simp)
          have zf8 : w3.heap.size < k5.val.heap.size := Nat.lt_of_lt_of_le (by go_size) k5.kp.size
          have hwf : Below w.heap.size w k5.val := Below.trans (by (repeat' (first | (with_reducible exact Below.refl _ _) | (with_reducible assumption) | (with_reducible refine Below.alloc ?_ ?_ _) | (with_reducible refine Below.drew ?_) | (with_reducible refine below_drewN ?_ _) | (with_reducible refine Below.setCell ?_ ?_ _) | go_size))) (k5.kp.mono (by go_size))
          have hsf : w.heap.size ≤ k5.val.heap.size := hwf.size
          clear ce0 fe0 ce1 fe1 ze2 ce2 fe2 ce3 fe3 ze4 ce4 fe4 ce5 fe5 ze6 ce6 fe6 ce7 fe7 ze8 hwe hse
          go_wp2_with fail
          refine abs_wp ?_
          intro W6 hW
          have cg0 : W6.cell? ⟨w.heap.size, 0, none⟩ = some (.int .i64 a) := by rw [hW]; go_simp
          have fg0 : W6.frozen? ⟨w.heap.size, 0, none⟩ = false := by rw [hW]; go_simp
          have cg1 : W6.cell? ⟨w.heap.size, 1, none⟩ = some (.int .i64 b) := by rw [hW]; go_simp
          have fg1 : W6.frozen? ⟨w.heap.size, 1, none⟩ = false := by rw [hW]; go_simp
          have zg2 : w.heap.size < W6.heap.size := by rw [hW]; go_size
          have cg2 : W6.cell? ⟨w.heap.size + 1, 0, none⟩ = some (.int .i64 c) := by rw [hW]; go_simp
          have fg2 : W6.frozen? ⟨w.heap.size + 1, 0, none⟩ = false := by rw [hW]; go_simp
          have cg3 : W6.cell? ⟨w.heap.size + 1, 1, none⟩ = some (.int .i64 d) := by rw [hW]; go_simp
          have fg3 : W6.frozen? ⟨w.heap.size + 1, 1, none⟩ = false := by rw [hW]; go_simp
          have zg4 : w.heap.size + 1 < W6.heap.size := by rw [hW]; go_size
          have cg4 : W6.cell? ⟨w.heap.size + 1 + 1, 0, none⟩ = some (.int .i64 0) := by rw [hW]; go_simp
          have fg4 : W6.frozen? ⟨w.heap.size + 1 + 1, 0, none⟩ = false := by rw [hW]; go_simp
          have cg5 : W6.cell? ⟨w.heap.size + 1 + 1, 1, none⟩ = some (.int .i64 0) := by rw [hW]; go_simp
          have fg5 : W6.frozen? ⟨w.heap.size + 1 + 1, 1, none⟩ = false := by rw [hW]; go_simp
          have zg6 : w.heap.size + 1 + 1 < W6.heap.size := by rw [hW]; go_size
          have cg6 : W6.cell? ⟨w3.heap.size, 0, none⟩ = some (.int .i64 (Pl.clo a b)) := by rw [hW]; go_simp
          have fg6 : W6.frozen? ⟨w3.heap.size, 0, none⟩ = false := by rw [hW]; go_simp
          have cg7 : W6.cell? ⟨w3.heap.size, 1, none⟩ = some (.int .i64 (Pl.chi a b)) := by rw [hW]; go_simp
          have fg7 : W6.frozen? ⟨w3.heap.size, 1, none⟩ = false := by rw [hW]; go_simp
          have zg8 : w3.heap.size < W6.heap.size := by rw [hW]; go_size
          have hwg : Below w.heap.size w W6 := by
            rw [hW]
            (repeat' (first | (with_reducible exact Below.refl _ _) | (with_reducible assumption) | (with_reducible refine Below.alloc ?_ ?_ _) | (with_reducible refine Below.drew ?_) | (with_reducible refine below_drewN ?_ _) | (with_reducible refine Below.setCell ?_ ?_ _) | go_size))
          have hsg : w.heap.size ≤ W6.heap.size := hwg.size
          clear hW
          clear cf0 ff0 cf1 ff1 zf2 cf2 ff2 cf3 ff3 zf4 cf4 ff4 cf5 ff5 zf6 cf6 ff6 cf7 ff7 zf8 hwf hsf
          refine wp_region_kq (by kernel_rfl) (by kernel_rfl) ?_
          repeat (quiet_step ((go_at_call 41; exact KW.call (rclean_c _ _ _))))
          refine wpQuiet_nil ?_
          intro k7
          have ch0 : k7.val.cell? ⟨w.heap.size, 0, none⟩ = some (.int .i64 a) := (k7.kp.cell (p := ⟨w.heap.size, 0, none⟩) (by go_size)).trans (by go_simp)
          have fh0 : k7.val.frozen? ⟨w.heap.size, 0, none⟩ = false := (k7.kp.frozen (p := ⟨w.heap.size, 0, none⟩) (by go_size)).trans (by go_simp)
          have ch1 : k7.val.cell? ⟨w.heap.size, 1, none⟩ = some (.int .i64 b) := (k7.kp.cell (p := ⟨w.heap.size, 1, none⟩) (by go_size)).trans (by go_simp)
          have fh1 : k7.val.frozen? ⟨w.heap.size, 1, none⟩ = false := (k7.kp.frozen (p := ⟨w.heap.size, 1, none⟩) (by go_size)).trans (by go_simp)
          have zh2 : w.heap.size < k7.val.heap.size := Nat.lt_of_lt_of_le (by go_size) k7.kp.size
          have ch2 : k7.val.cell? ⟨w.heap.size + 1, 0, none⟩ = some (.int .i64 c) := (k7.kp.cell (p := ⟨w.heap.size + 1, 0, none⟩) (by go_size)).trans (by go_simp)
          have fh2 : k7.val.frozen? ⟨w.heap.size + 1, 0, none⟩ = false := (k7.kp.frozen (p := ⟨w.heap.size + 1, 0, none⟩) (by go_size)).trans (by go_simp)
          have ch3 : k7.val.cell? ⟨w.heap.size + 1, 1, none⟩ = some (.int .i64 d) := (k7.kp.cell (p := ⟨w.heap.size + 1, 1, none⟩) (by go_size)).trans (by go_simp)
          have fh3 : k7.val.frozen? ⟨w.heap.size + 1, 1, none⟩ = false := (k7.kp.frozen (p := ⟨w.heap.size + 1, 1, none⟩) (by go_size)).trans (by go_simp)
          have zh4 : w.heap.size + 1 < k7.val.heap.size := Nat.lt_of_lt_of_le (by go_size) k7.kp.size
          have ch4 : k7.val.cell? ⟨w.heap.size + 1 + 1, 0, none⟩ = some (.int .i64 0) := (k7.kp.cell (p := ⟨w.heap.size + 1 + 1, 0, none⟩) (by go_size)).trans (by go_simp)
          have fh4 : k7.val.frozen? ⟨w.heap.size + 1 + 1, 0, none⟩ = false := (k7.kp.frozen (p := ⟨w.heap.size + 1 + 1, 0, none⟩) (by go_size)).trans (by go_simp)
          have ch5 : k7.val.cell? ⟨w.heap.size + 1 + 1, 1, none⟩ = some (.int .i64 0) := (k7.kp.cell (p := ⟨w.heap.size + 1 + 1, 1, none⟩) (by go_size)).trans (by go_simp)
          have fh5 : k7.val.frozen? ⟨w.heap.size + 1 + 1, 1, none⟩ = false := (k7.kp.frozen (p := ⟨w.heap.size + 1 + 1, 1, none⟩) (by go_size)).trans (by go_simp)
          have zh6 : w.heap.size + 1 + 1 < k7.val.heap.size := Nat.lt_of_lt_of_le (by go_size) k7.kp.size
          have ch6 : k7.val.cell? ⟨w3.heap.size, 0, none⟩ = some (.int .i64 (Pl.clo a b)) := (k7.kp.cell (p := ⟨w3.heap.size, 0, none⟩) (by go_size)).trans (by go_simp)
          have fh6 : k7.val.frozen? ⟨w3.heap.size, 0, none⟩ = false := (k7.kp.frozen (p := ⟨w3.heap.size, 0, none⟩) (by go_size)).trans (by go_simp)
          have ch7 : k7.val.cell? ⟨w3.heap.size, 1, none⟩ = some (.int .i64 (Pl.chi a b)) := (k7.kp.cell (p := ⟨w3.heap.size, 1, none⟩) (by go_size)).trans (by go_simp)
          have fh7 : k7.val.frozen? ⟨w3.heap.size, 1, none⟩ = false := (k7.kp.frozen (p := ⟨w3.heap.size, 1, none⟩) (by go_size)).trans (by go_simp)
          have zh8 : w3.heap.size < k7.val.heap.size := Nat.lt_of_lt_of_le (by go_size) k7.kp.size
          have hwh : Below w.heap.size w k7.val := Below.trans (by (repeat' (first | (with_reducible exact Below.refl _ _) | (with_reducible assumption) | (with_reducible refine Below.alloc ?_ ?_ _) | (with_reducible refine Below.drew ?_) | (with_reducible refine below_drewN ?_ _) | (with_reducible refine Below.setCell ?_ ?_ _) | go_size))) (k7.kp.mono (by go_size))
          have hsh : w.heap.size ≤ k7.val.heap.size := hwh.size
          clear cg0 fg0 cg1 fg1 zg2 cg2 fg2 cg3 fg3 zg4 cg4 fg4 cg5 fg5 zg6 cg6 fg6 cg7 fg7 zg8 hwg hsg
          go_wp2_with fail
          refine (rclean_c _ _ _).mono ?_
          rintro e w8 ⟨rfl, hb8⟩
          have ci0 : w8.cell? ⟨w.heap.size, 0, none⟩ = some (.int .i64 a) := (hb8.cell (p := ⟨w.heap.size, 0, none⟩) (by go_size)).trans (by go_simp)
          have fi0 : w8.frozen? ⟨w.heap.size, 0, none⟩ = false := (hb8.frozen (p := ⟨w.heap.size, 0, none⟩) (by go_size)).trans (by go_simp)
          have ci1 : w8.cell? ⟨w.heap.size, 1, none⟩ = some (.int .i64 b) := (hb8.cell (p := ⟨w.heap.size, 1, none⟩) (by go_size)).trans (by go_simp)
          have fi1 : w8.frozen? ⟨w.heap.size, 1, none⟩ = false := (hb8.frozen (p := ⟨w.heap.size, 1, none⟩) (by go_size)).trans (by go_simp)
          have zi2 : w.heap.size < w8.heap.size := Nat.lt_of_lt_of_le (by go_size) hb8.size
          have ci2 : w8.cell? ⟨w.heap.size + 1, 0, none⟩ = some (.int .i64 c) := (hb8.cell (p := ⟨w.heap.size + 1, 0, none⟩) (by go_size)).trans (by go_simp)
          have fi2 : w8.frozen? ⟨w.heap.size + 1, 0, none⟩ = false := (hb8.frozen (p := ⟨w.heap.size + 1, 0, none⟩) (by go_size)).trans (by go_simp)
          have ci3 : w8.cell? ⟨w.heap.size + 1, 1, none⟩ = some (.int .i64 d) := (hb8.cell (p := ⟨w.heap.size + 1, 1, none⟩) (by go_size)).trans (by go_simp)
          have fi3 : w8.frozen? ⟨w.heap.size + 1, 1, none⟩ = false := (hb8.frozen (p := ⟨w.heap.size + 1, 1, none⟩) (by go_size)).trans (by go_simp)
          have zi4 : w.heap.size + 1 < w8.heap.size := Nat.lt_of_lt_of_le (by go_size) hb8.size
          have ci4 : w8.cell? ⟨w.heap.size + 1 + 1, 0, none⟩ = some (.int .i64 0) := (hb8.cell (p := ⟨w.heap.size + 1 + 1, 0, none⟩) (by go_size)).trans (by go_simp)
          have fi4 : w8.frozen? ⟨w.heap.size + 1 + 1, 0, none⟩ = false := (hb8.frozen (p := ⟨w.heap.size + 1 + 1, 0, none⟩) (by go_size)).trans (by go_simp)
          have ci5 : w8.cell? ⟨w.heap.size + 1 + 1, 1, none⟩ = some (.int .i64 0) := (hb8.cell (p := ⟨w.heap.size + 1 + 1, 1, none⟩) (by go_size)).trans (by go_simp)
          have fi5 : w8.frozen? ⟨w.heap.size + 1 + 1, 1, none⟩ = false := (hb8.frozen (p := ⟨w.heap.size + 1 + 1, 1, none⟩) (by go_size)).trans (by go_simp)
          have zi6 : w.heap.size + 1 + 1 < w8.heap.size := Nat.lt_of_lt_of_le (by go_size) hb8.size
          have ci6 : w8.cell? ⟨w3.heap.size, 0, none⟩ = some (.int .i64 (Pl.clo a b)) := (hb8.cell (p := ⟨w3.heap.size, 0, none⟩) (by go_size)).trans (by go_simp)
          have fi6 : w8.frozen? ⟨w3.heap.size, 0, none⟩ = false := (hb8.frozen (p := ⟨w3.heap.size, 0, none⟩) (by go_size)).trans (by go_simp)
          have ci7 : w8.cell? ⟨w3.heap.size, 1, none⟩ = some (.int .i64 (Pl.chi a b)) := (hb8.cell (p := ⟨w3.heap.size, 1, none⟩) (by go_size)).trans (by go_simp)
          have fi7 : w8.frozen? ⟨w3.heap.size, 1, none⟩ = false := (hb8.frozen (p := ⟨w3.heap.size, 1, none⟩) (by go_size)).trans (by go_simp)
          have zi8 : w3.heap.size < w8.heap.size := Nat.lt_of_lt_of_le (by go_size) hb8.size
          have hwi : Below w.heap.size w w8 := Below.trans (by (repeat' (first | (with_reducible exact Below.refl _ _) | (with_reducible assumption) | (with_reducible refine Below.alloc ?_ ?_ _) | (with_reducible refine Below.drew ?_) | (with_reducible refine below_drewN ?_ _) | (with_reducible refine Below.setCell ?_ ?_ _) | go_size))) (hb8.mono (by go_size))
          have hsi : w.heap.size ≤ w8.heap.size := hwi.size
          clear ch0 fh0 ch1 fh1 zh2 ch2 fh2 ch3 fh3 zh4 ch4 fh4 ch5 fh5 zh6 ch6 fh6 ch7 fh7 zh8 hwh hsh
          go_wp2
          refine bodyPost_ret (v := .agg #[.int .i64 _, .int .i64 _]) (by simp [results, Try.results43, go_sem, ci4, ci5]; exact ⟨rfl, rfl⟩) rfl ⟨ret_sp ?_ ?_, ?_⟩
          · simp only [Pl.hlo, Pl.gmin, e1, e2, Bool.false_eq_true, if_false]; (repeat' split) <;> first | rfl | omega
          · simp only [Pl.hhi, Pl.gmax, e1, e2, Bool.false_eq_true, if_false]; (repeat' split) <;> first | rfl | omega
          · (repeat' (first | (with_reducible exact Below.refl _ _) | (with_reducible assumption) | (with_reducible refine Below.alloc ?_ ?_ _) | (with_reducible refine Below.drew ?_) | (with_reducible refine below_drewN ?_ _) | (with_reducible refine Below.setCell ?_ ?_ _) | go_size))
        · skip
          go_enter Try.func43, Try.ntmps43
          go_wp2_with fail
          refine (rempty_c _ _ _).mono ?_
          rintro e w1 ⟨rfl, hb1⟩
          have cb0 : w1.cell? ⟨w.heap.size, 0, none⟩ = some (.int .i64 a) := (hb1.cell (p := ⟨w.heap.size, 0, none⟩) (by go_size)).trans (by go_simp)
          have fb0 : w1.frozen? ⟨w.heap.size, 0, none⟩ = false := (hb1.frozen (p := ⟨w.heap.size, 0, none⟩) (by go_size)).trans (by go_simp)
          have cb1 : w1.cell? ⟨w.heap.size, 1, none⟩ = some (.int .i64 b) := (hb1.cell (p := ⟨w.heap.size, 1, none⟩) (by go_size)).trans (by go_simp)
          have fb1 : w1.frozen? ⟨w.heap.size, 1, none⟩ = false := (hb1.frozen (p := ⟨w.heap.size, 1, none⟩) (by go_size)).trans (by go_simp)
          have zb2 : w.heap.size < w1.heap.size := Nat.lt_of_lt_of_le (by go_size) hb1.size
          have cb2 : w1.cell? ⟨w.heap.size + 1, 0, none⟩ = some (.int .i64 c) := (hb1.cell (p := ⟨w.heap.size + 1, 0, none⟩) (by go_size)).trans (by go_simp)
          have fb2 : w1.frozen? ⟨w.heap.size + 1, 0, none⟩ = false := (hb1.frozen (p := ⟨w.heap.size + 1, 0, none⟩) (by go_size)).trans (by go_simp)
          have cb3 : w1.cell? ⟨w.heap.size + 1, 1, none⟩ = some (.int .i64 d) := (hb1.cell (p := ⟨w.heap.size + 1, 1, none⟩) (by go_size)).trans (by go_simp)
          have fb3 : w1.frozen? ⟨w.heap.size + 1, 1, none⟩ = false := (hb1.frozen (p := ⟨w.heap.size + 1, 1, none⟩) (by go_size)).trans (by go_simp)
          have zb4 : w.heap.size + 1 < w1.heap.size := Nat.lt_of_lt_of_le (by go_size) hb1.size
          have cb4 : w1.cell? ⟨w.heap.size + 1 + 1, 0, none⟩ = some (.int .i64 0) := (hb1.cell (p := ⟨w.heap.size + 1 + 1, 0, none⟩) (by go_size)).trans (by go_simp)
          have fb4 : w1.frozen? ⟨w.heap.size + 1 + 1, 0, none⟩ = false := (hb1.frozen (p := ⟨w.heap.size + 1 + 1, 0, none⟩) (by go_size)).trans (by go_simp)
          have cb5 : w1.cell? ⟨w.heap.size + 1 + 1, 1, none⟩ = some (.int .i64 0) := (hb1.cell (p := ⟨w.heap.size + 1 + 1, 1, none⟩) (by go_size)).trans (by go_simp)
          have fb5 : w1.frozen? ⟨w.heap.size + 1 + 1, 1, none⟩ = false := (hb1.frozen (p := ⟨w.heap.size + 1 + 1, 1, none⟩) (by go_size)).trans (by go_simp)
          have zb6 : w.heap.size + 1 + 1 < w1.heap.size := Nat.lt_of_lt_of_le (by go_size) hb1.size
          have hwb : Below w.heap.size w w1 := Below.trans (by (repeat' (first | (with_reducible exact Below.refl _ _) | (with_reducible assumption) | (with_reducible refine Below.alloc ?_ ?_ _) | (with_reducible refine Below.drew ?_) | (with_reducible refine below_drewN ?_ _) | (with_reducible refine Below.setCell ?_ ?_ _) | go_size))) (hb1.mono (by go_size))
          have hsb : w.heap.size ≤ w1.heap.size := hwb.size
          go_wp2_with fail
          refine (rempty_c _ _ _).mono ?_
          rintro e w2 ⟨rfl, hb2⟩
          have cc0 : w2.cell? ⟨w.heap.size, 0, none⟩ = some (.int .i64 a) := (hb2.cell (p := ⟨w.heap.size, 0, none⟩) (by go_size)).trans (by go_simp)
          have fc0 : w2.frozen? ⟨w.heap.size, 0, none⟩ = false := (hb2.frozen (p := ⟨w.heap.size, 0, none⟩) (by go_size)).trans (by go_simp)
          have cc1 : w2.cell? ⟨w.heap.size, 1, none⟩ = some (.int .i64 b) := (hb2.cell (p := ⟨w.heap.size, 1, none⟩) (by go_size)).trans (by go_simp)
          have fc1 : w2.frozen? ⟨w.heap.size, 1, none⟩ = false := (hb2.frozen (p := ⟨w.heap.size, 1, none⟩) (by go_size)).trans (by go_simp)
          have zc2 : w.heap.size < w2.heap.size := Nat.lt_of_lt_of_le (by go_size) hb2.size
          have cc2 : w2.cell? ⟨w.heap.size + 1, 0, none⟩ = some (.int .i64 c) := (hb2.cell (p := ⟨w.heap.size + 1, 0, none⟩) (by go_size)).trans (by go_simp)
          have fc2 : w2.frozen? ⟨w.heap.size + 1, 0, none⟩ = false := (hb2.frozen (p := ⟨w.heap.size + 1, 0, none⟩) (by go_size)).trans (by go_simp)
          have cc3 : w2.cell? ⟨w.heap.size + 1, 1, none⟩ = some (.int .i64 d) := (hb2.cell (p := ⟨w.heap.size + 1, 1, none⟩) (by go_size)).trans (by go_simp)
          have fc3 : w2.frozen? ⟨w.heap.size + 1, 1, none⟩ = false := (hb2.frozen (p := ⟨w.heap.size + 1, 1, none⟩) (by go_size)).trans (by go_simp)
          have zc4 : w.heap.size + 1 < w2.heap.size := Nat.lt_of_lt_of_le (by go_size) hb2.size
          have cc4 : w2.cell? ⟨w.heap.size + 1 + 1, 0, none⟩ = some (.int .i64 0) := (hb2.cell (p := ⟨w.heap.size + 1 + 1, 0, none⟩) (by go_size)).trans (by go_simp)
          have fc4 : w2.frozen? ⟨w.heap.size + 1 + 1, 0, none⟩ = false := (hb2.frozen (p := ⟨w.heap.size + 1 + 1, 0, none⟩) (by go_size)).trans (by go_simp)
          have cc5 : w2.cell? ⟨w.heap.size + 1 + 1, 1, none⟩ = some (.int .i64 0) := (hb2.cell (p := ⟨w.heap.size + 1 + 1, 1, none⟩) (by go_size)).trans (by go_simp)
          have fc5 : w2.frozen? ⟨w.heap.size + 1 + 1, 1, none⟩ = false := (hb2.frozen (p := ⟨w.heap.size + 1 + 1, 1, none⟩) (by go_size)).trans (by go_simp)
          have zc6 : w.heap.size + 1 + 1 < w2.heap.size := Nat.lt_of_lt_of_le (by go_size) hb2.size
          have hwc : Below w.heap.size w w2 := Below.trans (by (repeat' (first | (with_reducible exact Below.refl _ _) | (with_reducible assumption) | (with_reducible refine Below.alloc ?_ ?_ _) | (with_reducible refine Below.drew ?_) | (with_reducible refine below_drewN ?_ _) | (with_reducible refine Below.setCell ?_ ?_ _) | go_size))) (hb2.mono (by go_size))
          have hsc : w.heap.size ≤ w2.heap.size := hwc.size
          clear cb0 fb0 cb1 fb1 zb2 cb2 fb2 cb3 fb3 zb4 cb4 fb4 cb5 fb5 zb6 hwb hsb hb1
          go_wp2_with fail
          refine (rclean_c _ _ _).mono ?_
          rintro e w3 ⟨rfl, hb3⟩
          have cd0 : w3.cell? ⟨w.heap.size, 0, none⟩ = some (.int .i64 a) := (hb3.cell (p := ⟨w.heap.size, 0, none⟩) (by go_size)).trans (by go_simp)
          have fd0 : w3.frozen? ⟨w.heap.size, 0, none⟩ = false := (hb3.frozen (p := ⟨w.heap.size, 0, none⟩) (by go_size)).trans (by go_simp)
          have cd1 : w3.cell? ⟨w.heap.size, 1, none⟩ = some (.int .i64 b) := (hb3.cell (p := ⟨w.heap.size, 1, none⟩) (by go_size)).trans (by go_simp)
          have fd1 : w3.frozen? ⟨w.heap.size, 1, none⟩ = false := (hb3.frozen (p := ⟨w.heap.size, 1, none⟩) (by go_size)).trans (by go_simp)
          have zd2 : w.heap.size < w3.heap.size := Nat.lt_of_lt_of_le (by go_size) hb3.size
          have cd2 : w3.cell? ⟨w.heap.size + 1, 0, none⟩ = some (.int .i64 c) := (hb3.cell (p := ⟨w.heap.size + 1, 0, none⟩) (by go_size)).trans (by go_simp)
          have fd2 : w3.frozen? ⟨w.heap.size + 1, 0, none⟩ = false := (hb3.frozen (p := ⟨w.heap.size + 1, 0, none⟩) (by go_size)).trans (by go_simp)
          have cd3 : w3.cell? ⟨w.heap.size + 1, 1, none⟩ = some (.int .i64 d) := (hb3.cell (p := ⟨w.heap.size + 1, 1, none⟩) (by go_size)).trans (by go_simp)
          have fd3 : w3.frozen? ⟨w.heap.size + 1, 1, none⟩ = false := (hb3.frozen (p := ⟨w.heap.size + 1, 1, none⟩) (by go_size)).trans (by go_simp)
          have zd4 : w.heap.size + 1 < w3.heap.size := Nat.lt_of_lt_of_le (by go_size) hb3.size
          have cd4 : w3.cell? ⟨w.heap.size + 1 + 1, 0, none⟩ = some (.int .i64 0) := (hb3.cell (p := ⟨w.heap.size + 1 + 1, 0, none⟩) (by go_size)).trans (by go_simp)
          have fd4 : w3.frozen? ⟨w.heap.size + 1 + 1, 0, none⟩ = false := (hb3.frozen (p := ⟨w.heap.size + 1 + 1, 0, none⟩) (by go_size)).trans (by go_simp)
          have cd5 : w3.cell? ⟨w.heap.size + 1 + 1, 1, none⟩ = some (.int .i64 0) := (hb3.cell (p := ⟨w.heap.size + 1 + 1, 1, none⟩) (by go_size)).trans (by go_simp)
          have fd5 : w3.frozen? ⟨w.heap.size + 1 + 1, 1, none⟩ = false := (hb3.frozen (p := ⟨w.heap.size + 1 + 1, 1, none⟩) (by go_size)).trans (by go_simp)
          have zd6 : w.heap.size + 1 + 1 < w3.heap.size := Nat.lt_of_lt_of_le (by go_size) hb3.size
          have hwd : Below w.heap.size w w3 := Below.trans (by (repeat' (first | (with_reducible exact Below.refl _ _) | (with_reducible assumption) | (with_reducible refine Below.alloc ?_ ?_ _) | (with_reducible refine Below.drew ?_) | (with_reducible refine below_drewN ?_ _) | (with_reducible refine Below.setCell ?_ ?_ _) | go_size))) (hb3.mono (by go_size))
          have hsd : w.heap.size ≤ w3.heap.size := hwd.size
          clear cc0 fc0 cc1 fc1 zc2 cc2 fc2 cc3 fc3 zc4 cc4 fc4 cc5 fc5 zc6 hwc hsc hb2
          go_wp2_with fail
          have yo : w.heap.size + 1 + 1 < w3.heap.size := zd6
          refine abs_wp ?_
          intro W4 hW
          have ce0 : W4.cell? ⟨w.heap.size, 0, none⟩ = some (.int .i64 a) := by rw [hW]; go_simp
          have fe0 : W4.frozen? ⟨w.heap.size, 0, none⟩ = false := by rw [hW]; go_simp
          have ce1 : W4.cell? ⟨w.heap.size, 1, none⟩ = some (.int .i64 b) := by rw [hW]; go_simp
          have fe1 : W4.frozen? ⟨w.heap.size, 1, none⟩ = false := by rw [hW]; go_simp
          have ze2 : w.heap.size < W4.heap.size := by rw [hW]; go_size
          have ce2 : W4.cell? ⟨w.heap.size + 1, 0, none⟩ = some (.int .i64 c) := by rw [hW]; go_simp
          have fe2 : W4.frozen? ⟨w.heap.size + 1, 0, none⟩ = false := by rw [hW]; go_simp
          have ce3 : W4.cell? ⟨w.heap.size + 1, 1, none⟩ = some (.int .i64 d) := by rw [hW]; go_simp
          have fe3 : W4.frozen? ⟨w.heap.size + 1, 1, none⟩ = false := by rw [hW]; go_simp
          have ze4 : w.heap.size + 1 < W4.heap.size := by rw [hW]; go_size
          have ce4 : W4.cell? ⟨w.heap.size + 1 + 1, 0, none⟩ = some (.int .i64 0) := by rw [hW]; go_simp
          have fe4 : W4.frozen? ⟨w.heap.size + 1 + 1, 0, none⟩ = false := by rw [hW]; go_simp
          have ce5 : W4.cell? ⟨w.heap.size + 1 + 1, 1, none⟩ = some (.int .i64 0) := by rw [hW]; go_simp
          have fe5 : W4.frozen? ⟨w.heap.size + 1 + 1, 1, none⟩ = false := by rw [hW]; go_simp
          have ze6 : w.heap.size + 1 + 1 < W4.heap.size := by rw [hW]; go_size
          have ce6 : W4.cell? ⟨w3.heap.size, 0, none⟩ = some (.int .i64 (Pl.clo a b)) := by rw [hW]; go_simp
          have fe6 : W4.frozen? ⟨w3.heap.size, 0, none⟩ = false := by rw [hW]; go_simp
          have ce7 : W4.cell? ⟨w3.heap.size, 1, none⟩ = some (.int .i64 (Pl.chi a b)) := by rw [hW]; go_simp
          have fe7 : W4.frozen? ⟨w3.heap.size, 1, none⟩ = false := by rw [hW]; go_simp
          have ze8 : w3.heap.size < W4.heap.size := by rw [hW]; go_size
          have hwe : Below w.heap.size w W4 := by
            rw [hW]
            (repeat' (first | (with_reducible exact Below.refl _ _) | (with_reducible assumption) | (with_reducible refine Below.alloc ?_ ?_ _) | (with_reducible refine Below.drew ?_) | (with_reducible refine below_drewN ?_ _) | (with_reducible refine Below.setCell ?_ ?_ _) | go_size))
          have hse : w.heap.size ≤ W4.heap.size := hwe.size
          clear hW
          clear cd0 fd0 cd1 fd1 zd2 cd2 fd2 cd3 fd3 zd4 cd4 fd4 cd5 fd5 zd6 hwd hsd hb3
          refine wp_region_kq (by kernel_rfl) (by kernel_rfl) ?_
          repeat (quiet_step ((go_at_call 41; exact KW.call (rclean_c _ _ _))))
          refine wpQuiet_nil ?_
          intro k5
          have cf0 : k5.val.cell? ⟨w.heap.size, 0, none⟩ = some (.int .i64 a) := (k5.kp.cell (p := ⟨w.heap.size, 0, none⟩) (by go_size)).trans (by go_simp)
          have ff0 : k5.val.frozen? ⟨w.heap.size, 0, none⟩ = false := (k5.kp.frozen (p := ⟨w.heap.size, 0, none⟩) (by go_size)).trans (by go_simp)
          have cf1 : k5.val.cell? ⟨w.heap.size, 1, none⟩ = some (.int .i64 b) := (k5.kp.cell (p := ⟨w.heap.size, 1, none⟩) (by go_size)).trans (by go_simp)
          have ff1 : k5.val.frozen? ⟨w.heap.size, 1, none⟩ = false := (k5.kp.frozen (p := ⟨w.heap.size, 1, none⟩) (by go_size)).trans (by go_simp)
          have zf2 : w.heap.size < k5.val.heap.size := Nat.lt_of_lt_of_le (by go_size) k5.kp.size
          have cf2 : k5.val.cell? ⟨w.heap.size + 1, 0, none⟩ = some (.int .i64 c) := (k5.kp.cell (p := ⟨w.heap.size + 1, 0, none⟩) (by go_size)).trans (by go_simp)
          have ff2 : k5.val.frozen? ⟨w.heap.size + 1, 0, none⟩ = false := (k5.kp.frozen (p := ⟨w.heap.size + 1, 0, none⟩) (by go_size)).trans (by go_simp)
          have cf3 : k5.val.cell? ⟨w.heap.size + 1, 1, none⟩ = some (.int .i64 d) := (k5.kp.cell (p := ⟨w.heap.size + 1, 1, none⟩) (by go_size)).trans (by go_simp)
          have ff3 : k5.val.frozen? ⟨w.heap.size + 1, 1, none⟩ = false := (k5.kp.frozen (p := ⟨w.heap.size + 1, 1, none⟩) (by go_size)).trans (by go_simp)
          have zf4 : w.heap.size + 1 < k5.val.heap.size := Nat.lt_of_lt_of_le (by go_size) k5.kp.size
          have cf4 : k5.val.cell? ⟨w.heap.size + 1 + 1, 0, none⟩ = some (.int .i64 0) := (k5.kp.cell (p := ⟨w.heap.size + 1 + 1, 0, none⟩) (by go_size)).trans (by go_simp)
          have ff4 : k5.val.frozen? ⟨w.heap.size + 1 + 1, 0, none⟩ = false := (k5.kp.frozen (p := ⟨w.heap.size + 1 + 1, 0, none⟩) (by go_size)).trans (by go_simp)
          have cf5 : k5.val.cell? ⟨w.heap.size + 1 + 1, 1, none⟩ = some (.int .i64 0) := (k5.kp.cell (p := ⟨w.heap.size + 1 + 1, 1, none⟩) (by go_size)).trans (by go_simp)
          have ff5 : k5.val.frozen? ⟨w.heap.size + 1 + 1, 1, none⟩ = false := (k5.kp.frozen (p := ⟨w.heap.size + 1 + 1, 1, none⟩) (by go_size)).trans (by go_simp)
          have zf6 : w.heap.size + 1 + 1 < k5.val.heap.size := Nat.lt_of_lt_of_le (by go_size) k5.kp.size
          have cf6 : k5.val.cell? ⟨w3.heap.size, 0, none⟩ = some (.int .i64 (Pl.clo a b)) := (k5.kp.cell (p := ⟨w3.heap.size, 0, none⟩) (by go_size)).trans (by go_simp)
          have ff6 : k5.val.frozen? ⟨w3.heap.size, 0, none⟩ = false := (k5.kp.frozen (p := ⟨w3.heap.size, 0, none⟩) (by go_size)).trans (by go_simp)
          have cf7 : k5.val.cell? ⟨w3.heap.size, 1, none⟩ = some (.int .i64 (Pl.chi a b)) := (k5.kp.cell (p := ⟨w3.heap.size, 1, none⟩) (by go_size)).trans (by go_simp)
          have ff7 : k5.val.frozen? ⟨w3.heap.size, 1, none⟩ = false := (k5.kp.frozen (p := ⟨w3.heap.size, 1, none⟩) (by go_size)).trans (by go_simp)
          have zf8 : w3.heap.size < k5.val.heap.size := Nat.lt_of_lt_of_le (by go_size) k5.kp.size
          have hwf : Below w.heap.size w k5.val := Below.trans (by (repeat' (first | (with_reducible exact Below.refl _ _) | (with_reducible assumption) | (with_reducible refine Below.alloc ?_ ?_ _) | (with_reducible refine Below.drew ?_) | (with_reducible refine below_drewN ?_ _) | (with_reducible refine Below.setCell ?_ ?_ _) | go_size))) (k5.kp.mono (by go_size))
          have hsf : w.heap.size ≤ k5.val.heap.size := hwf.size
          clear ce0 fe0 ce1 fe1 ze2 ce2 fe2 ce3 fe3 ze4 ce4 fe4 ce5 fe5 ze6 ce6 fe6 ce7 fe7 ze8 hwe hse
          go_wp2_with fail
          refine abs_wp ?_
          intro W6 hW
          have cg0 : W6.cell? ⟨w.heap.size, 0, none⟩ = some (.int .i64 a) := by rw [hW]; go_simp
          have fg0 : W6.frozen? ⟨w.heap.size, 0, none⟩ = false := by rw [hW]; go_simp
          have cg1 : W6.cell? ⟨w.heap.size, 1, none⟩ = some (.int .i64 b) := by rw [hW]; go_simp
          have fg1 : W6.frozen? ⟨w.heap.size, 1, none⟩ = false := by rw [hW]; go_simp
          have zg2 : w.heap.size < W6.heap.size := by rw [hW]; go_size
          have cg2 : W6.cell? ⟨w.heap.size + 1, 0, none⟩ = some (.int .i64 c) := by rw [hW]; go_simp
          have fg2 : W6.frozen? ⟨w.heap.size + 1, 0, none⟩ = false := by rw [hW]; go_simp
          have cg3 : W6.cell? ⟨w.heap.size + 1, 1, none⟩ = some (.int .i64 d) := by rw [hW]; go_simp
          have fg3 : W6.frozen? ⟨w.heap.size + 1, 1, none⟩ = false := by rw [hW]; go_simp
          have zg4 : w.heap.size + 1 < W6.heap.size := by rw [hW]; go_size
          have cg4 : W6.cell? ⟨w.heap.size + 1 + 1, 0, none⟩ = some (.int .i64 0) := by rw [hW]; go_simp
          have fg4 : W6.frozen? ⟨w.heap.size + 1 + 1, 0, none⟩ = false := by rw [hW]; go_simp
          have cg5 : W6.cell? ⟨w.heap.size + 1 + 1, 1, none⟩ = some (.int .i64 0) := by rw [hW]; go_simp
          have fg5 : W6.frozen? ⟨w.heap.size + 1 + 1, 1, none⟩ = false := by rw [hW]; go_simp
          have zg6 : w.heap.size + 1 + 1 < W6.heap.size := by rw [hW]; go_size
          have cg6 : W6.cell? ⟨w3.heap.size, 0, none⟩ = some (.int .i64 (Pl.clo a b)) := by rw [hW]; go_simp
          have fg6 : W6.frozen? ⟨w3.heap.size, 0, none⟩ = false := by rw [hW]; go_simp
          have cg7 : W6.cell? ⟨w3.heap.size, 1, none⟩ = some (.int .i64 (Pl.chi a b)) := by rw [hW]; go_simp
          have fg7 : W6.frozen? ⟨w3.heap.size, 1, none⟩ = false := by rw [hW]; go_simp
          have zg8 : w3.heap.size < W6.heap.size := by rw [hW]; go_size
          have hwg : Below w.heap.size w W6 := by
            rw [hW]
            (repeat' (first | (with_reducible exact Below.refl _ _) | (with_reducible assumption) | (with_reducible refine Below.alloc ?_ ?_ _) | (with_reducible refine Below.drew ?_) | (with_reducible refine below_drewN ?_ _) | (with_reducible refine Below.setCell ?_ ?_ _) | go_size))
          have hsg : w.heap.size ≤ W6.heap.size := hwg.size
          clear hW
          clear cf0 ff0 cf1 ff1 zf2 cf2 ff2 cf3 ff3 zf4 cf4 ff4 cf5 ff5 zf6 cf6 ff6 cf7 ff7 zf8 hwf hsf
          refine wp_region_kq (by kernel_rfl) (by kernel_rfl) ?_
          repeat (quiet_step ((go_at_call 41; exact KW.call (rclean_c _ _ _))))
          refine wpQuiet_nil ?_
          intro k7
          have ch0 : k7.val.cell? ⟨w.heap.size, 0, none⟩ = some (.int .i64 a) := (k7.kp.cell (p := ⟨w.heap.size, 0, none⟩) (by go_size)).trans (by go_simp)
          have fh0 : k7.val.frozen? ⟨w.heap.size, 0, none⟩ = false := (k7.kp.frozen (p := ⟨w.heap.size, 0, none⟩) (by go_size)).trans (by go_simp)
          have ch1 : k7.val.cell? ⟨w.heap.size, 1, none⟩ = some (.int .i64 b) := (k7.kp.cell (p := ⟨w.heap.size, 1, none⟩) (by go_size)).trans (by go_simp)
          have fh1 : k7.val.frozen? ⟨w.heap.size, 1, none⟩ = false := (k7.kp.frozen (p := ⟨w.heap.size, 1, none⟩) (by go_size)).trans (by go_simp)
          have zh2 : w.heap.size < k7.val.heap.size := Nat.lt_of_lt_of_le (by go_size) k7.kp.size
          have ch2 : k7.val.cell? ⟨w.heap.size + 1, 0, none⟩ = some (.int .i64 c) := (k7.kp.cell (p := ⟨w.heap.size + 1, 0, none⟩) (by go_size)).trans (by go_simp)
          have fh2 : k7.val.frozen? ⟨w.heap.size + 1, 0, none⟩ = false := (k7.kp.frozen (p := ⟨w.heap.size + 1, 0, none⟩) (by go_size)).trans (by go_simp)
          have ch3 : k7.val.cell? ⟨w.heap.size + 1, 1, none⟩ = some (.int .i64 d) := (k7.kp.cell (p := ⟨w.heap.size + 1, 1, none⟩) (by go_size)).trans (by go_simp)
          have fh3 : k7.val.frozen? ⟨w.heap.size + 1, 1, none⟩ = false := (k7.kp.frozen (p := ⟨w.heap.size + 1, 1, none⟩) (by go_size)).trans (by go_simp)
          have zh4 : w.heap.size + 1 < k7.val.heap.size := Nat.lt_of_lt_of_le (by go_size) k7.kp.size
          have ch4 : k7.val.cell? ⟨w.heap.size + 1 + 1, 0, none⟩ = some (.int .i64 0) := (k7.kp.cell (p := ⟨w.heap.size + 1 + 1, 0, none⟩) (by go_size)).trans (by go_simp)
          have fh4 : k7.val.frozen? ⟨w.heap.size + 1 + 1, 0, none⟩ = false := (k7.kp.frozen (p := ⟨w.heap.size + 1 + 1, 0, none⟩) (by go_size)).trans (by go_simp)
          have ch5 : k7.val.cell? ⟨w.heap.size + 1 + 1, 1, none⟩ = some (.int .i64 0) := (k7.kp.cell (p := ⟨w.heap.size + 1 + 1, 1, none⟩) (by go_size)).trans (by go_simp)
          have fh5 : k7.val.frozen? ⟨w.heap.size + 1 + 1, 1, none⟩ = false := (k7.kp.frozen (p := ⟨w.heap.size + 1 + 1, 1, none⟩) (by go_size)).trans (by go_simp)
          have zh6 : w.heap.size + 1 + 1 < k7.val.heap.size := Nat.lt_of_lt_of_le (by go_size) k7.kp.size
          have ch6 : k7.val.cell? ⟨w3.heap.size, 0, none⟩ = some (.int .i64 (Pl.clo a b)) := (k7.kp.cell (p := ⟨w3.heap.size, 0, none⟩) (by go_size)).trans (by go_simp)
          have fh6 : k7.val.frozen? ⟨w3.heap.size, 0, none⟩ = false := (k7.kp.frozen (p := ⟨w3.heap.size, 0, none⟩) (by go_size)).trans (by go_simp)
          have ch7 : k7.val.cell? ⟨w3.heap.size, 1, none⟩ = some (.int .i64 (Pl.chi a b)) := (k7.kp.cell (p := ⟨w3.heap.size, 1, none⟩) (by go_size)).trans (by go_simp)
          have fh7 : k7.val.frozen? ⟨w3.heap.size, 1, none⟩ = false := (k7.kp.frozen (p := ⟨w3.heap.size, 1, none⟩) (by go_size)).trans (by go_simp)
          have zh8 : w3.heap.size < k7.val.heap.size := Nat.lt_of_lt_of_le (by go_size) k7.kp.size
          have hwh : Below w.heap.size w k7.val := Below.trans (by (repeat' (first | (with_reducible exact Below.refl _ _) | (with_reducible assumption) | (with_reducible refine Below.alloc ?_ ?_ _) | (with_reducible refine Below.drew ?_) | (with_reducible refine below_drewN ?_ _) | (with_reducible refine Below.setCell ?_ ?_ _) | go_size))) (k7.kp.mono (by go_size))
          have hsh : w.heap.size ≤ k7.val.heap.size := hwh.size
          clear cg0 fg0 cg1 fg1 zg2 cg2 fg2 cg3 fg3 zg4 cg4 fg4 cg5 fg5 zg6 cg6 fg6 cg7 fg7 zg8 hwg hsg
          go_wp2
          refine bodyPost_ret (v := .agg #[.int .i64 _, .int .i64 _]) (by simp [results, Try.results43, go_sem, ch4, ch5]; exact ⟨rfl, rfl⟩) rfl ⟨ret_sp ?_ ?_, ?_⟩
          · simp only [Pl.hlo, Pl.gmin, e1, e2, Bool.false_eq_true, if_false]; (repeat' split) <;> first | rfl | omega
          · simp only [Pl.hhi, Pl.gmax, e1, e2, Bool.false_eq_true, if_false]; (repeat' split) <;> first | rfl | omega
          · (repeat' (first | (with_reducible exact Below.refl _ _) | (with_reducible assumption) | (with_reducible refine Below.alloc ?_ ?_ _) | (with_reducible refine Below.drew ?_) | (with_reducible refine below_drewN ?_ _) | (with_reducible refine Below.setCell ?_ ?_ _) | go_size))
    ·
      rw [hf] at e2
      go_enter Try.func43, Try.ntmps43
      go_wp2_with fail
      refine (rempty_c _ _ _).mono ?_
      rintro e w1 ⟨rfl, hb1⟩
      have cb0 : w1.cell? ⟨w.heap.size, 0, none⟩ = some (.int .i64 a) := (hb1.cell (p := ⟨w.heap.size, 0, none⟩) (by go_size)).trans (by go_simp)
      have fb0 : w1.frozen? ⟨w.heap.size, 0, none⟩ = false := (hb1.frozen (p := ⟨w.heap.size, 0, none⟩) (by go_size)).trans (by go_simp)
      have cb1 : w1.cell? ⟨w.heap.size, 1, none⟩ = some (.int .i64 b) := (hb1.cell (p := ⟨w.heap.size, 1, none⟩) (by go_size)).trans (by go_simp)
      have fb1 : w1.frozen? ⟨w.heap.size, 1, none⟩ = false := (hb1.frozen (p := ⟨w.heap.size, 1, none⟩) (by go_size)).trans (by go_simp)
      have zb2 : w.heap.size < w1.heap.size := Nat.lt_of_lt_of_le (by go_size) hb1.size
      have cb2 : w1.cell? ⟨w.heap.size + 1, 0, none⟩ = some (.int .i64 c) := (hb1.cell (p := ⟨w.heap.size + 1, 0, none⟩) (by go_size)).trans (by go_simp)
      have fb2 : w1.frozen? ⟨w.heap.size + 1, 0, none⟩ = false := (hb1.frozen (p := ⟨w.heap.size + 1, 0, none⟩) (by go_size)).trans (by go_simp)
      have cb3 : w1.cell? ⟨w.heap.size + 1, 1, none⟩ = some (.int .i64 d) := (hb1.cell (p := ⟨w.heap.size + 1, 1, none⟩) (by go_size)).trans (by go_simp)
      have fb3 : w1.frozen? ⟨w.heap.size + 1, 1, none⟩ = false := (hb1.frozen (p := ⟨w.heap.size + 1, 1, none⟩) (by go_size)).trans (by go_simp)
      have zb4 : w.heap.size + 1 < w1.heap.size := Nat.lt_of_lt_of_le (by go_size) hb1.size
      have cb4 : w1.cell? ⟨w.heap.size + 1 + 1, 0, none⟩ = some (.int .i64 0) := (hb1.cell (p := ⟨w.heap.size + 1 + 1, 0, none⟩) (by go_size)).trans (by go_simp)
      have fb4 : w1.frozen? ⟨w.heap.size + 1 + 1, 0, none⟩ = false := (hb1.frozen (p := ⟨w.heap.size + 1 + 1, 0, none⟩) (by go_size)).trans (by go_simp)
      have cb5 : w1.cell? ⟨w.heap.size + 1 + 1, 1, none⟩ = some (.int .i64 0) := (hb1.cell (p := ⟨w.heap.size + 1 + 1, 1, none⟩) (by go_size)).trans (by go_simp)
      have fb5 : w1.frozen? ⟨w.heap.size + 1 + 1, 1, none⟩ = false := (hb1.frozen (p := ⟨w.heap.size + 1 + 1, 1, none⟩) (by go_size)).trans (by go_simp)
      have zb6 : w.heap.size + 1 + 1 < w1.heap.size := Nat.lt_of_lt_of_le (by go_size) hb1.size
      have hwb : Below w.heap.size w w1 := Below.trans (by (repeat' (first | (with_reducible exact Below.refl _ _) | (with_reducible assumption) | (with_reducible refine Below.alloc ?_ ?_ _) | (with_reducible refine Below.drew ?_) | (with_reducible refine below_drewN ?_ _) | (with_reducible refine Below.setCell ?_ ?_ _) | go_size))) (hb1.mono (by go_size))
      have hsb : w.heap.size ≤ w1.heap.size := hwb.size
      go_wp2_with fail
      refine (rempty_c _ _ _).mono ?_
      rintro e w2 ⟨rfl, hb2⟩
      have cc0 : w2.cell? ⟨w.heap.size, 0, none⟩ = some (.int .i64 a) := (hb2.cell (p := ⟨w.heap.size, 0, none⟩) (by go_size)).trans (by go_simp)
      have fc0 : w2.frozen? ⟨w.heap.size, 0, none⟩ = false := (hb2.frozen (p := ⟨w.heap.size, 0, none⟩) (by go_size)).trans (by go_simp)
      have cc1 : w2.cell? ⟨w.heap.size, 1, none⟩ = some (.int .i64 b) := (hb2.cell (p := ⟨w.heap.size, 1, none⟩) (by go_size)).trans (by go_simp)
      have fc1 : w2.frozen? ⟨w.heap.size, 1, none⟩ = false := (hb2.frozen (p := ⟨w.heap.size, 1, none⟩) (by go_size)).trans (by go_simp)
      have zc2 : w.heap.size < w2.heap.size := Nat.lt_of_lt_of_le (by go_size) hb2.size
      have cc2 : w2.cell? ⟨w.heap.size + 1, 0, none⟩ = some (.int .i64 c) := (hb2.cell (p := ⟨w.heap.size + 1, 0, none⟩) (by go_size)).trans (by go_simp)
      have fc2 : w2.frozen? ⟨w.heap.size + 1, 0, none⟩ = false := (hb2.frozen (p := ⟨w.heap.size + 1, 0, none⟩) (by go_size)).trans (by go_simp)
      have cc3 : w2.cell? ⟨w.heap.size + 1, 1, none⟩ = some (.int .i64 d) := (hb2.cell (p := ⟨w.heap.size + 1, 1, none⟩) (by go_size)).trans (by go_simp)
      have fc3 : w2.frozen? ⟨w.heap.size + 1, 1, none⟩ = false := (hb2.frozen (p := ⟨w.heap.size + 1, 1, none⟩) (by go_size)).trans (by go_simp)
      have zc4 : w.heap.size + 1 < w2.heap.size := Nat.lt_of_lt_of_le (by go_size) hb2.size
      have cc4 : w2.cell? ⟨w.heap.size + 1 + 1, 0, none⟩ = some (.int .i64 0) := (hb2.cell (p := ⟨w.heap.size + 1 + 1, 0, none⟩) (by go_size)).trans (by go_simp)
      have fc4 : w2.frozen? ⟨w.heap.size + 1 + 1, 0, none⟩ = false := (hb2.frozen (p := ⟨w.heap.size + 1 + 1, 0, none⟩) (by go_size)).trans (by go_simp)
      have cc5 : w2.cell? ⟨w.heap.size + 1 + 1, 1, none⟩ = some (.int .i64 0) := (hb2.cell (p := ⟨w.heap.size + 1 + 1, 1, none⟩) (by go_size)).trans (by go_simp)
      have fc5 : w2.frozen? ⟨w.heap.size + 1 + 1, 1, none⟩ = false := (hb2.frozen (p := ⟨w.heap.size + 1 + 1, 1, none⟩) (by go_size)).trans (by go_simp)
      have zc6 : w.heap.size + 1 + 1 < w2.heap.size := Nat.lt_of_lt_of_le (by go_size) hb2.size
      have hwc : Below w.heap.size w w2 := Below.trans (by (repeat' (first | (with_reducible exact Below.refl _ _) | (with_reducible assumption) | (with_reducible refine Below.alloc ?_ ?_ _) | (with_reducible refine Below.drew ?_) | (with_reducible refine below_drewN ?_ _) | (with_reducible refine Below.setCell ?_ ?_ _) | go_size))) (hb2.mono (by go_size))
      have hsc : w.heap.size ≤ w2.heap.size := hwc.size
      clear cb0 fb0 cb1 fb1 zb2 cb2 fb2 cb3 fb3 zb4 cb4 fb4 cb5 fb5 zb6 hwb hsb hb1
      go_wp2_with fail
      refine (rclean_c _ _ _).mono ?_
      rintro e w3 ⟨rfl, hb3⟩
      have cd0 : w3.cell? ⟨w.heap.size + 1 + 1, 0, none⟩ = some (.int .i64 0) := (hb3.cell (p := ⟨w.heap.size + 1 + 1, 0, none⟩) (by go_size)).trans (by go_simp)
      have fd0 : w3.frozen? ⟨w.heap.size + 1 + 1, 0, none⟩ = false := (hb3.frozen (p := ⟨w.heap.size + 1 + 1, 0, none⟩) (by go_size)).trans (by go_simp)
      have cd1 : w3.cell? ⟨w.heap.size + 1 + 1, 1, none⟩ = some (.int .i64 0) := (hb3.cell (p := ⟨w.heap.size + 1 + 1, 1, none⟩) (by go_size)).trans (by go_simp)
      have fd1 : w3.frozen? ⟨w.heap.size + 1 + 1, 1, none⟩ = false := (hb3.frozen (p := ⟨w.heap.size + 1 + 1, 1, none⟩) (by go_size)).trans (by go_simp)
      have zd2 : w.heap.size + 1 + 1 < w3.heap.size := Nat.lt_of_lt_of_le (by go_size) hb3.size
      have hwd : Below w.heap.size w w3 := Below.trans (by (repeat' (first | (with_reducible exact Below.refl _ _) | (with_reducible assumption) | (with_reducible refine Below.alloc ?_ ?_ _) | (with_reducible refine Below.drew ?_) | (with_reducible refine below_drewN ?_ _) | (with_reducible refine Below.setCell ?_ ?_ _) | go_size))) (hb3.mono (by go_size))
      have hsd : w.heap.size ≤ w3.heap.size := hwd.size
      clear cc0 fc0 cc1 fc1 zc2 cc2 fc2 cc3 fc3 zc4 cc4 fc4 cc5 fc5 zc6 hwc hsc hb2
      go_wp2
      refine bodyPost_ret (v := .agg #[.int .i64 _, .int .i64 _]) (by simp [results, Try.results43, go_sem, cd0, cd1]; exact ⟨rfl, rfl⟩) rfl ⟨ret_sp ?_ ?_, ?_⟩
      · simp [Pl.hlo, e1, e2]
      · simp [Pl.hhi, e1, e2]
      · (repeat' (first | (with_reducible exact Below.refl _ _) | (with_reducible assumption) | (with_reducible refine Below.alloc ?_ ?_ _) | (with_reducible refine Below.drew ?_) | (with_reducible refine below_drewN ?_ _) | (with_reducible refine Below.setCell ?_ ?_ _) | go_size))
  ·
    rw [he] at e1
    go_enter Try.func43, Try.ntmps43
    go_wp2_with fail
    refine (rempty_c _ _ _).mono ?_
    rintro e w1 ⟨rfl, hb1⟩
    have cb0 : w1.cell? ⟨w.heap.size, 0, none⟩ = some (.int .i64 a) := (hb1.cell (p := ⟨w.heap.size, 0, none⟩) (by go_size)).trans (by go_simp)
    have fb0 : w1.frozen? ⟨w.heap.size, 0, none⟩ = false := (hb1.frozen (p := ⟨w.heap.size, 0, none⟩) (by go_size)).trans (by go_simp)
    have cb1 : w1.cell? ⟨w.heap.size, 1, none⟩ = some (.int .i64 b) := (hb1.cell (p := ⟨w.heap.size, 1, none⟩) (by go_size)).trans (by go_simp)
    have fb1 : w1.frozen? ⟨w.heap.size, 1, none⟩ = false := (hb1.frozen (p := ⟨w.heap.size, 1, none⟩) (by go_size)).trans (by go_simp)
    have zb2 : w.heap.size < w1.heap.size := Nat.lt_of_lt_of_le (by go_size) hb1.size
    have cb2 : w1.cell? ⟨w.heap.size + 1, 0, none⟩ = some (.int .i64 c) := (hb1.cell (p := ⟨w.heap.size + 1, 0, none⟩) (by go_size)).trans (by go_simp)
    have fb2 : w1.frozen? ⟨w.heap.size + 1, 0, none⟩ = false := (hb1.frozen (p := ⟨w.heap.size + 1, 0, none⟩) (by go_size)).trans (by go_simp)
    have cb3 : w1.cell? ⟨w.heap.size + 1, 1, none⟩ = some (.int .i64 d) := (hb1.cell (p := ⟨w.heap.size + 1, 1, none⟩) (by go_size)).trans (by go_simp)
    have fb3 : w1.frozen? ⟨w.heap.size + 1, 1, none⟩ = false := (hb1.frozen (p := ⟨w.heap.size + 1, 1, none⟩) (by go_size)).trans (by go_simp)
    have zb4 : w.heap.size + 1 < w1.heap.size := Nat.lt_of_lt_of_le (by go_size) hb1.size
    have cb4 : w1.cell? ⟨w.heap.size + 1 + 1, 0, none⟩ = some (.int .i64 0) := (hb1.cell (p := ⟨w.heap.size + 1 + 1, 0, none⟩) (by go_size)).trans (by go_simp)
    have fb4 : w1.frozen? ⟨w.heap.size + 1 + 1, 0, none⟩ = false := (hb1.frozen (p := ⟨w.heap.size + 1 + 1, 0, none⟩) (by go_size)).trans (by go_simp)
    have cb5 : w1.cell? ⟨w.heap.size + 1 + 1, 1, none⟩ = some (.int .i64 0) := (hb1.cell (p := ⟨w.heap.size + 1 + 1, 1, none⟩) (by go_size)).trans (by go_simp)
    have fb5 : w1.frozen? ⟨w.heap.size + 1 + 1, 1, none⟩ = false := (hb1.frozen (p := ⟨w.heap.size + 1 + 1, 1, none⟩) (by go_size)).trans (by go_simp)
    have zb6 : w.heap.size + 1 + 1 < w1.heap.size := Nat.lt_of_lt_of_le (by go_size) hb1.size
    have hwb : Below w.heap.size w w1 := Below.trans (by (repeat' (first | (with_reducible exact Below.refl _ _) | (with_reducible assumption) | (with_reducible refine Below.alloc ?_ ?_ _) | (with_reducible refine Below.drew ?_) | (with_reducible refine below_drewN ?_ _) | (with_reducible refine Below.setCell ?_ ?_ _) | go_size))) (hb1.mono (by go_size))
    have hsb : w.heap.size ≤ w1.heap.size := hwb.size
    go_wp2_with fail
    refine (rclean_c _ _ _).mono ?_
    rintro e w2 ⟨rfl, hb2⟩
    have cc0 : w2.cell? ⟨w.heap.size + 1 + 1, 0, none⟩ = some (.int .i64 0) := (hb2.cell (p := ⟨w.heap.size + 1 + 1, 0, none⟩) (by go_size)).trans (by go_simp)
    have fc0 : w2.frozen? ⟨w.heap.size + 1 + 1, 0, none⟩ = false := (hb2.frozen (p := ⟨w.heap.size + 1 + 1, 0, none⟩) (by go_size)).trans (by go_simp)
    have cc1 : w2.cell? ⟨w.heap.size + 1 + 1, 1, none⟩ = some (.int .i64 0) := (hb2.cell (p := ⟨w.heap.size + 1 + 1, 1, none⟩) (by go_size)).trans (by go_simp)
    have fc1 : w2.frozen? ⟨w.heap.size + 1 + 1, 1, none⟩ = false := (hb2.frozen (p := ⟨w.heap.size + 1 + 1, 1, none⟩) (by go_size)).trans (by go_simp)
    have zc2 : w.heap.size + 1 + 1 < w2.heap.size := Nat.lt_of_lt_of_le (by go_size) hb2.size
    have hwc : Below w.heap.size w w2 := Below.trans (by (repeat' (first | (with_reducible exact Below.refl _ _) | (with_reducible assumption) | (with_reducible refine Below.alloc ?_ ?_ _) | (with_reducible refine Below.drew ?_) | (with_reducible refine below_drewN ?_ _) | (with_reducible refine Below.setCell ?_ ?_ _) | go_size))) (hb2.mono (by go_size))
    have hsc : w.heap.size ≤ w2.heap.size := hwc.size
    clear cb0 fb0 cb1 fb1 zb2 cb2 fb2 cb3 fb3 zb4 cb4 fb4 cb5 fb5 zb6 hwb hsb hb1
    go_wp2
    refine bodyPost_ret (v := .agg #[.int .i64 _, .int .i64 _]) (by simp [results, Try.results43, go_sem, cc0, cc1]; exact ⟨rfl, rfl⟩) rfl ⟨ret_sp ?_ ?_, ?_⟩
    · simp [Pl.hlo, e1]
    · simp [Pl.hhi, e1]
    · (repeat' (first | (with_reducible exact Below.refl _ _) | (with_reducible assumption) | (with_reducible refine Below.alloc ?_ ?_ _) | (with_reducible refine Below.drew ?_) | (with_reducible refine below_drewN ?_ _) | (with_reducible refine Below.setCell ?_ ?_ _) | go_size))

end Go.Proofs.Ytgpeekmagckgcaa
