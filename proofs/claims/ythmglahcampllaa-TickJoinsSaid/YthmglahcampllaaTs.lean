/- What is proved here: what a step of package tick's reckoning does to the pile. Condition: all numbers of the pile are times, and there are at most 1000. -/
import Derived.Test.YthmglahcampllaaTq
namespace Go.Proofs.Ythmglahcampllaa
open Go Go.RowKit
attribute [local go_sem] assert34

theorem Pile.alloc {B b : Nat} {xs : List Int} {w : World} (h : Pile B b xs w) (o : Obj) : Pile B b xs (w.alloc o) := by
  obtain ⟨v, hv, h1, h2, h3⟩ := h
  exact ⟨v, by rw [Below.heap_alloc _ _ _ (block_lt hv)]; exact hv, h1, h2, h3.alloc o⟩
theorem Pile.lt {B b : Nat} {xs : List Int} {w : World} (h : Pile B b xs w) : b < w.heap.size := by
  obtain ⟨v, hv, _⟩ := h
  exact block_lt hv
theorem Pile.le {B b : Nat} {xs : List Int} {w : World} (h : Pile B b xs w) : B ≤ b := by
  obtain ⟨v, _, h, _⟩ := h
  exact h

set_option maxRecDepth 20000 in
set_option maxHeartbeats 1000000 in
theorem step1_ok (B b : Nat) (xs : List Int) (n _x _y : Int) (w : World) (hB : B ≤ w.heap.size) (hl : xs.length ≤ 990) (hp : Pile B b (xs) w) (p1 : -1125899906842624 ≤ n) (p2 : n ≤ 1125899906842624) :
    Calls Try.prog 54 #[.pointer (some ⟨b, 0, none⟩), .agg #[.int .i64 1, .int .i64 n]] w fun e w' => e = .returned (.tuple #[]) ∧ Pile B b (xs ++ [n]) w' ∧ Below B w w' := by
  have hlt := hp.lt
  have hle := hp.le
  go_enter Try.func54, Try.ntmps54
  go_wp2_with fail
  refine (push_ok B b xs n _ (hp.alloc _) (by simp; omega) (by omega) p1 p2).mono ?_
  rintro e w1 ⟨rfl, hp1, hb1⟩
  go_wp2
  go_returns
  exact ⟨rfl, hp1, ((Below.refl _ _).alloc hB _).trans hb1⟩
set_option maxRecDepth 20000 in
set_option maxHeartbeats 1000000 in
theorem step1_over (B b : Nat) (xs : List Int) (n _x _y : Int) (w : World) (hB : B ≤ w.heap.size) (_hl : xs.length ≤ 990) (hp : Pile B b (xs) w) (h : n < -1125899906842624 ∨ 1125899906842624 < n) :
    Calls Try.prog 54 #[.pointer (some ⟨b, 0, none⟩), .agg #[.int .i64 1, .int .i64 n]] w fun e w' => e = over ∧ Below B w w' := by
  have hlt := hp.lt
  have hle := hp.le
  have H := Lib.hid h
  clear h
  go_enter Try.func54, Try.ntmps54
  go_wp2_with fail
  obtain ⟨v, hv, _, _, _⟩ := hp.alloc (.cells #[.int .i64 1, .int .i64 n] 43)
  refine (push_over b v n _ (block_cell hv 0) H.out).mono ?_
  rintro e w1 ⟨rfl, k, rfl⟩
  exact ⟨rfl, rfl, below_drewN ((Below.refl _ _).alloc hB _) _⟩
set_option maxRecDepth 20000 in
set_option maxHeartbeats 1000000 in
theorem step7_ok (B b : Nat) (xs : List Int) (n x _y : Int) (w : World) (hB : B ≤ w.heap.size) (hl : xs.length ≤ 990) (hp : Pile B b (xs ++ [x]) w) (p1 : -1125899906842624 ≤ x) (p2 : x ≤ 1125899906842624) :
    Calls Try.prog 54 #[.pointer (some ⟨b, 0, none⟩), .agg #[.int .i64 7, .int .i64 n]] w fun e w' => e = .returned (.tuple #[]) ∧ Pile B b (xs ++ [-x]) w' ∧ Below B w w' := by
  have hlt := hp.lt
  have hle := hp.le
  go_enter Try.func54, Try.ntmps54
  go_wp2_with fail
  refine (pop_ok B b xs x _ (hp.alloc _) (by simp; omega) (by omega)).mono ?_
  rintro e w1 ⟨rfl, hp1, hb1, hg1⟩
  have hs1 := hb1.size
  simp only [World.size_alloc] at hs1
  go_wp2_with (go_at_call 69; refine (neg_ok x _ p1 p2).mono ?_; rintro e w' ⟨rfl, rfl⟩)
  refine (push_ok B b xs (-x) _ hp1 (by omega) (by omega) (by omega) (by omega)).mono ?_
  rintro e w2 ⟨rfl, hp2, hb2⟩
  go_wp2
  go_returns
  exact ⟨rfl, hp2, (((Below.refl _ _).alloc hB _).trans hb1).trans hb2⟩
set_option maxRecDepth 20000 in
set_option maxHeartbeats 1000000 in
theorem step7_empty (B b : Nat) (xs : List Int) (n _x _y : Int) (w : World) (hB : B ≤ w.heap.size) (_hl : xs.length ≤ 990) (hp : Pile B b ([]) w)  :
    Calls Try.prog 54 #[.pointer (some ⟨b, 0, none⟩), .agg #[.int .i64 7, .int .i64 n]] w fun e w' => e = argE ∧ Below B w w' := by
  have hlt := hp.lt
  have hle := hp.le
  go_enter Try.func54, Try.ntmps54
  go_wp2_with fail
  refine (pop_empty B b _ (hp.alloc _)).mono ?_
  rintro e w1 ⟨rfl, rfl⟩
  exact ⟨rfl, rfl, (Below.refl _ _).alloc hB _⟩
set_option maxRecDepth 20000 in
set_option maxHeartbeats 1000000 in
theorem step_bad (B b : Nat) (xs : List Int) (n k _x _y : Int) (w : World) (hB : B ≤ w.heap.size) (_hl : xs.length ≤ 990) (hp : Pile B b (xs) w) (k1 : (k == 1) = false) (k2 : (k == 2) = false) (k3 : (k == 3) = false) (k4 : (k == 4) = false) (k5 : (k == 5) = false) (k6 : (k == 6) = false) (k7 : (k == 7) = false) :
    Calls Try.prog 54 #[.pointer (some ⟨b, 0, none⟩), .agg #[.int .i64 k, .int .i64 n]] w fun e w' => e = argE ∧ Below B w w' := by
  have hlt := hp.lt
  have hle := hp.le
  go_enter Try.func54, Try.ntmps54
  go_wp2
  exact ⟨rfl, rfl, (Below.refl _ _).alloc hB _⟩
set_option maxRecDepth 20000 in
set_option maxHeartbeats 1000000 in
theorem step2_ok (B b : Nat) (xs : List Int) (n x y : Int) (w : World) (hB : B ≤ w.heap.size) (hl : xs.length ≤ 990) (hp : Pile B b (xs ++ [x, y]) w) (p1 : -1125899906842624 ≤ x) (p2 : x ≤ 1125899906842624) (q1 : -1125899906842624 ≤ y) (q2 : y ≤ 1125899906842624) (r1 : -1125899906842624 ≤ x + y) (r2 : x + y ≤ 1125899906842624) :
    Calls Try.prog 54 #[.pointer (some ⟨b, 0, none⟩), .agg #[.int .i64 2, .int .i64 n]] w fun e w' => e = .returned (.tuple #[]) ∧ Pile B b (xs ++ [x + y]) w' ∧ Below B w w' := by
  have hlt := hp.lt
  have hle := hp.le
  go_enter Try.func54, Try.ntmps54
  go_wp2_with fail
  refine (pop_ok B b (xs ++ [x]) y _ (by simpa using hp.alloc _) (by simp; omega) (by simp; omega)).mono ?_
  rintro e w1 ⟨rfl, hp1, hb1, hg1⟩
  have c1 : w1.cell? ⟨w.heap.size, 0, none⟩ = some (.int .i64 2) := (hg1.cell_far ⟨w.heap.size, 0, none⟩ (by simp) (by simp; omega)).trans (by go_simp)
  have hs1 := hb1.size
  simp only [World.size_alloc] at hs1
  go_wp2_with fail
  refine (pop_ok B b xs x _ hp1 (by omega) (by omega)).mono ?_
  rintro e w2 ⟨rfl, hp2, hb2, hg2⟩
  have c2 : w2.cell? ⟨w.heap.size, 0, none⟩ = some (.int .i64 2) := (hg2.cell_far ⟨w.heap.size, 0, none⟩ (by simp; omega) (by simp; omega)).trans c1
  have hs2 := hb2.size
  have hb : Below B w w2 := (((Below.refl _ _).alloc hB _).trans hb1).trans hb2
  clear c1
  go_wp2_with (go_at_call 63; refine (add_ok x y _ p1 p2 q1 q2 r1 r2).mono ?_; rintro e w' ⟨rfl, rfl⟩)
  refine (push_ok B b xs (x + y) _ hp2 (by omega) (by omega) (by omega) (by omega)).mono ?_
  rintro e w3 ⟨rfl, hp3, hb3⟩
  go_wp2
  go_returns
  exact ⟨rfl, hp3, hb.trans hb3⟩
set_option maxRecDepth 20000 in
set_option maxHeartbeats 1000000 in
theorem step2_over (B b : Nat) (xs : List Int) (n x y : Int) (w : World) (hB : B ≤ w.heap.size) (hl : xs.length ≤ 990) (hp : Pile B b (xs ++ [x, y]) w) (p1 : -1125899906842624 ≤ x) (p2 : x ≤ 1125899906842624) (q1 : -1125899906842624 ≤ y) (q2 : y ≤ 1125899906842624) (h : x + y < -1125899906842624 ∨ 1125899906842624 < x + y) :
    Calls Try.prog 54 #[.pointer (some ⟨b, 0, none⟩), .agg #[.int .i64 2, .int .i64 n]] w fun e w' => e = over ∧ Below B w w' := by
  have hlt := hp.lt
  have hle := hp.le
  have H := Lib.hid h
  clear h
  go_enter Try.func54, Try.ntmps54
  go_wp2_with fail
  refine (pop_ok B b (xs ++ [x]) y _ (by simpa using hp.alloc _) (by simp; omega) (by simp; omega)).mono ?_
  rintro e w1 ⟨rfl, hp1, hb1, hg1⟩
  have c1 : w1.cell? ⟨w.heap.size, 0, none⟩ = some (.int .i64 2) := (hg1.cell_far ⟨w.heap.size, 0, none⟩ (by simp) (by simp; omega)).trans (by go_simp)
  have hs1 := hb1.size
  simp only [World.size_alloc] at hs1
  go_wp2_with fail
  refine (pop_ok B b xs x _ hp1 (by omega) (by omega)).mono ?_
  rintro e w2 ⟨rfl, hp2, hb2, hg2⟩
  have c2 : w2.cell? ⟨w.heap.size, 0, none⟩ = some (.int .i64 2) := (hg2.cell_far ⟨w.heap.size, 0, none⟩ (by simp; omega) (by simp; omega)).trans c1
  have hs2 := hb2.size
  have hb : Below B w w2 := (((Below.refl _ _).alloc hB _).trans hb1).trans hb2
  clear c1
  go_wp2_with (go_at_call 63; refine (add_over2 x y _ p1 p2 q1 q2 H.out).mono ?_; rintro e w' ⟨rfl, rfl⟩)
  exact ⟨rfl, rfl, hb⟩
set_option maxRecDepth 20000 in
set_option maxHeartbeats 1000000 in
theorem step3_ok (B b : Nat) (xs : List Int) (n x y : Int) (w : World) (hB : B ≤ w.heap.size) (hl : xs.length ≤ 990) (hp : Pile B b (xs ++ [x, y]) w) (p1 : -1125899906842624 ≤ x) (p2 : x ≤ 1125899906842624) (q1 : -1125899906842624 ≤ y) (q2 : y ≤ 1125899906842624) (r1 : -1125899906842624 ≤ x - y) (r2 : x - y ≤ 1125899906842624) :
    Calls Try.prog 54 #[.pointer (some ⟨b, 0, none⟩), .agg #[.int .i64 3, .int .i64 n]] w fun e w' => e = .returned (.tuple #[]) ∧ Pile B b (xs ++ [x - y]) w' ∧ Below B w w' := by
  have hlt := hp.lt
  have hle := hp.le
  go_enter Try.func54, Try.ntmps54
  go_wp2_with fail
  refine (pop_ok B b (xs ++ [x]) y _ (by simpa using hp.alloc _) (by simp; omega) (by simp; omega)).mono ?_
  rintro e w1 ⟨rfl, hp1, hb1, hg1⟩
  have c1 : w1.cell? ⟨w.heap.size, 0, none⟩ = some (.int .i64 3) := (hg1.cell_far ⟨w.heap.size, 0, none⟩ (by simp) (by simp; omega)).trans (by go_simp)
  have hs1 := hb1.size
  simp only [World.size_alloc] at hs1
  go_wp2_with fail
  refine (pop_ok B b xs x _ hp1 (by omega) (by omega)).mono ?_
  rintro e w2 ⟨rfl, hp2, hb2, hg2⟩
  have c2 : w2.cell? ⟨w.heap.size, 0, none⟩ = some (.int .i64 3) := (hg2.cell_far ⟨w.heap.size, 0, none⟩ (by simp; omega) (by simp; omega)).trans c1
  have hs2 := hb2.size
  have hb : Below B w w2 := (((Below.refl _ _).alloc hB _).trans hb1).trans hb2
  clear c1
  go_wp2_with (go_at_call 67; refine (sub_ok x y _ p1 p2 q1 q2 r1 r2).mono ?_; rintro e w' ⟨rfl, rfl⟩)
  refine (push_ok B b xs (x - y) _ hp2 (by omega) (by omega) (by omega) (by omega)).mono ?_
  rintro e w3 ⟨rfl, hp3, hb3⟩
  go_wp2
  go_returns
  exact ⟨rfl, hp3, hb.trans hb3⟩
set_option maxRecDepth 20000 in
set_option maxHeartbeats 1000000 in
theorem step3_over (B b : Nat) (xs : List Int) (n x y : Int) (w : World) (hB : B ≤ w.heap.size) (hl : xs.length ≤ 990) (hp : Pile B b (xs ++ [x, y]) w) (p1 : -1125899906842624 ≤ x) (p2 : x ≤ 1125899906842624) (q1 : -1125899906842624 ≤ y) (q2 : y ≤ 1125899906842624) (h : x - y < -1125899906842624 ∨ 1125899906842624 < x - y) :
    Calls Try.prog 54 #[.pointer (some ⟨b, 0, none⟩), .agg #[.int .i64 3, .int .i64 n]] w fun e w' => e = over ∧ Below B w w' := by
  have hlt := hp.lt
  have hle := hp.le
  have H := Lib.hid h
  clear h
  go_enter Try.func54, Try.ntmps54
  go_wp2_with fail
  refine (pop_ok B b (xs ++ [x]) y _ (by simpa using hp.alloc _) (by simp; omega) (by simp; omega)).mono ?_
  rintro e w1 ⟨rfl, hp1, hb1, hg1⟩
  have c1 : w1.cell? ⟨w.heap.size, 0, none⟩ = some (.int .i64 3) := (hg1.cell_far ⟨w.heap.size, 0, none⟩ (by simp) (by simp; omega)).trans (by go_simp)
  have hs1 := hb1.size
  simp only [World.size_alloc] at hs1
  go_wp2_with fail
  refine (pop_ok B b xs x _ hp1 (by omega) (by omega)).mono ?_
  rintro e w2 ⟨rfl, hp2, hb2, hg2⟩
  have c2 : w2.cell? ⟨w.heap.size, 0, none⟩ = some (.int .i64 3) := (hg2.cell_far ⟨w.heap.size, 0, none⟩ (by simp; omega) (by simp; omega)).trans c1
  have hs2 := hb2.size
  have hb : Below B w w2 := (((Below.refl _ _).alloc hB _).trans hb1).trans hb2
  clear c1
  go_wp2_with (go_at_call 67; refine (sub_over2 x y _ p1 p2 q1 q2 H.out).mono ?_; rintro e w' ⟨rfl, rfl⟩)
  exact ⟨rfl, rfl, hb⟩
set_option maxRecDepth 20000 in
set_option maxHeartbeats 1000000 in
theorem step4_ok (B b : Nat) (xs : List Int) (n x y : Int) (w : World) (hB : B ≤ w.heap.size) (hl : xs.length ≤ 990) (hp : Pile B b (xs ++ [x, y]) w) (p1 : -1125899906842624 ≤ x) (p2 : x ≤ 1125899906842624) (q1 : -1125899906842624 ≤ y) (q2 : y ≤ 1125899906842624) (r1 : -1125899906842624 ≤ x * y) (r2 : x * y ≤ 1125899906842624) :
    Calls Try.prog 54 #[.pointer (some ⟨b, 0, none⟩), .agg #[.int .i64 4, .int .i64 n]] w fun e w' => e = .returned (.tuple #[]) ∧ Pile B b (xs ++ [x * y]) w' ∧ Below B w w' := by
  have hlt := hp.lt
  have hle := hp.le
  go_enter Try.func54, Try.ntmps54
  go_wp2_with fail
  refine (pop_ok B b (xs ++ [x]) y _ (by simpa using hp.alloc _) (by simp; omega) (by simp; omega)).mono ?_
  rintro e w1 ⟨rfl, hp1, hb1, hg1⟩
  have c1 : w1.cell? ⟨w.heap.size, 0, none⟩ = some (.int .i64 4) := (hg1.cell_far ⟨w.heap.size, 0, none⟩ (by simp) (by simp; omega)).trans (by go_simp)
  have hs1 := hb1.size
  simp only [World.size_alloc] at hs1
  go_wp2_with fail
  refine (pop_ok B b xs x _ hp1 (by omega) (by omega)).mono ?_
  rintro e w2 ⟨rfl, hp2, hb2, hg2⟩
  have c2 : w2.cell? ⟨w.heap.size, 0, none⟩ = some (.int .i64 4) := (hg2.cell_far ⟨w.heap.size, 0, none⟩ (by simp; omega) (by simp; omega)).trans c1
  have hs2 := hb2.size
  have hb : Below B w w2 := (((Below.refl _ _).alloc hB _).trans hb1).trans hb2
  clear c1
  go_wp2_with (go_at_call 65; refine (mul_ok x y _ p1 p2 q1 q2 r1 r2).mono ?_; rintro e w' ⟨rfl, rfl⟩)
  refine (push_ok B b xs (x * y) _ hp2 (by omega) (by omega) (by omega) (by omega)).mono ?_
  rintro e w3 ⟨rfl, hp3, hb3⟩
  go_wp2
  go_returns
  exact ⟨rfl, hp3, hb.trans hb3⟩
set_option maxRecDepth 20000 in
set_option maxHeartbeats 1000000 in
theorem step4_over (B b : Nat) (xs : List Int) (n x y : Int) (w : World) (hB : B ≤ w.heap.size) (hl : xs.length ≤ 990) (hp : Pile B b (xs ++ [x, y]) w) (p1 : -1125899906842624 ≤ x) (p2 : x ≤ 1125899906842624) (q1 : -1125899906842624 ≤ y) (q2 : y ≤ 1125899906842624) (h : x * y < -1125899906842624 ∨ 1125899906842624 < x * y) :
    Calls Try.prog 54 #[.pointer (some ⟨b, 0, none⟩), .agg #[.int .i64 4, .int .i64 n]] w fun e w' => e = over ∧ Below B w w' := by
  have hlt := hp.lt
  have hle := hp.le
  have H := Lib.hid h
  clear h
  go_enter Try.func54, Try.ntmps54
  go_wp2_with fail
  refine (pop_ok B b (xs ++ [x]) y _ (by simpa using hp.alloc _) (by simp; omega) (by simp; omega)).mono ?_
  rintro e w1 ⟨rfl, hp1, hb1, hg1⟩
  have c1 : w1.cell? ⟨w.heap.size, 0, none⟩ = some (.int .i64 4) := (hg1.cell_far ⟨w.heap.size, 0, none⟩ (by simp) (by simp; omega)).trans (by go_simp)
  have hs1 := hb1.size
  simp only [World.size_alloc] at hs1
  go_wp2_with fail
  refine (pop_ok B b xs x _ hp1 (by omega) (by omega)).mono ?_
  rintro e w2 ⟨rfl, hp2, hb2, hg2⟩
  have c2 : w2.cell? ⟨w.heap.size, 0, none⟩ = some (.int .i64 4) := (hg2.cell_far ⟨w.heap.size, 0, none⟩ (by simp; omega) (by simp; omega)).trans c1
  have hs2 := hb2.size
  have hb : Below B w w2 := (((Below.refl _ _).alloc hB _).trans hb1).trans hb2
  clear c1
  go_wp2_with (go_at_call 65; refine (mul_over2 x y _ p1 p2 q1 q2 H.out).mono ?_; rintro e w' ⟨rfl, rfl⟩)
  exact ⟨rfl, rfl, hb⟩
set_option maxRecDepth 20000 in
set_option maxHeartbeats 1000000 in
theorem step5_ok (B b : Nat) (xs : List Int) (n x y : Int) (w : World) (hB : B ≤ w.heap.size) (hl : xs.length ≤ 990) (hp : Pile B b (xs ++ [x, y]) w) (p1 : -1125899906842624 ≤ x) (p2 : x ≤ 1125899906842624) (q1 : -1125899906842624 ≤ y) (q2 : y ≤ 1125899906842624) :
    Calls Try.prog 54 #[.pointer (some ⟨b, 0, none⟩), .agg #[.int .i64 5, .int .i64 n]] w fun e w' => e = .returned (.tuple #[]) ∧ Pile B b (xs ++ [if y < x then y else x]) w' ∧ Below B w w' := by
  have hlt := hp.lt
  have hle := hp.le
  by_cases hc : y < x
  · rw [if_pos hc]
    go_enter Try.func54, Try.ntmps54
    go_wp2_with fail
    refine (pop_ok B b (xs ++ [x]) y _ (by simpa using hp.alloc _) (by simp; omega) (by simp; omega)).mono ?_
    rintro e w1 ⟨rfl, hp1, hb1, hg1⟩
    have c1 : w1.cell? ⟨w.heap.size, 0, none⟩ = some (.int .i64 5) := (hg1.cell_far ⟨w.heap.size, 0, none⟩ (by simp) (by simp; omega)).trans (by go_simp)
    have hs1 := hb1.size
    simp only [World.size_alloc] at hs1
    go_wp2_with fail
    refine (pop_ok B b xs x _ hp1 (by omega) (by omega)).mono ?_
    rintro e w2 ⟨rfl, hp2, hb2, hg2⟩
    have c2 : w2.cell? ⟨w.heap.size, 0, none⟩ = some (.int .i64 5) := (hg2.cell_far ⟨w.heap.size, 0, none⟩ (by simp; omega) (by simp; omega)).trans c1
    have hs2 := hb2.size
    have hb : Below B w w2 := (((Below.refl _ _).alloc hB _).trans hb1).trans hb2
    clear c1
    go_wp2_with fail
    refine (push_ok B b xs (y) _ hp2 (by omega) (by omega) (by omega) (by omega)).mono ?_
    rintro e w3 ⟨rfl, hp3, hb3⟩
    go_wp2
    go_returns
    exact ⟨rfl, hp3, hb.trans hb3⟩
  · rw [if_neg hc]
    go_enter Try.func54, Try.ntmps54
    go_wp2_with fail
    refine (pop_ok B b (xs ++ [x]) y _ (by simpa using hp.alloc _) (by simp; omega) (by simp; omega)).mono ?_
    rintro e w1 ⟨rfl, hp1, hb1, hg1⟩
    have c1 : w1.cell? ⟨w.heap.size, 0, none⟩ = some (.int .i64 5) := (hg1.cell_far ⟨w.heap.size, 0, none⟩ (by simp) (by simp; omega)).trans (by go_simp)
    have hs1 := hb1.size
    simp only [World.size_alloc] at hs1
    go_wp2_with fail
    refine (pop_ok B b xs x _ hp1 (by omega) (by omega)).mono ?_
    rintro e w2 ⟨rfl, hp2, hb2, hg2⟩
    have c2 : w2.cell? ⟨w.heap.size, 0, none⟩ = some (.int .i64 5) := (hg2.cell_far ⟨w.heap.size, 0, none⟩ (by simp; omega) (by simp; omega)).trans c1
    have hs2 := hb2.size
    have hb : Below B w w2 := (((Below.refl _ _).alloc hB _).trans hb1).trans hb2
    clear c1
    go_wp2_with fail
    refine (push_ok B b xs (x) _ hp2 (by omega) (by omega) (by omega) (by omega)).mono ?_
    rintro e w3 ⟨rfl, hp3, hb3⟩
    go_wp2
    go_returns
    exact ⟨rfl, hp3, hb.trans hb3⟩
set_option maxRecDepth 20000 in
set_option maxHeartbeats 1000000 in
theorem step6_ok (B b : Nat) (xs : List Int) (n x y : Int) (w : World) (hB : B ≤ w.heap.size) (hl : xs.length ≤ 990) (hp : Pile B b (xs ++ [x, y]) w) (p1 : -1125899906842624 ≤ x) (p2 : x ≤ 1125899906842624) (q1 : -1125899906842624 ≤ y) (q2 : y ≤ 1125899906842624) :
    Calls Try.prog 54 #[.pointer (some ⟨b, 0, none⟩), .agg #[.int .i64 6, .int .i64 n]] w fun e w' => e = .returned (.tuple #[]) ∧ Pile B b (xs ++ [if x < y then y else x]) w' ∧ Below B w w' := by
  have hlt := hp.lt
  have hle := hp.le
  by_cases hc : x < y
  · rw [if_pos hc]
    go_enter Try.func54, Try.ntmps54
    go_wp2_with fail
    refine (pop_ok B b (xs ++ [x]) y _ (by simpa using hp.alloc _) (by simp; omega) (by simp; omega)).mono ?_
    rintro e w1 ⟨rfl, hp1, hb1, hg1⟩
    have c1 : w1.cell? ⟨w.heap.size, 0, none⟩ = some (.int .i64 6) := (hg1.cell_far ⟨w.heap.size, 0, none⟩ (by simp) (by simp; omega)).trans (by go_simp)
    have hs1 := hb1.size
    simp only [World.size_alloc] at hs1
    go_wp2_with fail
    refine (pop_ok B b xs x _ hp1 (by omega) (by omega)).mono ?_
    rintro e w2 ⟨rfl, hp2, hb2, hg2⟩
    have c2 : w2.cell? ⟨w.heap.size, 0, none⟩ = some (.int .i64 6) := (hg2.cell_far ⟨w.heap.size, 0, none⟩ (by simp; omega) (by simp; omega)).trans c1
    have hs2 := hb2.size
    have hb : Below B w w2 := (((Below.refl _ _).alloc hB _).trans hb1).trans hb2
    clear c1
    go_wp2_with fail
    refine (push_ok B b xs (y) _ hp2 (by omega) (by omega) (by omega) (by omega)).mono ?_
    rintro e w3 ⟨rfl, hp3, hb3⟩
    go_wp2
    go_returns
    exact ⟨rfl, hp3, hb.trans hb3⟩
  · rw [if_neg hc]
    go_enter Try.func54, Try.ntmps54
    go_wp2_with fail
    refine (pop_ok B b (xs ++ [x]) y _ (by simpa using hp.alloc _) (by simp; omega) (by simp; omega)).mono ?_
    rintro e w1 ⟨rfl, hp1, hb1, hg1⟩
    have c1 : w1.cell? ⟨w.heap.size, 0, none⟩ = some (.int .i64 6) := (hg1.cell_far ⟨w.heap.size, 0, none⟩ (by simp) (by simp; omega)).trans (by go_simp)
    have hs1 := hb1.size
    simp only [World.size_alloc] at hs1
    go_wp2_with fail
    refine (pop_ok B b xs x _ hp1 (by omega) (by omega)).mono ?_
    rintro e w2 ⟨rfl, hp2, hb2, hg2⟩
    have c2 : w2.cell? ⟨w.heap.size, 0, none⟩ = some (.int .i64 6) := (hg2.cell_far ⟨w.heap.size, 0, none⟩ (by simp; omega) (by simp; omega)).trans c1
    have hs2 := hb2.size
    have hb : Below B w w2 := (((Below.refl _ _).alloc hB _).trans hb1).trans hb2
    clear c1
    go_wp2_with fail
    refine (push_ok B b xs (x) _ hp2 (by omega) (by omega) (by omega) (by omega)).mono ?_
    rintro e w3 ⟨rfl, hp3, hb3⟩
    go_wp2
    go_returns
    exact ⟨rfl, hp3, hb.trans hb3⟩
set_option maxRecDepth 20000 in
set_option maxHeartbeats 1000000 in
theorem step2_none (B b : Nat) (xs : List Int) (n _x _y : Int) (w : World) (hB : B ≤ w.heap.size) (_hl : xs.length ≤ 990) (hp : Pile B b ([]) w)  :
    Calls Try.prog 54 #[.pointer (some ⟨b, 0, none⟩), .agg #[.int .i64 2, .int .i64 n]] w fun e w' => e = argE ∧ Below B w w' := by
  have hlt := hp.lt
  have hle := hp.le
  go_enter Try.func54, Try.ntmps54
  go_wp2_with fail
  refine (pop_empty B b _ (hp.alloc _)).mono ?_
  rintro e w1 ⟨rfl, rfl⟩
  exact ⟨rfl, rfl, (Below.refl _ _).alloc hB _⟩
set_option maxRecDepth 20000 in
set_option maxHeartbeats 1000000 in
theorem step2_one (B b : Nat) (xs : List Int) (n x _y : Int) (w : World) (hB : B ≤ w.heap.size) (_hl : xs.length ≤ 990) (hp : Pile B b ([x]) w)  :
    Calls Try.prog 54 #[.pointer (some ⟨b, 0, none⟩), .agg #[.int .i64 2, .int .i64 n]] w fun e w' => e = argE ∧ Below B w w' := by
  have hlt := hp.lt
  have hle := hp.le
  go_enter Try.func54, Try.ntmps54
  go_wp2_with fail
  refine (pop_ok B b [] x _ (hp.alloc _) (by simp; omega) (by simp)).mono ?_
  rintro e w1 ⟨rfl, hp1, hb1, hg1⟩
  go_wp2_with fail
  refine (pop_empty B b _ hp1).mono ?_
  rintro e w2 ⟨rfl, rfl⟩
  exact ⟨rfl, rfl, ((Below.refl _ _).alloc hB _).trans hb1⟩
set_option maxRecDepth 20000 in
set_option maxHeartbeats 1000000 in
theorem step3_none (B b : Nat) (xs : List Int) (n _x _y : Int) (w : World) (hB : B ≤ w.heap.size) (_hl : xs.length ≤ 990) (hp : Pile B b ([]) w)  :
    Calls Try.prog 54 #[.pointer (some ⟨b, 0, none⟩), .agg #[.int .i64 3, .int .i64 n]] w fun e w' => e = argE ∧ Below B w w' := by
  have hlt := hp.lt
  have hle := hp.le
  go_enter Try.func54, Try.ntmps54
  go_wp2_with fail
  refine (pop_empty B b _ (hp.alloc _)).mono ?_
  rintro e w1 ⟨rfl, rfl⟩
  exact ⟨rfl, rfl, (Below.refl _ _).alloc hB _⟩
set_option maxRecDepth 20000 in
set_option maxHeartbeats 1000000 in
theorem step3_one (B b : Nat) (xs : List Int) (n x _y : Int) (w : World) (hB : B ≤ w.heap.size) (_hl : xs.length ≤ 990) (hp : Pile B b ([x]) w)  :
    Calls Try.prog 54 #[.pointer (some ⟨b, 0, none⟩), .agg #[.int .i64 3, .int .i64 n]] w fun e w' => e = argE ∧ Below B w w' := by
  have hlt := hp.lt
  have hle := hp.le
  go_enter Try.func54, Try.ntmps54
  go_wp2_with fail
  refine (pop_ok B b [] x _ (hp.alloc _) (by simp; omega) (by simp)).mono ?_
  rintro e w1 ⟨rfl, hp1, hb1, hg1⟩
  go_wp2_with fail
  refine (pop_empty B b _ hp1).mono ?_
  rintro e w2 ⟨rfl, rfl⟩
  exact ⟨rfl, rfl, ((Below.refl _ _).alloc hB _).trans hb1⟩
set_option maxRecDepth 20000 in
set_option maxHeartbeats 1000000 in
theorem step4_none (B b : Nat) (xs : List Int) (n _x _y : Int) (w : World) (hB : B ≤ w.heap.size) (_hl : xs.length ≤ 990) (hp : Pile B b ([]) w)  :
    Calls Try.prog 54 #[.pointer (some ⟨b, 0, none⟩), .agg #[.int .i64 4, .int .i64 n]] w fun e w' => e = argE ∧ Below B w w' := by
  have hlt := hp.lt
  have hle := hp.le
  go_enter Try.func54, Try.ntmps54
  go_wp2_with fail
  refine (pop_empty B b _ (hp.alloc _)).mono ?_
  rintro e w1 ⟨rfl, rfl⟩
  exact ⟨rfl, rfl, (Below.refl _ _).alloc hB _⟩
set_option maxRecDepth 20000 in
set_option maxHeartbeats 1000000 in
theorem step4_one (B b : Nat) (xs : List Int) (n x _y : Int) (w : World) (hB : B ≤ w.heap.size) (_hl : xs.length ≤ 990) (hp : Pile B b ([x]) w)  :
    Calls Try.prog 54 #[.pointer (some ⟨b, 0, none⟩), .agg #[.int .i64 4, .int .i64 n]] w fun e w' => e = argE ∧ Below B w w' := by
  have hlt := hp.lt
  have hle := hp.le
  go_enter Try.func54, Try.ntmps54
  go_wp2_with fail
  refine (pop_ok B b [] x _ (hp.alloc _) (by simp; omega) (by simp)).mono ?_
  rintro e w1 ⟨rfl, hp1, hb1, hg1⟩
  go_wp2_with fail
  refine (pop_empty B b _ hp1).mono ?_
  rintro e w2 ⟨rfl, rfl⟩
  exact ⟨rfl, rfl, ((Below.refl _ _).alloc hB _).trans hb1⟩
set_option maxRecDepth 20000 in
set_option maxHeartbeats 1000000 in
theorem step5_none (B b : Nat) (xs : List Int) (n _x _y : Int) (w : World) (hB : B ≤ w.heap.size) (_hl : xs.length ≤ 990) (hp : Pile B b ([]) w)  :
    Calls Try.prog 54 #[.pointer (some ⟨b, 0, none⟩), .agg #[.int .i64 5, .int .i64 n]] w fun e w' => e = argE ∧ Below B w w' := by
  have hlt := hp.lt
  have hle := hp.le
  go_enter Try.func54, Try.ntmps54
  go_wp2_with fail
  refine (pop_empty B b _ (hp.alloc _)).mono ?_
  rintro e w1 ⟨rfl, rfl⟩
  exact ⟨rfl, rfl, (Below.refl _ _).alloc hB _⟩
set_option maxRecDepth 20000 in
set_option maxHeartbeats 1000000 in
theorem step5_one (B b : Nat) (xs : List Int) (n x _y : Int) (w : World) (hB : B ≤ w.heap.size) (_hl : xs.length ≤ 990) (hp : Pile B b ([x]) w)  :
    Calls Try.prog 54 #[.pointer (some ⟨b, 0, none⟩), .agg #[.int .i64 5, .int .i64 n]] w fun e w' => e = argE ∧ Below B w w' := by
  have hlt := hp.lt
  have hle := hp.le
  go_enter Try.func54, Try.ntmps54
  go_wp2_with fail
  refine (pop_ok B b [] x _ (hp.alloc _) (by simp; omega) (by simp)).mono ?_
  rintro e w1 ⟨rfl, hp1, hb1, hg1⟩
  go_wp2_with fail
  refine (pop_empty B b _ hp1).mono ?_
  rintro e w2 ⟨rfl, rfl⟩
  exact ⟨rfl, rfl, ((Below.refl _ _).alloc hB _).trans hb1⟩
set_option maxRecDepth 20000 in
set_option maxHeartbeats 1000000 in
theorem step6_none (B b : Nat) (xs : List Int) (n _x _y : Int) (w : World) (hB : B ≤ w.heap.size) (_hl : xs.length ≤ 990) (hp : Pile B b ([]) w)  :
    Calls Try.prog 54 #[.pointer (some ⟨b, 0, none⟩), .agg #[.int .i64 6, .int .i64 n]] w fun e w' => e = argE ∧ Below B w w' := by
  have hlt := hp.lt
  have hle := hp.le
  go_enter Try.func54, Try.ntmps54
  go_wp2_with fail
  refine (pop_empty B b _ (hp.alloc _)).mono ?_
  rintro e w1 ⟨rfl, rfl⟩
  exact ⟨rfl, rfl, (Below.refl _ _).alloc hB _⟩
set_option maxRecDepth 20000 in
set_option maxHeartbeats 1000000 in
theorem step6_one (B b : Nat) (xs : List Int) (n x _y : Int) (w : World) (hB : B ≤ w.heap.size) (_hl : xs.length ≤ 990) (hp : Pile B b ([x]) w)  :
    Calls Try.prog 54 #[.pointer (some ⟨b, 0, none⟩), .agg #[.int .i64 6, .int .i64 n]] w fun e w' => e = argE ∧ Below B w w' := by
  have hlt := hp.lt
  have hle := hp.le
  go_enter Try.func54, Try.ntmps54
  go_wp2_with fail
  refine (pop_ok B b [] x _ (hp.alloc _) (by simp; omega) (by simp)).mono ?_
  rintro e w1 ⟨rfl, hp1, hb1, hg1⟩
  go_wp2_with fail
  refine (pop_empty B b _ hp1).mono ?_
  rintro e w2 ⟨rfl, rfl⟩
  exact ⟨rfl, rfl, ((Below.refl _ _).alloc hB _).trans hb1⟩
end Go.Proofs.Ythmglahcampllaa
