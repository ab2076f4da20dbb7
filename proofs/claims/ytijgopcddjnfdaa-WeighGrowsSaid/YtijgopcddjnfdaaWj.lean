/- What is proved here: the example of chapter 18. Condition: none. -/
import Derived.Test.YtijgopcddjnfdaaWi
namespace Go.Proofs.Ytijgopcddjnfdaa
open Go Go.RowKit
attribute [local go_sem] KW.cell KW.frozen
namespace Fl
theorem wj1 : walkP [4609434218613702656, 4611686018427387904] [0, 1] = 4615063718147915776 := by kernel_rfl
theorem wj2 : upB [4609434218613702656, 4611686018427387904] 1 = true := by kernel_rfl
theorem wj3 : upB [4609434218613702656, 4611686018427387904] 2 = false := by kernel_rfl
theorem wj4 : leastF [4609434218613702656, 4611686018427387904] [[1], [0]] 2 = 1 := by kernel_rfl
theorem wj5 : ([4609434218613702656, 4611686018427387904] : List Nat).map clean = [4609434218613702656, 4611686018427387904] := by kernel_rfl
theorem wj6 : ∀ x ∈ [4609434218613702656, 4611686018427387904], W64 x := by
  intro x hx
  simp only [List.mem_cons, List.not_mem_nil, or_false] at hx
  rcases hx with rfl | rfl <;> (unfold W64; decide)
end Fl
theorem rd_twoI (x y : Int) (w : World) : Rd INT (.slice (some ⟨w.heap.size, 0, none⟩) 2 2) [x, y] (w.alloc (.cells #[.int .i64 x, .int .i64 y] 3)) := by
  refine .inr ⟨⟨w.heap.size, 0, none⟩, 2, rfl, by simp, by simp, by decide, fun i hi => ?_⟩
  have hi' : i < 2 := by simpa using hi
  rw [add_head]
  match i, hi' with
  | 0, _ => exact block_cell (heap_alloc_new w _) 0
  | 1, _ => exact block_cell (heap_alloc_new w _) 1
theorem rd_oneI (x : Int) (w : World) : Rd INT (.slice (some ⟨w.heap.size, 0, none⟩) 1 1) [x] (w.alloc (.cells #[.int .i64 x] 3)) := by
  refine .inr ⟨⟨w.heap.size, 0, none⟩, 1, rfl, by simp, by simp, by decide, fun i hi => ?_⟩
  have hi' : i < 1 := by simpa using hi
  rw [add_head]
  match i, hi' with
  | 0, _ => exact block_cell (heap_alloc_new w _) 0
theorem rd_twoV (x y : Value) (w : World) : Rd (fun x : Value => x) (.slice (some ⟨w.heap.size, 0, none⟩) 2 2) [x, y] (w.alloc (.cells #[x, y] 54)) := by
  refine .inr ⟨⟨w.heap.size, 0, none⟩, 2, rfl, by simp, by simp, by decide, fun i hi => ?_⟩
  have hi' : i < 2 := by simpa using hi
  rw [add_head]
  match i, hi' with
  | 0, _ => exact block_cell (heap_alloc_new w _) 0
  | 1, _ => exact block_cell (heap_alloc_new w _) 1
theorem grow1 (w : World) (o : Obj) : Below w.heap.size w (w.alloc o) := (Below.refl _ _).alloc (Nat.le_refl _) _
theorem aww1 (w : World) : Calls Try.prog 41 #[.slice (some ⟨w.heap.size, 0, none⟩) 2 2, .slice (some ⟨w.heap.size + 1, 0, none⟩) 2 2]
    ((w.alloc (.cells #[.float .f64 4609434218613702656, .float .f64 4611686018427387904] 23)).alloc (.cells #[.int .i64 0, .int .i64 1] 3))
    fun e w' => e = .returned (.float .f64 4615063718147915776) ∧ Below w.heap.size w w' ∧ Rd FLT (.slice (some ⟨w.heap.size, 0, none⟩) 2 2) [4609434218613702656, 4611686018427387904] w' := by
  have h1 := rd_two 4609434218613702656 4611686018427387904 w
  generalize hw1 : w.alloc (.cells #[.float .f64 4609434218613702656, .float .f64 4611686018427387904] 23) = w1 at h1 ⊢
  have hb1 : Below w.heap.size w w1 := by rw [← hw1]; exact grow1 _ _
  have hs : w.heap.size + 1 = w1.heap.size := by rw [← hw1]; simp
  have h2 := rd_twoI 0 1 w1
  rw [hs]
  have hg := grow1 w1 (.cells #[.int .i64 0, .int .i64 1] 3)
  refine (walk_c _ _ [0, 1] _ _ (by decide) (by decide) (h1.kept hg) h2).mono ?_
  rintro e w' ⟨rfl, hb⟩
  rw [Fl.wj1]
  exact ⟨rfl, bon (bon hb1 hg) hb, (h1.kept hg).kept hb⟩
theorem aww2 (v : Value) (w : World) (h : Rd FLT v [4609434218613702656, 4611686018427387904] w) : Calls Try.prog 38 #[v, .slice (some ⟨w.heap.size + 2, 0, none⟩) 2 2]
    (((w.alloc (.cells #[.int .i64 1] 3)).alloc (.cells #[.int .i64 0] 3)).alloc (.cells #[.slice (some ⟨w.heap.size, 0, none⟩) 1 1, .slice (some ⟨w.heap.size + 1, 0, none⟩) 1 1] 54))
    fun e w' => e = .returned (.int .i64 1) ∧ Below w.heap.size w w' := by
  have h1 := rd_oneI 1 w
  have hb1 := grow1 w (.cells #[.int .i64 1] 3)
  generalize hw1 : w.alloc (.cells #[.int .i64 1] 3) = w1 at h1 hb1 ⊢
  have hs : w.heap.size + 1 = w1.heap.size := by rw [← hw1]; simp
  have h2 := rd_oneI 0 w1
  have hb2 := grow1 w1 (.cells #[.int .i64 0] 3)
  have h2' : Rd INT (.slice (some ⟨w.heap.size + 1, 0, none⟩) 1 1) [0] (w1.alloc (.cells #[.int .i64 0] 3)) := by rw [hs]; exact h2
  generalize hw2 : w1.alloc (.cells #[.int .i64 0] 3) = w2 at h2' hb2 ⊢
  have hs2 : w.heap.size + 2 = w2.heap.size := by rw [← hw2]; simp; omega
  have h3 := rd_twoV (.slice (some ⟨w.heap.size, 0, none⟩) 1 1) (.slice (some ⟨w.heap.size + 1, 0, none⟩) 1 1) w2
  have hb3 := grow1 w2 (.cells #[.slice (some ⟨w.heap.size, 0, none⟩) 1 1, .slice (some ⟨w.heap.size + 1, 0, none⟩) 1 1] 54)
  rw [hs2]
  have hh := (h.kept hb1).kept hb2 |>.kept hb3
  rw [← Fl.wj5] at hh
  refine (wleast_c v [4609434218613702656, 4611686018427387904] [[1], [0]] _ _ (by decide) (by decide) (by decide) hh ⟨_, h3, rfl, ?_⟩).mono ?_
  · intro i a b
    have hi : i < 2 := by simpa using b
    match i, hi with
    | 0, _ => exact (h1.kept hb2).kept hb3
    | 1, _ => exact h2'.kept hb3
  rintro e w' ⟨rfl, hb⟩
  exact ⟨by rw [show [[(1 : Int)], [0]].length = 2 from rfl, Fl.wj4], bon (bon (bon hb1 hb2) hb3) hb⟩
set_option maxRecDepth 100000 in
set_option maxHeartbeats 1000000 in
theorem wawake_c (w : World) : Calls Try.prog 36 #[] w fun e w' => e = .returned (.bool true) ∧ Below w.heap.size w w' := by
  have H1 := Lib.hid (aww1 w)
  go_enter Try.func36, Try.ntmps36
  go_wp2_with fail
  refine H1.out.mono ?_
  rintro e w1 ⟨rfl, hb1, hr⟩
  have hr5 := hr
  rw [← Fl.wj5] at hr5
  have H2 := Lib.hid (wup_c _ _ 1 w1 hr5 Fl.wj6)
  have H3 := Lib.hid (fun w2 (hb : Below w1.heap.size w1 w2) => wup_c _ _ 2 w2 (hr5.kept hb) Fl.wj6)
  rw [Fl.wj2] at H2
  rw [Fl.wj3] at H3
  clear hr5
  go_wp2_with fail
  refine H2.out.mono ?_
  rintro e w2 ⟨rfl, hb2⟩
  have h2 := H3.out w2 hb2
  have hr2 := hr.kept hb2
  go_wp2_with fail
  refine h2.mono ?_
  rintro e w3 ⟨rfl, hb3⟩
  have hr3 := hr2.kept hb3
  go_wp2_with fail
  refine (aww2 _ _ hr3).mono ?_
  rintro e w4 ⟨rfl, hb4⟩
  go_wp2_with fail
  go_ret
  exact ⟨rfl, bon (bon (bon hb1 hb2) hb3) hb4⟩
end Go.Proofs.Ytijgopcddjnfdaa
