/- What is proved here: a slice of operations that came in reads as a list of pairs. Condition: it is the law's parameter. -/
import Derived.Test.YthmglahcampllaaTj
import Derived.Test.YthmglahcampllaaFr
import Derived.Deep.SlicePairs
namespace Go.Proofs.Ythmglahcampllaa
open Go Go.RowKit Go.ChangeShapes Go.WideShapes Go.ChangeAt

theorem cell_block {w : World} {a : Addr} {v : Value} (h : w.cell? a = some v) : a.block < w.heap.size := by
  rcases Nat.lt_or_ge a.block w.heap.size with hl | hl
  · exact hl
  · have : w.heap[a.block]? = none := Array.getElem?_eq_none hl
    unfold World.cell? at h
    simp [this] at h

def num : Value → Int
  | .int _ n => n
  | _ => 0

set_option maxRecDepth 100000 in
theorem reads_of {H : Type} {enc : TypeId × Value → H} {W : World} {base : Nat} {v : Value} {d : DataW H} {ps : List MemPlace} (hval : Value.okWide Try.prog W .any base 33 v)
    (h : DataW.Trod enc Try.prog W 0 (fun _ => true) true 33 v d ps) : ∃ os, Reads v os W := by
  obtain ⟨a0, len, cap, rfl⟩ := okWide_slice Try.underlying33 hval
  obtain ⟨fuel, hf⟩ := h
  rcases Go.Deep.open_slice_pairs Try.underlying33 Try.underlying91 (by kernel_rfl) rfl rfl (by kernel_rfl) (by kernel_rfl) hf with ⟨hcs, hx⟩ | ⟨a, len', cap', m, n, V0, V1, D0, D1, P0, P1, hcs, _, hl, hm, hmm, hx, hall⟩
  · simp [Value.cells] at hcs
    obtain ⟨rfl, rfl, rfl⟩ := hcs
    exact ⟨[], .inl ⟨rfl, rfl⟩⟩
  · simp [Value.cells] at hcs
    obtain ⟨rfl, rfl, rfl⟩ := hcs
    have hlm : len ≤ m := by rw [hmm]; simpa using hl
    have hel : ∀ i, i < len → W.cell? (a.add (i * 2)) = some (.int .i64 (num (V0 i))) ∧ W.cell? (a.add (i * 2 + 1)) = some (.int .i64 (num (V1 i))) := by
      intro i hi
      obtain ⟨c0, c1, t0, t1⟩ := hall i (by omega)
      obtain ⟨n0, e0, _⟩ := DataW.trod_int Try.underlying3 t0
      obtain ⟨n1, e1, _⟩ := DataW.trod_int Try.underlying3 t1
      simp only [List.cons.injEq, and_true] at e0 e1
      rw [c0, c1, e0, e1]
      exact ⟨rfl, rfl⟩
    refine ⟨(List.range len).map fun i => (num (V0 i), num (V1 i)), .inr ⟨a, cap, by simp, fun h0 => ?_, by simpa using hl, hm, fun i hi => ?_⟩⟩
    · have := cell_block (hel 0 (by simpa using h0)).1
      rwa [add_block] at this
    · have hi' : i < len := by simpa using hi
      simpa using hel i hi'

set_option maxRecDepth 20000 in
set_option maxHeartbeats 2000000 in
theorem law4 (v : Value) (os : List (Int × Int)) (W : World) (h : Reads v os W) : Calls Try.prog 4 #[v] W fun e W' => e = .returned (.bool true) ∧ Below W.heap.size W W' := by
  have hb0 := Below.refl W.heap.size W
  obtain ⟨ao, c, rfl⟩ : ∃ ao c, v = .slice ao os.length c := by
    rcases h with ⟨rfl, rfl⟩ | ⟨a, cap, rfl, _⟩
    · exact ⟨none, 0, rfl⟩
    · exact ⟨_, _, rfl⟩
  have H := Lib.hid h
  clear h
  by_cases hl : 80 < os.length
  · have hd : decide (80 < (os.length : Int)) = true := by simp; omega
    go_enter Try.func4, Try.ntmps4
    go_wp2_with (go_at_call 17; refine (awake_b (by assumption)).mono ?_; rintro e w' ⟨rfl, _⟩)
    go_ret
    exact ⟨rfl, by assumption⟩
  · have hd : decide (80 < (os.length : Int)) = false := by simp; omega
    go_enter Try.func4, Try.ntmps4
    go_wp2_with fail
    refine (mine_b _ os H.out (by omega) hb0).mono ?_
    rintro e w1 ⟨u, rfl, hb1, _, hown⟩
    have HO := Lib.hid (ops_of_own hown)
    clear hown
    go_wp2_with fail
    refine (eval_b _ os HO.out hb1).mono ?_
    rintro e w2 ⟨rfl, hb2⟩
    go_wp2_with fail
    refine (reval_b _ os (H.out.kept hb2) hb2).mono ?_
    rintro e w3 ⟨rfl, hb3⟩
    go_wp2_with (go_at_call 17; refine (awake_b (by assumption)).mono ?_; rintro e w' ⟨rfl, _⟩)
    go_ret
    exact ⟨rfl, by assumption⟩
end Go.Proofs.Ythmglahcampllaa
