/- What is proved here: words and slices that came in read as numbers and lists. Condition: they are the law's parameters. -/
import Derived.Test.YtijgopcddjnfdaaFd
import Derived.Test.YtijgopcddjnfdaaFr
import Derived.ChangeSame
import Derived.ChangeSlices
namespace Go.Proofs.Ytijgopcddjnfdaa
open Go Go.RowKit Go.ChangeShapes Go.WideShapes Go.ChangeAt Go.Deep

theorem wd_of {x : Int} (h : (Lit.int .u64 x).wf = true) : ∃ n : Nat, x = (n : Int) ∧ Fl.W64 n := by
  simp only [Lit.wf, Bool.and_eq_true, decide_eq_true_eq] at h
  have h1 : 0 ≤ x := h.1
  have h2 : x ≤ 18446744073709551615 := h.2
  exact ⟨x.toNat, by omega, by unfold Fl.W64; omega⟩
theorem cell_block {w : World} {a : Addr} {v : Value} (h : w.cell? a = some v) : a.block < w.heap.size := by
  rcases Nat.lt_or_ge a.block w.heap.size with hl | hl
  · exact hl
  · have : w.heap[a.block]? = none := Array.getElem?_eq_none hl
    unfold World.cell? at h
    simp [this] at h
theorem rd_num {H : Type} {enc : TypeId × Value → H} {W : World} {base : Nat} {v : Value} {d : DataW H} {ps : List MemPlace} {t e : TypeId} {k : IntKind} (ht : Try.prog.underlying t = some (.slice e)) (he : Try.prog.underlying e = some (.int k)) (h1 : Try.prog.cellsOf e = 1)
    (hval : Value.okWide Try.prog W .any base t v) (h : DataW.Trod enc Try.prog W 0 (fun _ => true) true t v d ps) : ∃ xs : List Int, Rd (Value.int k) v xs W ∧ ∀ x ∈ xs, (Lit.int k x).wf = true := by
  obtain ⟨a0, len, cap, rfl⟩ := okWide_slice ht hval
  obtain ⟨fuel, hf⟩ := h
  rcases open_ints ht he h1 hf with ⟨hcs, hx⟩ | ⟨a, len', cap', zs, hcs, _, hl, hm, hlen, hx, hall, hwf⟩
  · simp [Value.cells] at hcs
    obtain ⟨rfl, rfl, rfl⟩ := hcs
    exact ⟨[], .inl ⟨rfl, rfl⟩, by simp⟩
  · simp [Value.cells] at hcs
    obtain ⟨rfl, rfl, rfl⟩ := hcs
    have hlen : zs.length = cap := hlen
    have htl : (zs.take len).length = len := by rw [List.length_take]; omega
    have hel : ∀ i (h : i < (zs.take len).length), W.cell? (a.add i) = some (.int k (zs.take len)[i]) := by
      intro i hi
      have := hall i (by omega)
      rw [List.getD_eq_getElem?_getD, List.getElem?_eq_getElem (by omega)] at this
      rw [List.getElem_take]
      exact this
    refine ⟨zs.take len, .inr ⟨a, cap, by rw [htl], fun h0 => ?_, by rw [htl]; exact hl, hm, hel⟩, fun x hx => hwf x (List.mem_of_mem_take hx)⟩
    have := cell_block (hel 0 h0)
    rwa [add_block] at this
theorem rd_ints {H : Type} {enc : TypeId × Value → H} {W : World} {base : Nat} {v : Value} {d : DataW H} {ps : List MemPlace} (hval : Value.okWide Try.prog W .any base 54 v)
    (h : DataW.Trod enc Try.prog W 0 (fun _ => true) true 54 v d ps) : ∃ xs : List Int, Rd INT v xs W := by
  obtain ⟨xs, h, _⟩ := rd_num Try.underlying54 Try.underlying3 (by kernel_rfl) hval h
  exact ⟨xs, h⟩
theorem rd_words {H : Type} {enc : TypeId × Value → H} {W : World} {base : Nat} {v : Value} {d : DataW H} {ps : List MemPlace} (hval : Value.okWide Try.prog W .any base 29 v)
    (h : DataW.Trod enc Try.prog W 0 (fun _ => true) true 29 v d ps) : ∃ xs : List Nat, Rd WRD v xs W ∧ ∀ x ∈ xs, Fl.W64 x := by
  obtain ⟨xs, h, hw⟩ := rd_num Try.underlying29 Try.underlying22 (by kernel_rfl) hval h
  have hx : ∀ x ∈ xs, ((x.toNat : Nat) : Int) = x ∧ Fl.W64 x.toNat := fun x hx => by
    obtain ⟨n, rfl, hn⟩ := wd_of (hw x hx)
    exact ⟨by simp, by simpa using hn⟩
  refine ⟨xs.map Int.toNat, ?_, fun x hm => ?_⟩
  · rcases h with ⟨rfl, rfl⟩ | ⟨a, cap, hv, hg, h1, h2, hc⟩
    · exact .inl ⟨rfl, rfl⟩
    · refine .inr ⟨a, cap, by simpa using hv, fun h0 => hg (by simpa using h0), by simpa using h1, h2, fun i hi => ?_⟩
      have hi' : i < xs.length := by simpa using hi
      rw [hc i hi', List.getElem_map]
      unfold WRD
      rw [(hx _ (List.getElem_mem hi')).1]
  · obtain ⟨y, hy, rfl⟩ := List.mem_map.1 hm
    exact (hx y hy).2
end Go.Proofs.Ytijgopcddjnfdaa
