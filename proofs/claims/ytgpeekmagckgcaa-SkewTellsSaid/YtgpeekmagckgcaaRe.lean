/- What is proved here: an estimate that came in reads as a Bool and three numbers. Condition: it is the law's parameter. -/
import Derived.Test.YtgpeekmagckgcaaRows
import Derived.Test.YtgpeekmagckgcaaFr
namespace Go.Proofs.Ytgpeekmagckgcaa
open Go Go.RowKit Go.ChangeShapes Go.WideShapes Go.ChangeAt

set_option maxRecDepth 100000 in
theorem open_est {H : Type} {enc : TypeId × Value → H} {W : World} {base : Nat} {v : Value} {d : DataW H} {ps : List MemPlace} (hval : Value.okWide Try.prog W .any base 71 v)
    (h : DataW.Trod enc Try.prog W 0 (fun _ => true) true 71 v d ps) : ∃ (k : Bool) (a b z : Int), v = .agg #[.bool k, .int .i64 a, .int .i64 b, .int .i64 z] := by
  obtain ⟨cs, rfl, hsz⟩ := okWide_struct Try.underlying71 hval
  have h4 : Try.prog.cellsOf 71 = 4 := by kernel_rfl
  obtain ⟨l⟩ := cs
  match l, hsz.trans h4 with
  | [c0, c1, c2, c3], _ =>
    obtain ⟨fuel, hf⟩ := h
    obtain ⟨xs, n, _, hx, _, hlen, hg⟩ := DataW.trod_struct Try.underlying71 hf
    have hlen : xs.length = 3 := hlen
    match xs, hlen with
    | [y0, y1, y2], _ =>
      have c4 : Try.prog.cellsOf 4 = 1 := by kernel_rfl
      have c3' : Try.prog.cellsOf 3 = 1 := by kernel_rfl
      have c23 : Try.prog.cellsOf 23 = 2 := by kernel_rfl
      have e0 := hg 0 _ rfl
      have e1 := hg 1 _ rfl
      have e2 := hg 2 _ rfl
      obtain ⟨k, h0, _⟩ := DataW.trod_bool Try.underlying4 (e0.trans rfl)
      obtain ⟨z, h2, _⟩ := DataW.trod_int Try.underlying3 (e2.trans rfl)
      obtain ⟨ys, n', _, hx', _, hlen', hg'⟩ := DataW.trod_struct Try.underlying23 (e1.trans rfl)
      have hlen' : ys.length = 2 := hlen'
      match ys, hlen' with
      | [q0, q1], _ =>
        have f0 := hg' 0 _ rfl
        have f1 := hg' 1 _ rfl
        obtain ⟨a, g0, _⟩ := DataW.trod_int Try.underlying3 (f0.trans rfl)
        obtain ⟨b, g1, _⟩ := DataW.trod_int Try.underlying3 (f1.trans rfl)
        have k0 : c0 = .bool k := by simpa [c4, Value.cells] using h0
        have k1 : c1 = .int .i64 a := by simpa [c3', c23, Value.cells] using g0
        have k2 : c2 = .int .i64 b := by simpa [c3', c23, Value.cells] using g1
        have k3 : c3 = .int .i64 z := by simpa [c3', Value.cells] using h2
        exact ⟨k, a, b, z, by rw [k0, k1, k2, k3]⟩
end Go.Proofs.Ytgpeekmagckgcaa
