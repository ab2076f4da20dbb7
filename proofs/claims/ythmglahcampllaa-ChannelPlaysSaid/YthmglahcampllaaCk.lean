/- What is proved here: a slice of deeds that came in reads as a list; the example of channels. Condition: it is a law's parameter. -/
import Derived.Test.YthmglahcampllaaCj
import Derived.Deep.Slices
import Derived.ChangeArms
import Derived.ChangeSame
import Derived.ChangeSlices
namespace Go.Proofs.Ythmglahcampllaa
open Go Go.RowKit Go.ChangeShapes Go.WideShapes Go.ChangeAt Go.Deep
attribute [local go_sem] KW.cell KW.frozen
namespace Ch
abbrev De := Int × Int × Fl
theorem adc (a : Addr) (n : Nat) : (a.add n).block = a.block := by
  unfold Addr.add
  split <;> rfl
/-- The slice v reads as the deeds. -/
def RdDe (v : Value) (ds : List De) (w : World) : Prop :=
  (v = .slice none 0 0 ∧ ds = []) ∨ ∃ (a : Addr) (cap : Nat), v = .slice (some a) ds.length cap ∧ (0 < ds.length → a.block < w.heap.size) ∧ ds.length ≤ cap ∧ cap ≤ maxLen ∧
    ∀ i (h : i < ds.length), w.cell? (a.add (i * 5)) = some (.int .i64 (ds[i]).1) ∧ w.cell? (a.add (i * 5 + 1)) = some (.int .i64 (ds[i]).2.1) ∧ w.cell? (a.add (i * 5 + 2)) = some (.int .i64 (ds[i]).2.2.1) ∧
      w.cell? (a.add (i * 5 + 3)) = some (.bool (ds[i]).2.2.2.1) ∧ w.cell? (a.add (i * 5 + 4)) = some (.string (ds[i]).2.2.2.2)
theorem RdDe.form {v : Value} {ds : List De} {w : World} (h : RdDe v ds w) : ∃ ao c, v = .slice ao ds.length c ∧ ds.length ≤ c ∧ c ≤ maxLen := by
  rcases h with ⟨rfl, rfl⟩ | ⟨a, cap, rfl, _, h1, h2, _⟩
  · exact ⟨none, 0, rfl, by simp, by decide⟩
  · exact ⟨_, _, rfl, h1, h2⟩
theorem RdDe.at_ {ao : Option Addr} {n c : Nat} {ds : List De} {w : World} (h : RdDe (.slice ao n c) ds w) (k : Nat) (hk : k < ds.length) :
    ∃ a, ao = some a ∧ a.block < w.heap.size ∧ w.cell? (a.add (k * 5)) = some (.int .i64 (ds[k]).1) ∧ w.cell? ⟨(a.add (k * 5)).block, (a.add (k * 5)).off + 1, none⟩ = some (.int .i64 (ds[k]).2.1) ∧
      w.cell? ⟨(a.add (k * 5)).block, (a.add (k * 5)).off + 2, none⟩ = some (.int .i64 (ds[k]).2.2.1) ∧ w.cell? ⟨(a.add (k * 5)).block, (a.add (k * 5)).off + 3, none⟩ = some (.bool (ds[k]).2.2.2.1) ∧
      w.cell? ⟨(a.add (k * 5)).block, (a.add (k * 5)).off + 4, none⟩ = some (.string (ds[k]).2.2.2.2) := by
  rcases h with ⟨_, rfl⟩ | ⟨a, cap, hv, hg, _, _, hc⟩
  · simp at hk
  · cases hv
    obtain ⟨h0, h1, h2, h3, h4⟩ := hc k hk
    exact ⟨a, rfl, hg (by omega), h0, (by rw [Go.Deep.add_add]; exact h1 : w.cell? ((a.add (k * 5)).add 1) = _), (by rw [Go.Deep.add_add]; exact h2 : w.cell? ((a.add (k * 5)).add 2) = _),
      (by rw [Go.Deep.add_add]; exact h3 : w.cell? ((a.add (k * 5)).add 3) = _), (by rw [Go.Deep.add_add]; exact h4 : w.cell? ((a.add (k * 5)).add 4) = _)⟩
theorem RdDe.keptB {v : Value} {ds : List De} {w w' : World} (h : RdDe v ds w) (hb : Below w.heap.size w w') : RdDe v ds w' := by
  rcases h with h | ⟨a, cap, hv, hg, h1, h2, hc⟩
  · exact .inl h
  · refine .inr ⟨a, cap, hv, fun h0 => Nat.lt_of_lt_of_le (hg h0) hb.size, h1, h2, fun i hi => ?_⟩
    have hg := hg (by omega)
    rw [hb.cell (p := a.add (i * 5)) (by rw [adc]; exact hg), hb.cell (p := a.add (i * 5 + 1)) (by rw [adc]; exact hg), hb.cell (p := a.add (i * 5 + 2)) (by rw [adc]; exact hg), hb.cell (p := a.add (i * 5 + 3)) (by rw [adc]; exact hg), hb.cell (p := a.add (i * 5 + 4)) (by rw [adc]; exact hg)]
    exact hc i hi
theorem lists_of1 {α : Type} (n : Nat) (p : Nat → α → Prop) (h : ∀ i, i < n → ∃ a, p i a) : ∃ us : List α, us.length = n ∧ ∀ i (h1 : i < us.length), p i us[i] := by
  induction n with
  | zero => exact ⟨[], rfl, fun i h1 => absurd h1 (by simp)⟩
  | succ n ih =>
    obtain ⟨us, ha, hp⟩ := ih fun i hi => h i (by omega)
    obtain ⟨a, hab⟩ := h n (by omega)
    refine ⟨us ++ [a], by simp [ha], fun i h1 => ?_⟩
    by_cases hi : i < n
    · rw [List.getElem_append_left (by omega)]
      exact hp i (by omega)
    · have h1' : i < n + 1 := by simpa [ha] using h1
      obtain rfl : i = n := by omega
      rw [List.getElem_append_right (by omega)]
      simpa [ha] using hab
set_option maxRecDepth 100000 in
theorem rd_deeds {H : Type} {enc : TypeId × Value → H} {W : World} {base : Nat} {v : Value} {d : DataW H} {ps : List MemPlace} (hval : Value.okWide Try.prog W .any base 57 v)
    (h : DataW.Trod enc Try.prog W 0 (fun _ => true) true 57 v d ps) : ∃ ds, RdDe v ds W := by
  obtain ⟨a0, len, cap, rfl⟩ := okWide_slice Try.underlying57 hval
  obtain ⟨fuel, hf⟩ := h
  have hC : Try.prog.cellsOf 67 = 5 := by kernel_rfl
  rcases open_slice Try.underlying57 hf with ⟨hcs, hx⟩ | ⟨a, len', cap', m, n, D, Pl, hcs, hb, hl, hm, hmm, hx, hi⟩
  · simp [Value.cells] at hcs
    obtain ⟨rfl, rfl, rfl⟩ := hcs
    exact ⟨[], .inl ⟨rfl, rfl⟩⟩
  · simp [Value.cells] at hcs
    obtain ⟨rfl, rfl, rfl⟩ := hcs
    have hmc : len ≤ m := by
      rw [hmm]
      split
      · exact hl
      · exact Nat.le_refl _
    obtain ⟨ds, hdl, hp⟩ := lists_of1 len (fun i (x : De) => W.cell? (a.add (i * 5)) = some (.int .i64 x.1) ∧ W.cell? (a.add (i * 5 + 1)) = some (.int .i64 x.2.1) ∧ W.cell? (a.add (i * 5 + 2)) = some (.int .i64 x.2.2.1) ∧
        W.cell? (a.add (i * 5 + 3)) = some (.bool x.2.2.2.1) ∧ W.cell? (a.add (i * 5 + 4)) = some (.string x.2.2.2.2)) fun i hil => by
      obtain ⟨cs', hc, ht'⟩ := hi i (by omega)
      rw [hC] at hc
      obtain ⟨_, hcl, hat⟩ := World.cells?_some hc
      obtain ⟨ys, n', _, _, _, hyl, hf⟩ := DataW.trod_struct Try.underlying67 ht'
      have hC3 : Try.prog.cellsOf 3 = 1 := by kernel_rfl
      have hC4 : Try.prog.cellsOf 4 = 1 := by kernel_rfl
      have hC9 : Try.prog.cellsOf 9 = 1 := by kernel_rfl
      have hC65 : Try.prog.cellsOf 65 = 3 := by kernel_rfl
      obtain ⟨c0, c1, c2, c3, c4, rfl⟩ : ∃ c0 c1 c2 c3 c4, cs' = [c0, c1, c2, c3, c4] := by
        match cs', hcl with
        | [c0, c1, c2, c3, c4], _ => exact ⟨c0, c1, c2, c3, c4, rfl⟩
      have f0 := (hf 0 _ rfl).trans (List.getElem?_eq_getElem (by rw [hyl]; decide))
      have f1 := (hf 1 _ rfl).trans (List.getElem?_eq_getElem (by rw [hyl]; decide))
      have f2 := (hf 2 _ rfl).trans (List.getElem?_eq_getElem (by rw [hyl]; decide))
      change DataW.trod enc Try.prog W 0 _ true n' 3 (([c0, c1, c2, c3, c4].drop 0).take (Try.prog.cellsOf 3)) = _ at f0
      change DataW.trod enc Try.prog W 0 _ true n' 3 (([c0, c1, c2, c3, c4].drop 1).take (Try.prog.cellsOf 3)) = _ at f1
      change DataW.trod enc Try.prog W 0 _ true n' 65 (([c0, c1, c2, c3, c4].drop 2).take (Try.prog.cellsOf 65)) = _ at f2
      rw [hC3] at f0 f1
      rw [hC65] at f2
      change DataW.trod enc Try.prog W 0 _ true n' 65 [c2, c3, c4] = _ at f2
      obtain ⟨zs, n'', _, _, _, hzl, hg⟩ := DataW.trod_struct Try.underlying65 f2
      have g0 := (hg 0 _ rfl).trans (List.getElem?_eq_getElem (by rw [hzl]; decide))
      have g1 := (hg 1 _ rfl).trans (List.getElem?_eq_getElem (by rw [hzl]; decide))
      have g2 := (hg 2 _ rfl).trans (List.getElem?_eq_getElem (by rw [hzl]; decide))
      change DataW.trod enc Try.prog W 0 _ true n'' 3 (([c2, c3, c4].drop 0).take (Try.prog.cellsOf 3)) = _ at g0
      change DataW.trod enc Try.prog W 0 _ true n'' 4 (([c2, c3, c4].drop 1).take (Try.prog.cellsOf 4)) = _ at g1
      change DataW.trod enc Try.prog W 0 _ true n'' 9 (([c2, c3, c4].drop 2).take (Try.prog.cellsOf 9)) = _ at g2
      rw [hC3] at g0
      rw [hC4] at g1
      rw [hC9] at g2
      obtain ⟨x0, e0, _⟩ := DataW.trod_int Try.underlying3 f0
      obtain ⟨x1, e1, _⟩ := DataW.trod_int Try.underlying3 f1
      obtain ⟨x2, e2, _⟩ := DataW.trod_int Try.underlying3 g0
      obtain ⟨x3, e3, _⟩ := DataW.trod_bool Try.underlying4 g1
      obtain ⟨x4, e4, _⟩ := DataW.trod_string Try.underlying9 g2
      simp only [List.drop_zero, List.drop_succ_cons, List.take_succ_cons, List.take_zero, List.cons.injEq, and_true] at e0 e1 e2 e3 e4
      subst e0 e1 e2 e3 e4
      have a0 := hat 0 (by decide)
      have a1 := hat 1 (by decide)
      have a2 := hat 2 (by decide)
      have a3 := hat 3 (by decide)
      have a4 := hat 4 (by decide)
      rw [Go.Deep.add_add] at a0 a1 a2 a3 a4
      exact ⟨(x0, x1, x2, x3, x4), a0, a1, a2, a3, a4⟩
    refine ⟨ds, .inr ⟨a, cap, by rw [hdl], fun h0 => ?_, by rw [hdl]; exact hl, hm, fun i h => hp i h⟩⟩
    have := cell_lt (hp 0 h0).1
    rwa [adc] at this
end Ch
end Go.Proofs.Ythmglahcampllaa
