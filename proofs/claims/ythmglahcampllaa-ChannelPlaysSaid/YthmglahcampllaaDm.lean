/- What is proved here: how wishes and times lie in memory. Condition: they can be read. -/
import Derived.Test.YthmglahcampllaaChecked
import Derived.Test.YthmglahcampllaaMem
import Derived.Lib.Hide
import Derived.WalkSpells
import Derived.WalkLawsBesides
import Derived.Test.YthmglahcampllaaDc
import Derived.Deep.DeepCutAuto
import Derived.Deep.CutBlock
import Derived.Deep.LoopGhost
import Derived.Deep.RegionHeld3
import Derived.Deep.RegionLaw
import Derived.Deep.AppendLies
import Derived.BigRegion
import Derived.Outline
import Derived.Laws.MakeOwn
import Derived.Deep.Slices
namespace Go.Proofs.Ythmglahcampllaa
open Go Go.RowKit
namespace Df
theorem adb (a : Addr) (n : Nat) : (a.add n).block = a.block := by
  unfold Addr.add
  split <;> rfl
theorem adh (g n : Nat) : (⟨g, 0, none⟩ : Addr).add n = ⟨g, n, none⟩ := by
  unfold Addr.add
  split
  · subst_vars; rfl
  · simp
theorem bon {W w w' : World} (h : Below W.heap.size W w) (h2 : Below w.heap.size w w') : Below W.heap.size W w' := h.trans (h2.mono h.size)
theorem wrap_of {e : Int} (h1 : -9223372036854775808 ≤ e) (h2 : e ≤ 9223372036854775807) : IntKind.i64.wrap e = e := IntWalk.i64_in _ (by omega)
/-! a block that is known whole -/
theorem blk_set {w : World} {g : Nat} {t : TypeId} {cs : Array Value} (h : w.heap[g]? = some (.cells cs t (0, 0))) (i : Nat) (u : Value) : (w.setCell ⟨g, i, none⟩ u).heap[g]? = some (.cells (cs.setIfInBounds i u) t (0, 0)) := by
  simp [World.setCell, Array.getElem?_modify, h]
/-- Numbers, as cells. -/
def ints (x : List Int) : Array Value := (x.map (Value.int .i64)).toArray
theorem ints_get (x : List Int) (j : Nat) (h : j < x.length) : (ints x)[j]? = some (.int .i64 (at_ x j)) := by
  unfold ints at_
  simp [h]
theorem ints_set (x : List Int) (j : Nat) (t : Int) : (ints x).setIfInBounds j (.int .i64 t) = ints (x.set j t) := by
  unfold ints
  simp
/-- Two rows of numbers of the call's own: times, and which wish moved each last. -/
structure PM (B : Nat) (w0 w : World) (gx gb : Nat) (x b : List Int) : Prop where
  bx : w.heap[gx]? = some (.cells (ints x) 3 (0, 0))
  bb : w.heap[gb]? = some (.cells (ints b) 3 (0, 0))
  hx : B ≤ gx
  hb : B ≤ gb
  ne : gx ≠ gb
  bl : Below B w0 w
section
variable {B : Nat} {w0 w : World} {gx gb : Nat} {x b : List Int}
theorem PM.drewN (h : PM B w0 w gx gb x b) (k : Nat) : PM B w0 (w.drewN k) gx gb x b := ⟨h.bx, h.bb, h.hx, h.hb, h.ne, below_drewN h.bl k⟩
theorem PM.drew (h : PM B w0 w gx gb x b) : PM B w0 w.drew gx gb x b := ⟨h.bx, h.bb, h.hx, h.hb, h.ne, h.bl.drew⟩
theorem PM.alloc (h : PM B w0 w gx gb x b) (o : Obj) : PM B w0 (w.alloc o) gx gb x b :=
  ⟨(Below.heap_alloc w o gx (block_lt h.bx)).trans h.bx, (Below.heap_alloc w o gb (block_lt h.bb)).trans h.bb, h.hx, h.hb, h.ne, h.bl.alloc (Nat.le_trans h.hx (Nat.le_of_lt (block_lt h.bx))) o⟩
theorem PM.setX (h : PM B w0 w gx gb x b) (j : Nat) (t : Int) : PM B w0 (w.setCell ⟨gx, j, none⟩ (.int .i64 t)) gx gb (x.set j t) b :=
  ⟨by rw [← ints_set]; exact blk_set h.bx j _, (Below.heap_setCell w ⟨gx, j, none⟩ _ gb (Ne.symm h.ne)).trans h.bb, h.hx, h.hb, h.ne, h.bl.setCell h.hx _⟩
theorem PM.setB (h : PM B w0 w gx gb x b) (j : Nat) (t : Int) : PM B w0 (w.setCell ⟨gb, j, none⟩ (.int .i64 t)) gx gb x (b.set j t) :=
  ⟨(Below.heap_setCell w ⟨gb, j, none⟩ _ gx h.ne).trans h.bx, by rw [← ints_set]; exact blk_set h.bb j _, h.hx, h.hb, h.ne, h.bl.setCell h.hb _⟩
theorem PM.cx (h : PM B w0 w gx gb x b) (j : Nat) (hj : j < x.length) : w.cell? ⟨gx, j, none⟩ = some (.int .i64 (at_ x j)) := (block_cell h.bx j).trans (ints_get x j hj)
theorem PM.cb (h : PM B w0 w gx gb x b) (j : Nat) (hj : j < b.length) : w.cell? ⟨gb, j, none⟩ = some (.int .i64 (at_ b j)) := (block_cell h.bb j).trans (ints_get b j hj)
theorem PM.fx (h : PM B w0 w gx gb x b) (j : Nat) : w.frozen? ⟨gx, j, none⟩ = false := block_free h.bx j
theorem PM.fb (h : PM B w0 w gx gb x b) (j : Nat) : w.frozen? ⟨gb, j, none⟩ = false := block_free h.bb j
end
/-- The slice v reads as the wishes l (the law's). -/
def AfR (v : Value) (l : List Af) (w : World) : Prop :=
  (v = .slice none 0 0 ∧ l = []) ∨ ∃ (a : Addr) (cap : Nat), v = .slice (some a) l.length cap ∧ (0 < l.length → a.block < w.heap.size) ∧ l.length ≤ cap ∧ cap ≤ maxLen ∧
    ∀ i (h : i < l.length), w.cell? (a.add (i * 3)) = some (.int .i64 (l[i]).1) ∧ w.cell? (a.add (i * 3 + 1)) = some (.int .i64 (l[i]).2.1) ∧ w.cell? (a.add (i * 3 + 2)) = some (.int .i64 (l[i]).2.2)
theorem AfR.form {v : Value} {l : List Af} {w : World} (h : AfR v l w) : ∃ ao c, v = .slice ao l.length c ∧ l.length ≤ c ∧ c ≤ maxLen := by
  rcases h with ⟨rfl, rfl⟩ | ⟨a, cap, rfl, _, h1, h2, _⟩
  · exact ⟨none, 0, rfl, by simp, by decide⟩
  · exact ⟨_, _, rfl, h1, h2⟩
theorem AfR.at_ {ao : Option Addr} {n c : Nat} {l : List Af} {w : World} (h : AfR (.slice ao n c) l w) (k : Nat) (hk : k < l.length) :
    ∃ a, ao = some a ∧ a.block < w.heap.size ∧ w.cell? (a.add (k * 3)) = some (.int .i64 (l[k]).1) ∧ w.cell? ⟨(a.add (k * 3)).block, (a.add (k * 3)).off + 1, none⟩ = some (.int .i64 (l[k]).2.1) ∧ w.cell? ⟨(a.add (k * 3)).block, (a.add (k * 3)).off + 2, none⟩ = some (.int .i64 (l[k]).2.2) := by
  rcases h with ⟨_, rfl⟩ | ⟨a, cap, hv, hg, _, _, hc⟩
  · simp at hk
  · cases hv
    obtain ⟨h0, h1, h2⟩ := hc k hk
    exact ⟨a, rfl, hg (by omega), h0, (by rw [Go.Deep.add_add]; exact h1 : w.cell? ((a.add (k * 3)).add 1) = some (.int .i64 (l[k]).2.1)), (by rw [Go.Deep.add_add]; exact h2 : w.cell? ((a.add (k * 3)).add 2) = some (.int .i64 (l[k]).2.2))⟩
theorem AfR.kept {v : Value} {l : List Af} {w w' : World} (h : AfR v l w) (hb : Below w.heap.size w w') : AfR v l w' := by
  rcases h with h | ⟨a, cap, hv, hg, h1, h2, hc⟩
  · exact .inl h
  · refine .inr ⟨a, cap, hv, fun h0 => Nat.lt_of_lt_of_le (hg h0) hb.size, h1, h2, fun i hi => ?_⟩
    have hg := hg (by omega)
    rw [hb.cell (p := a.add (i * 3)) (by rw [adb]; exact hg), hb.cell (p := a.add (i * 3 + 1)) (by rw [adb]; exact hg), hb.cell (p := a.add (i * 3 + 2)) (by rw [adb]; exact hg)]
    exact hc i hi
/-- The slice v reads as the wishes l (the program's: it was made). -/
structure AfP (v : Value) (l : List Af) (w : World) : Prop where
  form : ∃ ao c, v = .slice ao l.length c ∧ l.length ≤ c ∧ c ≤ maxLen
  el : ∀ k (h : k < l.length), ∃ g c, v = .slice (some ⟨g, 0, none⟩) l.length c ∧ g < w.heap.size ∧ w.cell? ⟨g, k * 3, none⟩ = some (.int .i64 (l[k]).1) ∧ w.cell? ⟨g, k * 3 + 1, none⟩ = some (.int .i64 (l[k]).2.1) ∧ w.cell? ⟨g, k * 3 + 2, none⟩ = some (.int .i64 (l[k]).2.2)
theorem AfP.at_ {ao : Option Addr} {n c : Nat} {l : List Af} {w : World} (h : AfP (.slice ao n c) l w) (k : Nat) (hk : k < l.length) :
    ∃ g, ao = some ⟨g, 0, none⟩ ∧ g < w.heap.size ∧ w.cell? ⟨g, k * 3, none⟩ = some (.int .i64 (l[k]).1) ∧ w.cell? ⟨g, k * 3 + 1, none⟩ = some (.int .i64 (l[k]).2.1) ∧ w.cell? ⟨g, k * 3 + 2, none⟩ = some (.int .i64 (l[k]).2.2) := by
  obtain ⟨g, c', hv, r⟩ := h.el k hk
  cases hv
  exact ⟨g, rfl, r⟩
theorem AfP.kept {v : Value} {l : List Af} {w w' : World} (h : AfP v l w) (hb : Below w.heap.size w w') : AfP v l w' := by
  refine ⟨h.form, fun k hk => ?_⟩
  obtain ⟨g, c, hv, hg, h0, h1, h2⟩ := h.el k hk
  exact ⟨g, c, hv, Nat.lt_of_lt_of_le hg hb.size, (hb.cell (p := ⟨g, k * 3, none⟩) hg).trans h0, (hb.cell (p := ⟨g, k * 3 + 1, none⟩) hg).trans h1, (hb.cell (p := ⟨g, k * 3 + 2, none⟩) hg).trans h2⟩
/-- The slice v reads as the numbers x. -/
def RI (v : Value) (x : List Int) (w : World) : Prop :=
  (v = .slice none 0 0 ∧ x = []) ∨ ∃ (a : Addr) (cap : Nat), v = .slice (some a) x.length cap ∧ (0 < x.length → a.block < w.heap.size) ∧ x.length ≤ cap ∧ cap ≤ maxLen ∧
    ∀ i (h : i < x.length), w.cell? (a.add i) = some (.int .i64 x[i])
theorem RI.form {v : Value} {x : List Int} {w : World} (h : RI v x w) : ∃ ao c, v = .slice ao x.length c ∧ x.length ≤ c ∧ c ≤ maxLen := by
  rcases h with ⟨rfl, rfl⟩ | ⟨a, cap, rfl, _, h1, h2, _⟩
  · exact ⟨none, 0, rfl, by simp, by decide⟩
  · exact ⟨_, _, rfl, h1, h2⟩
theorem RI.at_ {ao : Option Addr} {n c : Nat} {x : List Int} {w : World} (h : RI (.slice ao n c) x w) (k : Nat) (hk : k < x.length) : ∃ a, ao = some a ∧ a.block < w.heap.size ∧ w.cell? (a.add k) = some (.int .i64 x[k]) := by
  rcases h with ⟨_, rfl⟩ | ⟨a, cap, hv, hg, _, _, hc⟩
  · simp at hk
  · cases hv
    exact ⟨a, rfl, hg (by omega), hc k hk⟩
theorem RI.kept {v : Value} {x : List Int} {w w' : World} (h : RI v x w) (hb : Below w.heap.size w w') : RI v x w' := by
  rcases h with h | ⟨a, cap, hv, hg, h1, h2, hc⟩
  · exact .inl h
  · refine .inr ⟨a, cap, hv, fun h0 => Nat.lt_of_lt_of_le (hg h0) hb.size, h1, h2, fun i hi => ?_⟩
    rw [hb.cell (p := a.add i) (by rw [adb]; exact hg (by omega))]
    exact hc i hi
/-- A slice of numbers of the call's own reads as these. -/
theorem RI.own {B n : Nat} {v : Value} {x : List Int} {w : World} (h : w.ownsRow B 3 1 v n (x.map (Value.int .i64))) (hn : n = x.length) : RI v x w := by
  subst hn
  rcases h.2 with ⟨rfl, h0⟩ | ⟨g, cap, cur, rfl, hB, hg, h1, h2, _⟩
  · exact .inl ⟨rfl, List.eq_nil_of_length_eq_zero h0⟩
  · refine .inr ⟨⟨g, 0, none⟩, cap, rfl, fun _ => block_lt hg, h1, h2, fun i hi => ?_⟩
    refine h.cells rfl i _ ?_
    simp [hi]
theorem RI.blk {g : Nat} {x : List Int} {w : World} (h : w.heap[g]? = some (.cells (ints x) 3 (0, 0))) (hm : x.length ≤ maxLen) : RI (.slice (some ⟨g, 0, none⟩) x.length x.length) x w := by
  refine .inr ⟨⟨g, 0, none⟩, x.length, rfl, fun _ => block_lt h, Nat.le_refl _, hm, fun i hi => ?_⟩
  rw [adh, block_cell h i]
  unfold ints
  simp [hi]
end Df
end Go.Proofs.Ythmglahcampllaa
