/- What is proved here: what the pile of package tick does. Condition: where it is said. -/
import Derived.Test.YthmglahcampllaaTx
import Derived.Test.YthmglahcampllaaMem
import Derived.Deep.AppendLies
import Derived.Deep.RegionLaw
namespace Go.Proofs.Ythmglahcampllaa
open Go Go.RowKit
attribute [local go_sem] assert34

theorem Try.info3 : (Try.prog.info? 3).map (fun i => (i.zero, i.size, i.bytes)) = some (some (.int .i64 0), 1, 8) := by kernel_rfl

/-- The pile at block b holds the numbers xs. -/
def Pile (B b : Nat) (xs : List Int) (w : World) : Prop :=
  ∃ v, w.heap[b]? = some (.cells #[v] 89 (0, 0)) ∧ B ≤ b ∧ v.ownBlock ≠ some b ∧ w.ownsRow B 3 1 v xs.length (xs.map (Value.int .i64))

set_option maxHeartbeats 1000000 in
theorem push_over (b : Nat) (v : Value) (n : Int) (w : World) (hc : w.cell? ⟨b, 0, none⟩ = some v) (h : n < -1125899906842624 ∨ 1125899906842624 < n) :
    Calls Try.prog 83 #[.pointer (some ⟨b, 0, none⟩), .int .i64 n] w fun e w' => e = over ∧ ∃ k, w' = w.drewN k := by
  have H := Lib.hid h
  clear h
  go_enter Try.func83, Try.ntmps83
  go_wp2_with fail
  refine wp_region_pan 6 71 [0, 1, 2, 3, 4, 5] [{ v := .iface 34 (.int .i64 11), recovered := false }] (by kernel_rfl) (by kernel_rfl) (by kernel_rfl) (by kernel_rfl) (by simp) (by rfl) ?_ ?_
  · intro a d u w h
    exact h
  · simp only [List.filterMap_cons, List.filterMap_nil, List.getElem?_toArray, List.getElem?_cons_zero, List.getElem?_cons_succ]
    repeat (quiet_step (fail))
    refine wpQuiet_nil ?_
    intro k
    refine ⟨#[.int .i64 n], _, rfl, ?_, ?_⟩
    · go_simp
    · refine (time_over _ _ H.out).mono ?_
      rintro e w' ⟨rfl, rfl⟩
      exact ⟨rfl, rfl, rfl, k, rfl⟩

theorem one_set {w : World} {b : Nat} {v u : Value} {t : TypeId} (h : w.heap[b]? = some (.cells #[v] t (0, 0))) : (w.setCell ⟨b, 0, none⟩ u).heap[b]? = some (.cells #[u] t (0, 0)) := by
  have hlt := block_lt h
  have h' : w.heap[b] = .cells #[v] t (0, 0) := by simpa [Array.getElem?_eq_getElem hlt] using h
  show (w.heap.modify b _)[b]? = _
  rw [Array.getElem?_eq_getElem (by simpa using hlt), Array.getElem_modify_self, h']
  rfl
theorem row_set {w : World} {B b n : Nat} {v u : Value} {vs : List Value} (h : w.ownsRow B 3 1 v n vs) (hb : v.ownBlock ≠ some b) : (w.setCell ⟨b, 0, none⟩ u).ownsRow B 3 1 v n vs := by
  obtain ⟨h1, h2⟩ := h
  refine ⟨h1, ?_⟩
  rcases h2 with h2 | ⟨g, cap, cur, hv, hg, hh, r⟩
  · exact .inl h2
  · subst hv
    refine .inr ⟨g, cap, cur, rfl, hg, ?_, r⟩
    rw [Below.heap_setCell _ _ _ _ (fun e => hb (by simp [Value.ownBlock, e]))]
    exact hh
theorem pile_set {B b : Nat} {xs : List Int} {w : World} {v u : Value} (hv : w.heap[b]? = some (.cells #[v] 89 (0, 0))) (hBb : B ≤ b) (hub : u.ownBlock ≠ some b) (hown : w.ownsRow B 3 1 u xs.length (xs.map (Value.int .i64))) :
    Pile B b xs (w.setCell ⟨b, 0, none⟩ u) := ⟨u, one_set hv, hBb, hub, row_set hown hub⟩
theorem below_grown {B : Nat} {w w1 w2 : World} {v : Value} {n : Nat} {vs : List Value} (h : Below B w w1) (hB : B ≤ w1.heap.size) (hg : w1.grownBy w2 v.ownBlock) (hown : w.ownsRow B 3 1 v n vs) : Below B w w2 := by
  refine h.grown hg hB fun k hk => ?_
  rcases hown.2 with ⟨rfl, _⟩ | ⟨g, cap, cur, rfl, hg', _⟩
  · simp [Value.ownBlock] at hk
  · simp [Value.ownBlock] at hk
    omega

set_option maxHeartbeats 1000000 in
theorem push_ok (B b : Nat) (xs : List Int) (n : Int) (w : World) (hp : Pile B b xs w) (hB : B ≤ w.heap.size) (hl : xs.length ≤ 1000) (h1 : -1125899906842624 ≤ n) (h2 : n ≤ 1125899906842624) :
    Calls Try.prog 83 #[.pointer (some ⟨b, 0, none⟩), .int .i64 n] w fun e w' => e = .returned (.tuple #[]) ∧ Pile B b (xs ++ [n]) w' ∧ Below B w w' := by
  obtain ⟨i0, hi, hz0, hz1, hz2⟩ := info_parts Try.info3
  obtain ⟨v, hv, hBb, hvb, hown⟩ := hp
  have hc : w.cell? ⟨b, 0, none⟩ = some v := block_cell hv 0
  have hf : w.frozen? ⟨b, 0, none⟩ = false := block_free hv 0
  have hlt := block_lt hv
  have hpush : ∀ o : Obj, (w.heap.push o)[b]? = some (.cells #[v] 89 (0, 0)) := fun o => by rw [Array.getElem?_push, if_neg (by omega)]; exact hv
  have HP := Lib.hid hpush
  clear hpush
  go_enter Try.func83, Try.ntmps83
  go_wp2_with fail
  go_region_law (first
    | (go_simp; go_at_call 71; refine (time_ok _ _ h1 h2).mono ?_; rintro e w' ⟨rfl, rfl⟩)
    | ((refine step_append_lies _ (by rfl) _ _ 25 (by rfl) B 3 i0 (.int .i64 0) 1 8 Try.underlying25 hi hz0 hz1 hz2 rfl (by decide) v xs.length (xs.map (Value.int .i64)) (by rfl) (by exact (hown.alloc _)) ⟨w.heap.size, 0, none⟩ 1 1 [.int .i64 n] (by rfl) (by rfl) (by intro j u hj; rcases j with _ | j <;> simp at hj <;> subst hj <;> simp [go_sem, Addr.add]) (by simp [Value.oneCell']) (by decide) (by unfold maxLen; omega) (by omega) (by simp; omega) (w.heap.size + 1) (by simp) ?_; intro g cap w1 hown1 hgrow hat hlt1; have hb1 := (hgrow.block b (by simp; omega) (fun e => hvb e.symm)).trans (HP.out _); have hc1 := block_cell hb1 0; have hf1 := block_free hb1 0; simp only [List.getElem?_toArray, List.getElem?_cons_zero] at hc1)))
  all_goals go_returns
  all_goals
    refine ⟨rfl, pile_set hb1 hBb ?_ ?_, ?_⟩
    · rcases hat with h | h
      · exact fun e => hvb (h.trans e)
      · simp [Value.ownBlock]
        omega
    · simpa using hown1
    · exact (below_grown (((Below.refl B w).alloc hB _).drew) (by simp; omega) hgrow hown).setCell hBb _
end Go.Proofs.Ythmglahcampllaa
