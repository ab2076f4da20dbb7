/- What is proved here: the example of chapter 22; the walks of DiffTells and DiffLeast. Condition: what they are given can be read. -/
import Derived.Test.YthmglahcampllaaDx
namespace Go.Proofs.Ythmglahcampllaa
open Go Go.RowKit
namespace Df
attribute [local go_sem] KW.cell KW.frozen
theorem aw_push {s : St} (h : Pushed 3 [(0, 1, 5), (1, 2, 3)] s) : s.last < 0 ∧ s.x = [0, 5, 8] := by
  obtain ⟨r, h1, h2, rfl, h3, h4⟩ := h.ex
  have e1 : (rnd 3 [(0, 1, 5), (1, 2, 3)] 1).last = 2 := by decide
  have e2 : (rnd 3 [(0, 1, 5), (1, 2, 3)] 2).last = -1 := by decide
  have e3 : (rnd 3 [(0, 1, 5), (1, 2, 3)] 2).x = [0, 5, 8] := by decide
  have hr : r = 2 := by
    rcases Nat.lt_trichotomy r 2 with h | h | h
    · obtain rfl : r = 1 := by omega
      rw [e1] at h3
      omega
    · exact h
    · have := h4 2 (by omega) h
      rw [e2] at this
      omega
  subst hr
  exact ⟨by rw [e2]; omega, e3⟩
theorem aw_ring {s : St} (h : Pushed 1 [(0, 0, 1)] s) : ¬ s.last < 0 := by
  intro hl
  have hf : ∀ a ∈ ([(0, 0, 1)] : List Af), Fit 1 a := by decide
  have := (h.yes hf hl).1.2 (0, 0, 1) (by simp)
  have e1 : bI ((0, 0, 1) : Af) = 0 := rfl
  have e2 : bJ ((0, 0, 1) : Af) = 0 := rfl
  have e3 : bG ((0, 0, 1) : Af) = 1 := rfl
  rw [e1, e2, e3] at this
  omega
theorem afp_blk (l : List Af) (w : World) (cs : Array Value) (h : cs.toList = flat3 l) (hm : l.length ≤ 1000) : AfP (.slice (some ⟨w.heap.size, 0, none⟩) l.length l.length) l (w.alloc (.cells cs 80)) := by
  refine ⟨⟨_, _, rfl, Nat.le_refl _, by unfold maxLen; omega⟩, fun k hk => ⟨w.heap.size, l.length, rfl, by simp, ?_⟩⟩
  have hb := heap_alloc_new w (.cells cs 80)
  obtain ⟨e0, e1, e2⟩ := flat3_get l k hk
  rw [← h] at e0 e1 e2
  exact ⟨(block_cell hb _).trans (by simpa using e0), (block_cell hb _).trans (by simpa using e1), (block_cell hb _).trans (by simpa using e2)⟩
def Aw1 (w : World) (e : Ending) (w' : World) : Prop := ∃ v, e = .returned (.tuple #[v, .bool true]) ∧ RI v [0, 5, 8] w' ∧ Below w.heap.size w w'
theorem aw1_c (w : World) : Calls Try.prog 14 #[.int .i64 3, .slice (some ⟨w.heap.size, 0, none⟩) 2 2] (w.alloc (.cells #[.int .i64 0, .int .i64 1, .int .i64 5, .int .i64 1, .int .i64 2, .int .i64 3] 80)) (Aw1 w) := by
  have ha := afp_blk [(0, 1, 5), (1, 2, 3)] w #[.int .i64 0, .int .i64 1, .int .i64 5, .int .i64 1, .int .i64 2, .int .i64 3] rfl (by decide)
  refine (earl_yes 3 (some ⟨w.heap.size, 0, none⟩) 2 [(0, 1, 5), (1, 2, 3)] _ (by decide) ha).mono ?_
  rintro e w' ⟨hb, s, hp, h⟩
  obtain ⟨h1, h2⟩ := aw_push hp
  rcases h with ⟨_, v, he, hr⟩ | ⟨h3, _⟩
  · rw [h2] at hr
    exact ⟨v, he, hr, ((Below.refl _ _).alloc (Nat.le_refl _) _).trans (hb.mono (by simp))⟩
  · exact absurd h1 h3
def Aw2 (w : World) (e : Ending) (w' : World) : Prop := ∃ ao c, e = .returned (.slice ao 1 c) ∧ Below w.heap.size w w'
theorem aw2_c (w : World) : Calls Try.prog 16 #[.int .i64 1, .slice (some ⟨w.heap.size, 0, none⟩) 1 1] (w.alloc (.cells #[.int .i64 0, .int .i64 0, .int .i64 1] 80)) (Aw2 w) := by
  have ha := afp_blk [(0, 0, 1)] w #[.int .i64 0, .int .i64 0, .int .i64 1] rfl (by decide)
  refine (ring_run 1 (some ⟨w.heap.size, 0, none⟩) 1 [(0, 0, 1)] _ (by decide) ha).mono ?_
  rintro e w' ⟨hb, s, hp, h⟩
  rcases h with ⟨h3, _⟩ | ⟨_, g, v, hg, he, hr⟩
  · exact absurd h3 (aw_ring hp)
  · obtain ⟨ao, c, rfl, _, _⟩ := hr.form
    have h1 := hg.q1
    have h2 := hg.q2
    have e1 : g.length = 1 := by omega
    rw [e1] at he
    exact ⟨ao, c, he, ((Below.refl _ _).alloc (Nat.le_refl _) _).trans (hb.mono (by simp))⟩
theorem ri_new (w : World) : RI (.slice (some ⟨w.heap.size, 0, none⟩) 3 3) [0, 5, 8] (w.alloc (.cells #[.int .i64 0, .int .i64 5, .int .i64 8] 3)) :=
  RI.blk (x := [0, 5, 8]) (heap_alloc_new w _) (by decide)
set_option maxRecDepth 100000 in
set_option maxHeartbeats 1000000 in
theorem awake_c (w : World) : Calls Try.prog 13 #[] w fun e w' => e = .returned (.bool true) ∧ Below w.heap.size w w' := by
  have H1 := Lib.hid (aw1_c w)
  go_enter Try.func13, Try.ntmps13
  go_wp2_with (go_at_call 14; refine H1.out.mono ?_; rintro e w1 ⟨v, rfl, hr, hb1⟩)
  refine (same_c _ _ [0, 5, 8] _ (hr.kept ((Below.refl _ _).alloc (Nat.le_refl _) _)) (ri_new w1)).mono ?_
  rintro e w2 ⟨rfl, hb2⟩
  have hb2 : Below w.heap.size w w2 := bon (hb1.alloc hb1.size _) hb2
  have H2 := Lib.hid (aw2_c w2)
  clear hr
  go_wp2_with (go_at_call 16; refine H2.out.mono ?_; rintro e w3 ⟨ao, c, rfl, hb3⟩)
  go_ret
  exact ⟨rfl, bon hb2 hb3⟩
theorem awake_b {W w : World} (h : Below W.heap.size W w) : Calls Try.prog 13 #[] w fun e w' => e = .returned (.bool true) ∧ Below W.heap.size W w' := (awake_c w).mono fun _ _ ⟨he, hb⟩ => ⟨he, bon h hb⟩
/-! the contracts as the laws use them -/
section
variable {W w : World} {v u : Value} {l : List Af} {x : List Int}
theorem mine_b (hl : l.length ≤ 1000) (hv : Hid (AfR v l W)) (h : Below W.heap.size W w) : Calls Try.prog 15 #[v] w fun e w' => ∃ u, e = .returned u ∧ AfP u l w' ∧ Below W.heap.size W w' :=
  (mine_c v l w hl (hv.out.kept h)).mono fun _ _ ⟨u, he, ha, hb⟩ => ⟨u, he, ha, bon h hb⟩
/-- Both Earliest: the same times, or both none. -/
def Both (n : Int) (l : List Af) (o : Option (List Int)) : Prop := rightB n l = false ∧ o = none ∨ ∃ k : Nat, (k : Int) = n ∧ rightB n l = true ∧ ∃ s, Pushed k l s ∧ ((s.last < 0 ∧ o = some s.x) ∨ (¬ s.last < 0 ∧ o = none))
def Ans (W : World) (o : Option (List Int)) (e : Ending) (w' : World) : Prop :=
  Below W.heap.size W w' ∧ ((o = none ∧ e = .returned (.tuple #[.slice none 0 0, .bool false])) ∨ ∃ x v, o = some x ∧ e = .returned (.tuple #[v, .bool true]) ∧ RI v x w')
theorem earl_b (n : Int) (hv : AfP v l w) (h : Below W.heap.size W w) : Calls Try.prog 14 #[.int .i64 n, v] w fun e w' => ∃ o, Both n l o ∧ Ans W o e w' := by
  cases hR : rightB n l with
  | false => exact (earl_no n v l w hR hv).mono fun _ _ ⟨he, hb⟩ => ⟨none, .inl ⟨hR, rfl⟩, bon h hb, .inl ⟨rfl, he⟩⟩
  | true =>
    obtain ⟨ao, c, rfl, _, _⟩ := hv.form
    obtain ⟨k, rfl⟩ : ∃ k : Nat, n = k := ⟨n.toNat, by have := (rightB_iff.1 hR).1.1; omega⟩
    refine (earl_yes k ao c l w hR hv).mono ?_
    rintro e w' ⟨hb, s, hp, ⟨h1, v, he, hr⟩ | ⟨h1, he⟩⟩
    · exact ⟨some s.x, .inr ⟨k, rfl, hR, s, hp, .inl ⟨h1, rfl⟩⟩, bon h hb, .inr ⟨s.x, v, rfl, he, hr⟩⟩
    · exact ⟨none, .inr ⟨k, rfl, hR, s, hp, .inr ⟨h1, rfl⟩⟩, bon h hb, .inl ⟨rfl, he⟩⟩
theorem rearl_b (n : Int) (o : Option (List Int)) (ho : Hid (Both n l o)) (hv : Hid (AfR v l W)) (h : Below W.heap.size W w) : Calls Try.prog 21 #[.int .i64 n, v] w (Ans W o) := by
  rcases ho.out with ⟨hR, rfl⟩ | ⟨k, rfl, hR, s, hp, hs⟩
  · exact (rearl_no n v l w hR (hv.out.kept h)).mono fun _ _ ⟨he, hb⟩ => ⟨bon h hb, .inl ⟨rfl, he⟩⟩
  · obtain ⟨ao, c, rfl, _, _⟩ := hv.out.form
    have hf := (rightB_nat hR).2.2
    refine (rearl_run k ao c l w hR (hv.out.kept h)).mono ?_
    rintro e w' ⟨hb, ⟨x, v, hj, he, hr⟩ | ⟨hj, he⟩⟩
    · rcases same_end hf hp hj with ⟨h1, h2⟩ | ⟨h1, h2⟩
      · cases h2
        rcases hs with ⟨_, rfl⟩ | ⟨h3, _⟩
        · exact ⟨bon h hb, .inr ⟨_, v, rfl, he, hr⟩⟩
        · exact absurd h1 h3
      · cases h2
    · rcases same_end hf hp hj with ⟨h1, h2⟩ | ⟨h1, h2⟩
      · cases h2
      · rcases hs with ⟨h3, _⟩ | ⟨_, rfl⟩
        · exact absurd h3 h1
        · exact ⟨bon h hb, .inl ⟨rfl, he⟩⟩
end
end Df
end Go.Proofs.Ythmglahcampllaa
