/- What is proved here: plainly, that the way chosen costs least; and that a slice of slices that came in reads as ways. Condition: it is a law's parameter. -/
import Derived.Test.YtijgopcddjnfdaaWk
import Derived.Test.YtijgopcddjnfdaaRe
import Derived.Deep.Slices
namespace Go.Proofs.Ytijgopcddjnfdaa
open Go Go.RowKit Go.ChangeShapes Go.WideShapes Go.ChangeAt Go.Deep
namespace Fl
theorem leastF_min (bs : List Nat) (ways : List (List Int)) : ∀ (k i j : Nat), i < k → leastF bs ways k = (j : Int) → place (rwalkP bs (ways.getD j [])) ≤ place (rwalkP bs (ways.getD i [])) := by
  intro k
  induction k with
  | zero => intro i j h; omega
  | succ k ih =>
    intro i j hi hj
    have e : leastF bs ways (k + 1) = if leastF bs ways k < 0 then (k : Int) else if place (rwalkP bs (ways.getD k [])) < place (rwalkP bs (ways.getD (leastF bs ways k).toNat [])) then (k : Int) else leastF bs ways k := rfl
    rw [e] at hj
    rcases Nat.eq_zero_or_pos k with rfl | hk
    · have h0 : leastF bs ways 0 = -1 := rfl
      rw [h0, if_pos (by decide)] at hj
      obtain rfl : i = 0 := by omega
      obtain rfl : j = 0 := by omega
      exact Nat.le_refl _
    · have hbd := leastF_bd bs ways k hk
      obtain ⟨m, hm⟩ : ∃ m : Nat, leastF bs ways k = m := ⟨(leastF bs ways k).toNat, by omega⟩
      rw [hm, if_neg (by omega), Int.toNat_natCast] at hj
      split at hj
      · rename_i hlt
        obtain rfl : j = k := by omega
        rcases Nat.lt_succ_iff_lt_or_eq.1 hi with h | rfl
        · have := ih i m h hm
          omega
        · exact Nat.le_refl _
      · rename_i hlt
        obtain rfl : j = m := by omega
        rcases Nat.lt_succ_iff_lt_or_eq.1 hi with h | rfl
        · exact ih i j h hm
        · omega
theorem least_no {bs : List Nat} (hb : bs.all cost = true) {ways : List (List Int)} {i j : Nat} (hi : i < ways.length) (hj : leastF bs ways ways.length = (j : Int)) (hjl : j < ways.length) :
    (FloatKind.f64.format.order (rwalkP bs ways[i]) (rwalkP bs ways[j]) == some Ordering.lt) = false := by
  have h0 := leastF_min bs ways ways.length i j hi hj
  have e1 : ways.getD i [] = ways[i] := by rw [List.getD_eq_getElem?_getD, List.getElem?_eq_getElem hi]; rfl
  have e2 : ways.getD j [] = ways[j] := by rw [List.getD_eq_getElem?_getD, List.getElem?_eq_getElem hjl]; rfl
  rw [e1, e2] at h0
  cases h : (FloatKind.f64.format.order (rwalkP bs ways[i]) (rwalkP bs ways[j]) == some Ordering.lt) with
  | false => rfl
  | true =>
    obtain ⟨n1, n2, h1⟩ := (lt_iff (rwalkP_w _ _) (rwalkP_w _ _)).1 h
    have c1 := rwalkP_le hb ways[i]
    have c2 := rwalkP_le hb ways[j]
    rcases place_pl (rwalkP_w bs ways[i]) n1 with ⟨a1, a2⟩ | ⟨a1, a2⟩ <;> rcases place_pl (rwalkP_w bs ways[j]) n2 with ⟨b1, b2⟩ | ⟨b1, b2⟩ <;> omega
end Fl
theorem lists_of {α β : Type} (n : Nat) (p : Nat → α → β → Prop) (h : ∀ i, i < n → ∃ a b, p i a b) :
    ∃ (us : List α) (bs : List β), us.length = n ∧ bs.length = n ∧ ∀ i (h1 : i < us.length) (h2 : i < bs.length), p i us[i] bs[i] := by
  induction n with
  | zero => exact ⟨[], [], rfl, rfl, fun i h1 => absurd h1 (by simp)⟩
  | succ n ih =>
    obtain ⟨us, bs, ha, hb, hp⟩ := ih fun i hi => h i (by omega)
    obtain ⟨a, b, hab⟩ := h n (by omega)
    refine ⟨us ++ [a], bs ++ [b], by simp [ha], by simp [hb], fun i h1 h2 => ?_⟩
    by_cases hi : i < n
    · rw [List.getElem_append_left (by omega), List.getElem_append_left (by omega)]
      exact hp i (by omega) (by omega)
    · have h1' : i < n + 1 := by simpa [ha] using h1
      obtain rfl : i = n := by omega
      rw [List.getElem_append_right (by omega), List.getElem_append_right (by omega)]
      simpa [ha, hb] using hab
theorem rd_cells {H : Type} {enc : TypeId × Value → H} {W : World} {fuel : Nat} {cs : List Value} {x : DataW H × List MemPlace}
    (hf : DataW.trod enc Try.prog W 0 (fun _ => true) true fuel 54 cs = some x) : ∃ v, cs = [v] ∧ ∃ xs : List Int, Rd INT v xs W := by
  rcases open_ints Try.underlying54 Try.underlying3 (by kernel_rfl) hf with ⟨rfl, hx⟩ | ⟨a, len, cap, zs, rfl, _, hl, hm, hlen, hx, hall, hwf⟩
  · exact ⟨_, rfl, [], .inl ⟨rfl, rfl⟩⟩
  · have hlen : zs.length = cap := hlen
    have htl : (zs.take len).length = len := by rw [List.length_take]; omega
    have hel : ∀ i (h : i < (zs.take len).length), W.cell? (a.add i) = some (.int .i64 (zs.take len)[i]) := by
      intro i hi
      have := hall i (by omega)
      rw [List.getD_eq_getElem?_getD, List.getElem?_eq_getElem (by omega)] at this
      rw [List.getElem_take]
      exact this
    refine ⟨_, rfl, zs.take len, .inr ⟨a, cap, by rw [htl], fun h0 => ?_, by rw [htl]; exact hl, hm, hel⟩⟩
    have := cell_block (hel 0 h0)
    rwa [add_block] at this
theorem rd_ways {H : Type} {enc : TypeId × Value → H} {W : World} {base : Nat} {v : Value} {d : DataW H} {ps : List MemPlace} (hval : Value.okWide Try.prog W .any base 53 v)
    (h : DataW.Trod enc Try.prog W 0 (fun _ => true) true 53 v d ps) : ∃ ways : List (List Int), RdWW v ways W := by
  obtain ⟨a0, len, cap, rfl⟩ := okWide_slice Try.underlying53 hval
  obtain ⟨fuel, hf⟩ := h
  have hC : Try.prog.cellsOf 54 = 1 := by kernel_rfl
  rcases open_slice Try.underlying53 hf with ⟨hcs, hx⟩ | ⟨a, len', cap', m, n, D, Pl, hcs, hb, hl, hm, hmm, hx, hi⟩
  · simp [Value.cells] at hcs
    obtain ⟨rfl, rfl, rfl⟩ := hcs
    exact ⟨[], [], .inl ⟨rfl, rfl⟩, rfl, fun i h1 => absurd h1 (by simp)⟩
  · simp [Value.cells] at hcs
    obtain ⟨rfl, rfl, rfl⟩ := hcs
    have hmc : len ≤ m := by
      rw [hmm]
      split
      · exact hl
      · exact Nat.le_refl _
    obtain ⟨vs, ways, hvl, hwl, hp⟩ := lists_of len (fun i v xs => W.cell? (a.add i) = some v ∧ Rd INT v xs W) fun i hil => by
      obtain ⟨cs', hc, ht'⟩ := hi i (by omega)
      rw [hC] at hc
      obtain ⟨v, rfl, xs, hr⟩ := rd_cells ht'
      obtain ⟨_, _, hat⟩ := World.cells?_some hc
      have := hat 0 (by simp)
      rw [Go.Deep.add_add] at this
      refine ⟨v, xs, ?_, hr⟩
      simpa using this
    refine ⟨ways, vs, .inr ⟨a, cap, by rw [hvl], fun h0 => ?_, by rw [hvl]; exact hl, hm, fun i h => (hp i h (by omega)).1⟩, by rw [hvl, hwl], fun i h1 h2 => (hp i h1 h2).2⟩
    have := cell_block (hp 0 h0 (by omega)).1
    rwa [add_block] at this
end Go.Proofs.Ytijgopcddjnfdaa
