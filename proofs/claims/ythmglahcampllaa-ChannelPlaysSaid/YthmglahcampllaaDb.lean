/- What is proved here: plainly, what the program's rounds find, and what the reference's do. -/
import Derived.Test.YthmglahcampllaaDa
namespace Go.Proofs.Ythmglahcampllaa
namespace Df
/-- Times, which wish moved each last, and what was moved last in this round. -/
structure St where
  x : List Int
  b : List Int
  last : Int
def relax (s : St) (i : Nat) (a : Af) : St :=
  if at_ s.x (bJ a) < at_ s.x (bI a) + bG a then ⟨s.x.set (bJ a) (at_ s.x (bI a) + bG a), s.b.set (bJ a) i, bJ a⟩ else s
def elt (l : List Af) (i : Nat) : Af := l.getD i (0, 0, 0)
def upto (l : List Af) (s : St) : Nat → St
  | 0 => s
  | k + 1 => relax (upto l s k) k (elt l k)
def rnd (n : Nat) (l : List Af) : Nat → St
  | 0 => ⟨List.replicate n 0, List.replicate n 0, -1⟩
  | r + 1 => upto l { rnd n l r with last := -1 } l.length
/-- How the pushing ends: behind r rounds, of which only the last one may have moved nothing. -/
structure Pushed (n : Nat) (l : List Af) (s : St) : Prop where
  ex : ∃ r, 1 ≤ r ∧ r ≤ n + 1 ∧ s = rnd n l r ∧ (s.last < 0 ∨ r = n + 1) ∧ ∀ q, 1 ≤ q → q < r → 0 ≤ (rnd n l q).last

theorem relax_len (s : St) (i : Nat) (a : Af) : (relax s i a).x.length = s.x.length ∧ (relax s i a).b.length = s.b.length := by
  unfold relax; split <;> simp
theorem upto_len (l : List Af) (s : St) : ∀ k, (upto l s k).x.length = s.x.length ∧ (upto l s k).b.length = s.b.length := by
  intro k
  induction k with
  | zero => exact ⟨rfl, rfl⟩
  | succ k ih =>
    have := relax_len (upto l s k) k (elt l k)
    exact ⟨this.1.trans ih.1, this.2.trans ih.2⟩
theorem rnd_len (n : Nat) (l : List Af) : ∀ r, (rnd n l r).x.length = n ∧ (rnd n l r).b.length = n := by
  intro r
  induction r with
  | zero => exact ⟨by simp [rnd], by simp [rnd]⟩
  | succ r ih =>
    have := upto_len l { rnd n l r with last := -1 } l.length
    exact ⟨this.1.trans ih.1, this.2.trans ih.2⟩
theorem at_set (x : List Int) (i j : Nat) (v : Int) (h : i < x.length) : at_ (x.set i v) j = if i = j then v else at_ x j := by
  unfold at_
  simp only [List.getD_eq_getElem?_getD, List.getElem?_set]
  split
  · simp
  · rfl
theorem elt_mem {l : List Af} {k : Nat} (h : k < l.length) : elt l k ∈ l := by
  unfold elt
  rw [List.getD_eq_getElem?_getD, List.getElem?_eq_getElem h]
  exact List.getElem_mem h
theorem elt_get {l : List Af} {k : Nat} (h : k < l.length) : elt l k = l[k] := by
  unfold elt
  rw [List.getD_eq_getElem?_getD, List.getElem?_eq_getElem h]
  rfl
theorem mem_elt {l : List Af} {a : Af} (h : a ∈ l) : ∃ k, k < l.length ∧ elt l k = a := by
  obtain ⟨k, hk, e⟩ := List.getElem_of_mem h
  exact ⟨k, hk, by rw [elt_get hk, e]⟩
theorem relax_mono {n : Nat} (s : St) (i : Nat) (a : Af) (hx : s.x.length = n) (hj : bJ a < n) (j : Nat) : at_ s.x j ≤ at_ (relax s i a).x j := by
  unfold relax
  split
  · rename_i h
    simp only
    rw [at_set _ _ _ _ (by omega)]
    split
    · rename_i e; subst e; omega
    · exact Int.le_refl _
  · exact Int.le_refl _
theorem relax_ok {n : Nat} (s : St) (i : Nat) (a : Af) (hx : s.x.length = n) (hj : bJ a < n) : at_ s.x (bI a) + bG a ≤ at_ (relax s i a).x (bJ a) := by
  unfold relax
  split
  · simp only
    rw [at_set _ _ _ _ (by omega), if_pos rfl]
    exact Int.le_refl _
  · omega
section
variable {n : Nat} {l : List Af}
theorem upto_mono (hf : ∀ a ∈ l, Fit n a) {s : St} (hx : s.x.length = n) (j : Nat) : ∀ k m, k ≤ m → m ≤ l.length → at_ (upto l s k).x j ≤ at_ (upto l s m).x j := by
  intro k m hkm
  induction hkm with
  | refl => intro _; exact Int.le_refl _
  | @step m _ ih =>
    intro hm
    have := ih (by omega)
    have h2 := relax_mono (upto l s m) m (elt l m) ((upto_len l s m).1.trans hx) (fit_lt (hf _ (elt_mem (by omega)))).2 j
    exact Int.le_trans this h2
theorem upto_below (hf : ∀ a ∈ l, Fit n a) {s : St} (hx : s.x.length = n) {y : Nat → Int} (hy : sol n l y) (h0 : ∀ j, j < n → at_ s.x j ≤ y j) : ∀ k, k ≤ l.length → ∀ j, j < n → at_ (upto l s k).x j ≤ y j := by
  intro k
  induction k with
  | zero => intro _; exact h0
  | succ k ih =>
    intro hk j hj
    have ih := ih (by omega)
    have hm := elt_mem (l := l) (by omega : k < l.length)
    have hlt := fit_lt (hf _ hm)
    have e := hy.2 _ hm
    have b := ih _ hlt.1
    show at_ (relax (upto l s k) k (elt l k)).x j ≤ y j
    unfold relax
    split
    · simp only
      rw [at_set _ _ _ _ (by rw [(upto_len l s k).1]; omega)]
      split
      · rename_i e2; subst e2; omega
      · exact ih j hj
    · exact ih j hj
theorem rounds_of (hf : ∀ a ∈ l, Fit n a) : Rounds n l (fun r j => at_ (rnd n l r).x j) where
  zero := fun j hj => by simp [rnd, at_, hj]
  mono := fun k j => upto_mono hf (s := { rnd n l k with last := -1 }) (rnd_len n l k).1 j 0 l.length (Nat.zero_le _) (Nat.le_refl _)
  step := fun r a ha => by
    obtain ⟨k, hk, rfl⟩ := mem_elt ha
    have hlt := fit_lt (hf _ ha)
    have h1 := upto_mono hf (s := { rnd n l r with last := -1 }) (rnd_len n l r).1 (bI (elt l k)) 0 k (Nat.zero_le _) (by omega)
    have h2 := relax_ok (upto l { rnd n l r with last := -1 } k) k (elt l k) ((upto_len l _ k).1.trans (rnd_len n l r).1) hlt.2
    have h3 := upto_mono hf (s := { rnd n l r with last := -1 }) (rnd_len n l r).1 (bJ (elt l k)) (k + 1) l.length (by omega) (Nat.le_refl _)
    have h4 : at_ (upto l { rnd n l r with last := -1 } 0).x (bI (elt l k)) = at_ (rnd n l r).x (bI (elt l k)) := rfl
    have h5 : at_ (upto l { rnd n l r with last := -1 } (k + 1)).x (bJ (elt l k)) = at_ (relax (upto l { rnd n l r with last := -1 } k) k (elt l k)).x (bJ (elt l k)) := rfl
    show at_ (rnd n l r).x (bI (elt l k)) + bG (elt l k) ≤ at_ (upto l { rnd n l r with last := -1 } l.length).x (bJ (elt l k))
    omega
  below := fun y hy k => by
    induction k with
    | zero => intro j hj; have := hy.1 j hj; simpa [rnd, at_, hj] using this
    | succ k ih => exact upto_below hf (s := { rnd n l k with last := -1 }) (rnd_len n l k).1 hy ih l.length (Nat.le_refl _)
/-- A round in which nothing moves is one whose times hold all; and the other way round. -/
theorem upto_still {s : St} (h : holds l (at_ s.x)) : ∀ k, k ≤ l.length → upto l s k = s := by
  intro k
  induction k with
  | zero => intro _; rfl
  | succ k ih =>
    intro hk
    have e := h _ (elt_mem (l := l) (by omega : k < l.length))
    show relax (upto l s k) k (elt l k) = s
    rw [ih (by omega)]
    unfold relax
    rw [if_neg (by omega)]
theorem upto_last (s : St) : ∀ k, (upto l s k).last < 0 → s.last < 0 ∧ upto l s k = s ∧ ∀ i, i < k → at_ s.x (bI (elt l i)) + bG (elt l i) ≤ at_ s.x (bJ (elt l i)) := by
  intro k
  induction k with
  | zero => intro h; exact ⟨h, rfl, fun i hi => absurd hi (Nat.not_lt_zero _)⟩
  | succ k ih =>
    intro h
    have e : upto l s (k + 1) = relax (upto l s k) k (elt l k) := rfl
    rw [e] at h ⊢
    unfold relax at h ⊢
    split at h
    · simp only at h
      omega
    · rename_i hn
      obtain ⟨h1, h2, h3⟩ := ih h
      rw [if_neg hn]
      refine ⟨h1, h2, fun i hi => ?_⟩
      by_cases e2 : i = k
      · subst e2
        rw [h2] at hn
        omega
      · exact h3 i (by omega)
theorem rnd_last {r : Nat} (h : (rnd n l (r + 1)).last < 0) : holds l (at_ (rnd n l (r + 1)).x) ∧ (rnd n l (r + 1)).x = (rnd n l r).x := by
  obtain ⟨_, h2, h3⟩ := upto_last (l := l) { rnd n l r with last := -1 } l.length h
  have e : (rnd n l (r + 1)).x = (rnd n l r).x := by
    show (upto l { rnd n l r with last := -1 } l.length).x = _
    rw [h2]
  refine ⟨fun a ha => ?_, e⟩
  obtain ⟨k, hk, rfl⟩ := mem_elt ha
  rw [e]
  exact h3 k hk
/-- The program's end: times that hold all, the least ones; or there are none. -/
theorem Pushed.yes {s : St} (hf : ∀ a ∈ l, Fit n a) (h : Pushed n l s) (hl : s.last < 0) : sol n l (at_ s.x) ∧ ∀ y, sol n l y → ∀ j, j < n → at_ s.x j ≤ y j := by
  obtain ⟨r, h1, h2, rfl, _, _⟩ := h.ex
  obtain ⟨r, rfl⟩ : ∃ q, r = q + 1 := ⟨r - 1, by omega⟩
  exact ⟨⟨fun j hj => (rounds_of hf).nn (r + 1) j hj, (rnd_last hl).1⟩, fun y hy j hj => (rounds_of hf).below y hy (r + 1) j hj⟩
theorem Pushed.no {s : St} (hf : ∀ a ∈ l, Fit n a) (h : Pushed n l s) (hl : ¬ s.last < 0) (y : Nat → Int) : ¬ sol n l y := by
  intro hy
  obtain ⟨r, h1, h2, rfl, h3, _⟩ := h.ex
  obtain rfl : r = n + 1 := by
    rcases h3 with h3 | h3
    · exact absurd h3 hl
    · exact h3
  have hh := (rounds_of hf).found hf hy
  refine hl ?_
  show (upto l { rnd n l n with last := -1 } l.length).last < 0
  rw [upto_still (s := { rnd n l n with last := -1 }) hh l.length (Nat.le_refl _)]
  show (-1 : Int) < 0
  omega
/-! sizes -/
theorem upto_bd (hf : ∀ a ∈ l, Fit n a) {s : St} (hx : s.x.length = n) {M : Int} (h0 : ∀ j, at_ s.x j ≤ M) (_hM : 0 ≤ M) : ∀ k : Nat, k ≤ l.length → ∀ j, at_ (upto l s k).x j ≤ M + 1073741824 * k := by
  intro k
  induction k with
  | zero => intro _ j; have := h0 j; show at_ s.x j ≤ _; omega
  | succ k ih =>
    intro hk j
    have ih := ih (by omega)
    have hft := hf _ (elt_mem (l := l) (by omega : k < l.length))
    have hG : bG (elt l k) ≤ 1073741824 := hft.2.2.2.2.2
    have b1 := ih (bI (elt l k))
    have b2 := ih j
    show at_ (relax (upto l s k) k (elt l k)).x j ≤ _
    unfold relax
    split
    · simp only
      rw [at_set _ _ _ _ (by rw [(upto_len l s k).1, hx]; exact (fit_lt hft).2)]
      split <;> omega
    · omega
theorem rnd_bd (hf : ∀ a ∈ l, Fit n a) (hl : l.length ≤ 256) : ∀ r : Nat, ∀ j, at_ (rnd n l r).x j ≤ 274877906944 * r := by
  intro r
  induction r with
  | zero =>
    intro j
    show at_ (List.replicate n 0) j ≤ _
    unfold at_
    rw [List.getD_eq_getElem?_getD, List.getElem?_replicate]
    split <;> simp
  | succ r ih =>
    intro j
    have := upto_bd hf (s := { rnd n l r with last := -1 }) (rnd_len n l r).1 (M := 274877906944 * r) ih (by omega) l.length (Nat.le_refl _) j
    show at_ (upto l { rnd n l r with last := -1 } l.length).x j ≤ _
    omega
theorem rnd_nn (hf : ∀ a ∈ l, Fit n a) (r k : Nat) (hk : k ≤ l.length) (j : Nat) : 0 ≤ at_ (upto l { rnd n l r with last := -1 } k).x j := by
  by_cases hj : j < n
  · have h1 := (rounds_of hf).nn r j hj
    have h2 := upto_mono hf (s := { rnd n l r with last := -1 }) (rnd_len n l r).1 j 0 k (Nat.zero_le _) hk
    exact Int.le_trans h1 h2
  · unfold at_
    rw [List.getD_eq_getElem?_getD, List.getElem?_eq_none (by rw [(upto_len l _ k).1]; show (rnd n l r).x.length ≤ j; rw [(rnd_len n l r).1]; omega)]
    exact Int.le_refl _
theorem upto_sz (hf : ∀ a ∈ l, Fit n a) (hl : l.length ≤ 256) (hn : n ≤ 64) (r k : Nat) (hr : r ≤ n) (hk : k ≤ l.length) (j : Nat) : 0 ≤ at_ (upto l { rnd n l r with last := -1 } k).x j ∧ at_ (upto l { rnd n l r with last := -1 } k).x j ≤ 17867063951360 := by
  have := upto_bd hf (s := { rnd n l r with last := -1 }) (rnd_len n l r).1 (M := 274877906944 * r) (rnd_bd hf hl r) (by omega) k hk j
  have h0 := rnd_nn hf r k hk j
  omega
end
/-! the reference -/
section
variable {n : Nat} {l : List Af}
/-- One round of the reference, up to wish k: the next times, and whether any moved. -/
def jup (l : List Af) (x : List Int) : Nat → List Int × Bool
  | 0 => (x, false)
  | k + 1 => let p := jup l x k; if at_ p.1 (bJ (elt l k)) < at_ x (bI (elt l k)) + bG (elt l k) then (p.1.set (bJ (elt l k)) (at_ x (bI (elt l k)) + bG (elt l k)), true) else p
def jx (n : Nat) (l : List Af) : Nat → List Int
  | 0 => List.replicate n 0
  | r + 1 => (jup l (jx n l r) l.length).1
theorem jup_len (x : List Int) : ∀ k, (jup l x k).1.length = x.length := by
  intro k
  induction k with
  | zero => rfl
  | succ k ih => unfold jup; simp only; split <;> simp [ih]
theorem jx_len : ∀ r, (jx n l r).length = n := by
  intro r
  induction r with
  | zero => simp [jx]
  | succ r ih => exact (jup_len _ _).trans ih
theorem jup_mono1 (hf : ∀ a ∈ l, Fit n a) {x : List Int} (hx : x.length = n) (j k : Nat) (hk : k < l.length) : at_ (jup l x k).1 j ≤ at_ (jup l x (k + 1)).1 j := by
  have hlt := fit_lt (hf _ (elt_mem hk))
  show _ ≤ at_ (if _ then _ else _ : List Int × Bool).1 j
  split
  · rename_i h
    simp only
    rw [at_set _ _ _ _ (by rw [jup_len, hx]; exact hlt.2)]
    split
    · rename_i e; subst e; omega
    · exact Int.le_refl _
  · exact Int.le_refl _
theorem jup_mono (hf : ∀ a ∈ l, Fit n a) {x : List Int} (hx : x.length = n) (j : Nat) : ∀ k m, k ≤ m → m ≤ l.length → at_ (jup l x k).1 j ≤ at_ (jup l x m).1 j := by
  intro k m hkm
  induction hkm with
  | refl => intro _; exact Int.le_refl _
  | @step m _ ih => intro hm; exact Int.le_trans (ih (by omega)) (jup_mono1 hf hx j m (by omega))
theorem jup_ok (hf : ∀ a ∈ l, Fit n a) {x : List Int} (hx : x.length = n) (k : Nat) (hk : k < l.length) : at_ x (bI (elt l k)) + bG (elt l k) ≤ at_ (jup l x (k + 1)).1 (bJ (elt l k)) := by
  have hlt := fit_lt (hf _ (elt_mem hk))
  show _ ≤ at_ (if _ then _ else _ : List Int × Bool).1 _
  split
  · simp only
    rw [at_set _ _ _ _ (by rw [jup_len, hx]; exact hlt.2), if_pos rfl]
    exact Int.le_refl _
  · omega
theorem jup_below (hf : ∀ a ∈ l, Fit n a) {x : List Int} (hx : x.length = n) {y : Nat → Int} (hy : sol n l y) (h0 : ∀ j, j < n → at_ x j ≤ y j) : ∀ k, k ≤ l.length → ∀ j, j < n → at_ (jup l x k).1 j ≤ y j := by
  intro k
  induction k with
  | zero => intro _; exact h0
  | succ k ih =>
    intro hk j hj
    have ih := ih (by omega)
    have hm := elt_mem (l := l) (by omega : k < l.length)
    have hlt := fit_lt (hf _ hm)
    have e := hy.2 _ hm
    have b := h0 _ hlt.1
    show at_ (if _ then _ else _ : List Int × Bool).1 j ≤ y j
    split
    · simp only
      rw [at_set _ _ _ _ (by rw [jup_len]; omega)]
      split
      · rename_i e2; subst e2; omega
      · exact ih j hj
    · exact ih j hj
theorem jrounds_of (hf : ∀ a ∈ l, Fit n a) : Rounds n l (fun r j => at_ (jx n l r) j) where
  zero := fun j hj => by simp [jx, at_, hj]
  mono := fun k j => jup_mono hf (jx_len k) j 0 l.length (Nat.zero_le _) (Nat.le_refl _)
  step := fun r a ha => by
    obtain ⟨k, hk, rfl⟩ := mem_elt ha
    have h2 := jup_ok hf (jx_len (l := l) r) k hk
    have h3 := jup_mono hf (jx_len (l := l) r) (bJ (elt l k)) (k + 1) l.length (by omega) (Nat.le_refl _)
    exact Int.le_trans h2 h3
  below := fun y hy k => by
    induction k with
    | zero => intro j hj; have := hy.1 j hj; simpa [jx, at_, hj] using this
    | succ k ih => exact jup_below hf (jx_len k) hy ih l.length (Nat.le_refl _)
theorem jup_still {x : List Int} (h : holds l (at_ x)) : ∀ k, k ≤ l.length → jup l x k = (x, false) := by
  intro k
  induction k with
  | zero => intro _; rfl
  | succ k ih =>
    intro hk
    have e := h _ (elt_mem (l := l) (by omega : k < l.length))
    unfold jup
    rw [ih (by omega)]
    simp only
    rw [if_neg (by omega)]
theorem jup_no {x : List Int} : ∀ k, k ≤ l.length → (jup l x k).2 = false → (jup l x k).1 = x ∧ ∀ i, i < k → at_ x (bI (elt l i)) + bG (elt l i) ≤ at_ x (bJ (elt l i)) := by
  intro k
  induction k with
  | zero => intro _ _; exact ⟨rfl, fun i hi => absurd hi (Nat.not_lt_zero _)⟩
  | succ k ih =>
    intro hk h
    unfold jup at h ⊢
    simp only at h ⊢
    split at h
    · cases h
    · rename_i hn
      obtain ⟨h1, h2⟩ := ih (by omega) h
      rw [if_neg hn]
      refine ⟨h1, fun i hi => ?_⟩
      by_cases e2 : i = k
      · subst e2
        rw [h1] at hn
        omega
      · exact h2 i (by omega)
/-- How the reference ends. -/
def JEnd (n : Nat) (l : List Af) (o : Option (List Int)) : Prop :=
  (∃ k, k ≤ n ∧ (jup l (jx n l k) l.length).2 = false ∧ o = some (jx n l k)) ∨ (o = none ∧ ∀ k, k ≤ n → (jup l (jx n l k) l.length).2 = true)
theorem JEnd.yes {x : List Int} (hf : ∀ a ∈ l, Fit n a) (h : JEnd n l (some x)) : x.length = n ∧ sol n l (at_ x) ∧ ∀ y, sol n l y → ∀ j, j < n → at_ x j ≤ y j := by
  rcases h with ⟨k, hk, h1, h2⟩ | ⟨h1, _⟩
  · cases h2
    obtain ⟨_, h3⟩ := jup_no l.length (Nat.le_refl _) h1
    refine ⟨jx_len k, ⟨fun j hj => (jrounds_of hf).nn k j hj, fun a ha => ?_⟩, fun y hy j hj => (jrounds_of hf).below y hy k j hj⟩
    obtain ⟨i, hi, rfl⟩ := mem_elt ha
    exact h3 i hi
  · cases h1
theorem JEnd.no (hf : ∀ a ∈ l, Fit n a) (h : JEnd n l none) (y : Nat → Int) : ¬ sol n l y := by
  intro hy
  rcases h with ⟨k, hk, h1, h2⟩ | ⟨_, h1⟩
  · cases h2
  · have hh := (jrounds_of hf).found hf hy
    have := h1 n (Nat.le_refl _)
    rw [jup_still hh l.length (Nat.le_refl _)] at this
    cases this
theorem jup_bd (hf : ∀ a ∈ l, Fit n a) {x : List Int} (hx : x.length = n) {M : Int} (h0 : ∀ j, at_ x j ≤ M) : ∀ k : Nat, k ≤ l.length → ∀ j, at_ (jup l x k).1 j ≤ M + 1073741824 := by
  intro k
  induction k with
  | zero => intro _ j; have := h0 j; show at_ x j ≤ _; omega
  | succ k ih =>
    intro hk j
    have ih := ih (by omega)
    have hft := hf _ (elt_mem (l := l) (by omega : k < l.length))
    have hG : bG (elt l k) ≤ 1073741824 := hft.2.2.2.2.2
    have b1 := h0 (bI (elt l k))
    have b2 := ih j
    show at_ (if _ then _ else _ : List Int × Bool).1 j ≤ _
    split
    · simp only
      rw [at_set _ _ _ _ (by rw [jup_len, hx]; exact (fit_lt hft).2)]
      split <;> omega
    · omega
theorem jx_bd (hf : ∀ a ∈ l, Fit n a) : ∀ r : Nat, ∀ j, at_ (jx n l r) j ≤ 1073741824 * r := by
  intro r
  induction r with
  | zero =>
    intro j
    show at_ (List.replicate n 0) j ≤ _
    unfold at_
    rw [List.getD_eq_getElem?_getD, List.getElem?_replicate]
    split <;> simp
  | succ r ih =>
    intro j
    have := jup_bd hf (jx_len (l := l) r) (M := 1073741824 * r) ih l.length (Nat.le_refl _) j
    show at_ (jup l (jx n l r) l.length).1 j ≤ _
    omega
theorem jup_nn (hf : ∀ a ∈ l, Fit n a) (r k : Nat) (hk : k ≤ l.length) (j : Nat) : 0 ≤ at_ (jup l (jx n l r) k).1 j := by
  by_cases hj : j < n
  · have h1 := (jrounds_of hf).nn r j hj
    have h2 := jup_mono hf (jx_len (l := l) r) j 0 k (Nat.zero_le _) hk
    exact Int.le_trans h1 h2
  · unfold at_
    rw [List.getD_eq_getElem?_getD, List.getElem?_eq_none (by rw [jup_len, jx_len]; omega)]
    exact Int.le_refl _
/-- The same times, or both none. -/
theorem same_end {s : St} {o : Option (List Int)} (hf : ∀ a ∈ l, Fit n a) (h : Pushed n l s) (hj : JEnd n l o) : (s.last < 0 ∧ o = some s.x) ∨ (¬ s.last < 0 ∧ o = none) := by
  by_cases hl : s.last < 0
  · obtain ⟨h1, h2⟩ := h.yes hf hl
    cases o with
    | none => exact absurd h1 (hj.no hf _)
    | some x =>
      obtain ⟨g0, g1, g2⟩ := hj.yes hf
      refine .inl ⟨hl, congrArg some ?_⟩
      have hs : s.x.length = n := by
        obtain ⟨r, _, _, rfl, _⟩ := h.ex
        exact (rnd_len n l r).1
      refine List.ext_getElem (by rw [g0, hs]) fun i hi hi' => ?_
      have a1 := h2 _ g1 i (by omega)
      have a2 := g2 _ h1 i (by omega)
      have e1 : at_ x i = x[i] := by unfold at_; rw [List.getD_eq_getElem?_getD, List.getElem?_eq_getElem hi]; rfl
      have e2 : at_ s.x i = s.x[i] := by unfold at_; rw [List.getD_eq_getElem?_getD, List.getElem?_eq_getElem hi']; rfl
      rw [← e1, ← e2]
      omega
  · cases o with
    | none => exact .inr ⟨hl, rfl⟩
    | some x =>
      obtain ⟨_, g1, _⟩ := hj.yes hf
      exact absurd g1 (h.no hf hl _)
end
end Df
end Go.Proofs.Ythmglahcampllaa
