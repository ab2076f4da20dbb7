/- What is proved here: plainly, how times are pushed on until they hold all wishes, and when there are none. -/
namespace Go.Proofs.Ythmglahcampllaa
namespace Df
abbrev Af := Int × Int × Int
def bI (a : Af) : Nat := a.1.toNat
def bJ (a : Af) : Nat := a.2.1.toNat
def bG (a : Af) : Int := a.2.2
/-- A wish that may be. -/
def Fit (n : Nat) (a : Af) : Prop := 0 ≤ a.1 ∧ a.1 < n ∧ 0 ≤ a.2.1 ∧ a.2.1 < n ∧ -1073741824 ≤ a.2.2 ∧ a.2.2 ≤ 1073741824
instance (n : Nat) (a : Af) : Decidable (Fit n a) := by unfold Fit; exact inferInstance
def at_ (x : List Int) (i : Nat) : Int := x.getD i 0
def holds (l : List Af) (y : Nat → Int) : Prop := ∀ a ∈ l, y (bI a) + bG a ≤ y (bJ a)
def sol (n : Nat) (l : List Af) (y : Nat → Int) : Prop := (∀ j, j < n → 0 ≤ y j) ∧ holds l y
theorem fit_lt {n : Nat} {a : Af} (h : Fit n a) : bI a < n ∧ bJ a < n := by
  obtain ⟨h1, h2, h3, h4, _⟩ := h
  unfold bI bJ
  omega

/-! counting -/
def cnt (p : Nat → Bool) : Nat → Nat
  | 0 => 0
  | n + 1 => cnt p n + if p n then 1 else 0
theorem cnt_le (p : Nat → Bool) (n : Nat) : cnt p n ≤ n := by
  induction n with
  | zero => exact Nat.le_refl _
  | succ n ih => unfold cnt; split <;> omega
theorem cnt_mono {p q : Nat → Bool} : ∀ n, (∀ j, j < n → p j = true → q j = true) → cnt p n ≤ cnt q n := by
  intro n
  induction n with
  | zero => intro _; exact Nat.le_refl _
  | succ n ih =>
    intro h
    have := ih fun j hj => h j (by omega)
    unfold cnt
    have h1 := h n (by omega)
    cases hp : p n <;> cases hq : q n <;> simp_all <;> omega
theorem cnt_lt {p q : Nat → Bool} : ∀ n, (∀ j, j < n → p j = true → q j = true) → (∃ j, j < n ∧ p j = false ∧ q j = true) → cnt p n < cnt q n := by
  intro n
  induction n with
  | zero => rintro _ ⟨j, hj, _⟩; omega
  | succ n ih =>
    rintro h ⟨j, hj, h1, h2⟩
    unfold cnt
    by_cases e : j = n
    · subst e
      have := cnt_mono (p := p) (q := q) j fun i hi => h i (by omega)
      rw [h1, h2]
      simp
      omega
    · have := ih (fun i hi => h i (by omega)) ⟨j, by omega, h1, h2⟩
      have h3 := h n (by omega)
      cases hp : p n <;> cases hq : q n <;> simp_all <;> omega
theorem cnt_all {p : Nat → Bool} : ∀ n, cnt p n = n → ∀ j, j < n → p j = true := by
  intro n
  induction n with
  | zero => intro _ j hj; omega
  | succ n ih =>
    intro h j hj
    unfold cnt at h
    have hl := cnt_le p n
    cases hp : p n with
    | false => rw [hp] at h; simp at h; omega
    | true =>
      rw [hp] at h
      simp at h
      by_cases e : j = n
      · subst e; exact hp
      · exact ih (by omega) j (by omega)
theorem cnt_some {p : Nat → Bool} : ∀ n, cnt p n < n → ∃ j, j < n ∧ p j = false := by
  intro n
  induction n with
  | zero => intro h; omega
  | succ n ih =>
    intro h
    unfold cnt at h
    cases hp : p n with
    | false => exact ⟨n, by omega, hp⟩
    | true =>
      rw [hp] at h
      simp at h
      obtain ⟨j, hj, h1⟩ := ih (by omega)
      exact ⟨j, by omega, h1⟩
/-! the least solution -/
def tot (y : Nat → Int) : Nat → Int
  | 0 => 0
  | n + 1 => tot y n + y n
theorem tot_nn {y : Nat → Int} : ∀ n, (∀ j, j < n → 0 ≤ y j) → 0 ≤ tot y n := by
  intro n
  induction n with
  | zero => intro _; exact Int.le_refl _
  | succ n ih =>
    intro h
    have := ih fun j hj => h j (by omega)
    have := h n (by omega)
    unfold tot
    omega
theorem tot_le {y z : Nat → Int} : ∀ n, (∀ j, j < n → y j ≤ z j) → tot y n ≤ tot z n := by
  intro n
  induction n with
  | zero => intro _; exact Int.le_refl _
  | succ n ih =>
    intro h
    have := ih fun j hj => h j (by omega)
    have := h n (by omega)
    unfold tot
    omega
theorem tot_lt {y z : Nat → Int} : ∀ n, (∀ j, j < n → y j ≤ z j) → (∃ j, j < n ∧ y j < z j) → tot y n < tot z n := by
  intro n
  induction n with
  | zero => rintro _ ⟨j, hj, _⟩; omega
  | succ n ih =>
    rintro h ⟨j, hj, h1⟩
    have h2 := h n (by omega)
    unfold tot
    by_cases e : j = n
    · subst e
      have := tot_le (y := y) (z := z) j fun i hi => h i (by omega)
      omega
    · have := ih (fun i hi => h i (by omega)) ⟨j, by omega, h1⟩
      omega
theorem least_sol {n : Nat} {l : List Af} : ∀ (m : Nat) (y : Nat → Int), (tot y n).toNat ≤ m → sol n l y → ∃ z, sol n l z ∧ ∀ u, sol n l u → tot z n ≤ tot u n := by
  intro m
  induction m with
  | zero =>
    intro y hy hs
    refine ⟨y, hs, fun u hu => ?_⟩
    have := tot_nn n hu.1
    omega
  | succ m ih =>
    intro y hy hs
    by_cases h : ∃ u, sol n l u ∧ tot u n < tot y n
    · obtain ⟨u, hu, hlt⟩ := h
      have := tot_nn n hu.1
      exact ih u (by omega) hu
    · refine ⟨y, hs, fun u hu => ?_⟩
      have : ¬ tot u n < tot y n := fun hlt => h ⟨u, hu, hlt⟩
      omega
/-! a row of rounds -/
structure Rounds (n : Nat) (l : List Af) (X : Nat → Nat → Int) : Prop where
  zero : ∀ j, j < n → X 0 j = 0
  mono : ∀ k j, X k j ≤ X (k + 1) j
  step : ∀ k, ∀ a ∈ l, X k (bI a) + bG a ≤ X (k + 1) (bJ a)
  below : ∀ y, sol n l y → ∀ k j, j < n → X k j ≤ y j
theorem Rounds.nn {n : Nat} {l : List Af} {X : Nat → Nat → Int} (h : Rounds n l X) : ∀ k j, j < n → 0 ≤ X k j := by
  intro k
  induction k with
  | zero => intro j hj; rw [h.zero j hj]; exact Int.le_refl _
  | succ k ih => intro j hj; have := ih j hj; have := h.mono k j; omega
theorem Rounds.settle {n : Nat} {l : List Af} {X : Nat → Nat → Int} (hf : ∀ a ∈ l, Fit n a) (h : Rounds n l X) {y : Nat → Int} (hy : sol n l y) (hmin : ∀ u, sol n l u → tot y n ≤ tot u n) :
    ∀ k, k ≤ n → k ≤ cnt (fun j => decide (X k j = y j)) n := by
  intro k
  induction k with
  | zero => intro _; omega
  | succ k ih =>
    intro hk
    have h1 := ih (by omega)
    have hsub : ∀ j, j < n → decide (X k j = y j) = true → decide (X (k + 1) j = y j) = true := by
      intro j hj he
      have he : X k j = y j := of_decide_eq_true he
      have := h.mono k j
      have := h.below y hy (k + 1) j hj
      exact decide_eq_true (by omega)
    by_cases hall : cnt (fun j => decide (X k j = y j)) n = n
    · have := cnt_mono n hsub
      omega
    · have hle := cnt_le (fun j => decide (X k j = y j)) n
      obtain ⟨j0, hj0, hf0⟩ := cnt_some n (by omega : cnt (fun j => decide (X k j = y j)) n < n)
      have hex : ∃ j, j < n ∧ decide (X k j = y j) = false ∧ decide (X (k + 1) j = y j) = true := by
        refine Classical.byContradiction fun hno => ?_
        have hno' : ∀ j, j < n → ¬ X k j = y j → ¬ X (k + 1) j = y j := fun j hj h1 h2 => hno ⟨j, hj, decide_eq_false h1, decide_eq_true h2⟩
        let z : Nat → Int := fun j => if X k j = y j then y j else y j - 1
        have hz : sol n l z := by
          refine ⟨fun j hj => ?_, fun a ha => ?_⟩
          · show 0 ≤ if X k j = y j then y j else y j - 1
            have b1 := h.below y hy k j hj
            have b2 := h.nn k j hj
            split <;> omega
          · have hlt := fit_lt (hf a ha)
            have e1 := h.step k a ha
            have e2 := hy.2 a ha
            have e3 := h.below y hy (k + 1) (bJ a) hlt.2
            show (if X k (bI a) = y (bI a) then y (bI a) else y (bI a) - 1) + bG a ≤ if X k (bJ a) = y (bJ a) then y (bJ a) else y (bJ a) - 1
            have e4 := hno' (bJ a) hlt.2
            split
            · rename_i hi
              split
              · exact e2
              · rename_i hj
                have := e4 hj
                omega
            · split <;> omega
        have := hmin z hz
        have hlt : tot z n < tot y n := by
          refine tot_lt n (fun j _ => ?_) ⟨j0, hj0, ?_⟩
          · show (if X k j = y j then y j else y j - 1) ≤ y j
            split <;> omega
          · show (if X k j0 = y j0 then y j0 else y j0 - 1) < y j0
            rw [if_neg (of_decide_eq_false hf0)]
            omega
        omega
      have := cnt_lt n hsub hex
      omega
/-- If there are times at all, the n-th round has found the least ones. -/
theorem Rounds.found {n : Nat} {l : List Af} {X : Nat → Nat → Int} (hf : ∀ a ∈ l, Fit n a) (h : Rounds n l X) {y : Nat → Int} (hy : sol n l y) : holds l (X n) := by
  obtain ⟨z, hz, hmin⟩ := least_sol (n := n) (l := l) _ y (Nat.le_refl _) hy
  have hc := h.settle hf hz hmin n (Nat.le_refl _)
  have hl := cnt_le (fun j => decide (X n j = z j)) n
  have hall := cnt_all n (by omega : cnt (fun j => decide (X n j = z j)) n = n)
  intro a ha
  have hlt := fit_lt (hf a ha)
  have e1 : X n (bI a) = z (bI a) := of_decide_eq_true (hall _ hlt.1)
  have e2 : X n (bJ a) = z (bJ a) := of_decide_eq_true (hall _ hlt.2)
  rw [e1, e2]
  exact hz.2 a ha
end Df
end Go.Proofs.Ythmglahcampllaa
