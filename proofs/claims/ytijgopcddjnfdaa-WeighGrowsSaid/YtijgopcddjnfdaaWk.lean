/- What is proved here: plainly, that a longer way costs no less, and that a link that is down costs infinity. -/
import Derived.Test.YtijgopcddjnfdaaWj
namespace Go.Proofs.Ytijgopcddjnfdaa
namespace Fl
theorem cost_of_le {x : Nat} (h : x ≤ 9218868437227405312) : cost x = true := by
  simp only [cost, Bool.or_eq_true, decide_eq_true_eq]
  omega
theorem rung_of_le {x : Nat} (h : x ≤ 9218868437227405312) : rung x = x := by unfold rung; omega
theorem clean_cost {x : Nat} (h : cost x = true) : clean x = x := by
  rcases clean_or x with ⟨h1, _⟩ | ⟨_, e⟩
  · rw [nan_cost h] at h1; cases h1
  · exact e
theorem plusF_plus {x y : Nat} (hx : cost x = true) (hy : cost y = true) : plusF x y = plus x y := by
  obtain ⟨r, hr, hc⟩ := add_cost hx hy
  have hcr : cost r = true := by
    rcases hc with rfl | ⟨rfl, _⟩
    · exact plus_cost _ _
    · decide
  have e : cadd x y = r := by
    unfold cadd
    rw [hr]
    exact clean_cost hcr
  unfold plusF
  rw [e]
  have hw : W64 r := lt_of hcr
  have hq := eq_iff hw w_zero
  rcases hc with rfl | ⟨rfl, h0⟩
  · split
    · rename_i h
      have h3 := (hq.1 h).2.2
      have h4 := plus_le x y
      rw [pl_cost hcr, rung_of_le h4, pl_zero] at h3
      omega
    · rfl
  · rw [if_pos (hq.2 ⟨nan_cost hcr, nan_zero, by decide⟩), h0]
theorem wat_cost {bs : List Nat} (hb : bs.all cost = true) {x : Int} (h : hasB bs.length x = true) : cost (wat bs x) = true := by
  have h := hasB_iff.1 h
  have hl : x.toNat < bs.length := by omega
  unfold wat
  rw [List.getD_eq_getElem?_getD, List.getElem?_eq_getElem hl]
  exact List.all_eq_true.1 hb _ (List.getElem_mem hl)
theorem allB_cons {n : Nat} {x : Int} {r : List Int} : allB n (x :: r) = (hasB n x && allB n r) := rfl
theorem allB_app {n : Nat} {a b : List Int} : allB n (a ++ b) = (allB n a && allB n b) := by unfold allB; rw [List.all_append]
theorem rwalkF_le {bs : List Nat} (hb : bs.all cost = true) : ∀ {l : List Int}, allB bs.length l = true → rwalkF bs l ≤ 9218868437227405312 := by
  intro l
  induction l with
  | nil => intro _; exact Nat.zero_le _
  | cons x r ih =>
    intro h
    rw [allB_cons, Bool.and_eq_true] at h
    show plusF _ _ ≤ _
    rw [plusF_plus (wat_cost hb h.1) (cost_of_le (ih h.2))]
    exact plus_le _ _
theorem rwalkP_le {bs : List Nat} (hb : bs.all cost = true) (l : List Int) : rwalkP bs l ≤ 9218868437227405312 := by
  unfold rwalkP
  split
  · rename_i h; exact rwalkF_le hb h
  · exact Nat.le_refl _
theorem rwalkF_app {bs : List Nat} (hb : bs.all cost = true) {b : List Int} : ∀ {a : List Int}, allB bs.length a = true → allB bs.length b = true → rwalkF bs b ≤ rwalkF bs (a ++ b) := by
  intro a
  induction a with
  | nil => intro _ _; exact Nat.le_refl _
  | cons x r ih =>
    intro h hb2
    rw [allB_cons, Bool.and_eq_true] at h
    have h1 := ih h.2 hb2
    have hl : rwalkF bs (r ++ b) ≤ 9218868437227405312 := rwalkF_le hb (by rw [allB_app, h.2, hb2]; rfl)
    show _ ≤ plusF _ (rwalkF bs (r ++ b))
    rw [plusF_plus (wat_cost hb h.1) (cost_of_le hl), plus_comm]
    have h2 := le_plus (wat bs x) (cost_of_le hl)
    rw [rung_of_le hl] at h2
    omega
theorem rwalkP_app {bs : List Nat} (hb : bs.all cost = true) (a b : List Int) : rwalkP bs b ≤ rwalkP bs (a ++ b) := by
  cases h : allB bs.length (a ++ b) with
  | false =>
    have : rwalkP bs (a ++ b) = 9218868437227405312 := by unfold rwalkP; rw [h]; rfl
    rw [this]
    exact rwalkP_le hb b
  | true =>
    have h' := h
    rw [allB_app, Bool.and_eq_true] at h
    unfold rwalkP
    rw [if_pos h', if_pos h.2]
    exact rwalkF_app hb h.1 h.2
theorem not_lt {bs : List Nat} (hb : bs.all cost = true) (a b : List Int) : (FloatKind.f64.format.order (rwalkP bs (a ++ b)) (rwalkP bs b) == some Ordering.lt) = false := by
  cases h : (FloatKind.f64.format.order (rwalkP bs (a ++ b)) (rwalkP bs b) == some Ordering.lt) with
  | false => rfl
  | true =>
    have h1 := ((lt_iff (rwalkP_w _ _) (rwalkP_w _ _)).1 h).2.2
    have h2 := rwalkP_le hb (a ++ b)
    have h3 := rwalkP_le hb b
    have h4 := rwalkP_app hb a b
    rw [pl_cost (cost_of_le h2), pl_cost (cost_of_le h3), rung_of_le h2, rung_of_le h3] at h1
    omega
theorem down_inf {bs : List Nat} (hb : bs.all cost = true) : ∀ {l : List Int} {x : Int}, x ∈ l → allB bs.length l = true → wat bs x = 9218868437227405312 → rwalkF bs l = 9218868437227405312 := by
  intro l
  induction l with
  | nil => intro x h; cases h
  | cons y r ih =>
    intro x hx h hw
    rw [allB_cons, Bool.and_eq_true] at h
    have hl := rwalkF_le hb h.2
    show plusF _ _ = _
    rw [plusF_plus (wat_cost hb h.1) (cost_of_le hl)]
    rcases List.mem_cons.1 hx with rfl | hx
    · rw [hw, plus_inf_l]
    · rw [ih hx h.2 hw, plus_comm, plus_inf_l]
theorem cls_inf : cls 9218868437227405312 = 6 := by decide
theorem down {bs : List Nat} (hb : bs.all cost = true) {l : List Int} {x : Int} (hx : x ∈ l) (h : upB bs x = false) : cls (rwalkP bs l) = 6 := by
  cases ha : allB bs.length l with
  | false =>
    have : rwalkP bs l = 9218868437227405312 := by unfold rwalkP; rw [ha]; rfl
    rw [this, cls_inf]
  | true =>
    have hh : hasB bs.length x = true := List.all_eq_true.1 ha x hx
    have hc := wat_cost hb hh
    unfold upB at h
    rw [hh, Bool.true_and] at h
    have hw : wat bs x = 9218868437227405312 := by
      unfold cls at h
      rw [clean_cost hc] at h
      simp only [cost, Bool.or_eq_true, decide_eq_true_eq] at hc
      simp only [Bool.and_eq_false_iff, decide_eq_false_iff_not] at h
      unfold rcls at h
      generalize wat bs x = z at *
      repeat' split at h
      all_goals omega
    unfold rwalkP
    rw [if_pos ha, down_inf hb hx ha hw, cls_inf]
end Fl
end Go.Proofs.Ytijgopcddjnfdaa
