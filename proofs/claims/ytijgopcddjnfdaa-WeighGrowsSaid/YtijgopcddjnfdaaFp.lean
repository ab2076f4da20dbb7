/- The plain laws of doubles: comparing tells what bits tell. -/
import Derived.Test.YtijgopcddjnfdaaFb
namespace Go.Proofs.Ytijgopcddjnfdaa.Fl
open Go Go.RowKit

theorem ord {x y : Nat} (hx : W64 x) (hy : W64 y) : FloatKind.f64.format.order x y = if nan x = true ∨ nan y = true then none else some (if pl x < pl y then .lt else if pl x = pl y then .eq else .gt) := by
  show Ieee.double.order x y = _
  split
  · rename_i h; exact order_nan h
  · rename_i h
    have h1 : nan x = false := by cases e : nan x; rfl; exact absurd (.inl e) h
    have h2 : nan y = false := by cases e : nan y; rfl; exact absurd (.inr e) h
    exact order_eq hx hy h1 h2
theorem nan_iff {x : Nat} : nan x = true ↔ 9218868437227405312 < x % 9223372036854775808 := by simp [nan]
theorem nan_no {x : Nat} : nan x = false ↔ x % 9223372036854775808 ≤ 9218868437227405312 := by simp [nan]
theorem w_one : W64 one := by unfold W64 one; omega
theorem w_zero : W64 0 := by unfold W64; omega
theorem w_inf : W64 9218868437227405312 := by unfold W64; omega
theorem w_ninf : W64 18442240474082181120 := by unfold W64; omega
theorem w_maxf : W64 9218868437227405311 := by unfold W64; omega
theorem pl_eq (x : Nat) : (x < 9223372036854775808 ∧ pl x = (x : Int)) ∨ (9223372036854775808 ≤ x ∧ pl x = 9223372036854775808 - (x : Int)) := by
  unfold pl
  by_cases h : x < 9223372036854775808
  · rw [if_pos h]; exact .inl ⟨h, rfl⟩
  · rw [if_neg h]; exact .inr ⟨by omega, rfl⟩
theorem lt_iff {x y : Nat} (hx : W64 x) (hy : W64 y) : (FloatKind.f64.format.order x y == some Ordering.lt) = true ↔ nan x = false ∧ nan y = false ∧ pl x < pl y := by
  rw [ord hx hy]
  by_cases h1 : nan x = true
  · simp [h1]
  by_cases h2 : nan y = true
  · simp [h2]
  have h1' : nan x = false := by simpa using h1
  have h2' : nan y = false := by simpa using h2
  simp only [h1', h2', Bool.false_eq_true, or_self, if_false, true_and]
  by_cases a : pl x < pl y
  · simp [a]
  · by_cases b : pl x = pl y
    · simp [b]
    · simp [a, b]
theorem gt_iff {x y : Nat} (hx : W64 x) (hy : W64 y) : (FloatKind.f64.format.order x y == some Ordering.gt) = true ↔ nan x = false ∧ nan y = false ∧ pl y < pl x := by
  rw [ord hx hy]
  by_cases h1 : nan x = true
  · simp [h1]
  by_cases h2 : nan y = true
  · simp [h2]
  have h1' : nan x = false := by simpa using h1
  have h2' : nan y = false := by simpa using h2
  simp only [h1', h2', Bool.false_eq_true, or_self, if_false, true_and]
  by_cases a : pl x < pl y
  · simp [a]; omega
  · by_cases b : pl x = pl y
    · simp [b]
    · simp [a, b]; omega
theorem eq_iff {x y : Nat} (hx : W64 x) (hy : W64 y) : (FloatKind.f64.format.order x y == some Ordering.eq) = true ↔ nan x = false ∧ nan y = false ∧ pl x = pl y := by
  rw [ord hx hy]
  by_cases h1 : nan x = true
  · simp [h1]
  by_cases h2 : nan y = true
  · simp [h2]
  have h1' : nan x = false := by simpa using h1
  have h2' : nan y = false := by simpa using h2
  simp only [h1', h2', Bool.false_eq_true, or_self, if_false, true_and]
  by_cases a : pl x < pl y
  · simp [a]; omega
  · by_cases b : pl x = pl y
    · simp [b]
    · simp [a, b]
theorem ne_iff {x : Nat} (hx : W64 x) : (FloatKind.f64.format.order x x != some Ordering.eq) = nan x := by
  have := eq_iff hx hx
  cases h : nan x with
  | true =>
    have e : (FloatKind.f64.format.order x x == some Ordering.eq) = false := by
      cases e : (FloatKind.f64.format.order x x == some Ordering.eq) with
      | false => rfl
      | true => rw [this.1 e |>.1] at h; cases h
    simp only [bne, e, Bool.not_false]
  | false => simp only [bne, this.2 ⟨h, h, rfl⟩, Bool.not_true]
theorem sel_eq {x : Nat} (hx : W64 x) : sel x = clean x := by
  unfold sel clean
  rw [ne_iff hx]
theorem cln_eq (x : Nat) : cln x = clean x := by
  unfold cln clean
  by_cases h : nan x = true
  · have := nan_iff.1 h
    rw [if_pos h, if_pos (by omega)]
  · have h' : nan x = false := by simpa using h
    have := nan_no.1 h'
    rw [if_neg h, if_neg (by omega)]
theorem clean_or (x : Nat) : (nan x = true ∧ clean x = one) ∨ (nan x = false ∧ clean x = x) := by
  unfold clean
  cases h : nan x
  · exact .inr ⟨rfl, by simp⟩
  · exact .inl ⟨rfl, by simp⟩
theorem clean_w {x : Nat} (hx : W64 x) : W64 (clean x) := by
  rcases clean_or x with ⟨_, e⟩ | ⟨_, e⟩ <;> rw [e]
  · exact w_one
  · exact hx
theorem nan_one : nan one = true := by decide
theorem clean_clean (x : Nat) : clean (clean x) = clean x := by
  rcases clean_or x with ⟨h, e⟩ | ⟨h, e⟩
  · rw [e]; decide
  · rw [e, e]
theorem nan_clean (x : Nat) : nan (clean x) = nan x := by
  rcases clean_or x with ⟨h, e⟩ | ⟨h, e⟩
  · rw [e, h]; decide
  · rw [e]

theorem neg_eq {x : Nat} (hx : W64 x) : (x < 9223372036854775808 ∧ neg x = x + 9223372036854775808) ∨ (9223372036854775808 ≤ x ∧ neg x = x - 9223372036854775808) := by
  have hx' : x < 2 ^ 64 := hx
  have t63 : (9223372036854775808 : Nat) = 2 ^ 63 := by decide
  have key : ∀ y : Nat, y < 2 ^ 64 → y % 2 ^ 63 = x % 2 ^ 63 → (y.testBit 63 = !x.testBit 63) → neg x = y := by
    intro y hy hm hb
    apply Nat.eq_of_testBit_eq
    intro i
    unfold neg
    rw [Nat.testBit_xor, t63, Nat.testBit_two_pow]
    by_cases h1 : i < 63
    · have e1 : y.testBit i = (y % 2 ^ 63).testBit i := by rw [Nat.testBit_mod_two_pow]; simp [h1]
      have e2 : x.testBit i = (x % 2 ^ 63).testBit i := by rw [Nat.testBit_mod_two_pow]; simp [h1]
      have e3 : decide (63 = i) = false := by simp; omega
      rw [e1, e2, hm, e3, Bool.xor_false]
    · by_cases h2 : i = 63
      · subst h2
        simp [hb]
      · have e1 : y.testBit i = false := Nat.testBit_lt_two_pow (Nat.lt_of_lt_of_le hy (Nat.pow_le_pow_right (by omega) (by omega)))
        have e2 : x.testBit i = false := Nat.testBit_lt_two_pow (Nat.lt_of_lt_of_le hx' (Nat.pow_le_pow_right (by omega) (by omega)))
        have e3 : decide (63 = i) = false := by simp; omega
        rw [e1, e2, e3]; rfl
  have tb : ∀ z : Nat, z < 2 ^ 64 → z.testBit 63 = decide (2 ^ 63 ≤ z) := by
    intro z hz
    rw [Nat.testBit_eq_decide_div_mod_eq]
    congr 1
    apply propext
    omega
  by_cases h : x < 9223372036854775808
  · refine .inl ⟨h, key _ (by omega) (by omega) ?_⟩
    rw [tb _ (by omega), tb _ hx', Bool.eq_iff_iff]
    simp
    omega
  · refine .inr ⟨by omega, key _ (by omega) (by omega) ?_⟩
    rw [tb _ (by omega), tb _ hx', Bool.eq_iff_iff]
    simp
    omega
theorem neg_w {x : Nat} (hx : W64 x) : W64 (neg x) := by
  unfold W64 at *
  rcases neg_eq hx with ⟨h, e⟩ | ⟨h, e⟩ <;> omega
theorem neg_nan {x : Nat} (hx : W64 x) : nan (neg x) = nan x := by
  unfold nan
  have hx' : x < 18446744073709551616 := hx
  have e2 : neg x % 9223372036854775808 = x % 9223372036854775808 := by rcases neg_eq hx with ⟨h, e⟩ | ⟨h, e⟩ <;> omega
  rw [e2]
theorem neg_pl {x : Nat} (hx : W64 x) : pl (neg x) = - pl x := by
  have hx' : x < 18446744073709551616 := hx
  rcases neg_eq hx with ⟨h, e⟩ | ⟨h, e⟩ <;> rcases pl_eq x with ⟨h1, e1⟩ | ⟨h1, e1⟩ <;> rcases pl_eq (neg x) with ⟨h2, e2⟩ | ⟨h2, e2⟩ <;> omega

theorem pl_zero : pl 0 = 0 := rfl
theorem pl_maxf : pl 9218868437227405311 = 9218868437227405311 := rfl
theorem nan_zero : nan 0 = false := rfl
theorem nan_maxf : nan 9218868437227405311 = false := rfl
theorem class_eq {x : Nat} (hx : W64 x) : pcls x = rcls (clean x) := by
  have hx' : x < 18446744073709551616 := hx
  unfold pcls
  rw [ne_iff hx]
  rcases clean_or x with ⟨h, e⟩ | ⟨h, e⟩
  · rw [h, e, if_pos rfl]
    unfold rcls
    rw [if_pos (show ((one : Nat) : Int) = 9221120237041090561 from rfl)]
  · rw [h, e, if_neg (by simp)]
    have hn := nan_no.1 h
    have c1 := gt_iff (neg_w hx) w_maxf
    have c2 := gt_iff hx w_maxf
    have c3 := lt_iff hx w_zero
    have c4 := gt_iff hx w_zero
    rw [neg_nan hx, neg_pl hx, h, nan_maxf, pl_maxf] at c1
    rw [h, nan_maxf, pl_maxf] at c2
    rw [h, nan_zero, pl_zero] at c3 c4
    simp only [true_and] at c1 c2 c3 c4
    simp only [c1, c2, c3, c4]
    unfold rcls wrap64
    rcases pl_eq x with ⟨h1, e1⟩ | ⟨h1, e1⟩
    · rw [e1]
      rw [if_neg (show ¬ (9218868437227405311 : Int) < -(x : Int) by omega), if_neg (show ¬ (x : Int) < 0 by omega), if_neg (show ¬ (x : Int) = 9221120237041090561 by omega), if_neg (show ¬ (x : Int) = 18442240474082181120 by omega), if_neg (show ¬ 9223372036854775808 < (x : Int) by omega), if_neg (show ¬ (x : Int) = 9223372036854775808 by omega)]
      by_cases z : x = 0
      · subst z; rfl
      · by_cases q : (x : Int) < 9218868437227405312
        · rw [if_neg (by omega), if_pos (by omega), if_neg (by omega), if_pos (by omega)]
        · rw [if_pos (by omega), if_neg (by omega), if_neg (by omega)]
    · rw [e1]
      rw [if_neg (show ¬ (9218868437227405311 : Int) < 9223372036854775808 - (x : Int) by omega), if_neg (show ¬ 0 < 9223372036854775808 - (x : Int) by omega), if_neg (show ¬ (x : Int) = 9221120237041090561 by omega)]
      by_cases z : (x : Int) = 18442240474082181120
      · rw [if_pos (by omega), if_pos z]
      · rw [if_neg (by omega), if_neg z]
        by_cases q : (x : Int) = 9223372036854775808
        · rw [if_neg (by omega), if_pos (by omega), if_neg (by omega), if_pos q]
        · rw [if_pos (by omega), if_pos (by omega)]
theorem cost_eq {x : Nat} (hx : W64 x) : (FloatKind.f64.format.order x 0 == some Ordering.gt || FloatKind.f64.format.order x 0 == some Ordering.eq) = rcost x := by
  have hx' : x < 18446744073709551616 := hx
  rw [Bool.eq_iff_iff, Bool.or_eq_true, gt_iff hx w_zero, eq_iff hx w_zero, nan_zero, pl_zero]
  unfold rcost
  rw [Bool.or_eq_true, decide_eq_true_eq, beq_iff_eq]
  cases h : nan x with
  | true =>
    have := nan_iff.1 h
    simp only [Bool.true_eq_false, false_and, or_self, false_iff]
    omega
  | false =>
    have := nan_no.1 h
    simp only [true_and]
    rcases pl_eq x with ⟨h1, e1⟩ | ⟨h1, e1⟩ <;> rw [e1] <;> omega
theorem rcost_eq {x : Nat} : rcost x = cost x := by
  unfold rcost cost
  rw [Bool.eq_iff_iff, Bool.or_eq_true, Bool.or_eq_true]
  simp only [decide_eq_true_eq, beq_iff_eq]
  omega
theorem rank_eq {x : Nat} (hx : W64 x) : rank x = if nan x = true then 2 else if x = 9223372036854775808 then -1 else 0 := by
  have hx' : x < 18446744073709551616 := hx
  unfold rank
  rw [class_eq hx]
  rcases clean_or x with ⟨h, e⟩ | ⟨h, e⟩
  · rw [h, e, if_pos rfl]
    rfl
  · have hn := nan_no.1 h
    rw [h, e, if_neg (show ¬ (false = true) by simp)]
    unfold rcls
    rw [if_neg (show ¬ (x : Int) = 9221120237041090561 by omega)]
    by_cases q : x = 9223372036854775808
    · subst q; rfl
    · rw [if_neg q]
      repeat' split
      all_goals first | rfl | omega
theorem place_eq {x : Nat} (hx : W64 x) : (place x : Int) = if nan x = true then 18444492273895866369 else if x < 9223372036854775808 then 9223372036854775808 + (x : Int) else 18446744073709551615 - (x : Int) := by
  have hx' : x < 18446744073709551616 := hx
  unfold place
  rw [cln_eq]
  rcases clean_or x with ⟨h, e⟩ | ⟨h, e⟩
  · rw [h, e, if_pos rfl]
    rfl
  · have hn := nan_no.1 h
    rw [h, e, if_neg (show ¬ (false = true) by simp)]
    by_cases q : x < 9223372036854775808
    · rw [if_pos q, if_neg (by omega)]; omega
    · rw [if_neg q, if_pos (by omega)]; omega
theorem place_pl {x : Nat} (hx : W64 x) (h : nan x = false) : (x < 9223372036854775808 ∧ (place x : Int) = 9223372036854775808 + pl x) ∨ (9223372036854775808 ≤ x ∧ (place x : Int) = 9223372036854775807 + pl x) := by
  have e := place_eq hx
  rw [h, if_neg (show ¬ (false = true) by simp)] at e
  rcases pl_eq x with ⟨h1, e1⟩ | ⟨h1, e1⟩
  · rw [if_pos h1] at e; exact .inl ⟨h1, by omega⟩
  · rw [if_neg (by omega)] at e; exact .inr ⟨h1, by omega⟩
theorem place_nan {x : Nat} (hx : W64 x) (h : nan x = true) : (place x : Int) = 18444492273895866369 := by
  have e := place_eq hx
  rwa [h, if_pos rfl] at e
theorem pl_bd {x : Nat} (hx : W64 x) (h : nan x = false) : -9218868437227405312 ≤ pl x ∧ pl x ≤ 9218868437227405312 := by
  have hx' : x < 18446744073709551616 := hx
  have hn := nan_no.1 h
  rcases pl_eq x with ⟨h1, e1⟩ | ⟨h1, e1⟩ <;> omega
theorem cmp_eq {x y : Nat} (hx : W64 x) (hy : W64 y) : cmpF x y = cmpW x y := by
  unfold cmpF cmpW
  simp only [lt_iff hx hy, gt_iff hx hy, rank_eq hx, rank_eq hy]
  unfold cmpI
  cases h1 : nan x with
  | true =>
    rw [place_nan hx h1]
    simp only [Bool.true_eq_false, false_and, if_false, if_true]
    cases h2 : nan y with
    | true => rw [place_nan hy h2]; simp
    | false =>
      have b := pl_bd hy h2
      simp only [Bool.false_eq_true, if_false]
      rcases place_pl hy h2 with ⟨a1, a2⟩ | ⟨a1, a2⟩ <;> rw [a2]
      · rw [if_neg (show ¬ (18444492273895866369 : Int) < 9223372036854775808 + pl y by omega), if_pos (show 9223372036854775808 + pl y < (18444492273895866369 : Int) by omega), if_neg (show ¬ y = 9223372036854775808 by omega)]; rfl
      · rw [if_neg (show ¬ (18444492273895866369 : Int) < 9223372036854775807 + pl y by omega), if_pos (show 9223372036854775807 + pl y < (18444492273895866369 : Int) by omega)]
        split <;> rfl
  | false =>
    have b1 := pl_bd hx h1
    simp only [Bool.false_eq_true, if_false, true_and]
    cases h2 : nan y with
    | true =>
      simp only [Bool.true_eq_false, false_and, if_false, if_true]
      rw [place_nan hy h2]
      rcases place_pl hx h1 with ⟨a1, a2⟩ | ⟨a1, a2⟩ <;> rw [a2]
      · rw [if_pos (show 9223372036854775808 + pl x < (18444492273895866369 : Int) by omega), if_neg (show ¬ x = 9223372036854775808 by omega)]; rfl
      · rw [if_pos (show 9223372036854775807 + pl x < (18444492273895866369 : Int) by omega)]
        split <;> rfl
    | false =>
      have b2 := pl_bd hy h2
      simp only [Bool.false_eq_true, if_false, true_and]
      by_cases l : pl x < pl y
      · rw [if_pos l]
        rcases place_pl hx h1 with ⟨a1, a2⟩ | ⟨a1, a2⟩ <;> rcases place_pl hy h2 with ⟨c1, c2⟩ | ⟨c1, c2⟩ <;> rcases pl_eq x with ⟨p1, p2⟩ | ⟨p1, p2⟩ <;> rcases pl_eq y with ⟨q1, q2⟩ | ⟨q1, q2⟩ <;> first | omega | (rw [if_pos (by omega)])
      · by_cases g : pl y < pl x
        · rw [if_neg l, if_pos g]
          rcases place_pl hx h1 with ⟨a1, a2⟩ | ⟨a1, a2⟩ <;> rcases place_pl hy h2 with ⟨c1, c2⟩ | ⟨c1, c2⟩ <;> rcases pl_eq x with ⟨p1, p2⟩ | ⟨p1, p2⟩ <;> rcases pl_eq y with ⟨q1, q2⟩ | ⟨q1, q2⟩ <;> first | omega | (rw [if_neg (by omega), if_pos (by omega)])
        · rw [if_neg l, if_neg g]
          rcases place_pl hx h1 with ⟨a1, a2⟩ | ⟨a1, a2⟩ <;> rcases place_pl hy h2 with ⟨c1, c2⟩ | ⟨c1, c2⟩ <;> rcases pl_eq x with ⟨p1, p2⟩ | ⟨p1, p2⟩ <;> rcases pl_eq y with ⟨q1, q2⟩ | ⟨q1, q2⟩ <;> first | omega | (repeat' split) <;> omega
end Go.Proofs.Ytijgopcddjnfdaa.Fl
