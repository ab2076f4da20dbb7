/- The plain facts of doubles: a word's place on the line, its units, rounding. -/
import Ieee.Arith
namespace Go.Proofs.Ytijgopcddjnfdaa.Fl
open Ieee

theorem dsw : Ieee.double.signWeight = 9223372036854775808 := by decide
theorem dbin : Ieee.double.binade = 4503599627370496 := by decide
theorem dinf : Ieee.double.infRung = 9218868437227405312 := by decide
theorem dlp : Ieee.double.leastPlace = -1074 := by decide
theorem dfb : Ieee.double.fractionBits = 52 := rfl

/-- What a rung is worth, in units of the least place. -/
def units (r : Nat) : Nat := if r < 4503599627370496 then r else (4503599627370496 + r % 4503599627370496) * 2 ^ (r / 4503599627370496 - 1)
/-- Rounded to the nearest, ties to even. -/
def rne (n d : Nat) : Nat := n / 2 ^ d + (if 2 ^ d < 2 * (n % 2 ^ d) ∨ (2 ^ d = 2 * (n % 2 ^ d) ∧ n / 2 ^ d % 2 = 1) then 1 else 0)
/-- The rung of so many units. -/
def R (n : Nat) : Nat := min ((n.log2 - 52) * 4503599627370496 + rne n (n.log2 - 52)) 9218868437227405312

theorem rne_mono (d : Nat) {n m : Nat} (h : n ≤ m) : rne n d ≤ rne m d := by
  unfold rne
  have hq : n / 2 ^ d ≤ m / 2 ^ d := Nat.div_le_div_right h
  have hn := Nat.div_add_mod n (2 ^ d)
  have hm := Nat.div_add_mod m (2 ^ d)
  generalize n / 2 ^ d = q at *
  generalize m / 2 ^ d = q' at *
  generalize n % 2 ^ d = r at *
  generalize m % 2 ^ d = r' at *
  by_cases he : q = q'
  · subst he
    have hr : r ≤ r' := by omega
    split <;> split <;> omega
  · split <;> split <;> omega

theorem rne_lo (n d : Nat) : n / 2 ^ d ≤ rne n d := by unfold rne; omega

theorem rne_hi {n d : Nat} {k : Nat} (h : n < k * 2 ^ d) : rne n d ≤ k := by
  have : n / 2 ^ d < k := Nat.div_lt_of_lt_mul (by rwa [Nat.mul_comm])
  unfold rne
  split <;> omega

theorem R_mono {n m : Nat} (h : n ≤ m) : R n ≤ R m := by
  unfold R
  have hl : n.log2 ≤ m.log2 := by
    by_cases hn : n = 0
    · subst hn; simp
    · by_cases hm : m = 0
      · omega
      · exact (Nat.le_log2 hm).2 (Nat.le_trans (Nat.log2_self_le hn) h)
  by_cases he : n.log2 - 52 = m.log2 - 52
  · rw [he]
    have := rne_mono (m.log2 - 52) h
    omega
  · have hlt : n.log2 - 52 < m.log2 - 52 := by omega
    have hm0 : m ≠ 0 := by rintro rfl; simp at hlt
    have h1 : rne n (n.log2 - 52) ≤ 9007199254740992 := by
      refine rne_hi ?_
      by_cases hb : 52 ≤ n.log2
      · have e : 9007199254740992 * 2 ^ (n.log2 - 52) = 2 ^ (n.log2 + 1) := by
          rw [show (9007199254740992 : Nat) = 2 ^ 53 by decide, ← Nat.pow_add]
          congr 1
          omega
        rw [e]
        exact Nat.lt_log2_self
      · have hz : n.log2 - 52 = 0 := by omega
        rw [hz]
        have : n < 2 ^ (n.log2 + 1) := Nat.lt_log2_self
        have : 2 ^ (n.log2 + 1) ≤ 2 ^ 53 := Nat.pow_le_pow_right (by omega) (by omega)
        omega
    have h2 : 4503599627370496 ≤ rne m (m.log2 - 52) := by
      refine Nat.le_trans ?_ (rne_lo _ _)
      rw [Nat.le_div_iff_mul_le (Nat.two_pow_pos _)]
      have e : 4503599627370496 * 2 ^ (m.log2 - 52) = 2 ^ m.log2 := by
        rw [show (4503599627370496 : Nat) = 2 ^ 52 by decide, ← Nat.pow_add]
        congr 1
        omega
      rw [e]
      exact Nat.log2_self_le hm0
    omega

theorem R_le (n : Nat) : R n ≤ 9218868437227405312 := by unfold R; omega

theorem log2_mul (f e : Nat) (h1 : 4503599627370496 ≤ f) (h2 : f < 9007199254740992) : (f * 2 ^ e).log2 = 52 + e := by
  have hp := Nat.two_pow_pos e
  have hne : f * 2 ^ e ≠ 0 := by
    have : 0 < f * 2 ^ e := Nat.mul_pos (by omega) hp
    omega
  rw [Nat.log2_eq_iff hne]
  constructor
  · rw [Nat.pow_add]
    exact Nat.mul_le_mul_right _ h1
  · rw [show 52 + e + 1 = 53 + e by omega, Nat.pow_add]
    exact Nat.mul_lt_mul_of_pos_right h2 hp

theorem rne_exact (q d : Nat) : rne (q * 2 ^ d) d = q := by
  have hp := Nat.two_pow_pos d
  unfold rne
  rw [Nat.mul_div_cancel _ hp, Nat.mul_mod_left]
  rw [if_neg (by omega)]
  rfl

theorem R_units {r : Nat} (h : r ≤ 9218868437227405312) : R (units r) = r := by
  unfold units
  split
  · rename_i hlt
    have hl : r.log2 - 52 = 0 := by
      by_cases h0 : r = 0
      · subst h0; simp
      · have : r.log2 < 52 := (Nat.log2_lt h0).2 (by omega)
        omega
    unfold R
    rw [hl]
    have := rne_exact r 0
    rw [Nat.pow_zero, Nat.mul_one] at this
    rw [this]
    omega
  · rename_i hge
    unfold R
    rw [log2_mul _ _ (by omega) (by omega)]
    have e : 52 + (r / 4503599627370496 - 1) - 52 = r / 4503599627370496 - 1 := by omega
    rw [e, rne_exact]
    omega

theorem units_lt {r s : Nat} (h : r < s) (hs : s ≤ 9218868437227405312) : units r < units s := by
  rcases Nat.lt_or_ge (units r) (units s) with h1 | h1
  · exact h1
  · have := R_mono h1
    rw [R_units hs, R_units (by omega)] at this
    omega
theorem units_le {r s : Nat} (h : r ≤ s) (hs : s ≤ 9218868437227405312) : units r ≤ units s := by
  rcases Nat.eq_or_lt_of_le h with h1 | h1
  · rw [h1]; exact Nat.le_refl _
  · exact Nat.le_of_lt (units_lt h1 hs)

/-- Writing is rounding the units. -/
theorem nearest_eq (neg : Bool) (m : Nat) (p : Int) (hp : -1074 ≤ p) : Ieee.double.nearest neg m p = Ieee.double.word neg (R (m * 2 ^ (p + 1074).toNat)) := by
  unfold Format.nearest
  split
  · rename_i h0
    subst h0
    have : R (0 * 2 ^ (p + 1074).toNat) = 0 := by rw [Nat.zero_mul]; decide
    rw [this]
  · rename_i h0
    obtain ⟨k, hk⟩ : ∃ k : Nat, p = (k : Int) - 1074 := ⟨(p + 1074).toNat, by omega⟩
    subst hk
    have ek : ((k : Int) - 1074 + 1074).toNat = k := by omega
    rw [ek, dlp, dfb, dbin, dinf]
    have hpk := Nat.two_pow_pos k
    have hl : (m * 2 ^ k).log2 = m.log2 + k := by
      rw [Nat.log2_eq_iff (by have : 0 < m * 2 ^ k := Nat.mul_pos (by omega) hpk; omega)]
      constructor
      · rw [Nat.pow_add]
        exact Nat.mul_le_mul_right _ (Nat.log2_self_le h0)
      · rw [show m.log2 + k + 1 = (m.log2 + 1) + k by omega, Nat.pow_add]
        exact Nat.mul_lt_mul_of_pos_right Nat.lt_log2_self hpk
    unfold R
    rw [hl]
    obtain ⟨d, hd⟩ : ∃ d : Nat, d = m.log2 + k - 52 := ⟨_, rfl⟩
    have hlast : max ((k : Int) - 1074 + (m.log2 : Int) - ((52 : Nat) : Int)) (-1074) = (d : Int) - 1074 := by omega
    dsimp only
    rw [hlast, ← hd]
    have e1 : ((d : Int) - 1074 - -1074).toNat = d := by omega
    have e2 : ((k : Int) - 1074 - ((d : Int) - 1074)).toNat = k - d := by omega
    have e3 : ((d : Int) - 1074 - ((k : Int) - 1074)).toNat = d - k := by omega
    rw [e1, e2, e3]
    congr 1
    congr 1
    congr 1
    unfold Toward.cut
    by_cases hkd : d ≤ k
    · have z : d - k = 0 := by omega
      rw [z, Nat.zero_min]
      have e : m * 2 ^ k = (m * 2 ^ (k - d)) * 2 ^ d := by rw [Nat.mul_assoc, ← Nat.pow_add]; congr 2; omega
      rw [e, rne_exact]
      simp [Nat.shiftLeft_eq, Nat.mod_one]
    · have z : k - d = 0 := by omega
      rw [z]
      have hmin : min (d - k) (m.log2 + 2) = d - k := by omega
      have em : m <<< 0 = m := by simp
      rw [em, hmin]
      have eg : 1 <<< (d - k) = 2 ^ (d - k) := by simp [Nat.shiftLeft_eq]
      simp only [eg]
      have hdk : 2 ^ d = 2 ^ (d - k) * 2 ^ k := by rw [← Nat.pow_add]; congr 1; omega
      have q1 : m * 2 ^ k / 2 ^ d = m / 2 ^ (d - k) := by rw [hdk, Nat.mul_div_mul_right _ _ hpk]
      have q2 : m * 2 ^ k % 2 ^ d = m % 2 ^ (d - k) * 2 ^ k := by rw [hdk, Nat.mul_mod_mul_right]
      unfold rne
      rw [q1, q2, hdk]
      generalize m / 2 ^ (d - k) = q
      generalize m % 2 ^ (d - k) = r
      generalize 2 ^ (d - k) = g
      generalize hK : 2 ^ k = K at hpk
      have c1 : (g * K < 2 * (r * K)) ↔ g < 2 * r := by
        rw [← Nat.mul_assoc]
        exact ⟨fun h => Nat.lt_of_mul_lt_mul_right h, fun h => Nat.mul_lt_mul_of_pos_right h hpk⟩
      have c2 : (g * K = 2 * (r * K)) ↔ g = 2 * r := by
        rw [← Nat.mul_assoc]
        exact ⟨fun h => Nat.eq_of_mul_eq_mul_right hpk h, fun h => by rw [h]⟩
      simp only [c1, c2]
      by_cases a1 : g < 2 * r <;> by_cases a2 : g = 2 * r <;> by_cases a3 : q % 2 = 1 <;> simp [a1, a2, a3]

/-! ### A word -/
def nan (x : Nat) : Bool := decide (9218868437227405312 < x % 9223372036854775808)
/-- Where a word stands on the line. -/
def pl (x : Nat) : Int := if x < 9223372036854775808 then (x : Int) else 9223372036854775808 - (x : Int)

theorem read_num {x : Nat} (hx : x < 18446744073709551616) (h : x % 9223372036854775808 < 9218868437227405312) :
    ∃ (m : Nat) (p : Int), Ieee.double.read x = .number (decide (9223372036854775808 ≤ x)) m p ∧ -1074 ≤ p ∧ m * 2 ^ (p + 1074).toNat = units (x % 9223372036854775808) := by
  have hneg : (x / 9223372036854775808 % 2 == 1) = decide (9223372036854775808 ≤ x) := by
    rw [Bool.eq_iff_iff]
    simp
    omega
  unfold Format.read
  rw [dsw, dbin, dinf, dlp, hneg]
  dsimp only
  by_cases h1 : x % 9223372036854775808 < 4503599627370496
  · rw [if_pos h1]
    refine ⟨_, _, rfl, by omega, ?_⟩
    unfold units
    rw [if_pos h1]
    simp
  · rw [if_neg h1, if_pos h]
    refine ⟨_, _, rfl, by omega, ?_⟩
    unfold units
    rw [if_neg h1]
    congr 2
    omega
theorem read_inf {x : Nat} (hx : x < 18446744073709551616) (h : x % 9223372036854775808 = 9218868437227405312) : Ieee.double.read x = .infinity (decide (9223372036854775808 ≤ x)) := by
  have hneg : (x / 9223372036854775808 % 2 == 1) = decide (9223372036854775808 ≤ x) := by
    rw [Bool.eq_iff_iff]
    simp
    omega
  unfold Format.read
  rw [dsw, dbin, dinf, dlp, hneg, h]
  rfl
theorem read_nan {x : Nat} (h : nan x = true) : ∃ s t, Ieee.double.read x = .nan s t := by
  have h' : 9218868437227405312 < x % 9223372036854775808 := by simpa [nan] using h
  unfold Format.read
  rw [dsw, dbin, dinf, dlp]
  dsimp only
  rw [if_neg (by omega), if_neg (by omega), if_neg (by omega)]
  exact ⟨_, _, rfl⟩

theorem cmp_int (a b : Int) : compare a b = if a < b then .lt else if a = b then .eq else .gt := rfl

theorem pl_ge {x : Nat} (h : 9223372036854775808 ≤ x) : pl x = 9223372036854775808 - (x : Int) := by unfold pl; rw [if_neg (by omega)]
theorem pl_lt {x : Nat} (h : ¬ 9223372036854775808 ≤ x) : pl x = (x : Int) := by unfold pl; rw [if_pos (by omega)]
/-- The order of words is that of their places. -/
theorem order_eq {x y : Nat} (hx : x < 18446744073709551616) (hy : y < 18446744073709551616) (nx : nan x = false) (ny : nan y = false) :
    Ieee.double.order x y = some (if pl x < pl y then .lt else if pl x = pl y then .eq else .gt) := by
  have hx' : x % 9223372036854775808 ≤ 9218868437227405312 := by simpa [nan] using nx
  have hy' : y % 9223372036854775808 ≤ 9218868437227405312 := by simpa [nan] using ny
  unfold Format.order
  rcases Nat.eq_or_lt_of_le hx' with ex | lx
  · rw [read_inf hx ex]
    rcases Nat.eq_or_lt_of_le hy' with ey | ly
    · rw [read_inf hy ey]
      by_cases s : 9223372036854775808 ≤ x <;> by_cases t : 9223372036854775808 ≤ y
      · have px := pl_ge s; have py := pl_ge t; have : pl x = pl y := by omega
        simp [this, s, t, Datum.order]
      · have px := pl_ge s; have py := pl_lt t; have : pl x < pl y := by omega
        simp [this, s, t, Datum.order]; rfl
      · have px := pl_lt s; have py := pl_ge t; have h1 : ¬ pl x < pl y := by omega
        have h2 : ¬ pl x = pl y := by omega
        simp [h1, h2, s, t, Datum.order]; rfl
      · have px := pl_lt s; have py := pl_lt t; have : pl x = pl y := by omega
        simp [this, s, t, Datum.order]
    · obtain ⟨m, p, e, _, _⟩ := read_num hy ly
      rw [e]
      have py : -9218868437227405312 < pl y ∧ pl y < 9218868437227405312 := by unfold pl; split <;> omega
      by_cases s : 9223372036854775808 ≤ x
      · have px := pl_ge s; have : pl x < pl y := by omega
        simp [this, s, Datum.order]
      · have px := pl_lt s; have h1 : ¬ pl x < pl y := by omega
        have h2 : ¬ pl x = pl y := by omega
        simp [h1, h2, s, Datum.order]
  · obtain ⟨m, p, e, hp, hm⟩ := read_num hx lx
    rw [e]
    rcases Nat.eq_or_lt_of_le hy' with ey | ly
    · rw [read_inf hy ey]
      have px : -9218868437227405312 < pl x ∧ pl x < 9218868437227405312 := by unfold pl; split <;> omega
      by_cases s : 9223372036854775808 ≤ y
      · have py := pl_ge s; have h1 : ¬ pl x < pl y := by omega
        have h2 : ¬ pl x = pl y := by omega
        simp [h1, h2, s, Datum.order]
      · have py := pl_lt s; have : pl x < pl y := by omega
        simp [this, s, Datum.order]
    · obtain ⟨n, q, e', hq, hn⟩ := read_num hy ly
      rw [e']
      unfold Datum.order
      dsimp only
      rw [cmp_int]
      have u1 : ∀ r s : Nat, r < s → s ≤ 9218868437227405312 → units r < units s := fun r s h h2 => units_lt h h2
      obtain ⟨c, hc⟩ : ∃ c : Nat, min p q = (c : Int) - 1074 := ⟨(min p q + 1074).toNat, by omega⟩
      have sg : ∀ (s : Bool) (m : Nat) (i : Int), -1074 ≤ i → (c : Int) - 1074 ≤ i → signed s m (i - ((c : Int) - 1074)).toNat * (2 ^ c : Nat) = if s = true then -((m * 2 ^ (i + 1074).toNat : Nat) : Int) else ((m * 2 ^ (i + 1074).toNat : Nat) : Int) := by
        intro s m i hi hci
        have e2 : m * 2 ^ (i + 1074).toNat = m * 2 ^ (i - ((c : Int) - 1074)).toNat * 2 ^ c := by
          rw [Nat.mul_assoc, ← Nat.pow_add]
          congr 2
          omega
        unfold signed
        rw [Nat.shiftLeft_eq, e2]
        cases s <;> simp [Int.neg_mul, Int.natCast_mul]
      rw [hc]
      have s1 := sg (decide (9223372036854775808 ≤ x)) m p hp (by omega)
      have s2 := sg (decide (9223372036854775808 ≤ y)) n q hq (by omega)
      rw [hm] at s1
      rw [hn] at s2
      generalize signed (decide (9223372036854775808 ≤ x)) m (p - ((c : Int) - 1074)).toNat = A at s1 ⊢
      generalize signed (decide (9223372036854775808 ≤ y)) n (q - ((c : Int) - 1074)).toNat = B at s2 ⊢
      have hK : 0 < ((2 ^ c : Nat) : Int) := by have := Nat.two_pow_pos c; omega
      generalize ((2 ^ c : Nat) : Int) = K at s1 s2 hK
      have k1 : A < B ↔ A * K < B * K := ⟨fun h => Int.mul_lt_mul_of_pos_right h hK, fun h => Int.lt_of_mul_lt_mul_right h (by omega)⟩
      have k2 : A = B ↔ A * K = B * K := ⟨fun h => by rw [h], fun h => Int.eq_of_mul_eq_mul_right (by omega) h⟩
      have d1 : A < B ↔ pl x < pl y := by
        rw [k1, s1, s2]
        have a1 := u1 (x % 9223372036854775808) (y % 9223372036854775808)
        have a2 := u1 (y % 9223372036854775808) (x % 9223372036854775808)
        have a3 := u1 0 (y % 9223372036854775808)
        have a4 := u1 0 (x % 9223372036854775808)
        have a5 : x % 9223372036854775808 = y % 9223372036854775808 → units (x % 9223372036854775808) = units (y % 9223372036854775808) := fun h => by rw [h]
        have z0 : units 0 = 0 := rfl
        have z1 : x % 9223372036854775808 = 0 → units (x % 9223372036854775808) = 0 := fun h => by rw [h]; rfl
        have z2 : y % 9223372036854775808 = 0 → units (y % 9223372036854775808) = 0 := fun h => by rw [h]; rfl
        rw [z0] at a3 a4
        generalize units (x % 9223372036854775808) = U at *
        generalize units (y % 9223372036854775808) = V at *
        unfold pl
        by_cases s : 9223372036854775808 ≤ x <;> by_cases t : 9223372036854775808 ≤ y <;> simp only [s, t, decide_true, decide_false, if_true, Bool.false_eq_true, if_false]
        · rw [if_neg (by omega), if_neg (by omega)]; omega
        · rw [if_neg (by omega), if_pos (by omega)]; omega
        · rw [if_pos (by omega), if_neg (by omega)]; omega
        · rw [if_pos (by omega), if_pos (by omega)]; omega
      have d2 : A = B ↔ pl x = pl y := by
        rw [k2, s1, s2]
        have a1 := u1 (x % 9223372036854775808) (y % 9223372036854775808)
        have a2 := u1 (y % 9223372036854775808) (x % 9223372036854775808)
        have a3 := u1 0 (y % 9223372036854775808)
        have a4 := u1 0 (x % 9223372036854775808)
        have a5 : x % 9223372036854775808 = y % 9223372036854775808 → units (x % 9223372036854775808) = units (y % 9223372036854775808) := fun h => by rw [h]
        have z0 : units 0 = 0 := rfl
        have z1 : x % 9223372036854775808 = 0 → units (x % 9223372036854775808) = 0 := fun h => by rw [h]; rfl
        have z2 : y % 9223372036854775808 = 0 → units (y % 9223372036854775808) = 0 := fun h => by rw [h]; rfl
        rw [z0] at a3 a4
        generalize units (x % 9223372036854775808) = U at *
        generalize units (y % 9223372036854775808) = V at *
        unfold pl
        by_cases s : 9223372036854775808 ≤ x <;> by_cases t : 9223372036854775808 ≤ y <;> simp only [s, t, decide_true, decide_false, if_true, Bool.false_eq_true, if_false]
        · rw [if_neg (by omega), if_neg (by omega)]; omega
        · rw [if_neg (by omega), if_pos (by omega)]; omega
        · rw [if_pos (by omega), if_neg (by omega)]; omega
        · rw [if_pos (by omega), if_pos (by omega)]; omega
      simp only [d1, d2]
theorem order_nan {x y : Nat} (h : nan x = true ∨ nan y = true) : Ieee.double.order x y = none := by
  unfold Format.order
  rcases h with h | h
  · obtain ⟨s, t, e⟩ := read_nan h
    rw [e]; rfl
  · obtain ⟨s, t, e⟩ := read_nan h
    rw [e]
    cases Ieee.double.read x <;> rfl

end Go.Proofs.Ytijgopcddjnfdaa.Fl
