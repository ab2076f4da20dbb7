/- What is proved here: what the document's product, ratio and two answer. Condition: none. -/
import Derived.Test.YthmglahcampllaaTr
namespace Go.Proofs.Ythmglahcampllaa
open Go Go.RowKit

/-- What holds at the head of each round. -/
def MulRel (P a b s : Int) : Prop := s + a * b = P ∧ 0 ≤ b ∧ b ≤ 1125899906842624 ∧ Pl.tm s = true ∧ Pl.tm a = true ∧ ((0 ≤ a ∧ 0 ≤ s) ∨ (a ≤ 0 ∧ s ≤ 0))

set_option maxRecDepth 20000 in
set_option maxHeartbeats 2000000 in
theorem rmul_pos (a b : Int) (w : World) (ha : Pl.tm a = true) (hb : Pl.tm b = true) (hs : ¬ b < 0) :
    Calls Try.prog 45 #[.int .i64 a, .int .i64 b] w fun e w' => e = .returned (.tuple #[.int .i64 (Pl.mulR a b).1, .int .i64 (Pl.mulR a b).2]) ∧ w = w' := by
  have ba := Pl.tm_true.1 ha
  have bb := Pl.tm_true.1 hb
  have hP : a * b = (a) * (b) := by first | rfl | rw [Int.neg_mul_neg]
  have hA0 : Pl.tm (a) = true := Pl.tm_true.2 (by omega)
  have hmul : Pl.mulR a b = if Pl.tm ((a) * (b)) = true then ((a) * (b), 0) else (0, 11) := by simp [Pl.mulR, ha, hb]
  rw [hmul]
  clear hmul hP
  have hst : MulRel ((a) * (b)) (a) (b) 0 := ⟨by omega, by omega, by omega, rfl, hA0, by omega⟩
  generalize hPe : (a) * (b) = P at hst ⊢
  clear hPe
  go_enter Try.func45, Try.ntmps45
  go_wp2_with (go_at_call 57; refine (rtime _ _).mono ?_; rintro e w' ⟨rfl, rfl⟩)
  go_loop [0, 1, 6] (fun a' b' s' => ∃ x y z, a' = .int .i64 x ∧ b' = .int .i64 y ∧ s' = .int .i64 z ∧ MulRel P x y z) (fun _ b' _ => (intOf b').toNat)
  case atStart => exact ⟨_, _, _, rfl, rfl, rfl, hst⟩
  case round =>
    obtain ⟨x, y, z, rfl, rfl, rfl, hrel⟩ := hrel
    have HR := Lib.hid hrel
    obtain ⟨r1, r2, r3, r4, r5, r6⟩ := hrel
    have R1 := Lib.hid r1
    have b5 := Pl.tm_true.1 r5
    have b4 := Pl.tm_true.1 r4
    clear r1 ha hb ba bb hA0 hst hs
    by_cases hy : 0 < y
    · have m1 : IntKind.i64.wrap (z + x) = z + x := wrap_of (by omega) (by omega)
      have m2 : IntKind.i64.wrap (x + x) = x + x := wrap_of (by omega) (by omega)
      have y2 : y.tdiv 2 = y / 2 := Int.tdiv_eq_ediv_of_nonneg r2
      have m3 : IntKind.i64.wrap (y.tdiv 2) = y.tdiv 2 := wrap_of (by omega) (by omega)
      have p1 : 0 ≤ y.tdiv 2 := by omega
      have p2 : y.tdiv 2 < y := by omega
      have p3 : y.tdiv 2 ≤ 1125899906842624 := by omega
      have y3 : y.tmod 2 = y % 2 := Int.tmod_eq_emod_of_nonneg r2
      have y4 := Int.emod_nonneg y (show (2:Int) ≠ 0 by omega)
      have y5 := Int.emod_lt_of_pos y (show (0:Int) < 2 by omega)
      have m4 : IntKind.i64.wrap (y.tmod 2) = y.tmod 2 := wrap_of (by omega) (by omega)
      clear y2
      by_cases ho : y.tmod 2 = 1
      · have hob : (y.tmod 2 == 1) = true := by simpa using ho
        cases t1 : Pl.tm (z + x) with
        | false =>
          have hPf : Pl.tm P = false := by
            rw [← R1.out]
            exact Pl.over_sum r6 (by omega) t1
          go_wp2_with (go_at_call 57; refine (rtime _ _).mono ?_; rintro e w' ⟨rfl, rfl⟩)
          all_goals (go_returns; exact ⟨rfl, rfl⟩)
        | true =>
          have t1' := Pl.tm_true.1 t1
          by_cases hz : 0 < y.tdiv 2
          · cases t2 : Pl.tm (x + x) with
            | false =>
              have hPf : Pl.tm P = false := by
                rw [← R1.out, ← Pl.half_odd r2 ho]
                exact Pl.over_dbl (by omega) (by omega) t2
              go_wp2_with (go_at_call 57; refine (rtime _ _).mono ?_; rintro e w' ⟨rfl, rfl⟩)
              all_goals (go_returns; exact ⟨rfl, rfl⟩)
            | true =>
              have hn : MulRel P (x + x) (y.tdiv 2) (z + x) := ⟨by rw [Pl.half_odd r2 ho]; exact R1.out, p1, p3, t1, t2, by omega⟩
              go_wp2_with (go_at_call 57; refine (rtime _ _).mono ?_; rintro e w' ⟨rfl, rfl⟩)
              go_round
              case rel => exact ⟨_, _, _, rfl, rfl, rfl, hn⟩
              case measure => simp [intOf]; omega
          · have hn : MulRel P x (y.tdiv 2) (z + x) := by
              have e0 : y.tdiv 2 = 0 := by omega
              refine ⟨?_, p1, p3, t1, r5, by omega⟩
              rw [← R1.out, ← Pl.half_odd r2 ho, e0]
              simp
            go_wp2_with (go_at_call 57; refine (rtime _ _).mono ?_; rintro e w' ⟨rfl, rfl⟩)
            go_round
            case rel => exact ⟨_, _, _, rfl, rfl, rfl, hn⟩
            case measure => simp [intOf]; omega
      · have hob : (y.tmod 2 == 1) = false := by simpa using ho
        have hz : 0 < y.tdiv 2 := by
          rw [Int.tdiv_eq_ediv_of_nonneg r2]
          omega
        cases t2 : Pl.tm (x + x) with
        | false =>
          have hPf : Pl.tm P = false := by
            rw [← R1.out, ← Pl.half_even r2 ho]
            exact Pl.over_dbl r6 (by omega) t2
          go_wp2_with (go_at_call 57; refine (rtime _ _).mono ?_; rintro e w' ⟨rfl, rfl⟩)
          all_goals (go_returns; exact ⟨rfl, rfl⟩)
        | true =>
          have hn : MulRel P (x + x) (y.tdiv 2) z := ⟨by rw [Pl.half_even r2 ho]; exact R1.out, p1, p3, r4, t2, by omega⟩
          go_wp2_with (go_at_call 57; refine (rtime _ _).mono ?_; rintro e w' ⟨rfl, rfl⟩)
          go_round
          case rel => exact ⟨_, _, _, rfl, rfl, rfl, hn⟩
          case measure => simp [intOf]; omega
    · have hPz : P = z := by
        have e0 : y = 0 := by omega
        rw [← R1.out, e0]
        simp
      have hPt : Pl.tm P = true := by rw [hPz]; exact r4
      rw [hPz] at hPt
      subst hPz
      go_wp2_with (go_at_call 57; refine (rtime _ _).mono ?_; rintro e w' ⟨rfl, rfl⟩)
      all_goals (go_returns; exact ⟨rfl, rfl⟩)

set_option maxRecDepth 20000 in
set_option maxHeartbeats 2000000 in
theorem rmul_neg (a b : Int) (w : World) (ha : Pl.tm a = true) (hb : Pl.tm b = true) (hs : b < 0) :
    Calls Try.prog 45 #[.int .i64 a, .int .i64 b] w fun e w' => e = .returned (.tuple #[.int .i64 (Pl.mulR a b).1, .int .i64 (Pl.mulR a b).2]) ∧ w = w' := by
  have ba := Pl.tm_true.1 ha
  have bb := Pl.tm_true.1 hb
  have hP : a * b = (-a) * (-b) := by first | rfl | rw [Int.neg_mul_neg]
  have hA0 : Pl.tm (-a) = true := Pl.tm_true.2 (by omega)
  have hmul : Pl.mulR a b = if Pl.tm ((-a) * (-b)) = true then ((-a) * (-b), 0) else (0, 11) := by simp [Pl.mulR, ha, hb, hP]
  rw [hmul]
  clear hmul hP
  have hst : MulRel ((-a) * (-b)) (-a) (-b) 0 := ⟨by omega, by omega, by omega, rfl, hA0, by omega⟩
  generalize hPe : (-a) * (-b) = P at hst ⊢
  clear hPe
  go_enter Try.func45, Try.ntmps45
  go_wp2_with (go_at_call 57; refine (rtime _ _).mono ?_; rintro e w' ⟨rfl, rfl⟩)
  go_loop [0, 1, 6] (fun a' b' s' => ∃ x y z, a' = .int .i64 x ∧ b' = .int .i64 y ∧ s' = .int .i64 z ∧ MulRel P x y z) (fun _ b' _ => (intOf b').toNat)
  case atStart => exact ⟨_, _, _, rfl, rfl, rfl, hst⟩
  case round =>
    obtain ⟨x, y, z, rfl, rfl, rfl, hrel⟩ := hrel
    have HR := Lib.hid hrel
    obtain ⟨r1, r2, r3, r4, r5, r6⟩ := hrel
    have R1 := Lib.hid r1
    have b5 := Pl.tm_true.1 r5
    have b4 := Pl.tm_true.1 r4
    clear r1 ha hb ba bb hA0 hst hs
    by_cases hy : 0 < y
    · have m1 : IntKind.i64.wrap (z + x) = z + x := wrap_of (by omega) (by omega)
      have m2 : IntKind.i64.wrap (x + x) = x + x := wrap_of (by omega) (by omega)
      have y2 : y.tdiv 2 = y / 2 := Int.tdiv_eq_ediv_of_nonneg r2
      have m3 : IntKind.i64.wrap (y.tdiv 2) = y.tdiv 2 := wrap_of (by omega) (by omega)
      have p1 : 0 ≤ y.tdiv 2 := by omega
      have p2 : y.tdiv 2 < y := by omega
      have p3 : y.tdiv 2 ≤ 1125899906842624 := by omega
      have y3 : y.tmod 2 = y % 2 := Int.tmod_eq_emod_of_nonneg r2
      have y4 := Int.emod_nonneg y (show (2:Int) ≠ 0 by omega)
      have y5 := Int.emod_lt_of_pos y (show (0:Int) < 2 by omega)
      have m4 : IntKind.i64.wrap (y.tmod 2) = y.tmod 2 := wrap_of (by omega) (by omega)
      clear y2
      by_cases ho : y.tmod 2 = 1
      · have hob : (y.tmod 2 == 1) = true := by simpa using ho
        cases t1 : Pl.tm (z + x) with
        | false =>
          have hPf : Pl.tm P = false := by
            rw [← R1.out]
            exact Pl.over_sum r6 (by omega) t1
          go_wp2_with (go_at_call 57; refine (rtime _ _).mono ?_; rintro e w' ⟨rfl, rfl⟩)
          all_goals (go_returns; exact ⟨rfl, rfl⟩)
        | true =>
          have t1' := Pl.tm_true.1 t1
          by_cases hz : 0 < y.tdiv 2
          · cases t2 : Pl.tm (x + x) with
            | false =>
              have hPf : Pl.tm P = false := by
                rw [← R1.out, ← Pl.half_odd r2 ho]
                exact Pl.over_dbl (by omega) (by omega) t2
              go_wp2_with (go_at_call 57; refine (rtime _ _).mono ?_; rintro e w' ⟨rfl, rfl⟩)
              all_goals (go_returns; exact ⟨rfl, rfl⟩)
            | true =>
              have hn : MulRel P (x + x) (y.tdiv 2) (z + x) := ⟨by rw [Pl.half_odd r2 ho]; exact R1.out, p1, p3, t1, t2, by omega⟩
              go_wp2_with (go_at_call 57; refine (rtime _ _).mono ?_; rintro e w' ⟨rfl, rfl⟩)
              go_round
              case rel => exact ⟨_, _, _, rfl, rfl, rfl, hn⟩
              case measure => simp [intOf]; omega
          · have hn : MulRel P x (y.tdiv 2) (z + x) := by
              have e0 : y.tdiv 2 = 0 := by omega
              refine ⟨?_, p1, p3, t1, r5, by omega⟩
              rw [← R1.out, ← Pl.half_odd r2 ho, e0]
              simp
            go_wp2_with (go_at_call 57; refine (rtime _ _).mono ?_; rintro e w' ⟨rfl, rfl⟩)
            go_round
            case rel => exact ⟨_, _, _, rfl, rfl, rfl, hn⟩
            case measure => simp [intOf]; omega
      · have hob : (y.tmod 2 == 1) = false := by simpa using ho
        have hz : 0 < y.tdiv 2 := by
          rw [Int.tdiv_eq_ediv_of_nonneg r2]
          omega
        cases t2 : Pl.tm (x + x) with
        | false =>
          have hPf : Pl.tm P = false := by
            rw [← R1.out, ← Pl.half_even r2 ho]
            exact Pl.over_dbl r6 (by omega) t2
          go_wp2_with (go_at_call 57; refine (rtime _ _).mono ?_; rintro e w' ⟨rfl, rfl⟩)
          all_goals (go_returns; exact ⟨rfl, rfl⟩)
        | true =>
          have hn : MulRel P (x + x) (y.tdiv 2) z := ⟨by rw [Pl.half_even r2 ho]; exact R1.out, p1, p3, r4, t2, by omega⟩
          go_wp2_with (go_at_call 57; refine (rtime _ _).mono ?_; rintro e w' ⟨rfl, rfl⟩)
          go_round
          case rel => exact ⟨_, _, _, rfl, rfl, rfl, hn⟩
          case measure => simp [intOf]; omega
    · have hPz : P = z := by
        have e0 : y = 0 := by omega
        rw [← R1.out, e0]
        simp
      have hPt : Pl.tm P = true := by rw [hPz]; exact r4
      rw [hPz] at hPt
      subst hPz
      go_wp2_with (go_at_call 57; refine (rtime _ _).mono ?_; rintro e w' ⟨rfl, rfl⟩)
      all_goals (go_returns; exact ⟨rfl, rfl⟩)

set_option maxHeartbeats 400000 in
theorem rmul_out0 (a b : Int) (w : World) (ha : Pl.tm a = false) : Calls Try.prog 45 #[.int .i64 a, .int .i64 b] w fun e w' => e = .returned (.tuple #[.int .i64 (Pl.mulR a b).1, .int .i64 (Pl.mulR a b).2]) ∧ w = w' := by
  have hr : Pl.mulR a b = (0, 11) := by simp [Pl.mulR, ha]
  rw [hr]
  go_enter Try.func45, Try.ntmps45
  go_wp2_with (go_at_call 57; refine (rtime _ _).mono ?_; rintro e w' ⟨rfl, rfl⟩)
  go_returns
  exact ⟨rfl, rfl⟩
set_option maxHeartbeats 400000 in
theorem rmul_out1 (a b : Int) (w : World) (ha : Pl.tm a = true) (hb : Pl.tm b = false) : Calls Try.prog 45 #[.int .i64 a, .int .i64 b] w fun e w' => e = .returned (.tuple #[.int .i64 (Pl.mulR a b).1, .int .i64 (Pl.mulR a b).2]) ∧ w = w' := by
  have hr : Pl.mulR a b = (0, 11) := by simp [Pl.mulR, hb]
  rw [hr]
  go_enter Try.func45, Try.ntmps45
  go_wp2_with (go_at_call 57; refine (rtime _ _).mono ?_; rintro e w' ⟨rfl, rfl⟩)
  go_returns
  exact ⟨rfl, rfl⟩
theorem rmul (a b : Int) (w : World) : Calls Try.prog 45 #[.int .i64 a, .int .i64 b] w fun e w' => e = .returned (.tuple #[.int .i64 (Pl.mulR a b).1, .int .i64 (Pl.mulR a b).2]) ∧ w = w' := by
  cases ha : Pl.tm a with
  | false => exact rmul_out0 a b w ha
  | true =>
    cases hb : Pl.tm b with
    | false => exact rmul_out1 a b w ha hb
    | true =>
      by_cases h : b < 0
      · exact rmul_neg a b w ha hb h
      · exact rmul_pos a b w ha hb h

set_option maxHeartbeats 1000000 in
theorem rscale (t n d : Int) (w : World) : Calls Try.prog 47 #[.int .i64 t, .int .i64 n, .int .i64 d] w fun e w' => e = .returned (.tuple #[.int .i64 (Pl.scaleR t n d).1, .int .i64 (Pl.scaleR t n d).2]) ∧ w = w' := by
  by_cases hg : n < -4096 ∨ 4096 < n ∨ d < 1 ∨ 4096 < d
  · have hr : Pl.scaleR t n d = (0, 2) := by unfold Pl.scaleR; rw [if_pos hg]
    rw [hr]
    by_cases h1 : n < -4096
    · go_enter Try.func47, Try.ntmps47
      go_wp2_with (go_at_call 57; refine (rtime _ _).mono ?_; rintro e w' ⟨rfl, rfl⟩)
      go_returns
      exact ⟨rfl, rfl⟩
    by_cases h2 : 4096 < n
    · go_enter Try.func47, Try.ntmps47
      go_wp2_with (go_at_call 57; refine (rtime _ _).mono ?_; rintro e w' ⟨rfl, rfl⟩)
      go_returns
      exact ⟨rfl, rfl⟩
    by_cases h3 : d < 1
    · go_enter Try.func47, Try.ntmps47
      go_wp2_with (go_at_call 57; refine (rtime _ _).mono ?_; rintro e w' ⟨rfl, rfl⟩)
      go_returns
      exact ⟨rfl, rfl⟩
    have h4 : 4096 < d := by omega
    clear hg
    go_enter Try.func47, Try.ntmps47
    go_wp2_with (go_at_call 57; refine (rtime _ _).mono ?_; rintro e w' ⟨rfl, rfl⟩)
    go_returns
    exact ⟨rfl, rfl⟩
  · have n1 : -4096 ≤ n := by omega
    have n2 : n ≤ 4096 := by omega
    have d1 : 1 ≤ d := by omega
    have d2 : d ≤ 4096 := by omega
    cases ht : Pl.tm t with
    | false =>
      have hr : Pl.scaleR t n d = (0, 11) := by unfold Pl.scaleR; rw [if_neg hg, ht]; simp
      rw [hr]
      clear hg
      go_enter Try.func47, Try.ntmps47
      go_wp2_with (go_at_call 57; refine (rtime _ _).mono ?_; rintro e w' ⟨rfl, rfl⟩)
      go_returns
      exact ⟨rfl, rfl⟩
    | true =>
      have bt := Pl.tm_true.1 ht
      have hm := Pl.mul_bd (A := 1125899906842624) (B := 4096) (a := t) (b := n) (by omega) bt.1 bt.2 n1 n2
      have w1 : IntKind.i64.wrap (t * n) = t * n := wrap_of (by omega) (by omega)
      have h1 : -4611686018427387904 ≤ t * n := by omega
      have h2 : t * n ≤ 4611686018427387904 := by omega
      clear bt hm
      cases hq : Pl.tm (t * n / d) with
      | false =>
        have hr : Pl.scaleR t n d = (0, 11) := by unfold Pl.scaleR; rw [if_neg hg, ht, hq]; simp
        rw [hr]
        clear hg
        go_enter Try.func47, Try.ntmps47
        go_wp2_with (first | (go_at_call 57; refine (rtime _ _).mono ?_; rintro e w' ⟨rfl, rfl⟩) | (go_at_call 82; refine (rfloor _ _ _ d1 d2 h1 h2).mono ?_; rintro e w' ⟨rfl, rfl⟩))
        go_returns
        exact ⟨rfl, rfl⟩
      | true =>
        have hr : Pl.scaleR t n d = (t * n / d, 0) := by unfold Pl.scaleR; rw [if_neg hg, ht, hq]; simp
        rw [hr]
        clear hg
        go_enter Try.func47, Try.ntmps47
        go_wp2_with (first | (go_at_call 57; refine (rtime _ _).mono ?_; rintro e w' ⟨rfl, rfl⟩) | (go_at_call 82; refine (rfloor _ _ _ d1 d2 h1 h2).mono ?_; rintro e w' ⟨rfl, rfl⟩))
        go_returns
        exact ⟨rfl, rfl⟩

theorem ne_beq' {k m : Int} (h : ¬ k = m) : (k == m) = false := by simpa using h
set_option maxHeartbeats 1000000 in
theorem rtwo (k x y : Int) (w : World) (hx : Pl.tm x = true) (hy : Pl.tm y = true) : Calls Try.prog 56 #[.int .i64 k, .int .i64 x, .int .i64 y] w fun e w' => e = .returned (.tuple #[.int .i64 (Pl.twoR k x y).1, .int .i64 (Pl.twoR k x y).2]) ∧ w = w' := by
  by_cases k2 : k = 2
  · subst k2
    have hr : Pl.twoR 2 x y = Pl.addR x y := by simp [Pl.twoR, Pl.two, Pl.addR, hx, hy]
    rw [hr]
    go_enter Try.func56, Try.ntmps56
    go_wp2_with (go_at_call 43; refine (radd _ _ _).mono ?_; rintro e w' ⟨rfl, rfl⟩)
    go_returns
    exact ⟨rfl, rfl⟩
  by_cases k3 : k = 3
  · subst k3
    have hr : Pl.twoR 3 x y = Pl.subR x y := by simp [Pl.twoR, Pl.two, Pl.subR, hx, hy]
    rw [hr]
    go_enter Try.func56, Try.ntmps56
    go_wp2_with (go_at_call 44; refine (rsub _ _ _).mono ?_; rintro e w' ⟨rfl, rfl⟩)
    go_returns
    exact ⟨rfl, rfl⟩
  by_cases k4 : k = 4
  · subst k4
    have hr : Pl.twoR 4 x y = Pl.mulR x y := by simp [Pl.twoR, Pl.two, Pl.mulR, hx, hy]
    rw [hr]
    go_enter Try.func56, Try.ntmps56
    go_wp2_with (go_at_call 45; refine (rmul _ _ _).mono ?_; rintro e w' ⟨rfl, rfl⟩)
    go_returns
    exact ⟨rfl, rfl⟩
  have q2 := ne_beq' k2
  have q3 := ne_beq' k3
  have q4 := ne_beq' k4
  by_cases k5 : k = 5
  · subst k5
    clear q2 q3 q4
    by_cases hc : x < y
    · have hr : Pl.twoR 5 x y = (x, 0) := by simp [Pl.twoR, Pl.two, hx, show ¬ y < x by omega]
      rw [hr]
      go_enter Try.func56, Try.ntmps56
      go_wp2
      go_returns
      exact ⟨rfl, rfl⟩
    · have hr : Pl.twoR 5 x y = (y, 0) := by
        by_cases hc2 : y < x
        · simp [Pl.twoR, Pl.two, hy, hc2]
        · have : x = y := by omega
          subst this
          simp [Pl.twoR, Pl.two, hy]
      rw [hr]
      go_enter Try.func56, Try.ntmps56
      go_wp2
      go_returns
      exact ⟨rfl, rfl⟩
  have q5 := ne_beq' k5
  by_cases hc : y < x
  · have hr : Pl.twoR k x y = (x, 0) := by simp [Pl.twoR, Pl.two, hx, k2, k3, k4, k5, show ¬ x < y by omega]
    rw [hr]
    clear k2 k3 k4 k5
    go_enter Try.func56, Try.ntmps56
    go_wp2
    go_returns
    exact ⟨rfl, rfl⟩
  · have hr : Pl.twoR k x y = (y, 0) := by
      by_cases hc2 : x < y
      · simp [Pl.twoR, Pl.two, hy, hc2, k2, k3, k4, k5]
      · have : x = y := by omega
        subst this
        simp [Pl.twoR, Pl.two, hy, k2, k3, k4, k5]
    rw [hr]
    clear k2 k3 k4 k5
    go_enter Try.func56, Try.ntmps56
    go_wp2
    go_returns
    exact ⟨rfl, rfl⟩
end Go.Proofs.Ythmglahcampllaa
