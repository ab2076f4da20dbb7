/- What is proved here: what Drift and Miss answer. Condition: none. -/
import Derived.Test.YtgpeekmagckgcaaPd
import Derived.Test.YtgpeekmagckgcaaSw
namespace Go.Proofs.Ytgpeekmagckgcaa
open Go Go.RowKit

theorem wrap_of {e : Int} (h1 : -9223372036854775808 ≤ e) (h2 : e ≤ 9223372036854775807) : IntKind.i64.wrap e = e := IntWalk.i64_in _ (by omega)

/-- Behind the two cuts. -/
theorem drift_tail {e : Ending} {S M s m : Int} (hs : S = Pl.cs s) (hm : M = Pl.cm m) (h : e = .returned (.int .i64 ((S * M + 999) / 1000))) : e = .returned (.int .i64 (Pl.drift s m)) := by
  rw [h, hs, hm]; rfl

set_option maxHeartbeats 1000000 in
theorem drift_c (s m : Int) (w : World) :
    Calls Try.prog 37 #[.int .i64 s, .int .i64 m] w fun e w' => e = .returned (.int .i64 (Pl.drift s m)) ∧ w = w' := by
  have hp := Pl.prod_bd s m
  have key : ∀ S M : Int, S = Pl.cs s → M = Pl.cm m → IntKind.i64.wrap (S * M) = S * M ∧ IntKind.i64.wrap (S * M + 1000) = S * M + 1000 ∧ IntKind.i64.wrap (S * M + 1000 - 1) = S * M + 999 ∧ (S * M + 999).tdiv 1000 = (S * M + 999) / 1000 ∧ IntKind.i64.wrap ((S * M + 999) / 1000) = (S * M + 999) / 1000 := by
    rintro S M rfl rfl
    refine ⟨wrap_of (by omega) (by omega), wrap_of (by omega) (by omega), ?_, Int.tdiv_eq_ediv_of_nonneg (by omega), wrap_of (by omega) (by omega)⟩
    rw [wrap_of (by omega) (by omega)]
    omega
  clear hp
  by_cases s1 : s < 0
  all_goals by_cases s2 : 1099511627776 < s
  all_goals by_cases m1 : m < 0
  all_goals by_cases m2 : 1000 < m
  all_goals first | (exfalso; omega) | skip
  all_goals
    have hk := key _ _ rfl rfl
    have hS : Pl.cs s = (if s < 0 then 0 else if 1099511627776 < s then 1099511627776 else s) := rfl
    have hM : Pl.cm m = (if m < 0 then 0 else if 1000 < m then 1000 else m) := rfl
    simp only [s1, s2, m1, m2, if_true, if_false] at hS hM
    have hd : Pl.drift s m = (Pl.cs s * Pl.cm m + 999) / 1000 := rfl
    rw [hS, hM] at hk hd
    rw [hd]
    clear key hS hM hd
    obtain ⟨k1, k2, k3, k4, k5⟩ := hk
    go_enter Try.func37, Try.ntmps37
    go_wp2
    all_goals first | (exfalso; omega) | (go_ret; exact ⟨rfl, rfl⟩)

set_option maxHeartbeats 400000 in
theorem floor_c (p : Int) (w : World) (hp1 : -4611686018427387904 ≤ p) (hp2 : p ≤ 4611686018427387904) : Calls Try.prog 69 #[.int .i64 p, .int .i64 1000] w fun e w' => e = .returned (.int .i64 (p / 1000)) ∧ w = w' := by
  have hf := Pl.floor_t p 1000 (by omega)
  have e : 1000 * p.tdiv 1000 + p.tmod 1000 = p := Int.mul_tdiv_add_tmod p 1000
  have t2 : p.tmod 1000 < 1000 := Int.tmod_lt_of_pos p (by omega)
  have t1 : -1000 < p.tmod 1000 := Int.lt_tmod_of_pos p (by omega)
  have w1 : IntKind.i64.wrap (p.tdiv 1000) = p.tdiv 1000 := wrap_of (by omega) (by omega)
  have w2 : IntKind.i64.wrap (p.tdiv 1000 * 1000) = p.tdiv 1000 * 1000 := wrap_of (by omega) (by omega)
  by_cases hc : p.tdiv 1000 * 1000 > p
  · have e2 := hf.1 (by omega)
    rw [← e2]
    clear hf e2
    go_enter Try.func69, Try.ntmps69
    go_wp2
    go_ret
    exact ⟨rfl, rfl⟩
  · have e2 := hf.2 (by omega)
    rw [← e2]
    clear hf e2
    go_enter Try.func69, Try.ntmps69
    go_wp2
    go_ret
    exact ⟨rfl, rfl⟩

set_option maxHeartbeats 1000000 in
theorem rdrift_c (s m : Int) (w : World) :
    Calls Try.prog 38 #[.int .i64 s, .int .i64 m] w fun e w' => e = .returned (.int .i64 (Pl.drift s m)) ∧ w = w' := by
  have hp := Pl.prod_bd s m
  by_cases s1 : s < 0
  · have h0 : Pl.drift s m = 0 := by simp [Pl.drift, Pl.cs, s1]
    rw [h0]
    go_enter Try.func38, Try.ntmps38
    go_wp2
    go_ret
    exact ⟨rfl, rfl⟩
  by_cases m1 : m < 0
  · have h0 : Pl.drift s m = 0 := by simp [Pl.drift, Pl.cm, m1]
    rw [h0]
    go_enter Try.func38, Try.ntmps38
    go_wp2
    go_ret
    exact ⟨rfl, rfl⟩
  have key : ∀ S M : Int, S = Pl.cs s → M = Pl.cm m → IntKind.i64.wrap (S * M) = S * M ∧ IntKind.i64.wrap (-(S * M)) = -(S * M) ∧ IntKind.i64.wrap (0 - S * M) = -(S * M) ∧ IntKind.i64.wrap (0 - (-(S * M)) / 1000) = (S * M + 999) / 1000 ∧ IntKind.i64.wrap (-((-(S * M)) / 1000)) = (S * M + 999) / 1000 ∧ -4611686018427387904 ≤ -(S * M) ∧ -(S * M) ≤ 4611686018427387904 := by
    rintro S M rfl rfl
    refine ⟨wrap_of (by omega) (by omega), wrap_of (by omega) (by omega), ?_, ?_, ?_, by omega, by omega⟩
    · rw [wrap_of (by omega) (by omega)]; omega
    · rw [wrap_of (by omega) (by omega)]; omega
    · rw [wrap_of (by omega) (by omega)]; omega
  clear hp
  by_cases s2 : 1099511627776 < s
  all_goals by_cases m2 : 1000 < m
  all_goals
    have hk := key _ _ rfl rfl
    have hS : Pl.cs s = (if s < 0 then 0 else if 1099511627776 < s then 1099511627776 else s) := rfl
    have hM : Pl.cm m = (if m < 0 then 0 else if 1000 < m then 1000 else m) := rfl
    simp only [s1, s2, m1, m2, if_true, if_false] at hS hM
    have hd : Pl.drift s m = (Pl.cs s * Pl.cm m + 999) / 1000 := rfl
    rw [hS, hM] at hk hd
    rw [hd]
    clear key hS hM hd
    obtain ⟨k1, k2, k3, k4, k5, k6, k7⟩ := hk
    go_enter Try.func38, Try.ntmps38
    go_wp2_with (go_at_call 69; refine (floor_c _ _ (by omega) (by omega)).mono ?_; rintro e w' ⟨rfl, rfl⟩)
    go_ret
    exact ⟨by first | rfl | (rw [← k4]; rfl) | (rw [← k5]; rfl), rfl⟩
end Go.Proofs.Ytgpeekmagckgcaa
