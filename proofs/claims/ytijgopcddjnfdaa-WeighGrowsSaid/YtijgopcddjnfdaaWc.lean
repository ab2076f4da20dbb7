/- What is proved here: which numbers may be weights, and which links are up: the program's and the document's. Condition: they can be read. -/
import Derived.Test.YtijgopcddjnfdaaWb
import Derived.Deep.LoopGhost
import Derived.BigQuiet
namespace Go.Proofs.Ytijgopcddjnfdaa
open Go Go.RowKit
attribute [local go_sem ↓] op_lss op_gtr op_geq op_leq op_eql op_neq op_neg wop_eql wop_neq run_frombits run_bits lfrombits_one lfrombits_inf lfrombits_ninf lop_eql_sign
attribute [local go_sem] KW.cell KW.frozen
theorem nocost_c (x : Nat) (hx : Fl.W64 x) (w : World) : Calls Try.prog 56 #[.float .f64 x] w fun e w' => e = .returned (.bool (!Fl.cost x)) ∧ w = w' := by
  have H := Lib.hid (cost_w x hx w)
  generalize Fl.cost x = b at *
  cases b
  all_goals
    go_enter Try.func56, Try.ntmps56
    go_wp2_with (go_at_call 22; refine H.out.mono ?_; rintro e w' ⟨rfl, rfl⟩)
    go_ret
    exact ⟨rfl, rfl⟩
/-- What the search for a number that is no cost answers: below 0 where there is none. -/
def WIdx (b : Bool) (w : World) (e : Ending) (w' : World) : Prop := ∃ i : Int, e = .returned (.int .i64 i) ∧ decide (0 ≤ i) = !b ∧ w = w'
theorem WIdx.mk' {b : Bool} {w w' : World} (i : Int) (h : decide (0 ≤ i) = !b) (hb : w = w') : WIdx b w (.returned (.int .i64 i)) w' := ⟨i, rfl, h, hb⟩
set_option maxRecDepth 100000 in
set_option maxHeartbeats 1000000 in
theorem widx_c (v : Value) (xs : List Nat) (w : World) (h : Rd FLT v xs w) (hw : ∀ x ∈ xs, Fl.W64 x) : Calls Try.prog 61 #[v, .func (.func 56) #[] #[]] w fun e w' => WIdx (xs.all Fl.cost) w e w' := by
  obtain ⟨ao, c, rfl, hm⟩ := h.form
  have H := Lib.hid h
  have HW := Lib.hid hw
  clear h hw
  go_enter Try.func61, Try.ntmps61
  go_wp2_with fail
  go_loop [8] (fun i => ∃ k : Nat, i = .int .i64 k ∧ k ≤ xs.length ∧ Hid (∀ i (_ : i < k) (h : i < xs.length), Fl.cost xs[i] = true)) (fun i => xs.length - (intOf i).toNat)
  case atStart => exact ⟨0, rfl, Nat.zero_le _, Lib.hid fun i h => absurd h (Nat.not_lt_zero _)⟩
  case round =>
    obtain ⟨k, rfl, hk, HO⟩ := hrel
    by_cases hlt : k < xs.length
    · have hd : decide ((k : Int) < (xs.length : Int)) = true := by simp; omega
      obtain ⟨a, rfl, _, hc⟩ := H.out.at_ k hlt
      unfold FLT at hc
      have HF := Lib.hid (nocost_c xs[k] (HW.out _ (List.getElem_mem hlt)) w)
      cases hfb : Fl.cost xs[k] with
      | true =>
        rw [hfb] at HF
        have HO' : Hid (∀ i (_ : i < k + 1) (h : i < xs.length), Fl.cost xs[i] = true) := by
          refine Lib.hid fun i hi h => ?_
          by_cases e : i = k
          · subst e; exact hfb
          · exact HO.out i (by omega) h
        clear hfb
        generalize xs[k] = x at *
        go_wp2_with (go_at_call 56; refine HF.out.mono ?_; rintro e w' ⟨rfl, rfl⟩)
        go_round
        case rel => exact ⟨k + 1, by go_num, by omega, HO'⟩
        case measure => simp [intOf]; omega
      | false =>
        rw [hfb] at HF
        have HA : Hid (xs.all Fl.cost = false) := by
          refine Lib.hid ?_
          rw [Bool.eq_false_iff]
          intro hc
          have := List.all_eq_true.1 hc _ (List.getElem_mem hlt)
          rw [hfb] at this
          cases this
        clear hfb
        generalize xs[k] = x at *
        go_wp2_with (go_at_call 56; refine HF.out.mono ?_; rintro e w' ⟨rfl, rfl⟩)
        go_ret
        rw [HA.out]
        exact WIdx.mk' _ (by simp) rfl
    · obtain rfl : k = xs.length := by omega
      have hd : decide ((xs.length : Int) < (xs.length : Int)) = false := by simp
      have HA : Hid (xs.all Fl.cost = true) := by
        refine Lib.hid (List.all_eq_true.2 fun a ha => ?_)
        obtain ⟨i, hi, rfl⟩ := List.getElem_of_mem ha
        exact HO.out i hi hi
      go_wp2_with fail
      go_ret
      rw [HA.out]
      exact WIdx.mk' _ (by decide) rfl
theorem wcont_c (v : Value) (xs : List Nat) (w : World) (h : Rd FLT v xs w) (hw : ∀ x ∈ xs, Fl.W64 x) : Calls Try.prog 55 #[v, .func (.func 56) #[] #[]] w fun e w' => e = .returned (.bool (!(xs.all Fl.cost))) ∧ w = w' := by
  have HI := Lib.hid (widx_c v xs w h hw)
  clear h hw
  generalize xs.all Fl.cost = b at *
  go_enter Try.func55, Try.ntmps55
  go_wp2_with fail
  refine HI.out.mono ?_
  rintro e w1 ⟨i, rfl, hi, rfl⟩
  cases b
  all_goals
    go_wp2_with fail
    go_ret
    exact ⟨rfl, rfl⟩
set_option maxRecDepth 100000 in
theorem wright_c (v : Value) (xs : List Nat) (links : Int) (w : World) (h : Rd FLT v xs w) (hw : ∀ x ∈ xs, Fl.W64 x) : Calls Try.prog 44 #[v, .int .i64 links] w fun e w' => e = .returned (.bool (Fl.rightW xs links)) ∧ w = w' := by
  have HI := Lib.hid (wcont_c v xs w h hw)
  obtain ⟨ao, c, rfl, hm⟩ := h.form
  clear h hw
  unfold Fl.rightW
  by_cases hn : (xs.length : Int) = links
  · have hq : ((xs.length : Int) == links) = true := by simpa using hn
    rw [decide_eq_true hn, Bool.and_true]
    clear hn
    generalize xs.all Fl.cost = b at *
    generalize xs.length = m at *
    cases b
    all_goals
      go_enter Try.func44, Try.ntmps44
      go_wp2_with (go_at_call 55; refine HI.out.mono ?_; rintro e w' ⟨rfl, rfl⟩)
      go_ret
      exact ⟨rfl, rfl⟩
  · have hq : ((xs.length : Int) == links) = false := by simpa using hn
    rw [decide_eq_false hn, Bool.and_false]
    clear hn
    generalize xs.all Fl.cost = b at *
    generalize xs.length = m at *
    go_enter Try.func44, Try.ntmps44
    go_wp2_with fail
    go_ret
    exact ⟨rfl, rfl⟩
set_option maxRecDepth 100000 in
theorem wrright_c (v : Value) (xs : List Nat) (links : Int) (w : World) (h : Rd WRD v xs w) : Calls Try.prog 40 #[v, .int .i64 links] w fun e w' => e = .returned (.bool (Fl.rightW xs links)) ∧ w = w' := by
  obtain ⟨ao, c, rfl, hm⟩ := h.form
  have H := Lib.hid h
  clear h
  go_enter Try.func40, Try.ntmps40
  go_wp2_with fail
  go_loop [5] (fun i => ∃ k : Nat, i = .int .i64 k ∧ k ≤ xs.length ∧ Hid (∀ i (_ : i < k) (h : i < xs.length), Fl.cost xs[i] = true)) (fun i => xs.length - (intOf i).toNat)
  case atStart => exact ⟨0, rfl, Nat.zero_le _, Lib.hid fun i h => absurd h (Nat.not_lt_zero _)⟩
  case round =>
    obtain ⟨k, rfl, hk, HO⟩ := hrel
    by_cases hlt : k < xs.length
    · have hd : decide ((k : Int) < (xs.length : Int)) = true := by simp; omega
      obtain ⟨a, rfl, _, hc⟩ := H.out.at_ k hlt
      unfold WRD at hc
      have HF := Lib.hid (rcost_w xs[k] w)
      cases hfb : Fl.cost xs[k] with
      | true =>
        rw [hfb] at HF
        have HO' : Hid (∀ i (_ : i < k + 1) (h : i < xs.length), Fl.cost xs[i] = true) := by
          refine Lib.hid fun i hi h => ?_
          by_cases e : i = k
          · subst e; exact hfb
          · exact HO.out i (by omega) h
        clear hfb
        generalize xs[k] = x at *
        go_wp2_with (go_at_call 20; refine HF.out.mono ?_; rintro e w' ⟨rfl, rfl⟩)
        go_round
        case rel => exact ⟨k + 1, by go_num, by omega, HO'⟩
        case measure => simp [intOf]; omega
      | false =>
        rw [hfb] at HF
        have HA : Hid (Fl.rightW xs links = false) := by
          refine Lib.hid ?_
          unfold Fl.rightW
          rw [Bool.and_eq_false_iff]
          left
          rw [Bool.eq_false_iff]
          intro hc
          have := List.all_eq_true.1 hc _ (List.getElem_mem hlt)
          rw [hfb] at this
          cases this
        clear hfb
        generalize xs[k] = x at *
        go_wp2_with (go_at_call 20; refine HF.out.mono ?_; rintro e w' ⟨rfl, rfl⟩)
        go_ret
        rw [HA.out]
        exact ⟨rfl, rfl⟩
    · obtain rfl : k = xs.length := by omega
      have hd : decide ((xs.length : Int) < (xs.length : Int)) = false := by simp
      have HA : xs.all Fl.cost = true := by
        refine List.all_eq_true.2 fun a ha => ?_
        obtain ⟨i, hi, rfl⟩ := List.getElem_of_mem ha
        exact HO.out i hi hi
      have HR : Hid (Fl.rightW xs links = decide ((xs.length : Int) = links)) := Lib.hid (by unfold Fl.rightW; rw [HA, Bool.true_and])
      clear HA HO
      by_cases hn : (xs.length : Int) = links
      · have hq : ((xs.length : Int) == links) = true := by simpa using hn
        have HE := Lib.hid hn
        clear hn
        go_wp2_with fail
        go_ret
        exact ⟨by rw [HR.out, decide_eq_true HE.out]; (first | done | rfl), rfl⟩
      · have hq : ((xs.length : Int) == links) = false := by simpa using hn
        have HE := Lib.hid hn
        clear hn
        go_wp2_with fail
        go_ret
        exact ⟨by rw [HR.out, decide_eq_false HE.out]; (first | done | rfl), rfl⟩
/-! Up -/
namespace Fl
def upB (bs : List Nat) (x : Int) : Bool := hasB bs.length x && (decide (0 < cls (wat bs x)) && decide (cls (wat bs x) < 6))
theorem lt_inf {x : Nat} (hx : W64 x) : (FloatKind.f64.format.order (clean x) 9218868437227405312 == some Ordering.lt) = (decide (0 < cls x) && decide (cls x < 6)) := by
  have hc := lt_iff (clean_w hx) w_inf
  rw [Bool.eq_iff_iff, hc, Bool.and_eq_true, decide_eq_true_eq, decide_eq_true_eq]
  have hi : pl 9218868437227405312 = 9218868437227405312 := rfl
  have hn : nan 9218868437227405312 = false := rfl
  rw [hi, hn, nan_clean]
  unfold cls rcls
  rcases clean_or x with ⟨h, e⟩ | ⟨h, e⟩
  · rw [e, h]
    simp [one]
  · rw [e, h]
    have hno := nan_no.1 h
    unfold W64 at hx
    clear hc e
    simp only [eq_self, true_and]
    rcases pl_eq x with ⟨h3, e3⟩ | ⟨h3, e3⟩
    · rw [e3]
      repeat' split
      all_goals omega
    · rw [e3]
      repeat' split
      all_goals omega
end Fl
end Go.Proofs.Ytijgopcddjnfdaa
