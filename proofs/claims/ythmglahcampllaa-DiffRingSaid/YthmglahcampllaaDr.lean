/- What is proved here: which wishes may be. Condition: they can be read. -/
import Derived.Test.YthmglahcampllaaDp
namespace Go.Proofs.Ythmglahcampllaa
open Go Go.RowKit
namespace Df
attribute [local go_sem] KW.cell KW.frozen
def FitZ (n : Int) (a : Af) : Prop := 0 ≤ a.1 ∧ a.1 < n ∧ 0 ≤ a.2.1 ∧ a.2.1 < n ∧ -1073741824 ≤ a.2.2 ∧ a.2.2 ≤ 1073741824
instance (n : Int) (a : Af) : Decidable (FitZ n a) := by unfold FitZ; exact inferInstance
theorem FitZ_mk {n I J G : Int} : FitZ n (I, J, G) ↔ 0 ≤ I ∧ I < n ∧ 0 ≤ J ∧ J < n ∧ -1073741824 ≤ G ∧ G ≤ 1073741824 := Iff.rfl
def rightB (n : Int) (l : List Af) : Bool := decide (0 ≤ n ∧ n ≤ 64 ∧ l.length ≤ 256) && l.all fun a => decide (FitZ n a)
theorem rightB_iff {n : Int} {l : List Af} : rightB n l = true ↔ (0 ≤ n ∧ n ≤ 64 ∧ l.length ≤ 256) ∧ ∀ a ∈ l, FitZ n a := by
  unfold rightB
  rw [Bool.and_eq_true, decide_eq_true_eq, List.all_eq_true]
  simp
theorem rightB_nat {n : Nat} {l : List Af} (h : rightB n l = true) : n ≤ 64 ∧ l.length ≤ 256 ∧ ∀ a ∈ l, Fit n a := by
  obtain ⟨⟨_, h1, h2⟩, h3⟩ := rightB_iff.1 h
  exact ⟨by omega, h2, h3⟩
theorem fit_c (n I J G : Int) (q : Nat) (w : World) (hq : q < w.heap.size) (cn : w.cell? ⟨q, 0, none⟩ = some (.int .i64 n)) :
    Calls Try.prog 59 #[.agg #[.int .i64 I, .int .i64 J, .int .i64 G], .pointer (some ⟨q, 0, none⟩)] w fun e w' => e = .returned (.bool (!decide (FitZ n (I, J, G)))) ∧ Below w.heap.size w w' := by
  by_cases c1 : I < 0
  · have hE : (!decide (FitZ n (I, J, G))) = true := by rw [Bool.not_eq_true', decide_eq_false_iff_not, FitZ_mk]; omega
    rw [hE]
    clear hE
    go_enter Try.func59, Try.ntmps59
    go_wp2_with fail
    go_ret
    exact ⟨rfl, (Below.refl _ _).alloc (Nat.le_refl _) _⟩
  by_cases c2 : n ≤ I
  · have hE : (!decide (FitZ n (I, J, G))) = true := by rw [Bool.not_eq_true', decide_eq_false_iff_not, FitZ_mk]; omega
    rw [hE]
    clear hE
    go_enter Try.func59, Try.ntmps59
    go_wp2_with fail
    go_ret
    exact ⟨rfl, (Below.refl _ _).alloc (Nat.le_refl _) _⟩
  by_cases c3 : J < 0
  · have hE : (!decide (FitZ n (I, J, G))) = true := by rw [Bool.not_eq_true', decide_eq_false_iff_not, FitZ_mk]; omega
    rw [hE]
    clear hE
    go_enter Try.func59, Try.ntmps59
    go_wp2_with fail
    go_ret
    exact ⟨rfl, (Below.refl _ _).alloc (Nat.le_refl _) _⟩
  by_cases c4 : n ≤ J
  · have hE : (!decide (FitZ n (I, J, G))) = true := by rw [Bool.not_eq_true', decide_eq_false_iff_not, FitZ_mk]; omega
    rw [hE]
    clear hE
    go_enter Try.func59, Try.ntmps59
    go_wp2_with fail
    go_ret
    exact ⟨rfl, (Below.refl _ _).alloc (Nat.le_refl _) _⟩
  by_cases c5 : G < -1073741824
  · have hE : (!decide (FitZ n (I, J, G))) = true := by rw [Bool.not_eq_true', decide_eq_false_iff_not, FitZ_mk]; omega
    rw [hE]
    clear hE
    go_enter Try.func59, Try.ntmps59
    go_wp2_with fail
    go_ret
    exact ⟨rfl, (Below.refl _ _).alloc (Nat.le_refl _) _⟩
  by_cases c6 : 1073741824 < G
  · have hE : (!decide (FitZ n (I, J, G))) = true := by rw [Bool.not_eq_true', decide_eq_false_iff_not, FitZ_mk]; omega
    rw [hE]
    clear hE
    go_enter Try.func59, Try.ntmps59
    go_wp2_with fail
    go_ret
    exact ⟨rfl, (Below.refl _ _).alloc (Nat.le_refl _) _⟩
  have hE : (!decide (FitZ n (I, J, G))) = false := by rw [Bool.not_eq_false', decide_eq_true_eq, FitZ_mk]; omega
  rw [hE]
  clear hE
  go_enter Try.func59, Try.ntmps59
  go_wp2_with fail
  go_ret
  exact ⟨rfl, (Below.refl _ _).alloc (Nat.le_refl _) _⟩
/-- What the search for a wish that may not be answers: below 0 where all may be. -/
def IdxPost (b : Bool) (w : World) (e : Ending) (w' : World) : Prop := ∃ i : Int, e = .returned (.int .i64 i) ∧ decide (0 ≤ i) = !b ∧ Below w.heap.size w w'
theorem IdxPost.mk' {b : Bool} {w w' : World} (i : Int) (h : decide (0 ≤ i) = !b) (hb : Below w.heap.size w w') : IdxPost b w (.returned (.int .i64 i)) w' := ⟨i, rfl, h, hb⟩
set_option maxRecDepth 100000 in
set_option maxHeartbeats 1000000 in
theorem idx_run (n : Int) (ao : Option Addr) (c : Nat) (l : List Af) (q : Nat) (w : World) (hq : q < w.heap.size) (cn : w.cell? ⟨q, 0, none⟩ = some (.int .i64 n)) (hv : AfP (.slice ao l.length c) l w) (hl : l.length ≤ 9223372036854775807) :
    Calls Try.prog 84 #[.slice ao l.length c, .func (.func 59) #[] #[.pointer (some ⟨q, 0, none⟩)]] w fun e w' => IdxPost (l.all fun a => decide (FitZ n a)) w e w' := by
  have HV := Lib.hid hv
  have HC := Lib.hid cn
  clear hv cn
  go_enter Try.func84, Try.ntmps84
  go_wp2_with fail
  go_loopg [8] l.length (fun gg s8 wr => ∃ k : Nat, gg = l.length - k ∧ k ≤ l.length ∧ s8 = .int .i64 k ∧ Below w.heap.size w wr ∧ Hid (∀ i (_ : i < k) (h : i < l.length), FitZ n l[i]))
  case atStart => exact ⟨0, rfl, Nat.zero_le _, rfl, Below.refl _ _, Lib.hid fun i h => absurd h (Nat.not_lt_zero _)⟩
  case round =>
    obtain ⟨k, rfl, hk, rfl, hb, HO⟩ := hrel
    by_cases hlt : k < l.length
    · have hd : decide ((k : Int) < (l.length : Int)) = true := by simp; omega
      obtain ⟨g, rfl, hg, e0, e1, e2⟩ := (HV.out.kept hb).at_ k hlt
      have cn := (hb.cell (p := ⟨q, 0, none⟩) hq).trans HC.out
      have hqr := Nat.lt_of_lt_of_le hq hb.size
      have HF := Lib.hid (fit_c n (l[k]).1 (l[k]).2.1 (l[k]).2.2 q wr hqr cn)
      clear cn
      cases hfb : decide (FitZ n l[k]) with
      | true =>
        have hfb' : decide (FitZ n ((l[k]).1, (l[k]).2.1, (l[k]).2.2)) = true := hfb
        rw [hfb'] at HF
        have HO' : Hid (∀ i (_ : i < k + 1) (h : i < l.length), FitZ n l[i]) := by
          refine Lib.hid fun i hi h => ?_
          by_cases e : i = k
          · subst e; exact of_decide_eq_true hfb
          · exact HO.out i (by omega) h
        clear hfb hfb'
        generalize (l[k]).1 = I at *
        generalize (l[k]).2.1 = J at *
        generalize (l[k]).2.2 = G at *
        go_wp2_with (go_at_call 59; refine HF.out.mono ?_; rintro e w1 ⟨rfl, hb1⟩)
        go_roundg (l.length - (k + 1))
        case measure => omega
        case rel => exact ⟨k + 1, rfl, by omega, by go_num, bon hb hb1, HO'⟩
      | false =>
        have hfb' : decide (FitZ n ((l[k]).1, (l[k]).2.1, (l[k]).2.2)) = false := hfb
        rw [hfb'] at HF
        have HA : Hid (l.all (fun a => decide (FitZ n a)) = false) := by
          refine Lib.hid ?_
          rw [Bool.eq_false_iff]
          intro hc
          have := List.all_eq_true.1 hc _ (List.getElem_mem hlt)
          rw [hfb] at this
          cases this
        clear hfb hfb'
        generalize (l[k]).1 = I at *
        generalize (l[k]).2.1 = J at *
        generalize (l[k]).2.2 = G at *
        go_wp2_with (go_at_call 59; refine HF.out.mono ?_; rintro e w1 ⟨rfl, hb1⟩)
        go_ret
        rw [HA.out]
        exact IdxPost.mk' _ (by simp) (bon hb hb1)
    · obtain rfl : k = l.length := by omega
      have hd : decide ((l.length : Int) < (l.length : Int)) = false := by simp
      have HA : Hid (l.all (fun a => decide (FitZ n a)) = true) := by
        refine Lib.hid (List.all_eq_true.2 fun a ha => ?_)
        obtain ⟨i, hi, rfl⟩ := List.getElem_of_mem ha
        exact decide_eq_true (HO.out i hi hi)
      go_wp2_with fail
      go_ret
      rw [HA.out]
      exact IdxPost.mk' _ (by decide) hb
set_option maxRecDepth 100000 in
theorem contains_c (n : Int) (ao : Option Addr) (c : Nat) (l : List Af) (q : Nat) (w : World) (hq : q < w.heap.size) (cn : w.cell? ⟨q, 0, none⟩ = some (.int .i64 n)) (hv : AfP (.slice ao l.length c) l w) (hl : l.length ≤ 9223372036854775807) :
    Calls Try.prog 58 #[.slice ao l.length c, .func (.func 59) #[] #[.pointer (some ⟨q, 0, none⟩)]] w fun e w' => e = .returned (.bool (!(l.all fun a => decide (FitZ n a)))) ∧ Below w.heap.size w w' := by
  have HI := Lib.hid (idx_run n ao c l q w hq cn hv hl)
  clear cn hv hq
  generalize (l.all fun a => decide (FitZ n a)) = b at *
  go_enter Try.func58, Try.ntmps58
  go_wp2_with fail
  refine HI.out.mono ?_
  rintro e w1 ⟨i, rfl, hi, hb⟩
  cases b
  all_goals
    go_wp2_with fail
    go_ret
    exact ⟨rfl, hb⟩
set_option maxRecDepth 100000 in
theorem right_c (n : Int) (v : Value) (l : List Af) (w : World) (hv : AfP v l w) : Calls Try.prog 22 #[.int .i64 n, v] w fun e w' => e = .returned (.bool (rightB n l)) ∧ Below w.heap.size w w' := by
  obtain ⟨ao, c, rfl, hl, hc⟩ := hv.form
  unfold maxLen at hc
  have hno : ¬ (0 ≤ n ∧ n ≤ 64 ∧ l.length ≤ 256) → rightB n l = false := fun h => by
    unfold rightB
    rw [decide_eq_false h]
    rfl
  have HMF : ∀ (fn : Fn) (first cap : Array Value) (w : World), (Instr.makeFunc fn first cap).run Try.prog w = .ok (.func fn first cap) w := fun _ _ _ _ => rfl
  by_cases h1 : n < 0
  · rw [hno (by omega)]
    clear hno hv
    generalize l.length = m at *
    go_enter Try.func22, Try.ntmps22
    go_wp2_with fail
    go_ret
    exact ⟨rfl, (Below.refl _ _).alloc (Nat.le_refl _) _⟩
  by_cases h2 : 64 < n
  · rw [hno (by omega)]
    clear hno hv
    generalize l.length = m at *
    go_enter Try.func22, Try.ntmps22
    go_wp2_with fail
    go_ret
    exact ⟨rfl, (Below.refl _ _).alloc (Nat.le_refl _) _⟩
  by_cases h3 : 256 < (l.length : Int)
  · rw [hno (by omega)]
    clear hno hv
    generalize l.length = m at *
    go_enter Try.func22, Try.ntmps22
    go_wp2_with fail
    go_ret
    exact ⟨rfl, (Below.refl _ _).alloc (Nat.le_refl _) _⟩
  have hr : rightB n l = l.all fun a => decide (FitZ n a) := by
    unfold rightB
    rw [decide_eq_true ⟨by omega, by omega, by omega⟩, Bool.true_and]
  rw [hr]
  have hbx := (Below.refl w.heap.size w).alloc (Nat.le_refl _) (.cells #[.int .i64 n] 3)
  have HC := Lib.hid (contains_c n ao c l w.heap.size (w.alloc (.cells #[.int .i64 n] 3)) (by simp) (by simp [go_sem]) (hv.kept hbx) (by omega))
  have HB := Lib.hid hbx
  clear hno hr hbx hv
  generalize (l.all fun a => decide (FitZ n a)) = b at *
  go_enter Try.func22, Try.ntmps22
  go_wp2_with (go_at_call 58; refine HC.out.mono ?_; rintro e w1 ⟨rfl, hb1⟩)
  go_ret
  exact ⟨by cases b <;> rfl, bon HB.out hb1⟩
end Df
end Go.Proofs.Ythmglahcampllaa
