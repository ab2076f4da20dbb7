/- What is proved here: what the document's Walk answers, for every way. Condition: numbers and links can be read. -/
import Derived.Test.YtijgopcddjnfdaaWe
namespace Go.Proofs.Ytijgopcddjnfdaa
open Go Go.RowKit
attribute [local go_sem ↓] op_lss op_gtr op_geq op_leq op_eql op_neq op_neg wop_eql wop_neq run_frombits run_bits lfrombits_one lfrombits_inf lfrombits_ninf lop_eql_sign
attribute [local go_sem] KW.cell KW.frozen
set_option maxRecDepth 100000 in
set_option maxHeartbeats 2000000 in
theorem rwalk_bad (bv : Value) (bs : List Nat) (way : List Int) (v : Value) (w : World) (hb : Rd WRD bv bs w) (hv : Rd INT v way w) (hall : Fl.allB bs.length way = false) :
    Calls Try.prog 46 #[bv, v] w fun e w' => e = .returned (.int .u64 ((Fl.inf : Nat) : Int)) ∧ w = w' := by
  obtain ⟨ao, c, rfl, hm⟩ := hv.form
  obtain ⟨bo, d, rfl, hbm⟩ := hb.form
  have hne : 1 ≤ way.length := by
    cases way with
    | nil => cases hall
    | cons x r => simp
  have HV := Lib.hid hv
  have HALL := Lib.hid hall
  have hz1 : ((way.length : Int) == 0) = false := by rw [beq_eq_false_iff_ne]; omega
  have hz2 : (way.length == 0) = false := by rw [beq_eq_false_iff_ne]; omega
  clear hb hv hall
  go_enter Try.func46, Try.ntmps46
  go_wp2_with fail
  go_loop [5] (fun i => ∃ k : Nat, i = .int .i64 k ∧ k ≤ way.length ∧ Hid (∀ i (_ : i < k) (h : i < way.length), Fl.hasB bs.length way[i] = true)) (fun i => way.length - (intOf i).toNat)
  case atStart => exact ⟨0, rfl, Nat.zero_le _, Lib.hid fun i h => absurd h (Nat.not_lt_zero _)⟩
  case round =>
    obtain ⟨k, rfl, hk, HO⟩ := hrel
    by_cases hlt : k < way.length
    · have hd : decide ((k : Int) < (way.length : Int)) = true := by simp; omega
      obtain ⟨a, rfl, _, hc⟩ := HV.out.at_ k hlt
      unfold INT at hc
      have HY : Hid (Fl.hasB bs.length way[k] = true → ∀ i (_ : i < k + 1) (h : i < way.length), Fl.hasB bs.length way[i] = true) := by
        refine Lib.hid fun hf i hi h => ?_
        by_cases e : i = k
        · subst e; exact hf
        · exact HO.out i (by omega) h
      clear HO
      generalize way[k] = t at *
      by_cases h0 : t < 0
      · go_wp2_with fail
        go_ret
        exact ⟨rfl, rfl⟩
      by_cases h1 : (bs.length : Int) ≤ t
      · go_wp2_with fail
        go_ret
        exact ⟨rfl, rfl⟩
      have HO' := Lib.hid (HY.out (Fl.hasB_iff.2 ⟨by omega, by omega⟩))
      go_wp2_with fail
      go_round
      case rel => exact ⟨k + 1, by go_num, by omega, HO'⟩
      case measure => simp [intOf]; omega
    · exfalso
      have : Fl.allB bs.length way = true := List.all_eq_true.2 fun a ha => by
        obtain ⟨i, hi, rfl⟩ := List.getElem_of_mem ha
        exact HO.out i (by omega) hi
      rw [HALL.out] at this
      cases this
theorem rwalk_c (bv : Value) (bs : List Nat) (way : List Int) (v : Value) (w : World) (hbs : bs.length ≤ 1000) (hb : Rd WRD bv bs w) (hv : Rd INT v way w) :
    Calls Try.prog 46 #[bv, v] w fun e w' => e = .returned (.int .u64 ((Fl.rwalkP bs way : Nat) : Int)) ∧ Below w.heap.size w w' := by
  unfold Fl.rwalkP
  cases h : Fl.allB bs.length way with
  | true => rw [if_pos rfl]; exact rwalk_good bv bs hbs way v w hb hv h
  | false => rw [if_neg (by simp)]; exact (rwalk_bad bv bs way v w hb hv h).mono fun _ _ ⟨he, hw⟩ => ⟨he, hw ▸ Below.refl _ _⟩
end Go.Proofs.Ytijgopcddjnfdaa
