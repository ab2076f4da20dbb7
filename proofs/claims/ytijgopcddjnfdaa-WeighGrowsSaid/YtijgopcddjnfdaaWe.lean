/- What is proved here: what the document's Walk answers. Condition: numbers and links can be read. -/
import Derived.Test.YtijgopcddjnfdaaWd
namespace Go.Proofs.Ytijgopcddjnfdaa
open Go Go.RowKit
attribute [local go_sem ↓] op_lss op_gtr op_geq op_leq op_eql op_neq op_neg wop_eql wop_neq run_frombits run_bits lfrombits_one lfrombits_inf lfrombits_ninf lop_eql_sign
attribute [local go_sem] KW.cell KW.frozen
theorem rplus_b (x y : Nat) (w : World) : Calls Try.prog 57 #[.int .u64 (x : Int), .int .u64 (y : Int)] w fun e w' => e = .returned (.int .u64 ((Fl.plusF x y : Nat) : Int)) ∧ Below w.heap.size w w' :=
  (rplus_c x y w).mono fun _ _ ⟨he, n, hw⟩ => ⟨he, hw ▸ below_drewN (Below.refl _ _) n⟩
set_option maxRecDepth 100000 in
set_option maxHeartbeats 2000000 in
theorem rwalk_good (bv : Value) (bs : List Nat) (_hbs : bs.length ≤ 1000) : ∀ (way : List Int) (v : Value) (w : World), Rd WRD bv bs w → Rd INT v way w → Fl.allB bs.length way = true →
    Calls Try.prog 46 #[bv, v] w fun e w' => e = .returned (.int .u64 ((Fl.rwalkF bs way : Nat) : Int)) ∧ Below w.heap.size w w' := by
  intro way
  induction way with
  | nil =>
    intro v w hb hv _
    obtain ⟨ao, c, rfl, _⟩ := hv.form
    obtain ⟨bo, d, rfl, _⟩ := hb.form
    clear hb hv
    go_enter Try.func46, Try.ntmps46
    go_wp2_with fail
    go_ret
    exact ⟨rfl, Below.refl _ _⟩
  | cons x r ih =>
    intro v w hb hv hall
    obtain ⟨ao, c, rfl, hm⟩ := hv.form
    obtain ⟨bo, d, rfl, hbm⟩ := hb.form
    have hxa : Fl.hasB bs.length x = true ∧ Fl.allB bs.length r = true := by
      have e : Fl.allB bs.length (x :: r) = (Fl.hasB bs.length x && Fl.allB bs.length r) := rfl
      rw [e, Bool.and_eq_true] at hall
      exact hall
    have HALL : Hid (∀ k (h : k < (x :: r).length), 0 ≤ (x :: r)[k] ∧ (x :: r)[k] < (bs.length : Int)) := Lib.hid fun k h => Fl.hasB_iff.1 (List.all_eq_true.1 hall _ (List.getElem_mem h))
    obtain ⟨x0, x1⟩ := Fl.hasB_iff.1 hxa.1
    obtain ⟨j, rfl⟩ : ∃ j : Nat, x = j := ⟨x.toNat, by omega⟩
    obtain ⟨a, rfl, hga, _⟩ := hv.at_ 0 (by simp)
    obtain ⟨hn, hrc, hcm, hga', c0, ht⟩ := hv.tail
    obtain ⟨b, rfl, hgb, cb⟩ := hb.at_ j (by omega)
    unfold WRD at cb
    have zb : (b.add j).block < w.heap.size := by rw [add_block]; exact hgb
    by_cases hc1 : c = 1
    · subst hc1
      obtain rfl : r = [] := List.eq_nil_of_length_eq_zero (by omega)
      rw [if_pos rfl] at ht
      have HV := Lib.hid hv
      have HIH := Lib.hid (fun kk : KW w => ih _ kk.val (hb.kept kk.kp) (ht.kept kk.kp) hxa.2)
      have eF : Fl.rwalkF bs ((j : Int) :: []) = Fl.plusF bs[j] (Fl.rwalkF bs []) := by
        show Fl.plusF (Fl.wat bs (j : Int)) _ = _
        rw [wat_at bs j (by omega)]
      rw [eF]
      clear eF ih hall hxa hb hv ht hn
      generalize Fl.rwalkF bs [] = R at *
      generalize bs[j] = y at *
      simp only [List.length_cons, List.length_nil, Nat.zero_add] at *
      have hz1 : (((1 : Nat) : Int) == 0) = false := by decide
      have hz2 : (1 == 0) = false := by decide
      go_enter Try.func46, Try.ntmps46
      go_wp2_with fail
      go_loop [5] (fun i => ∃ k : Nat, i = .int .i64 k ∧ k ≤ 1) (fun i => 1 - (intOf i).toNat)
      case atStart => exact ⟨0, rfl, Nat.zero_le _⟩
      case round =>
        obtain ⟨k, rfl, hk⟩ := hrel
        by_cases hlt : k < 1
        · have hd : decide ((k : Int) < ((1 : Nat) : Int)) = true := by simp; omega
          have hd' : decide ((k : Int) < (1 : Int)) = true := by simp; omega
          obtain ⟨a', haa, _, hc⟩ := HV.out.at_ k (by simpa using hlt)
          cases haa
          unfold INT at hc
          obtain ⟨g0, g1⟩ := HALL.out k (by simpa using hlt)
          generalize ((j : Int) :: [])[k]'(by simpa using hlt) = t at *
          go_wp2_with fail
          go_round
          case rel => exact ⟨k + 1, by go_num, by omega⟩
          case measure => simp [intOf]; omega
        · obtain rfl : k = 1 := by omega
          have hd : decide (((1 : Nat) : Int) < ((1 : Nat) : Int)) = false := by simp
          have hd' : decide (((1 : Nat) : Int) < (1 : Int)) = false := by simp
          have k1 : (1 : Int) ≤ ((1 : Nat) : Int) := by omega
          have k2 : ((1 : Nat) : Int) ≤ ((1 : Nat) : Int) := by omega
          have k3 : (1 : Int) ≤ ((1 : Nat) : Int) := by omega
          have k4 : (j : Int) < (bs.length : Int) := by omega
          have k5 : (0 : Int) < ((1 : Nat) : Int) := by omega
          clear HALL HV
          go_wp2_with fail
          refine wp_region_kq (by kernel_rfl) (by kernel_rfl) ?_
          repeat (first | go_big_quiet_step ((first | (go_at_call 46; exact KW.call (HIH.out _)) | (go_at_call 57; exact KW.call (rplus_b _ _ _)))) | quiet_step ((first | (go_at_call 46; exact KW.call (HIH.out _)) | (go_at_call 57; exact KW.call (rplus_b _ _ _)))))
          refine wpQuiet_nil ?_
          intro kz
          have hz := kz.kp
          go_wp2_with fail
          go_ret
          exact ⟨rfl, hz⟩

    · rw [if_neg hc1] at ht
      have HV := Lib.hid hv
      have HIH := Lib.hid (fun kk : KW w => ih _ kk.val (hb.kept kk.kp) (ht.kept kk.kp) hxa.2)
      have eF : Fl.rwalkF bs ((j : Int) :: r) = Fl.plusF bs[j] (Fl.rwalkF bs r) := by
        show Fl.plusF (Fl.wat bs (j : Int)) _ = _
        rw [wat_at bs j (by omega)]
      rw [eF]
      clear eF ih hall hxa hb hv ht hn
      generalize Fl.rwalkF bs r = R at *
      generalize bs[j] = y at *
      simp only [List.length_cons] at *
      have hz1 : (((r.length + 1 : Nat) : Int) == 0) = false := by rw [beq_eq_false_iff_ne]; omega
      have hz2 : (r.length + 1 == 0) = false := by simp
      go_enter Try.func46, Try.ntmps46
      go_wp2_with fail
      go_loop [5] (fun i => ∃ k : Nat, i = .int .i64 k ∧ k ≤ r.length + 1) (fun i => r.length + 1 - (intOf i).toNat)
      case atStart => exact ⟨0, rfl, Nat.zero_le _⟩
      case round =>
        obtain ⟨k, rfl, hk⟩ := hrel
        by_cases hlt : k < r.length + 1
        · have hd : decide ((k : Int) < ((r.length + 1 : Nat) : Int)) = true := by simp; omega
          have hd' : decide ((k : Int) < (r.length : Int) + 1) = true := by simp; omega
          obtain ⟨a', haa, _, hc⟩ := HV.out.at_ k (by simpa using hlt)
          cases haa
          unfold INT at hc
          obtain ⟨g0, g1⟩ := HALL.out k (by simpa using hlt)
          generalize ((j : Int) :: r)[k]'(by simpa using hlt) = t at *
          go_wp2_with fail
          go_round
          case rel => exact ⟨k + 1, by go_num, by omega⟩
          case measure => simp [intOf]; omega
        · obtain rfl : k = r.length + 1 := by omega
          have hd : decide (((r.length + 1 : Nat) : Int) < ((r.length + 1 : Nat) : Int)) = false := by simp
          have hd' : decide (((r.length + 1 : Nat) : Int) < (r.length : Int) + 1) = false := by simp
          have k1 : (1 : Int) ≤ ((r.length + 1 : Nat) : Int) := by omega
          have k2 : ((r.length + 1 : Nat) : Int) ≤ (c : Int) := by omega
          have k3 : (1 : Int) ≤ (c : Int) := by omega
          have k4 : (j : Int) < (bs.length : Int) := by omega
          have k5 : (0 : Int) < ((r.length + 1 : Nat) : Int) := by omega
          clear HALL HV
          go_wp2_with fail
          refine wp_region_kq (by kernel_rfl) (by kernel_rfl) ?_
          repeat (first | go_big_quiet_step ((first | (go_at_call 46; exact KW.call (HIH.out _)) | (go_at_call 57; exact KW.call (rplus_b _ _ _)))) | quiet_step ((first | (go_at_call 46; exact KW.call (HIH.out _)) | (go_at_call 57; exact KW.call (rplus_b _ _ _)))))
          refine wpQuiet_nil ?_
          intro kz
          have hz := kz.kp
          go_wp2_with fail
          go_ret
          exact ⟨rfl, hz⟩

end Go.Proofs.Ytijgopcddjnfdaa
