/- What is proved here: which links are up; what the document's Walk answers. Condition: they can be read. -/
import Derived.Test.YtijgopcddjnfdaaWc
namespace Go.Proofs.Ytijgopcddjnfdaa
open Go Go.RowKit
attribute [local go_sem ↓] op_lss op_gtr op_geq op_leq op_eql op_neq op_neg wop_eql wop_neq run_frombits run_bits lfrombits_one lfrombits_inf lfrombits_ninf lop_eql_sign
attribute [local go_sem] KW.cell KW.frozen
theorem wat_at (bs : List Nat) (k : Nat) (h : k < bs.length) : Fl.wat bs (k : Int) = bs[k] := by
  unfold Fl.wat
  rw [Int.toNat_natCast, List.getD_eq_getElem?_getD, List.getElem?_eq_getElem h]
  rfl
set_option maxRecDepth 100000 in
theorem wup_c (v : Value) (bs : List Nat) (link : Int) (w : World) (h : Rd FLT v (bs.map Fl.clean) w) (hw : ∀ x ∈ bs, Fl.W64 x) : Calls Try.prog 42 #[v, .int .i64 link] w fun e w' => e = .returned (.bool (Fl.upB bs link)) ∧ Below w.heap.size w w' := by
  obtain ⟨ao, c, hv, hm⟩ := h.form
  rw [List.length_map] at hv hm
  subst hv
  by_cases h0 : link < 0
  · have e : Fl.upB bs link = false := by unfold Fl.upB; rw [Fl.hasB_no.2 (by omega)]; rfl
    rw [e]
    have hd0 : decide (0 ≤ link) = false := by simp; omega
    clear e h hw
    generalize bs.length = m at *
    go_enter Try.func42, Try.ntmps42
    go_wp2_with fail
    refine wp_region_kq (by kernel_rfl) (by kernel_rfl) ?_
    repeat (first | go_big_quiet_step (((go_at_call 53; exact KW.same (inf_p _)))) | quiet_step (((go_at_call 53; exact KW.same (inf_p _)))))
    refine wpQuiet_nil ?_
    intro kz
    have hz := kz.kp
    go_wp2_with fail
    go_ret
    exact ⟨rfl, hz⟩

  by_cases h1 : (bs.length : Int) ≤ link
  · have e : Fl.upB bs link = false := by unfold Fl.upB; rw [Fl.hasB_no.2 (by omega)]; rfl
    rw [e]
    have hd0 : decide (0 ≤ link) = true := by simp; omega
    have hd : decide (link < (bs.length : Int)) = false := by simp; omega
    clear e h hw
    generalize bs.length = m at *
    go_enter Try.func42, Try.ntmps42
    go_wp2_with fail
    refine wp_region_kq (by kernel_rfl) (by kernel_rfl) ?_
    repeat (first | go_big_quiet_step (((go_at_call 53; exact KW.same (inf_p _)))) | quiet_step (((go_at_call 53; exact KW.same (inf_p _)))))
    refine wpQuiet_nil ?_
    intro kz
    have hz := kz.kp
    go_wp2_with fail
    go_ret
    exact ⟨rfl, hz⟩

  obtain ⟨k, rfl⟩ : ∃ k : Nat, link = k := ⟨link.toNat, by omega⟩
  have hk : k < bs.length := by omega
  obtain ⟨a, rfl, hg, hc⟩ := h.at_ k (by rw [List.length_map]; exact hk)
  unfold FLT at hc
  rw [List.getElem_map] at hc
  have e : Fl.upB bs (k : Int) = (FloatKind.f64.format.order (Fl.clean bs[k]) 9218868437227405312 == some Ordering.lt) := by
    unfold Fl.upB
    rw [Fl.hasB_iff.2 ⟨by omega, by omega⟩, Bool.true_and, wat_at bs k hk, Fl.lt_inf (hw _ (List.getElem_mem hk))]
  rw [e]
  have zg : (a.add k).block < w.heap.size := by rw [add_block]; exact hg
  clear e h hw
  generalize Fl.clean bs[k] = y at *
  have hd0 : decide ((0 : Int) ≤ (k : Int)) = true := by simp
  have hd : decide ((k : Int) < (bs.length : Int)) = true := by simp; omega
  have hk2 : (k : Int) < (bs.length : Int) := by omega
  obtain ⟨b, hb⟩ : ∃ b, (FloatKind.f64.format.order y 9218868437227405312 == some Ordering.lt) = b := ⟨_, rfl⟩
  have hb1 : Fl.lt y Fl.inf = b := hb
  have hb2 : (FloatKind.f64.format.order y Fl.inf == some Ordering.lt) = b := hb
  rw [hb]
  cases b
  all_goals
    go_enter Try.func42, Try.ntmps42
    go_wp2_with fail
    refine wp_region_kq (by kernel_rfl) (by kernel_rfl) ?_
    repeat (first | go_big_quiet_step (((go_at_call 53; exact KW.same (inf_p _)))) | quiet_step (((go_at_call 53; exact KW.same (inf_p _)))))
    refine wpQuiet_nil ?_
    intro kz
    have hz := kz.kp
    go_wp2_with fail
    go_ret
    exact ⟨rfl, hz⟩

set_option maxRecDepth 100000 in
theorem wrup_c (v : Value) (bs : List Nat) (link : Int) (w : World) (h : Rd WRD v bs w) : Calls Try.prog 45 #[v, .int .i64 link] w fun e w' => e = .returned (.bool (Fl.upB bs link)) ∧ w = w' := by
  obtain ⟨ao, c, rfl, hm⟩ := h.form
  by_cases h0 : link < 0
  · have e : Fl.upB bs link = false := by unfold Fl.upB; rw [Fl.hasB_no.2 (by omega)]; rfl
    rw [e]
    clear e h
    generalize bs.length = m at *
    go_enter Try.func45, Try.ntmps45
    go_wp2_with fail
    go_ret
    exact ⟨rfl, rfl⟩
  by_cases h1 : (bs.length : Int) ≤ link
  · have e : Fl.upB bs link = false := by unfold Fl.upB; rw [Fl.hasB_no.2 (by omega)]; rfl
    rw [e]
    have hd : decide ((bs.length : Int) ≤ link) = true := by simp; omega
    clear e h
    generalize bs.length = m at *
    go_enter Try.func45, Try.ntmps45
    go_wp2_with fail
    go_ret
    exact ⟨rfl, rfl⟩
  obtain ⟨k, rfl⟩ : ∃ k : Nat, link = k := ⟨link.toNat, by omega⟩
  have hk : k < bs.length := by omega
  obtain ⟨a, rfl, hg, hc⟩ := h.at_ k hk
  unfold WRD at hc
  have e : Fl.upB bs (k : Int) = (decide (0 < Fl.cls bs[k]) && decide (Fl.cls bs[k] < 6)) := by
    unfold Fl.upB
    rw [Fl.hasB_iff.2 ⟨by omega, by omega⟩, Bool.true_and, wat_at bs k hk]
  rw [e]
  have HC := Lib.hid (rclass_w bs[k] w)
  have hd : decide ((bs.length : Int) ≤ (k : Int)) = false := by simp; omega
  have hk2 : (k : Int) < (bs.length : Int) := by omega
  clear e h
  generalize bs[k] = x at *
  generalize Fl.cls x = cl at *
  by_cases g0 : 0 < cl
  · by_cases g1 : cl < 6
    · rw [decide_eq_true g0, decide_eq_true g1]
      have d1 : decide (0 < cl) = true := decide_eq_true g0
      have d2 : decide (cl < 6) = true := decide_eq_true g1
      show Calls Try.prog 45 _ _ fun e w' => e = .returned (.bool true) ∧ w = w'
      go_enter Try.func45, Try.ntmps45
      go_wp2_with (go_at_call 19; refine HC.out.mono ?_; rintro e w' ⟨rfl, rfl⟩)
      go_ret
      exact ⟨rfl, rfl⟩
    · rw [decide_eq_false g1, Bool.and_false]
      have d1 : decide (0 < cl) = true := decide_eq_true g0
      have d2 : decide (cl < 6) = false := decide_eq_false g1
      go_enter Try.func45, Try.ntmps45
      go_wp2_with (go_at_call 19; refine HC.out.mono ?_; rintro e w' ⟨rfl, rfl⟩)
      go_ret
      exact ⟨rfl, rfl⟩
  · rw [decide_eq_false g0, Bool.false_and]
    have d1 : decide (0 < cl) = false := decide_eq_false g0
    go_enter Try.func45, Try.ntmps45
    go_wp2_with (go_at_call 19; refine HC.out.mono ?_; rintro e w' ⟨rfl, rfl⟩)
    go_ret
    exact ⟨rfl, rfl⟩
/-! the document's Walk -/
/-- A part of a slice of numbers reads as the part of the list. -/
theorem Rd.tail {w : World} {a : Addr} {x : Int} {r : List Int} {n c : Nat} (h : Rd INT (.slice (some a) n c) (x :: r) w) : n = r.length + 1 ∧ r.length + 1 ≤ c ∧ c ≤ 9223372036854775807 ∧ a.block < w.heap.size ∧ w.cell? a = some (.int .i64 x) ∧ Rd INT (if c = 1 then .slice (some a) 0 0 else .slice (some (a.add 1)) r.length (c - 1)) r w := by
  rcases h with ⟨h, _⟩ | ⟨a', c', hv, hg, h1, h2, hc⟩
  · cases h
  · cases hv
    simp only [List.length_cons] at h1 hg hc ⊢
    have h0 := hc 0 (by omega)
    have hz : a.add 0 = a := by unfold Addr.add; simp
    rw [hz] at h0
    unfold maxLen at h2
    refine ⟨trivial, h1, h2, hg (by omega), h0, ?_⟩
    split
    · have : r = [] := List.eq_nil_of_length_eq_zero (by omega)
      subst this
      exact .inr ⟨a, 0, rfl, fun h => absurd h (by simp), by simp, by decide, fun i hi => absurd hi (by simp)⟩
    · refine .inr ⟨a.add 1, c - 1, rfl, fun h => by rw [add_block]; exact hg (by omega), by omega, by unfold maxLen; omega, fun i hi => ?_⟩
      have := hc (i + 1) (by omega)
      rw [Go.Deep.add_add, Nat.add_comm 1 i]
      exact this
end Go.Proofs.Ytijgopcddjnfdaa
