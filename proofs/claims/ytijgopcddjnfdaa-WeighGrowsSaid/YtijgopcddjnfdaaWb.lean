/- What is proved here: what weights are, and what is up: the program's and the document's. Condition: they can be read. -/
import Derived.Test.YtijgopcddjnfdaaWa
namespace Go.Proofs.Ytijgopcddjnfdaa
open Go Go.RowKit
attribute [local go_sem ↓] op_lss op_gtr op_geq op_leq op_eql op_neq op_neg wop_eql wop_neq run_frombits run_bits lfrombits_one lfrombits_inf lfrombits_ninf lop_eql_sign
attribute [local go_sem] KW.cell KW.frozen
namespace Fl
theorem plusF_or (x y : Nat) : ((cadd x y : Int) == 9223372036854775808) = true ∧ plusF x y = 0 ∨ ((cadd x y : Int) == 9223372036854775808) = false ∧ plusF x y = cadd x y := by
  have hw := cadd_w x y
  unfold plusF
  generalize cadd x y = s at *
  by_cases h : s = 9223372036854775808
  · left
    refine ⟨by rw [beq_iff_eq]; omega, ?_⟩
    rw [h]
    rfl
  · right
    refine ⟨by rw [beq_eq_false_iff_ne]; omega, ?_⟩
    by_cases hz : (FloatKind.f64.format.order s 0 == some Ordering.eq) = true
    · rw [if_pos hz]
      have h2 := ((eq_iff hw w_zero).1 hz).2.2
      rw [pl_zero] at h2
      rcases pl_eq s with ⟨h3, e⟩ | ⟨h3, e⟩ <;> omega
    · rw [if_neg hz]
theorem cost_clean (x : Nat) : cost (clean x) = cost x := by
  rcases clean_or x with ⟨h, e⟩ | ⟨_, e⟩
  · rw [e]
    have h1 : cost one = false := by decide
    rw [h1]
    cases hc : cost x with
    | false => rfl
    | true => rw [nan_cost hc] at h; cases h
  · rw [e]
/-- May they be weights? -/
def rightW (bs : List Nat) (links : Int) : Bool := bs.all cost && decide ((bs.length : Int) = links)
theorem rightW_clean (bs : List Nat) (links : Int) : rightW (bs.map clean) links = rightW bs links := by
  unfold rightW
  rw [List.length_map, List.all_map]
  congr 1
  congr 1
  funext x
  exact cost_clean x
end Fl
theorem rplus_c (x y : Nat) (w : World) : Calls Try.prog 57 #[.int .u64 (x : Int), .int .u64 (y : Int)] w fun e w' => e = .returned (.int .u64 ((Fl.plusF x y : Nat) : Int)) ∧ ∃ n, w' = w.drewN n := by
  obtain ⟨r, n, hr, hw, hc⟩ := run_fadd x y w
  have H := Lib.hid (fun w => rclean_w r w)
  rw [hc] at H
  have hor := Fl.plusF_or x y
  clear hc
  generalize Fl.plusF x y = p at *
  generalize Fl.cadd x y = s at *
  rcases hor with ⟨hq, rfl⟩ | ⟨hq, rfl⟩
  · have hq2 : Fl.isW s Fl.sign = true := by unfold Fl.isW Fl.sign; simp at hq ⊢; omega
    go_enter Try.func57, Try.ntmps57
    go_wp2_with (go_at_call 14; refine (H.out _).mono ?_; rintro e w' ⟨rfl, rfl⟩)
    go_ret
    exact ⟨rfl, n, rfl⟩
  · have hq2 : Fl.isW p Fl.sign = false := by unfold Fl.isW Fl.sign; simp at hq ⊢; omega
    go_enter Try.func57, Try.ntmps57
    go_wp2_with (go_at_call 14; refine (H.out _).mono ?_; rintro e w' ⟨rfl, rfl⟩)
    go_ret
    exact ⟨rfl, n, rfl⟩
theorem Try.info22 : (Try.prog.info? 22).map (fun i => (i.zero, i.size, i.bytes)) = some (some (.int .u64 0), 1, 8) := by kernel_rfl

set_option maxHeartbeats 1000000 in
theorem wof_c (v : Value) (xs : List Nat) (w : World) (h : Rd WRD v xs w) (hw : ∀ x ∈ xs, Fl.W64 x) (hlen : xs.length ≤ 1000) : Calls Try.prog 37 #[v] w fun e w' => ∃ u, e = .returned u ∧ Rd FLT u (xs.map Fl.clean) w' ∧ Below w.heap.size w w' := by
  obtain ⟨i0, hi, hz0, hz1, hz2⟩ := info_parts Try.info23
  obtain ⟨ao, c, rfl, hm⟩ := h.form
  have H := Lib.hid h
  have HW := Lib.hid hw
  clear h hw
  go_enter Try.func37, Try.ntmps37
  go_wp2_with fail
  go_loopw [3, 8] (fun v i wr => ∃ (k : Nat), i = .int .i64 k ∧ k ≤ xs.length ∧ wr.ownsRow w.heap.size 23 1 v k (((xs.take k).map Fl.clean).map FLT) ∧ Below w.heap.size w wr) (fun _ i _ => xs.length - (intOf i).toNat)
  case atStart => exact ⟨0, rfl, Nat.zero_le _, ⟨rfl, .inl ⟨rfl, rfl⟩⟩, Below.refl _ _⟩
  case round =>
    obtain ⟨k, rfl, hk, hown, hb⟩ := hrel
    have hs := hb.size
    by_cases hlt : k < xs.length
    · have hd : decide ((k : Int) < (xs.length : Int)) = true := by simp; omega
      obtain ⟨a, rfl, _, hc⟩ := (H.out.kept hb).at_ k hlt
      unfold WRD at hc
      have hsn : ((xs.take k).map Fl.clean).map FLT ++ [FLT (Fl.clean xs[k])] = ((xs.take (k + 1)).map Fl.clean).map FLT := by
        rw [List.take_succ_eq_append_getElem hlt, List.map_append, List.map_append]
        rfl
      have HS := Lib.hid hsn
      have HC := Lib.hid (of_w xs[k] (HW.out _ (List.getElem_mem hlt)))
      clear hsn
      generalize xs[k] = x at *
      generalize Fl.clean x = y at *
      unfold FLT at hown
      have hown1 := hown.alloc (Obj.cells #[.float .f64 y] 23)
      go_wp2_with (first | (go_at_call 25; refine (HC.out _).mono ?_; rintro e w' ⟨rfl, rfl⟩) | (at_builtin; refine wpList_append_lies _ rfl _ _ 31 rfl w.heap.size 23 i0 (.float .f64 0) 1 8 Try.underlying31 hi hz0 hz1 hz2 rfl (by decide) _ k _ rfl hown1 ⟨wr.heap.size, 0, none⟩ 1 1 [.float .f64 y] rfl rfl (by intro j u hj; rcases j with _ | j <;> simp at hj; subst hj; simp [go_sem, Addr.add]) (by simp [Value.oneCell']) (by decide) (by unfold maxLen; omega) (by omega) (by simp; omega) (wr.heap.size + 1) (by simp) ?_; intro g' cap' w1 hown2 hgrow hat1 hlt1; have hb1 := below_grown3 (hb.alloc hs (Obj.cells #[.float .f64 y] 23)) (by simp; omega) hgrow hown1; clear hgrow hat1))
      have hown3 : w1.ownsRow w.heap.size 23 1 (.slice (some ⟨g', 0, none⟩) (k + 1) cap') (k + 1) (((xs.take (k + 1)).map Fl.clean).map FLT) := by
        rw [← HS.out]; exact hown2
      go_roundw
      case rel => exact ⟨k + 1, by go_num, by omega, hown3, hb1⟩
      case measure => simp [intOf]; omega
    · obtain rfl : k = xs.length := by omega
      have hd : decide ((xs.length : Int) < (xs.length : Int)) = false := by simp
      rw [List.take_length] at hown
      go_wp2_with fail
      go_returns
      refine ⟨_, rfl, Rd.of_own (B := w.heap.size) (e := 23) ?_, hb⟩
      rw [List.length_map]
      exact hown


set_option maxHeartbeats 1000000 in
theorem wbits_c (v : Value) (xs : List Nat) (w : World) (h : Rd FLT v xs w) (hw : ∀ x ∈ xs, Fl.W64 x) (hlen : xs.length ≤ 1000) : Calls Try.prog 43 #[v] w fun e w' => ∃ u, e = .returned u ∧ Rd WRD u (xs.map Fl.clean) w' ∧ Below w.heap.size w w' := by
  obtain ⟨i0, hi, hz0, hz1, hz2⟩ := info_parts Try.info22
  obtain ⟨ao, c, rfl, hm⟩ := h.form
  have H := Lib.hid h
  have HW := Lib.hid hw
  clear h hw
  go_enter Try.func43, Try.ntmps43
  go_wp2_with fail
  go_loopw [3, 8] (fun v i wr => ∃ (k : Nat), i = .int .i64 k ∧ k ≤ xs.length ∧ wr.ownsRow w.heap.size 22 1 v k (((xs.take k).map Fl.clean).map WRD) ∧ Below w.heap.size w wr) (fun _ i _ => xs.length - (intOf i).toNat)
  case atStart => exact ⟨0, rfl, Nat.zero_le _, ⟨rfl, .inl ⟨rfl, rfl⟩⟩, Below.refl _ _⟩
  case round =>
    obtain ⟨k, rfl, hk, hown, hb⟩ := hrel
    have hs := hb.size
    by_cases hlt : k < xs.length
    · have hd : decide ((k : Int) < (xs.length : Int)) = true := by simp; omega
      obtain ⟨a, rfl, _, hc⟩ := (H.out.kept hb).at_ k hlt
      unfold FLT at hc
      have hsn : ((xs.take k).map Fl.clean).map WRD ++ [WRD (Fl.clean xs[k])] = ((xs.take (k + 1)).map Fl.clean).map WRD := by
        rw [List.take_succ_eq_append_getElem hlt, List.map_append, List.map_append]
        rfl
      have HS := Lib.hid hsn
      have HC := Lib.hid (bits_w xs[k] (HW.out _ (List.getElem_mem hlt)))
      clear hsn
      generalize xs[k] = x at *
      generalize Fl.clean x = y at *
      unfold WRD at hown
      have hown1 := hown.alloc (Obj.cells #[.int .u64 (y : Int)] 22)
      go_wp2_with (first | (go_at_call 18; refine (HC.out _).mono ?_; rintro e w' ⟨rfl, rfl⟩) | (at_builtin; refine wpList_append_lies _ rfl _ _ 29 rfl w.heap.size 22 i0 (.int .u64 0) 1 8 Try.underlying29 hi hz0 hz1 hz2 rfl (by decide) _ k _ rfl hown1 ⟨wr.heap.size, 0, none⟩ 1 1 [.int .u64 (y : Int)] rfl rfl (by intro j u hj; rcases j with _ | j <;> simp at hj; subst hj; simp [go_sem, Addr.add]) (by simp [Value.oneCell']) (by decide) (by unfold maxLen; omega) (by omega) (by simp; omega) (wr.heap.size + 1) (by simp) ?_; intro g' cap' w1 hown2 hgrow hat1 hlt1; have hb1 := below_grown3 (hb.alloc hs (Obj.cells #[.int .u64 (y : Int)] 22)) (by simp; omega) hgrow hown1; clear hgrow hat1))
      have hown3 : w1.ownsRow w.heap.size 22 1 (.slice (some ⟨g', 0, none⟩) (k + 1) cap') (k + 1) (((xs.take (k + 1)).map Fl.clean).map WRD) := by
        rw [← HS.out]; exact hown2
      go_roundw
      case rel => exact ⟨k + 1, by go_num, by omega, hown3, hb1⟩
      case measure => simp [intOf]; omega
    · obtain rfl : k = xs.length := by omega
      have hd : decide ((xs.length : Int) < (xs.length : Int)) = false := by simp
      rw [List.take_length] at hown
      go_wp2_with fail
      go_returns
      refine ⟨_, rfl, Rd.of_own (B := w.heap.size) (e := 22) ?_, hb⟩
      rw [List.length_map]
      exact hown

end Go.Proofs.Ytijgopcddjnfdaa
