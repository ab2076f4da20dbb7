/- What is proved here: the walk of WeighTells. Condition: what it is given can be read. -/
import Derived.Test.YtijgopcddjnfdaaWj
namespace Go.Proofs.Ytijgopcddjnfdaa
open Go Go.RowKit
attribute [local go_sem ↓] op_lss op_gtr op_geq op_leq op_eql op_neq op_neg wop_eql wop_neq wop_lss run_frombits run_bits lfrombits_one lfrombits_inf lfrombits_ninf lop_eql_sign
attribute [local go_sem] KW.cell KW.frozen
theorem Fl.clean_two (x : Nat) : Fl.clean (Fl.clean x) = Fl.clean x := by
  rcases Fl.clean_or x with ⟨_, e⟩ | ⟨_, e⟩ <;> rw [e]
  · decide
  · rw [e]
theorem Fl.map_two (bs : List Nat) : (bs.map Fl.clean).map Fl.clean = bs.map Fl.clean := by
  rw [List.map_map]
  exact List.map_congr_left fun x _ => Fl.clean_two x
theorem Fl.map_w {bs : List Nat} (h : ∀ x ∈ bs, Fl.W64 x) : ∀ x ∈ bs.map Fl.clean, Fl.W64 x := by
  intro x hx
  obtain ⟨y, hy, rfl⟩ := List.mem_map.1 hx
  exact Fl.clean_w (h y hy)
theorem wawake_b {W w : World} (h : Below W.heap.size W w) : Calls Try.prog 36 #[] w fun e w' => e = .returned (.bool true) ∧ Below W.heap.size W w' := (wawake_c w).mono fun _ _ ⟨he, hb⟩ => ⟨he, bon h hb⟩
theorem neq_bool (b : Bool) : (b != b) = false := by simp
set_option maxRecDepth 100000 in
set_option maxHeartbeats 4000000 in
theorem law11 (v : Value) (bs : List Nat) (links link : Int) (v2 : Value) (way : List Int) (W : World) (h : Rd WRD v bs W) (hw : ∀ x ∈ bs, Fl.W64 x) (h2 : Rd INT v2 way W) :
    Calls Try.prog 11 #[v, .int .i64 links, .int .i64 link, v2] W fun e W' => e = .returned (.bool true) ∧ Below W.heap.size W W' := by
  obtain ⟨ao, c, rfl, hm⟩ := h.form
  obtain ⟨ao2, c2, rfl, hm2⟩ := h2.form
  have H := Lib.hid h
  have H2 := Lib.hid h2
  clear h h2
  have short : ∀ (w : World), Below W.heap.size W w → Calls Try.prog 36 #[] w fun e w' => e = .returned (.bool true) ∧ Below W.heap.size W w' := fun _ hb => wawake_b hb
  by_cases hl : 40 < (bs.length : Int)
  · have hd : decide (40 < (bs.length : Int)) = true := by simpa using hl
    go_enter Try.func11, Try.ntmps11
    go_wp2_with (go_at_call 36; refine (wawake_b (Below.refl _ _)).mono ?_; rintro e w' ⟨rfl, hb1⟩)
    go_ret
    exact ⟨rfl, hb1⟩
  have hd : decide (40 < (bs.length : Int)) = false := by simpa using hl
  by_cases hl2 : 40 < (way.length : Int)
  · have hd2 : decide (40 < (way.length : Int)) = true := by simpa using hl2
    go_enter Try.func11, Try.ntmps11
    go_wp2_with (go_at_call 36; refine (wawake_b (Below.refl _ _)).mono ?_; rintro e w' ⟨rfl, hb1⟩)
    go_ret
    exact ⟨rfl, hb1⟩
  have hd2 : decide (40 < (way.length : Int)) = false := by simpa using hl2
  clear short
  have hw1 := Fl.map_w hw
  have X0 := Lib.hid (wof_c _ bs W H.out hw (by omega))
  have X1 := Lib.hid (fun u w1 (hr : Rd FLT u (bs.map Fl.clean) w1) => wbits_c u (bs.map Fl.clean) w1 hr hw1 (by rw [List.length_map]; omega))
  have X2 := Lib.hid (fun u w1 (hr : Rd FLT u (bs.map Fl.clean) w1) => wright_c u (bs.map Fl.clean) links w1 hr hw1)
  have X3 := Lib.hid (fun u w1 (hr : Rd WRD u bs w1) => wrright_c u bs links w1 hr)
  have X4 := Lib.hid (fun u w1 (hr : Rd FLT u (bs.map Fl.clean) w1) => wup_c u bs link w1 hr hw)
  have X5 := Lib.hid (fun u w1 (hr : Rd WRD u bs w1) => wrup_c u bs link w1 hr)
  have X6 := Lib.hid (fun u w1 (hr : Rd FLT u (bs.map Fl.clean) w1) u2 (hr2 : Rd INT u2 way w1) => walk_c u (bs.map Fl.clean) way u2 w1 (by rw [List.length_map]; omega) (by omega) hr hr2)
  have X7 := Lib.hid (fun u w1 (hr : Rd WRD u bs w1) u2 (hr2 : Rd INT u2 way w1) => rwalk_c u bs way u2 w1 (by omega) hr hr2)
  have X8 := Lib.hid (bits_w (Fl.rwalkP bs way) (Fl.rwalkP_w bs way))
  have X9 := Lib.hid (fun i (hi : i < bs.length) => rclean_w bs[i])
  simp only [Fl.map_two] at X1
  simp only [Fl.rightW_clean] at X2
  simp only [Fl.walk_eq] at X6
  rw [Fl.rwalkP_clean] at X8
  generalize Fl.rightW bs links = r1 at *
  generalize Fl.upB bs link = r2 at *
  generalize Fl.rwalkP bs way = r3 at *
  clear hw hw1
  go_enter Try.func11, Try.ntmps11
  go_wp2_with fail
  refine X0.out.mono ?_
  rintro e w1 ⟨u, rfl, hr, hb1⟩
  obtain ⟨uo, uc, rfl, _⟩ := hr.form
  simp only [List.length_map] at hr ⊢
  have R1 := Lib.hid hr
  clear hr
  go_wp2_with fail
  refine (X1.out _ _ R1.out).mono ?_
  rintro e w2 ⟨u, rfl, hr, hb2⟩
  obtain ⟨po, pc, rfl, _⟩ := hr.form
  simp only [List.length_map] at hr ⊢
  have R2 := Lib.hid (R1.out.kept hb2)
  have P2 := Lib.hid hr
  have hb3 := bon hb1 hb2
  clear hr hb1 hb2 R1
  go_wp2_with fail
  refine (X2.out _ _ R2.out).mono ?_
  rintro e w' ⟨rfl, rfl⟩
  go_wp2_with fail
  refine (X3.out _ _ (H.out.kept hb3)).mono ?_
  rintro e w' ⟨rfl, rfl⟩
  go_wp2_with fail
  refine (X4.out _ _ R2.out).mono ?_
  rintro e w3 ⟨rfl, hb4⟩
  have hb5 := bon hb3 hb4
  go_wp2_with fail
  refine (X5.out _ _ (H.out.kept hb5)).mono ?_
  rintro e w' ⟨rfl, rfl⟩
  go_wp2_with fail
  refine (X6.out _ _ (R2.out.kept hb4) _ (H2.out.kept hb5)).mono ?_
  rintro e w4 ⟨rfl, hb6⟩
  have hb7 := bon hb5 hb6
  go_wp2_with fail
  refine (X8.out _).mono ?_
  rintro e w' ⟨rfl, rfl⟩
  go_wp2_with fail
  refine (X7.out _ _ (H.out.kept hb7) _ (H2.out.kept hb7)).mono ?_
  rintro e w5 ⟨rfl, hb8⟩
  have hb9 := bon hb7 hb8
  have P5 := Lib.hid (((P2.out.kept hb4).kept hb6).kept hb8)
  clear hb3 hb4 hb5 hb6 hb7 hb8 P2 R2
  go_wp2_with fail
  go_loopw [11] (fun i wr => ∃ k : Nat, i = .int .i64 k ∧ k ≤ bs.length ∧ Below W.heap.size W wr ∧ Hid (Rd WRD (.slice po bs.length pc) (bs.map Fl.clean) wr)) (fun i _ => bs.length - (intOf i).toNat)
  case atStart => exact ⟨0, rfl, Nat.zero_le _, hb9, P5⟩
  case round =>
    obtain ⟨k, rfl, hk, hb, hp⟩ := hrel
    by_cases hlt : k < bs.length
    · have hd : decide ((k : Int) < (bs.length : Int)) = true := by simp; omega
      obtain ⟨a, rfl, za, ca⟩ := hp.out.at_ k (by rw [List.length_map]; exact hlt)
      obtain ⟨a2, rfl, za2, ca2⟩ := (H.out.kept hb).at_ k hlt
      have z1 : (a.add k).block < wr.heap.size := by rw [add_block]; exact za
      have z2 : (a2.add k).block < wr.heap.size := by rw [add_block]; exact za2
      rw [List.getElem_map] at ca
      unfold WRD at ca ca2
      have X := Lib.hid (fun kk : KW wr => X9.out k hlt kk.val)
      generalize Fl.clean bs[k] = y at *
      generalize bs[k] = x at *
      go_wp2_with fail
      refine wp_region_kq (by kernel_rfl) (by kernel_rfl) ?_
      repeat (first | go_big_quiet_step ((go_at_call 14; exact KW.same (X.out _))) | quiet_step ((go_at_call 14; exact KW.same (X.out _))))
      refine wpQuiet_nil ?_
      intro kz
      have hz := hb.trans (kz.kp.mono hb.size)
      have hpz := Lib.hid (hp.out.kept kz.kp)
      go_wp2_with fail
      go_roundw
      case rel => exact ⟨k + 1, by go_num, by omega, hz, hpz⟩
      case measure => simp [intOf]; omega
    · obtain rfl : k = bs.length := by omega
      have hd : decide ((bs.length : Int) < (bs.length : Int)) = false := by simp
      go_wp2_with (go_at_call 36; refine (wawake_b hb).mono ?_; rintro e w' ⟨rfl, hb1⟩)
      go_ret
      exact ⟨rfl, hb1⟩
end Go.Proofs.Ytijgopcddjnfdaa
