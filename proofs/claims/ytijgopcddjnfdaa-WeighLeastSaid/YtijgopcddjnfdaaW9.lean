/- What is proved here: the walk of WeighLeast. Condition: what it is given can be read. -/
import Derived.Test.YtijgopcddjnfdaaWl
import Derived.Test.YtijgopcddjnfdaaW11
import Derived.Deep.RegionWith
namespace Go.Proofs.Ytijgopcddjnfdaa
open Go Go.RowKit
attribute [local go_sem ↓] op_lss op_gtr op_geq op_leq op_eql op_neq op_neg wop_eql wop_neq wop_lss run_frombits run_bits lfrombits_one lfrombits_inf lfrombits_ninf lop_eql_sign
attribute [local go_sem] KW.cell KW.frozen
set_option maxRecDepth 100000 in
set_option maxHeartbeats 4000000 in
theorem law9 (v : Value) (bs : List Nat) (v1 : Value) (ways : List (List Int)) (W : World) (h : Rd WRD v bs W) (hw : ∀ x ∈ bs, Fl.W64 x) (h1 : RdWW v1 ways W) :
    Calls Try.prog 9 #[v, v1] W fun e W' => e = .returned (.bool true) ∧ Below W.heap.size W W' := by
  obtain ⟨ao, c, rfl, hm⟩ := h.form
  obtain ⟨ao1, c1, rfl⟩ := h1.form
  have H := Lib.hid h
  have H1 := Lib.hid h1
  clear h h1
  obtain ⟨d0, hd0⟩ : ∃ d, decide (20 < (bs.length : Int)) = d := ⟨_, rfl⟩
  obtain ⟨d1, hd1⟩ : ∃ d, decide (12 < (ways.length : Int)) = d := ⟨_, rfl⟩
  cases d0 with
  | true =>
    go_enter Try.func9, Try.ntmps9
    go_wp2_with (go_at_call 36; refine (wawake_b (Below.refl _ _)).mono ?_; rintro e w' ⟨rfl, hb1⟩)
    go_ret
    exact ⟨rfl, hb1⟩
  | false =>
  cases d1 with
  | true =>
    go_enter Try.func9, Try.ntmps9
    go_wp2_with (go_at_call 36; refine (wawake_b (Below.refl _ _)).mono ?_; rintro e w' ⟨rfl, hb1⟩)
    go_ret
    exact ⟨rfl, hb1⟩
  | false =>
  have n0 : bs.length ≤ 20 := by simp at hd0; omega
  have n1 : ways.length ≤ 12 := by simp at hd1; omega
  go_enter Try.func9, Try.ntmps9
  go_wp2_with fail
  go_loopw [5] (fun i wr => ∃ k : Nat, i = .int .i64 k ∧ k ≤ ways.length ∧ Below W.heap.size W wr ∧ Hid (∀ j (h : j < ways.length), j < k → ways[j].length ≤ 20)) (fun i _ => ways.length - (intOf i).toNat)
  case atStart => exact ⟨0, rfl, Nat.zero_le _, Below.refl _ _, Lib.hid (fun j _ h => absurd h (by omega))⟩
  case round =>
    obtain ⟨k, rfl, hk, hb, hall⟩ := hrel
    by_cases hlt : k < ways.length
    · have hd : decide ((k : Int) < (ways.length : Int)) = true := by simp; omega
      obtain ⟨a, sok, sck, rfl, zk, ck0, rsk⟩ := (H1.out.kept hb).at_ k hlt
      have HA : Hid (ways[k].length ≤ 20 → ∀ j (h : j < ways.length), j < k + 1 → ways[j].length ≤ 20) := Lib.hid (fun h20 j hj h => by
        by_cases hjk : j = k
        · subst hjk; exact h20
        · exact hall.out j hj (by omega))
      clear rsk
      generalize ways[k].length = m at *
      obtain ⟨d2, hd2⟩ : ∃ d, decide (20 < (m : Int)) = d := ⟨_, rfl⟩
      cases d2 with
      | true =>
        go_wp2_with (go_at_call 36; refine (wawake_b hb).mono ?_; rintro e w' ⟨rfl, hb1⟩)
        go_ret
        exact ⟨rfl, hb1⟩
      | false =>
        have h20 : m ≤ 20 := by simp at hd2; omega
        have HA2 := Lib.hid (HA.out h20)
        clear HA
        go_wp2_with fail
        go_roundw
        case rel => exact ⟨k + 1, by go_num, by omega, hb, HA2⟩
        case measure => simp [intOf]; omega
    · obtain rfl : k = ways.length := by omega
      have hd : decide ((ways.length : Int) < (ways.length : Int)) = false := by simp
      have HW : Hid (∀ way ∈ ways, way.length ≤ 20) := Lib.hid (fun way hway => by
        obtain ⟨j, hj, rfl⟩ := List.mem_iff_getElem.1 hway
        exact hall.out j hj hj)
      clear hall
      have X0 := Lib.hid (wof_c _ bs wr (H.out.kept hb) hw (by omega))
      go_wp2_with fail
      refine X0.out.mono ?_
      rintro e w1 ⟨u, rfl, hr, hb1⟩
      obtain ⟨uo, uc, rfl, _⟩ := hr.form
      simp only [List.length_map] at hr ⊢
      have R1 := Lib.hid hr
      have hb2 := bon hb hb1
      clear hr hb hb1
      have X1 := Lib.hid (wleast_c _ bs ways _ w1 (by omega) (by omega) (fun way hway => Nat.le_trans (HW.out way hway) (by omega)) R1.out (H1.out.kept hb2))
      have X2 := Lib.hid (fun w2 (hb : Below W.heap.size W w2) => wrleast_c _ bs ways _ w2 (by omega) (by omega) (fun way hway => Nat.le_trans (HW.out way hway) (by omega)) (H.out.kept hb) (H1.out.kept hb))
      have HM : Hid (ways.length = 0 ∨ (0 < ways.length ∧ ∃ j : Nat, Fl.leastF bs ways ways.length = (j : Int) ∧ j < ways.length)) := Lib.hid (by
        rcases Nat.eq_zero_or_pos ways.length with h | h
        · exact .inl h
        · obtain ⟨a, b⟩ := Fl.leastF_bd bs ways ways.length h
          exact .inr ⟨h, (Fl.leastF bs ways ways.length).toNat, by omega, by omega⟩)
      obtain ⟨at', hat⟩ : ∃ m, Fl.leastF bs ways ways.length = m := ⟨_, rfl⟩
      simp only [hat] at X1 X2 HM
      have HAT := Lib.hid hat
      clear hat
      go_wp2_with fail
      refine X1.out.mono ?_
      rintro e w2 ⟨rfl, hb3⟩
      have R2 := Lib.hid (R1.out.kept hb3)
      have hb4 := bon hb2 hb3
      clear hb2 hb3 R1
      go_wp2_with fail
      refine (X2.out _ hb4).mono ?_
      rintro e w3 ⟨rfl, hb5⟩
      have R3 := Lib.hid (R2.out.kept hb5)
      have hb6 := bon hb4 hb5
      clear hb4 hb5 R2
      go_wp2_with fail
      go_loopw [8] (fun i wr => ∃ k : Nat, i = .int .i64 k ∧ k ≤ ways.length ∧ Below W.heap.size W wr ∧ Hid (Rd FLT (.slice uo bs.length uc) (bs.map Fl.clean) wr)) (fun i _ => ways.length - (intOf i).toNat)
      case atStart => exact ⟨0, rfl, Nat.zero_le _, hb6, R3⟩
      case round =>
        obtain ⟨k, rfl, hk, hb, hq⟩ := hrel
        by_cases hlt : k < ways.length
        · have hd : decide ((k : Int) < (ways.length : Int)) = true := by simp; omega
          obtain ⟨j, rfl, hjl⟩ : ∃ j : Nat, at' = (j : Int) ∧ j < ways.length := by
            rcases HM.out with h | ⟨_, h⟩
            · omega
            · exact h
          have dj : decide ((j : Int) < 0) = false := by simp
          have dj2 : decide ((ways.length : Int) ≤ (j : Int)) = false := by simp; omega
          have hj2 : (j : Int) < (ways.length : Int) := by omega
          have HR := Lib.hid (fun kk : KW wr => wrright_c _ bs (bs.length : Int) kk.val ((H.out.kept hb).kept kk.kp))
          have NL : Hid (Fl.rightW bs (bs.length : Int) = true → (FloatKind.f64.format.order (Fl.rwalkP bs ways[k]) (Fl.rwalkP bs ways[j]) == some Ordering.lt) = false) := Lib.hid (fun hr => by
            unfold Fl.rightW at hr
            rw [Bool.and_eq_true] at hr
            exact Fl.least_no hr.1 hlt HAT.out hjl)
          obtain ⟨a, sok, sck, rfl, zk, ck0, rsk⟩ := (H1.out.kept hb).at_ k hlt
          obtain ⟨a', soj, scj, haa, zj, cj0, rsj⟩ := (H1.out.kept hb).at_ j hjl
          cases haa
          have HK := Lib.hid (fun kk : KW wr => walk_c _ (bs.map Fl.clean) ways[k] (.slice sok ways[k].length sck) kk.val (by rw [List.length_map]; omega) (Nat.le_trans (HW.out _ (List.getElem_mem _)) (by omega)) (hq.out.kept kk.kp) (rsk.kept kk.kp))
          have HJ := Lib.hid (fun kk : KW wr => walk_c _ (bs.map Fl.clean) ways[j] (.slice soj ways[j].length scj) kk.val (by rw [List.length_map]; omega) (Nat.le_trans (HW.out _ (List.getElem_mem _)) (by omega)) (hq.out.kept kk.kp) (rsj.kept kk.kp))
          simp only [Fl.walk_eq] at HK HJ
          clear rsk rsj
          generalize Fl.rwalkP bs ways[k] = xk at *
          generalize Fl.rwalkP bs ways[j] = xj at *
          generalize Fl.rightW bs (bs.length : Int) = r at *
          have hsz := hb.size
          cases r with
          | false =>
            clear NL
            go_wp2_with fail
            refine wp_region_kq (by kernel_rfl) (by kernel_rfl) ?_
            repeat (first | go_big_quiet_step ((first | (go_at_call_of 41 sok; exact KW.call (HK.out _)) | (go_at_call_of 41 soj; exact KW.call (HJ.out _)) | (go_at_call 40; exact KW.same (HR.out _)))) | quiet_step ((first | (go_at_call_of 41 sok; exact KW.call (HK.out _)) | (go_at_call_of 41 soj; exact KW.call (HJ.out _)) | (go_at_call 40; exact KW.same (HR.out _)))))
            refine wpQuiet_nil ?_
            intro kz
            have hz := hb.trans (kz.kp.mono hsz)
            have hqz := Lib.hid (hq.out.kept kz.kp)
            go_wp2_with fail
            go_roundw
            case rel => exact ⟨k + 1, by go_num, by omega, hz, hqz⟩
            case measure => simp [intOf]; omega
          | true =>
            have nl := NL.out rfl
            clear NL
            go_wp2_with fail
            refine wp_region_kq (by kernel_rfl) (by kernel_rfl) ?_
            repeat (first | go_big_quiet_step ((first | (go_at_call_of 41 sok; exact KW.call (HK.out _)) | (go_at_call_of 41 soj; exact KW.call (HJ.out _)) | (go_at_call 40; exact KW.same (HR.out _)))) | quiet_step ((first | (go_at_call_of 41 sok; exact KW.call (HK.out _)) | (go_at_call_of 41 soj; exact KW.call (HJ.out _)) | (go_at_call 40; exact KW.same (HR.out _)))))
            refine wpQuiet_nil ?_
            intro kz
            have hz := hb.trans (kz.kp.mono hsz)
            have hqz := Lib.hid (hq.out.kept kz.kp)
            go_wp2_with fail
            go_roundw
            case rel => exact ⟨k + 1, by go_num, by omega, hz, hqz⟩
            case measure => simp [intOf]; omega
        · obtain rfl : k = ways.length := by omega
          have hd : decide ((ways.length : Int) < (ways.length : Int)) = false := by simp
          go_wp2_with (go_at_call 36; refine (wawake_b hb).mono ?_; rintro e w' ⟨rfl, hb1⟩)
          go_ret
          exact ⟨rfl, hb1⟩
end Go.Proofs.Ytijgopcddjnfdaa
