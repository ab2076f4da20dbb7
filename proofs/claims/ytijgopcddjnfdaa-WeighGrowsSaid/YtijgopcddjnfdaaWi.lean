/- What is proved here: which way costs least, the program's answer and the document's. Condition: numbers and ways can be read. -/
import Derived.Test.YtijgopcddjnfdaaWh
import Derived.Deep.RegionWith
namespace Go.Proofs.Ytijgopcddjnfdaa
open Go Go.RowKit
attribute [local go_sem ↓] op_lss op_gtr op_geq op_leq op_eql op_neq op_neg wop_eql wop_neq wop_lss run_frombits run_bits lfrombits_one lfrombits_inf lfrombits_ninf lop_eql_sign
attribute [local go_sem] KW.cell KW.frozen
/-- The slice v reads as the ways. -/
def RdWW (v : Value) (ways : List (List Int)) (w : World) : Prop :=
  ∃ vs : List Value, Rd (fun x : Value => x) v vs w ∧ vs.length = ways.length ∧ ∀ i (h : i < vs.length) (h' : i < ways.length), Rd INT vs[i] ways[i] w
theorem RdWW.kept {v : Value} {ways : List (List Int)} {w w' : World} (h : RdWW v ways w) (hb : Below w.heap.size w w') : RdWW v ways w' := by
  obtain ⟨vs, h1, h2, h3⟩ := h
  exact ⟨vs, h1.kept hb, h2, fun i a b => (h3 i a b).kept hb⟩
theorem RdWW.form {v : Value} {ways : List (List Int)} {w : World} (h : RdWW v ways w) : ∃ ao c, v = .slice ao ways.length c := by
  obtain ⟨vs, h1, h2, _⟩ := h
  obtain ⟨ao, c, rfl, _⟩ := h1.form
  exact ⟨ao, c, by rw [h2]⟩
theorem RdWW.at_ {ao : Option Addr} {n c : Nat} {ways : List (List Int)} {w : World} (h : RdWW (.slice ao n c) ways w) (k : Nat) (hk : k < ways.length) :
    ∃ a so sc, ao = some a ∧ (a.add k).block < w.heap.size ∧ w.cell? (a.add k) = some (.slice so ways[k].length sc) ∧ Rd INT (.slice so ways[k].length sc) ways[k] w := by
  obtain ⟨vs, h1, h2, h3⟩ := h
  obtain ⟨a, ha, hg, hc⟩ := h1.at_ k (by omega)
  have hr := h3 k (by omega) hk
  obtain ⟨so, sc, hs, _⟩ := hr.form
  have hc : w.cell? (a.add k) = some vs[k] := hc
  rw [hs] at hc hr
  exact ⟨a, so, sc, ha, by rw [add_block]; exact hg, hc, hr⟩
namespace Fl
theorem cmpW_lt (x y : Nat) : decide (cmpW x y < 0) = decide (place x < place y) := by
  rw [Bool.eq_iff_iff, decide_eq_true_eq, decide_eq_true_eq]
  unfold cmpW
  repeat' split
  all_goals omega
def leastF (bs : List Nat) (ways : List (List Int)) : Nat → Int
  | 0 => -1
  | k + 1 => if leastF bs ways k < 0 then (k : Int) else if place (rwalkP bs (ways.getD k [])) < place (rwalkP bs (ways.getD (leastF bs ways k).toNat [])) then (k : Int) else leastF bs ways k
theorem leastF_bd (bs : List Nat) (ways : List (List Int)) : ∀ k, 0 < k → 0 ≤ leastF bs ways k ∧ leastF bs ways k < (k : Int) := by
  intro k
  induction k with
  | zero => intro h; omega
  | succ k ih =>
    intro _
    rcases Nat.eq_zero_or_pos k with rfl | hk
    · have e : leastF bs ways (0 + 1) = 0 := rfl
      rw [e]
      exact ⟨by decide, by decide⟩
    · have := ih hk
      unfold leastF
      repeat' split
      all_goals omega
theorem leastF_next {bs : List Nat} {ways : List (List Int)} {k j : Nat} (hk : k < ways.length) (hj : leastF bs ways k = j) (hjk : j < ways.length := by omega) :
    leastF bs ways (k + 1) = if decide (place (rwalkP bs ways[k]) < place (rwalkP bs ways[j])) = true then (k : Int) else (j : Int) := by
  show (if leastF bs ways k < 0 then (k : Int) else if place (rwalkP bs (ways.getD k [])) < place (rwalkP bs (ways.getD (leastF bs ways k).toNat [])) then (k : Int) else leastF bs ways k) = _
  rw [hj, if_neg (by omega), Int.toNat_natCast]
  have e1 : ways.getD k [] = ways[k] := by rw [List.getD_eq_getElem?_getD, List.getElem?_eq_getElem hk]; rfl
  have e2 : ways.getD j [] = ways[j] := by rw [List.getD_eq_getElem?_getD, List.getElem?_eq_getElem hjk]; rfl
  rw [e1, e2]
  simp only [decide_eq_true_eq]
end Fl

set_option maxRecDepth 100000 in
set_option maxHeartbeats 4000000 in
theorem wleast_c (bv : Value) (bs : List Nat) (ways : List (List Int)) (v : Value) (w : World) (hbs : bs.length ≤ 1000) (hwn : ways.length ≤ 1000) (hwl : ∀ way ∈ ways, way.length ≤ 1000) (hb0 : Rd FLT bv (bs.map Fl.clean) w) (hv : RdWW v ways w) :
    Calls Try.prog 38 #[bv, v] w fun e w' => e = .returned (.int .i64 (Fl.leastF bs ways ways.length)) ∧ Below w.heap.size w w' := by
  obtain ⟨vo, vc, rfl⟩ := hv.form
  obtain ⟨bo, d, rfl, hbm⟩ := hb0.form
  simp only [List.length_map] at hb0 hbm ⊢
  have HB := Lib.hid hb0
  have HV := Lib.hid hv
  clear hb0 hv
  go_enter Try.func38, Try.ntmps38
  go_wp2_with fail
  go_loopw [5, 10] (fun a i wr => ∃ k : Nat, i = .int .i64 k ∧ k ≤ ways.length ∧ a = .int .i64 (Fl.leastF bs ways k) ∧ Below w.heap.size w wr) (fun _ i _ => ways.length - (intOf i).toNat)
  case atStart => exact ⟨0, rfl, Nat.zero_le _, rfl, Below.refl _ _⟩
  case round =>
    obtain ⟨k, rfl, hk, rfl, hb⟩ := hrel
    have hsz := hb.size
    by_cases hlt : k < ways.length
    · have hd : decide ((k : Int) < (ways.length : Int)) = true := by simp; omega
      obtain ⟨a, sok, sck, rfl, zk, ck0, rsk⟩ := (HV.out.kept hb).at_ k hlt
      by_cases hkz : k = 0
      · have e0 : Fl.leastF bs ways k = -1 := by rw [hkz]; rfl
        have HE : Hid (Fl.leastF bs ways (k + 1) = (k : Int)) := Lib.hid (by rw [hkz]; rfl)
        rw [e0]
        clear e0 hkz
        go_wp2_with fail
        refine wp_region_kq (by kernel_rfl) (by kernel_rfl) ?_
        repeat (first | go_big_quiet_step (fail) | quiet_step (fail))
        refine wpQuiet_nil ?_
        intro kz
        have hz := hb.trans (kz.kp.mono hsz)
        go_wp2_with fail
        go_roundw
        case rel => exact ⟨k + 1, by go_num, by omega, by rw [HE.out], hz⟩
        case measure => simp [intOf]; omega
      have hk0 : 0 < k := by omega
      obtain ⟨l0, l1⟩ := Fl.leastF_bd bs ways k hk0
      obtain ⟨j, hj⟩ : ∃ j : Nat, Fl.leastF bs ways k = j := ⟨(Fl.leastF bs ways k).toNat, by omega⟩
      have hjk : j < k := by omega
      have hjl : j < ways.length := by omega
      obtain ⟨a', soj, scj, haa, zj, cj0, rsj⟩ := (HV.out.kept hb).at_ j hjl
      cases haa
      have HK := Lib.hid (fun kk : KW wr => walk_c _ (bs.map Fl.clean) ways[k] (.slice sok ways[k].length sck) kk.val (by rw [List.length_map]; exact hbs) (hwl _ (List.getElem_mem _)) ((HB.out.kept hb).kept kk.kp) (rsk.kept kk.kp))
      have HJ := Lib.hid (fun kk : KW wr => walk_c _ (bs.map Fl.clean) ways[j] (.slice soj ways[j].length scj) kk.val (by rw [List.length_map]; exact hbs) (hwl _ (List.getElem_mem _)) ((HB.out.kept hb).kept kk.kp) (rsj.kept kk.kp))
      simp only [Fl.walk_eq] at HK HJ
      obtain ⟨lb, hlb⟩ : ∃ lb, decide (Fl.place (Fl.rwalkP bs ways[k]) < Fl.place (Fl.rwalkP bs ways[j])) = lb := ⟨_, rfl⟩
      have q1 : decide (Fl.cmpW (Fl.rwalkP bs ways[k]) (Fl.rwalkP bs ways[j]) < 0) = lb := by rw [← hlb]; exact Fl.cmpW_lt _ _
      have hnext : Fl.leastF bs ways (k + 1) = if lb = true then (k : Int) else (j : Int) := by
        rw [← hlb]
        exact Fl.leastF_next hlt hj
      have HN := Lib.hid hnext
      have HCM := Lib.hid (fun kk : KW wr => compare_w (Fl.rwalkP bs ways[k]) (Fl.rwalkP bs ways[j]) (Fl.rwalkP_w _ _) (Fl.rwalkP_w _ _) kk.val)
      have hj2 : (j : Int) < (ways.length : Int) := by omega
      have dj : decide ((j : Int) < 0) = false := by simp
      have dj2 : ((j : Int) == -1) = false := by rw [beq_eq_false_iff_ne]; omega
      rw [hj]
      clear hj l0 l1 hnext hlb rsk rsj hkz
      generalize Fl.cmpW (Fl.rwalkP bs ways[k]) (Fl.rwalkP bs ways[j]) = cm at *
      generalize Fl.rwalkP bs ways[k] = ck at *
      generalize Fl.rwalkP bs ways[j] = cj at *
      have xq := q1
      cases lb with
      | true =>
        have HN2 : Hid (Fl.leastF bs ways (k + 1) = (k : Int)) := Lib.hid (by rw [HN.out]; rfl)
        clear HN xq
        · go_wp2_with fail
          refine wp_region_kq (by kernel_rfl) (by kernel_rfl) ?_
          repeat (first | go_big_quiet_step ((first | (go_at_call_of 41 sok; exact KW.call (HK.out _)) | (go_at_call_of 41 soj; exact KW.call (HJ.out _)) | (go_at_call 13; exact KW.same (HCM.out _)))) | quiet_step ((first | (go_at_call_of 41 sok; exact KW.call (HK.out _)) | (go_at_call_of 41 soj; exact KW.call (HJ.out _)) | (go_at_call 13; exact KW.same (HCM.out _)))))
          refine wpQuiet_nil ?_
          intro kz
          have hz := hb.trans (kz.kp.mono hsz)
          go_wp2_with fail
          go_roundw
          case rel => exact ⟨k + 1, by go_num, by omega, by rw [HN2.out], hz⟩
          case measure => simp [intOf]; omega
      | false =>
        have HN2 : Hid (Fl.leastF bs ways (k + 1) = (j : Int)) := Lib.hid (by rw [HN.out]; rfl)
        clear HN xq
        · go_wp2_with fail
          refine wp_region_kq (by kernel_rfl) (by kernel_rfl) ?_
          repeat (first | go_big_quiet_step ((first | (go_at_call_of 41 sok; exact KW.call (HK.out _)) | (go_at_call_of 41 soj; exact KW.call (HJ.out _)) | (go_at_call 13; exact KW.same (HCM.out _)))) | quiet_step ((first | (go_at_call_of 41 sok; exact KW.call (HK.out _)) | (go_at_call_of 41 soj; exact KW.call (HJ.out _)) | (go_at_call 13; exact KW.same (HCM.out _)))))
          refine wpQuiet_nil ?_
          intro kz
          have hz := hb.trans (kz.kp.mono hsz)
          go_wp2_with fail
          go_roundw
          case rel => exact ⟨k + 1, by go_num, by omega, by rw [HN2.out], hz⟩
          case measure => simp [intOf]; omega
    · obtain rfl : k = ways.length := by omega
      have hd : decide ((ways.length : Int) < (ways.length : Int)) = false := by simp
      go_wp2_with fail
      go_ret
      exact ⟨rfl, hb⟩


set_option maxRecDepth 100000 in
set_option maxHeartbeats 4000000 in
theorem wrleast_c (bv : Value) (bs : List Nat) (ways : List (List Int)) (v : Value) (w : World) (hbs : bs.length ≤ 1000) (hwn : ways.length ≤ 1000) (_hwl : ∀ way ∈ ways, way.length ≤ 1000) (hb0 : Rd WRD bv bs w) (hv : RdWW v ways w) :
    Calls Try.prog 39 #[bv, v] w fun e w' => e = .returned (.int .i64 (Fl.leastF bs ways ways.length)) ∧ Below w.heap.size w w' := by
  obtain ⟨vo, vc, rfl⟩ := hv.form
  obtain ⟨bo, d, rfl, hbm⟩ := hb0.form
  have HB := Lib.hid hb0
  have HV := Lib.hid hv
  clear hb0 hv
  go_enter Try.func39, Try.ntmps39
  go_wp2_with fail
  go_loopw [5, 6] (fun a i wr => ∃ k : Nat, i = .int .i64 k ∧ k ≤ ways.length ∧ a = .int .i64 (Fl.leastF bs ways k) ∧ Below w.heap.size w wr) (fun _ i _ => ways.length - (intOf i).toNat)
  case atStart => exact ⟨0, rfl, Nat.zero_le _, rfl, Below.refl _ _⟩
  case round =>
    obtain ⟨k, rfl, hk, rfl, hb⟩ := hrel
    have hsz := hb.size
    by_cases hlt : k < ways.length
    · have hd : decide ((k : Int) < (ways.length : Int)) = true := by simp; omega
      obtain ⟨a, sok, sck, rfl, zk, ck0, rsk⟩ := (HV.out.kept hb).at_ k hlt
      by_cases hkz : k = 0
      · have e0 : Fl.leastF bs ways k = -1 := by rw [hkz]; rfl
        have HE : Hid (Fl.leastF bs ways (k + 1) = (k : Int)) := Lib.hid (by rw [hkz]; rfl)
        rw [e0]
        clear e0 hkz
        go_wp2_with fail
        refine wp_region_kq (by kernel_rfl) (by kernel_rfl) ?_
        repeat (first | go_big_quiet_step (fail) | quiet_step (fail))
        refine wpQuiet_nil ?_
        intro kz
        have hz := hb.trans (kz.kp.mono hsz)
        go_wp2_with fail
        go_roundw
        case rel => exact ⟨k + 1, by go_num, by omega, by rw [HE.out], hz⟩
        case measure => simp [intOf]; omega
      have hk0 : 0 < k := by omega
      obtain ⟨l0, l1⟩ := Fl.leastF_bd bs ways k hk0
      obtain ⟨j, hj⟩ : ∃ j : Nat, Fl.leastF bs ways k = j := ⟨(Fl.leastF bs ways k).toNat, by omega⟩
      have hjk : j < k := by omega
      have hjl : j < ways.length := by omega
      obtain ⟨a', soj, scj, haa, zj, cj0, rsj⟩ := (HV.out.kept hb).at_ j hjl
      cases haa
      have HK := Lib.hid (fun kk : KW wr => rwalk_c _ bs ways[k] (.slice sok ways[k].length sck) kk.val hbs ((HB.out.kept hb).kept kk.kp) (rsk.kept kk.kp))
      have HJ := Lib.hid (fun kk : KW wr => rwalk_c _ bs ways[j] (.slice soj ways[j].length scj) kk.val hbs ((HB.out.kept hb).kept kk.kp) (rsj.kept kk.kp))
      obtain ⟨lb, hlb⟩ : ∃ lb, decide (Fl.place (Fl.rwalkP bs ways[k]) < Fl.place (Fl.rwalkP bs ways[j])) = lb := ⟨_, rfl⟩
      have q1 : Fl.ltW (Fl.place (Fl.rwalkP bs ways[k])) (Fl.place (Fl.rwalkP bs ways[j])) = lb := hlb
      have q2 : decide (((Fl.place (Fl.rwalkP bs ways[k]) : Nat) : Int) < ((Fl.place (Fl.rwalkP bs ways[j]) : Nat) : Int)) = lb := by rw [← hlb, Bool.eq_iff_iff, decide_eq_true_eq, decide_eq_true_eq]; omega
      have q3 : decide (Fl.place (Fl.rwalkP bs ways[k]) < Fl.place (Fl.rwalkP bs ways[j])) = lb := hlb
      have hnext : Fl.leastF bs ways (k + 1) = if lb = true then (k : Int) else (j : Int) := by
        rw [← hlb]
        exact Fl.leastF_next hlt hj
      have HN := Lib.hid hnext
      have HP1 := Lib.hid (fun kk : KW wr => rplace_c (Fl.rwalkP bs ways[k]) kk.val)
      have HP2 := Lib.hid (fun kk : KW wr => rplace_c (Fl.rwalkP bs ways[j]) kk.val)
      have hj2 : (j : Int) < (ways.length : Int) := by omega
      have dj : decide ((j : Int) < 0) = false := by simp
      have dj2 : ((j : Int) == -1) = false := by rw [beq_eq_false_iff_ne]; omega
      rw [hj]
      clear hj l0 l1 hnext hlb rsk rsj hkz
      generalize Fl.place (Fl.rwalkP bs ways[k]) = pk at *
      generalize Fl.place (Fl.rwalkP bs ways[j]) = pj at *
      generalize Fl.rwalkP bs ways[k] = ck at *
      generalize Fl.rwalkP bs ways[j] = cj at *
      have xq := q1
      cases lb with
      | true =>
        have HN2 : Hid (Fl.leastF bs ways (k + 1) = (k : Int)) := Lib.hid (by rw [HN.out]; rfl)
        clear HN xq
        · go_wp2_with fail
          refine wp_region_kq (by kernel_rfl) (by kernel_rfl) ?_
          repeat (first | go_big_quiet_step ((first | (go_at_call_of 46 sok; exact KW.call (HK.out _)) | (go_at_call_of 46 soj; exact KW.call (HJ.out _)) | (go_at_call_of 52 ck; exact KW.same (HP1.out _)) | (go_at_call_of 52 cj; exact KW.same (HP2.out _)))) | quiet_step ((first | (go_at_call_of 46 sok; exact KW.call (HK.out _)) | (go_at_call_of 46 soj; exact KW.call (HJ.out _)) | (go_at_call_of 52 ck; exact KW.same (HP1.out _)) | (go_at_call_of 52 cj; exact KW.same (HP2.out _)))))
          refine wpQuiet_nil ?_
          intro kz
          have hz := hb.trans (kz.kp.mono hsz)
          go_wp2_with fail
          go_roundw
          case rel => exact ⟨k + 1, by go_num, by omega, by rw [HN2.out], hz⟩
          case measure => simp [intOf]; omega
      | false =>
        have HN2 : Hid (Fl.leastF bs ways (k + 1) = (j : Int)) := Lib.hid (by rw [HN.out]; rfl)
        clear HN xq
        · go_wp2_with fail
          refine wp_region_kq (by kernel_rfl) (by kernel_rfl) ?_
          repeat (first | go_big_quiet_step ((first | (go_at_call_of 46 sok; exact KW.call (HK.out _)) | (go_at_call_of 46 soj; exact KW.call (HJ.out _)) | (go_at_call_of 52 ck; exact KW.same (HP1.out _)) | (go_at_call_of 52 cj; exact KW.same (HP2.out _)))) | quiet_step ((first | (go_at_call_of 46 sok; exact KW.call (HK.out _)) | (go_at_call_of 46 soj; exact KW.call (HJ.out _)) | (go_at_call_of 52 ck; exact KW.same (HP1.out _)) | (go_at_call_of 52 cj; exact KW.same (HP2.out _)))))
          refine wpQuiet_nil ?_
          intro kz
          have hz := hb.trans (kz.kp.mono hsz)
          go_wp2_with fail
          go_roundw
          case rel => exact ⟨k + 1, by go_num, by omega, by rw [HN2.out], hz⟩
          case measure => simp [intOf]; omega
    · obtain rfl : k = ways.length := by omega
      have hd : decide ((ways.length : Int) < (ways.length : Int)) = false := by simp
      go_wp2_with fail
      go_ret
      exact ⟨rfl, hb⟩

end Go.Proofs.Ytijgopcddjnfdaa
