/- What is proved here: TopRoutes is true of every topology, routes, port and packet. Condition: none but that they can be read. -/
import Derived.Test.YtekfkieimdgfkaaGreatT46
namespace Go.Proofs.YtekfkieimdgfkaaGreat
open Go Go.RowKit
attribute [local go_sem] KW.cell KW.frozen
set_option maxRecDepth 100000 in
set_option maxHeartbeats 16000000 in
theorem law3 (n : Int) (lo ho : Option Addr) (lc hc : Nat) (ls : List Lk) (hs : List Ho) (rv : Value) (rows : List (List Int)) (port : Int) (pa pb pc pd : Int) (w : World) (h1 : Rz 6 lkE (.slice lo ls.length lc) ls w) (h2 : Rz 2 hoE (.slice ho hs.length hc) hs w) (hr : RdW rv rows w) :
    Ret 3 #[.agg #[.int .i64 n, .slice lo ls.length lc, .slice ho hs.length hc], rv, .int .i64 port, .agg #[.int .i64 pa, .int .i64 pb, .int .i64 pc, .int .i64 pd]] (.bool true) w := by
  obtain ⟨ro, rc, rfl, hrc1, hrc2⟩ := hr.form
  have H1 := Lib.hid h1
  have H2 := Lib.hid h2
  have HR := Lib.hid hr
  have HB : Hid (Below w.heap.size w ((w.alloc (.cells #[.int .i64 n, .slice lo ls.length lc, .slice ho hs.length hc] 25)).alloc (.cells #[.int .i64 pa, .int .i64 pb, .int .i64 pc, .int .i64 pd] 29))) := Lib.hid (((Below.refl _ _).alloc (Nat.le_refl _) _).alloc (by simp) _)
  have HT : Hid (((w.alloc (.cells #[.int .i64 n, .slice lo ls.length lc, .slice ho hs.length hc] 25)).alloc (.cells #[.int .i64 pa, .int .i64 pb, .int .i64 pc, .int .i64 pd] 29)).heap[w.heap.size]? = some (.cells #[.int .i64 n, .slice lo ls.length lc, .slice ho hs.length hc] 25 (0, 0))) :=
    Lib.hid ((Below.heap_alloc _ _ _ (by simp)).trans (heap_alloc_new w _))
  have HP : Hid (((w.alloc (.cells #[.int .i64 n, .slice lo ls.length lc, .slice ho hs.length hc] 25)).alloc (.cells #[.int .i64 pa, .int .i64 pb, .int .i64 pc, .int .i64 pd] 29)).heap[w.heap.size + 1]? = some (.cells #[.int .i64 pa, .int .i64 pb, .int .i64 pc, .int .i64 pd] 29 (0, 0))) := by
    have := heap_alloc_new (w.alloc (.cells #[.int .i64 n, .slice lo ls.length lc, .slice ho hs.length hc] 25)) (.cells #[.int .i64 pa, .int .i64 pb, .int .i64 pc, .int .i64 pd] 29)
    exact Lib.hid (by simpa using this)
  clear h1 h2 hr
  have hnot : ∀ (x : Bool) (w : World), (Op.unary .not (.bool x)).run Tryz.prog w = .ok (.bool (!x)) w := fun _ _ => rfl
  unfold Ret
  go_enter Tryz.func3, Tryz.ntmps3
  go_upto_region 1 with fail
  refine abs_wp ?_
  intro w0 hw0
  have HB0 : Hid (Below w.heap.size w w0) := by rw [hw0]; exact HB
  have HT0 : Hid (w0.heap[w.heap.size]? = some (.cells #[.int .i64 n, .slice lo ls.length lc, .slice ho hs.length hc] 25 (0, 0))) := by rw [hw0]; exact HT
  have HP0 : Hid (w0.heap[w.heap.size + 1]? = some (.cells #[.int .i64 pa, .int .i64 pb, .int .i64 pc, .int .i64 pd] 29 (0, 0))) := by rw [hw0]; exact HP
  clear hw0 HB HT HP
  have t0 := block_cell HT0.out 0
  have t1 := block_cell HT0.out 1
  have t2 := block_cell HT0.out 2
  have p0 := block_cell HP0.out 0
  have p1 := block_cell HP0.out 1
  have p2 := block_cell HP0.out 2
  have p3 := block_cell HP0.out 3
  have hlt := block_lt HT0.out
  have hlp := block_lt HP0.out
  simp only [List.getElem?_toArray, List.getElem?_cons_zero, List.getElem?_cons_succ] at t0 t1 t2 p0 p1 p2 p3
  go_wp2_with fail
  refine (small_c n lo ho ls.length lc hs.length hc _ rows w0 (HR.out.kept HB0.out)).mono ?_
  rintro e w1 ⟨b1, rfl, hsm, hb1⟩
  have HB1 := Lib.hid (HB0.out.trans (hb1.mono HB0.out.size))
  have HT1 := Lib.hid ((hb1.block _ (block_lt HT0.out)).trans HT0.out)
  have HP1 := Lib.hid ((hb1.block _ (block_lt HP0.out)).trans HP0.out)
  clear hb1 HB0 HT0 HP0 t0 t1 t2 p0 p1 p2 p3 hlt hlp
  cases b1 with
  | false =>
    go_wp2_with fail
    refine (compiles_c _).mono ?_
    rintro e w9 ⟨rfl, hb9⟩
    have HB9 := Lib.hid (HB1.out.trans (hb9.mono HB1.out.size))
    clear hb9
    go_wp2_with fail
    go_ret
    exact ⟨rfl, HB9.out⟩
  | true =>
    have HSM := Lib.hid (hsm rfl)
    clear hsm
    have t0 := block_cell HT1.out 0
    have t1 := block_cell HT1.out 1
    have t2 := block_cell HT1.out 2
    have p0 := block_cell HP1.out 0
    have p1 := block_cell HP1.out 1
    have p2 := block_cell HP1.out 2
    have p3 := block_cell HP1.out 3
    have hlt := block_lt HT1.out
    have hlp := block_lt HP1.out
    simp only [List.getElem?_toArray, List.getElem?_cons_zero, List.getElem?_cons_succ] at t0 t1 t2 p0 p1 p2 p3
    go_wp2_with fail
    refine (good_c n lo ho lc hc ls hs _ rows w1 (H1.out.kept HB1.out) (H2.out.kept HB1.out) (HR.out.kept HB1.out)).mono ?_
    rintro e w2 ⟨b2, rfl, hgo, hb2⟩
    have HB2 := Lib.hid (HB1.out.trans (hb2.mono HB1.out.size))
    have HT2 := Lib.hid ((hb2.block _ (block_lt HT1.out)).trans HT1.out)
    have HP2 := Lib.hid ((hb2.block _ (block_lt HP1.out)).trans HP1.out)
    clear hb2 HB1 HT1 HP1 t0 t1 t2 p0 p1 p2 p3 hlt hlp
    cases b2 with
    | false =>
      go_wp2_with fail
      refine (compiles_c _).mono ?_
      rintro e w9 ⟨rfl, hb9⟩
      have HB9 := Lib.hid (HB2.out.trans (hb9.mono HB2.out.size))
      clear hb9
      go_wp2_with fail
      go_ret
      exact ⟨rfl, HB9.out⟩
    | true =>
      have HGO := Lib.hid (hgo rfl)
      clear hgo
      have t0 := block_cell HT2.out 0
      have t1 := block_cell HT2.out 1
      have t2 := block_cell HT2.out 2
      have p0 := block_cell HP2.out 0
      have p1 := block_cell HP2.out 1
      have p2 := block_cell HP2.out 2
      have p3 := block_cell HP2.out 3
      have hlt := block_lt HT2.out
      have hlp := block_lt HP2.out
      simp only [List.getElem?_toArray, List.getElem?_cons_zero, List.getElem?_cons_succ] at t0 t1 t2 p0 p1 p2 p3
      by_cases hn4 : n ≤ 4
      rotate_left
      · have d1 : decide ((4 : Int) < n) = true := by simp; omega
        go_wp2_with fail
        refine (compiles_c _).mono ?_
        rintro e w9 ⟨rfl, hb9⟩
        have HB9 := Lib.hid (HB2.out.trans (hb9.mono HB2.out.size))
        clear hb9
        go_wp2_with fail
        go_ret
        exact ⟨rfl, HB9.out⟩
      have d1 : decide ((4 : Int) < n) = false := by simp; omega
      by_cases hh1 : 1 ≤ hs.length
      rotate_left
      · have d2 : decide ((hs.length : Int) < 1) = true := by simp; omega
        go_wp2_with fail
        refine (compiles_c _).mono ?_
        rintro e w9 ⟨rfl, hb9⟩
        have HB9 := Lib.hid (HB2.out.trans (hb9.mono HB2.out.size))
        clear hb9
        go_wp2_with fail
        go_ret
        exact ⟨rfl, HB9.out⟩
      have d2 : decide ((hs.length : Int) < 1) = false := by simp; omega
      by_cases hh2 : hs.length ≤ 2
      rotate_left
      · have d3 : decide ((2 : Int) < (hs.length : Int)) = true := by simp; omega
        go_wp2_with fail
        refine (compiles_c _).mono ?_
        rintro e w9 ⟨rfl, hb9⟩
        have HB9 := Lib.hid (HB2.out.trans (hb9.mono HB2.out.size))
        clear hb9
        go_wp2_with fail
        go_ret
        exact ⟨rfl, HB9.out⟩
      have d3 : decide ((2 : Int) < (hs.length : Int)) = false := by simp; omega
      go_wp2_with fail
      refine (pright_c pa pb pc pd w2).mono ?_
      rintro e w3 ⟨b3, rfl, hpr, hb3⟩
      have HB3 := Lib.hid (HB2.out.trans (hb3.mono HB2.out.size))
      have HT3 := Lib.hid ((hb3.block _ (block_lt HT2.out)).trans HT2.out)
      have HP3 := Lib.hid ((hb3.block _ (block_lt HP2.out)).trans HP2.out)
      clear hb3 HB2 HT2 HP2 t0 t1 t2 p0 p1 p2 p3 hlt hlp
      cases b3 with
      | false =>
        go_wp2_with fail
        refine (compiles_c _).mono ?_
        rintro e w9 ⟨rfl, hb9⟩
        have HB9 := Lib.hid (HB3.out.trans (hb9.mono HB3.out.size))
        clear hb9
        go_wp2_with fail
        go_ret
        exact ⟨rfl, HB9.out⟩
      | true =>
        have HPR := Lib.hid (hpr rfl)
        clear hpr
        by_cases hp0 : 0 ≤ port
        rotate_left
        · have d4 : decide (port < (0 : Int)) = true := by simp; omega
          go_wp2_with fail
          refine (compiles_c _).mono ?_
          rintro e w9 ⟨rfl, hb9⟩
          have HB9 := Lib.hid (HB3.out.trans (hb9.mono HB3.out.size))
          clear hb9
          go_wp2_with fail
          go_ret
          exact ⟨rfl, HB9.out⟩
        have d4 : decide (port < (0 : Int)) = false := by simp; omega
        by_cases hp7 : port ≤ 7
        rotate_left
        · have d5 : decide ((7 : Int) < port) = true := by simp; omega
          go_wp2_with fail
          refine (compiles_c _).mono ?_
          rintro e w9 ⟨rfl, hb9⟩
          have HB9 := Lib.hid (HB3.out.trans (hb9.mono HB3.out.size))
          clear hb9
          go_wp2_with fail
          go_ret
          exact ⟨rfl, HB9.out⟩
        have d5 : decide ((7 : Int) < port) = false := by simp; omega
        have HLW := Lib.hid (HGO.out.law hn4 hh1 hh2)
        obtain ⟨m, hm⟩ : ∃ m : Nat, n = (m : Int) := ⟨rows.length, HLW.out.len.symm⟩
        subst hm
        have hrm : rows.length = m := by have := HLW.out.len; omega
        have HRM := Lib.hid hrm
        have hm4 : m ≤ 4 := by omega
        clear hrm
        obtain ⟨sv, hsv⟩ : ∃ s, s = bs (toldL rows) := ⟨_, rfl⟩
        have HSV := Lib.hid hsv
        clear hsv
        have t0 := block_cell HT3.out 0
        have t1 := block_cell HT3.out 1
        have t2 := block_cell HT3.out 2
        have p0 := block_cell HP3.out 0
        have p1 := block_cell HP3.out 1
        have p2 := block_cell HP3.out 2
        have p3 := block_cell HP3.out 3
        have hlt := block_lt HT3.out
        have hlp := block_lt HP3.out
        simp only [List.getElem?_toArray, List.getElem?_cons_zero, List.getElem?_cons_succ] at t0 t1 t2 p0 p1 p2 p3
        go_upto_region 3 with fail
        refine abs_wp ?_
        intro wb hwb
        have HBb : Hid (Below w.heap.size w wb) := by rw [hwb]; exact HB3
        have HTb : Hid (wb.heap[w.heap.size]? = some (.cells #[.int .i64 (m : Int), .slice lo ls.length lc, .slice ho hs.length hc] 25 (0, 0))) := by rw [hwb]; exact HT3
        have HPb : Hid (wb.heap[w.heap.size + 1]? = some (.cells #[.int .i64 pa, .int .i64 pb, .int .i64 pc, .int .i64 pd] 29 (0, 0))) := by rw [hwb]; exact HP3
        clear hwb HB3 HT3 HP3 t0 t1 t2 p0 p1 p2 p3 hlt hlp
        have t0 := block_cell HTb.out 0
        have t1 := block_cell HTb.out 1
        have t2 := block_cell HTb.out 2
        have p0 := block_cell HPb.out 0
        have p1 := block_cell HPb.out 1
        have p2 := block_cell HPb.out 2
        have p3 := block_cell HPb.out 3
        have hlt := block_lt HTb.out
        have hlp := block_lt HPb.out
        simp only [List.getElem?_toArray, List.getElem?_cons_zero, List.getElem?_cons_succ] at t0 t1 t2 p0 p1 p2 p3
        have A9 : Hid (∀ kk : KW wb, Calls Tryz.prog 9 #[.slice ro rows.length rc] kk.val fun e w' => e = .returned (.string sv) ∧ Below kk.val.heap.size kk.val w') := Lib.hid (fun kk => by
          rw [HSV.out]
          exact told_ret _ rows kk.val ((HR.out.kept HBb.out).kept kk.kp) HLW.out.few (fun r hr => ⟨by have := (HLW.out.row r hr).1; have := HLW.out.h2; omega, (HLW.out.row r hr).2⟩))
        refine wp_region_mid 3 (by kernel_rfl) (by kernel_rfl) ?_
        simp only [List.take_succ_cons, List.take_zero, List.drop_succ_cons, List.drop_zero]
        repeat (first | go_big_quiet_step ((go_at_call 9; exact KW.call (A9.out _))) | quiet_step ((go_at_call 9; exact KW.call (A9.out _))))
        refine wpQuiet_nil ?_
        intro kw
        refine ⟨8, #[.string sv, .agg #[.int .i64 (m : Int), .slice lo ls.length lc, .slice ho hs.length hc], .int .i64 64], _, rfl, rfl, ?_, ?_⟩
        · go_simp
        have HBk := Lib.hid (HBb.out.trans (kw.kp.mono HBb.out.size))
        have HTk := Lib.hid ((kw.kp.block _ (block_lt HTb.out)).trans HTb.out)
        have HPk := Lib.hid ((kw.kp.block _ (block_lt HPb.out)).trans HPb.out)
        have X8 := law_compile m lo ho lc hc ls hs rows kw.val (H1.out.kept HBk.out) (H2.out.kept HBk.out) HLW.out
        rw [← HSV.out] at X8
        refine X8.mono ?_
        rintro e w4 ⟨v4, rfl, hrd4, hb4⟩
        obtain ⟨ao, ac, rfl, hal1, hal2⟩ := hrd4.form
        have hlen4 : (tabsF (fun sw => hostsA 0 (rows.getD sw [])) m).length = m := by simp [tabsF]
        have HB4 := Lib.hid (HBk.out.trans (hb4.mono HBk.out.size))
        have HT4 := Lib.hid ((hb4.block _ (block_lt HTk.out)).trans HTk.out)
        have HP4 := Lib.hid ((hb4.block _ (block_lt HPk.out)).trans HPk.out)
        have HRT4 := Lib.hid hrd4
        rw [hlen4] at HRT4 ⊢
        clear hrd4 hb4 HBk HTk HPk HBb HTb HPb A9 hlen4 hal1 hal2 t0 t1 t2 p0 p1 p2 p3 hlt hlp
        refine ⟨_, rfl, ?_⟩
        repeat (first | go_big_quiet_step (fail) | quiet_step (fail))
        refine wpQuiet_nil ?_
        intro kz
        have HB5 := Lib.hid (HB4.out.trans (kz.kp.mono HB4.out.size))
        have HT5 := Lib.hid ((kz.kp.block _ (block_lt HT4.out)).trans HT4.out)
        have HP5 := Lib.hid ((kz.kp.block _ (block_lt HP4.out)).trans HP4.out)
        have HRT5 := Lib.hid (HRT4.out.kept kz.kp)
        obtain ⟨w5, hw5⟩ : ∃ w5, w5 = kz.val := ⟨_, rfl⟩
        rw [← hw5] at HB5 HT5 HP5 HRT5 ⊢
        clear hw5 HB4 HT4 HP4 HRT4
        have t0 := block_cell HT5.out 0
        have t1 := block_cell HT5.out 1
        have t2 := block_cell HT5.out 2
        have p0 := block_cell HP5.out 0
        have p1 := block_cell HP5.out 1
        have p2 := block_cell HP5.out 2
        have p3 := block_cell HP5.out 3
        have hlt := block_lt HT5.out
        have hlp := block_lt HP5.out
        simp only [List.getElem?_toArray, List.getElem?_cons_zero, List.getElem?_cons_succ] at t0 t1 t2 p0 p1 p2 p3
        go_wp2_with fail
        clear t0 t1 t2 p0 p1 p2 p3 hlt hlp
        go_loopw [12] (fun i wr => ∃ j : Nat, i = .int .i64 j ∧ j ≤ m ∧ Hid (Below w5.heap.size w5 wr)) (fun i _ => m - (intOf i).toNat)
        case atStart => exact ⟨0, rfl, Nat.zero_le _, Lib.hid (Below.refl _ _)⟩
        case round =>
          obtain ⟨j, rfl, hj, HBr⟩ := hrel
          have hsr := HBr.out.size
          have HTr := Lib.hid ((HBr.out.block _ (block_lt HT5.out)).trans HT5.out)
          have HPr := Lib.hid ((HBr.out.block _ (block_lt HP5.out)).trans HP5.out)
          have t0 := block_cell HTr.out 0
          have t1 := block_cell HTr.out 1
          have t2 := block_cell HTr.out 2
          have p0 := block_cell HPr.out 0
          have p1 := block_cell HPr.out 1
          have p2 := block_cell HPr.out 2
          have p3 := block_cell HPr.out 3
          have hlt := block_lt HTr.out
          have hlp := block_lt HPr.out
          simp only [List.getElem?_toArray, List.getElem?_cons_zero, List.getElem?_cons_succ] at t0 t1 t2 p0 p1 p2 p3
          by_cases hlj : j < m
          · have hd : decide ((j : Int) < (m : Int)) = true := by simp; omega
            have hj2 : (j : Int) < (m : Int) := by omega
            have hj0 : (0 : Int) ≤ (j : Int) := by omega
            obtain ⟨g, cap, uo, uc, hv, hgl, hcl, hru⟩ := (HRT5.out.kept HBr.out).at_ j (by simp [tabsF]; omega)
            rw [show (tabsF (fun sw => hostsA 0 (rows.getD sw [])) m).length = m by simp [tabsF]] at hv
            cases hv
            have etab : (tabsF (fun sw => hostsA 0 (rows.getD sw [])) m)[j]'(by simp [tabsF]; omega) = rulesF (caseL (hostsA 0 (rows.getD j [])) (-1)) := by simp [tabsF]
            rw [etab] at hcl hru
            have hjr : j < rows.length := by rw [HRM.out]; exact hlj
            have egd : rows.getD j [] = rows[j] := by rw [List.getD_eq_getElem?_getD, List.getElem?_eq_getElem hjr]; rfl
            rw [egd] at hcl hru
            have HRO := Lib.hid (HLW.out.row rows[j] (List.getElem_mem hjr))
            have HHP := Lib.hid (hosts_ok HRO.out HLW.out.h1 HLW.out.h2)
            obtain ⟨RL, hRL⟩ : ∃ R, R = rulesF (caseL (hostsA 0 rows[j]) (-1)) := ⟨_, rfl⟩
            have HRL := Lib.hid hRL
            rw [← hRL] at hcl hru
            have HCL := Lib.hid hcl
            have HRU := Lib.hid hru
            obtain ⟨fa, hfa⟩ : ∃ f, f = findA (hostsA 0 rows[j]) (pa, pb, pc, pd) := ⟨_, rfl⟩
            have HO1 := Lib.hid (show outL RL (pa, pb, pc, pd) = fa by rw [hRL, hfa]; exact out_rules _ _ fun a ha => (HHP.out.pos a ha).1)
            have HO2 := Lib.hid (show outL (routeF 0 rows[j]) (pa, pb, pc, pd) = fa by rw [hfa]; exact out_route rows[j] 0 _)
            have HFL := Lib.hid (show fa.length ≤ 1 by rw [hfa]; exact findA_len _ _)
            have HRK := Lib.hid (show ∀ r ∈ RL, RuOk r by rw [hRL]; exact caseL_ruok HHP.out)
            have hrl12 : rows[j].length ≤ 12 := by have := HRO.out.1; have := HLW.out.h2; omega
            have HRK2 := Lib.hid (routeF_ruok rows[j] 0 (by omega))
            clear hcl hru hRL hfa etab egd
            go_upto_region 9 with fail
            refine abs_wp ?_
            intro wb hwb
            have HBb : Hid (Below w5.heap.size w5 wb) := by rw [hwb]; exact HBr
            have HPb : Hid (wb.heap[w.heap.size + 1]? = some (.cells #[.int .i64 pa, .int .i64 pb, .int .i64 pc, .int .i64 pd] 29 (0, 0))) := by rw [hwb]; exact HPr
            have HRUb : Hid (RdU wb.heap.size (.slice none 0 0) [] wb) := Lib.hid (RdU.nil _ _)
            have HRU2 : ∃ B, Hid (RdU B (.slice uo RL.length uc) RL wb) := ⟨_, by rw [hwb]; exact HRU⟩
            have hcb : wb.cell? ⟨g, j, none⟩ = some (.slice uo RL.length uc) := by rw [hwb]; exact HCL.out
            have hgb : g < wb.heap.size := by rw [hwb]; exact hgl
            obtain ⟨BU, HRU3⟩ := HRU2
            clear hwb HBr HTr HPr HRU HCL HRUb t0 t1 t2 p0 p1 p2 p3 hlt hlp
            have hlp := block_lt HPb.out
            obtain ⟨d29, hu29, hd29⟩ := und29
            refine wp_region_pick [0, 1, 2, 4, 7, 8, 10] [3, 5, 11] [6, 9, 12, 13] [14] [14] (by kernel_rfl) (by kernel_rfl) (by kernel_rfl) ?_
            refine pure_takeD 77 rfl (by rfl) ?v0 ?h0 ?r0
            case h0 => (intro w0 _; go_simp; try (with_reducible rfl))
            (try simp only [Act.put, List.setIfInBounds_toArray, List.set_cons_zero, List.set_cons_succ])
            refine pure_takeD 78 rfl (by rfl) ?v1 ?h1 ?r1
            case h1 => (intro w0 _; go_simp; try (with_reducible rfl))
            (try simp only [Act.put, List.setIfInBounds_toArray, List.set_cons_zero, List.set_cons_succ])
            refine pure_takeD 79 rfl (by rfl) (.pointer (some ⟨g, j, none⟩)) ?h2 ?r2
            case h2 => (intro w0 _; go_simp; try (intro h; omega))
            (try simp only [Act.put, List.setIfInBounds_toArray, List.set_cons_zero, List.set_cons_succ])
            refine pure_takeD 81 rfl (by rfl) ?v3 ?h3 ?r3
            case h3 => (intro w0 _; go_simp; try (with_reducible rfl))
            (try simp only [Act.put, List.setIfInBounds_toArray, List.set_cons_zero, List.set_cons_succ])
            refine pure_takeD 84 rfl (by rfl) ?v4 ?h4 ?r4
            case h4 => (intro w0 _; go_simp; try (with_reducible rfl))
            (try simp only [Act.put, List.setIfInBounds_toArray, List.set_cons_zero, List.set_cons_succ])
            refine pure_takeD 85 rfl (by rfl) ?v5 ?h5 ?r5
            case h5 => (intro w0 _; go_simp; try (with_reducible rfl))
            (try simp only [Act.put, List.setIfInBounds_toArray, List.set_cons_zero, List.set_cons_succ])
            refine pure_takeD 87 rfl (by rfl) ?v6 ?h6 ?r6
            case h6 => (intro w0 _; go_simp; try (with_reducible rfl))
            (try simp only [Act.put, List.setIfInBounds_toArray, List.set_cons_zero, List.set_cons_succ])
            refine pure_end ?_
            (try dsimp only)
            refine pure_takeD 80 rfl (by rfl) (.slice uo RL.length uc) ?w0 ?s0
            case w0 => (rintro w0 ⟨kz, rfl⟩; go_simp; try (with_reducible rfl))
            (try simp only [Act.put, List.setIfInBounds_toArray, List.set_cons_zero, List.set_cons_succ])
            refine pure_mid 82 rfl (by rfl) 29 _ rfl (w.heap.size + 1) 0 rfl [.int .i64 pa, .int .i64 pb, .int .i64 pc, .int .i64 pd] d29 (fun w0 hw0 => ?m82) hu29 hd29 inf29 ?_
            case m82 => (obtain ⟨kz, rfl⟩ := hw0; exact range_all ((kz.kp.block _ hlp).trans HPb.out))
            (try simp only [Act.put, List.setIfInBounds_toArray, List.set_cons_zero, List.set_cons_succ])
            refine pure_mid 88 rfl (by rfl) 29 _ rfl (w.heap.size + 1) 0 rfl [.int .i64 pa, .int .i64 pb, .int .i64 pc, .int .i64 pd] d29 (fun w0 hw0 => ?m88) hu29 hd29 inf29 ?_
            case m88 => (obtain ⟨kz, rfl⟩ := hw0; exact range_all ((kz.kp.block _ hlp).trans HPb.out))
            (try simp only [Act.put, List.setIfInBounds_toArray, List.set_cons_zero, List.set_cons_succ])
            refine pure_end ?_
            (try dsimp only)
            intro kz
            refine keep_call (by rfl) 11 #[.slice uo RL.length uc, .int .i64 port, .agg (pkA (pa, pb, pc, pd))] ?hc1 ?_
            case hc1 => (go_simp; try rfl)
            refine (run11_c BU _ RL port (pa, pb, pc, pd) kz.val (HRU3.out.kept kz.kp) HRK.out HPR.out).mono ?_
            rintro e w6 ⟨v6, rfl, hown6, hb6⟩
            rw [HO1.out] at hown6
            have HK6 := Lib.hid (kz.kp.trans (hb6.mono kz.kp.size))
            refine ⟨_, rfl, ⟨⟨w6, HK6.out⟩, rfl⟩, ?_⟩
            have HW6 := Lib.hid hown6
            clear hown6 hb6
            (try simp only [Act.put, List.setIfInBounds_toArray])
            refine keep_call (by rfl) 12 #[.slice ro rows.length rc, .int .i64 j] ?hc2 ?_
            case hc2 => (go_simp; try rfl)
            refine (route12_c _ rows j w6 ((((HR.out.kept HB5.out).kept HBb.out)).kept HK6.out) hjr hrl12).mono ?_
            rintro e w7 ⟨v7, rfl, hru7, hb7⟩
            have HK7 := Lib.hid (HK6.out.trans (hb7.mono HK6.out.size))
            refine ⟨_, rfl, ⟨⟨w7, HK7.out⟩, rfl⟩, ?_⟩
            have HW7 := Lib.hid (own_kept HW6.out hb7)
            have HR7 := Lib.hid hru7
            clear hru7 hb7 HW6 HK6
            (try simp only [Act.put])
            refine keep_call (by rfl) 11 #[v7, .int .i64 port, .agg (pkA (pa, pb, pc, pd))] ?hc3 ?_
            case hc3 => (go_simp; try rfl)
            refine (run11_c _ v7 _ port (pa, pb, pc, pd) w7 HR7.out HRK2.out HPR.out).mono ?_
            rintro e w8 ⟨v8, rfl, hown8, hb8⟩
            rw [HO2.out] at hown8
            have HK8 := Lib.hid (HK7.out.trans (hb8.mono HK7.out.size))
            refine ⟨_, rfl, ⟨⟨w8, HK8.out⟩, rfl⟩, ?_⟩
            have HW8 := Lib.hid (own_kept HW7.out hb8)
            have HX8 := Lib.hid hown8
            clear hown8 hb8 HW7 HK7 HR7
            (try simp only [Act.put])
            refine keep_call (by rfl) 10 #[v6, v8] ?hc4 ?_
            case hc4 => (go_simp; try rfl)
            refine (sent10_c _ _ v6 v8 fa w8 HW8.out HX8.out HFL.out).mono ?_
            rintro e w9 ⟨rfl, hb9⟩
            have HK9 := Lib.hid (HK8.out.trans (hb9.mono HK8.out.size))
            refine ⟨_, rfl, ⟨⟨w9, HK9.out⟩, rfl⟩, ?_⟩
            have HB9 := Lib.hid (HBb.out.trans (HK9.out.mono HBb.out.size))
            clear hb9 HK8 HK9 HW8 HX8
            show wpList _ _ _ _ _ _
            go_wp2_with fail
            refine NoPanic.normal ?_
            go_wp2_with fail
            go_roundw
            case rel => exact ⟨j + 1, by go_num, hlj, HB9⟩
            case measure => simp [intOf]; omega
          · obtain rfl : j = m := by omega
            have hd : decide ((j : Int) < (j : Int)) = false := by simp
            have HBx := Lib.hid (HB5.out.trans (HBr.out.mono HB5.out.size))
            clear HBr
            go_wp2_with fail
            refine (compiles_c _).mono ?_
            rintro e w9 ⟨rfl, hb9⟩
            have HB9 := Lib.hid (HBx.out.trans (hb9.mono HBx.out.size))
            clear hb9
            go_wp2_with fail
            go_ret
            exact ⟨rfl, HB9.out⟩
end Go.Proofs.YtekfkieimdgfkaaGreat
