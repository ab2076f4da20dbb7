/- What is proved here: the rules of a route. Condition: they ask the number in dst. -/
import Derived.Test.YtekfkieimdgfkaaGreatT28
namespace Go.Proofs.YtekfkieimdgfkaaGreat
open Go Go.RowKit
attribute [local go_sem] KW.cell KW.frozen
abbrev zero70 : Array Value := #[.int .i64 0, .int .i64 0, .int .i64 0, .int .i64 0, .int .i64 0, .int .i64 0, .int .i64 0, .int .i64 0, .int .i64 0, .int .i64 0, .slice none 0 0]
theorem ret70 {fn : Func} {p : Tmp} (h : fn.results = #[.cell p 70]) {R : Ending → World → Prop} {a : Act} {w : World} {g : Nat} {cs : Array Value} {t : TypeId} (hd : a.defers = []) (hp : a.tmps.getD p undef = .pointer (some ⟨g, 0, none⟩))
    (hg : w.heap[g]? = some (.cells cs t (0, 0))) (hs : cs.size = 11) (hR : R (.returned (.agg cs)) w) : bodyPost Tryz.prog fn R .ret a w := by
  obtain ⟨fs, hu⟩ := und70
  exact bodyPost_ret (results_row1 h a.tmps w g cs _ hp t hg hu rfl (by rw [hs]; exact inf70)) hd hR
set_option maxRecDepth 100000 in
set_option maxHeartbeats 8000000 in
theorem of71_c (x : Int) (w : World) (hx0 : 0 ≤ x) (hx1 : x ≤ 255) : Ret 71 #[.int .i64 1, .int .i64 x] (.agg (mtA (dstM x))) w := by
  have HB := Lib.hid (grow1 w (.cells zero67 67))
  have HR := Lib.hid (heap_alloc_new w (.cells zero67 67))
  have hd0 : decide ((0 : Int) ≤ x) = true := by simpa using hx0
  have hd1 : decide (x ≤ (255 : Int)) = true := by simpa using hx1
  have ht : topF 1 = 255 := rfl
  unfold Ret
  go_enter Tryz.func71, Tryz.ntmps71
  go_wp2_with fail
  refine (any_c _).mono ?_
  rintro e w1 ⟨rfl, hb1⟩
  have HB1 := Lib.hid (HB.out.trans (hb1.mono HB.out.size))
  have HR1 := Lib.hid ((hb1.block _ (block_lt HR.out)).trans HR.out)
  have hs1 := block_lt HR1.out
  clear hb1 HB HR
  go_wp2_with (refine stop_store 67 _ _ rfl ?_)
  refine Stop.go (abs_list ?_)
  intro w2 e2
  have HB2 : Hid (Below w.heap.size w w2) := by rw [e2]; exact Lib.hid (HB1.out.alloc HB1.out.size _)
  have HR2 : Hid (w2.heap[w.heap.size]? = some (.cells zero67 67 (0, 0))) := by rw [e2]; exact Lib.hid ((Below.heap_alloc _ _ _ (block_lt HR1.out)).trans HR1.out)
  have HM2 : Hid (w2.heap[w1.heap.size]? = some (.cells zero67 67 (0, 0))) := by rw [e2]; exact Lib.hid (heap_alloc_new w1 _)
  clear e2 HB1 HR1
  obtain ⟨m, hm⟩ : ∃ m, m = w1.heap.size := ⟨_, rfl⟩
  rw [← hm] at HM2 hs1 ⊢
  clear hm
  refine wpList_store_o rfl 67 _ _ rfl m (mtA anyM) rfl rfl 67 _ HM2.out inf67 rfl rfl ?_
  intro w3 hg3 ho3
  have HB3 := Lib.hid (ho3.belowT HB2.out (by omega))
  have HR3 := Lib.hid ((ho3.block w.heap.size (by omega)).trans HR2.out)
  have HM3 := Lib.hid hg3
  clear hg3 ho3 HB2 HR2 HM2
  have ht2 : decide (x ≤ topF 1) = true := by rw [ht]; exact hd1
  go_upto_region 3 with (first | (go_at_call 69; refine (top69_c 1 _ (by decide)).mono ?_; rintro e w5 ⟨rfl, rfl⟩) | fail)
  refine abs_wp ?_
  intro wb hwb
  have HBb : Hid (Below w.heap.size w wb) := by rw [hwb]; exact HB3
  have HRb : Hid (wb.heap[w.heap.size]? = some (.cells zero67 67 (0, 0))) := by rw [hwb]; exact HR3
  have HMb : Hid (wb.heap[m]? = some (.cells (mtA anyM) 67 (0, 0))) := by rw [hwb]; exact HM3
  clear hwb HB3 HR3 HM3
  refine wp_region_pick [0, 1, 2, 3, 5, 6, 8] [] [4] [7, 9, 10] [7, 9, 10] (by kernel_rfl) (by kernel_rfl) (by kernel_rfl) ?_
  refine pure_takeD 23 rfl (by rfl) ?v0 ?h0 ?r0
  case h0 => (intro w0 _; go_simp; try (with_reducible rfl))
  (try simp only [Act.put, List.setIfInBounds_toArray, List.set_cons_zero, List.set_cons_succ])
  refine pure_takeD 24 rfl (by rfl) ?v1 ?h1 ?r1
  case h1 => (intro w0 _; go_simp; try (with_reducible rfl))
  (try simp only [Act.put, List.setIfInBounds_toArray, List.set_cons_zero, List.set_cons_succ])
  refine pure_takeD 25 rfl (by rfl) ?v2 ?h2 ?r2
  case h2 => (intro w0 _; go_simp; try (with_reducible rfl))
  (try simp only [Act.put, List.setIfInBounds_toArray, List.set_cons_zero, List.set_cons_succ])
  refine pure_takeD 26 rfl (by rfl) ?v3 ?h3 ?r3
  case h3 => (intro w0 _; go_simp; try (with_reducible rfl))
  (try simp only [Act.put, List.setIfInBounds_toArray, List.set_cons_zero, List.set_cons_succ])
  refine pure_takeD 28 rfl (by rfl) ?v4 ?h4 ?r4
  case h4 => (intro w0 _; go_simp; try (with_reducible rfl))
  (try simp only [Act.put, List.setIfInBounds_toArray, List.set_cons_zero, List.set_cons_succ])
  refine pure_takeD 29 rfl (by rfl) ?v5 ?h5 ?r5
  case h5 => (intro w0 _; go_simp; try (with_reducible rfl))
  (try simp only [Act.put, List.setIfInBounds_toArray, List.set_cons_zero, List.set_cons_succ])
  refine pure_takeD 30 rfl (by rfl) ?v6 ?h6 ?r6
  case h6 => (intro w0 _; go_simp; try (with_reducible rfl))
  (try simp only [Act.put, List.setIfInBounds_toArray, List.set_cons_zero, List.set_cons_succ])
  refine pure_end ?_
  (try dsimp only)
  refine pure_end ?_
  (try dsimp only)
  intro kz
  refine keep_call (by rfl) 69 #[.int .i64 1] ?hc ?_
  case hc => (go_simp; try rfl)
  refine (top69_c 1 _ (by decide)).mono ?_
  rintro e w5 ⟨rfl, rfl⟩
  refine ⟨_, rfl, ⟨kz, rfl⟩, ?_⟩
  have HB5 := Lib.hid (HBb.out.trans (kz.kp.mono HBb.out.size))
  have HR5 := Lib.hid ((kz.kp.block _ (block_lt HRb.out)).trans HRb.out)
  have HM5 := Lib.hid ((kz.kp.block _ (block_lt HMb.out)).trans HMb.out)
  obtain ⟨w5, hw5⟩ : ∃ w5, w5 = kz.val := ⟨_, rfl⟩
  rw [← hw5] at HB5 HR5 HM5 ⊢
  clear hw5 HBb HRb HMb
  have hlm := block_lt HM5.out
  have c2 := block_cell HM5.out 2
  have c6 := block_cell HM5.out 6
  have f2 := block_free HM5.out 2
  have f6 := block_free HM5.out 6
  simp only [mtA, List.getElem?_toArray, List.getElem?_cons_zero, List.getElem?_cons_succ] at c2 c6
  show wpList _ _ _ _ _ _
  rw [ht]
  clear ht ht2
  go_wp2_with fail
  refine NoPanic.normal ?_
  have HM6 : Hid (((w5.setCell ⟨m, 2, none⟩ (.int .i64 x)).setCell ⟨m, 6, none⟩ (.int .i64 255)).heap[m]? = some (.cells (mtA (dstM x)) 67 (0, 0))) := Lib.hid (heap_setCell_same _ m 6 _ 67 (.int .i64 255) (heap_setCell_same w5 m 2 _ 67 (.int .i64 x) HM5.out))
  have HR6 : Hid (((w5.setCell ⟨m, 2, none⟩ (.int .i64 x)).setCell ⟨m, 6, none⟩ (.int .i64 255)).heap[w.heap.size]? = some (.cells zero67 67 (0, 0))) := Lib.hid ((heap_setCell_other _ _ _ _ (by dsimp only; omega)).trans ((heap_setCell_other _ _ _ _ (by dsimp only; omega)).trans HR5.out))
  have HB6 : Hid (Below w.heap.size w ((w5.setCell ⟨m, 2, none⟩ (.int .i64 x)).setCell ⟨m, 6, none⟩ (.int .i64 255))) := Lib.hid ((HB5.out.setCell (p := ⟨m, 2, none⟩) (by dsimp only; omega) _).setCell (p := ⟨m, 6, none⟩) (by dsimp only; omega) _)
  clear HM5 HR5 HB5 c2 c6 f2 f6
  go_wp2_with (refine stop_load 67 _ rfl ?_)
  obtain ⟨f67, hu67⟩ := und67
  refine Stop.go (wpList_load_row rfl 67 _ rfl m rfl 67 _ (0, 0) _ HM6.out hu67 rfl inf67 ?_)
  clear hu67
  refine wpList_store_o rfl 67 _ _ rfl w.heap.size (mtA (dstM x)) rfl rfl 67 _ HR6.out inf67 rfl rfl ?_
  intro w8 hg8 ho8
  have HB8 := Lib.hid (ho8.belowT HB6.out (Nat.le_refl _))
  have HG8 := Lib.hid hg8
  clear hg8 ho8 HB6 HR6 HM6
  go_wp2_with fail
  exact ret67 Tryz.results71 rfl rfl HG8.out rfl ⟨rfl, HB8.out⟩
set_option maxRecDepth 100000 in
set_option maxHeartbeats 8000000 in
theorem drop43_c (x pr : Int) (w : World) (hx0 : 0 ≤ x) (hx1 : x ≤ 255) : Ret 43 #[.int .i64 1, .int .i64 x, .int .i64 pr] (.agg (ruA ((pr, dstM x), .slice none 0 0))) w := by
  have HB := Lib.hid (grow1 w (.cells zero70 70))
  have HR := Lib.hid (heap_alloc_new w (.cells zero70 70))
  have X := Lib.hid (fun w => of71_c x w hx0 hx1)
  unfold Ret at X ⊢
  simp only [mtA] at X
  go_enter Tryz.func43, Tryz.ntmps43
  go_wp2_with fail
  refine (X.out _).mono ?_
  rintro e w1 ⟨rfl, hb1⟩
  have HB1 := Lib.hid (HB.out.trans (hb1.mono HB.out.size))
  have HR1 := Lib.hid ((hb1.block _ (block_lt HR.out)).trans HR.out)
  clear hb1 HB HR X
  go_wp2_with (refine stop_store 70 _ _ rfl ?_)
  refine Stop.go (wpList_store_o rfl 70 _ _ rfl w.heap.size (ruA ((pr, dstM x), .slice none 0 0)) rfl rfl 70 _ HR1.out inf70 rfl rfl ?_)
  intro w2 hg2 ho2
  have HB2 := Lib.hid (ho2.belowT HB1.out (Nat.le_refl _))
  have HG2 := Lib.hid hg2
  clear hg2 ho2 HB1 HR1
  go_wp2_with fail
  exact ret70 Tryz.results43 rfl rfl HG2.out rfl ⟨rfl, HB2.out⟩
set_option maxRecDepth 100000 in
set_option maxHeartbeats 8000000 in
theorem plain22_c (x pr q : Int) (w : World) (hx0 : 0 ≤ x) (hx1 : x ≤ 255) :
    Calls Tryz.prog 22 #[.int .i64 1, .int .i64 x, .int .i64 pr, .int .i64 q] w fun e w' => ∃ u, e = .returned (.agg (ruA ((pr, dstM x), u))) ∧ w'.ownsRow w.heap.size 97 3 u 1 (acE (2, 0, q)) ∧ Below w.heap.size w w' := by
  have HB := Lib.hid (grow1 w (.cells zero70 70))
  have HR := Lib.hid (heap_alloc_new w (.cells zero70 70))
  have X := Lib.hid (fun w => drop43_c x pr w hx0 hx1)
  unfold Ret at X
  go_enter Tryz.func22, Tryz.ntmps22
  go_wp2_with fail
  refine (X.out _).mono ?_
  rintro e w1 ⟨rfl, hb1⟩
  have HB1 := Lib.hid (HB.out.trans (hb1.mono HB.out.size))
  have HR1 := Lib.hid ((hb1.block _ (block_lt HR.out)).trans HR.out)
  have hs1 := block_lt HR1.out
  clear hb1 HB HR X
  go_wp2_with (refine stop_store 70 _ _ rfl ?_)
  refine Stop.go (abs_list ?_)
  intro w2 e2
  have HB2 : Hid (Below w.heap.size w w2) := by rw [e2]; exact Lib.hid (HB1.out.alloc HB1.out.size _)
  have HR2 : Hid (w2.heap[w.heap.size]? = some (.cells zero70 70 (0, 0))) := by rw [e2]; exact Lib.hid ((Below.heap_alloc _ _ _ (block_lt HR1.out)).trans HR1.out)
  have HM2 : Hid (w2.heap[w1.heap.size]? = some (.cells zero70 70 (0, 0))) := by rw [e2]; exact Lib.hid (heap_alloc_new w1 _)
  clear e2 HB1 HR1
  obtain ⟨m, hm⟩ : ∃ m, m = w1.heap.size := ⟨_, rfl⟩
  rw [← hm] at HM2 hs1 ⊢
  clear hm
  refine wpList_store_o rfl 70 _ _ rfl m (ruA ((pr, dstM x), .slice none 0 0)) rfl rfl 70 _ HM2.out inf70 rfl rfl ?_
  intro w3 hg3 ho3
  have HB3 := Lib.hid (ho3.belowT HB2.out (by omega))
  have HR3 := Lib.hid ((ho3.block w.heap.size (by omega)).trans HR2.out)
  have HM3 := Lib.hid hg3
  clear hg3 ho3 HB2 HR2 HM2
  have hlm := block_lt HM3.out
  have c10 := block_cell HM3.out 10
  have f10 := block_free HM3.out 10
  simp only [ruA, List.getElem?_toArray, List.getElem?_cons_zero, List.getElem?_cons_succ] at c10
  go_upto_region 3 with fail
  refine abs_wp ?_
  intro wb hwb
  have HMb : Hid (wb.heap[m]? = some (.cells (ruA ((pr, dstM x), .slice (some ⟨w3.heap.size, 0, none⟩) 1 1)) 70 (0, 0))) := by
    rw [hwb]
    exact Lib.hid ((Below.heap_alloc _ _ _ (by simpa using hlm)).trans (heap_setCell_same w3 m 10 _ 70 _ HM3.out))
  have HRb : Hid (wb.heap[w.heap.size]? = some (.cells zero70 70 (0, 0))) := by
    rw [hwb]
    exact Lib.hid ((Below.heap_alloc _ _ _ (by simpa using block_lt HR3.out)).trans ((heap_setCell_other _ _ _ _ (by dsimp only; omega)).trans HR3.out))
  have HAb : Hid (wb.heap[w3.heap.size]? = some (.cells (acE (2, 0, q)).toArray 97 (0, 0))) := by
    rw [hwb]
    have := heap_alloc_new (w3.setCell ⟨m, 10, none⟩ (.slice (some ⟨w3.heap.size, 0, none⟩) 1 1)) (.cells #[.int .i64 2, .int .i64 0, .int .i64 q] 97)
    rw [show (w3.setCell ⟨m, 10, none⟩ (.slice (some ⟨w3.heap.size, 0, none⟩) 1 1)).heap.size = w3.heap.size by simp] at this
    exact Lib.hid this
  have HBb : Hid (Below w.heap.size w wb) := by
    rw [hwb]
    have h0 := HB3.out.setCell (p := ⟨m, 10, none⟩) (by dsimp only; omega) (.slice (some ⟨w3.heap.size, 0, none⟩) 1 1)
    exact Lib.hid (h0.alloc h0.size _)
  have hs3 := HB3.out.size
  have hlr := block_lt HR3.out
  clear hwb HB3 HR3 HM3 c10 f10
  go_wp2_with (refine stop_load 70 _ rfl ?_)
  obtain ⟨f70, hu70⟩ := und70
  refine Stop.go (wpList_load_row rfl 70 _ rfl m rfl 70 _ (0, 0) _ HMb.out hu70 rfl inf70 ?_)
  clear hu70
  refine wpList_store_o rfl 70 _ _ rfl w.heap.size (ruA ((pr, dstM x), .slice (some ⟨w3.heap.size, 0, none⟩) 1 1)) rfl rfl 70 _ HRb.out inf70 rfl rfl ?_
  intro w8 hg8 ho8
  have HB8 := Lib.hid (ho8.belowT HBb.out (Nat.le_refl _))
  have HG8 := Lib.hid hg8
  have HA8 := Lib.hid ((ho8.block w3.heap.size (by omega)).trans HAb.out)
  clear hg8 ho8 HBb HRb HMb HAb
  go_wp2_with fail
  exact ret70 Tryz.results22 rfl rfl HG8.out rfl ⟨_, rfl, ⟨rfl, .inr ⟨w3.heap.size, 1, _, rfl, hs3, HA8.out, Nat.le_refl _, by decide, rfl, rfl⟩⟩, HB8.out⟩
/-! The table of a switch's routes. -/
def routeF : Nat → List Int → List Ru
  | _, [] => []
  | h, q :: r => ((10, dstM h), [(2, 0, q)]) :: routeF (h + 1) r
theorem route_len : ∀ (r : List Int) (h : Nat), (routeF h r).length = r.length
  | [], _ => rfl
  | q :: r, h => by simp [routeF, route_len r]
theorem route_get : ∀ (r : List Int) (h j : Nat) (hj : j < r.length) (h2 : j < (routeF h r).length), (routeF h r)[j] = ((10, dstM ((h + j : Nat) : Int)), [(2, 0, r[j])])
  | [], _, _, hj, _ => by cases hj
  | q :: r, h, 0, _, _ => by simp [routeF]
  | q :: r, h, j + 1, hj, h2 => by
    have := route_get r (h + 1) j (by simpa using hj) (by rw [route_len]; simpa using hj)
    simp only [routeF, List.getElem_cons_succ, this]
    rw [show h + 1 + j = h + (j + 1) by omega]
set_option maxRecDepth 100000 in
set_option maxHeartbeats 8000000 in
theorem route12_c (rv : Value) (rows : List (List Int)) (i : Nat) (w : World) (hr : RdW rv rows w) (hi : i < rows.length) (hl : rows[i].length ≤ 12) :
    Calls Tryz.prog 12 #[rv, .int .i64 i] w fun e w' => ∃ v, e = .returned v ∧ RdU w.heap.size v (routeF 0 rows[i]) w' ∧ Below w.heap.size w w' := by
  obtain ⟨ro, rc, rfl, hc1, hc2⟩ := hr.form
  obtain ⟨a, so, sc, rfl, ha, hca, hrow⟩ := hr.at_ i hi
  have HROW := Lib.hid hrow
  obtain ⟨row, hrw⟩ : ∃ r, r = rows[i] := ⟨_, rfl⟩
  rw [← hrw] at hca HROW hl ⊢
  obtain ⟨RL, hRL⟩ : ∃ R, R = routeF 0 row := ⟨_, rfl⟩
  have HRL := Lib.hid hRL
  rw [← hRL]
  have HRN := Lib.hid (show RL.length = row.length by rw [hRL]; exact route_len row 0)
  have hd0 : decide ((i : Int) < 0) = false := by simp
  have hd1 : decide ((rows.length : Int) ≤ (i : Int)) = false := by simp; omega
  have hd2 : decide (rows.length ≤ i) = false := by simp; omega
  have hd3 : ¬ rows.length ≤ i := by omega
  have hi2 : (i : Int) < (rows.length : Int) := by omega
  clear hr hrow hrw hRL
  go_enter Tryz.func12, Tryz.ntmps12
  go_wp2_with fail
  go_loopw [21, 5] (fun i o wr => ∃ j : Nat, i = .int .i64 j ∧ j ≤ row.length ∧ Hid (RdU w.heap.size o (RL.take j) wr) ∧ Hid (Below w.heap.size w wr)) (fun i _ _ => row.length - (intOf i).toNat)
  case atStart => exact ⟨0, rfl, Nat.zero_le _, Lib.hid (RdU.nil _ _), Lib.hid (Below.refl _ _)⟩
  case round =>
    obtain ⟨j, rfl, hj, HA, HBr⟩ := hrel
    have hsr := HBr.out.size
    by_cases hlt : j < row.length
    · have hd : decide ((j : Int) < (row.length : Int)) = true := by simp; omega
      have hj2 : (j : Int) < (row.length : Int) := by omega
      obtain ⟨b, rfl, hb1, hb2⟩ := int_at (HROW.out.kept HBr.out) j hlt
      have HRG := Lib.hid (show RL.take (j + 1) = RL.take j ++ [((10, dstM (j : Int)), [(2, 0, row[j])])] by
        have hjr : j < RL.length := by rw [HRN.out]; exact hlt
        rw [List.take_succ_eq_append_getElem hjr]
        congr 2
        have h3 : j < (routeF 0 row).length := by rw [← HRL.out]; exact hjr
        have h4 := route_get row 0 j hlt h3
        rw [Nat.zero_add] at h4
        rw [← h4]
        congr 1
        try exact HRL.out)
      obtain ⟨q, hq⟩ : ∃ q, q = row[j] := ⟨_, rfl⟩
      rw [← hq] at hb2 HRG
      clear hq
      go_wp2_with fail
      refine (plain22_c (j : Int) 10 q wr (by omega) (by omega)).mono ?_
      rintro e w6 ⟨u6, rfl, hown6, hb6⟩
      obtain ⟨ao, ac, rfl, _, _⟩ := own_form hown6
      have HB6 := Lib.hid (HBr.out.trans (hb6.mono hsr))
      have HO6 := Lib.hid (own_mono (B' := w.heap.size) hown6 hsr)
      have HA6 := Lib.hid (HA.out.kept hb6)
      clear hown6 hb6 HBr HA
      simp only [ruA]
      go_wp2_with (first | (at_builtin; refine stop_list ?_) | fail)
      refine Stop.go (push_rule rfl (.tmp 26) (.tmp 30) rfl w.heap.size u5 (RL.take j) ((10, dstM (j : Int)), [(2, 0, q)]) (.slice ao 1 ac) w6.heap.size rfl rfl (HA6.out.kept (grow1 _ _)) (heap_alloc_new _ _) (own_kept HO6.out (grow1 _ _)) (HB6.out.alloc HB6.out.size _).size (by rw [List.length_take]; omega) ?_)
      intro v8 w8 hr8 hb8 h18
      have HR8 := Lib.hid hr8
      have HB8 := Lib.hid (hb8 _ (HB6.out.alloc HB6.out.size _))
      clear hr8 hb8 HB6 HA6 HO6
      go_wp2_with fail
      go_roundw
      case rel => exact ⟨j + 1, by go_num, hlt, by rw [HRG.out]; exact HR8, HB8⟩
      case measure => simp [intOf]; omega
    · obtain rfl : j = row.length := by omega
      have hd : decide ((row.length : Int) < (row.length : Int)) = false := by simp
      have HE := Lib.hid (show RL.take row.length = RL by rw [← HRN.out, List.take_length])
      rw [HE.out] at HA
      go_wp2_with fail
      go_ret
      exact ⟨_, rfl, HA.out, HBr.out⟩
end Go.Proofs.YtekfkieimdgfkaaGreat
/- What is proved here: the same packets are sent. Condition: none, or one. -/
namespace Go.Proofs.YtekfkieimdgfkaaGreat
open Go Go.RowKit
attribute [local go_sem] KW.cell KW.frozen
set_option maxRecDepth 100000 in
set_option maxHeartbeats 2000000 in
theorem sent10_nil (o1 o2 : Option Addr) (c1 c2 : Nat) (w : World) : Ret 10 #[.slice o1 0 c1, .slice o2 0 c2] (.bool true) w := by
  unfold Ret
  go_enter Tryz.func10, Tryz.ntmps10
  go_wp2_with fail
  go_loopw [5] (fun i wr => i = .int .i64 0 ∧ wr = w) (fun _ _ => 0)
  case atStart => exact ⟨rfl, rfl⟩
  case round =>
    obtain ⟨rfl, rfl⟩ := hrel
    go_wp2_with fail
    go_ret
    exact ⟨rfl, Below.refl _ _⟩
set_option maxRecDepth 100000 in
set_option maxHeartbeats 2000000 in
theorem sent10_one (g1 g2 c1 c2 : Nat) (s : Sn) (w : World) (h1 : g1 < w.heap.size) (h2 : g2 < w.heap.size) (hr1 : w.rangeAt g1 0 (stE s)) (hr2 : w.rangeAt g2 0 (stE s)) :
    Ret 10 #[.slice (some ⟨g1, 0, none⟩) 1 c1, .slice (some ⟨g2, 0, none⟩) 1 c2] (.bool true) w := by
  unfold Ret
  have H1 := Lib.hid hr1
  have H2 := Lib.hid hr2
  clear hr1 hr2
  obtain ⟨p, a, b, c, d⟩ := s
  have heq3 : ∀ w, (Op.equalIn 9999 3 (.int .i64 p) (.int .i64 p)).run Tryz.prog w = .ok true w := fun w => by
    have := eqint p p w 9998
    rw [beq_self_eq_true] at this
    exact this
  have heq29 : ∀ w, (Op.equalIn 9999 29 (.agg #[.int .i64 a, .int .i64 b, .int .i64 c, .int .i64 d]) (.agg #[.int .i64 a, .int .i64 b, .int .i64 c, .int .i64 d])).run Tryz.prog w = .ok true w := fun w => eq29_same (a, b, c, d) w 9997
  go_enter Tryz.func10, Tryz.ntmps10
  go_wp2_with fail
  go_loopw [5] (fun i wr => Hid (Below w.heap.size w wr) ∧ ((i = .int .i64 0 ∧ wr = w) ∨ i = .int .i64 1)) (fun i _ => 1 - (intOf i).toNat)
  case atStart => exact ⟨Lib.hid (Below.refl _ _), .inl ⟨rfl, rfl⟩⟩
  case round =>
    obtain ⟨HB, ⟨rfl, rfl⟩ | rfl⟩ := hrel
    · go_upto_region 6 with fail
      obtain ⟨f63, hu63⟩ := und63
      refine wp_region_pick [0, 1, 2, 4, 5, 6] [3, 7] [] [8] [8] (by kernel_rfl) (by kernel_rfl) (by kernel_rfl) ?_
      refine pure_takeD 17 rfl (by rfl) ?v0 ?h0 ?r0
      case h0 => (intro w0 _; go_simp; try (with_reducible rfl))
      (try simp only [Act.put, List.setIfInBounds_toArray, List.set_cons_zero, List.set_cons_succ])
      refine pure_takeD 18 rfl (by rfl) ?v1 ?h1 ?r1
      case h1 => (intro w0 _; go_simp; try (with_reducible rfl))
      (try simp only [Act.put, List.setIfInBounds_toArray, List.set_cons_zero, List.set_cons_succ])
      refine pure_takeD 19 rfl (by rfl) ?v2 ?h2 ?r2
      case h2 => (intro w0 _; go_simp; try (with_reducible rfl))
      (try simp only [Act.put, List.setIfInBounds_toArray, List.set_cons_zero, List.set_cons_succ])
      refine pure_takeD 21 rfl (by rfl) ?v3 ?h3 ?r3
      case h3 => (intro w0 _; go_simp; try (with_reducible rfl))
      (try simp only [Act.put, List.setIfInBounds_toArray, List.set_cons_zero, List.set_cons_succ])
      refine pure_takeD 22 rfl (by rfl) ?v4 ?h4 ?r4
      case h4 => (intro w0 _; go_simp; try (with_reducible rfl))
      (try simp only [Act.put, List.setIfInBounds_toArray, List.set_cons_zero, List.set_cons_succ])
      refine pure_takeD 23 rfl (by rfl) ?v5 ?h5 ?r5
      case h5 => (intro w0 _; go_simp; try (with_reducible rfl))
      (try simp only [Act.put, List.setIfInBounds_toArray, List.set_cons_zero, List.set_cons_succ])
      refine pure_end ?_
      (try dsimp only)
      refine pure_mid 20 rfl (by rfl) 63 _ rfl g1 0 rfl [.int .i64 p, .int .i64 a, .int .i64 b, .int .i64 c, .int .i64 d] (.struct f63) (fun w0 hw0 => ?m19) hu63 rfl inf63 ?_
      case m19 => (obtain ⟨kz, rfl⟩ := hw0; exact range_kept kz.kp h1 H1.out)
      (try simp only [Act.put, List.setIfInBounds_toArray, List.set_cons_zero, List.set_cons_succ])
      refine pure_mid 24 rfl (by rfl) 63 _ rfl g2 0 rfl [.int .i64 p, .int .i64 a, .int .i64 b, .int .i64 c, .int .i64 d] (.struct f63) (fun w0 hw0 => ?m23) hu63 rfl inf63 ?_
      case m23 => (obtain ⟨kz, rfl⟩ := hw0; exact range_kept kz.kp h2 H2.out)
      (try simp only [Act.put, List.setIfInBounds_toArray, List.set_cons_zero, List.set_cons_succ])
      refine pure_end ?_
      (try dsimp only)
      intro kz
      have HB2 := Lib.hid kz.kp
      clear hu63
      show wpList _ _ _ _ _ _
      go_wp2_with fail
      refine NoPanic.normal ?_
      go_wp2_with fail
      go_roundw
      case rel => exact ⟨HB2, .inr (by first | rfl | go_num)⟩
      case measure => first | omega | (simp [intOf]) | (simp [intOf]; omega)
    · go_wp2_with fail
      go_ret
      exact ⟨rfl, HB.out⟩
theorem sent10_c (B1 B2 : Nat) (v1 v2 : Value) (l : List Sn) (w : World) (h1 : w.ownsRow B1 63 5 v1 l.length (flatR stE l)) (h2 : w.ownsRow B2 63 5 v2 l.length (flatR stE l)) (hl : l.length ≤ 1) : Ret 10 #[v1, v2] (.bool true) w := by
  match l, hl with
  | [], _ =>
    obtain ⟨o1, c1, rfl, _, _⟩ := own_form h1
    obtain ⟨o2, c2, rfl, _, _⟩ := own_form h2
    exact sent10_nil _ _ _ _ w
  | [s], _ =>
    obtain ⟨g1, c1, rfl, _, hg1, hr1⟩ := own_one h1
    obtain ⟨g2, c2, rfl, _, hg2, hr2⟩ := own_one h2
    exact sent10_one g1 g2 c1 c2 s w hg1 hg2 hr1 hr2
end Go.Proofs.YtekfkieimdgfkaaGreat
