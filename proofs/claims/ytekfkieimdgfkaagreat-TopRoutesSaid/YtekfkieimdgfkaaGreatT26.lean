/- What is proved here: which match a case asks. Condition: nothing is known but the number in dst. -/
import Derived.Test.YtekfkieimdgfkaaGreatT25
namespace Go.Proofs.YtekfkieimdgfkaaGreat
open Go Go.RowKit
attribute [local go_sem] KW.cell KW.frozen
/-- A match: port, values, masks. -/
abbrev Mt := Int × Pk × Pk
def mtA (m : Mt) : Array Value := #[.int .i64 m.1, .int .i64 m.2.1.1, .int .i64 m.2.1.2.1, .int .i64 m.2.1.2.2.1, .int .i64 m.2.1.2.2.2, .int .i64 m.2.2.1, .int .i64 m.2.2.2.1, .int .i64 m.2.2.2.2.1, .int .i64 m.2.2.2.2.2]
abbrev zero67 : Array Value := #[.int .i64 0, .int .i64 0, .int .i64 0, .int .i64 0, .int .i64 0, .int .i64 0, .int .i64 0, .int .i64 0, .int .i64 0]
abbrev anyM : Mt := (-1, (0, 0, 0, 0), (0, 0, 0, 0))
abbrev dstM (x : Int) : Mt := (-1, (0, x, 0, 0), (0, 255, 0, 0))
theorem inf67 : (Tryz.prog.info? 67).map (·.size) = some 9 := by kernel_rfl
theorem und67 : ∃ fs, Tryz.prog.underlying 67 = some (.struct fs) := by
  have h : (match Tryz.prog.underlying 67 with | some (.struct _) => true | _ => false) = true := by kernel_rfl
  cases hu : Tryz.prog.underlying 67 with
  | none => rw [hu] at h; cases h
  | some d => cases d <;> (rw [hu] at h; first | exact ⟨_, rfl⟩ | cases h)
theorem ret67 {fn : Func} {p : Tmp} (h : fn.results = #[.cell p 67]) {R : Ending → World → Prop} {a : Act} {w : World} {g : Nat} {cs : Array Value} {t : TypeId} (hd : a.defers = []) (hp : a.tmps.getD p undef = .pointer (some ⟨g, 0, none⟩))
    (hg : w.heap[g]? = some (.cells cs t (0, 0))) (hs : cs.size = 9) (hR : R (.returned (.agg cs)) w) : bodyPost Tryz.prog fn R .ret a w := by
  obtain ⟨fs, hu⟩ := und67
  exact bodyPost_ret (results_row1 h a.tmps w g cs _ hp t hg hu rfl (by rw [hs]; exact inf67)) hd hR
set_option maxRecDepth 100000 in
set_option maxHeartbeats 4000000 in
theorem any_c (w : World) : Ret 68 #[] (.agg (mtA anyM)) w := by
  unfold Ret
  have HB0 := Lib.hid (grow1 w (.cells zero67 67))
  have HG0 := Lib.hid (heap_alloc_new w (.cells zero67 67))
  go_enter Tryz.func68, Tryz.ntmps68
  go_wp2_with (refine stop_store 67 _ _ rfl ?_)
  refine Stop.go (abs_list ?_)
  intro w1 e1
  have HB1 : Hid (Below w.heap.size w w1) := by rw [e1]; exact HB0
  have HG1 : Hid (w1.heap[w.heap.size]? = some (.cells zero67 67 (0, 0))) := by rw [e1]; exact HG0
  clear e1 HB0 HG0
  refine wpList_store_o rfl 67 _ _ rfl w.heap.size (mtA anyM) rfl rfl 67 _ HG1.out inf67 rfl rfl ?_
  intro w2 hg2 ho2
  have HB2 := Lib.hid (ho2.belowT HB1.out (Nat.le_refl _))
  have HG2 := Lib.hid hg2
  clear hg2 ho2 HB1 HG1
  go_wp2_with fail
  exact ret67 Tryz.results68 rfl rfl HG2.out rfl ⟨rfl, HB2.out⟩
set_option maxRecDepth 100000 in
set_option maxHeartbeats 8000000 in
theorem ask_any (oa : Option Addr) (on oc : Nat) (w : World) : Ret 38 #[csV (-1, -1, -1, -1, -1) (.slice oa on oc)] (.agg (mtA anyM)) w := by
  have HB : Hid (Below w.heap.size w ((w.alloc (.cells (csA (-1, -1, -1, -1, -1) (.slice oa on oc)) 89)).alloc (.cells zero67 67))) := Lib.hid (((Below.refl _ _).alloc (Nat.le_refl _) _).alloc (by simp) _)
  have HC : Hid (((w.alloc (.cells (csA (-1, -1, -1, -1, -1) (.slice oa on oc)) 89)).alloc (.cells zero67 67)).heap[w.heap.size]? = some (.cells (csA (-1, -1, -1, -1, -1) (.slice oa on oc)) 89 (0, 0))) :=
    Lib.hid ((Below.heap_alloc _ _ _ (by simp)).trans (heap_alloc_new w _))
  have HR : Hid (((w.alloc (.cells (csA (-1, -1, -1, -1, -1) (.slice oa on oc)) 89)).alloc (.cells zero67 67)).heap[w.heap.size + 1]? = some (.cells zero67 67 (0, 0))) := by
    have := heap_alloc_new (w.alloc (.cells (csA (-1, -1, -1, -1, -1) (.slice oa on oc)) 89)) (.cells zero67 67)
    exact Lib.hid (by simpa using this)
  unfold Ret csV
  simp only [csA] at HB HC HR ⊢
  go_enter Tryz.func38, Tryz.ntmps38
  go_wp2_with fail
  refine (any_c _).mono ?_
  rintro e w1 ⟨rfl, hb1⟩
  have hs1 := hb1.size
  have HB1 := Lib.hid (HB.out.trans (hb1.mono HB.out.size))
  have HC1 := Lib.hid ((hb1.block _ (block_lt HC.out)).trans HC.out)
  have HR1 := Lib.hid ((hb1.block _ (block_lt HR.out)).trans HR.out)
  have HS1 := Lib.hid (show w.heap.size + 1 + 1 ≤ w1.heap.size by simpa using hs1)
  clear hb1 HB HC HR hs1
  go_wp2_with (refine stop_store 67 _ _ rfl ?_)
  refine Stop.go (abs_list ?_)
  intro w2 e2
  have HB2 : Hid (Below w.heap.size w w2) := by rw [e2]; exact Lib.hid (HB1.out.alloc HB1.out.size _)
  have HC2 : Hid (w2.heap[w.heap.size]? = some (.cells (csA (-1, -1, -1, -1, -1) (.slice oa on oc)) 89 (0, 0))) := by rw [e2]; exact Lib.hid ((Below.heap_alloc _ _ _ (block_lt HC1.out)).trans HC1.out)
  have HR2 : Hid (w2.heap[w.heap.size + 1]? = some (.cells zero67 67 (0, 0))) := by rw [e2]; exact Lib.hid ((Below.heap_alloc _ _ _ (block_lt HR1.out)).trans HR1.out)
  have HM2 : Hid (w2.heap[w1.heap.size]? = some (.cells zero67 67 (0, 0))) := by rw [e2]; exact Lib.hid (heap_alloc_new w1 _)
  clear e2 HB1 HC1 HR1
  obtain ⟨m, hm⟩ : ∃ m, m = w1.heap.size := ⟨_, rfl⟩
  rw [← hm] at HM2 HS1 ⊢
  clear hm
  have hm2 := HS1.out
  refine wpList_store_o rfl 67 _ _ rfl m (mtA anyM) rfl rfl 67 _ HM2.out inf67 rfl rfl ?_
  intro w3 hg3 ho3
  have HB3 := Lib.hid (ho3.belowT HB2.out (by omega))
  have HC3 := Lib.hid ((ho3.block w.heap.size (by omega)).trans HC2.out)
  have HR3 := Lib.hid ((ho3.block (w.heap.size + 1) (by omega)).trans HR2.out)
  have HM3 := Lib.hid hg3
  clear hg3 ho3 HB2 HC2 HR2 HM2
  have hlc := block_lt HC3.out
  have c0 := block_cell HC3.out 0
  simp only [csA, List.getElem?_toArray, List.getElem?_cons_zero] at c0
  go_wp2_with fail
  clear c0 hlc
  go_loopw [13] (fun i wr => (i = .int .i64 0 ∨ i = .int .i64 1 ∨ i = .int .i64 2 ∨ i = .int .i64 3 ∨ i = .int .i64 4) ∧ Hid (wr.heap[w.heap.size]? = some (.cells (csA (-1, -1, -1, -1, -1) (.slice oa on oc)) 89 (0, 0))) ∧ Hid (wr.heap[w.heap.size + 1]? = some (.cells zero67 67 (0, 0))) ∧ Hid (Below w.heap.size w wr) ∧ Hid (wr.heap[m]? = some (.cells (mtA anyM) 67 (0, 0)))) (fun i _ => 4 - (intOf i).toNat)
  case atStart => exact ⟨.inl rfl, HC3, HR3, HB3, HM3⟩
  case round =>
    obtain ⟨hi, HCr, HRr, HBr, HMr⟩ := hrel
    clear HC3 HR3 HB3 HM3
    rcases hi with rfl | rfl | rfl | rfl | rfl
    · have hlc := block_lt HCr.out
      have c1 := block_cell HCr.out 1
      simp only [csA, List.getElem?_toArray, List.getElem?_cons_zero, List.getElem?_cons_succ] at c1
      go_wp2_with fail
      go_roundw
      case rel => first | exact ⟨by simp, HCr, HRr, HBr, HMr⟩ | exact ⟨HCr, HRr, HBr, .inl ⟨by simp, HMr⟩⟩
      case measure => simp [intOf]
    · have hlc := block_lt HCr.out
      have c2 := block_cell HCr.out 2
      simp only [csA, List.getElem?_toArray, List.getElem?_cons_zero, List.getElem?_cons_succ] at c2
      go_wp2_with fail
      go_roundw
      case rel => first | exact ⟨by simp, HCr, HRr, HBr, HMr⟩ | exact ⟨HCr, HRr, HBr, .inr ⟨by simp, HMr⟩⟩
      case measure => simp [intOf]
    · have hlc := block_lt HCr.out
      have c3 := block_cell HCr.out 3
      simp only [csA, List.getElem?_toArray, List.getElem?_cons_zero, List.getElem?_cons_succ] at c3
      go_wp2_with fail
      go_roundw
      case rel => first | exact ⟨by simp, HCr, HRr, HBr, HMr⟩ | exact ⟨HCr, HRr, HBr, .inr ⟨by simp, HMr⟩⟩
      case measure => simp [intOf]
    · have hlc := block_lt HCr.out
      have c4 := block_cell HCr.out 4
      simp only [csA, List.getElem?_toArray, List.getElem?_cons_zero, List.getElem?_cons_succ] at c4
      go_wp2_with fail
      go_roundw
      case rel => first | exact ⟨by simp, HCr, HRr, HBr, HMr⟩ | exact ⟨HCr, HRr, HBr, .inr ⟨by simp, HMr⟩⟩
      case measure => simp [intOf]
    · have hlm := block_lt HMr.out
      have hlr := block_lt HRr.out
      go_wp2_with (refine stop_load 67 _ rfl ?_)
      obtain ⟨f67, hu67⟩ := und67
      refine Stop.go (wpList_load_row rfl 67 _ rfl m rfl 67 _ (0, 0) _ HMr.out hu67 rfl inf67 ?_)
      clear hu67
      refine wpList_store_o rfl 67 _ _ rfl (w.heap.size + 1) (mtA anyM) rfl rfl 67 _ HRr.out inf67 rfl rfl ?_
      intro w5 hg5 ho5
      have HB5 := Lib.hid (ho5.belowT HBr.out (by omega))
      have HG5 := Lib.hid hg5
      clear hg5 ho5 HBr HRr HMr
      go_wp2_with fail
      exact ret67 Tryz.results38 rfl rfl HG5.out rfl ⟨rfl, HB5.out⟩
set_option maxRecDepth 100000 in
set_option maxHeartbeats 8000000 in
theorem ask_dst (x : Int) (hx : 0 ≤ x) (oa : Option Addr) (on oc : Nat) (w : World) : Ret 38 #[csV (-1, -1, x, -1, -1) (.slice oa on oc)] (.agg (mtA (dstM x))) w := by
  have HB : Hid (Below w.heap.size w ((w.alloc (.cells (csA (-1, -1, x, -1, -1) (.slice oa on oc)) 89)).alloc (.cells zero67 67))) := Lib.hid (((Below.refl _ _).alloc (Nat.le_refl _) _).alloc (by simp) _)
  have HC : Hid (((w.alloc (.cells (csA (-1, -1, x, -1, -1) (.slice oa on oc)) 89)).alloc (.cells zero67 67)).heap[w.heap.size]? = some (.cells (csA (-1, -1, x, -1, -1) (.slice oa on oc)) 89 (0, 0))) :=
    Lib.hid ((Below.heap_alloc _ _ _ (by simp)).trans (heap_alloc_new w _))
  have HR : Hid (((w.alloc (.cells (csA (-1, -1, x, -1, -1) (.slice oa on oc)) 89)).alloc (.cells zero67 67)).heap[w.heap.size + 1]? = some (.cells zero67 67 (0, 0))) := by
    have := heap_alloc_new (w.alloc (.cells (csA (-1, -1, x, -1, -1) (.slice oa on oc)) 89)) (.cells zero67 67)
    exact Lib.hid (by simpa using this)
  unfold Ret csV
  simp only [csA] at HB HC HR ⊢
  go_enter Tryz.func38, Tryz.ntmps38
  go_wp2_with fail
  refine (any_c _).mono ?_
  rintro e w1 ⟨rfl, hb1⟩
  have hs1 := hb1.size
  have HB1 := Lib.hid (HB.out.trans (hb1.mono HB.out.size))
  have HC1 := Lib.hid ((hb1.block _ (block_lt HC.out)).trans HC.out)
  have HR1 := Lib.hid ((hb1.block _ (block_lt HR.out)).trans HR.out)
  have HS1 := Lib.hid (show w.heap.size + 1 + 1 ≤ w1.heap.size by simpa using hs1)
  clear hb1 HB HC HR hs1
  go_wp2_with (refine stop_store 67 _ _ rfl ?_)
  refine Stop.go (abs_list ?_)
  intro w2 e2
  have HB2 : Hid (Below w.heap.size w w2) := by rw [e2]; exact Lib.hid (HB1.out.alloc HB1.out.size _)
  have HC2 : Hid (w2.heap[w.heap.size]? = some (.cells (csA (-1, -1, x, -1, -1) (.slice oa on oc)) 89 (0, 0))) := by rw [e2]; exact Lib.hid ((Below.heap_alloc _ _ _ (block_lt HC1.out)).trans HC1.out)
  have HR2 : Hid (w2.heap[w.heap.size + 1]? = some (.cells zero67 67 (0, 0))) := by rw [e2]; exact Lib.hid ((Below.heap_alloc _ _ _ (block_lt HR1.out)).trans HR1.out)
  have HM2 : Hid (w2.heap[w1.heap.size]? = some (.cells zero67 67 (0, 0))) := by rw [e2]; exact Lib.hid (heap_alloc_new w1 _)
  clear e2 HB1 HC1 HR1
  obtain ⟨m, hm⟩ : ∃ m, m = w1.heap.size := ⟨_, rfl⟩
  rw [← hm] at HM2 HS1 ⊢
  clear hm
  have hm2 := HS1.out
  refine wpList_store_o rfl 67 _ _ rfl m (mtA anyM) rfl rfl 67 _ HM2.out inf67 rfl rfl ?_
  intro w3 hg3 ho3
  have HB3 := Lib.hid (ho3.belowT HB2.out (by omega))
  have HC3 := Lib.hid ((ho3.block w.heap.size (by omega)).trans HC2.out)
  have HR3 := Lib.hid ((ho3.block (w.heap.size + 1) (by omega)).trans HR2.out)
  have HM3 := Lib.hid hg3
  clear hg3 ho3 HB2 HC2 HR2 HM2
  have hlc := block_lt HC3.out
  have c0 := block_cell HC3.out 0
  simp only [csA, List.getElem?_toArray, List.getElem?_cons_zero] at c0
  go_wp2_with fail
  clear c0 hlc
  go_loopw [13] (fun i wr => Hid (wr.heap[w.heap.size]? = some (.cells (csA (-1, -1, x, -1, -1) (.slice oa on oc)) 89 (0, 0))) ∧ Hid (wr.heap[w.heap.size + 1]? = some (.cells zero67 67 (0, 0))) ∧ Hid (Below w.heap.size w wr) ∧ (((i = .int .i64 0 ∨ i = .int .i64 1) ∧ Hid (wr.heap[m]? = some (.cells (mtA anyM) 67 (0, 0)))) ∨ ((i = .int .i64 2 ∨ i = .int .i64 3 ∨ i = .int .i64 4) ∧ Hid (wr.heap[m]? = some (.cells (mtA (dstM x)) 67 (0, 0)))))) (fun i _ => 4 - (intOf i).toNat)
  case atStart => exact ⟨HC3, HR3, HB3, .inl ⟨.inl rfl, HM3⟩⟩
  case round =>
    obtain ⟨HCr, HRr, HBr, ⟨hi, HMr⟩ | ⟨hi, HMr⟩⟩ := hrel
    · clear HC3 HR3 HB3 HM3
      rcases hi with rfl | rfl
      · have hlc := block_lt HCr.out
        have c1 := block_cell HCr.out 1
        simp only [csA, List.getElem?_toArray, List.getElem?_cons_zero, List.getElem?_cons_succ] at c1
        go_wp2_with fail
        go_roundw
        case rel => first | exact ⟨by simp, HCr, HRr, HBr, HMr⟩ | exact ⟨HCr, HRr, HBr, .inl ⟨by simp, HMr⟩⟩
        case measure => simp [intOf]
      · have hlc := block_lt HCr.out
        have c2 := block_cell HCr.out 2
        simp only [csA, List.getElem?_toArray, List.getElem?_cons_zero, List.getElem?_cons_succ] at c2
        have hx0 : decide ((0 : Int) ≤ x) = true := by simpa using hx
        go_upto_region 9 with fail
        refine abs_wp ?_
        intro wb hwb
        have HBb : Hid (Below w.heap.size w wb) := by rw [hwb]; exact HBr
        have HCb : Hid (wb.heap[w.heap.size]? = some (.cells (csA (-1, -1, x, -1, -1) (.slice oa on oc)) 89 (0, 0))) := by rw [hwb]; exact HCr
        have HRb : Hid (wb.heap[w.heap.size + 1]? = some (.cells zero67 67 (0, 0))) := by rw [hwb]; exact HRr
        have HMb : Hid (wb.heap[m]? = some (.cells (mtA anyM) 67 (0, 0))) := by rw [hwb]; exact HMr
        clear hwb HBr HCr HRr HMr hlc c2
        refine wp_region_pick [0, 1, 2, 3, 5, 6, 8] [] [4] [7, 9, 10] [7, 9, 10] (by kernel_rfl) (by kernel_rfl) (by kernel_rfl) ?_
        refine pure_takeD 22 rfl (by rfl) ?v0 ?h0 ?r0
        case h0 => (intro w0 _; go_simp; try (with_reducible rfl))
        (try simp only [Act.put, List.setIfInBounds_toArray, List.set_cons_zero, List.set_cons_succ])
        refine pure_takeD 23 rfl (by rfl) ?v1 ?h1 ?r1
        case h1 => (intro w0 _; go_simp; try (with_reducible rfl))
        (try simp only [Act.put, List.setIfInBounds_toArray, List.set_cons_zero, List.set_cons_succ])
        refine pure_takeD 24 rfl (by rfl) ?v2 ?h2 ?r2
        case h2 => (intro w0 _; go_simp; try (with_reducible rfl))
        (try simp only [Act.put, List.setIfInBounds_toArray, List.set_cons_zero, List.set_cons_succ])
        refine pure_takeD 25 rfl (by rfl) ?v3 ?h3 ?r3
        case h3 => (intro w0 _; go_simp; try (with_reducible rfl))
        (try simp only [Act.put, List.setIfInBounds_toArray, List.set_cons_zero, List.set_cons_succ])
        refine pure_takeD 27 rfl (by rfl) ?v4 ?h4 ?r4
        case h4 => (intro w0 _; go_simp; try (with_reducible rfl))
        (try simp only [Act.put, List.setIfInBounds_toArray, List.set_cons_zero, List.set_cons_succ])
        refine pure_takeD 28 rfl (by rfl) ?v5 ?h5 ?r5
        case h5 => (intro w0 _; go_simp; try (with_reducible rfl))
        (try simp only [Act.put, List.setIfInBounds_toArray, List.set_cons_zero, List.set_cons_succ])
        refine pure_takeD 29 rfl (by rfl) ?v6 ?h6 ?r6
        case h6 => (intro w0 _; go_simp; try (with_reducible rfl))
        (try simp only [Act.put, List.setIfInBounds_toArray, List.set_cons_zero, List.set_cons_succ])
        refine pure_end ?_
        (try dsimp only)
        refine pure_end ?_
        (try dsimp only)
        intro kz
        refine keep_call (by rfl) 69 #[.int .i64 1] ?hc ?_
        case hc => (go_simp; try rfl)
        refine (top69_c 1 _ (by decide)).mono ?_
        rintro e w5 ⟨rfl, rfl⟩
        refine ⟨_, rfl, ⟨kz, rfl⟩, ?_⟩
        have HB5 := Lib.hid (HBb.out.trans (kz.kp.mono HBb.out.size))
        have HC5 := Lib.hid ((kz.kp.block _ (block_lt HCb.out)).trans HCb.out)
        have HR5 := Lib.hid ((kz.kp.block _ (block_lt HRb.out)).trans HRb.out)
        have HM5 := Lib.hid ((kz.kp.block _ (block_lt HMb.out)).trans HMb.out)
        obtain ⟨w5, hw5⟩ : ∃ w5, w5 = kz.val := ⟨_, rfl⟩
        rw [← hw5] at HB5 HC5 HR5 HM5 ⊢
        clear hw5 HBb HCb HRb HMb
        have hlm := block_lt HM5.out
        have c2 := block_cell HM5.out 2
        have c6 := block_cell HM5.out 6
        have f2 := block_free HM5.out 2
        have f6 := block_free HM5.out 6
        simp only [mtA, List.getElem?_toArray, List.getElem?_cons_zero, List.getElem?_cons_succ] at c2 c6
        have ht : topF 1 = 255 := rfl
        show wpList _ _ _ _ _ _
        rw [ht]
        clear ht
        go_wp2_with fail
        refine NoPanic.normal ?_
        have HM6 : Hid (((w5.setCell ⟨m, 2, none⟩ (.int .i64 x)).setCell ⟨m, 6, none⟩ (.int .i64 255)).heap[m]? = some (.cells (mtA (dstM x)) 67 (0, 0))) := Lib.hid (heap_setCell_same _ m 6 _ 67 (.int .i64 255) (heap_setCell_same w5 m 2 _ 67 (.int .i64 x) HM5.out))
        have HC6 : Hid (((w5.setCell ⟨m, 2, none⟩ (.int .i64 x)).setCell ⟨m, 6, none⟩ (.int .i64 255)).heap[w.heap.size]? = some (.cells (csA (-1, -1, x, -1, -1) (.slice oa on oc)) 89 (0, 0))) := Lib.hid ((heap_setCell_other _ _ _ _ (by dsimp only; omega)).trans ((heap_setCell_other _ _ _ _ (by dsimp only; omega)).trans HC5.out))
        have HR6 : Hid (((w5.setCell ⟨m, 2, none⟩ (.int .i64 x)).setCell ⟨m, 6, none⟩ (.int .i64 255)).heap[w.heap.size + 1]? = some (.cells zero67 67 (0, 0))) := Lib.hid ((heap_setCell_other _ _ _ _ (by dsimp only; omega)).trans ((heap_setCell_other _ _ _ _ (by dsimp only; omega)).trans HR5.out))
        have HB6 : Hid (Below w.heap.size w ((w5.setCell ⟨m, 2, none⟩ (.int .i64 x)).setCell ⟨m, 6, none⟩ (.int .i64 255))) := Lib.hid ((HB5.out.setCell (p := ⟨m, 2, none⟩) (by dsimp only; omega) _).setCell (p := ⟨m, 6, none⟩) (by dsimp only; omega) _)
        clear HM5 HC5 HR5 HB5 c2 c6 f2 f6
        go_wp2_with fail
        go_roundw
        case rel => exact ⟨HC6, HR6, HB6, .inr ⟨by simp, HM6⟩⟩
        case measure => simp [intOf]
    · clear HC3 HR3 HB3 HM3
      rcases hi with rfl | rfl | rfl
      · have hlc := block_lt HCr.out
        have c3 := block_cell HCr.out 3
        simp only [csA, List.getElem?_toArray, List.getElem?_cons_zero, List.getElem?_cons_succ] at c3
        go_wp2_with fail
        go_roundw
        case rel => first | exact ⟨by simp, HCr, HRr, HBr, HMr⟩ | exact ⟨HCr, HRr, HBr, .inr ⟨by simp, HMr⟩⟩
        case measure => simp [intOf]
      · have hlc := block_lt HCr.out
        have c4 := block_cell HCr.out 4
        simp only [csA, List.getElem?_toArray, List.getElem?_cons_zero, List.getElem?_cons_succ] at c4
        go_wp2_with fail
        go_roundw
        case rel => first | exact ⟨by simp, HCr, HRr, HBr, HMr⟩ | exact ⟨HCr, HRr, HBr, .inr ⟨by simp, HMr⟩⟩
        case measure => simp [intOf]
      · have hlm := block_lt HMr.out
        have hlr := block_lt HRr.out
        go_wp2_with (refine stop_load 67 _ rfl ?_)
        obtain ⟨f67, hu67⟩ := und67
        refine Stop.go (wpList_load_row rfl 67 _ rfl m rfl 67 _ (0, 0) _ HMr.out hu67 rfl inf67 ?_)
        clear hu67
        refine wpList_store_o rfl 67 _ _ rfl (w.heap.size + 1) (mtA (dstM x)) rfl rfl 67 _ HRr.out inf67 rfl rfl ?_
        intro w5 hg5 ho5
        have HB5 := Lib.hid (ho5.belowT HBr.out (by omega))
        have HG5 := Lib.hid hg5
        clear hg5 ho5 HBr HRr HMr
        go_wp2_with fail
        exact ret67 Tryz.results38 rfl rfl HG5.out rfl ⟨rfl, HB5.out⟩
end Go.Proofs.YtekfkieimdgfkaaGreat
/- What is proved here: rules in memory; the table of a policy at a switch. Condition: its cases are known, and each is simple; there is room. -/
namespace Go.Proofs.YtekfkieimdgfkaaGreat
open Go Go.RowKit
attribute [local go_sem] KW.cell KW.frozen
/-- A rule: priority, match, acts. -/
abbrev Ru := (Int × Mt) × List Ac
abbrev Ruv := (Int × Mt) × Value
def ruA (x : Ruv) : Array Value := #[.int .i64 x.1.1, .int .i64 x.1.2.1, .int .i64 x.1.2.2.1.1, .int .i64 x.1.2.2.1.2.1, .int .i64 x.1.2.2.1.2.2.1, .int .i64 x.1.2.2.1.2.2.2, .int .i64 x.1.2.2.2.1, .int .i64 x.1.2.2.2.2.1, .int .i64 x.1.2.2.2.2.2.1, .int .i64 x.1.2.2.2.2.2.2, x.2]
def ruE (x : Ruv) : List Value := (ruA x).toList
theorem ruE_len (x : Ruv) : (ruE x).length = 11 := rfl
theorem inf70 : (Tryz.prog.info? 70).map (·.size) = some 11 := by kernel_rfl
theorem und70 : ∃ fs, Tryz.prog.underlying 70 = some (.struct fs) := by
  have h : (match Tryz.prog.underlying 70 with | some (.struct _) => true | _ => false) = true := by kernel_rfl
  cases hu : Tryz.prog.underlying 70 with
  | none => rw [hu] at h; cases h
  | some d => cases d <;> (rw [hu] at h; first | exact ⟨_, rfl⟩ | cases h)
theorem el41 : Elem Tryz.prog 41 70 11 := elem_of (by kernel_rfl)
/-- The row v, of one's own from block B on, is these rules. -/
def RdU (B : Nat) (v : Value) (l : List Ru) (w : World) : Prop :=
  ∃ xs : List Ruv, xs.map Prod.fst = l.map Prod.fst ∧ w.ownsRow B 70 11 v l.length (flatR ruE xs) ∧ ∀ i (h : i < xs.length) (h' : i < l.length), w.ownsRow B 97 3 xs[i].2 l[i].2.length (flatR acE l[i].2)
theorem RdU.kept {B : Nat} {v : Value} {l : List Ru} {w w' : World} (h : RdU B v l w) (hb : Below w.heap.size w w') : RdU B v l w' := by
  obtain ⟨xs, h1, h2, h3⟩ := h
  exact ⟨xs, h1, own_kept h2 hb, fun i hi hj => own_kept (h3 i hi hj) hb⟩
theorem RdU.mono {B B' : Nat} {v : Value} {l : List Ru} {w : World} (h : RdU B v l w) (hB : B' ≤ B) : RdU B' v l w := by
  obtain ⟨xs, h1, h2, h3⟩ := h
  exact ⟨xs, h1, own_mono h2 hB, fun i hi hj => own_mono (h3 i hi hj) hB⟩
theorem RdU.nil (w : World) (B : Nat) : RdU B (.slice none 0 0) [] w := ⟨[], rfl, own_nil _ _ _ _, fun i hi => by cases hi⟩
theorem RdU.form {B : Nat} {v : Value} {l : List Ru} {w : World} (h : RdU B v l w) : ∃ ao c, v = .slice ao l.length c ∧ l.length ≤ c ∧ c ≤ maxLen := by
  obtain ⟨xs, _, h2, _⟩ := h
  exact own_form h2
theorem own97_grown {B B' n m : Nat} {v o : Value} {vs os : List Value} {w w' : World} (h : w.ownsRow B 70 11 v n vs) (ho : w.ownsRow B' 97 3 o m os) (hg : w.grownBy w' v.ownBlock) : w'.ownsRow B' 97 3 o m os :=
  own_blk ho fun g hog => hg.block g (ho.lt g hog).2 (fun e => by
    obtain ⟨c1, h1⟩ := own_type h e.symm
    obtain ⟨c2, h2⟩ := own_type ho hog
    rw [h1] at h2
    cases h2)
/-- One rule, alone in a row of its own at block g0, is appended. -/
theorem push_rule {ops : Array Oper} {rest : List Oper} {o : Oper} {a : Act} {w : World} {Q : Exit → Act → World → Prop} (hgd : o.guard = none) (s x : Operand) (ho : o.op = .call { callee := .builtin .append, args := #[s, x], argTypes := #[41, 41] })
    (B : Nat) (v : Value) (l : List Ru) (r : Ru) (u : Value) (g0 : Nat) (hs : a.eval s = v) (hx : a.eval x = .slice (some ⟨g0, 0, none⟩) 1 1) (h1 : RdU B v l w) (hb : w.heap[g0]? = some (.cells (ruA (r.1, u)) 70 (0, 0))) (h2 : w.ownsRow B 97 3 u r.2.length (flatR acE r.2)) (hB2 : B ≤ w.heap.size) (hal : l.length ≤ 2000)
    (h : ∀ v' w', RdU B v' (l ++ [r]) w' → (∀ w0, Below B w0 w → Below B w0 w') → v'.oneCell' = true → wpList Tryz.prog ops Q rest (a.put o.dst v') w') : wpList Tryz.prog ops Q (o :: rest) a w := by
  obtain ⟨xs, x2, x3, x4⟩ := h1
  have x1 : xs.length = l.length := by simpa using congrArg List.length x2
  refine wpList_push1 el41 hgd s x ho B v l.length (flatR ruE xs) hs x3 g0 hx (ruA (r.1, u)) hb rfl (by obtain ⟨_, _, rfl, _, _⟩ := own_form h2; rfl) (by omega) hB2 ?_
  intro g cap w' hown hg _ hlt
  refine h _ w' ⟨xs ++ [(r.1, u)], by rw [List.map_append, List.map_append, x2]; rfl, ?_, fun i hi hj => ?_⟩ (fun w0 hb => below_grown hb hB2 hg x3) rfl
  · rw [List.length_append, flatR_append]
    have e : flatR ruE [(r.1, u)] = (ruA (r.1, u)).toList := by simp [flatR, ruE]
    rw [e]
    exact hown
  · by_cases hi2 : i < l.length
    · rw [List.getElem_append_left (by omega), List.getElem_append_left hi2]
      exact own97_grown x3 (x4 i (by omega) hi2) hg
    · have h0 : i = l.length := by simp at hj; omega
      subst h0
      have e1 : (xs ++ [(r.1, u)])[l.length] = (r.1, u) := by simp [← x1]
      have e2 : (l ++ [r])[l.length] = r := by simp
      rw [e1, e2]
      exact own97_grown x3 h2 hg
/-! What becomes of cases. -/
def askM (k : Sn) : Mt := if k.2.2.1 < 0 then anyM else dstM k.2.2.1
def actsL (l : List Sn) : List Ac := l.map fun s => (2, 0, s.1)
def rulesF : List Cs → List Ru
  | [] => []
  | c :: cs => ((((cs.length : Int) + 1), askM c.1), actsL c.2) :: rulesF cs
/-- A case is simple. -/
def CaseOk (c : Cs) : Prop := (c.1 = unknowns ∨ ∃ x, 0 ≤ x ∧ c.1 = (-1, -1, x, -1, -1)) ∧ (c.2 = [] ∨ ∃ q, 0 ≤ q ∧ c.2 = [asCame q])
theorem rules_len : ∀ l : List Cs, (rulesF l).length = l.length
  | [] => rfl
  | c :: cs => by simp [rulesF, rules_len cs]
theorem rules_get : ∀ (l : List Cs) (j : Nat) (h : j < l.length) (h2 : j < (rulesF l).length), (rulesF l)[j] = ((((l.length : Int) - j), askM l[j].1), actsL l[j].2)
  | [], j, h, _ => by cases h
  | c :: cs, 0, _, _ => by simp [rulesF]
  | c :: cs, j + 1, h, h2 => by
    have := rules_get cs j (by simpa using h) (by rw [rules_len]; simpa using h)
    simp only [rulesF, List.getElem_cons_succ, this, List.length_cons]
    congr 2
    push_cast
    omega
theorem ask_c (c : Cs) (h : CaseOk c) (oa : Option Addr) (on oc : Nat) (w : World) : Ret 38 #[csV c.1 (.slice oa on oc)] (.agg (mtA (askM c.1))) w := by
  rcases h.1 with h | ⟨x, h0, h⟩
  · rw [h]
    exact ask_any oa on oc w
  · rw [h]
    have e : askM (-1, -1, x, -1, -1) = dstM x := by unfold askM; rw [if_neg (by show ¬ x < 0; omega)]
    rw [e]
    exact ask_dst x h0 oa on oc w
theorem acts_c (c : Cs) (h : CaseOk c) (o : Value) (B : Nat) (w : World) (ho : w.ownsRow B 63 5 o c.2.length (flatR stE c.2)) :
    Calls Tryz.prog 37 #[csV c.1 o] w fun e w' => ∃ v, e = .returned (.tuple #[v, .int .i64 0]) ∧ w'.ownsRow w.heap.size 97 3 v (actsL c.2).length (flatR acE (actsL c.2)) ∧ Below w.heap.size w w' := by
  rcases h.2 with h | ⟨q, h0, h⟩
  · rw [h] at ho ⊢
    obtain ⟨oa, oc, rfl, _, _⟩ := own_form ho
    refine (acts_nil c.1 oa oc w).mono ?_
    rintro e w' ⟨rfl, hb⟩
    exact ⟨_, rfl, own_nil _ _ _ _, hb⟩
  · rw [h] at ho ⊢
    refine (acts_one c.1 o q B w ho h0).mono ?_
    rintro e w' ⟨v, rfl, hown, hb⟩
    exact ⟨v, rfl, by simpa [actsL, flatR] using hown, hb⟩
set_option maxRecDepth 100000 in
set_option maxHeartbeats 8000000 in
theorem table_c (sw room : Int) (x : Pol) (u : Value) (l : List Cs) (w : World) (hu : ∃ uo un uc, u = .slice uo un uc)
    (X : ∀ w', Below w.heap.size w w' → Calls Tryz.prog 36 #[polV x u, .int .i64 sw] w' fun e w'' => ∃ v, e = .returned (.tuple #[v, .int .i64 0]) ∧ RdC w'.heap.size v l w'' ∧ Below w'.heap.size w' w'')
    (hl : ∀ c ∈ l, CaseOk c) (hr : (l.length : Int) ≤ room) (hk : l.length ≤ 1000) :
    Calls Tryz.prog 18 #[polV x u, .int .i64 sw, .int .i64 room] w fun e w' => ∃ v, e = .returned (.tuple #[v, .int .i64 0]) ∧ RdU w.heap.size v (rulesF l) w' ∧ Below w.heap.size w w' := by
  obtain ⟨uo, un, uc, rfl⟩ := hu
  have X36 := Lib.hid X
  have HL := Lib.hid hl
  have HB := Lib.hid (grow1 w (.cells (polL x (.slice uo un uc)).toArray 55))
  have HG := Lib.hid (heap_alloc_new w (.cells (polL x (.slice uo un uc)).toArray 55))
  have hd1 : decide (room < (l.length : Int)) = false := by simp; omega
  have hd2 : decide ((65536 : Int) ≤ (l.length : Int)) = false := by simp; omega
  obtain ⟨RL, hRL⟩ : ∃ R, R = rulesF l := ⟨_, rfl⟩
  have HRL := Lib.hid hRL
  rw [← hRL]
  have HRN := Lib.hid (show RL.length = l.length by rw [hRL]; exact rules_len l)
  clear X hl hRL
  unfold polV at X36 ⊢
  go_enter Tryz.func18, Tryz.ntmps18
  go_upto_region 1 with fail
  refine abs_wp ?_
  intro w1 hw1
  have HB1 : Hid (Below w.heap.size w w1) := by rw [hw1]; exact HB
  have HG1 : Hid (w1.heap[w.heap.size]? = some (.cells (polL x (.slice uo un uc)).toArray 55 (0, 0))) := by rw [hw1]; exact HG
  clear hw1 HB HG
  go_wp2_with (refine stop_load 55 _ rfl ?_)
  obtain ⟨f55, hu55⟩ := und55
  refine Stop.go (wpList_load_row rfl 55 _ rfl w.heap.size rfl 55 _ (0, 0) _ HG1.out hu55 rfl inf55 ?_)
  clear hu55
  go_wp2_with fail
  refine (X36.out w1 HB1.out).mono ?_
  rintro e w2 ⟨v2, rfl, hrd, hb2⟩
  have HB2 := Lib.hid (HB1.out.trans (hb2.mono HB1.out.size))
  obtain ⟨xs, x1, x2, x3, x4⟩ := hrd.open_
  obtain ⟨lo, lc, rfl, _, _⟩ := own_form x3
  have HX1 := Lib.hid x1
  have HX2 := Lib.hid x2
  have HX3 := Lib.hid x3
  have HX4 := Lib.hid x4
  clear hrd hb2 HB1 HG1 X36 x1 x2 x3 x4
  go_wp2_with fail
  have hs2 := HB2.out.size
  go_loopw [26, 10] (fun i o wr => ∃ j : Nat, i = .int .i64 j ∧ j ≤ l.length ∧ Hid (RdU w2.heap.size o (RL.take j) wr) ∧ Hid (Below w2.heap.size w2 wr)) (fun i _ _ => l.length - (intOf i).toNat)
  case atStart => exact ⟨0, rfl, Nat.zero_le _, Lib.hid (RdU.nil _ _), Lib.hid (Below.refl _ _)⟩
  case round =>
    obtain ⟨j, rfl, hj, HA, HBr⟩ := hrel
    have hsr := HBr.out.size
    by_cases hlt : j < l.length
    · have hd : decide ((j : Int) < (l.length : Int)) = true := by simp; omega
      obtain ⟨g, cap, hv, hgB, hrow⟩ := own_rowC (own_kept HX3.out HBr.out) (by omega) HX1.out
      cases hv
      have hjx : j < xs.length := by rw [HX1.out]; exact hlt
      have HR := Lib.hid (hrow.2 j hjx)
      have hgl := hrow.1
      have HO := Lib.hid (own_kept (HX4.out j hjx hlt) HBr.out)
      have e1 : xs[j].1 = l[j].1 := by
        have := congrArg (·[j]?) HX2.out
        simpa [hjx, hlt] using this
      have HCO := Lib.hid (HL.out l[j] (List.getElem_mem hlt))
      have HRG := Lib.hid (show RL.take (j + 1) = RL.take j ++ [((((l.length : Int) - j), askM l[j].1), actsL l[j].2)] by
        have hjr : j < RL.length := by rw [HRN.out]; exact hlt
        rw [List.take_succ_eq_append_getElem hjr]
        congr 2
        have h3 : j < (rulesF l).length := by rw [← HRL.out]; exact hjr
        have h4 := rules_get l j hlt h3
        rw [← h4]
        congr 1
        try exact HRL.out)
      obtain ⟨c, hc⟩ : ∃ c, c = l[j] := ⟨_, rfl⟩
      rw [← hc] at e1 HCO HRG HO
      obtain ⟨oa, oc, hox, _, _⟩ := own_form HO.out
      unfold cvE at HR
      rw [e1, hox] at HR
      rw [hox] at HO
      have Y37 := Lib.hid (acts_c c HCO.out (.slice oa c.2.length oc))
      have Y38 := Lib.hid (fun w => ask_c c HCO.out oa c.2.length oc w)
      unfold csV at Y37 Y38
      unfold Ret at Y38
      obtain ⟨cn, hcn⟩ : ∃ n, n = c.2.length := ⟨_, rfl⟩
      rw [← hcn] at HR Y37 Y38
      have HCN := Lib.hid hcn
      obtain ⟨ac, hac⟩ : ∃ a, csA c.1 (.slice oa cn oc) = a := ⟨_, rfl⟩
      have hzc : ac.size = 6 := by rw [← hac]; rfl
      have hoc : ac.toList.all (·.oneCell') = true := by rw [← hac]; rfl
      rw [hac] at HR Y37 Y38
      obtain ⟨mq, hmq⟩ : ∃ m, m = askM c.1 := ⟨_, rfl⟩
      rw [← hmq] at Y38 HRG
      obtain ⟨aq, haq⟩ : ∃ m, m = actsL c.2 := ⟨_, rfl⟩
      rw [← haq] at Y37 HRG
      clear hc hcn hac hmq haq e1 hox hrow
      go_wp2_with (refine stop_load 89 _ rfl ?_)
      obtain ⟨f89, hu89⟩ := und89
      have HU := Lib.hid hu89
      clear hu89
      refine Stop.go (wpList_load_mid rfl 89 _ rfl g (j * 6) rfl ac.toList (.struct f89) HR.out HU.out rfl (by rw [Array.length_toList, hzc]; exact inf89) ?_)
      go_wp2_with (refine stop_store 89 _ _ rfl ?_)
      refine Stop.go (abs_list ?_)
      intro w4 e4
      have hb4 : Below wr.heap.size wr w4 := by rw [e4]; exact grow1 wr _
      have hg4 : w4.heap[wr.heap.size]? = some (.cells zero89 89 (0, 0)) := by rw [e4]; exact heap_alloc_new wr _
      have HB4 := Lib.hid hb4
      clear e4 hb4
      refine wpList_store_o rfl 89 _ _ rfl wr.heap.size ac rfl rfl 89 _ hg4 (by rw [hzc]; exact inf89) (by rw [hzc]; rfl) hoc ?_
      intro w5 hg5 ho5
      have HB5 := Lib.hid (ho5.belowT HB4.out (Nat.le_refl _))
      have HG5 := Lib.hid hg5
      clear hg4 hg5 ho5 HB4
      obtain ⟨bl, hbl⟩ : ∃ bl, bl = wr.heap.size := ⟨_, rfl⟩
      rw [← hbl] at HG5 ⊢
      clear hbl
      go_wp2_with (refine stop_load 89 _ rfl ?_)
      refine Stop.go (wpList_load_row rfl 89 _ rfl bl rfl 89 _ (0, 0) _ HG5.out HU.out rfl (by rw [hzc]; exact inf89) ?_)
      go_wp2_with fail
      rw [← HCN.out] at HO
      refine (Y37.out w1.heap.size w5 (own_kept HO.out HB5.out)).mono ?_
      rintro e w6 ⟨v6, rfl, hown6, hb6⟩
      obtain ⟨ao, an, rfl, _, _⟩ := own_form hown6
      have HB6 := Lib.hid (HBr.out.trans ((HB5.out.trans (hb6.mono HB5.out.size)).mono hsr))
      have HG6 := Lib.hid ((hb6.block _ (block_lt HG5.out)).trans HG5.out)
      have HO6 := Lib.hid (own_mono (B' := w2.heap.size) hown6 (Nat.le_trans hsr HB5.out.size))
      have HA6 := Lib.hid (HA.out.kept (HB5.out.trans (hb6.mono HB5.out.size)))
      clear hown6 hb6 HB5 HG5 HBr HO HR HA Y37
      go_wp2_with (refine stop_load 89 _ rfl ?_)
      refine Stop.go (wpList_load_row rfl 89 _ rfl bl rfl 89 _ (0, 0) _ HG6.out HU.out rfl (by rw [hzc]; exact inf89) ?_)
      obtain ⟨mp, ⟨ma, mb, mc, md⟩, na, nb, nc, nd⟩ := mq
      simp only [mtA] at Y38
      go_wp2_with (first | (go_at_call 38; refine (Y38.out w6).mono ?_; rintro e w7 ⟨rfl, hb7⟩; have HB7 := Lib.hid (HB6.out.trans (hb7.mono HB6.out.size)); have HO7 := Lib.hid (own_kept HO6.out hb7); have HA7 := Lib.hid (HA6.out.kept hb7); clear hb7 HB6 HO6 HA6 HG6 Y38) | (at_builtin; refine stop_list ?_))
      refine Stop.go (push_rule rfl (.tmp 39) (.tmp 48) rfl w2.heap.size u10 (RL.take j) ((((l.length : Int) - j), (mp, (ma, mb, mc, md), na, nb, nc, nd)), aq) (.slice ao aq.length an) w7.heap.size rfl rfl (HA7.out.kept (grow1 _ _)) (heap_alloc_new _ _) (own_kept HO7.out (grow1 _ _)) (HB7.out.alloc HB7.out.size _).size (by rw [List.length_take]; omega) ?_)
      intro v8 w8 hr8 hb8 h18
      have HR8 := Lib.hid hr8
      have HB8 := Lib.hid (hb8 _ (HB7.out.alloc HB7.out.size _))
      clear hr8 hb8 HB7 HA7 HO7
      go_wp2_with fail
      go_roundw
      case rel => exact ⟨j + 1, by go_num, hlt, by rw [HRG.out]; exact HR8, HB8⟩
      case measure => simp [intOf]; omega
    · obtain rfl : j = l.length := by omega
      have hd : decide ((l.length : Int) < (l.length : Int)) = false := by simp
      have HE := Lib.hid (show RL.take l.length = RL by rw [← HRN.out, List.take_length])
      rw [HE.out] at HA
      obtain ⟨xo, xc, rfl, _, _⟩ := HA.out.form
      have hrn := HRN.out
      rw [hrn] at HA ⊢
      go_wp2_with fail
      go_ret2
      exact ⟨_, rfl, HA.out.mono hs2, HB2.out.trans (HBr.out.mono hs2)⟩
end Go.Proofs.YtekfkieimdgfkaaGreat
