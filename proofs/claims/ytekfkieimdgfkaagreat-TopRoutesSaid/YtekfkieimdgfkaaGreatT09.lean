/- What is proved here: what is left of a policy with parts at a switch. Condition: it can be read, and all within have their shapes. -/
import Derived.Test.YtekfkieimdgfkaaGreatT08
namespace Go.Proofs.YtekfkieimdgfkaaGreat
open Go Go.RowKit
attribute [local go_sem] KW.cell KW.frozen
theorem run_load55 {w : World} {g : Nat} {cs : Array Value} (hg : w.heap[g]? = some (.cells cs 55 (0, 0))) (hs : cs.size = 8) : (loadVar 55 ⟨g, 0, none⟩).run Tryz.prog w = .ok (.agg cs) w := by
  obtain ⟨fs, hu⟩ := und55
  exact run_loadVar_row (P := Tryz.prog) w g 55 55 cs (0, 0) _ hg hu rfl (by rw [hs]; exact inf55)
set_option maxRecDepth 100000 in
set_option maxHeartbeats 8000000 in
theorem at_step (sw : Int) (x : Pol) (d : Nat) (G : Pol → Pol) (u : Value) (w : World) (hr : RdP AnyP (d + 1) u x.l w) (h1 : x.k ≠ 1) (h5 : x.k ≠ 5) (hn : x.l.length ≤ 8)
    (IH : ∀ y ∈ x.l, ∀ u' w', RdP AnyP d u' y.l w' → AtC sw d y (G y) u' w') : AtC sw (d + 1) x (atX sw x (x.l.map G)) u w := by
  obtain ⟨uo, uc, rfl, _, huc⟩ := hr.form
  unfold maxLen at huc
  obtain ⟨xk, xpk, xpf, xpn, xf, xv, L⟩ := x
  simp only [Pol.k, Pol.l] at h1 h5 hr hn IH huc ⊢
  have HE : Hid (atX sw (.mk xk xpk xpf xpn xf xv L) (L.map G) = .mk xk 0 0 0 xf xv (L.map G)) := Lib.hid (by unfold atX cutX; rw [if_neg (show ¬ (Pol.mk xk xpk xpf xpn xf xv L).k = 1 from h1)]; rfl)
  have d1 : (xk == 1) = false := by rw [beq_eq_false_iff_ne]; exact h1
  have d5 : (xk == 5) = false := by rw [beq_eq_false_iff_ne]; exact h5
  have HB : Hid (Below w.heap.size w ((w.alloc (.cells #[.int .i64 xk, .int .i64 xpk, .int .i64 xpf, .int .i64 xpn, .slice none 0 0, .int .i64 xf, .int .i64 xv, .slice uo L.length uc] 55)).alloc (.cells zeroA 55))) := Lib.hid (((Below.refl _ _).alloc (Nat.le_refl _) _).alloc (by simp) _)
  have HX : Hid (((w.alloc (.cells #[.int .i64 xk, .int .i64 xpk, .int .i64 xpf, .int .i64 xpn, .slice none 0 0, .int .i64 xf, .int .i64 xv, .slice uo L.length uc] 55)).alloc (.cells zeroA 55)).heap[w.heap.size]? = some (.cells #[.int .i64 xk, .int .i64 xpk, .int .i64 xpf, .int .i64 xpn, .slice none 0 0, .int .i64 xf, .int .i64 xv, .slice uo L.length uc] 55 (0, 0))) :=
    Lib.hid ((Below.heap_alloc _ _ _ (by simp)).trans (heap_alloc_new w _))
  have HR : Hid (((w.alloc (.cells #[.int .i64 xk, .int .i64 xpk, .int .i64 xpf, .int .i64 xpn, .slice none 0 0, .int .i64 xf, .int .i64 xv, .slice uo L.length uc] 55)).alloc (.cells zeroA 55)).heap[w.heap.size + 1]? = some (.cells zeroA 55 (0, 0))) := by
    have := heap_alloc_new (w.alloc (.cells #[.int .i64 xk, .int .i64 xpk, .int .i64 xpf, .int .i64 xpn, .slice none 0 0, .int .i64 xf, .int .i64 xv, .slice uo L.length uc] 55)) (.cells zeroA 55)
    exact Lib.hid (by simpa using this)
  have HL := Lib.hid hr
  have HI := Lib.hid IH
  rw [HE.out]
  unfold AtC
  clear HE h1 h5 hr IH
  unfold polV
  simp only [Pol.k, Pol.pk, Pol.pf, Pol.pn, Pol.f, Pol.v, Pol.l]
  go_enter Tryz.func65, Tryz.ntmps65
  go_wp2_with (refine stop_store 55 _ _ rfl ?_)
  refine Stop.go (abs_list ?_)
  intro w2 e2
  have hb2 : Below w.heap.size w w2 := by rw [e2]; exact HB.out.alloc (by simp; omega) _
  have hx2 : w2.heap[w.heap.size]? = some (.cells #[.int .i64 xk, .int .i64 xpk, .int .i64 xpf, .int .i64 xpn, .slice none 0 0, .int .i64 xf, .int .i64 xv, .slice uo L.length uc] 55 (0, 0)) := by rw [e2]; exact (Below.heap_alloc _ _ _ (by simp; omega)).trans HX.out
  have hr2 : w2.heap[w.heap.size + 1]? = some (.cells zeroA 55 (0, 0)) := by rw [e2]; exact (Below.heap_alloc _ _ _ (by simp)).trans HR.out
  have hg3 : w2.heap[w.heap.size + 1 + 1]? = some (.cells zeroA 55 (0, 0)) := by
    rw [e2]
    have := heap_alloc_new ((w.alloc (.cells #[.int .i64 xk, .int .i64 xpk, .int .i64 xpf, .int .i64 xpn, .slice none 0 0, .int .i64 xf, .int .i64 xv, .slice uo L.length uc] 55)).alloc (.cells zeroA 55)) (.cells zeroA 55)
    simpa using this
  have hs2 : w2.heap.size = w.heap.size + 1 + 1 + 1 := by rw [e2]; simp
  have HB2 := Lib.hid hb2
  have HX2 := Lib.hid hx2
  have HR2 := Lib.hid hr2
  clear e2 hb2 hx2 hr2 HB HX HR
  refine wpList_store_o rfl 55 _ _ rfl (w.heap.size + 1 + 1) _ rfl rfl 55 _ hg3 inf55 rfl rfl ?_
  intro w3 hg4 ho3
  have HB3 := Lib.hid (ho3.belowT HB2.out (by omega))
  have HX3 := Lib.hid ((ho3.block _ (by omega)).trans HX2.out)
  have HR3 := Lib.hid ((ho3.block _ (by omega)).trans HR2.out)
  have HG3 := Lib.hid hg4
  have hs3 : w3.heap.size = w.heap.size + 1 + 1 + 1 := ho3.size.trans hs2
  clear hg3 hg4 ho3 HB2 HX2 HR2 hs2
  have c0 := block_cell HX3.out 0
  have c7 := block_cell HX3.out 7
  simp only [List.getElem?_toArray, List.getElem?_cons_zero, List.getElem?_cons_succ] at c0 c7
  go_wp2_with fail
  clear c0 c7
  go_loopw [31] (fun i wr => ∃ (k g : Nat) (vv : Value), i = .int .i64 k ∧ k ≤ L.length ∧ Hid (wr.heap[w.heap.size + 1 + 1]? = some (.cells #[.int .i64 xk, .int .i64 0, .int .i64 0, .int .i64 0, .slice none 0 0, .int .i64 xf, .int .i64 xv, vv] 55 (0, 0)))
      ∧ Hid (RowQ (w.heap.size + 1 + 1 + 1) g d vv ((L.map G).take k) wr) ∧ Hid (Below (w.heap.size + 1 + 1) w3 wr)) (fun i _ => L.length - (intOf i).toNat)
  case atStart => exact ⟨0, 0, .slice none 0 0, rfl, Nat.zero_le _, HG3, Lib.hid (.inl ⟨rfl, rfl⟩), Lib.hid (Below.refl _ _)⟩
  case round =>
    obtain ⟨k, g, vv, rfl, hk, HG, HQ, HBr⟩ := hrel
    have hsr := HBr.out.size
    rw [hs3] at hsr
    by_cases hlt : k < L.length
    · have hd : decide ((k : Int) < (L.length : Int)) = true := by simp; omega
      have hk2 : (k : Int) < (L.length : Int) := by omega
      have hbr : Below w.heap.size w wr := HB3.out.trans (HBr.out.mono (by omega))
      obtain ⟨ge, cap, ue, hv, hge, _, hrange, hre⟩ := (HL.out.kept hbr).at_ k hlt
      cases hv
      have HRA := Lib.hid hrange
      have HRE := Lib.hid hre
      obtain ⟨eo, ec, rfl, _, _⟩ := hre.form
      have HBW := Lib.hid hbr
      clear hrange hre hbr
      go_wp2_with (refine stop_load 55 _ rfl ?_)
      obtain ⟨fs, hu55⟩ := und55
      refine Stop.go (wpList_load_mid rfl 55 _ rfl ge (k * 8) rfl (polL L[k] (.slice eo L[k].l.length ec)) _ HRA.out hu55 rfl inf55 ?_)
      have HU := Lib.hid hu55
      clear hu55
      go_wp2_with (refine stop_store 55 _ _ rfl ?_)
      refine Stop.go (abs_list ?_)
      intro w4 e4
      have hb4 : Below wr.heap.size wr w4 := by rw [e4]; exact grow1 wr _
      have hg4 : w4.heap[wr.heap.size]? = some (.cells zeroA 55 (0, 0)) := by rw [e4]; exact heap_alloc_new wr _
      have HB4 := Lib.hid hb4
      clear e4 hb4
      refine wpList_store_o rfl 55 _ _ rfl wr.heap.size _ rfl rfl 55 _ hg4 inf55 rfl rfl ?_
      intro w5 hg5 ho5
      have HB5 := Lib.hid (ho5.belowT HB4.out (Nat.le_refl _))
      have HG5 := Lib.hid hg5
      clear hg4 hg5 ho5 HB4 HRA
      go_upto_region 7 with fail
      refine abs_wp ?_
      intro wb hwb
      have HB6 : Hid (Below wr.heap.size wr wb) := by rw [hwb]; exact HB5
      have HE6 : Hid (wb.heap[wr.heap.size]? = some (.cells (polL L[k] (.slice eo L[k].l.length ec)).toArray 55 (0, 0))) := by rw [hwb]; exact HG5
      clear hwb HB5 HG5
      have HG6 := Lib.hid ((HB6.out.block _ (by omega)).trans HG.out)
      have c7 := block_cell HG6.out 7
      simp only [List.getElem?_toArray, List.getElem?_cons_zero, List.getElem?_cons_succ] at c7
      have hl6 := block_lt HG6.out
      have hle6 := block_lt HE6.out
      refine wp_region_pick [0, 3] [1, 2] [4, 5] [6, 7, 8] [6, 7, 8] (by kernel_rfl) (by kernel_rfl) (by kernel_rfl) ?_
      refine pure_take (by rfl) ?v0 ?h0 ?r0
      case h0 => (intro w0 _; go_simp; try (with_reducible rfl))
      refine pure_take (by rfl) ?v1 ?h1 ?r1
      case h1 => (intro w0 _; go_simp; try (with_reducible rfl))
      refine pure_take (by rfl) ?v2 ?h2 ?r2
      case h2 => (rintro w0 ⟨kz, rfl⟩; go_simp; try (with_reducible rfl))
      refine pure_row (by rfl) 55 _ rfl wr.heap.size rfl (polL L[k] (.slice eo L[k].l.length ec)).toArray 55 _ (fun w0 hw0 => ?_) HU.out rfl inf55 ?_
      · obtain ⟨kz, rfl⟩ := hw0
        exact (kz.kp.block _ hle6).trans HE6.out
      intro kz
      refine keep_call (by rfl) 65 #[polV L[k] (.slice eo L[k].l.length ec), .int .i64 sw] ?hc ?_
      case hc => (go_simp; rfl)
      refine (HI.out L[k] (List.getElem_mem hlt) _ _ (HRE.out.kept (HB6.out.trans (kz.kp.mono HB6.out.size)))).mono ?_
      rintro e w7 ⟨u', rfl, hru, hb7⟩
      have hsz := kz.kp.size
      have HB7 := Lib.hid (kz.kp.trans (hb7.mono hsz))
      have HRU := Lib.hid hru
      have hs7 : wb.heap.size ≤ w7.heap.size := HB7.out.size
      refine ⟨_, rfl, ⟨⟨w7, HB7.out⟩, rfl⟩, ?_⟩
      obtain ⟨uo2, uc2, rfl, _, _⟩ := hru.form
      clear hru hb7
      obtain ⟨x, hx⟩ : ∃ x, x = G L[k] := ⟨_, rfl⟩
      rw [← hx] at HRU ⊢
      unfold polV
      refine keep_value (w' := w7.alloc (.cells #[.int .i64 x.k, .int .i64 x.pk, .int .i64 x.pf, .int .i64 x.pn, .slice none 0 0, .int .i64 x.f, .int .i64 x.v, (.slice uo2 x.l.length uc2)] 55)) (by rfl) (.slice (some ⟨w7.heap.size, 0, none⟩) 1 1) ?hd ⟨⟨_, HB7.out.alloc hs7 _⟩, rfl⟩ ?_
      case hd => go_simp
      show wpList _ _ _ _ _ _
      refine abs_list ?_
      intro w8 e8
      have hb8 : Below w7.heap.size w7 w8 := by rw [e8]; exact grow1 w7 _
      have hg8 : w8.heap[w7.heap.size]? = some (.cells (polL x (.slice uo2 x.l.length uc2)).toArray 55 (0, 0)) := by rw [e8]; exact heap_alloc_new w7 _
      have hs8 : w8.heap.size = w7.heap.size + 1 := by rw [e8]; simp
      have HB8 := Lib.hid (HB7.out.trans (hb8.mono hs7))
      have HRU8 := Lib.hid (HRU.out.kept hb8)
      have HB68 : Hid (Below wr.heap.size wr w8) := Lib.hid (HB6.out.trans (HB8.out.mono HB6.out.size))
      have hs6 := HB6.out.size
      have HG8 := Lib.hid ((HB68.out.block _ (by omega)).trans HG.out)
      have HXs := Lib.hid (show (L.map G).take (k + 1) = (L.map G).take k ++ [x] by
        rw [List.take_succ_eq_append_getElem (by simpa using hlt)]
        simp [hx])
      have HLN := Lib.hid (show ((L.map G).take k).length = k by rw [List.length_take]; simp; omega)
      have HRU9 : Hid (RdP (fun j => wr.heap.size ≤ j) d (.slice uo2 x.l.length uc2) x.l w8) := Lib.hid (HRU8.out.mono fun j hj _ => by omega)
      clear e8 hb8 HRU HRU8 HB7 HB6 HE6 HG6 HG c7 hsz hx HB8
      obtain ⟨ys, hown, hpush⟩ := HQ.out.own
      have HPU := Lib.hid (hpush x (.slice uo2 x.l.length uc2) w8)
      have HLT : Hid (∀ j, vv.ownBlock = some j → w.heap.size + 1 + 1 + 1 ≤ j ∧ j < wr.heap.size) := Lib.hid (hown.lt)
      have HOW := Lib.hid (own_kept hown HB68.out)
      clear hpush hown
      rw [HLN.out] at HPU HOW
      refine wpList_push1 el53 rfl _ _ rfl (w.heap.size + 1 + 1 + 1) _ _ _ rfl HOW.out w7.heap.size rfl _ hg8 rfl rfl (by omega) (by omega) ?_
      intro gn capn w9 hown9 hgr9 hor9 hlt9
      have HQ9 : Hid (RowQ (w.heap.size + 1 + 1 + 1) gn d (.slice (some ⟨gn, 0, none⟩) (k + 1) capn) ((L.map G).take (k + 1)) w9) := Lib.hid (by
        rw [HXs.out]
        exact HPU.out _ _ _ HB68.out (fun gg hgg => HRU9.out.mono fun j hj _ => ⟨by omega, by have := (HLT.out gg hgg).2; omega⟩) (HRU9.out.mono fun j hj _ => by omega) hown9 hgr9 hor9)
      have HG9 := Lib.hid ((hgr9.block (w.heap.size + 1 + 1) (by omega) (fun e => by have := (HLT.out _ e.symm).1; omega)).trans HG8.out)
      have HB9 : Hid (Below (w.heap.size + 1 + 1) w3 w9) := Lib.hid (by
        have hbw : Below (w.heap.size + 1 + 1) w3 w8 := HBr.out.trans (HB68.out.mono (by omega))
        exact hbw.grown hgr9 (by omega) fun j hj => by have := (HLT.out j hj).1; omega)
      clear hown9 hgr9 hor9 HPU HOW hg8 HRU9 HQ HBr HG8 HB68 HXs
      have c7 := block_cell HG9.out 7
      have f7 := block_free HG9.out 7
      simp only [List.getElem?_toArray, List.getElem?_cons_zero, List.getElem?_cons_succ] at c7
      go_wp2_with fail
      refine NoPanic.normal ?_
      have HG10 := Lib.hid (heap_setCell_same w9 (w.heap.size + 1 + 1) 7 _ 55 (.slice (some ⟨gn, 0, none⟩) (k + 1) capn) HG9.out)
      have HQ10 : Hid (RowQ (w.heap.size + 1 + 1 + 1) gn d (.slice (some ⟨gn, 0, none⟩) (k + 1) capn) ((L.map G).take (k + 1)) (w9.setCell ⟨w.heap.size + 1 + 1, 7, none⟩ (.slice (some ⟨gn, 0, none⟩) (k + 1) capn))) := Lib.hid (HQ9.out.blk fun j hj _ => heap_setCell_other _ _ _ _ (by dsimp only; omega))
      have HB10 : Hid (Below (w.heap.size + 1 + 1) w3 (w9.setCell ⟨w.heap.size + 1 + 1, 7, none⟩ (.slice (some ⟨gn, 0, none⟩) (k + 1) capn))) := Lib.hid (HB9.out.setCell (by dsimp only; omega) _)
      clear HG9 HQ9 HB9 c7 f7 HLT HLN
      go_wp2_with fail
      go_roundw
      case rel => exact ⟨k + 1, gn, _, by go_num, hlt, HG10, HQ10, HB10⟩
      case measure => simp [intOf]; omega
    · obtain rfl : k = L.length := by omega
      have hd : decide ((L.length : Int) < (L.length : Int)) = false := by simp
      have HQ2 : Hid (RowQ (w.heap.size + 1 + 1 + 1) g d vv (L.map G) wr) := by
        have := HQ.out
        rw [List.take_of_length_le (by simp)] at this
        exact Lib.hid this
      have HX4 := Lib.hid ((HBr.out.block w.heap.size (by omega)).trans HX3.out)
      have HR4 := Lib.hid ((HBr.out.block (w.heap.size + 1) (by omega)).trans HR3.out)
      have HB4 := Lib.hid (HB3.out.trans (HBr.out.mono (by omega)))
      have c0 := block_cell HX4.out 0
      simp only [List.getElem?_toArray, List.getElem?_cons_zero] at c0
      have hl4 := block_lt HX4.out
      clear HQ HBr
      go_wp2_with (first | (refine stop_load 55 _ rfl ?_) | (refine stop_store 55 _ _ rfl ?_))
      obtain ⟨fs, hu55⟩ := und55
      refine Stop.go (wpList_load_row rfl 55 _ rfl (w.heap.size + 1 + 1) rfl 55 _ (0, 0) _ HG.out hu55 rfl inf55 ?_)
      clear hu55
      obtain ⟨vo, vc, hvf, _, _⟩ := HQ2.out.form
      subst hvf
      refine wpList_store_o rfl 55 _ _ rfl (w.heap.size + 1) _ rfl rfl 55 _ HR4.out inf55 rfl rfl ?_
      intro w6 hg6 ho6
      have HB6 := Lib.hid (ho6.belowT HB4.out (by omega))
      have HG6 := Lib.hid hg6
      have HRF : Hid (RdP (fun j => w.heap.size ≤ j) (d + 1) (.slice vo (L.map G).length vc) (L.map G) w6) := Lib.hid (by
        have h1 := HQ2.out.rd.blk (w' := w6) fun j hj _ => ho6.block j (by omega)
        exact h1.mono fun j hj _ => by omega)
      clear hg6 ho6 HB4 HG HX4 HR4
      go_wp2_with fail
      exact ret55 Tryz.results65 rfl rfl HG6.out rfl ⟨_, rfl, HRF.out, HB6.out⟩
end Go.Proofs.YtekfkieimdgfkaaGreat
/- What is proved here: what is left of a policy at a switch, however deep. Condition: it can be read, and all within have their shapes. -/
namespace Go.Proofs.YtekfkieimdgfkaaGreat
open Go Go.RowKit
/-- Nothing lies deeper. -/
def DepP : Nat → Pol → Prop
  | 0, x => x.l = []
  | d + 1, x => ∀ y ∈ x.l, DepP d y
theorem at_leaf (sw : Int) (x : Pol) (d : Nat) (u : Value) (w : World) (hr : RdP AnyP (d + 1) u x.l w) (hs : ShapeOk x) (hk : x.k = 1) : AtC sw (d + 1) x (atX sw x []) u w := by
  obtain ⟨uo, uc, rfl, _, _⟩ := hr.form
  obtain ⟨k, pk, pf, pn, f, v, l⟩ := x
  simp only [Pol.k] at hk
  subst hk
  rcases hs with ⟨_, h1, _, _, h4⟩ | ⟨h, _⟩ | ⟨h, _⟩
  · have e3 : pk = 3 := h1.1
    have e4 : l = [] := h4
    subst e3 e4
    exact at_step1 sw pf pn f v (d + 1) uo uc w
  · simp [Pol.k] at h
  · simp [Pol.k] at h
theorem ShapeOk.len {x : Pol} (h : ShapeOk x) : x.l.length ≤ 8 ∧ x.k ≠ 5 := by
  rcases h with ⟨h, _, _, _, hl⟩ | ⟨h, _, _, _, _, _, _, _, hl⟩ | ⟨h, _, _, _, _, _, _, hl⟩
  · rw [hl]; exact ⟨by simp, by omega⟩
  · rw [hl]; exact ⟨by simp, by omega⟩
  · exact ⟨hl, by omega⟩
theorem at_c (sw : Int) : ∀ (d : Nat) (x : Pol), OkP d x → DepP d x → ∀ (u : Value) (w : World), RdP AnyP (d + 1) u x.l w → AtC sw (d + 1) x (atF sw d x) u w := by
  intro d
  induction d with
  | zero =>
    intro x ho hd u w hr
    have hl : x.l = [] := hd
    by_cases hk : x.k = 1
    · exact at_leaf sw x 0 u w hr ho.shape hk
    · have := at_step sw x 0 (fun y => y) u w hr hk ho.shape.len.2 ho.shape.len.1 (fun y hy => by rw [hl] at hy; cases hy)
      rw [hl] at this
      exact this
  | succ d ih =>
    intro x ho hd u w hr
    by_cases hk : x.k = 1
    · have hl : x.l = [] := by
        rcases ho.shape with ⟨_, _, _, _, h4⟩ | ⟨h, _⟩ | ⟨h, _⟩
        · exact h4
        · omega
        · omega
      have := at_leaf sw x (d + 1) u w hr ho.shape hk
      have e : atF sw (d + 1) x = atX sw x [] := by unfold atF; rw [hl]; rfl
      rw [e]
      exact this
    · exact at_step sw x (d + 1) (atF sw d) u w hr hk ho.shape.len.2 ho.shape.len.1 (fun y hy u' w' h => ih y (ho.2 y hy) (hd y hy) u' w' h)
end Go.Proofs.YtekfkieimdgfkaaGreat
