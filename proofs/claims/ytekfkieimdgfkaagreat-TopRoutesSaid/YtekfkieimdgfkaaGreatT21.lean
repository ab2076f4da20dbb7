/- What is proved here: what comes of what is known. Condition: at most one packet comes of it, and of each step on the way. -/
import Derived.Test.YtekfkieimdgfkaaGreatT20
namespace Go.Proofs.YtekfkieimdgfkaaGreat
open Go Go.RowKit
attribute [local go_sem] KW.cell KW.frozen
set_option maxRecDepth 100000 in
set_option maxHeartbeats 8000000 in
theorem last_one (mk : Nat) (sw : Int) (k : Sn) (d : Nat) (x : Pol) (u : Value) (vs : List Value) (w : World) (hm : w.heap[mk]? = some (.cells (mkA x u sw vs) 132 (0, 0))) (hr : RdP AnyP (d + 1) u x.l w) (ho : OkR d x) (h1 : OneOk sw d x k) (s : Sn) (hs : semL sw d x k = [s]) :
    Calls Tryz.prog 87 #[.pointer (some ⟨mk, 0, none⟩), csV k (.slice none 0 0)] w fun e w' => ∃ o, e = .returned (csV k o) ∧ w'.ownsRow w.heap.size 63 5 o 1 (flatR stE [cameS k s]) ∧ Below w.heap.size w w' := by
  obtain ⟨uo, uc, rfl, _, huc⟩ := hr.form
  have hmk := block_lt hm
  have X := Lib.hid (fun w' (hb : Below w.heap.size w w') => run121_c sw k.1 k.2 d x (.slice uo x.l.length uc) w' (hr.kept hb) ho h1 (by rw [show (k.1, k.2) = k from rfl, hs]; simp))
  simp only [show (k.1, k.2) = k from rfl, hs] at X
  have HB : Hid (Below w.heap.size w ((w.alloc (.cells (csA k (.slice none 0 0)) 89)).alloc (.cells zero89 89))) := Lib.hid (((Below.refl _ _).alloc (Nat.le_refl _) _).alloc (by simp) _)
  have HC : Hid (((w.alloc (.cells (csA k (.slice none 0 0)) 89)).alloc (.cells zero89 89)).heap[w.heap.size]? = some (.cells (csA k (.slice none 0 0)) 89 (0, 0))) :=
    Lib.hid ((Below.heap_alloc _ _ _ (by simp)).trans (heap_alloc_new w _))
  have HR : Hid (((w.alloc (.cells (csA k (.slice none 0 0)) 89)).alloc (.cells zero89 89)).heap[w.heap.size + 1]? = some (.cells zero89 89 (0, 0))) := by
    have := heap_alloc_new (w.alloc (.cells (csA k (.slice none 0 0)) 89)) (.cells zero89 89)
    exact Lib.hid (by simpa using this)
  have HM := Lib.hid hm
  clear hr ho h1 hs hm
  obtain ⟨kp, ka, kb, kc, kd⟩ := k
  obtain ⟨sp, sa, sb, sc, sd⟩ := s
  unfold csV
  simp only [csA, polV] at HB HC HR X ⊢
  go_enter Tryz.func87, Tryz.ntmps87
  go_upto_region 1 with fail
  refine abs_wp ?_
  intro wb hwb
  have HBb : Hid (Below w.heap.size w wb) := by rw [hwb]; exact HB
  have HCb : Hid (wb.heap[w.heap.size]? = some (.cells (csA (kp, ka, kb, kc, kd) (.slice none 0 0)) 89 (0, 0))) := by rw [hwb]; exact HC
  have HRb : Hid (wb.heap[w.heap.size + 1]? = some (.cells zero89 89 (0, 0))) := by rw [hwb]; exact HR
  have hsb : wb.heap.size = w.heap.size + 1 + 1 := by rw [hwb]; simp
  have HSB := Lib.hid hsb
  clear hwb HB HC HR hsb
  have HMb := Lib.hid ((HBb.out.block mk hmk).trans HM.out)
  have c0 := block_cell HCb.out 0
  simp only [csA, List.getElem?_toArray, List.getElem?_cons_zero] at c0
  have c8 := mk_sw HMb.out
  have hlc := block_lt HCb.out
  have hlm := block_lt HMb.out
  obtain ⟨f55, hu55⟩ := und55
  obtain ⟨d29, hu29, hd29⟩ := und29
  refine wp_region_pick [0, 1, 2, 4, 5, 6, 8, 10, 14] [3, 7, 9, 11] [12] [13] [13] (by kernel_rfl) (by kernel_rfl) (by kernel_rfl) ?_
  refine pure_takeD 8 rfl (by rfl) ?v0 ?h0 ?r0
  case h0 => (intro w0 _; go_simp; try (with_reducible rfl))
  (try simp only [Act.put, List.setIfInBounds_toArray, List.set_cons_zero, List.set_cons_succ])
  refine pure_takeD 9 rfl (by rfl) ?v1 ?h1 ?r1
  case h1 => (intro w0 _; go_simp; try (with_reducible rfl))
  (try simp only [Act.put, List.setIfInBounds_toArray, List.set_cons_zero, List.set_cons_succ])
  refine pure_takeD 10 rfl (by rfl) ?v2 ?h2 ?r2
  case h2 => (intro w0 _; go_simp; try (with_reducible rfl))
  (try simp only [Act.put, List.setIfInBounds_toArray, List.set_cons_zero, List.set_cons_succ])
  refine pure_takeD 12 rfl (by rfl) ?v3 ?h3 ?r3
  case h3 => (intro w0 _; go_simp; try (with_reducible rfl))
  (try simp only [Act.put, List.setIfInBounds_toArray, List.set_cons_zero, List.set_cons_succ])
  refine pure_takeD 13 rfl (by rfl) ?v4 ?h4 ?r4
  case h4 => (intro w0 _; go_simp; try (with_reducible rfl))
  (try simp only [Act.put, List.setIfInBounds_toArray, List.set_cons_zero, List.set_cons_succ])
  refine pure_takeD 14 rfl (by rfl) ?v5 ?h5 ?r5
  case h5 => (intro w0 _; go_simp; try (with_reducible rfl))
  (try simp only [Act.put, List.setIfInBounds_toArray, List.set_cons_zero, List.set_cons_succ])
  refine pure_takeD 16 rfl (by rfl) ?v6 ?h6 ?r6
  case h6 => (intro w0 _; go_simp; try (with_reducible rfl))
  (try simp only [Act.put, List.setIfInBounds_toArray, List.set_cons_zero, List.set_cons_succ])
  refine pure_takeD 18 rfl (by rfl) ?v7 ?h7 ?r7
  case h7 => (intro w0 _; go_simp; try (with_reducible rfl))
  (try simp only [Act.put, List.setIfInBounds_toArray, List.set_cons_zero, List.set_cons_succ])
  refine pure_takeD 22 rfl (by rfl) ?v8 ?h8 ?r8
  case h8 => (intro w0 _; go_simp; try (with_reducible rfl))
  (try simp only [Act.put, List.setIfInBounds_toArray, List.set_cons_zero, List.set_cons_succ])
  refine pure_end ?_
  (try dsimp only)
  refine pure_mid 11 rfl (by rfl) 55 _ rfl mk 0 rfl (polL x (.slice uo x.l.length uc)) (.struct f55) (fun w0 hw0 => ?m0) hu55 rfl inf55 ?_
  case m0 => (obtain ⟨kz, rfl⟩ := hw0; exact mk_range ((kz.kp.block _ hlm).trans HMb.out))
  (try simp only [Act.put, List.setIfInBounds_toArray, List.set_cons_zero, List.set_cons_succ])
  refine pure_takeD 15 rfl (by rfl) ?vl0 ?hl0 ?rl0
  case hl0 => (rintro w0 ⟨kz, rfl⟩; go_simp; try (with_reducible rfl))
  (try simp only [Act.put, List.setIfInBounds_toArray, List.set_cons_zero, List.set_cons_succ])
  refine pure_takeD 17 rfl (by rfl) ?vl1 ?hl1 ?rl1
  case hl1 => (rintro w0 ⟨kz, rfl⟩; go_simp; try (with_reducible rfl))
  (try simp only [Act.put, List.setIfInBounds_toArray, List.set_cons_zero, List.set_cons_succ])
  refine pure_mid 19 rfl (by rfl) 29 _ rfl w.heap.size 1 rfl (pkA (ka, kb, kc, kd)).toList d29 (fun w0 hw0 => ?m1) hu29 hd29 inf29 ?_
  case m1 => (obtain ⟨kz, rfl⟩ := hw0; exact cs_range ((kz.kp.block _ hlc).trans HCb.out))
  (try simp only [Act.put, List.setIfInBounds_toArray, List.set_cons_zero, List.set_cons_succ])
  refine pure_end ?_
  (try dsimp only)
  intro kz
  refine keep_call (by rfl) 121 #[.agg (polL x (.slice uo x.l.length uc)).toArray, .int .i64 sw, .int .i64 kp, .agg (pkA (ka, kb, kc, kd))] ?hc ?_
  case hc => (go_simp; try rfl)
  have HKB := Lib.hid (HBb.out.trans (kz.kp.mono HBb.out.size))
  refine (X.out _ HKB.out).mono ?_
  rintro e w1 ⟨v1, rfl, hown, hb1⟩
  have hszk := kz.kp.size
  have HB1 := Lib.hid (kz.kp.trans (hb1.mono hszk))
  obtain ⟨ro, rc, rfl, _, _⟩ := own_form hown
  refine ⟨_, rfl, ⟨⟨w1, HB1.out⟩, rfl⟩, ?_⟩
  have HO1 := Lib.hid (own_mono (B' := w.heap.size + 1 + 1) hown (by rw [← HSB.out]; exact hszk))
  have HBw := Lib.hid (HBb.out.trans (HB1.out.mono HBb.out.size))
  have HC1 := Lib.hid ((HB1.out.block _ hlc).trans HCb.out)
  have HR1 := Lib.hid ((HB1.out.block _ (block_lt HRb.out)).trans HRb.out)
  have HS1 := Lib.hid (show w.heap.size + 1 + 1 ≤ w1.heap.size by have := HB1.out.size; rw [HSB.out] at this; exact this)
  clear hown hb1 hszk HKB X HBb HCb HRb HMb c0 c8 hlc hlm hu55 hu29 hd29 HB1 HM
  show wpList _ _ _ _ _ _
  go_wp2_with fail
  refine NoPanic.normal ?_
  go_wp2_with fail
  obtain ⟨g, cap, hv1, hgB, hgl, hrg⟩ := own_one HO1.out
  cases hv1
  have HG := Lib.hid hrg
  have HGL := Lib.hid (And.intro hgB hgl)
  clear hgB hgl hrg HO1
  go_loopw [22] (fun i wr => (i = .int .i64 0 ∧ wr = w1) ∨ (i = .int .i64 1 ∧ ∃ g2 cap2, Hid (wr.heap[w.heap.size]? = some (.cells (csA (kp, ka, kb, kc, kd) (.slice (some ⟨g2, 0, none⟩) 1 cap2)) 89 (0, 0))) ∧ Hid (wr.heap[w.heap.size + 1]? = some (.cells zero89 89 (0, 0)))
      ∧ Hid (wr.ownsRow (w.heap.size + 1 + 1) 63 5 (.slice (some ⟨g2, 0, none⟩) 1 cap2) 1 (flatR stE [cameS (kp, ka, kb, kc, kd) (sp, sa, sb, sc, sd)])) ∧ Hid (Below w.heap.size w wr) ∧ Hid (w.heap.size + 1 + 1 ≤ wr.heap.size))) (fun i _ => 1 - (intOf i).toNat)
  case atStart => exact .inl ⟨rfl, rfl⟩
  case round =>
    rcases hrel with ⟨rfl, rfl⟩ | ⟨rfl, g2, cap2, HCx, HRx, HOx, HBx, HSx⟩
    · have hgl := HGL.out.2
      go_wp2_with (refine stop_load 63 _ rfl ?_)
      obtain ⟨f63, hu63⟩ := und63
      refine Stop.go (wpList_load_mid rfl 63 _ rfl g 0 rfl (stE (sp, sa, sb, sc, sd)) _ HG.out hu63 rfl inf63 ?_)
      clear hu63
      go_wp2_with (refine stop_store 63 _ _ rfl ?_)
      refine Stop.go (abs_list ?_)
      intro w4 e4
      have hb4 : Below wr.heap.size wr w4 := by rw [e4]; exact grow1 wr _
      have hg4 : w4.heap[wr.heap.size]? = some (.cells zero63 63 (0, 0)) := by rw [e4]; exact heap_alloc_new wr _
      have hs4 : w4.heap.size = wr.heap.size + 1 := by rw [e4]; simp
      have HB4 := Lib.hid hb4
      clear e4 hb4
      refine wpList_store_o rfl 63 _ _ rfl wr.heap.size (stA (sp, sa, sb, sc, sd)) rfl rfl 63 _ hg4 inf63 rfl rfl ?_
      intro w5 hg5 ho5
      have HB5 := Lib.hid (ho5.belowT HB4.out (Nat.le_refl _))
      have HG5 := Lib.hid hg5
      have HS5 := Lib.hid (show wr.heap.size + 1 ≤ w5.heap.size by rw [ho5.size, hs4]; exact Nat.le_refl _)
      clear hg4 hg5 ho5 HB4 hs4 HG HGL hgl
      obtain ⟨wo, rfl⟩ : ∃ wo : World, wo = wr := ⟨_, rfl⟩
      go_wp2_with fail
      go_loopw [26] (fun i wr => ∃ f : Nat, i = .int .i64 f ∧ f ≤ 4 ∧ Hid (wr.heap[wo.heap.size]? = some (.cells (camA f sp sa sb sc sd ka kb kc kd) 63 (0, 0))) ∧ Hid (Below wo.heap.size wo wr) ∧ Hid (wo.heap.size + 1 ≤ wr.heap.size)) (fun i _ => 4 - (intOf i).toNat)
      case atStart => exact ⟨0, rfl, by omega, HG5, HB5, HS5⟩
      case round =>
        obtain ⟨f, rfl, hf4, HG2, HB2, HS2⟩ := hrel
        have HC2 := Lib.hid ((HB2.out.block w.heap.size (by have := HS1.out; omega)).trans HC1.out)
        have hsz2 := HS2.out
        have hszo := HS1.out
        have hlc := block_lt HC2.out
        have hlg := block_lt HG2.out
        rcases (by omega : f = 0 ∨ f = 1 ∨ f = 2 ∨ f = 3 ∨ f = 4) with rfl | rfl | rfl | rfl | rfl
        · go_upto_region 7 with fail
          refine abs_wp ?_
          intro wb hwb
          have HG3 : Hid (wb.heap[wo.heap.size]? = some (.cells #[.int .i64 sp, .int .i64 sa, .int .i64 sb, .int .i64 sc, .int .i64 sd] 63 (0, 0))) := by rw [hwb]; exact HG2
          have HC3 : Hid (wb.heap[w.heap.size]? = some (.cells (csA (kp, ka, kb, kc, kd) (.slice none 0 0)) 89 (0, 0))) := by rw [hwb]; exact HC2
          have HB3 : Hid (Below wo.heap.size wo wb) := by rw [hwb]; exact HB2
          have HS3 : Hid (wo.heap.size + 1 ≤ wb.heap.size) := by rw [hwb]; exact HS2
          clear hwb HG2 HC2 HB2 HS2
          have c1 := block_cell HG3.out 1
          have d1 := block_cell HC3.out 1
          simp only [csA, List.getElem?_toArray, List.getElem?_cons_zero, List.getElem?_cons_succ] at c1 d1
          have hl3 := block_lt HG3.out
          have hm3 := block_lt HC3.out
          refine wp_region_pick [0, 1, 2, 3, 5, 6, 7, 10] [4, 8] [9] [11, 12] [11, 12] (by kernel_rfl) (by kernel_rfl) (by kernel_rfl) ?_
          refine pure_takeD 29 rfl (by rfl) ?vra0 ?hra0 ?rra0
          case hra0 => (intro w0 _; go_simp; try (with_reducible rfl))
          (try simp only [Act.put, List.setIfInBounds_toArray, List.set_cons_zero, List.set_cons_succ])
          refine pure_takeD 30 rfl (by rfl) ?vra1 ?hra1 ?rra1
          case hra1 => (intro w0 _; go_simp; try (with_reducible rfl))
          (try simp only [Act.put, List.setIfInBounds_toArray, List.set_cons_zero, List.set_cons_succ])
          refine pure_takeD 31 rfl (by rfl) ?vra2 ?hra2 ?rra2
          case hra2 => (intro w0 _; go_simp; try (with_reducible rfl))
          (try simp only [Act.put, List.setIfInBounds_toArray, List.set_cons_zero, List.set_cons_succ])
          refine pure_takeD 32 rfl (by rfl) ?vra3 ?hra3 ?rra3
          case hra3 => (intro w0 _; go_simp; try (with_reducible rfl))
          (try simp only [Act.put, List.setIfInBounds_toArray, List.set_cons_zero, List.set_cons_succ])
          refine pure_takeD 34 rfl (by rfl) ?vra4 ?hra4 ?rra4
          case hra4 => (intro w0 _; go_simp; try (with_reducible rfl))
          (try simp only [Act.put, List.setIfInBounds_toArray, List.set_cons_zero, List.set_cons_succ])
          refine pure_takeD 35 rfl (by rfl) ?vra5 ?hra5 ?rra5
          case hra5 => (intro w0 _; go_simp; try (with_reducible rfl))
          (try simp only [Act.put, List.setIfInBounds_toArray, List.set_cons_zero, List.set_cons_succ])
          refine pure_takeD 36 rfl (by rfl) ?vra6 ?hra6 ?rra6
          case hra6 => (intro w0 _; go_simp; try (with_reducible rfl))
          (try simp only [Act.put, List.setIfInBounds_toArray, List.set_cons_zero, List.set_cons_succ])
          refine pure_takeD 39 rfl (by rfl) ?vra7 ?hra7 ?rra7
          case hra7 => (intro w0 _; go_simp; try (with_reducible rfl))
          (try simp only [Act.put, List.setIfInBounds_toArray, List.set_cons_zero, List.set_cons_succ])
          refine pure_end ?_
          (try dsimp only)
          refine pure_takeD 33 rfl (by rfl) ?wra0 ?kra0 ?sra0
          case kra0 => (rintro w0 ⟨kz, rfl⟩; go_simp; try (with_reducible rfl))
          (try simp only [Act.put, List.setIfInBounds_toArray, List.set_cons_zero, List.set_cons_succ])
          refine pure_takeD 37 rfl (by rfl) ?wra1 ?kra1 ?sra1
          case kra1 => (rintro w0 ⟨kz, rfl⟩; go_simp; try (with_reducible rfl))
          (try simp only [Act.put, List.setIfInBounds_toArray, List.set_cons_zero, List.set_cons_succ])
          refine pure_end ?_
          (try dsimp only)
          intro kz
          refine keep_call (by rfl) 122 #[.int .i64 sa, .int .i64 ka] ?hcra ?_
          case hcra => (go_simp; try rfl)
          refine (came_c sa ka kz.val).mono ?_
          rintro e w6 ⟨rfl, hb6⟩
          have hszk := kz.kp.size
          have HB6 := Lib.hid (kz.kp.trans (hb6.mono hszk))
          refine ⟨_, rfl, ⟨⟨w6, HB6.out⟩, rfl⟩, ?_⟩
          have HG6 := Lib.hid ((HB6.out.block _ hl3).trans HG3.out)
          have HB7 := Lib.hid (HB3.out.trans (HB6.out.mono HB3.out.size))
          have HS6 := Lib.hid (show wo.heap.size + 1 ≤ w6.heap.size from Nat.le_trans HS3.out HB6.out.size)
          clear hb6 HG3 HC3 HB3 HS3 c1 d1 HB6 hszk
          have c1 := block_cell HG6.out 1
          have f1 := block_free HG6.out 1
          simp only [List.getElem?_toArray, List.getElem?_cons_zero, List.getElem?_cons_succ] at c1
          show wpList _ _ _ _ _ _
          go_wp2_with fail
          refine NoPanic.normal ?_
          have HG8 := Lib.hid (heap_setCell_same w6 wo.heap.size 1 _ 63 (.int .i64 (cameF sa ka)) HG6.out)
          have HB8 := Lib.hid (HB7.out.setCell (p := ⟨wo.heap.size, 1, none⟩) (Nat.le_refl _) (.int .i64 (cameF sa ka)))
          have HS8 : Hid (wo.heap.size + 1 ≤ (w6.setCell ⟨wo.heap.size, 1, none⟩ (.int .i64 (cameF sa ka))).heap.size) := Lib.hid (by simpa using HS6.out)
          clear HG6 HB7 HS6 c1 f1 HC1 HR1
          go_wp2_with fail
          go_roundw
          case rel => exact ⟨1, by first | rfl | go_num, by omega, HG8, HB8, HS8⟩
          case measure => first | omega | (simp [intOf]) | (simp [intOf]; omega)
        · go_upto_region 7 with fail
          refine abs_wp ?_
          intro wb hwb
          have HG3 : Hid (wb.heap[wo.heap.size]? = some (.cells #[.int .i64 sp, .int .i64 (cameF sa ka), .int .i64 sb, .int .i64 sc, .int .i64 sd] 63 (0, 0))) := by rw [hwb]; exact HG2
          have HC3 : Hid (wb.heap[w.heap.size]? = some (.cells (csA (kp, ka, kb, kc, kd) (.slice none 0 0)) 89 (0, 0))) := by rw [hwb]; exact HC2
          have HB3 : Hid (Below wo.heap.size wo wb) := by rw [hwb]; exact HB2
          have HS3 : Hid (wo.heap.size + 1 ≤ wb.heap.size) := by rw [hwb]; exact HS2
          clear hwb HG2 HC2 HB2 HS2
          have c1 := block_cell HG3.out 2
          have d1 := block_cell HC3.out 2
          simp only [csA, List.getElem?_toArray, List.getElem?_cons_zero, List.getElem?_cons_succ] at c1 d1
          have hl3 := block_lt HG3.out
          have hm3 := block_lt HC3.out
          refine wp_region_pick [0, 1, 2, 3, 5, 6, 7, 10] [4, 8] [9] [11, 12] [11, 12] (by kernel_rfl) (by kernel_rfl) (by kernel_rfl) ?_
          refine pure_takeD 29 rfl (by rfl) ?vrb0 ?hrb0 ?rrb0
          case hrb0 => (intro w0 _; go_simp; try (with_reducible rfl))
          (try simp only [Act.put, List.setIfInBounds_toArray, List.set_cons_zero, List.set_cons_succ])
          refine pure_takeD 30 rfl (by rfl) ?vrb1 ?hrb1 ?rrb1
          case hrb1 => (intro w0 _; go_simp; try (with_reducible rfl))
          (try simp only [Act.put, List.setIfInBounds_toArray, List.set_cons_zero, List.set_cons_succ])
          refine pure_takeD 31 rfl (by rfl) ?vrb2 ?hrb2 ?rrb2
          case hrb2 => (intro w0 _; go_simp; try (with_reducible rfl))
          (try simp only [Act.put, List.setIfInBounds_toArray, List.set_cons_zero, List.set_cons_succ])
          refine pure_takeD 32 rfl (by rfl) ?vrb3 ?hrb3 ?rrb3
          case hrb3 => (intro w0 _; go_simp; try (with_reducible rfl))
          (try simp only [Act.put, List.setIfInBounds_toArray, List.set_cons_zero, List.set_cons_succ])
          refine pure_takeD 34 rfl (by rfl) ?vrb4 ?hrb4 ?rrb4
          case hrb4 => (intro w0 _; go_simp; try (with_reducible rfl))
          (try simp only [Act.put, List.setIfInBounds_toArray, List.set_cons_zero, List.set_cons_succ])
          refine pure_takeD 35 rfl (by rfl) ?vrb5 ?hrb5 ?rrb5
          case hrb5 => (intro w0 _; go_simp; try (with_reducible rfl))
          (try simp only [Act.put, List.setIfInBounds_toArray, List.set_cons_zero, List.set_cons_succ])
          refine pure_takeD 36 rfl (by rfl) ?vrb6 ?hrb6 ?rrb6
          case hrb6 => (intro w0 _; go_simp; try (with_reducible rfl))
          (try simp only [Act.put, List.setIfInBounds_toArray, List.set_cons_zero, List.set_cons_succ])
          refine pure_takeD 39 rfl (by rfl) ?vrb7 ?hrb7 ?rrb7
          case hrb7 => (intro w0 _; go_simp; try (with_reducible rfl))
          (try simp only [Act.put, List.setIfInBounds_toArray, List.set_cons_zero, List.set_cons_succ])
          refine pure_end ?_
          (try dsimp only)
          refine pure_takeD 33 rfl (by rfl) ?wrb0 ?krb0 ?srb0
          case krb0 => (rintro w0 ⟨kz, rfl⟩; go_simp; try (with_reducible rfl))
          (try simp only [Act.put, List.setIfInBounds_toArray, List.set_cons_zero, List.set_cons_succ])
          refine pure_takeD 37 rfl (by rfl) ?wrb1 ?krb1 ?srb1
          case krb1 => (rintro w0 ⟨kz, rfl⟩; go_simp; try (with_reducible rfl))
          (try simp only [Act.put, List.setIfInBounds_toArray, List.set_cons_zero, List.set_cons_succ])
          refine pure_end ?_
          (try dsimp only)
          intro kz
          refine keep_call (by rfl) 122 #[.int .i64 sb, .int .i64 kb] ?hcrb ?_
          case hcrb => (go_simp; try rfl)
          refine (came_c sb kb kz.val).mono ?_
          rintro e w6 ⟨rfl, hb6⟩
          have hszk := kz.kp.size
          have HB6 := Lib.hid (kz.kp.trans (hb6.mono hszk))
          refine ⟨_, rfl, ⟨⟨w6, HB6.out⟩, rfl⟩, ?_⟩
          have HG6 := Lib.hid ((HB6.out.block _ hl3).trans HG3.out)
          have HB7 := Lib.hid (HB3.out.trans (HB6.out.mono HB3.out.size))
          have HS6 := Lib.hid (show wo.heap.size + 1 ≤ w6.heap.size from Nat.le_trans HS3.out HB6.out.size)
          clear hb6 HG3 HC3 HB3 HS3 c1 d1 HB6 hszk
          have c1 := block_cell HG6.out 2
          have f1 := block_free HG6.out 2
          simp only [List.getElem?_toArray, List.getElem?_cons_zero, List.getElem?_cons_succ] at c1
          show wpList _ _ _ _ _ _
          go_wp2_with fail
          refine NoPanic.normal ?_
          have HG8 := Lib.hid (heap_setCell_same w6 wo.heap.size 2 _ 63 (.int .i64 (cameF sb kb)) HG6.out)
          have HB8 := Lib.hid (HB7.out.setCell (p := ⟨wo.heap.size, 2, none⟩) (Nat.le_refl _) (.int .i64 (cameF sb kb)))
          have HS8 : Hid (wo.heap.size + 1 ≤ (w6.setCell ⟨wo.heap.size, 2, none⟩ (.int .i64 (cameF sb kb))).heap.size) := Lib.hid (by simpa using HS6.out)
          clear HG6 HB7 HS6 c1 f1 HC1 HR1
          go_wp2_with fail
          go_roundw
          case rel => exact ⟨2, by first | rfl | go_num, by omega, HG8, HB8, HS8⟩
          case measure => first | omega | (simp [intOf]) | (simp [intOf]; omega)
        · go_upto_region 7 with fail
          refine abs_wp ?_
          intro wb hwb
          have HG3 : Hid (wb.heap[wo.heap.size]? = some (.cells #[.int .i64 sp, .int .i64 (cameF sa ka), .int .i64 (cameF sb kb), .int .i64 sc, .int .i64 sd] 63 (0, 0))) := by rw [hwb]; exact HG2
          have HC3 : Hid (wb.heap[w.heap.size]? = some (.cells (csA (kp, ka, kb, kc, kd) (.slice none 0 0)) 89 (0, 0))) := by rw [hwb]; exact HC2
          have HB3 : Hid (Below wo.heap.size wo wb) := by rw [hwb]; exact HB2
          have HS3 : Hid (wo.heap.size + 1 ≤ wb.heap.size) := by rw [hwb]; exact HS2
          clear hwb HG2 HC2 HB2 HS2
          have c1 := block_cell HG3.out 3
          have d1 := block_cell HC3.out 3
          simp only [csA, List.getElem?_toArray, List.getElem?_cons_zero, List.getElem?_cons_succ] at c1 d1
          have hl3 := block_lt HG3.out
          have hm3 := block_lt HC3.out
          refine wp_region_pick [0, 1, 2, 3, 5, 6, 7, 10] [4, 8] [9] [11, 12] [11, 12] (by kernel_rfl) (by kernel_rfl) (by kernel_rfl) ?_
          refine pure_takeD 29 rfl (by rfl) ?vrc0 ?hrc0 ?rrc0
          case hrc0 => (intro w0 _; go_simp; try (with_reducible rfl))
          (try simp only [Act.put, List.setIfInBounds_toArray, List.set_cons_zero, List.set_cons_succ])
          refine pure_takeD 30 rfl (by rfl) ?vrc1 ?hrc1 ?rrc1
          case hrc1 => (intro w0 _; go_simp; try (with_reducible rfl))
          (try simp only [Act.put, List.setIfInBounds_toArray, List.set_cons_zero, List.set_cons_succ])
          refine pure_takeD 31 rfl (by rfl) ?vrc2 ?hrc2 ?rrc2
          case hrc2 => (intro w0 _; go_simp; try (with_reducible rfl))
          (try simp only [Act.put, List.setIfInBounds_toArray, List.set_cons_zero, List.set_cons_succ])
          refine pure_takeD 32 rfl (by rfl) ?vrc3 ?hrc3 ?rrc3
          case hrc3 => (intro w0 _; go_simp; try (with_reducible rfl))
          (try simp only [Act.put, List.setIfInBounds_toArray, List.set_cons_zero, List.set_cons_succ])
          refine pure_takeD 34 rfl (by rfl) ?vrc4 ?hrc4 ?rrc4
          case hrc4 => (intro w0 _; go_simp; try (with_reducible rfl))
          (try simp only [Act.put, List.setIfInBounds_toArray, List.set_cons_zero, List.set_cons_succ])
          refine pure_takeD 35 rfl (by rfl) ?vrc5 ?hrc5 ?rrc5
          case hrc5 => (intro w0 _; go_simp; try (with_reducible rfl))
          (try simp only [Act.put, List.setIfInBounds_toArray, List.set_cons_zero, List.set_cons_succ])
          refine pure_takeD 36 rfl (by rfl) ?vrc6 ?hrc6 ?rrc6
          case hrc6 => (intro w0 _; go_simp; try (with_reducible rfl))
          (try simp only [Act.put, List.setIfInBounds_toArray, List.set_cons_zero, List.set_cons_succ])
          refine pure_takeD 39 rfl (by rfl) ?vrc7 ?hrc7 ?rrc7
          case hrc7 => (intro w0 _; go_simp; try (with_reducible rfl))
          (try simp only [Act.put, List.setIfInBounds_toArray, List.set_cons_zero, List.set_cons_succ])
          refine pure_end ?_
          (try dsimp only)
          refine pure_takeD 33 rfl (by rfl) ?wrc0 ?krc0 ?src0
          case krc0 => (rintro w0 ⟨kz, rfl⟩; go_simp; try (with_reducible rfl))
          (try simp only [Act.put, List.setIfInBounds_toArray, List.set_cons_zero, List.set_cons_succ])
          refine pure_takeD 37 rfl (by rfl) ?wrc1 ?krc1 ?src1
          case krc1 => (rintro w0 ⟨kz, rfl⟩; go_simp; try (with_reducible rfl))
          (try simp only [Act.put, List.setIfInBounds_toArray, List.set_cons_zero, List.set_cons_succ])
          refine pure_end ?_
          (try dsimp only)
          intro kz
          refine keep_call (by rfl) 122 #[.int .i64 sc, .int .i64 kc] ?hcrc ?_
          case hcrc => (go_simp; try rfl)
          refine (came_c sc kc kz.val).mono ?_
          rintro e w6 ⟨rfl, hb6⟩
          have hszk := kz.kp.size
          have HB6 := Lib.hid (kz.kp.trans (hb6.mono hszk))
          refine ⟨_, rfl, ⟨⟨w6, HB6.out⟩, rfl⟩, ?_⟩
          have HG6 := Lib.hid ((HB6.out.block _ hl3).trans HG3.out)
          have HB7 := Lib.hid (HB3.out.trans (HB6.out.mono HB3.out.size))
          have HS6 := Lib.hid (show wo.heap.size + 1 ≤ w6.heap.size from Nat.le_trans HS3.out HB6.out.size)
          clear hb6 HG3 HC3 HB3 HS3 c1 d1 HB6 hszk
          have c1 := block_cell HG6.out 3
          have f1 := block_free HG6.out 3
          simp only [List.getElem?_toArray, List.getElem?_cons_zero, List.getElem?_cons_succ] at c1
          show wpList _ _ _ _ _ _
          go_wp2_with fail
          refine NoPanic.normal ?_
          have HG8 := Lib.hid (heap_setCell_same w6 wo.heap.size 3 _ 63 (.int .i64 (cameF sc kc)) HG6.out)
          have HB8 := Lib.hid (HB7.out.setCell (p := ⟨wo.heap.size, 3, none⟩) (Nat.le_refl _) (.int .i64 (cameF sc kc)))
          have HS8 : Hid (wo.heap.size + 1 ≤ (w6.setCell ⟨wo.heap.size, 3, none⟩ (.int .i64 (cameF sc kc))).heap.size) := Lib.hid (by simpa using HS6.out)
          clear HG6 HB7 HS6 c1 f1 HC1 HR1
          go_wp2_with fail
          go_roundw
          case rel => exact ⟨3, by first | rfl | go_num, by omega, HG8, HB8, HS8⟩
          case measure => first | omega | (simp [intOf]) | (simp [intOf]; omega)
        · go_upto_region 7 with fail
          refine abs_wp ?_
          intro wb hwb
          have HG3 : Hid (wb.heap[wo.heap.size]? = some (.cells #[.int .i64 sp, .int .i64 (cameF sa ka), .int .i64 (cameF sb kb), .int .i64 (cameF sc kc), .int .i64 sd] 63 (0, 0))) := by rw [hwb]; exact HG2
          have HC3 : Hid (wb.heap[w.heap.size]? = some (.cells (csA (kp, ka, kb, kc, kd) (.slice none 0 0)) 89 (0, 0))) := by rw [hwb]; exact HC2
          have HB3 : Hid (Below wo.heap.size wo wb) := by rw [hwb]; exact HB2
          have HS3 : Hid (wo.heap.size + 1 ≤ wb.heap.size) := by rw [hwb]; exact HS2
          clear hwb HG2 HC2 HB2 HS2
          have c1 := block_cell HG3.out 4
          have d1 := block_cell HC3.out 4
          simp only [csA, List.getElem?_toArray, List.getElem?_cons_zero, List.getElem?_cons_succ] at c1 d1
          have hl3 := block_lt HG3.out
          have hm3 := block_lt HC3.out
          refine wp_region_pick [0, 1, 2, 3, 5, 6, 7, 10] [4, 8] [9] [11, 12] [11, 12] (by kernel_rfl) (by kernel_rfl) (by kernel_rfl) ?_
          refine pure_takeD 29 rfl (by rfl) ?vrd0 ?hrd0 ?rrd0
          case hrd0 => (intro w0 _; go_simp; try (with_reducible rfl))
          (try simp only [Act.put, List.setIfInBounds_toArray, List.set_cons_zero, List.set_cons_succ])
          refine pure_takeD 30 rfl (by rfl) ?vrd1 ?hrd1 ?rrd1
          case hrd1 => (intro w0 _; go_simp; try (with_reducible rfl))
          (try simp only [Act.put, List.setIfInBounds_toArray, List.set_cons_zero, List.set_cons_succ])
          refine pure_takeD 31 rfl (by rfl) ?vrd2 ?hrd2 ?rrd2
          case hrd2 => (intro w0 _; go_simp; try (with_reducible rfl))
          (try simp only [Act.put, List.setIfInBounds_toArray, List.set_cons_zero, List.set_cons_succ])
          refine pure_takeD 32 rfl (by rfl) ?vrd3 ?hrd3 ?rrd3
          case hrd3 => (intro w0 _; go_simp; try (with_reducible rfl))
          (try simp only [Act.put, List.setIfInBounds_toArray, List.set_cons_zero, List.set_cons_succ])
          refine pure_takeD 34 rfl (by rfl) ?vrd4 ?hrd4 ?rrd4
          case hrd4 => (intro w0 _; go_simp; try (with_reducible rfl))
          (try simp only [Act.put, List.setIfInBounds_toArray, List.set_cons_zero, List.set_cons_succ])
          refine pure_takeD 35 rfl (by rfl) ?vrd5 ?hrd5 ?rrd5
          case hrd5 => (intro w0 _; go_simp; try (with_reducible rfl))
          (try simp only [Act.put, List.setIfInBounds_toArray, List.set_cons_zero, List.set_cons_succ])
          refine pure_takeD 36 rfl (by rfl) ?vrd6 ?hrd6 ?rrd6
          case hrd6 => (intro w0 _; go_simp; try (with_reducible rfl))
          (try simp only [Act.put, List.setIfInBounds_toArray, List.set_cons_zero, List.set_cons_succ])
          refine pure_takeD 39 rfl (by rfl) ?vrd7 ?hrd7 ?rrd7
          case hrd7 => (intro w0 _; go_simp; try (with_reducible rfl))
          (try simp only [Act.put, List.setIfInBounds_toArray, List.set_cons_zero, List.set_cons_succ])
          refine pure_end ?_
          (try dsimp only)
          refine pure_takeD 33 rfl (by rfl) ?wrd0 ?krd0 ?srd0
          case krd0 => (rintro w0 ⟨kz, rfl⟩; go_simp; try (with_reducible rfl))
          (try simp only [Act.put, List.setIfInBounds_toArray, List.set_cons_zero, List.set_cons_succ])
          refine pure_takeD 37 rfl (by rfl) ?wrd1 ?krd1 ?srd1
          case krd1 => (rintro w0 ⟨kz, rfl⟩; go_simp; try (with_reducible rfl))
          (try simp only [Act.put, List.setIfInBounds_toArray, List.set_cons_zero, List.set_cons_succ])
          refine pure_end ?_
          (try dsimp only)
          intro kz
          refine keep_call (by rfl) 122 #[.int .i64 sd, .int .i64 kd] ?hcrd ?_
          case hcrd => (go_simp; try rfl)
          refine (came_c sd kd kz.val).mono ?_
          rintro e w6 ⟨rfl, hb6⟩
          have hszk := kz.kp.size
          have HB6 := Lib.hid (kz.kp.trans (hb6.mono hszk))
          refine ⟨_, rfl, ⟨⟨w6, HB6.out⟩, rfl⟩, ?_⟩
          have HG6 := Lib.hid ((HB6.out.block _ hl3).trans HG3.out)
          have HB7 := Lib.hid (HB3.out.trans (HB6.out.mono HB3.out.size))
          have HS6 := Lib.hid (show wo.heap.size + 1 ≤ w6.heap.size from Nat.le_trans HS3.out HB6.out.size)
          clear hb6 HG3 HC3 HB3 HS3 c1 d1 HB6 hszk
          have c1 := block_cell HG6.out 4
          have f1 := block_free HG6.out 4
          simp only [List.getElem?_toArray, List.getElem?_cons_zero, List.getElem?_cons_succ] at c1
          show wpList _ _ _ _ _ _
          go_wp2_with fail
          refine NoPanic.normal ?_
          have HG8 := Lib.hid (heap_setCell_same w6 wo.heap.size 4 _ 63 (.int .i64 (cameF sd kd)) HG6.out)
          have HB8 := Lib.hid (HB7.out.setCell (p := ⟨wo.heap.size, 4, none⟩) (Nat.le_refl _) (.int .i64 (cameF sd kd)))
          have HS8 : Hid (wo.heap.size + 1 ≤ (w6.setCell ⟨wo.heap.size, 4, none⟩ (.int .i64 (cameF sd kd))).heap.size) := Lib.hid (by simpa using HS6.out)
          clear HG6 HB7 HS6 c1 f1 HC1 HR1
          go_wp2_with fail
          go_roundw
          case rel => exact ⟨4, by first | rfl | go_num, by omega, HG8, HB8, HS8⟩
          case measure => first | omega | (simp [intOf]) | (simp [intOf]; omega)
        · have HS0 := HS1
          have HR2 := Lib.hid ((HB2.out.block (w.heap.size + 1) (by have := HS1.out; omega)).trans HR1.out)
          have HG3 : Hid (wr.heap[wo.heap.size]? = some (.cells #[.int .i64 sp, .int .i64 (cameF sa ka), .int .i64 (cameF sb kb), .int .i64 (cameF sc kc), .int .i64 (cameF sd kd)] 63 (0, 0))) := HG2
          have c5 := block_cell HC2.out 5
          simp only [csA, List.getElem?_toArray, List.getElem?_cons_zero, List.getElem?_cons_succ] at c5
          clear HG2 HC1 HR1
          go_wp2_with (refine stop_load 63 _ rfl ?_)
          obtain ⟨f63, hu63⟩ := und63
          refine Stop.go (wpList_load_row rfl 63 _ rfl wo.heap.size rfl 63 _ (0, 0) _ HG3.out hu63 rfl inf63 ?_)
          clear hu63
          go_wp2_with (at_builtin; refine stop_list ?_)
          refine Stop.go (abs_list ?_)
          intro w7 e7
          have hb7 : Below wr.heap.size wr w7 := by rw [e7]; exact grow1 wr _
          have hg7 : w7.heap[wr.heap.size]? = some (.cells #[.int .i64 sp, .int .i64 (cameF sa ka), .int .i64 (cameF sb kb), .int .i64 (cameF sc kc), .int .i64 (cameF sd kd)] 63 (0, 0)) := by rw [e7]; exact heap_alloc_new wr _
          have HB7 := Lib.hid (HB2.out.trans (hb7.mono HB2.out.size))
          clear e7
          refine wpList_push1 el39 rfl _ _ rfl (w.heap.size + 1 + 1) (.slice none 0 0) 0 [] rfl (own_nil _ _ _ _) wr.heap.size rfl _ hg7 rfl rfl (by omega) (by have := hb7.size; omega) ?_
          intro gn capn w8 hown8 hgr8 _ hlt8
          have HO8 : Hid (w8.ownsRow (w.heap.size + 1 + 1) 63 5 (.slice (some ⟨gn, 0, none⟩) 1 capn) 1 (flatR stE [cameS (kp, ka, kb, kc, kd) (sp, sa, sb, sc, sd)])) := Lib.hid (by simpa [flatR, stE, stA, cameS] using hown8)
          have HB8 := Lib.hid (HBw.out.trans ((HB7.out.mono (B' := w.heap.size) (by omega)).grown hgr8 (by have := HB7.out.size; omega) fun j hj => by simp [Value.ownBlock] at hj))
          have HC8 := Lib.hid ((hgr8.block _ (by have := hb7.size; omega) (by simp [Value.ownBlock])).trans ((hb7.block _ (by omega)).trans HC2.out))
          have HR8 := Lib.hid ((hgr8.block _ (by have := hb7.size; omega) (by simp [Value.ownBlock])).trans ((hb7.block _ (by omega)).trans HR2.out))
          have HS8 := Lib.hid (show w.heap.size + 1 + 1 ≤ w8.heap.size by have := hgr8.size; have := hb7.size; omega)
          have hgb := (HO8.out.lt gn rfl).1
          clear hown8 hgr8 hb7 hg7 HB7 HC2 HR2 HG3 c5 hlc hlg
          have c5 := block_cell HC8.out 5
          have f5 := block_free HC8.out 5
          have hl8 := block_lt HC8.out
          simp only [csA, List.getElem?_toArray, List.getElem?_cons_zero, List.getElem?_cons_succ] at c5
          go_wp2_with fail
          have HC9 := Lib.hid (heap_setCell_same w8 w.heap.size 5 _ 89 (.slice (some ⟨gn, 0, none⟩) 1 capn) HC8.out)
          have HR9 := Lib.hid ((heap_setCell_other w8 ⟨w.heap.size, 5, none⟩ _ (.slice (some ⟨gn, 0, none⟩) 1 capn) (by dsimp only; omega)).trans HR8.out)
          have HB9 := Lib.hid (HB8.out.setCell (p := ⟨w.heap.size, 5, none⟩) (Nat.le_refl _) (.slice (some ⟨gn, 0, none⟩) 1 capn))
          have HO9 := Lib.hid (own_blk (w' := w8.setCell ⟨w.heap.size, 5, none⟩ (.slice (some ⟨gn, 0, none⟩) 1 capn)) HO8.out fun j hj => heap_setCell_other _ _ _ _ (by have := (HO8.out.lt j hj).1; dsimp only; omega))
          have HS9 : Hid (w.heap.size + 1 + 1 ≤ (w8.setCell ⟨w.heap.size, 5, none⟩ (.slice (some ⟨gn, 0, none⟩) 1 capn)).heap.size) := Lib.hid (by simpa using HS8.out)
          go_roundw
          case rel => exact .inr ⟨by first | rfl | go_num, gn, capn, HC9, HR9, HO9, HB9, HS9⟩
          case measure => first | omega | (simp [intOf]) | (simp [intOf]; omega)
    · have hsx := HSx.out
      have c5 := block_cell HCx.out 5
      simp only [csA, List.getElem?_toArray, List.getElem?_cons_zero, List.getElem?_cons_succ] at c5
      have hlx := block_lt HCx.out
      have f5 := block_free HCx.out 5
      go_wp2_with (first | (go_at_call 123; refine (sort123_c _ _ _ _ _ (by omega)).mono ?_; rintro e w2 ⟨rfl, rfl⟩) | (go_at_call 125; refine (compact125_c _ _ _ _ (by omega)).mono ?_; rintro e w3 ⟨rfl, rfl⟩) | (refine stop_load 89 _ rfl ?_) | go_in)
      have HC9 := Lib.hid (heap_setCell_same wr w.heap.size 5 _ 89 (.slice (some ⟨g2, 0, none⟩) 1 cap2) HCx.out)
      have HR9 := Lib.hid ((heap_setCell_other wr ⟨w.heap.size, 5, none⟩ _ (.slice (some ⟨g2, 0, none⟩) 1 cap2) (by dsimp only; omega)).trans HRx.out)
      have HB9 := Lib.hid (HBx.out.setCell (p := ⟨w.heap.size, 5, none⟩) (Nat.le_refl _) (.slice (some ⟨g2, 0, none⟩) 1 cap2))
      have HO9 := Lib.hid (own_blk (w' := wr.setCell ⟨w.heap.size, 5, none⟩ (.slice (some ⟨g2, 0, none⟩) 1 cap2)) HOx.out fun j hj => heap_setCell_other _ _ _ _ (by have := (HOx.out.lt j hj).1; dsimp only; omega))
      clear HCx HRx HBx HOx c5 f5
      obtain ⟨f89, hu89⟩ := und89
      refine Stop.go (wpList_load_row rfl 89 _ rfl w.heap.size rfl 89 _ (0, 0) _ HC9.out hu89 rfl inf89 ?_)
      clear hu89
      refine wpList_store_o rfl 89 _ _ rfl (w.heap.size + 1) _ rfl rfl 89 _ HR9.out inf89 rfl rfl ?_
      intro w8 hg8 ho8
      have HB8 := Lib.hid (ho8.belowT HB9.out (by omega))
      have HG8 := Lib.hid hg8
      have HO8 := Lib.hid (own_blk (w' := w8) HO9.out fun j hj => ho8.block j (by have := (HO9.out.lt j hj).1; omega))
      clear hg8 ho8 HB9 HC9 HR9 HO9
      go_wp2_with fail
      exact ret89 Tryz.results87 rfl rfl HG8.out rfl ⟨_, rfl, own_mono HO8.out (by omega), HB8.out⟩
end Go.Proofs.YtekfkieimdgfkaaGreat
