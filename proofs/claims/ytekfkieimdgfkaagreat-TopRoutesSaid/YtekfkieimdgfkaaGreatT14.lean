/- What is proved here: the walk of the program's look at a topology. Condition: it may be by the document. -/
import Derived.Test.YtekfkieimdgfkaaGreatT08
import Derived.Test.YtekfkieimdgfkaaGreatT13
namespace Go.Proofs.YtekfkieimdgfkaaGreat
open Go Go.RowKit
attribute [local go_sem] KW.cell KW.frozen
theorem grown_alloc (w : World) (o : Obj) (row : Option Nat) : w.grownBy (w.alloc o) row := ⟨rfl, rfl, rfl, by simp, fun k hk _ => Below.heap_alloc w o k hk⟩
theorem grown_trans {a b c : World} {row : Option Nat} (h1 : a.grownBy b row) (h2 : b.grownBy c row) : a.grownBy c row :=
  ⟨h2.os.trans h1.os, h2.tape.trans h1.tape, h2.output.trans h1.output, Nat.le_trans h1.size h2.size, fun k hk hr => (h2.block k (Nat.lt_of_lt_of_le hk h1.size) hr).trans (h1.block k hk hr)⟩
theorem grown_set (w : World) (b : Nat) (o : Obj) : w.grownBy { w with heap := w.heap.setIfInBounds b o } (some b) :=
  ⟨rfl, rfl, rfl, by simp, fun k hk hr => by
    have : b ≠ k := fun e => hr (by rw [e])
    simp [Array.getElem?_setIfInBounds_ne this]⟩
theorem grown_refl (w : World) (row : Option Nat) : w.grownBy w row := ⟨rfl, rfl, rfl, Nat.le_refl _, fun _ _ _ => rfl⟩
theorem grown_drew (w : World) (row : Option Nat) : w.grownBy w.drew row := ⟨rfl, rfl, rfl, Nat.le_refl _, fun _ _ _ => rfl⟩
theorem Only.grown {g : Nat} {w w' : World} (h : Only g w w') : w.grownBy w' (some g) := ⟨h.os, h.tape, h.output, by rw [h.size]; exact Nat.le_refl _, fun k _ hr => h.block k (fun e => hr (by rw [e]))⟩
set_option maxRecDepth 100000 in
set_option maxHeartbeats 8000000 in
theorem topo28_c (n : Int) (lo ho : Option Addr) (lc hc : Nat) (ls : List Lk) (hs : List Ho) (w : World) (h1 : Rz 6 lkE (.slice lo ls.length lc) ls w) (h2 : Rz 2 hoE (.slice ho hs.length hc) hs w) (ht : TopoF n ls hs) :
    Ret 28 #[.agg #[.int .i64 n, .slice lo ls.length lc, .slice ho hs.length hc]] (.bool true) w := by
  obtain ⟨_, _, e1, l1, l2⟩ := h1.form
  obtain ⟨_, _, e2, l3, l4⟩ := h2.form
  cases e1
  cases e2
  have HT := Lib.hid ht
  obtain ⟨t1, t2, t3, t4, _, _⟩ := ht
  have d1 : decide (n < 1) = false := by simp; omega
  have d2 : decide (8 < n) = false := by simp; omega
  have d3 : decide ((24 : Int) < (ls.length : Int)) = false := by simp; omega
  have d4 : decide ((8 : Int) < (hs.length : Int)) = false := by simp; omega
  have hb0 := grow1 w (.cells #[.int .i64 n, .slice lo ls.length lc, .slice ho hs.length hc] 25)
  have HB := Lib.hid hb0
  have H1 := Lib.hid h1
  have H2 := Lib.hid h2
  clear hb0 h1 h2
  unfold Ret
  go_enter Tryz.func28, Tryz.ntmps28
  go_wp2_with fail
  refine abs_wp ?_
  intro wb hwb
  have hb0 : Below w.heap.size w wb := by rw [hwb]; exact HB.out
  have hg0 : wb.heap[w.heap.size]? = some (.cells #[.int .i64 n, .slice lo ls.length lc, .slice ho hs.length hc] 25 (0, 0)) := by rw [hwb]; exact heap_alloc_new w _
  have hg : w.heap.size < wb.heap.size := by rw [hwb]; simp
  have K1 := Lib.hid (H1.out.kept hb0)
  have K2 := Lib.hid (H2.out.kept hb0)
  have HB0 := Lib.hid hb0
  have HG0 := Lib.hid hg0
  clear hwb HB H1 H2 hb0 hg0
  go_loopw [31] (fun i wr => ∃ k : Nat, i = .int .i64 k ∧ k ≤ ls.length ∧ Hid (Below wb.heap.size wb wr)) (fun i _ => ls.length - (intOf i).toNat)
  case atStart => exact ⟨0, rfl, Nat.zero_le _, Lib.hid (Below.refl _ _)⟩
  case round =>
    obtain ⟨k, rfl, hk, HBr⟩ := hrel
    have hs0 := HBr.out.size
    by_cases hlt : k < ls.length
    · have hd : decide ((k : Int) < (ls.length : Int)) = true := by simp; omega
      have hk2 : (k : Int) < (ls.length : Int) := by omega
      obtain ⟨a, rfl, z1, e0, e1, e2, e3, e4, e5⟩ := lk_at (K1.out.kept HBr.out) k hlt
      obtain ⟨f1, f2, f3, f4, _, _⟩ := HT.out.2.2.2.2.1 _ (List.getElem_mem hlt)
      generalize (ls[k]).1 = x0 at *
      generalize (ls[k]).2.1 = x1 at *
      generalize (ls[k]).2.2.1 = x2 at *
      generalize (ls[k]).2.2.2.1 = x3 at *
      generalize (ls[k]).2.2.2.2.1 = x4 at *
      generalize (ls[k]).2.2.2.2.2 = x5 at *
      have c1 : (x0 == x2) = false := by rw [beq_eq_false_iff_ne]; exact f1
      have c2 : decide (x4 < 1) = false := by simp; omega
      have c3 : decide (x5 < x4) = false := by simp; omega
      have c4 : decide (1000 < x5) = false := by simp; omega
      clear f1
      have HB4 : Hid (Below wb.heap.size wb (wr.alloc (.cells #[.int .i64 x0, .int .i64 x1, .int .i64 x2, .int .i64 x3, .int .i64 x4, .int .i64 x5] 101))) := Lib.hid (HBr.out.alloc hs0 _)
      go_wp2_with fail
      go_roundw
      case rel => exact ⟨k + 1, by go_num, hlt, HB4⟩
      case measure => simp [intOf]; omega
    · obtain rfl : k = ls.length := by omega
      have hd : decide ((ls.length : Int) < (ls.length : Int)) = false := by simp
      have hg2 : w.heap.size < wr.heap.size := by omega
      have hm := @run_makeMap Tryz.prog
      have HGr := Lib.hid ((HBr.out.block w.heap.size hg).trans HG0.out)
      have HK1 := Lib.hid (K1.out.kept HBr.out)
      have HK2 := Lib.hid (K2.out.kept HBr.out)
      have HBw := Lib.hid (HB0.out.trans (HBr.out.mono (Nat.le_of_lt hg)))
      clear HBr K1 K2 HB0 HG0
      have c0 : (wr.alloc (.map #[] 0)).cell? ⟨w.heap.size, 0, none⟩ = some (.int .i64 n) := by
        rw [(grow1 wr (.map #[] 0)).cell (p := ⟨w.heap.size, 0, none⟩) hg2]
        have := block_cell HGr.out 0
        simpa using this
      have c1 : (wr.alloc (.map #[] 0)).cell? ⟨w.heap.size, 1, none⟩ = some (.slice lo ls.length lc) := by
        rw [(grow1 wr (.map #[] 0)).cell (p := ⟨w.heap.size, 1, none⟩) hg2]
        have := block_cell HGr.out 1
        simpa using this
      have c2 : (wr.alloc (.map #[] 0)).cell? ⟨w.heap.size, 2, none⟩ = some (.slice ho hs.length hc) := by
        rw [(grow1 wr (.map #[] 0)).cell (p := ⟨w.heap.size, 2, none⟩) hg2]
        have := block_cell HGr.out 2
        simpa using this
      go_wp2_with fail
      refine (places_c n lo ho lc hc ls hs _ (HK1.out.kept (grow1 wr _)) (HK2.out.kept (grow1 wr _)) (by omega) (by omega)).mono ?_
      rintro e w2 ⟨v, rfl, hrz, hb2⟩
      obtain ⟨L, hL⟩ : ∃ L, L = plsL ls ++ hs := ⟨_, rfl⟩
      rw [← hL] at hrz
      have HTP := Lib.hid (show ∀ (k : Nat) (hk : k < L.length), ((0 ≤ (L[k]).1 ∧ (L[k]).1 < n) ∧ 0 ≤ (L[k]).2 ∧ (L[k]).2 ≤ 7) ∧ L[k] ∉ L.take k from by subst hL; exact topo_places HT.out)
      clear hL HT
      obtain ⟨vo, vc, rfl, l5, l6⟩ := hrz.form
      have hs2 := hb2.size
      simp only [World.size_alloc] at hs2
      have HRZ := Lib.hid hrz
      have HM2 := Lib.hid ((MpI.made wr).blk (hb2.block wr.heap.size (by simp)))
      have HG2 := Lib.hid ((hb2.block w.heap.size (by simp; omega)).trans ((Below.heap_alloc wr _ _ hg2).trans HGr.out))
      have HB2 := Lib.hid (HBw.out.trans (((grow1 wr (.map #[] 0)).mono (by omega)).trans (hb2.mono (by simp; omega))))
      clear hb2 hrz HGr HK1 HK2 HBw c0 c1 c2 hs0
      go_wp2_with fail
      clear hm
      obtain ⟨wo, rfl⟩ : ∃ wo : World, wo = wr := ⟨_, rfl⟩
      go_loopw [62] (fun i wr => ∃ k : Nat, i = .int .i64 k ∧ k ≤ L.length ∧ Hid (MpI wo.heap.size (plvs (L.take k)) wr) ∧ Hid (w2.grownBy wr (some wo.heap.size))) (fun i _ => L.length - (intOf i).toNat)
      case atStart => exact ⟨0, rfl, Nat.zero_le _, HM2, Lib.hid (grown_refl _ _)⟩
      case round =>
        clear hlt hd
        obtain ⟨k, rfl, hk, HM, HGr⟩ := hrel
        have hs3 := HGr.out.size
        by_cases hlt : k < L.length
        · have hd : decide ((k : Int) < (L.length : Int)) = true := by simp; omega
          have hk2 : (k : Int) < (L.length : Int) := by omega
          obtain ⟨es0, cl0, hm0, _, _, _⟩ := HM2.out
          obtain ⟨a, rfl, z1, e0, e1⟩ := ho_at (HRZ.out.map (fun x => show 0 < (hoE x).length from Nat.succ_pos _) hm0 HGr.out) k hlt
          obtain ⟨⟨⟨f1, f2⟩, f3, f4⟩, hnin⟩ := HTP.out k hlt
          have HXs := Lib.hid (show plvs (L.take (k + 1)) = plvs (L.take k) ++ [plV (L[k]).1 (L[k]).2] by unfold plvs; rw [List.take_succ_eq_append_getElem hlt, List.map_append]; rfl)
          have HN := Lib.hid (show plV (L[k]).1 (L[k]).2 ∉ plvs (L.take k) from fun h => hnin (mem_plvs h))
          clear hm0 hnin
          obtain ⟨es, cl, hm1, hks, hkk, hst⟩ := HM.out
          have HMc := Lib.hid hm1
          have HST := Lib.hid hst
          have HKK := Lib.hid hkk
          have HKS := Lib.hid hks
          rw [← hks] at HN
          have HNE := Lib.hid (show ∀ e ∈ es.toList, e.key ≠ plV (L[k]).1 (L[k]).2 from fun e he h => HN.out (List.mem_map.2 ⟨e, he, h⟩))
          clear hm1 hst hkk hks HN
          generalize (L[k]).1 = x0 at *
          generalize (L[k]).2 = x1 at *
          obtain ⟨kl, hkl⟩ := key119 x0 x1 ⟨f1, by omega⟩ ⟨f3, by omega⟩
          have HKL := Lib.hid hkl
          clear hkl
          go_upto_region 13 with fail
          refine abs_wp ?_
          intro w4 e4
          have hb4 : Below wr.heap.size wr w4 := by rw [e4]; exact grow1 wr _
          have hg4 : w4.heap[wr.heap.size]? = some (.cells #[.int .i64 x0, .int .i64 x1] 119 (0, 0)) := by rw [e4]; exact heap_alloc_new wr _
          have hl4 := block_lt hg4
          have hlb := block_lt HMc.out
          have hm4 := (hb4.block _ hlb).trans HMc.out
          have HB4 := Lib.hid hb4
          have HG4 := Lib.hid hg4
          have HM4 := Lib.hid hm4
          clear e4 hb4 hg4 hm4
          refine wp_region_pickS (fun w' => w'.heap[wr.heap.size]? = some (.cells #[.int .i64 x0, .int .i64 x1] 119 (0, 0)) ∧ w4.grownBy w' (some wo.heap.size) ∧ ((w'.heap[wo.heap.size]? = some (.map es cl)) ∨ (w'.heap[wo.heap.size]? = some (.map (es.push ⟨plV x0 x1, .int .i64 0, cl⟩) (cl + 1)))))
            [0] [1, 2, 3] [4, 5] [6] [6] (by kernel_rfl) (by kernel_rfl) (by kernel_rfl) ⟨HG4.out, grown_drew _ _, .inl HM4.out⟩ ?_
          refine pure_take (by rfl) ?v0 ?h0 ?r0
          case h0 => (intro w0 _; go_simp; try (with_reducible rfl))
          obtain ⟨fs, hu119⟩ := und119
          refine pure_row (by rfl) 119 _ rfl wr.heap.size rfl #[.int .i64 x0, .int .i64 x1] 119 _ (fun w0 hw0 => hw0.1) hu119 rfl (by kernel_rfl) ?_
          clear hu119
          refine pure_take (by rfl) (.int .i64 0) (fun w0 hw0 => ?_) ?_
          · have hlk : (Instr.lookup 115 (.map (some wo.heap.size)) (plV x0 x1) false).run Tryz.prog w0 = .ok (.int .i64 0) w0 := by
              rcases hw0.2.2 with h | h
              · exact look_no h HKL.out HKK.out HNE.out
              · exact look_last _ _ _ h HKL.out HKK.out HNE.out
            go_simp
          refine pure_take (by rfl) (.int .i64 1) (fun w0 hw0 => ?_) ?_
          · first | (go_simp; done) | (go_simp; rfl) | (go_simp; decide)
          have hen := entry_no (w := w4.drew) (b := wo.heap.size) HM4.out HKL.out HKK.out HNE.out
          have hg5 : ({ w4.drew with heap := w4.drew.heap.setIfInBounds wo.heap.size (.map (es.push ⟨plV x0 x1, .int .i64 0, cl⟩) (cl + 1)) } : World).heap[wo.heap.size]? = some (.map (es.push ⟨plV x0 x1, .int .i64 0, cl⟩) (cl + 1)) := set_same (w := w4.drew) HM4.out
          have hw5 : w4.grownBy ({ w4.drew with heap := w4.drew.heap.setIfInBounds wo.heap.size (.map (es.push ⟨plV x0 x1, .int .i64 0, cl⟩) (cl + 1)) } : World) (some wo.heap.size) := grown_trans (grown_drew _ _) (grown_set _ _ _)
          obtain ⟨w5, e5⟩ : ∃ w5 : World, w5 = { w4.drew with heap := w4.drew.heap.setIfInBounds wo.heap.size (.map (es.push ⟨plV x0 x1, .int .i64 0, cl⟩) (cl + 1)) } := ⟨_, rfl⟩
          rw [← e5] at hen hg5 hw5
          clear e5
          have HG5 := Lib.hid ((hw5.block wr.heap.size hl4 (by simp; omega)).trans HG4.out)
          have HM5 := Lib.hid hg5
          have HW5 := Lib.hid hw5
          clear hg5 hw5
          refine keep_value (w' := w5) (by rfl) _ (by go_simp; rfl) ⟨HG5.out, HW5.out, .inr HM5.out⟩ ?_
          clear hen
          refine keep_value (w' := w5) (by rfl) (.int .i64 cl) (by go_simp) ⟨HG5.out, HW5.out, .inr HM5.out⟩ ?_
          show wpList _ _ _ _ _ _
          have hst := store_last (.int .i64 0) (.int .i64 1) HM5.out HST.out
          have hg6 : ({ w5 with heap := w5.heap.setIfInBounds wo.heap.size (.map (es.push ⟨plV x0 x1, .int .i64 1, cl⟩) (cl + 1)) } : World).heap[wo.heap.size]? = some (.map (es.push ⟨plV x0 x1, .int .i64 1, cl⟩) (cl + 1)) := set_same HM5.out
          have hw6 : w4.grownBy ({ w5 with heap := w5.heap.setIfInBounds wo.heap.size (.map (es.push ⟨plV x0 x1, .int .i64 1, cl⟩) (cl + 1)) } : World) (some wo.heap.size) := grown_trans HW5.out (grown_set _ _ _)
          obtain ⟨w6, e6⟩ : ∃ w6 : World, w6 = { w5 with heap := w5.heap.setIfInBounds wo.heap.size (.map (es.push ⟨plV x0 x1, .int .i64 1, cl⟩) (cl + 1)) } := ⟨_, rfl⟩
          rw [← e6] at hst hg6 hw6
          clear e6
          have HG6 := Lib.hid ((hw6.block wr.heap.size hl4 (by simp; omega)).trans HG4.out)
          have HM6 := Lib.hid hg6
          have HW6 := Lib.hid hw6
          clear hg6 hw6
          go_wp2_with fail
          refine NoPanic.normal ?_
          clear hst
          have HT6 := Lib.hid (show w2.grownBy w6 (some wo.heap.size) from grown_trans HGr.out (grown_trans ⟨HB4.out.os, HB4.out.tape, HB4.out.output, HB4.out.size, fun j hj _ => HB4.out.block j hj⟩ HW6.out))
          have HC6 := Lib.hid ((HT6.out.block w.heap.size (by omega) (by simp; omega)).trans HG2.out)
          have hlk := look_last _ _ _ HM6.out HKL.out HKK.out HNE.out
          have g0 := block_cell HG6.out 0
          have g1 := block_cell HG6.out 1
          have c0 := block_cell HC6.out 0
          have hl6 := block_lt HG6.out
          have hlc6 := block_lt HC6.out
          simp only [List.getElem?_toArray, List.getElem?_cons_zero, List.getElem?_cons_succ] at g0 g1 c0
          have b1 : decide (x0 < 0) = false := by simp; omega
          have b2 : decide (n ≤ x0) = false := by simp; omega
          have b3 : decide (x1 < 0) = false := by simp; omega
          have b4 : decide (8 ≤ x1) = false := by simp; omega
          have HMn : Hid (MpI wo.heap.size (plvs (L.take (k + 1))) w6) := Lib.hid (by rw [HXs.out]; exact MpI.push HM6.out HKL.out HKS.out HKK.out HST.out HNE.out)
          clear HM HGr HMc HST HKK HKS HNE HKL HM4 HG4 HB4 HM5 HG5 HW5 HM6 HW6 HG6 HC6 HXs
          go_wp2_with fail
          go_roundw
          case rel => exact ⟨k + 1, by go_num, hlt, HMn, HT6⟩
          case measure => simp [intOf]; omega
        · obtain rfl : k = L.length := by omega
          have hd : decide ((L.length : Int) < (L.length : Int)) = false := by simp
          have HF : Hid (Below w.heap.size w wr) := Lib.hid (by
            have h1 := HB2.out
            exact ⟨HGr.out.os.trans h1.os, HGr.out.tape.trans h1.tape, HGr.out.output.trans h1.output, Nat.le_trans h1.size HGr.out.size, fun j hj => (HGr.out.block j (by omega) (by simp; omega)).trans (h1.block j hj)⟩)
          clear HM HGr
          go_wp2_with fail
          go_ret
          exact ⟨rfl, HF.out⟩
end Go.Proofs.YtekfkieimdgfkaaGreat
