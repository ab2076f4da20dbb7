/- What is proved here: the cases of a policy at a switch. Condition: it may be; at most one packet comes; the cases can be compared. -/
import Derived.Test.YtekfkieimdgfkaaGreatT15
import Derived.Test.YtekfkieimdgfkaaGreatT24
namespace Go.Proofs.YtekfkieimdgfkaaGreat
open Go Go.RowKit
attribute [local go_sem] KW.cell KW.frozen
theorem cases_c (mk : Nat) (sw : Int) (d : Nat) (x : Pol) (u : Value) (vl : List Value) (vs : Int → List Int) (ho : OkR d x) : ∀ fs, CasesC mk sw d x u vl vs fs := by
  intro fs
  induction fs with
  | nil =>
    intro g i c k w hM _ _ _ _ hF
    exact cases_nil mk sw k d x u vl (some ⟨g, i, none⟩) c w hM.blk hM.pol ho hF.1 hF.2
  | cons f fs ih => exact cases_step mk sw d x u vl vs f fs ih
theorem mk_len {x : Pol} {u : Value} {sw : Int} {vs : List Value} : (mkL x u sw vs).length = 9 + vs.length := by simp [mkL, polL]; omega
theorem mk_val {x : Pol} {u : Value} {sw : Int} {vs : List Value} {mk : Nat} {w : World} (h : w.heap[mk]? = some (.cells (mkA x u sw vs) 132 (0, 0))) (j : Nat) (hj : j < vs.length) : w.cell? ⟨mk, 9 + j, none⟩ = some vs[j] := by
  rw [block_cell h, mk_get]
  unfold mkL
  rw [List.getElem?_append_right (by show 8 ≤ _; omega)]
  show (Value.int .i64 sw :: vs)[9 + j - 8]? = _
  rw [show 9 + j - 8 = j + 1 by omega, List.getElem?_cons_succ, List.getElem?_eq_getElem hj]
theorem mk_set {x : Pol} {u : Value} {sw : Int} {vs : List Value} {mk : Nat} {w : World} (h : w.heap[mk]? = some (.cells (mkA x u sw vs) 132 (0, 0))) (j : Nat) (v : Value) : (w.setCell ⟨mk, 9 + j, none⟩ v).heap[mk]? = some (.cells (mkA x u sw (vs.set j v)) 132 (0, 0)) := by
  rw [heap_setCell_same w mk (9 + j) _ 132 v h]
  congr 2
  apply Array.ext'
  simp only [mkA, Array.toList_setIfInBounds]
  unfold mkL
  rw [List.set_append_right _ _ (by show 8 ≤ _; omega)]
  show polL x u ++ (Value.int .i64 sw :: vs).set (9 + j - 8) v = _
  rw [show 9 + j - 8 = j + 1 by omega, List.set_cons_succ]
abbrev unknowns : Sn := (-1, -1, -1, -1, -1)
set_option maxRecDepth 100000 in
set_option maxHeartbeats 8000000 in
theorem cases36_c (sw : Int) (d : Nat) (x : Pol) (u : Value) (w : World) (hd5 : d ≤ 5) (hr : RdP AnyP d u x.l w) (hp : OkP d x) (hdp : DepP d x) (hsz : sizeF d x ≤ 64) (hwd : wideF d x ≤ 64) (y : Pol) (hy : atF sw d x = y)
    (ho : OkR d y) (hn : ∀ fl, (valsF fl d y).length ≤ 1000) (hc : cellsN (fun fl => (sv (valsF fl d y)).length) 5 ≤ 4096) (vs : Int → List Int) (hvs : vs = fun f => sv (valsF f d y)) (hF : FineC vs sw d y [4, 0, 1, 2, 3] unknowns) :
    Calls Tryz.prog 36 #[polV x u, .int .i64 sw] w fun e w' => ∃ v, e = .returned (.tuple #[v, .int .i64 0]) ∧ RdC w.heap.size v (casesF vs sw d y [4, 0, 1, 2, 3] unknowns) w' ∧ Below w.heap.size w w' := by
  obtain ⟨uo, uc, rfl, _, huc⟩ := hr.form
  have hov := (OkP.v hp).at_ (sw := sw) hdp
  rw [hy] at hov
  have X29 := Lib.hid (fun w' (h : RdP AnyP d (.slice uo x.l.length uc) x.l w') => right29_c d x (.slice uo x.l.length uc) w' hd5 h hp hsz hwd)
  have X65 := Lib.hid (fun w' (h : RdP AnyP (d + 1) (.slice uo x.l.length uc) x.l w') => at_c sw d x hp hdp (.slice uo x.l.length uc) w' h)
  have X35 := Lib.hid (fun u' w' (h : RdP AnyP (d + 1) u' y.l w') => cells_c d y u' w' hov.1 hov.2 h hn)
  have X31 := Lib.hid (fun (f : Int) u' w' (h : RdP AnyP (d + 1) u' y.l w') => values_c f d y u' w' hov.1 hov.2 h (hn f))
  have X66 := Lib.hid (fun mk u' vl => cases_c mk sw d y u' vl vs ho [4, 0, 1, 2, 3])
  have HVS := Lib.hid (show ∀ f, sv (valsF f d y) = vs f from fun f => by rw [hvs])
  have HF := Lib.hid hF
  have HRP := Lib.hid hr
  have HB := Lib.hid (grow1 w (.cells (polL x (.slice uo x.l.length uc)).toArray 55))
  have HG := Lib.hid (heap_alloc_new w (.cells (polL x (.slice uo x.l.length uc)).toArray 55))
  obtain ⟨nc, hnc⟩ : ∃ n, cellsN (fun fl => (sv (valsF fl d y)).length) 5 = n := ⟨_, rfl⟩
  rw [hnc] at hc X35
  have HNC := Lib.hid hnc
  have hd1 : decide ((4096 : Int) < nc) = false := by simp; omega
  obtain ⟨res, hres⟩ : ∃ r, casesF vs sw d y [4, 0, 1, 2, 3] unknowns = r := ⟨_, rfl⟩
  rw [hres]
  have HRES := Lib.hid hres
  unfold AtC at X65
  rw [hy] at X65
  clear hF hr hp hdp hsz hwd ho hn hvs hov hnc hres hy
  unfold polV at X29 X35 X31 X65 ⊢
  unfold Ret at X29 X35
  go_enter Tryz.func36, Tryz.ntmps36
  go_upto_region 1 with fail
  refine abs_wp ?_
  intro w1 hw1
  have HB1 : Hid (Below w.heap.size w w1) := by rw [hw1]; exact HB
  have HG1 : Hid (w1.heap[w.heap.size]? = some (.cells (polL x (.slice uo x.l.length uc)).toArray 55 (0, 0))) := by rw [hw1]; exact HG
  clear hw1 HB HG
  go_wp2_with (refine stop_load 55 _ rfl ?_)
  obtain ⟨f55, hu55⟩ := und55
  refine Stop.go (wpList_load_row rfl 55 _ rfl w.heap.size rfl 55 _ (0, 0) _ HG1.out hu55 rfl inf55 ?_)
  clear hu55
  have hnot : ∀ (x : Bool) (w : World), (Op.unary .not (.bool x)).run Tryz.prog w = .ok (.bool (!x)) w := fun _ _ => rfl
  go_wp2_with (first | (go_at_call 29; refine (X29.out w1 (HRP.out.kept HB1.out)).mono ?_; rintro e w2 ⟨rfl, hb2⟩; have HB2 := Lib.hid (HB1.out.trans (hb2.mono HB1.out.size)); have HG2 := Lib.hid ((hb2.block _ (block_lt HG1.out)).trans HG1.out); clear hb2 HB1 HG1 X29) | (refine stop_load 55 _ rfl ?_))
  obtain ⟨f55, hu55⟩ := und55
  refine Stop.go (wpList_load_row rfl 55 _ rfl w.heap.size rfl 55 _ (0, 0) _ HG2.out hu55 rfl inf55 ?_)
  clear hu55
  go_wp2_with (first | (go_at_call 65; refine (X65.out w2 (HRP.out.kept HB2.out).up).mono ?_; rintro e w3 ⟨u3, rfl, hr3, hb3⟩; have HB3 := Lib.hid (HB2.out.trans (hb3.mono HB2.out.size)); have HP3 := Lib.hid (hr3.mono (P' := fun g => g < w3.heap.size) fun g _ hg => hg); clear hb3 hr3 HB2 HG2 X65) | fail)
  have hb4a := grow1 w3 (.cells (mkA y u3 sw (List.replicate 5 (.slice none 0 0))) 132)
  have HM4a := Lib.hid (heap_alloc_new w3 (.cells (mkA y u3 sw (List.replicate 5 (.slice none 0 0))) 132))
  have HP4a := Lib.hid (HP3.out.kept hb4a)
  have HB4a := Lib.hid (HB3.out.alloc HB3.out.size (.cells (mkA y u3 sw (List.replicate 5 (.slice none 0 0))) 132))
  have hs3 := HB3.out.size
  have HS3 := Lib.hid hs3
  clear hb4a HP3 HB3 hs3
  refine (X35.out u3 _ (HP4a.out.mono (P' := AnyP) fun _ _ _ => trivial)).mono ?_
  rintro e w4 ⟨rfl, hb4⟩
  have HM4 := Lib.hid ((hb4.block _ (block_lt HM4a.out)).trans HM4a.out)
  have HP4 := Lib.hid (HP4a.out.kept hb4)
  have HB4 := Lib.hid (HB4a.out.trans (hb4.mono HB4a.out.size))
  clear hb4 HM4a HP4a HB4a X35
  obtain ⟨mk, hmk⟩ : ∃ mk, mk = w3.heap.size := ⟨_, rfl⟩
  rw [← hmk] at HM4 HP4 HS3 ⊢
  clear hmk
  go_wp2_with fail
  go_loopw [23] (fun i wr => ∃ j : Nat, i = .int .i64 j ∧ j ≤ 5 ∧ Hid (∃ vl : List Value, vl.length = 5 ∧ wr.heap[mk]? = some (.cells (mkA y u3 sw vl) 132 (0, 0)) ∧ (∀ f (h : f < vl.length), f < j → wr.ownsRow (mk + 1) 3 1 vl[f] (vs f).length (IV (vs f))) ∧ RdP (fun g => g < mk) (d + 1) u3 y.l wr) ∧ Hid (Below w.heap.size w wr)) (fun i _ => 5 - (intOf i).toNat)
  case atStart => exact ⟨0, rfl, Nat.zero_le _, Lib.hid ⟨List.replicate 5 (.slice none 0 0), rfl, HM4.out, fun f _ h => absurd h (by omega), HP4.out⟩, HB4⟩
  case round =>
    obtain ⟨j, rfl, hj, HA, HBr⟩ := hrel
    obtain ⟨vl, hl5, hm, hrows, hrp⟩ := HA.out
    have HM := Lib.hid hm
    have HRW := Lib.hid hrows
    have HPr := Lib.hid hrp
    have HL5 := Lib.hid hl5
    clear hm hrows hrp hl5 HA
    by_cases hlt : j < 5
    · have hd : decide ((j : Int) < 5) = true := by simp; omega
      have hj4 : (j : Int) ≤ 4 := by omega
      have hj0 : (0 : Int) ≤ (j : Int) := by omega
      have hj5 : (j : Int) < 5 := by omega
      go_upto_region 9 with fail
      refine abs_wp ?_
      intro wb hwb
      have HBb : Hid (Below w.heap.size w wb) := by rw [hwb]; exact HBr
      have HMb : Hid (wb.heap[mk]? = some (.cells (mkA y u3 sw vl) 132 (0, 0))) := by rw [hwb]; exact HM
      have HPb : Hid (RdP (fun g => g < mk) (d + 1) u3 y.l wb) := by rw [hwb]; exact HPr
      have HRb : Hid (∀ f (h : f < vl.length), f < j → wb.ownsRow (mk + 1) 3 1 vl[f] (vs f).length (IV (vs f))) := by rw [hwb]; exact HRW
      clear hwb HBr HM HPr HRW
      have hlm := block_lt HMb.out
      obtain ⟨f55, hu55⟩ := und55
      refine wp_region_pick [0, 1, 2, 3, 4, 6, 8, 9] [5] [7] [10, 11] [10, 11] (by kernel_rfl) (by kernel_rfl) (by kernel_rfl) ?_
      refine pure_takeD 26 rfl (by rfl) ?v0 ?h0 ?r0
      case h0 => (intro w0 _; go_simp; try (with_reducible rfl))
      (try simp only [Act.put, List.setIfInBounds_toArray, List.set_cons_zero, List.set_cons_succ])
      refine pure_takeD 27 rfl (by rfl) ?v1 ?h1 ?r1
      case h1 => (intro w0 _; go_simp; try (with_reducible rfl))
      (try simp only [Act.put, List.setIfInBounds_toArray, List.set_cons_zero, List.set_cons_succ])
      refine pure_takeD 28 rfl (by rfl) ?v2 ?h2 ?r2
      case h2 => (intro w0 _; go_simp; try (with_reducible rfl))
      (try simp only [Act.put, List.setIfInBounds_toArray, List.set_cons_zero, List.set_cons_succ])
      refine pure_takeD 29 rfl (by rfl) ?v3 ?h3 ?r3
      case h3 => (intro w0 _; go_simp; try (with_reducible rfl))
      (try simp only [Act.put, List.setIfInBounds_toArray, List.set_cons_zero, List.set_cons_succ])
      refine pure_takeD 30 rfl (by rfl) ?v4 ?h4 ?r4
      case h4 => (intro w0 _; go_simp; try (with_reducible rfl))
      (try simp only [Act.put, List.setIfInBounds_toArray, List.set_cons_zero, List.set_cons_succ])
      refine pure_takeD 32 rfl (by rfl) ?v5 ?h5 ?r5
      case h5 => (intro w0 _; go_simp; try (with_reducible rfl))
      (try simp only [Act.put, List.setIfInBounds_toArray, List.set_cons_zero, List.set_cons_succ])
      refine pure_takeD 34 rfl (by rfl) ?v6 ?h6 ?r6
      case h6 => (intro w0 _; go_simp; try (with_reducible rfl))
      (try simp only [Act.put, List.setIfInBounds_toArray, List.set_cons_zero, List.set_cons_succ])
      refine pure_takeD 35 rfl (by rfl) ?v7 ?h7 ?r7
      case h7 => (intro w0 _; go_simp; try (with_reducible rfl))
      (try simp only [Act.put, List.setIfInBounds_toArray, List.set_cons_zero, List.set_cons_succ])
      refine pure_end ?_
      (try dsimp only)
      refine pure_mid 31 rfl (by rfl) 55 _ rfl mk 0 rfl (polL y u3) (.struct f55) (fun w0 hw0 => ?m0) hu55 rfl inf55 ?_
      case m0 => (obtain ⟨kz, rfl⟩ := hw0; exact mk_range ((kz.kp.block _ hlm).trans HMb.out))
      (try simp only [Act.put, List.setIfInBounds_toArray, List.set_cons_zero, List.set_cons_succ])
      refine pure_end ?_
      (try dsimp only)
      intro kz
      refine keep_call (by rfl) 31 #[.agg (polL y u3).toArray, .int .i64 j] ?hc ?_
      case hc => (go_simp; try rfl)
      refine (X31.out (j : Int) u3 _ ((HPb.out.kept kz.kp).mono (P' := AnyP) fun _ _ _ => trivial)).mono ?_
      rintro e w5 ⟨v5, rfl, hown5, hb5⟩
      rw [HVS.out] at hown5
      have hszk := kz.kp.size
      have HK5 := Lib.hid (kz.kp.trans (hb5.mono hszk))
      refine ⟨_, rfl, ⟨⟨w5, HK5.out⟩, rfl⟩, ?_⟩
      have HO5 := Lib.hid (own_mono (B' := mk + 1) hown5 (by omega))
      have HB5 := Lib.hid (HBb.out.trans (HK5.out.mono HBb.out.size))
      have HM5 := Lib.hid ((HK5.out.block _ hlm).trans HMb.out)
      have HP5 := Lib.hid (HPb.out.kept HK5.out)
      have HR5 := Lib.hid (show ∀ f (h : f < vl.length), f < j → w5.ownsRow (mk + 1) 3 1 vl[f] (vs f).length (IV (vs f)) from fun f h h2 => own_kept (HRb.out f h h2) HK5.out)
      clear hown5 hb5 hszk HBb HMb HPb HRb hu55 HK5
      have c5 := mk_val HM5.out j (by rw [HL5.out]; omega)
      have f5 := block_free HM5.out (9 + j)
      have hlm5 := block_lt HM5.out
      show wpList _ _ _ _ _ _
      obtain ⟨vo, vc, rfl, _, _⟩ := own_form HO5.out
      go_wp2_with fail
      refine NoPanic.normal ?_
      have HM6 := Lib.hid (mk_set HM5.out j (.slice vo (vs j).length vc))
      have HB6 := Lib.hid (HB5.out.setCell (p := ⟨mk, 9 + j, none⟩) HS3.out (.slice vo (vs j).length vc))
      have HP6 : Hid (RdP (fun g => g < mk) (d + 1) u3 y.l (w5.setCell ⟨mk, 9 + j, none⟩ (.slice vo (vs j).length vc))) := Lib.hid (HP5.out.blk fun g hg _ => heap_setCell_other _ _ _ _ (by dsimp only; omega))
      have HO6 : Hid ((w5.setCell ⟨mk, 9 + j, none⟩ (.slice vo (vs j).length vc)).ownsRow (mk + 1) 3 1 (.slice vo (vs j).length vc) (vs j).length (IV (vs j))) := Lib.hid (own_blk HO5.out fun k hk => heap_setCell_other _ _ _ _ (by have := (HO5.out.lt k hk).1; dsimp only; omega))
      have HR6 : Hid (∀ f (h : f < vl.length), f < j → (w5.setCell ⟨mk, 9 + j, none⟩ (.slice vo (vs j).length vc)).ownsRow (mk + 1) 3 1 vl[f] (vs f).length (IV (vs f))) := Lib.hid (fun f h h2 => own_blk (HR5.out f h h2) fun k hk => heap_setCell_other _ _ _ _ (by have := ((HR5.out f h h2).lt k hk).1; dsimp only; omega))
      clear HM5 HB5 HP5 HO5 HR5 c5 f5
      go_wp2_with fail
      go_roundw
      case rel =>
        refine ⟨j + 1, by go_num, by omega, Lib.hid ⟨vl.set j (.slice vo (vs j).length vc), by rw [List.length_set]; exact HL5.out, HM6.out, fun f h h2 => ?_, HP6.out⟩, HB6⟩
        by_cases e : f = j
        · subst e
          rw [List.getElem_set_self]
          exact HO6.out
        · rw [List.getElem_set_ne (by omega)]
          exact HR6.out f (by simpa using h) (by omega)
      case measure => simp [intOf]; omega
    · obtain rfl : j = 5 := by omega
      have hd : decide ((5 : Int) < 5) = false := rfl
      have HM6 := HM
      have HMK : Hid (MkR mk sw d y u3 vl vs wr) := Lib.hid ⟨HM.out, HPr.out.mono (P' := AnyP) fun _ _ _ => trivial, HL5.out, fun f hf => rz_of_own (HRW.out f hf (by rw [← HL5.out]; exact hf))⟩
      clear HM HPr HRW
      go_wp2_with (first | (go_at_call 67; refine (order_c wr).mono ?_; rintro e w7 ⟨v7, rfl, hown7, hb7⟩; have HO7 := Lib.hid hown7; have HB7 := Lib.hid (HBr.out.trans (hb7.mono HBr.out.size)); have HK7 := Lib.hid (HMK.out.kept hb7); have hs7 := hb7.size; clear hown7 hb7 HMK HBr; rcases HO7.out.2 with ⟨_, h0⟩ | ⟨g7, c7, cur7, hv7, hg7, hh7, hn7, hc7, hz7, ht7⟩; (exact absurd h0 (by omega)); subst hv7; have HR7 := Lib.hid (show w7.rangeAt g7 0 (IV [4, 0, 1, 2, 3]) from fun k v hk => by have := HO7.out.cells rfl k v hk; rw [adh] at this; simpa using this); have HHL := Lib.hid (And.intro (block_lt hh7) (And.intro hn7 hc7)); clear hg7 hh7 hn7 hc7 hz7 ht7 HO7) | fail)
      refine (X66.out mk u3 vl g7 0 c7 unknowns w7 HK7.out HHL.out.1 HR7.out HHL.out.2.1 HHL.out.2.2 HF.out).mono ?_
      rintro e w8 ⟨v8, rfl, hrd, hb8⟩
      rw [HRES.out] at hrd
      have HR8 := Lib.hid (hrd.mono (B' := w.heap.size) HB7.out.size)
      have HB8 := Lib.hid (HB7.out.trans (hb8.mono HB7.out.size))
      clear hrd hb8 HB7 HK7 HR7 HHL X66
      go_wp2_with fail
      go_ret2
      exact ⟨v8, rfl, HR8.out, HB8.out⟩
end Go.Proofs.YtekfkieimdgfkaaGreat
/- What is proved here: what is done for a case. Condition: nothing comes of it, or one packet as it came. -/
namespace Go.Proofs.YtekfkieimdgfkaaGreat
open Go Go.RowKit
attribute [local go_sem] KW.cell KW.frozen
/-- An act: kind, field, number. -/
abbrev Ac := Int × Int × Int
def acE (a : Ac) : List Value := [.int .i64 a.1, .int .i64 a.2.1, .int .i64 a.2.2]
theorem el68 : Elem Tryz.prog 68 97 3 := elem_of (by kernel_rfl)
abbrev asCame (p : Int) : Sn := (p, -1, -1, -1, -1)
theorem ix29_0 (a b c d : Value) (w : World) : (Instr.index 29 (.agg #[a, b, c, d]) (.int .i64 0)).run Tryz.prog w = .ok a w := by kernel_rfl
theorem ix29_1 (a b c d : Value) (w : World) : (Instr.index 29 (.agg #[a, b, c, d]) (.int .i64 1)).run Tryz.prog w = .ok b w := by kernel_rfl
theorem ix29_2 (a b c d : Value) (w : World) : (Instr.index 29 (.agg #[a, b, c, d]) (.int .i64 2)).run Tryz.prog w = .ok c w := by kernel_rfl
theorem ix29_3 (a b c d : Value) (w : World) : (Instr.index 29 (.agg #[a, b, c, d]) (.int .i64 3)).run Tryz.prog w = .ok d w := by kernel_rfl
attribute [local go_sem] ix29_0 ix29_1 ix29_2 ix29_3
set_option maxRecDepth 100000 in
set_option maxHeartbeats 8000000 in
theorem acts_nil (k : Sn) (oa : Option Addr) (oc : Nat) (w : World) : Ret 37 #[csV k (.slice oa 0 oc)] (.tuple #[.slice none 0 0, .int .i64 0]) w := by
  have HB := Lib.hid (grow1 w (.cells (csA k (.slice oa 0 oc)) 89))
  obtain ⟨p, a, b, c, d⟩ := k
  unfold Ret csV
  simp only [csA] at HB ⊢
  go_enter Tryz.func37, Tryz.ntmps37
  go_wp2_with fail
  go_loopw [14, 4, 5] (fun i o s wr => i = .int .i64 0 ∧ o = .slice none 0 0 ∧ s = .bool false ∧ Hid (Below w.heap.size w wr)) (fun _ _ _ _ => 0)
  case atStart => exact ⟨rfl, rfl, rfl, HB⟩
  case round =>
    obtain ⟨rfl, rfl, rfl, HBr⟩ := hrel
    go_wp2_with fail
    go_ret2
    exact ⟨rfl, HBr.out⟩
set_option maxRecDepth 100000 in
set_option maxHeartbeats 8000000 in
theorem acts_one (k : Sn) (o : Value) (q : Int) (B : Nat) (w : World) (ho : w.ownsRow B 63 5 o 1 (flatR stE [asCame q])) (hq : 0 ≤ q) :
    Calls Tryz.prog 37 #[csV k o] w fun e w' => ∃ v, e = .returned (.tuple #[v, .int .i64 0]) ∧ w'.ownsRow w.heap.size 97 3 v 1 (acE (2, 0, q)) ∧ Below w.heap.size w w' := by
  obtain ⟨g, cap, rfl, hgB, hgl, hrg⟩ := own_one ho
  have HB := Lib.hid (grow1 w (.cells (csA k (.slice (some ⟨g, 0, none⟩) 1 cap)) 89))
  have HRG := Lib.hid (rangeK (grow1 w (.cells (csA k (.slice (some ⟨g, 0, none⟩) 1 cap)) 89)) hgl hrg)
  clear ho hrg
  obtain ⟨p, a, b, c, d⟩ := k
  unfold csV
  simp only [csA] at HB HRG ⊢
  go_enter Tryz.func37, Tryz.ntmps37
  go_wp2_with fail
  have hd0 : decide ((0 : Int) < 1) = true := rfl
  have hd1 : decide ((1 : Int) < 1) = false := rfl
  obtain ⟨w1, hw1⟩ : ∃ w1, w1 = w.alloc (.cells #[.int .i64 p, .int .i64 a, .int .i64 b, .int .i64 c, .int .i64 d, .slice (some ⟨g, 0, none⟩) 1 cap] 89) := ⟨_, rfl⟩
  rw [← hw1] at HB HRG
  have HW1 := Lib.hid hw1
  have hg1 : g < w1.heap.size := by have := HB.out.size; omega
  clear hw1
  go_loopw [14, 4, 5] (fun i o s wr => s = .bool false ∧ ((i = .int .i64 0 ∧ o = .slice none 0 0 ∧ wr = w1) ∨ (i = .int .i64 1 ∧ Hid (wr.ownsRow w.heap.size 97 3 o 1 (acE (2, 0, q))) ∧ Hid (Below w.heap.size w wr)))) (fun i _ _ _ => 1 - (intOf i).toNat)
  case atStart => exact ⟨rfl, .inl ⟨rfl, rfl, HW1.out.symm⟩⟩
  case round =>
    obtain ⟨rfl, ⟨rfl, rfl, rfl⟩ | ⟨rfl, HO, HBr⟩⟩ := hrel
    · go_wp2_with (refine stop_load 63 _ rfl ?_)
      obtain ⟨f63, hu63⟩ := und63
      refine Stop.go (wpList_load_mid rfl 63 _ rfl g 0 rfl (stE (asCame q)) _ HRG.out hu63 rfl inf63 ?_)
      clear hu63
      go_wp2_with (refine stop_store 63 _ _ rfl ?_)
      refine Stop.go (abs_list ?_)
      intro w4 e4
      have hb4 : Below wr.heap.size wr w4 := by rw [e4]; exact grow1 wr _
      have hg4 : w4.heap[wr.heap.size]? = some (.cells zero63 63 (0, 0)) := by rw [e4]; exact heap_alloc_new wr _
      have hs4 : w4.heap.size = wr.heap.size + 1 := by rw [e4]; simp
      have HB4 := Lib.hid hb4
      clear e4 hb4
      refine wpList_store_o rfl 63 _ _ rfl wr.heap.size (stA (asCame q)) rfl rfl 63 _ hg4 inf63 rfl rfl ?_
      intro w5 hg5 ho5
      have HB5 := Lib.hid (HB.out.trans ((ho5.belowT HB4.out (Nat.le_refl _)).mono HB.out.size))
      have HG5 := Lib.hid hg5
      have hs5 : wr.heap.size + 1 = w5.heap.size := by rw [ho5.size, hs4]
      clear hg4 hg5 ho5 HB4 hs4
      have HX := Lib.hid HG5.out
      simp only [stA] at HX
      obtain ⟨bl, hbl⟩ : ∃ bl, bl = wr.heap.size := ⟨_, rfl⟩
      rw [← hbl] at HG5 HX hs5 ⊢
      have hlb : bl < w5.heap.size := by omega
      clear hbl
      have c0 := block_cell HG5.out 0
      simp only [stA, List.getElem?_toArray, List.getElem?_cons_zero] at c0
      have hgr : w5.rangeAt bl 1 (pkA (-1, -1, -1, -1)).toList := by
        intro j v hj
        rw [block_cell HG5.out]
        have hl : j < 4 := (List.getElem?_eq_some_iff.1 hj).1
        rcases (by omega : j = 0 ∨ j = 1 ∨ j = 2 ∨ j = 3) with rfl | rfl | rfl | rfl <;> exact hj
      have HGR := Lib.hid hgr
      clear hgr
      go_wp2_with (refine stop_load 29 _ rfl ?_)
      obtain ⟨d29, hu29, hd29⟩ := und29
      refine Stop.go (wpList_load_mid rfl 29 _ rfl bl 1 rfl (pkA (-1, -1, -1, -1)).toList d29 HGR.out hu29 hd29 inf29 ?_)
      clear hu29 hd29
      go_wp2_with fail
      go_loopw [25, 4, 5] (fun i o s wr => (i = .int .i64 0 ∨ i = .int .i64 1 ∨ i = .int .i64 2 ∨ i = .int .i64 3 ∨ i = .int .i64 4) ∧ o = .slice none 0 0 ∧ s = .bool false ∧ wr = w5) (fun i _ _ _ => 4 - (intOf i).toNat)
      case atStart => exact ⟨.inl rfl, rfl, rfl, rfl⟩
      case round =>
        obtain ⟨hi, rfl, rfl, rfl⟩ := hrel
        rcases hi with rfl | rfl | rfl | rfl | rfl
        · go_wp2_with fail
          go_roundw
          case rel => simp
          case measure => simp [intOf]
        · go_wp2_with fail
          go_roundw
          case rel => simp
          case measure => simp [intOf]
        · go_wp2_with fail
          go_roundw
          case rel => simp
          case measure => simp [intOf]
        · go_wp2_with fail
          go_roundw
          case rel => simp
          case measure => simp [intOf]
        · have hq0 : decide (q < 0) = false := by simp; omega
          go_wp2_with (first | (at_builtin; refine stop_list ?_) | fail)
          refine Stop.go (wpList_push1 el68 rfl (.tmp 46) (.tmp 49) rfl w.heap.size (.slice none 0 0) 0 [] rfl (own_nil _ _ _ _) wr.heap.size rfl #[.int .i64 2, .int .i64 0, .int .i64 q] (heap_alloc_new _ _) rfl rfl (by decide) (HB5.out.alloc HB5.out.size _).size ?_)
          intro g9 cap9 w9 hown9 hgr9 hor9 hl9
          have HO9 := Lib.hid hown9
          have HB9 := Lib.hid (below_grown (HB5.out.alloc HB5.out.size _) (HB5.out.alloc HB5.out.size _).size hgr9 (own_nil w w.heap.size 97 3))
          clear hown9 hgr9 hor9
          go_wp2_with fail
          go_roundw
          case rel => exact ⟨rfl, .inr ⟨rfl, HO9, HB9⟩⟩
          case measure => simp [intOf]
    · obtain ⟨ao, ac, rfl, _, _⟩ := own_form HO.out
      go_wp2_with fail
      go_ret2
      exact ⟨_, rfl, HO.out, HBr.out⟩
end Go.Proofs.YtekfkieimdgfkaaGreat
