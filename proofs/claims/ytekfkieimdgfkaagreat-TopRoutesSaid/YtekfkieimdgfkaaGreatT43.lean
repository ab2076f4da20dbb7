/- What is proved here: what Parse tells of a text. Condition: the parser's way through it is known. -/
import Derived.Test.YtekfkieimdgfkaaGreatT42
namespace Go.Proofs.YtekfkieimdgfkaaGreat
open Go Go.RowKit
attribute [local go_sem] KW.cell KW.frozen field112_3
theorem field112_0 (k n t a : Value) (w : World) : (Instr.field 112 (.agg #[k, n, t, a]) 0).run Tryz.prog w = .ok k w := by kernel_rfl
attribute [local go_sem] field112_0
theorem results_cells3 {fn : Func} {p q r : Tmp} (h : fn.results = #[.cell p 55, .cell q 3, .cell r 34]) (tmps : Array Value) (w : World) (g i j : Nat) (cs : Array Value) (v1 v2 : Value) (hs : cs.size = 8)
    (hp : tmps.getD p undef = .pointer (some ⟨g, 0, none⟩)) (hq : tmps.getD q undef = .pointer (some ⟨i, 0, none⟩)) (hr : tmps.getD r undef = .pointer (some ⟨j, 0, none⟩))
    (hg : w.heap[g]? = some (.cells cs 55 (0, 0))) (hi : w.heap[i]? = some (.cells #[v1] 3 (0, 0))) (hj : w.heap[j]? = some (.cells #[v2] 34 (0, 0))) :
    (results fn tmps).run Tryz.prog w = .ok (.tuple #[.agg cs, v1, v2]) w := by
  obtain ⟨fs, hu⟩ := und55
  have h0 := run_loadVar_row (P := Tryz.prog) w g 55 55 cs (0, 0) _ hg hu rfl (by rw [hs]; exact inf55)
  have c1 := block_cell hi 0
  have c2 := block_cell hj 0
  simp only [List.getElem?_toArray, List.getElem?_cons_zero] at c1 c2
  have h1 : (loadVar 3 ⟨i, 0, none⟩).run Tryz.prog w = .ok v1 w := by simp [go_sem, c1]
  have h2 : (loadVar 34 ⟨j, 0, none⟩).run Tryz.prog w = .ok v2 w := by simp [go_sem, c2]
  simp only [Array.getD_eq_getD_getElem?] at hp hq hr
  simp [results, h, asAddr, hp, hq, hr, h0, h1, h2]
theorem Rz.blk {α : Type} {enc : α → List Value} {z : Nat} {v : Value} {xs : List α} {w w' : World} (h : Rz z enc v xs w) (hs : w.heap.size ≤ w'.heap.size) (hk : ∀ a n c, v = .slice (some a) n c → a.block < w.heap.size → w'.heap[a.block]? = w.heap[a.block]?) : Rz z enc v xs w' := by
  rcases h with h | ⟨a, cap, hv, hg, h1, h2, hx⟩
  · exact .inl h
  · refine .inr ⟨a, cap, hv, fun h0 => Nat.lt_of_lt_of_le (hg h0) hs, h1, h2, fun i hi j u hj => ?_⟩
    rw [World.cell?_of_block (w := w) (by rw [adb]; exact hk _ _ _ hv (hg (by omega)))]
    exact hx i hi j u hj
/-- The three results of whole lie at g, g + 1, g + 2. -/
def W3 (g : Nat) (cs : Array Value) (w : World) : Prop := w.heap[g]? = some (.cells cs 55 (0, 0)) ∧ w.heap[g + 1]? = some (.cells #[.int .i64 0] 3 (0, 0)) ∧ w.heap[g + 1 + 1]? = some (.cells #[.int .i64 0] 34 (0, 0))
theorem W3.start (w : World) (cs : Array Value) : W3 w.heap.size cs (((w.alloc (.cells cs 55)).alloc (.cells #[.int .i64 0] 3)).alloc (.cells #[.int .i64 0] 34)) := by
  refine ⟨?_, ?_, ?_⟩
  · rw [Below.heap_alloc _ _ _ (by simp; omega), Below.heap_alloc _ _ _ (by simp)]; exact heap_alloc_new w _
  · rw [Below.heap_alloc _ _ _ (by simp)]
    have := heap_alloc_new (w.alloc (.cells cs 55)) (.cells #[.int .i64 0] 3)
    simpa using this
  · have := heap_alloc_new ((w.alloc (.cells cs 55)).alloc (.cells #[.int .i64 0] 3)) (.cells #[.int .i64 0] 34)
    simpa using this
theorem W3.kept {g : Nat} {cs : Array Value} {w w' : World} (h : W3 g cs w) (hk : ∀ k, g ≤ k → k ≤ g + 1 + 1 → w'.heap[k]? = w.heap[k]?) : W3 g cs w' :=
  ⟨(hk g (by omega) (by omega)).trans h.1, (hk _ (by omega) (by omega)).trans h.2.1, (hk _ (by omega) (by omega)).trans h.2.2⟩
theorem W3.lt {g : Nat} {cs : Array Value} {w : World} (h : W3 g cs w) : g + 1 + 1 < w.heap.size := block_lt h.2.2
theorem W3.set1 {g : Nat} {cs : Array Value} {w : World} (h : W3 g cs w) : W3 g cs (w.setCell ⟨g + 1, 0, none⟩ (.int .i64 0)) :=
  ⟨(heap_setCell_other w _ _ _ (by simp)).trans h.1, heap_setCell_same w (g + 1) 0 #[.int .i64 0] 3 _ h.2.1, (heap_setCell_other w _ _ _ (by simp)).trans h.2.2⟩
theorem W3.set2 {g : Nat} {cs : Array Value} {w : World} (h : W3 g cs w) : W3 g cs (w.setCell ⟨g + 1 + 1, 0, none⟩ (.int .i64 0)) :=
  ⟨(heap_setCell_other w _ _ _ (by simp; omega)).trans h.1, (heap_setCell_other w _ _ _ (by simp)).trans h.2.1, heap_setCell_same w (g + 1 + 1) 0 #[.int .i64 0] 34 _ h.2.2⟩
set_option maxRecDepth 100000 in
set_option maxHeartbeats 8000000 in
theorem whole_ok (s : ByteArray) (all : List Tk) (b d : Nat) (x : Pol) (y : Tk) (w : World) (hL : LexR s.data.toList 0 all) (hs : s.size ≤ 4000) (hn : all.length ≤ 500)
    (hy : all[b]? = some y) (hyk : y.k = 4) (ho : ∀ q lv, Apart q lv → PolC 26 q lv all 0 b d x) :
    Calls Tryz.prog 25 #[.string s, .func (.func 26) #[] #[]] w fun e w' => ∃ u, e = .returned (.tuple #[polV x u, .int .i64 0, .int .i64 0]) ∧ RdP (fun g => w.heap.size ≤ g) d u x.l w' ∧ Below w.heap.size w w' := by
  obtain ⟨hbl, hyb⟩ := List.getElem?_eq_some_iff.1 hy
  have HY := Lib.hid hyb
  have hk0 : (y.k == 4) = true := by rw [hyk]; rfl
  have HO := Lib.hid ho
  have hmf : ∀ (fn : Fn) (first cap : Array Value) (w : World), (Instr.makeFunc fn first cap).run Tryz.prog w = .ok (.func fn first cap) w := fun _ _ _ _ => rfl
  have W0 := Lib.hid (W3.start w #[.int .i64 0, .int .i64 0, .int .i64 0, .int .i64 0, .slice none 0 0, .int .i64 0, .int .i64 0, .slice none 0 0])
  have B0 : Hid (Below w.heap.size w (((w.alloc (.cells #[.int .i64 0, .int .i64 0, .int .i64 0, .int .i64 0, .slice none 0 0, .int .i64 0, .int .i64 0, .slice none 0 0] 55)).alloc (.cells #[.int .i64 0] 3)).alloc (.cells #[.int .i64 0] 34))) := Lib.hid ((((Below.refl _ _).alloc (Nat.le_refl _) _).alloc (by simp) _).alloc (by simp; omega) _)
  have HL := Lib.hid (lex_c s all (((w.alloc (.cells #[.int .i64 0, .int .i64 0, .int .i64 0, .int .i64 0, .slice none 0 0, .int .i64 0, .int .i64 0, .slice none 0 0] 55)).alloc (.cells #[.int .i64 0] 3)).alloc (.cells #[.int .i64 0] 34)) hL hs hn)
  clear ho hL hy hyb hyk
  go_enter_defers Tryz.func25, Tryz.ntmps25
  go_wp2_with fail
  refine HL.out.mono ?_
  rintro e w1 ⟨lv, rfl, hrz, hlk, hb⟩
  obtain ⟨lo, lc, rfl, _, _⟩ := hrz.form
  simp only [World.size_alloc] at hlk
  have B1 := Lib.hid (B0.out.trans (hb.mono (by simp; omega)))
  have W1 := Lib.hid (W0.out.kept (w' := w1) fun k h1 h2 => hb.block k (by simp; omega))
  have HR := Lib.hid hrz
  have HK := Lib.hid hlk
  have c1 := block_cell W1.out.2.1 0
  have c2 := block_cell W1.out.2.2 0
  have f1 := block_free W1.out.2.1 0
  have f2 := block_free W1.out.2.2 0
  simp only [List.getElem?_toArray, List.getElem?_cons_zero] at c1 c2
  have hl1 := W1.out.lt
  clear hrz hb W0 B0 HL hlk
  go_wp2_with (refine stop_build 110 _ rfl ?_)
  refine Stop.go (abs_list ?_)
  intro w2 e2
  have hz2 : w2.heap.size = w1.heap.size := by rw [e2]; simp
  have B2 : Hid (Below w.heap.size w w2) := by rw [e2]; exact Lib.hid ((B1.out.setCell (by dsimp only; omega) _).setCell (by dsimp only; omega) _)
  have W2 : Hid (W3 w.heap.size #[.int .i64 0, .int .i64 0, .int .i64 0, .int .i64 0, .slice none 0 0, .int .i64 0, .int .i64 0, .slice none 0 0] w2) := by rw [e2]; exact Lib.hid W1.out.set1.set2
  have HR2 : Hid (Rz 4 tkE (.slice lo all.length lc) all w2) := by
    refine Lib.hid (HR.out.blk (by omega) fun a n c hv hlt => ?_)
    have hk := HK.out a.block (by rw [hv]; rfl)
    rw [e2, heap_setCell_other _ _ _ _ (show a.block ≠ _ + 1 + 1 by omega), heap_setCell_other _ _ _ _ (show a.block ≠ _ + 1 by omega)]
  have HN : Hid (Apart w2.heap.size (.slice lo all.length lc)) := by
    refine Lib.hid fun a n c hv => ?_
    rcases HR.out with ⟨h1, _⟩ | ⟨a', cap, h1, h2, _⟩
    · rw [h1] at hv; cases hv
    · rw [h1] at hv
      cases hv
      have := h2 (by omega)
      omega
  clear e2 c1 c2 f1 f2 HR B1 W1
  have B3 := Lib.hid (B2.out.trans ((grow1 w2 (PaO (.slice lo all.length lc) 0)).mono (by have := B2.out.size; omega)))
  have W3' := Lib.hid (W2.out.kept (w' := w2.alloc (PaO (.slice lo all.length lc) 0)) fun k h1 h2 => Below.heap_alloc w2 _ k (by have := W2.out.lt; omega))
  have HR3 := Lib.hid (HR2.out.kept (grow1 w2 (PaO (.slice lo all.length lc) 0)))
  have HQ3 := Lib.hid (heap_alloc_new w2 (PaO (.slice lo all.length lc) 0))
  have hl2 := W2.out.lt
  clear B2 W2 HR2 hl1 hz2
  go_wp2_with fail
  refine (HO.out w2.heap.size _ HN.out _ HQ3.out HR3.out).mono ?_
  rintro e w3 ⟨u, rfl, hrx, hp⟩
  obtain ⟨uo, uc, rfl, _, _⟩ := hrx.form
  have hb3 : ∀ k, k < w2.heap.size → w3.heap[k]? = (w2.alloc (PaO (.slice lo all.length lc) 0)).heap[k]? := fun k hk => hp.2.block k (by simp; omega) (by omega)
  have B4 : Hid (Below w.heap.size w w3) := Lib.hid (B3.out.trans (hp.2.below (by omega) (by simp; omega)))
  have W4 := Lib.hid (W3'.out.kept (w' := w3) fun k h1 h2 => hb3 k (by omega))
  have HRX := Lib.hid hrx
  have HR4 := Lib.hid (HR3.out.qm hp.2 HN.out)
  have HQ4 := Lib.hid hp.1
  have hz3 : w2.heap.size + 1 ≤ w3.heap.size := by have := hp.2.size; simpa using this
  clear B3 W3' HR3 HQ3 hrx hp hb3
  unfold polV
  go_wp2_with (first | (refine stop_load 55 _ rfl ?_) | (refine stop_store 55 _ _ rfl ?_))
  refine Stop.go (wpList_store_o rfl 55 _ _ rfl w.heap.size _ rfl rfl 55 _ W4.out.1 inf55 rfl rfl ?_)
  intro w4 hg4 ho4
  have B5 := Lib.hid (ho4.belowT B4.out (Nat.le_refl _))
  have W5 : Hid (W3 w.heap.size (polL x (.slice uo x.l.length uc)).toArray w4) := Lib.hid ⟨hg4, (ho4.block _ (by omega)).trans W4.out.2.1, (ho4.block _ (by omega)).trans W4.out.2.2⟩
  have HRX5 := Lib.hid ((HRX.out.mono (P' := fun k => w.heap.size + 1 + 1 < k) fun k hk _ => by simp at hk; omega).blk (w' := w4) fun k hk hlt => ho4.block k (by omega))
  have HR5 : Hid (Rz 4 tkE (.slice lo all.length lc) all w4) := Lib.hid (HR4.out.blk (by rw [ho4.size]; exact Nat.le_refl _) fun a n c hv hlt => ho4.block _ (by have := HK.out a.block (by rw [hv]; rfl); omega))
  have HQ5 := Lib.hid ((ho4.block _ (by omega)).trans HQ4.out)
  clear B4 W4 HRX HR4 HQ4 hg4 ho4
  go_wp2_with fail
  refine (now_c w2.heap.size _ all b w4 HQ5.out HR5.out hbl y HY.out).mono ?_
  rintro e w5 ⟨rfl, hb⟩
  have B6 := Lib.hid (B5.out.trans (hb.mono B5.out.size))
  have W6 := Lib.hid (W5.out.kept (w' := w5) fun k h1 h2 => hb.block k (by have := W5.out.lt; omega))
  have HRX6 := Lib.hid (HRX5.out.kept hb)
  clear hb B5 W5 HRX5 HR5 HQ5
  go_wp2_with (first | (refine stop_load 55 _ rfl ?_) | (refine stop_store 55 _ _ rfl ?_))
  obtain ⟨fs, hu55⟩ := und55
  refine Stop.go (wpList_load_row rfl 55 _ rfl w.heap.size rfl 55 _ (0, 0) _ W6.out.1 hu55 rfl inf55 ?_)
  refine wpList_store_o rfl 55 _ _ rfl w.heap.size _ rfl rfl 55 _ W6.out.1 inf55 rfl rfl ?_
  intro w6 hg6 ho6
  have B7 := Lib.hid (ho6.belowT B6.out (Nat.le_refl _))
  have W7 : Hid (W3 w.heap.size (polL x (.slice uo x.l.length uc)).toArray w6) := Lib.hid ⟨hg6, (ho6.block _ (by omega)).trans W6.out.2.1, (ho6.block _ (by omega)).trans W6.out.2.2⟩
  have HRX7 := Lib.hid (HRX6.out.blk (w' := w6) fun k hk hlt => ho6.block k (by omega))
  clear hg6 ho6 B6 W6 HRX6 hu55
  have c1 := block_cell W7.out.2.1 0
  have c2 := block_cell W7.out.2.2 0
  have f1 := block_free W7.out.2.1 0
  have f2 := block_free W7.out.2.2 0
  simp only [List.getElem?_toArray, List.getElem?_cons_zero] at c1 c2
  go_wp2_with fail
  try go_big_unhide
  simp only [bodyPostD]
  refine leaves_cons (f := 47) (args := #[.pointer (some ⟨w.heap.size, 0, none⟩), .pointer (some ⟨w.heap.size + 1, 0, none⟩), .pointer (some ⟨w.heap.size + 1 + 1, 0, none⟩)]) (by simp) (by simp [go_sem]) ?_
  refine (catch_nil47 _ _ _ _).mono ?_
  rintro e u' w' ⟨rfl, rfl, rfl⟩
  have W8 := W7.out.set1.set2
  have B8 : Below w.heap.size w ((w6.setCell ⟨w.heap.size + 1, 0, none⟩ (.int .i64 0)).setCell ⟨w.heap.size + 1 + 1, 0, none⟩ (.int .i64 0)) := (B7.out.setCell (by dsimp only; omega) _).setCell (by dsimp only; omega) _
  have R8 : RdP (fun k => w.heap.size ≤ k) d (.slice uo x.l.length uc) x.l ((w6.setCell ⟨w.heap.size + 1, 0, none⟩ (.int .i64 0)).setCell ⟨w.heap.size + 1 + 1, 0, none⟩ (.int .i64 0)) := by
    refine RdP.mono (P := fun k => w.heap.size + 1 + 1 < k) (fun k hk _ => by omega) ?_
    refine RdP.blk (fun k hk _ => heap_setCell_other _ _ _ _ (by dsimp only; omega)) ?_
    exact HRX7.out.blk (fun k hk _ => heap_setCell_other _ _ _ _ (by dsimp only; omega))
  refine ⟨_, results_cells3 Tryz.results25 _ _ w.heap.size (w.heap.size + 1) (w.heap.size + 1 + 1) _ _ _ rfl rfl rfl rfl W8.1 W8.2.1 W8.2.2, _, rfl, R8, B8⟩
set_option maxRecDepth 100000 in
set_option maxHeartbeats 8000000 in
theorem whole_no (s : ByteArray) (all : List Tk) (v : Int) (w : World) (hL : LexR s.data.toList 0 all) (hs : s.size ≤ 4000) (hn : all.length ≤ 500) (hn0 : 0 < all.length)
    (ho : ∀ q lv, Apart q lv → PanC 26 q lv all 0 v) :
    Calls Tryz.prog 25 #[.string s, .func (.func 26) #[] #[]] w fun e w' => e = .returned (.tuple #[.agg #[.int .i64 0, .int .i64 0, .int .i64 0, .int .i64 0, .slice none 0 0, .int .i64 0, .int .i64 0, .slice none 0 0], .int .i64 v, .int .i64 10]) ∧ Below w.heap.size w w' := by
  have HO := Lib.hid ho
  have hmf : ∀ (fn : Fn) (first cap : Array Value) (w : World), (Instr.makeFunc fn first cap).run Tryz.prog w = .ok (.func fn first cap) w := fun _ _ _ _ => rfl
  have W0 := Lib.hid (W3.start w #[.int .i64 0, .int .i64 0, .int .i64 0, .int .i64 0, .slice none 0 0, .int .i64 0, .int .i64 0, .slice none 0 0])
  have B0 : Hid (Below w.heap.size w (((w.alloc (.cells #[.int .i64 0, .int .i64 0, .int .i64 0, .int .i64 0, .slice none 0 0, .int .i64 0, .int .i64 0, .slice none 0 0] 55)).alloc (.cells #[.int .i64 0] 3)).alloc (.cells #[.int .i64 0] 34))) := Lib.hid ((((Below.refl _ _).alloc (Nat.le_refl _) _).alloc (by simp) _).alloc (by simp; omega) _)
  have HL := Lib.hid (lex_c s all (((w.alloc (.cells #[.int .i64 0, .int .i64 0, .int .i64 0, .int .i64 0, .slice none 0 0, .int .i64 0, .int .i64 0, .slice none 0 0] 55)).alloc (.cells #[.int .i64 0] 3)).alloc (.cells #[.int .i64 0] 34)) hL hs hn)
  clear ho hL 
  go_enter_defers Tryz.func25, Tryz.ntmps25
  go_wp2_with fail
  refine HL.out.mono ?_
  rintro e w1 ⟨lv, rfl, hrz, hlk, hb⟩
  obtain ⟨lo, lc, rfl, _, _⟩ := hrz.form
  simp only [World.size_alloc] at hlk
  have B1 := Lib.hid (B0.out.trans (hb.mono (by simp; omega)))
  have W1 := Lib.hid (W0.out.kept (w' := w1) fun k h1 h2 => hb.block k (by simp; omega))
  have HR := Lib.hid hrz
  have HK := Lib.hid hlk
  have c1 := block_cell W1.out.2.1 0
  have c2 := block_cell W1.out.2.2 0
  have f1 := block_free W1.out.2.1 0
  have f2 := block_free W1.out.2.2 0
  simp only [List.getElem?_toArray, List.getElem?_cons_zero] at c1 c2
  have hl1 := W1.out.lt
  clear hrz hb W0 B0 HL hlk
  go_wp2_with (refine stop_build 110 _ rfl ?_)
  refine Stop.go (abs_list ?_)
  intro w2 e2
  have hz2 : w2.heap.size = w1.heap.size := by rw [e2]; simp
  have B2 : Hid (Below w.heap.size w w2) := by rw [e2]; exact Lib.hid ((B1.out.setCell (by dsimp only; omega) _).setCell (by dsimp only; omega) _)
  have W2 : Hid (W3 w.heap.size #[.int .i64 0, .int .i64 0, .int .i64 0, .int .i64 0, .slice none 0 0, .int .i64 0, .int .i64 0, .slice none 0 0] w2) := by rw [e2]; exact Lib.hid W1.out.set1.set2
  have HR2 : Hid (Rz 4 tkE (.slice lo all.length lc) all w2) := by
    refine Lib.hid (HR.out.blk (by omega) fun a n c hv hlt => ?_)
    have hk := HK.out a.block (by rw [hv]; rfl)
    rw [e2, heap_setCell_other _ _ _ _ (show a.block ≠ _ + 1 + 1 by omega), heap_setCell_other _ _ _ _ (show a.block ≠ _ + 1 by omega)]
  have HN : Hid (Apart w2.heap.size (.slice lo all.length lc)) := by
    refine Lib.hid fun a n c hv => ?_
    rcases HR.out with ⟨h1, _⟩ | ⟨a', cap, h1, h2, _⟩
    · rw [h1] at hv; cases hv
    · rw [h1] at hv
      cases hv
      have := h2 (by omega)
      omega
  clear e2 c1 c2 f1 f2 HR B1 W1
  have B3 := Lib.hid (B2.out.trans ((grow1 w2 (PaO (.slice lo all.length lc) 0)).mono (by have := B2.out.size; omega)))
  have W3' := Lib.hid (W2.out.kept (w' := w2.alloc (PaO (.slice lo all.length lc) 0)) fun k h1 h2 => Below.heap_alloc w2 _ k (by have := W2.out.lt; omega))
  have HR3 := Lib.hid (HR2.out.kept (grow1 w2 (PaO (.slice lo all.length lc) 0)))
  have HQ3 := Lib.hid (heap_alloc_new w2 (PaO (.slice lo all.length lc) 0))
  have hl2 := W2.out.lt
  clear B2 W2 HR2 hl1 hz2
  go_wp2_with fail
  refine (HO.out w2.heap.size _ HN.out _ HQ3.out HR3.out).mono ?_
  rintro e w3 ⟨rfl, hm⟩
  have hb3 : ∀ k, k < w2.heap.size → w3.heap[k]? = (w2.alloc (PaO (.slice lo all.length lc) 0)).heap[k]? := fun k hk => hm.block k (by simp; omega) (by omega)
  have B4 : Hid (Below w.heap.size w w3) := Lib.hid (B3.out.trans (hm.below (by omega) (by simp; omega)))
  have W4 := Lib.hid (W3'.out.kept (w' := w3) fun k h1 h2 => hb3 k (by omega))
  clear B3 W3' HR3 HQ3 hm hb3
  go_wp2_with fail
  try go_big_unhide
  simp only [bodyPostD]
  refine leaves_cons (f := 47) (args := #[.pointer (some ⟨w.heap.size, 0, none⟩), .pointer (some ⟨w.heap.size + 1, 0, none⟩), .pointer (some ⟨w.heap.size + 1 + 1, 0, none⟩)]) (by simp) (by simp [go_sem]) ?_
  refine (catch_err47 w.heap.size (w.heap.size + 1) (w.heap.size + 1 + 1) _ _ _ v [] w3 W4.out.1 rfl W4.out.2.1 W4.out.2.2 (by omega) (by omega) (by omega)).mono ?_
  rintro e u' w' ⟨rfl, rfl, h0, h1, h2, hb⟩
  exact ⟨_, results_cells3 Tryz.results25 _ _ w.heap.size (w.heap.size + 1) (w.heap.size + 1 + 1) _ _ _ rfl rfl rfl rfl h0 h1 h2, rfl, B4.out.trans (hb _ (Nat.le_refl _) (by omega) (by omega) B4.out.size)⟩
theorem results_row_tt {fn : Func} {p q r : Tmp} (h : fn.results = #[.cell p 55, .tmp q, .tmp r]) (tmps : Array Value) (w : World) (g : Nat) (cs : Array Value) (hs : cs.size = 8)
    (hp : tmps.getD p undef = .pointer (some ⟨g, 0, none⟩)) (hg : w.heap[g]? = some (.cells cs 55 (0, 0))) :
    (results fn tmps).run Tryz.prog w = .ok (.tuple #[.agg cs, tmps.getD q undef, tmps.getD r undef]) w := by
  obtain ⟨fs, hu⟩ := und55
  have h0 := run_loadVar_row (P := Tryz.prog) w g 55 55 cs (0, 0) _ hg hu rfl (by rw [hs]; exact inf55)
  simp only [Array.getD_eq_getD_getElem?] at hp
  simp [results, h, asAddr, hp, h0]
set_option maxRecDepth 100000 in
set_option maxHeartbeats 8000000 in
theorem parse_ok (s : ByteArray) (all : List Tk) (b d : Nat) (x : Pol) (y : Tk) (w : World) (hL : LexR s.data.toList 0 all) (hs : s.size ≤ 4000) (hn : all.length ≤ 500)
    (hy : all[b]? = some y) (hyk : y.k = 4) (ho : ∀ q lv, Apart q lv → PolC 26 q lv all 0 b d x) :
    Calls Tryz.prog 16 #[.string s] w fun e w' => ∃ u, e = .returned (.tuple #[polV x u, .int .i64 0, .int .i64 0]) ∧ RdP (fun g => w.heap.size ≤ g) d u x.l w' ∧ Below w.heap.size w w' := by
  have X := Lib.hid (whole_ok s all b d x y (w.alloc (.cells #[.int .i64 0, .int .i64 0, .int .i64 0, .int .i64 0, .slice none 0 0, .int .i64 0, .int .i64 0, .slice none 0 0] 55)) hL hs hn hy hyk ho)
  have H0 := Lib.hid (heap_alloc_new w (.cells #[.int .i64 0, .int .i64 0, .int .i64 0, .int .i64 0, .slice none 0 0, .int .i64 0, .int .i64 0, .slice none 0 0] 55))
  have B0 := Lib.hid (grow1 w (.cells #[.int .i64 0, .int .i64 0, .int .i64 0, .int .i64 0, .slice none 0 0, .int .i64 0, .int .i64 0, .slice none 0 0] 55))
  clear hL hy hyk ho hs hn
  go_enter Tryz.func16, Tryz.ntmps16
  go_wp2_with fail
  refine X.out.mono ?_
  rintro e w1 ⟨u, rfl, hr, hb⟩
  obtain ⟨uo, uc, rfl, _, _⟩ := hr.form
  have H1 := Lib.hid ((hb.block _ (by simp)).trans H0.out)
  have B1 := Lib.hid (B0.out.trans (hb.mono (by simp)))
  have R1 := Lib.hid hr
  clear X hr hb H0 B0
  unfold polV
  go_wp2_with (refine stop_store 55 _ _ rfl ?_)
  refine Stop.go (wpList_store_o rfl 55 _ _ rfl w.heap.size _ rfl rfl 55 _ H1.out inf55 rfl rfl ?_)
  intro w2 hg2 ho2
  have H2 := Lib.hid hg2
  have B2 := Lib.hid (ho2.belowT B1.out (Nat.le_refl _))
  have R2 := Lib.hid (R1.out.blk (w' := w2) fun k hk hlt => ho2.block k (by simp at hk; omega))
  clear hg2 ho2 H1 B1 R1
  go_wp2_with fail
  exact bodyPost_ret (results_row_tt Tryz.results16 _ _ w.heap.size _ rfl rfl H2.out) rfl ⟨_, rfl, R2.out.mono fun k hk _ => by simp at hk; omega, B2.out⟩
set_option maxRecDepth 100000 in
set_option maxHeartbeats 8000000 in
theorem parse_no (s : ByteArray) (all : List Tk) (v : Int) (w : World) (hL : LexR s.data.toList 0 all) (hs : s.size ≤ 4000) (hn : all.length ≤ 500) (hn0 : 0 < all.length)
    (ho : ∀ q lv, Apart q lv → PanC 26 q lv all 0 v) :
    Calls Tryz.prog 16 #[.string s] w fun e w' => e = .returned (.tuple #[.agg #[.int .i64 0, .int .i64 0, .int .i64 0, .int .i64 0, .slice none 0 0, .int .i64 0, .int .i64 0, .slice none 0 0], .int .i64 v, .int .i64 10]) ∧ Below w.heap.size w w' := by
  have X := Lib.hid (whole_no s all v (w.alloc (.cells #[.int .i64 0, .int .i64 0, .int .i64 0, .int .i64 0, .slice none 0 0, .int .i64 0, .int .i64 0, .slice none 0 0] 55)) hL hs hn hn0 ho)
  have H0 := Lib.hid (heap_alloc_new w (.cells #[.int .i64 0, .int .i64 0, .int .i64 0, .int .i64 0, .slice none 0 0, .int .i64 0, .int .i64 0, .slice none 0 0] 55))
  have B0 := Lib.hid (grow1 w (.cells #[.int .i64 0, .int .i64 0, .int .i64 0, .int .i64 0, .slice none 0 0, .int .i64 0, .int .i64 0, .slice none 0 0] 55))
  clear hL ho hs hn hn0
  go_enter Tryz.func16, Tryz.ntmps16
  go_wp2_with fail
  refine X.out.mono ?_
  rintro e w1 ⟨rfl, hb⟩
  have H1 := Lib.hid ((hb.block _ (by simp)).trans H0.out)
  have B1 := Lib.hid (B0.out.trans (hb.mono (by simp)))
  clear X hb H0 B0
  go_wp2_with (refine stop_store 55 _ _ rfl ?_)
  refine Stop.go (wpList_store_o rfl 55 _ _ rfl w.heap.size _ rfl rfl 55 _ H1.out inf55 rfl rfl ?_)
  intro w2 hg2 ho2
  have H2 := Lib.hid hg2
  have B2 := Lib.hid (ho2.belowT B1.out (Nat.le_refl _))
  clear hg2 ho2 H1 B1
  go_wp2_with fail
  exact bodyPost_ret (results_row_tt Tryz.results16 _ _ w.heap.size _ rfl rfl H2.out) rfl ⟨rfl, B2.out⟩
end Go.Proofs.YtekfkieimdgfkaaGreat
