/- What is proved here: the parser reads a step that is a condition, or sets a field, or is a policy in brackets. Condition: its words stand there. -/
import Derived.Test.YtekfkieimdgfkaaGreatT03
import Derived.Test.YtekfkieimdgfkaaGreatT40
namespace Go.Proofs.YtekfkieimdgfkaaGreat
open Go Go.RowKit
attribute [local go_sem] KW.cell KW.frozen
/-- The parser's function fn, at place a, goes to place b and tells the policy x. -/
def PolC (fn : FuncId) (q : Nat) (lv : Value) (l : List Tk) (a b d : Nat) (x : Pol) : Prop :=
  ∀ wk : World, wk.heap[q]? = some (PaO lv a) → Rz 4 tkE lv l wk → Calls Tryz.prog fn #[.pointer (some ⟨q, 0, none⟩)] wk fun e w' => ∃ u, e = .returned (polV x u) ∧ RdP (fun g => wk.heap.size ≤ g) d u x.l w' ∧ ParTo q lv b wk w'
theorem ParTo.only {q g : Nat} {lv : Value} {a : Nat} {w w1 w2 : World} (h : ParTo q lv a w w1) (ho : Only g w1 w2) (hg : w.heap.size ≤ g) (hq : q ≠ g) : ParTo q lv a w w2 :=
  ⟨(ho.block q hq).trans h.1, ⟨ho.os.trans h.2.os, ho.tape.trans h.2.tape, ho.output.trans h.2.output, by rw [ho.size]; exact h.2.size, fun k hk hn => (ho.block k (by omega)).trans (h.2.block k hk hn)⟩⟩
theorem PS.kept {q : Nat} {lv : Value} {l : List Tk} {g : Nat} {o : Obj} {a : Nat} {w wk w' : World} (h : PS q lv l g o a w wk) (hb : Below wk.heap.size wk w') : PS q lv l g o a w w' :=
  ⟨h.1.kept hb, (hb.block g (block_lt h.2.1)).trans h.2.1, h.2.2.kept hb⟩
set_option maxRecDepth 100000 in
set_option maxHeartbeats 8000000 in
theorem step_when (q : Nat) (lv : Value) (l : List Tk) (a b d : Nat) (k f n : Int) (x : Tk) (hne : Apart q lv) (hln : l.length ≤ 1000) (hx : l[a]? = some x) (hk : x.k = 1) (ht : x.t = [119, 104, 101, 110])
    (ho : OneC 99 q lv l (a + 1) b (.agg #[.int .i64 k, .int .i64 f, .int .i64 n, .slice none 0 0])) : PolC 76 q lv l a b d (.mk 1 k f n 0 0 []) := by
  intro w hq hl
  obtain ⟨hal, hxa⟩ := List.getElem?_eq_some_iff.1 hx
  have hgq : w.heap.size ≠ q := Nat.ne_of_gt (block_lt hq)
  have hqg : q ≠ w.heap.size := Ne.symm hgq
  have hqs : q < w.heap.size := block_lt hq
  have S0 := Lib.hid (PS.start (l := l) 55 #[.int .i64 0, .int .i64 0, .int .i64 0, .int .i64 0, .slice none 0 0, .int .i64 0, .int .i64 0, .slice none 0 0] hq hl)
  have HN := Lib.hid hne
  have B1 : Hid (((x.k == 1 || x.k == 3) && (x.t == [100, 114, 111, 112])) = false) := Lib.hid (no_of _ _ _ (by rw [ht]; rfl))
  have B2 : Hid (((x.k == 1 || x.k == 3) && (x.t == [105, 100])) = false) := Lib.hid (no_of _ _ _ (by rw [ht]; rfl))
  have B3 : Hid (((x.k == 1 || x.k == 3) && (x.t == [119, 104, 101, 110])) = true) := Lib.hid (by rw [hk, ht]; rfl)
  have HX := Lib.hid hxa
  have HO := Lib.hid ho
  clear hq hl hne hx hxa ho hk ht
  go_enter Tryz.func76, Tryz.ntmps76
  go_wp2_with fail
  refine (is_no _ S0.out.1.1 S0.out.2.2 hal hln x HX.out B1.out).mono ?_
  rintro e w1 ⟨rfl, hp⟩
  have S1 := Lib.hid (S0.out.step hp hgq HN.out)
  clear hp S0
  go_wp2_with fail
  refine (is_no _ S1.out.1.1 S1.out.2.2 hal hln x HX.out B2.out).mono ?_
  rintro e w2 ⟨rfl, hp⟩
  have S2 := Lib.hid (S1.out.step hp hgq HN.out)
  clear hp S1
  go_wp2_with fail
  refine (is_yes _ S2.out.1.1 S2.out.2.2 hal hln x HX.out B3.out).mono ?_
  rintro e w3 ⟨rfl, hp⟩
  have S3 := Lib.hid (S2.out.step hp hgq HN.out)
  clear hp S2
  go_wp2_with fail
  refine (HO.out _ S3.out.1.1 S3.out.2.2).mono ?_
  rintro e w4 ⟨rfl, hp⟩
  have S4 := Lib.hid (S3.out.step hp hgq HN.out)
  clear hp S3
  go_wp2_with (refine stop_store 55 _ _ rfl ?_)
  refine Stop.go (wpList_store_o rfl 55 _ _ rfl w.heap.size _ rfl rfl 55 _ S4.out.2.1 inf55 rfl rfl ?_)
  intro w5 hb5 ho5
  have HB := Lib.hid hb5
  have HP := Lib.hid (S4.out.1.only ho5 (Nat.le_refl _) hqg)
  clear hb5 ho5 S4
  go_wp2_with fail
  exact ret55 Tryz.results76 rfl rfl HB.out rfl ⟨.slice none 0 0, rfl, RdP.nil _ _ _, HP.out⟩
set_option maxRecDepth 100000 in
set_option maxHeartbeats 8000000 in
theorem step_set (q : Nat) (lv : Value) (l : List Tk) (a d : Nat) (f : Nat) (x y z : Tk) (hne : Apart q lv) (hln : l.length ≤ 1000) (hx : l[a]? = some x) (hy : l[a + 1]? = some y) (hz : l[a + 2]? = some z)
    (hf5 : f < 5) (hk : x.k = 1) (hf : fieldsL[f]? = some x.t) (hyk : y.k = 3) (hyt : y.t = [58, 61]) (hzk : z.k = 2) : PolC 76 q lv l a (a + 3) d (.mk 2 0 0 0 f z.n []) := by
  intro w hq hl
  obtain ⟨hal, hxa⟩ := List.getElem?_eq_some_iff.1 hx
  obtain ⟨hal1, hya⟩ := List.getElem?_eq_some_iff.1 hy
  obtain ⟨hal2, hza⟩ := List.getElem?_eq_some_iff.1 hz
  obtain ⟨b1, b2, b3, b4, b5, b6, b7, b8⟩ := fields_no x.t (List.mem_of_getElem? hf)
  have hgq : w.heap.size ≠ q := Nat.ne_of_gt (block_lt hq)
  have hqg : q ≠ w.heap.size := Ne.symm hgq
  have hqs : q < w.heap.size := block_lt hq
  have S0 := Lib.hid (PS.start (l := l) 55 #[.int .i64 0, .int .i64 0, .int .i64 0, .int .i64 0, .slice none 0 0, .int .i64 0, .int .i64 0, .slice none 0 0] hq hl)
  have HN := Lib.hid hne
  have B1 := Lib.hid (no_of x.k x.t _ b5)
  have B2 := Lib.hid (no_of x.k x.t _ b6)
  have B3 := Lib.hid (no_of x.k x.t _ b7)
  have B4 := Lib.hid (no_of x.k x.t _ b8)
  have B5 := Lib.hid (no_of x.k x.t _ b4)
  have BY : Hid (((y.k == 1 || y.k == 3) && (y.t == [58, 61])) = true) := Lib.hid (by rw [hyk, hyt]; rfl)
  have hd0 : decide ((f : Int) < 0) = false := by simp
  have hd1 : ¬ (f : Int) < 0 := by omega
  have HX := Lib.hid hxa
  have HY := Lib.hid hya
  have HZ := Lib.hid hza
  have HF := Lib.hid hf
  have HK := Lib.hid hk
  have HZK := Lib.hid hzk
  clear hq hl hne hx hxa hy hya hz hza hk hf hyk hyt hzk b1 b2 b3 b4 b5 b6 b7 b8
  go_enter Tryz.func76, Tryz.ntmps76
  go_wp2_with fail
  refine (is_no _ S0.out.1.1 S0.out.2.2 hal hln x HX.out B1.out).mono ?_
  rintro e w1 ⟨rfl, hp⟩
  have S1 := Lib.hid (S0.out.step hp hgq HN.out)
  clear hp S0
  go_wp2_with fail
  refine (is_no _ S1.out.1.1 S1.out.2.2 hal hln x HX.out B2.out).mono ?_
  rintro e w2 ⟨rfl, hp⟩
  have S2 := Lib.hid (S1.out.step hp hgq HN.out)
  clear hp S1
  go_wp2_with fail
  refine (is_no _ S2.out.1.1 S2.out.2.2 hal hln x HX.out B3.out).mono ?_
  rintro e w3 ⟨rfl, hp⟩
  have S3 := Lib.hid (S2.out.step hp hgq HN.out)
  clear hp S2
  go_wp2_with fail
  refine (is_no _ S3.out.1.1 S3.out.2.2 hal hln x HX.out B4.out).mono ?_
  rintro e w4 ⟨rfl, hp⟩
  have S4 := Lib.hid (S3.out.step hp hgq HN.out)
  clear hp S3
  go_wp2_with fail
  refine (is_no _ S4.out.1.1 S4.out.2.2 hal hln x HX.out B5.out).mono ?_
  rintro e w5 ⟨rfl, hp⟩
  have S5 := Lib.hid (S4.out.step hp hgq HN.out)
  clear hp S4
  go_wp2_with fail
  refine (field_c q lv l a w5 S5.out.1.1 S5.out.2.2 hal hln x HX.out HK.out 5 f (.inl ⟨rfl, hf5⟩) HF.out).mono ?_
  rintro e w6 ⟨rfl, hp⟩
  have S6 := Lib.hid (S5.out.step hp hgq HN.out)
  clear hp S5
  go_wp2_with fail
  refine (must_c q lv l (a + 1) _ w6 S6.out.1.1 S6.out.2.2 (by omega) hln y HY.out BY.out).mono ?_
  rintro e w7 ⟨rfl, hp⟩
  have S7 := Lib.hid (S6.out.step hp hgq HN.out)
  clear hp S6
  go_wp2_with fail
  refine (pnum_c q lv l (a + 2) w7 S7.out.1.1 S7.out.2.2 (by omega) hln z HZ.out HZK.out).mono ?_
  rintro e w8 ⟨rfl, hp⟩
  have S8 := Lib.hid (S7.out.step hp hgq HN.out)
  clear hp S7
  go_wp2_with (refine stop_store 55 _ _ rfl ?_)
  refine Stop.go (wpList_store_o rfl 55 _ _ rfl w.heap.size _ rfl rfl 55 _ S8.out.2.1 inf55 rfl rfl ?_)
  intro w9 hb9 ho9
  have HB := Lib.hid hb9
  have HP := Lib.hid (S8.out.1.only ho9 (Nat.le_refl _) hqg)
  clear hb9 ho9 S8
  go_wp2_with fail
  exact ret55 Tryz.results76 rfl rfl HB.out rfl ⟨.slice none 0 0, rfl, RdP.nil _ _ _, HP.out⟩
set_option maxRecDepth 100000 in
set_option maxHeartbeats 8000000 in
theorem step_paren (q : Nat) (lv : Value) (l : List Tk) (a b d : Nat) (p : Pol) (x y : Tk) (hne : Apart q lv) (hln : l.length ≤ 1000) (hx : l[a]? = some x) (hk : x.k = 3) (ht : x.t = [40]) (ho : PolC 27 q lv l (a + 1) b d p)
    (hy : l[b]? = some y) (hyk : y.k = 3) (hyt : y.t = [41]) : PolC 76 q lv l a (b + 1) d p := by
  intro w hq hl
  obtain ⟨hal, hxa⟩ := List.getElem?_eq_some_iff.1 hx
  obtain ⟨hbl, hyb⟩ := List.getElem?_eq_some_iff.1 hy
  have hgq : w.heap.size ≠ q := Nat.ne_of_gt (block_lt hq)
  have hqg : q ≠ w.heap.size := Ne.symm hgq
  have hqs : q < w.heap.size := block_lt hq
  have S0 := Lib.hid (PS.start (l := l) 55 #[.int .i64 0, .int .i64 0, .int .i64 0, .int .i64 0, .slice none 0 0, .int .i64 0, .int .i64 0, .slice none 0 0] hq hl)
  have HN := Lib.hid hne
  have B1 : Hid (((x.k == 1 || x.k == 3) && (x.t == [100, 114, 111, 112])) = false) := Lib.hid (no_of _ _ _ (by rw [ht]; rfl))
  have B2 : Hid (((x.k == 1 || x.k == 3) && (x.t == [105, 100])) = false) := Lib.hid (no_of _ _ _ (by rw [ht]; rfl))
  have B3 : Hid (((x.k == 1 || x.k == 3) && (x.t == [119, 104, 101, 110])) = false) := Lib.hid (no_of _ _ _ (by rw [ht]; rfl))
  have B4 : Hid (((x.k == 1 || x.k == 3) && (x.t == [105, 102])) = false) := Lib.hid (no_of _ _ _ (by rw [ht]; rfl))
  have B5 : Hid (((x.k == 1 || x.k == 3) && (x.t == [40])) = true) := Lib.hid (by rw [hk, ht]; rfl)
  have BY : Hid (((y.k == 1 || y.k == 3) && (y.t == [41])) = true) := Lib.hid (by rw [hyk, hyt]; rfl)
  have HX := Lib.hid hxa
  have HY := Lib.hid hyb
  have HO := Lib.hid ho
  clear hq hl hne hx hxa ho hk ht hy hyb hyk hyt
  go_enter Tryz.func76, Tryz.ntmps76
  go_wp2_with fail
  refine (is_no _ S0.out.1.1 S0.out.2.2 hal hln x HX.out B1.out).mono ?_
  rintro e w1 ⟨rfl, hp⟩
  have S1 := Lib.hid (S0.out.step hp hgq HN.out)
  clear hp S0
  go_wp2_with fail
  refine (is_no _ S1.out.1.1 S1.out.2.2 hal hln x HX.out B2.out).mono ?_
  rintro e w2 ⟨rfl, hp⟩
  have S2 := Lib.hid (S1.out.step hp hgq HN.out)
  clear hp S1
  go_wp2_with fail
  refine (is_no _ S2.out.1.1 S2.out.2.2 hal hln x HX.out B3.out).mono ?_
  rintro e w3 ⟨rfl, hp⟩
  have S3 := Lib.hid (S2.out.step hp hgq HN.out)
  clear hp S2
  go_wp2_with fail
  refine (is_no _ S3.out.1.1 S3.out.2.2 hal hln x HX.out B4.out).mono ?_
  rintro e w4 ⟨rfl, hp⟩
  have S4 := Lib.hid (S3.out.step hp hgq HN.out)
  clear hp S3
  go_wp2_with fail
  refine (is_yes _ S4.out.1.1 S4.out.2.2 hal hln x HX.out B5.out).mono ?_
  rintro e w5 ⟨rfl, hp⟩
  have S5 := Lib.hid (S4.out.step hp hgq HN.out)
  clear hp S4
  go_wp2_with fail
  refine (HO.out _ S5.out.1.1 S5.out.2.2).mono ?_
  rintro e w6 ⟨u, rfl, hr, hp⟩
  obtain ⟨uo, uc, rfl, _, _⟩ := hr.form
  have hsz5 : w.heap.size < w5.heap.size := block_lt S5.out.2.1
  have S6 := Lib.hid (S5.out.step hp hgq HN.out)
  have HR := Lib.hid hr
  have hsz6 : w5.heap.size ≤ w6.heap.size := hp.2.size
  clear hp S5 hr
  unfold polV
  go_wp2_with (refine stop_store 55 _ _ rfl ?_)
  refine Stop.go (abs_list ?_)
  intro w7 e7
  have hb7 : Below w6.heap.size w6 w7 := by rw [e7]; exact grow1 w6 _
  have hg7 : w7.heap[w6.heap.size]? = some (.cells #[.int .i64 0, .int .i64 0, .int .i64 0, .int .i64 0, .slice none 0 0, .int .i64 0, .int .i64 0, .slice none 0 0] 55 (0, 0)) := by rw [e7]; exact heap_alloc_new w6 _
  have HB7 := Lib.hid hb7
  clear e7 hb7
  refine wpList_store_o rfl 55 _ _ rfl w6.heap.size _ rfl rfl 55 _ hg7 inf55 rfl rfl ?_
  intro w8 hb8 ho8
  have hb6 : Below w6.heap.size w6 w8 := ho8.belowT HB7.out (Nat.le_refl _)
  have S8 := Lib.hid (S6.out.kept hb6)
  have HR8 := Lib.hid (HR.out.kept hb6)
  have HG8 := Lib.hid hb8
  clear hb8 ho8 S6 HR hg7 HB7 hb6
  go_wp2_with fail
  refine (must_c q lv l b _ w8 S8.out.1.1 S8.out.2.2 hbl hln y HY.out BY.out).mono ?_
  rintro e w9 ⟨rfl, hp⟩
  have S9 := Lib.hid (S8.out.step hp hgq HN.out)
  have HR9 := Lib.hid (HR8.out.blk (w' := w9) fun g hg hlt => hp.2.block g hlt (by omega))
  have hg9 := (hp.2.block w6.heap.size (block_lt HG8.out) (by omega)).trans HG8.out
  have HG9 := Lib.hid hg9
  clear hp S8 HR8 HG8 hg9
  go_wp2_with (first | (refine stop_load 55 _ rfl ?_) | (refine stop_store 55 _ _ rfl ?_))
  obtain ⟨fs, hu⟩ := und55
  refine Stop.go (wpList_load_row rfl 55 _ rfl w6.heap.size rfl 55 _ (0, 0) _ HG9.out hu rfl inf55 ?_)
  refine wpList_store_o rfl 55 _ _ rfl w.heap.size _ rfl rfl 55 _ S9.out.2.1 inf55 rfl rfl ?_
  intro w10 hb10 ho10
  have HB := Lib.hid hb10
  have HP := Lib.hid (S9.out.1.only ho10 (Nat.le_refl _) hqg)
  have HR10 := Lib.hid (HR9.out.blk (w' := w10) fun g hg hlt => ho10.block g (by omega))
  clear hb10 ho10 S9 HR9 HG9 hu
  go_wp2_with fail
  exact ret55 Tryz.results76 rfl rfl HB.out rfl ⟨_, rfl, HR10.out.mono fun k hk _ => by omega, HP.out⟩
end Go.Proofs.YtekfkieimdgfkaaGreat
/- What is proved here: the parser reads steps, or rows, with a word between. Condition: its words stand there. -/
namespace Go.Proofs.YtekfkieimdgfkaaGreat
open Go Go.RowKit
attribute [local go_sem] KW.cell KW.frozen
/-- From b on: a word s and a policy, again and again, up to c, where s stands no more. -/
def RestC (fn : FuncId) (q : Nat) (lv : Value) (l : List Tk) (s : ByteArray) (d : Nat) : Nat → Nat → List Pol → Prop
  | b, c, [] => b = c ∧ ∃ y, l[b]? = some y ∧ ((y.k == 1 || y.k == 3) && (y.t == s.data.toList)) = false
  | b, c, x :: r => (∃ y, l[b]? = some y ∧ ((y.k == 1 || y.k == 3) && (y.t == s.data.toList)) = true) ∧ ∃ b', PolC fn q lv l (b + 1) b' d x ∧ RestC fn q lv l s d b' c r
theorem cf76 (args : Array Value) (w : World) : (callFunc 76 args).run Tryz.prog w = .ok (.enter 76 args) w := by
  simp [go_sem]
theorem cf51 (args : Array Value) (w : World) : (callFunc 51 args).run Tryz.prog w = .ok (.enter 51 args) w := by
  simp [go_sem]
theorem ParTo.grown {q : Nat} {lv : Value} {a : Nat} {w w1 w2 : World} {row : Option Nat} (h : ParTo q lv a w w1) (hg : w1.grownBy w2 row) (hr : ∀ k, row = some k → w.heap.size ≤ k) (hq : q < w.heap.size) : ParTo q lv a w w2 := by
  have hn : ∀ k, k < w.heap.size → some k ≠ row := fun k hk e => by have := hr k e.symm; omega
  have hs := h.2.size
  exact ⟨(hg.block q (by omega) (hn q hq)).trans h.1, ⟨hg.os.trans h.2.os, hg.tape.trans h.2.tape, hg.output.trans h.2.output, Nat.le_trans hs hg.size, fun k hk hn' => (hg.block k (by omega) (hn k hk)).trans (h.2.block k hk hn')⟩⟩
set_option maxRecDepth 100000 in
set_option maxHeartbeats 8000000 in
theorem chain50 (fn q : Nat) (lv : Value) (l : List Tk) (s : ByteArray) (a b c d : Nat) (x : Pol) (r : List Pol) (w : World) (hq : w.heap[q]? = some (PaO lv a)) (hl : Rz 4 tkE lv l w) (hne : Apart q lv) (hln : l.length ≤ 1000)
    (hcf : ∀ (args : Array Value) (w : World), (callFunc fn args).run Tryz.prog w = .ok (.enter fn args) w) (ho : PolC fn q lv l a b d x) (hr : RestC fn q lv l s d b c r) (hrl : r.length ≤ 1000) :
    Calls Tryz.prog 50 #[.pointer (some ⟨q, 0, none⟩), .string s, .func (.func fn) #[.pointer (some ⟨q, 0, none⟩)] #[]] w fun e w' => ∃ g v, e = .returned v ∧ RowP w.heap.size g d v (x :: r) w' ∧ ParTo q lv c w w' := by
  have X := Lib.hid (ho w hq hl)
  have HL := Lib.hid hl
  have HN := Lib.hid hne
  have HR := Lib.hid hr
  have hqs : q < w.heap.size := block_lt hq
  clear hq hl hne ho hr
  go_enter Tryz.func50, Tryz.ntmps50
  go_wp2_with fail
  refine X.out.mono ?_
  rintro e w1 ⟨u, rfl, hr1, hp⟩
  obtain ⟨uo, uc, rfl, _, _⟩ := hr1.form
  have hs1 : w.heap.size ≤ w1.heap.size := hp.2.size
  have hb1 := grow1 w1 (.cells (polL x (.slice uo x.l.length uc)).toArray 55)
  have S1 : Hid (ParTo q lv b w (w1.alloc (.cells (polL x (.slice uo x.l.length uc)).toArray 55)) ∧
      RowP w.heap.size w1.heap.size d (.slice (some ⟨w1.heap.size, 0, none⟩) 1 1) [x] (w1.alloc (.cells (polL x (.slice uo x.l.length uc)).toArray 55))) :=
    Lib.hid ⟨hp.kept hb1, RowP.lit hs1 hr1⟩
  clear hp X hr1 hb1
  unfold polV
  go_wp2_with fail
  go_loopg [7] (r.length) (fun gg s7 wr => ∃ (b' g : Nat) (v : Value) (xs ys : List Pol), v = s7 ∧ gg = ys.length ∧ Hid (xs ++ ys = x :: r) ∧ Hid (ParTo q lv b' w wr ∧ RowP w.heap.size g d v xs wr) ∧ Hid (RestC fn q lv l s d b' c ys))
  case atStart => exact ⟨b, w1.heap.size, _, [x], r, rfl, rfl, Lib.hid rfl, S1, HR⟩
  case round =>
    clear S1 HR
    obtain ⟨b', g, v, xs, ys, rfl, hgg, HE, S, HR⟩ := hrel
    obtain ⟨vc, rfl, _, _, hgw, hgl⟩ := S.out.2.form
    cases ys with
    | nil =>
      obtain ⟨hbc, y, hy, hyn⟩ := HR.out
      obtain ⟨hbl, hyb⟩ := List.getElem?_eq_some_iff.1 hy
      have HY := Lib.hid hyb
      have HB := Lib.hid hyn
      have HBC := Lib.hid hbc
      clear hy hyb hyn hbc HR hgg
      go_wp2_with fail
      refine (is_no s S.out.1.1 (HL.out.qm S.out.1.2 HN.out) hbl hln y HY.out HB.out).mono ?_
      rintro e w2 ⟨rfl, hp⟩
      have S2 : Hid (ParTo q lv b' w w2 ∧ RowP w.heap.size g d (.slice (some ⟨g, 0, none⟩) xs.length vc) xs w2) := Lib.hid ⟨S.out.1.trans hp, S.out.2.blk fun k hk hlt => hp.2.block k hlt (by omega)⟩
      clear hp S
      go_wp2_with fail
      go_ret
      obtain rfl : xs = x :: r := by simpa using HE.out
      exact ⟨g, _, rfl, S2.out.2, by rw [← HBC.out]; exact S2.out.1⟩
    | cons y ys =>
      obtain ⟨⟨z, hz, hzy⟩, b2, hyc, hrest⟩ := HR.out
      obtain ⟨hbl, hzb⟩ := List.getElem?_eq_some_iff.1 hz
      have HZ := Lib.hid hzb
      have HB := Lib.hid hzy
      have HY := Lib.hid hyc
      have HRR := Lib.hid hrest
      have HGG := Lib.hid hgg
      clear hz hzb hzy hyc hrest HR hgg
      go_wp2_with fail
      refine (is_yes s S.out.1.1 (HL.out.qm S.out.1.2 HN.out) hbl hln z HZ.out HB.out).mono ?_
      rintro e w2 ⟨rfl, hp⟩
      have S2 : Hid (ParTo q lv (b' + 1) w w2 ∧ RowP w.heap.size g d (.slice (some ⟨g, 0, none⟩) xs.length vc) xs w2) :=
        Lib.hid ⟨S.out.1.trans hp, S.out.2.blk fun k hk hlt => hp.2.block k hlt (by omega)⟩
      clear hp S
      go_wp2_with fail
      refine (HY.out _ S2.out.1.1 (HL.out.qm S2.out.1.2 HN.out)).mono ?_
      rintro e w3 ⟨u, rfl, hr3, hp⟩
      obtain ⟨uo, uc, rfl, _, _⟩ := hr3.form
      have hsz2 : g < w2.heap.size := S2.out.2.form.choose_spec.2.2.2.2
      have hsw2 : w.heap.size ≤ w2.heap.size := S2.out.1.2.size
      have S3 : Hid (ParTo q lv b2 w w3 ∧ RowP w.heap.size g d (.slice (some ⟨g, 0, none⟩) xs.length vc) xs w3 ∧ RdP (fun k => w.heap.size ≤ k ∧ k ≠ g) d (.slice uo y.l.length uc) y.l w3) :=
        Lib.hid ⟨S2.out.1.trans hp, S2.out.2.blk fun k hk hlt => hp.2.block k hlt (by omega), hr3.mono fun k hk hlt => by omega⟩
      have hln2 : xs.length ≤ 1001 := by
        have h9 := congrArg List.length HE.out
        simp only [List.length_append, List.length_cons] at h9
        omega
      clear hp S2 hr3
      unfold polV
      go_wp2_with (at_builtin; refine stop_list ?_)
      refine Stop.go (abs_list ?_)
      intro w4 e4
      have hb4 : Below w3.heap.size w3 w4 := by rw [e4]; exact grow1 w3 _
      have hg4 : w4.heap[w3.heap.size]? = some (.cells (polL y (.slice uo y.l.length uc)).toArray 55 (0, 0)) := by rw [e4]; exact heap_alloc_new w3 _
      have S4 : Hid (ParTo q lv b2 w w4 ∧ RowP w.heap.size g d (.slice (some ⟨g, 0, none⟩) xs.length vc) xs w4 ∧ RdP (fun k => w.heap.size ≤ k ∧ k ≠ g) d (.slice uo y.l.length uc) y.l w4) :=
        Lib.hid ⟨S3.out.1.kept hb4, S3.out.2.1.blk fun k hk hlt => hb4.block k hlt, S3.out.2.2.kept hb4⟩
      clear e4 S3
      refine wpList_push1 el53 rfl _ _ rfl w.heap.size _ xs.length _ rfl S4.out.2.1.choose_spec.2.1 w3.heap.size rfl _ hg4 rfl rfl (by omega) S4.out.1.2.size ?_
      intro g2 cap2 w5 hown hgr hor hlt2
      have S5 : Hid (ParTo q lv b2 w w5 ∧ RowP w.heap.size g2 d (.slice (some ⟨g2, 0, none⟩) (xs.length + 1) cap2) (xs ++ [y]) w5) :=
        Lib.hid ⟨S4.out.1.grown hgr (fun k hk => by cases hk; exact hgw) hqs, S4.out.2.1.push (Below.refl _ _) S4.out.2.2 hown hgr hor⟩
      clear hown hgr hor S4 hb4 hg4
      go_wp2_with fail
      go_roundg ys.length
      case measure => rw [HGG.out]; simp
      case rel => exact ⟨b2, g2, _, xs ++ [y], ys, rfl, rfl, Lib.hid (by simpa using HE.out), S5, HRR⟩
end Go.Proofs.YtekfkieimdgfkaaGreat
/- What is proved here: the parser reads a row of steps, and a policy of rows. Condition: their words stand there. -/
namespace Go.Proofs.YtekfkieimdgfkaaGreat
open Go Go.RowKit
attribute [local go_sem] KW.cell KW.frozen
set_option maxRecDepth 100000 in
set_option maxHeartbeats 8000000 in
theorem one51 (q : Nat) (lv : Value) (l : List Tk) (a b d : Nat) (x : Pol) (hne : Apart q lv) (hln : l.length ≤ 1000)
    (ho : PolC 76 q lv l a b d x) (hr : RestC 76 q lv l ⟨#[59]⟩ d b b []) : PolC 51 q lv l a b d x := by
  intro w hq hl
  have hgq : w.heap.size ≠ q := Nat.ne_of_gt (block_lt hq)
  have hqg : q ≠ w.heap.size := Ne.symm hgq
  have hqs : q < w.heap.size := block_lt hq
  have S0 := Lib.hid (PS.start (l := l) 55 #[.int .i64 0, .int .i64 0, .int .i64 0, .int .i64 0, .slice none 0 0, .int .i64 0, .int .i64 0, .slice none 0 0] hq hl)
  have HN := Lib.hid hne
  have HO := Lib.hid ho
  have HR := Lib.hid hr
  clear hq hl hne ho hr
  go_enter Tryz.func51, Tryz.ntmps51
  go_wp2_with fail
  refine (chain50 76 q lv l _ a b b d x [] _ S0.out.1.1 S0.out.2.2 HN.out hln cf76 HO.out HR.out (by simp)).mono ?_
  rintro e w1 ⟨g, v, rfl, hrow, hp⟩
  obtain ⟨vc, rfl, _, _, hgw, hgl⟩ := hrow.form
  simp only [World.size_alloc] at hgw
  obtain ⟨g1, cap1, u, hv, _, hge, hrange, hrx⟩ := hrow.rd.at_ 0 (by simp)
  cases hv
  have S1 := Lib.hid (S0.out.step hp hgq HN.out)
  have HRA := Lib.hid hrange
  have HRX := Lib.hid hrx
  obtain ⟨uo, uc, rfl, _, _⟩ := hrx.form
  clear hp S0 hrow hrange hrx hge
  go_wp2_with (first | (refine stop_load 55 _ rfl ?_) | (refine stop_store 55 _ _ rfl ?_))
  obtain ⟨fs, hu⟩ := und55
  refine Stop.go (wpList_load_mid rfl 55 _ rfl g 0 rfl (polL x (.slice uo x.l.length uc)) _ HRA.out hu rfl inf55 ?_)
  refine wpList_store_o rfl 55 _ _ rfl w.heap.size _ rfl rfl 55 _ S1.out.2.1 inf55 rfl rfl ?_
  intro w2 hb2 ho2
  have HB := Lib.hid hb2
  have HP := Lib.hid (S1.out.1.only ho2 (Nat.le_refl _) hqg)
  have HR2 := Lib.hid ((HRX.out.mono (P' := fun k => w.heap.size < k) fun k hk _ => by simp at hk; omega).blk (w' := w2) fun k hk hlt => ho2.block k (by omega))
  clear hb2 ho2 S1 HRA HRX hu
  go_wp2_with fail
  exact ret55 Tryz.results51 rfl rfl HB.out rfl ⟨_, rfl, HR2.out.mono fun k hk _ => by omega, HP.out⟩
set_option maxRecDepth 100000 in
set_option maxHeartbeats 8000000 in
theorem many51 (q : Nat) (lv : Value) (l : List Tk) (a b c d : Nat) (x y : Pol) (r : List Pol) (hne : Apart q lv) (hln : l.length ≤ 1000)
    (ho : PolC 76 q lv l a b d x) (hr : RestC 76 q lv l ⟨#[59]⟩ d b c (y :: r)) (hrl : r.length ≤ 100) : PolC 51 q lv l a c (d + 1) (.mk 3 0 0 0 0 0 (x :: y :: r)) := by
  intro w hq hl
  have hgq : w.heap.size ≠ q := Nat.ne_of_gt (block_lt hq)
  have hqg : q ≠ w.heap.size := Ne.symm hgq
  have hqs : q < w.heap.size := block_lt hq
  have S0 := Lib.hid (PS.start (l := l) 55 #[.int .i64 0, .int .i64 0, .int .i64 0, .int .i64 0, .slice none 0 0, .int .i64 0, .int .i64 0, .slice none 0 0] hq hl)
  have HN := Lib.hid hne
  have HO := Lib.hid ho
  have HR := Lib.hid hr
  clear hq hl hne ho hr
  have hd1 : decide (((r.length + 1 + 1 : Nat) : Int) = 1) = false := by simp; omega
  have hd2 : (((r.length + 1 + 1 : Nat) : Int) == 1) = false := by rw [beq_eq_false_iff_ne]; omega
  go_enter Tryz.func51, Tryz.ntmps51
  go_wp2_with fail
  refine (chain50 76 q lv l _ a b c d x (y :: r) _ S0.out.1.1 S0.out.2.2 HN.out hln cf76 HO.out HR.out (by simp; omega)).mono ?_
  rintro e w1 ⟨g, v, rfl, hrow, hp⟩
  obtain ⟨vc, rfl, _, _, hgw, hgl⟩ := hrow.form
  simp only [World.size_alloc] at hgw
  have S1 := Lib.hid (S0.out.step hp hgq HN.out)
  have HRX := Lib.hid hrow.rd
  clear hp S0 hrow
  simp only [List.length_cons]
  go_wp2_with (first | (refine stop_load 55 _ rfl ?_) | (refine stop_store 55 _ _ rfl ?_))
  refine Stop.go (wpList_store_o rfl 55 _ _ rfl w.heap.size _ rfl rfl 55 _ S1.out.2.1 inf55 rfl rfl ?_)
  intro w2 hb2 ho2
  have HB := Lib.hid hb2
  have HP := Lib.hid (S1.out.1.only ho2 (Nat.le_refl _) hqg)
  have HR2 := Lib.hid ((HRX.out.mono (P' := fun k => w.heap.size < k) fun k hk _ => by simp at hk; omega).blk (w' := w2) fun k hk hlt => ho2.block k (by omega))
  clear hb2 ho2 S1 HRX
  go_wp2_with fail
  exact ret55 Tryz.results51 rfl rfl HB.out rfl ⟨_, rfl, HR2.out.mono fun k hk _ => by omega, HP.out⟩
set_option maxRecDepth 100000 in
set_option maxHeartbeats 8000000 in
theorem one27 (q : Nat) (lv : Value) (l : List Tk) (a b d : Nat) (x : Pol) (hne : Apart q lv) (hln : l.length ≤ 1000)
    (ho : PolC 51 q lv l a b d x) (hr : RestC 51 q lv l ⟨#[124]⟩ d b b []) : PolC 27 q lv l a b d x := by
  intro w hq hl
  have hgq : w.heap.size ≠ q := Nat.ne_of_gt (block_lt hq)
  have hqg : q ≠ w.heap.size := Ne.symm hgq
  have hqs : q < w.heap.size := block_lt hq
  have S0 := Lib.hid (PS.start (l := l) 55 #[.int .i64 0, .int .i64 0, .int .i64 0, .int .i64 0, .slice none 0 0, .int .i64 0, .int .i64 0, .slice none 0 0] hq hl)
  have HN := Lib.hid hne
  have HO := Lib.hid ho
  have HR := Lib.hid hr
  clear hq hl hne ho hr
  go_enter Tryz.func27, Tryz.ntmps27
  go_wp2_with fail
  refine (chain50 51 q lv l _ a b b d x [] _ S0.out.1.1 S0.out.2.2 HN.out hln cf51 HO.out HR.out (by simp)).mono ?_
  rintro e w1 ⟨g, v, rfl, hrow, hp⟩
  obtain ⟨vc, rfl, _, _, hgw, hgl⟩ := hrow.form
  simp only [World.size_alloc] at hgw
  obtain ⟨g1, cap1, u, hv, _, hge, hrange, hrx⟩ := hrow.rd.at_ 0 (by simp)
  cases hv
  have S1 := Lib.hid (S0.out.step hp hgq HN.out)
  have HRA := Lib.hid hrange
  have HRX := Lib.hid hrx
  obtain ⟨uo, uc, rfl, _, _⟩ := hrx.form
  clear hp S0 hrow hrange hrx hge
  go_wp2_with (first | (refine stop_load 55 _ rfl ?_) | (refine stop_store 55 _ _ rfl ?_))
  obtain ⟨fs, hu⟩ := und55
  refine Stop.go (wpList_load_mid rfl 55 _ rfl g 0 rfl (polL x (.slice uo x.l.length uc)) _ HRA.out hu rfl inf55 ?_)
  refine wpList_store_o rfl 55 _ _ rfl w.heap.size _ rfl rfl 55 _ S1.out.2.1 inf55 rfl rfl ?_
  intro w2 hb2 ho2
  have HB := Lib.hid hb2
  have HP := Lib.hid (S1.out.1.only ho2 (Nat.le_refl _) hqg)
  have HR2 := Lib.hid ((HRX.out.mono (P' := fun k => w.heap.size < k) fun k hk _ => by simp at hk; omega).blk (w' := w2) fun k hk hlt => ho2.block k (by omega))
  clear hb2 ho2 S1 HRA HRX hu
  go_wp2_with fail
  exact ret55 Tryz.results27 rfl rfl HB.out rfl ⟨_, rfl, HR2.out.mono fun k hk _ => by omega, HP.out⟩
set_option maxRecDepth 100000 in
set_option maxHeartbeats 8000000 in
theorem many27 (q : Nat) (lv : Value) (l : List Tk) (a b c d : Nat) (x y : Pol) (r : List Pol) (hne : Apart q lv) (hln : l.length ≤ 1000)
    (ho : PolC 51 q lv l a b d x) (hr : RestC 51 q lv l ⟨#[124]⟩ d b c (y :: r)) (hrl : r.length ≤ 100) : PolC 27 q lv l a c (d + 1) (.mk 4 0 0 0 0 0 (x :: y :: r)) := by
  intro w hq hl
  have hgq : w.heap.size ≠ q := Nat.ne_of_gt (block_lt hq)
  have hqg : q ≠ w.heap.size := Ne.symm hgq
  have hqs : q < w.heap.size := block_lt hq
  have S0 := Lib.hid (PS.start (l := l) 55 #[.int .i64 0, .int .i64 0, .int .i64 0, .int .i64 0, .slice none 0 0, .int .i64 0, .int .i64 0, .slice none 0 0] hq hl)
  have HN := Lib.hid hne
  have HO := Lib.hid ho
  have HR := Lib.hid hr
  clear hq hl hne ho hr
  have hd1 : decide (((r.length + 1 + 1 : Nat) : Int) = 1) = false := by simp; omega
  have hd2 : (((r.length + 1 + 1 : Nat) : Int) == 1) = false := by rw [beq_eq_false_iff_ne]; omega
  go_enter Tryz.func27, Tryz.ntmps27
  go_wp2_with fail
  refine (chain50 51 q lv l _ a b c d x (y :: r) _ S0.out.1.1 S0.out.2.2 HN.out hln cf51 HO.out HR.out (by simp; omega)).mono ?_
  rintro e w1 ⟨g, v, rfl, hrow, hp⟩
  obtain ⟨vc, rfl, _, _, hgw, hgl⟩ := hrow.form
  simp only [World.size_alloc] at hgw
  have S1 := Lib.hid (S0.out.step hp hgq HN.out)
  have HRX := Lib.hid hrow.rd
  clear hp S0 hrow
  simp only [List.length_cons]
  go_wp2_with (first | (refine stop_load 55 _ rfl ?_) | (refine stop_store 55 _ _ rfl ?_))
  refine Stop.go (wpList_store_o rfl 55 _ _ rfl w.heap.size _ rfl rfl 55 _ S1.out.2.1 inf55 rfl rfl ?_)
  intro w2 hb2 ho2
  have HB := Lib.hid hb2
  have HP := Lib.hid (S1.out.1.only ho2 (Nat.le_refl _) hqg)
  have HR2 := Lib.hid ((HRX.out.mono (P' := fun k => w.heap.size < k) fun k hk _ => by simp at hk; omega).blk (w' := w2) fun k hk hlt => ho2.block k (by omega))
  clear hb2 ho2 S1 HRX
  go_wp2_with fail
  exact ret55 Tryz.results27 rfl rfl HB.out rfl ⟨_, rfl, HR2.out.mono fun k hk _ => by omega, HP.out⟩
set_option maxRecDepth 100000 in
set_option maxHeartbeats 8000000 in
theorem parse26 (q : Nat) (lv : Value) (l : List Tk) (a b d : Nat) (x : Pol) (hne : Apart q lv) (ho : PolC 27 q lv l a b d x) : PolC 26 q lv l a b d x := by
  intro w hq hl
  have hgq : w.heap.size ≠ q := Nat.ne_of_gt (block_lt hq)
  have hqg : q ≠ w.heap.size := Ne.symm hgq
  have S0 := Lib.hid (PS.start (l := l) 55 #[.int .i64 0, .int .i64 0, .int .i64 0, .int .i64 0, .slice none 0 0, .int .i64 0, .int .i64 0, .slice none 0 0] hq hl)
  have HN := Lib.hid hne
  have HO := Lib.hid ho
  clear hq hl hne ho
  go_enter Tryz.func26, Tryz.ntmps26
  go_wp2_with fail
  refine (HO.out _ S0.out.1.1 S0.out.2.2).mono ?_
  rintro e w1 ⟨u, rfl, hrx, hp⟩
  obtain ⟨uo, uc, rfl, _, _⟩ := hrx.form
  have S1 := Lib.hid (S0.out.step hp hgq HN.out)
  have HRX := Lib.hid hrx
  clear hp S0 hrx
  unfold polV
  go_wp2_with (first | (refine stop_load 55 _ rfl ?_) | (refine stop_store 55 _ _ rfl ?_))
  refine Stop.go (wpList_store_o rfl 55 _ _ rfl w.heap.size _ rfl rfl 55 _ S1.out.2.1 inf55 rfl rfl ?_)
  intro w2 hb2 ho2
  have HB := Lib.hid hb2
  have HP := Lib.hid (S1.out.1.only ho2 (Nat.le_refl _) hqg)
  have HR2 := Lib.hid ((HRX.out.mono (P' := fun k => w.heap.size < k) fun k hk _ => by simp at hk; omega).blk (w' := w2) fun k hk hlt => ho2.block k (by omega))
  clear hb2 ho2 S1 HRX
  go_wp2_with fail
  exact ret55 Tryz.results26 rfl rfl HB.out rfl ⟨_, rfl, HR2.out.mono fun k hk _ => by omega, HP.out⟩
end Go.Proofs.YtekfkieimdgfkaaGreat
