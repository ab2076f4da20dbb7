/- What is proved here: the parser goes over a field's word. Condition: it stands there. -/
import Derived.Test.YtekfkieimdgfkaaGreatT38
import Derived.RegionTactic
import Derived.RegionCalls
import Derived.Deep.DrawnRows
namespace Go.Proofs.YtekfkieimdgfkaaGreat
open Go Go.RowKit
attribute [local go_sem] KW.cell KW.frozen
attribute [local go_sem ↓] Go.wp_at_zero Go.wp_at_succ
def fieldsL : List (List UInt8) := [[115, 114, 99], [100, 115, 116], [107, 105, 110, 100], [116, 97, 103], [112, 111, 114, 116], [115, 119, 105, 116, 99, 104]]
theorem fields_rz (w : World) (g : Nat) (hg : w.heap[g]? = some (.cells #[.string ⟨#[115, 114, 99]⟩, .string ⟨#[100, 115, 116]⟩, .string ⟨#[107, 105, 110, 100]⟩, .string ⟨#[116, 97, 103]⟩, .string ⟨#[112, 111, 114, 116]⟩, .string ⟨#[115, 119, 105, 116, 99, 104]⟩] 9 (0, 0))) (v : Value) (l : List (List UInt8)) (h : (v = .slice (some ⟨g, 0, none⟩) 5 6 ∧ l = fieldsL.take 5) ∨ (v = .slice (some ⟨g, 0, none⟩) 6 6 ∧ l = fieldsL)) : Rz 1 strE v l w := by
  have hl := block_lt hg
  have hc := block_cell hg
  rcases h with ⟨rfl, rfl⟩ | ⟨rfl, rfl⟩
  · refine .inr ⟨⟨g, 0, none⟩, 6, rfl, fun _ => hl, by decide, by decide, fun i hi j u hj => ?_⟩
    have hi5 : i < 5 := hi
    have : i = 0 ∨ i = 1 ∨ i = 2 ∨ i = 3 ∨ i = 4 := by omega
    rcases this with rfl | rfl | rfl | rfl | rfl <;> rcases j with _ | j <;> simp [strE, fieldsL] at hj <;> subst hj <;> simp [Addr.add, hc, bs]
  · refine .inr ⟨⟨g, 0, none⟩, 6, rfl, fun _ => hl, by decide, by decide, fun i hi j u hj => ?_⟩
    have hi6 : i < 6 := hi
    have : i = 0 ∨ i = 1 ∨ i = 2 ∨ i = 3 ∨ i = 4 ∨ i = 5 := by omega
    rcases this with rfl | rfl | rfl | rfl | rfl | rfl <;> rcases j with _ | j <;> simp [strE, fieldsL] at hj <;> subst hj <;> simp [Addr.add, hc, bs]
theorem fields_ne : ∀ j, j < 6 → ∀ f, f < 6 → j < f → fieldsL[j]? ≠ fieldsL[f]? := by decide
set_option maxRecDepth 100000 in
set_option maxHeartbeats 8000000 in
theorem field_c (q : Nat) (lv : Value) (l : List Tk) (at_ : Nat) (w : World) (hq : w.heap[q]? = some (PaO lv at_)) (hl : Rz 4 tkE lv l w) (h : at_ < l.length) (hln : l.length ≤ 1000) (x : Tk) (hx : l[at_] = x) (hk : x.k = 1)
    (many f : Nat) (hm : (many = 5 ∧ f < 5) ∨ (many = 6 ∧ f < 6)) (hf : fieldsL[f]? = some x.t) :
    Calls Tryz.prog 101 #[.pointer (some ⟨q, 0, none⟩), .int .i64 many] w fun e w' => e = .returned (.int .i64 f) ∧ ParTo q lv (at_ + 1) w w' := by
  have X := Lib.hid (now_c q lv l at_ w hq hl h x hx)
  have HQ := Lib.hid hq
  obtain ⟨xk, xn, xt, xa⟩ := x
  simp only at hk hf
  subst hk
  have S : Hid (∀ (g : Nat) (W : World), W.heap[g]? = some (.cells #[.string ⟨#[115, 114, 99]⟩, .string ⟨#[100, 115, 116]⟩, .string ⟨#[107, 105, 110, 100]⟩, .string ⟨#[116, 97, 103]⟩, .string ⟨#[112, 111, 114, 116]⟩, .string ⟨#[115, 119, 105, 116, 99, 104]⟩] 9 (0, 0)) → Calls Tryz.prog 133 #[.slice (some ⟨g, 0, none⟩) many 6, .string (bs xt)] W fun e w' => e = .returned (.int .i64 f) ∧ w' = W) := Lib.hid (by
    intro g W hW
    have hb : (bs xt).data.toList = xt := by simp [bs]
    rcases hm with ⟨rfl, hf5⟩ | ⟨rfl, hf6⟩
    · have hl5 : (fieldsL.take 5).length = 5 := rfl
      have hg : (fieldsL.take 5)[f]? = some xt := by rw [List.getElem?_take_of_lt hf5]; exact hf
      refine sindex_c _ (fieldsL.take 5) _ f _ (fields_rz W g hW _ _ (.inl ⟨rfl, rfl⟩)) hf5 ?_ ?_ (by decide)
      · rw [hb]; exact (List.getElem?_eq_some_iff.1 hg).2
      · rw [hb]
        intro j hj hjf e
        have h1 : (fieldsL.take 5)[j]? = some xt := by rw [List.getElem?_eq_getElem hj, e]
        rw [List.getElem?_take_of_lt (by omega)] at h1
        exact fields_ne j (by omega) f (by omega) hjf (h1.trans hf.symm)
    · refine sindex_c _ fieldsL _ f _ (fields_rz W g hW _ _ (.inr ⟨rfl, rfl⟩)) hf6 ?_ ?_ (by decide)
      · rw [hb]; exact (List.getElem?_eq_some_iff.1 hf).2
      · rw [hb]
        intro j hj hjf e
        have h1 : fieldsL[j]? = some xt := by rw [List.getElem?_eq_getElem hj, e]
        exact fields_ne j (by omega) f (by omega) hjf (h1.trans hf.symm))
  have hm6 : many ≤ 6 := by omega
  have hm7 : (many : Int) ≤ 6 := by omega
  have hm0 : (0 : Int) ≤ many := by omega
  have hf0 : decide ((0 : Int) ≤ (f : Int)) = true := by simp
  clear hq hl hx hm hf
  go_enter Tryz.func101, Tryz.ntmps101
  go_wp2_with fail
  refine X.out.mono ?_
  rintro e w1 ⟨rfl, hb1⟩
  have hq1 := (hb1.block q (block_lt HQ.out)).trans HQ.out
  have hb2 := grow1 w1 (.cells #[.int .i64 1, .int .i64 xn, .string (bs xt), .int .i64 (xa : Int)] 112)
  have hz0 : (w1.alloc (.cells #[.int .i64 1, .int .i64 xn, .string (bs xt), .int .i64 (xa : Int)] 112)).heap[w1.heap.size]? = some (.cells #[.int .i64 1, .int .i64 xn, .string (bs xt), .int .i64 (xa : Int)] 112 (0, 0)) := heap_alloc_new w1 _
  have HP2 : Hid (ParTo q lv at_ w (w1.alloc (.cells #[.int .i64 1, .int .i64 xn, .string (bs xt), .int .i64 (xa : Int)] 112))) := Lib.hid (ParTo.kept ⟨hq1, Qm.of_below hb1⟩ hb2)
  have HZ := Lib.hid hz0
  clear hq1 hb1 HQ X hb2 hz0
  go_upto_region 4 with fail
  refine abs_wp ?_
  intro wb hwb
  have hp2 : ParTo q lv at_ w wb := by rw [hwb]; exact HP2.out
  have hz0 : wb.heap[w1.heap.size]? = some (.cells #[.int .i64 1, .int .i64 xn, .string (bs xt), .int .i64 (xa : Int)] 112 (0, 0)) := by rw [hwb]; exact HZ.out
  have hzl := block_lt hz0
  have z2 := block_cell hz0 2
  simp only [List.getElem?_toArray, List.getElem?_cons_zero, List.getElem?_cons_succ] at z2
  have hq2 := hp2.1
  have hql := block_lt hq2
  have hnq : wb.heap.size ≠ q := by omega
  have hnp : q ≠ wb.heap.size := by omega
  have n1 : (wb.heap.size = q) = False := eq_false hnq
  have n2 : (q = wb.heap.size) = False := eq_false hnp
  have c1 := block_cell hq2 1
  have f1 := block_free hq2 1
  simp only [List.getElem?_toArray, List.getElem?_cons_zero, List.getElem?_cons_succ] at c1
  have hp3 : ParTo q lv (at_ + 1) w (wb.setCell ⟨q, 1, none⟩ (.int .i64 ((at_ + 1 : Nat) : Int))) := ⟨blk_set2 hq2, hp2.2.set 1 _⟩
  have hc2 : ((at_ + 1 : Nat) : Int) = (at_ : Int) + 1 := by omega
  rw [hc2] at hp3
  have HP3 := Lib.hid hp3
  clear hwb HP2 HZ hp2 hz0 hq2 hp3 hc2
  go_region_with (go_at_call 133; refine (S.out wb.heap.size _ ?_).mono ?_; (first | exact heap_alloc_new wb _ | exact heap_alloc_new wb.drew _); rintro e w3 ⟨rfl, rfl⟩)
  all_goals
    clear S z2
    go_wp2_with fail
    go_ret
    refine ⟨rfl, ?_⟩
    first | exact HP3.out.kept ((grow1 _ _).drew) | exact HP3.out.kept (grow1 _ _) | exact HP3.out.kept (((Below.refl _ _).drew).alloc (Nat.le_refl _) _)
end Go.Proofs.YtekfkieimdgfkaaGreat
/- What is proved here: the parser reads a part of a condition. Condition: a field, a sign and a number stand there. -/
namespace Go.Proofs.YtekfkieimdgfkaaGreat
open Go Go.RowKit
attribute [local go_sem] KW.cell KW.frozen
section
variable {q : Nat} {lv : Value} {l : List Tk} {at_ : Nat} {w : World}
theorem is_no (s : ByteArray) (hq : w.heap[q]? = some (PaO lv at_)) (hl : Rz 4 tkE lv l w) (h : at_ < l.length) (hln : l.length ≤ 1000) (x : Tk) (hx : l[at_] = x) (hb : ((x.k == 1 || x.k == 3) && (x.t == s.data.toList)) = false) :
    Calls Tryz.prog 75 #[.pointer (some ⟨q, 0, none⟩), .string s] w fun e w' => e = .returned (.bool false) ∧ ParTo q lv at_ w w' := by
  have h0 := is_c q lv l at_ s w hq hl h hln x hx false hb
  rw [if_neg (by decide)] at h0
  exact h0
theorem is_yes (s : ByteArray) (hq : w.heap[q]? = some (PaO lv at_)) (hl : Rz 4 tkE lv l w) (h : at_ < l.length) (hln : l.length ≤ 1000) (x : Tk) (hx : l[at_] = x) (hb : ((x.k == 1 || x.k == 3) && (x.t == s.data.toList)) = true) :
    Calls Tryz.prog 75 #[.pointer (some ⟨q, 0, none⟩), .string s] w fun e w' => e = .returned (.bool true) ∧ ParTo q lv (at_ + 1) w w' := by
  have h0 := is_c q lv l at_ s w hq hl h hln x hx true hb
  rw [if_pos (rfl : true = true)] at h0
  exact h0
end
/-- In the middle of a parser's function: the parser's place, the function's own block g, the tokens. -/
def PS (q : Nat) (lv : Value) (l : List Tk) (g : Nat) (o : Obj) (at_ : Nat) (w wk : World) : Prop := ParTo q lv at_ w wk ∧ wk.heap[g]? = some o ∧ Rz 4 tkE lv l wk
/-- The tokens do not lie in the parser's block. -/
def Apart (q : Nat) (lv : Value) : Prop := ∀ a n c, lv = .slice (some a) n c → a.block ≠ q
theorem PS.step {q : Nat} {lv : Value} {l : List Tk} {g : Nat} {o : Obj} {a b : Nat} {w wk w' : World} (h : PS q lv l g o a w wk) (hp : ParTo q lv b wk w') (hg : g ≠ q) (hne : Apart q lv) : PS q lv l g o b w w' :=
  ⟨h.1.trans hp, (hp.2.block g (block_lt h.2.1) hg).trans h.2.1, h.2.2.qm hp.2 hne⟩
theorem PS.start {q : Nat} {lv : Value} {l : List Tk} {a : Nat} {w : World} (t : TypeId) (cs : Array Value) (hq : w.heap[q]? = some (PaO lv a)) (hl : Rz 4 tkE lv l w) : PS q lv l w.heap.size (.cells cs t (0, 0)) a w (w.alloc (.cells cs t (0, 0))) :=
  ⟨⟨((grow1 w _).block q (block_lt hq)).trans hq, Qm.of_below (grow1 w _)⟩, heap_alloc_new w _, hl.kept (grow1 w _)⟩
theorem ParTo.set {q : Nat} {lv : Value} {a : Nat} {w w' : World} (h : ParTo q lv a w w') (g i : Nat) (u : Value) (hg : w.heap.size ≤ g) (hne : q ≠ g) : ParTo q lv a w (w'.setCell ⟨g, i, none⟩ u) :=
  ⟨(Below.heap_setCell w' ⟨g, i, none⟩ u q hne).trans h.1, h.2.fresh g i u hg⟩
theorem fields_no : ∀ t ∈ fieldsL, (t == [116, 114, 117, 101]) = false ∧ (t == [102, 97, 108, 115, 101]) = false ∧ (t == [110, 111, 116]) = false ∧ (t == [40]) = false ∧ (t == [100, 114, 111, 112]) = false ∧ (t == [105, 100]) = false ∧ (t == [119, 104, 101, 110]) = false ∧ (t == [105, 102]) = false := by decide
theorem no_of (k : Int) (t s : List UInt8) (h : (t == s) = false) : ((k == 1 || k == 3) && (t == s)) = false := by rw [h, Bool.and_false]
set_option maxRecDepth 100000 in
set_option maxHeartbeats 8000000 in
theorem part_c (q : Nat) (lv : Value) (l : List Tk) (at_ : Nat) (w : World) (hq : w.heap[q]? = some (PaO lv at_)) (hl : Rz 4 tkE lv l w) (hne : Apart q lv) (h : at_ + 3 ≤ l.length) (hln : l.length ≤ 1000) (x y z : Tk) (hx : l[at_]? = some x) (hy : l[at_ + 1]? = some y) (hz : l[at_ + 2]? = some z)
    (f : Nat) (hf6 : f < 6) (hk : x.k = 1) (hf : fieldsL[f]? = some x.t) (hyk : y.k = 3) (hyt : y.t = [61]) (hzk : z.k = 2) :
    Calls Tryz.prog 156 #[.pointer (some ⟨q, 0, none⟩)] w fun e w' => e = .returned (.agg #[.int .i64 3, .int .i64 f, .int .i64 z.n, .slice none 0 0]) ∧ ParTo q lv (at_ + 3) w w' := by
  have hx := (List.getElem?_eq_some_iff.1 hx).2
  have hy := (List.getElem?_eq_some_iff.1 hy).2
  have hz := (List.getElem?_eq_some_iff.1 hz).2
  obtain ⟨b1, b2, b3, b4, _⟩ := fields_no x.t (List.mem_of_getElem? hf)
  have B1 := Lib.hid (no_of x.k x.t _ b1)
  have B2 := Lib.hid (no_of x.k x.t _ b2)
  have B3 := Lib.hid (no_of x.k x.t _ b3)
  have B4 := Lib.hid (no_of x.k x.t _ b4)
  have BY : Hid (((y.k == 1 || y.k == 3) && (y.t == [61])) = true) := Lib.hid (by rw [hyk, hyt]; rfl)
  have hgq : w.heap.size ≠ q := by have := block_lt hq; omega
  have hqg : q ≠ w.heap.size := by omega
  have HN := Lib.hid hne
  have S0 := Lib.hid (PS.start (l := l) 52 #[.int .i64 0, .int .i64 0, .int .i64 0, .slice none 0 0] hq hl)
  have hd0 : decide ((f : Int) < 0) = false := by simp
  have hd1 : ¬ (f : Int) < 0 := by omega
  have HX := Lib.hid hx
  have HY := Lib.hid hy
  have HZ := Lib.hid hz
  have HF := Lib.hid hf
  have HK := Lib.hid hk
  have HZK := Lib.hid hzk
  clear hx hy hz hf hk hyk hyt hzk hne hq hl b1 b2 b3 b4
  go_enter Tryz.func156, Tryz.ntmps156
  go_wp2_with fail
  refine (is_no _ S0.out.1.1 S0.out.2.2 (by omega) hln x HX.out B1.out).mono ?_
  rintro e w1 ⟨rfl, hp⟩
  have S1 := Lib.hid (S0.out.step hp hgq HN.out)
  clear hp S0
  go_wp2_with fail
  refine (is_no _ S1.out.1.1 S1.out.2.2 (by omega) hln x HX.out B2.out).mono ?_
  rintro e w2 ⟨rfl, hp⟩
  have S2 := Lib.hid (S1.out.step hp hgq HN.out)
  clear hp S1
  go_wp2_with fail
  refine (is_no _ S2.out.1.1 S2.out.2.2 (by omega) hln x HX.out B3.out).mono ?_
  rintro e w3 ⟨rfl, hp⟩
  have S3 := Lib.hid (S2.out.step hp hgq HN.out)
  clear hp S2
  go_wp2_with fail
  refine (is_no _ S3.out.1.1 S3.out.2.2 (by omega) hln x HX.out B4.out).mono ?_
  rintro e w4 ⟨rfl, hp⟩
  have S4 := Lib.hid (S3.out.step hp hgq HN.out)
  clear hp S3
  go_wp2_with fail
  refine (field_c q lv l at_ w4 S4.out.1.1 S4.out.2.2 (by omega) hln x HX.out HK.out 6 f (.inr ⟨rfl, hf6⟩) HF.out).mono ?_
  rintro e w5 ⟨rfl, hp⟩
  have S5 := Lib.hid (S4.out.step hp hgq HN.out)
  clear hp S4
  go_wp2_with fail
  refine (must_c q lv l (at_ + 1) _ w5 S5.out.1.1 S5.out.2.2 (by omega) hln y HY.out BY.out).mono ?_
  rintro e w6 ⟨rfl, hp⟩
  have S6 := Lib.hid (S5.out.step hp hgq HN.out)
  clear hp S5
  go_wp2_with fail
  refine (pnum_c q lv l (at_ + 2) w6 S6.out.1.1 S6.out.2.2 (by omega) hln z HZ.out HZK.out).mono ?_
  rintro e w7 ⟨rfl, hp⟩
  have hs := S6.out.step hp hgq HN.out
  have S7 := Lib.hid hs
  have hzb := hs.2.1
  have z0 := block_cell hzb 0
  have z1 := block_cell hzb 1
  have z2 := block_cell hzb 2
  have z3 := block_cell hzb 3
  have y0 := block_free hzb 0
  have y1 := block_free hzb 1
  have y2 := block_free hzb 2
  have y3 := block_free hzb 3
  simp only [List.getElem?_toArray, List.getElem?_cons_zero, List.getElem?_cons_succ] at z0 z1 z2 z3
  clear hp S6 hs hzb
  go_wp2_with fail
  refine bodyPost_ret (v := .agg #[.int .i64 3, .int .i64 f, .int .i64 z.n, .slice none 0 0]) (by simp [results, Tryz.results156, go_sem, z0, z1, z2, z3]) rfl ⟨rfl, ?_⟩
  repeat (first | exact S7.out.1 | refine ParTo.set ?_ _ _ _ (Nat.le_refl _) hqg)
end Go.Proofs.YtekfkieimdgfkaaGreat
