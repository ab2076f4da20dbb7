/- What is proved here: the parser gives up where a sign lacks. Condition: the text is 'when', a field's word, and no '='. -/
import Derived.Test.YtekfkieimdgfkaaGreatT41
import Derived.Defers
import Derived.Recover
namespace Go.Proofs.YtekfkieimdgfkaaGreat
open Go Go.RowKit
attribute [local go_sem] KW.cell KW.frozen
theorem field112_3 (k n t a : Value) (w : World) : (Instr.field 112 (.agg #[k, n, t, a]) 3).run Tryz.prog w = .ok a w := by kernel_rfl
attribute [local go_sem] field112_3
abbrev wrongE (v : Int) : Ending := .panicked [{ v := .iface 107 (.int .i64 v), recovered := false }]
/-- The parser's function fn, at place a, gives up at v. -/
def PanC (fn q : Nat) (lv : Value) (l : List Tk) (a : Nat) (v : Int) : Prop :=
  ∀ wk : World, wk.heap[q]? = some (PaO lv a) → Rz 4 tkE lv l wk → Calls Tryz.prog fn #[.pointer (some ⟨q, 0, none⟩)] wk fun e w' => e = wrongE v ∧ Qm q wk w'
set_option maxRecDepth 100000 in
set_option maxHeartbeats 8000000 in
theorem fail_c (q : Nat) (lv : Value) (l : List Tk) (a : Nat) (x : Tk) (hx : l[a]? = some x) : PanC 49 q lv l a x.at_ := by
  intro w hq hl
  obtain ⟨hal, hxa⟩ := List.getElem?_eq_some_iff.1 hx
  have X := Lib.hid (now_c q lv l a w hq hl hal x hxa)
  clear hq hl hx hxa
  go_enter Tryz.func49, Tryz.ntmps49
  go_wp2_with fail
  refine X.out.mono ?_
  rintro e w1 ⟨rfl, hb⟩
  have HB := Lib.hid hb
  clear hb X
  go_wp2_with fail
  exact ⟨rfl, rfl, Qm.of_below HB.out⟩
set_option maxRecDepth 100000 in
set_option maxHeartbeats 8000000 in
theorem must_no (q : Nat) (lv : Value) (l : List Tk) (a : Nat) (s : ByteArray) (w : World) (hq : w.heap[q]? = some (PaO lv a)) (hl : Rz 4 tkE lv l w) (hne : Apart q lv) (hln : l.length ≤ 1000) (x : Tk) (hx : l[a]? = some x) (hb : ((x.k == 1 || x.k == 3) && (x.t == s.data.toList)) = false) :
    Calls Tryz.prog 100 #[.pointer (some ⟨q, 0, none⟩), .string s] w fun e w' => e = wrongE x.at_ ∧ Qm q w w' := by
  obtain ⟨hal, hxa⟩ := List.getElem?_eq_some_iff.1 hx
  have X := Lib.hid (is_no s hq hl hal hln x hxa hb)
  have F := Lib.hid (fail_c q lv l a x hx)
  have HL := Lib.hid hl
  have HN := Lib.hid hne
  clear hq hl hne hx hxa hb
  go_enter Tryz.func100, Tryz.ntmps100
  go_wp2_with fail
  refine X.out.mono ?_
  rintro e w1 ⟨rfl, hp⟩
  have HP := Lib.hid hp
  clear hp X
  go_wp2_with fail
  refine (F.out _ HP.out.1 (HL.out.qm HP.out.2 HN.out)).mono ?_
  rintro e w2 ⟨rfl, hm⟩
  have HM := Lib.hid (HP.out.2.trans hm)
  clear hm HP
  go_wp2_with fail
  exact ⟨rfl, rfl, HM.out⟩
set_option maxRecDepth 100000 in
set_option maxHeartbeats 8000000 in
theorem part_no (q : Nat) (lv : Value) (l : List Tk) (a : Nat) (x y : Tk) (hne : Apart q lv) (hln : l.length ≤ 1000) (hx : l[a]? = some x) (hy : l[a + 1]? = some y)
    (f : Nat) (hf6 : f < 6) (hk : x.k = 1) (hf : fieldsL[f]? = some x.t) (hyt : (y.t == [61]) = false) : PanC 156 q lv l a y.at_ := by
  intro w hq hl
  obtain ⟨hal, hxa⟩ := List.getElem?_eq_some_iff.1 hx
  obtain ⟨b1, b2, b3, b4, _⟩ := fields_no x.t (List.mem_of_getElem? hf)
  have B1 := Lib.hid (no_of x.k x.t _ b1)
  have B2 := Lib.hid (no_of x.k x.t _ b2)
  have B3 := Lib.hid (no_of x.k x.t _ b3)
  have B4 := Lib.hid (no_of x.k x.t _ b4)
  have BY := Lib.hid (no_of y.k y.t _ hyt)
  have hgq : w.heap.size ≠ q := Nat.ne_of_gt (block_lt hq)
  have hqg : q ≠ w.heap.size := Ne.symm hgq
  have HN := Lib.hid hne
  have S0 := Lib.hid (PS.start (l := l) 52 #[.int .i64 0, .int .i64 0, .int .i64 0, .slice none 0 0] hq hl)
  have hd0 : decide ((f : Int) < 0) = false := by simp
  have hd1 : ¬ (f : Int) < 0 := by omega
  have HX := Lib.hid hxa
  have HY := Lib.hid hy
  have HF := Lib.hid hf
  have HK := Lib.hid hk
  clear hx hxa hy hf hk hyt hne hq hl b1 b2 b3 b4
  go_enter Tryz.func156, Tryz.ntmps156
  go_wp2_with fail
  refine (is_no _ S0.out.1.1 S0.out.2.2 hal hln x HX.out B1.out).mono ?_
  rintro e w1 ⟨rfl, hp⟩
  have S1 := Lib.hid (S0.out.step hp hgq HN.out)
  clear hp S0
  go_wp2_with fail
  refine (is_no _ S1.out.1.1 S1.out.2.2 hal hln x HX.out B2.out).mono ?_
  rintro e w2 ⟨rfl, hp⟩
  have S2 := Lib.hid (S1.out.step hp hgq HN.out)
  clear hp S1
  go_wp2_with fail
  refine (is_no _ S2.out.1.1 S2.out.2.2 hal hln x HX.out B3.out).mono ?_
  rintro e w3 ⟨rfl, hp⟩
  have S3 := Lib.hid (S2.out.step hp hgq HN.out)
  clear hp S2
  go_wp2_with fail
  refine (is_no _ S3.out.1.1 S3.out.2.2 hal hln x HX.out B4.out).mono ?_
  rintro e w4 ⟨rfl, hp⟩
  have S4 := Lib.hid (S3.out.step hp hgq HN.out)
  clear hp S3
  go_wp2_with fail
  refine (field_c q lv l a w4 S4.out.1.1 S4.out.2.2 hal hln x HX.out HK.out 6 f (.inr ⟨rfl, hf6⟩) HF.out).mono ?_
  rintro e w5 ⟨rfl, hp⟩
  have S5 := Lib.hid (S4.out.step hp hgq HN.out)
  clear hp S4
  go_wp2_with fail
  refine (must_no q lv l (a + 1) _ w5 S5.out.1.1 S5.out.2.2 HN.out hln y HY.out BY.out).mono ?_
  rintro e w6 ⟨rfl, hm⟩
  have HM := Lib.hid (S5.out.1.2.trans hm)
  clear hm S5
  go_wp2_with fail
  exact ⟨rfl, rfl, HM.out⟩
set_option maxRecDepth 100000 in
set_option maxHeartbeats 8000000 in
theorem chain131_156_no (q : Nat) (lv : Value) (l : List Tk) (a : Nat) (v : Int) (s : ByteArray) (w : World) (hq : w.heap[q]? = some (PaO lv a)) (hl : Rz 4 tkE lv l w) (ho : PanC 156 q lv l a v) :
    Calls Tryz.prog 131 #[.pointer (some ⟨q, 0, none⟩), .string s, .func (.func 156) #[.pointer (some ⟨q, 0, none⟩)] #[]] w fun e w' => e = wrongE v ∧ Qm q w w' := by
  have X := Lib.hid (ho w hq hl)
  clear hq hl ho
  go_enter Tryz.func131, Tryz.ntmps131
  go_wp2_with fail
  refine X.out.mono ?_
  rintro e w1 ⟨rfl, hm⟩
  have HM := Lib.hid hm
  clear hm X
  go_wp2_with fail
  exact ⟨rfl, rfl, HM.out⟩
theorem group_no (q : Nat) (lv : Value) (l : List Tk) (a : Nat) (v : Int) (ho : PanC 156 q lv l a v) : PanC 132 q lv l a v := by
  intro w hq hl
  have S0 := Lib.hid (PS.start (l := l) 52 #[.int .i64 0, .int .i64 0, .int .i64 0, .slice none 0 0] hq hl)
  have HO := Lib.hid ho
  clear hq hl ho
  go_enter Tryz.func132, Tryz.ntmps132
  go_wp2_with fail
  refine (chain131_156_no q lv l a v _ _ S0.out.1.1 S0.out.2.2 HO.out).mono ?_
  rintro e w1 ⟨rfl, hm⟩
  have HM := Lib.hid (S0.out.1.2.trans hm)
  clear hm S0
  go_wp2_with fail
  exact ⟨rfl, rfl, HM.out⟩
set_option maxRecDepth 100000 in
set_option maxHeartbeats 8000000 in
theorem chain131_132_no (q : Nat) (lv : Value) (l : List Tk) (a : Nat) (v : Int) (s : ByteArray) (w : World) (hq : w.heap[q]? = some (PaO lv a)) (hl : Rz 4 tkE lv l w) (ho : PanC 132 q lv l a v) :
    Calls Tryz.prog 131 #[.pointer (some ⟨q, 0, none⟩), .string s, .func (.func 132) #[.pointer (some ⟨q, 0, none⟩)] #[]] w fun e w' => e = wrongE v ∧ Qm q w w' := by
  have X := Lib.hid (ho w hq hl)
  clear hq hl ho
  go_enter Tryz.func131, Tryz.ntmps131
  go_wp2_with fail
  refine X.out.mono ?_
  rintro e w1 ⟨rfl, hm⟩
  have HM := Lib.hid hm
  clear hm X
  go_wp2_with fail
  exact ⟨rfl, rfl, HM.out⟩
theorem cond_no (q : Nat) (lv : Value) (l : List Tk) (a : Nat) (v : Int) (ho : PanC 132 q lv l a v) : PanC 99 q lv l a v := by
  intro w hq hl
  have S0 := Lib.hid (PS.start (l := l) 52 #[.int .i64 0, .int .i64 0, .int .i64 0, .slice none 0 0] hq hl)
  have HO := Lib.hid ho
  clear hq hl ho
  go_enter Tryz.func99, Tryz.ntmps99
  go_wp2_with fail
  refine (chain131_132_no q lv l a v _ _ S0.out.1.1 S0.out.2.2 HO.out).mono ?_
  rintro e w1 ⟨rfl, hm⟩
  have HM := Lib.hid (S0.out.1.2.trans hm)
  clear hm S0
  go_wp2_with fail
  exact ⟨rfl, rfl, HM.out⟩
set_option maxRecDepth 100000 in
set_option maxHeartbeats 8000000 in
theorem step_no (q : Nat) (lv : Value) (l : List Tk) (a : Nat) (v : Int) (x : Tk) (hne : Apart q lv) (hln : l.length ≤ 1000) (hx : l[a]? = some x) (hk : x.k = 1) (ht : x.t = [119, 104, 101, 110])
    (ho : PanC 99 q lv l (a + 1) v) : PanC 76 q lv l a v := by
  intro w hq hl
  obtain ⟨hal, hxa⟩ := List.getElem?_eq_some_iff.1 hx
  have hgq : w.heap.size ≠ q := Nat.ne_of_gt (block_lt hq)
  have hqg : q ≠ w.heap.size := Ne.symm hgq
  have S0 := Lib.hid (PS.start (l := l) 55 #[.int .i64 0, .int .i64 0, .int .i64 0, .int .i64 0, .slice none 0 0, .int .i64 0, .int .i64 0, .slice none 0 0] hq hl)
  have HN := Lib.hid hne
  have B1 : Hid (((x.k == 1 || x.k == 3) && (x.t == [100, 114, 111, 112])) = false) := Lib.hid (no_of _ _ _ (by rw [ht]; rfl))
  have B2 : Hid (((x.k == 1 || x.k == 3) && (x.t == [105, 100])) = false) := Lib.hid (no_of _ _ _ (by rw [ht]; rfl))
  have B3 : Hid (((x.k == 1 || x.k == 3) && (x.t == [119, 104, 101, 110])) = true) := Lib.hid (by rw [hk, ht]; rfl)
  have HX := Lib.hid hxa
  have HO := Lib.hid ho
  clear hq hl hne hx hxa ho hk ht
  go_enter Tryz.func76, Tryz.ntmps76
  go_wp2_with fail
  refine (is_no _ S0.out.1.1 S0.out.2.2 hal hln x HX.out B1.out).mono ?_
  rintro e w1 ⟨rfl, hp⟩
  have S1 := Lib.hid (S0.out.step hp hgq HN.out)
  clear hp S0
  go_wp2_with fail
  refine (is_no _ S1.out.1.1 S1.out.2.2 hal hln x HX.out B2.out).mono ?_
  rintro e w2 ⟨rfl, hp⟩
  have S2 := Lib.hid (S1.out.step hp hgq HN.out)
  clear hp S1
  go_wp2_with fail
  refine (is_yes _ S2.out.1.1 S2.out.2.2 hal hln x HX.out B3.out).mono ?_
  rintro e w3 ⟨rfl, hp⟩
  have S3 := Lib.hid (S2.out.step hp hgq HN.out)
  clear hp S2
  go_wp2_with fail
  refine (HO.out _ S3.out.1.1 S3.out.2.2).mono ?_
  rintro e w4 ⟨rfl, hm⟩
  have HM := Lib.hid (S3.out.1.2.trans hm)
  clear hm S3
  go_wp2_with fail
  exact ⟨rfl, rfl, HM.out⟩
set_option maxRecDepth 100000 in
set_option maxHeartbeats 8000000 in
theorem chain50_76_no (q : Nat) (lv : Value) (l : List Tk) (a : Nat) (v : Int) (s : ByteArray) (w : World) (hq : w.heap[q]? = some (PaO lv a)) (hl : Rz 4 tkE lv l w) (ho : PanC 76 q lv l a v) :
    Calls Tryz.prog 50 #[.pointer (some ⟨q, 0, none⟩), .string s, .func (.func 76) #[.pointer (some ⟨q, 0, none⟩)] #[]] w fun e w' => e = wrongE v ∧ Qm q w w' := by
  have X := Lib.hid (ho w hq hl)
  clear hq hl ho
  go_enter Tryz.func50, Tryz.ntmps50
  go_wp2_with fail
  refine X.out.mono ?_
  rintro e w1 ⟨rfl, hm⟩
  have HM := Lib.hid hm
  clear hm X
  go_wp2_with fail
  exact ⟨rfl, rfl, HM.out⟩
theorem row_no (q : Nat) (lv : Value) (l : List Tk) (a : Nat) (v : Int) (ho : PanC 76 q lv l a v) : PanC 51 q lv l a v := by
  intro w hq hl
  have S0 := Lib.hid (PS.start (l := l) 55 #[.int .i64 0, .int .i64 0, .int .i64 0, .int .i64 0, .slice none 0 0, .int .i64 0, .int .i64 0, .slice none 0 0] hq hl)
  have HO := Lib.hid ho
  clear hq hl ho
  go_enter Tryz.func51, Tryz.ntmps51
  go_wp2_with fail
  refine (chain50_76_no q lv l a v _ _ S0.out.1.1 S0.out.2.2 HO.out).mono ?_
  rintro e w1 ⟨rfl, hm⟩
  have HM := Lib.hid (S0.out.1.2.trans hm)
  clear hm S0
  go_wp2_with fail
  exact ⟨rfl, rfl, HM.out⟩
set_option maxRecDepth 100000 in
set_option maxHeartbeats 8000000 in
theorem chain50_51_no (q : Nat) (lv : Value) (l : List Tk) (a : Nat) (v : Int) (s : ByteArray) (w : World) (hq : w.heap[q]? = some (PaO lv a)) (hl : Rz 4 tkE lv l w) (ho : PanC 51 q lv l a v) :
    Calls Tryz.prog 50 #[.pointer (some ⟨q, 0, none⟩), .string s, .func (.func 51) #[.pointer (some ⟨q, 0, none⟩)] #[]] w fun e w' => e = wrongE v ∧ Qm q w w' := by
  have X := Lib.hid (ho w hq hl)
  clear hq hl ho
  go_enter Tryz.func50, Tryz.ntmps50
  go_wp2_with fail
  refine X.out.mono ?_
  rintro e w1 ⟨rfl, hm⟩
  have HM := Lib.hid hm
  clear hm X
  go_wp2_with fail
  exact ⟨rfl, rfl, HM.out⟩
theorem policy_no (q : Nat) (lv : Value) (l : List Tk) (a : Nat) (v : Int) (ho : PanC 51 q lv l a v) : PanC 27 q lv l a v := by
  intro w hq hl
  have S0 := Lib.hid (PS.start (l := l) 55 #[.int .i64 0, .int .i64 0, .int .i64 0, .int .i64 0, .slice none 0 0, .int .i64 0, .int .i64 0, .slice none 0 0] hq hl)
  have HO := Lib.hid ho
  clear hq hl ho
  go_enter Tryz.func27, Tryz.ntmps27
  go_wp2_with fail
  refine (chain50_51_no q lv l a v _ _ S0.out.1.1 S0.out.2.2 HO.out).mono ?_
  rintro e w1 ⟨rfl, hm⟩
  have HM := Lib.hid (S0.out.1.2.trans hm)
  clear hm S0
  go_wp2_with fail
  exact ⟨rfl, rfl, HM.out⟩
set_option maxRecDepth 100000 in
set_option maxHeartbeats 8000000 in
theorem parse26_no (q : Nat) (lv : Value) (l : List Tk) (a : Nat) (v : Int) (ho : PanC 27 q lv l a v) : PanC 26 q lv l a v := by
  intro w hq hl
  have S0 := Lib.hid (PS.start (l := l) 55 #[.int .i64 0, .int .i64 0, .int .i64 0, .int .i64 0, .slice none 0 0, .int .i64 0, .int .i64 0, .slice none 0 0] hq hl)
  have HO := Lib.hid ho
  clear hq hl ho
  go_enter Tryz.func26, Tryz.ntmps26
  go_wp2_with fail
  refine (HO.out _ S0.out.1.1 S0.out.2.2).mono ?_
  rintro e w1 ⟨rfl, hm⟩
  have HM := Lib.hid (S0.out.1.2.trans hm)
  clear hm S0
  go_wp2_with fail
  exact ⟨rfl, rfl, HM.out⟩
end Go.Proofs.YtekfkieimdgfkaaGreat
/- What is proved here: what Parse tells of a text. Condition: the parser's way through it is known. -/
namespace Go.Proofs.YtekfkieimdgfkaaGreat
open Go Go.RowKit
attribute [local go_sem] KW.cell KW.frozen field112_3
theorem assert107 (c : Int) (w : World) : (Instr.typeAssert (.iface 107 (.int .i64 c)) 20 107 true).run Tryz.prog w = .ok (.tuple #[.int .i64 c, .bool true]) w := by kernel_rfl
attribute [local go_sem] assert107
set_option maxRecDepth 100000 in
set_option maxHeartbeats 4000000 in
theorem catch_nil47 (p q r : Addr) (w : World) :
    CallsD Tryz.prog 47 #[.pointer (some p), .pointer (some q), .pointer (some r)] .returning w fun e u' w' => e = .returned (.tuple #[]) ∧ u' = .returning ∧ w' = w := by
  refine callsD_of_wpS Tryz.func47 rfl fun c₀ cs hu => ?_
  apply wpS_seq
  apply wpS_region
  simp [wpOpsS, go_sem, recoverD, hu, Tryz.ntmps47, Exit.thenS]
  refine wpS_of_wp ?_
  change Code.wp _ _ _ { tmps := #[.pointer (some p), .pointer (some q), .pointer (some r), .nilIface, undef, undef, undef, .nilIface, undef, undef, undef, undef, undef, undef, undef, undef, undef, undef], defers := [] } w
  generalize hR : (fun e u' w' => e = Ending.returned (Value.tuple #[]) ∧ u' = FrameMode.returning ∧ w' = w) = R
  have HR := Lib.hid hR
  clear hR
  go_wp2_with fail
  rw [← HR.out]
  cases c₀
  simp_all [bodyPostS, results, Tryz.results47]
set_option maxRecDepth 100000 in
set_option maxHeartbeats 4000000 in
theorem catch_err47 (g i j : Nat) (x0 : Array Value) (x1 x2 : Value) (c : Int) (older : List PanicEntry) (w : World) (h0 : w.heap[g]? = some (.cells x0 55 (0, 0))) (hx : x0.size = 8) (h1 : w.heap[i]? = some (.cells #[x1] 3 (0, 0))) (h2 : w.heap[j]? = some (.cells #[x2] 34 (0, 0)))
    (hgi : g ≠ i) (hgj : g ≠ j) (hij : i ≠ j) :
    CallsD Tryz.prog 47 #[.pointer (some ⟨g, 0, none⟩), .pointer (some ⟨i, 0, none⟩), .pointer (some ⟨j, 0, none⟩)] (.panicking ({ v := .iface 107 (.int .i64 c), recovered := false } :: older)) w fun e u' w' => e = .returned (.tuple #[]) ∧ u' = .panicking ({ v := .iface 107 (.int .i64 c), recovered := true } :: older) ∧
      w'.heap[g]? = some (.cells #[.int .i64 0, .int .i64 0, .int .i64 0, .int .i64 0, .slice none 0 0, .int .i64 0, .int .i64 0, .slice none 0 0] 55 (0, 0)) ∧ w'.heap[i]? = some (.cells #[.int .i64 c] 3 (0, 0)) ∧ w'.heap[j]? = some (.cells #[.int .i64 10] 34 (0, 0)) ∧ (∀ B, B ≤ g → B ≤ i → B ≤ j → B ≤ w.heap.size → Below B w w') := by
  refine callsD_of_wpS Tryz.func47 rfl fun c₀ cs hu => ?_
  apply wpS_seq
  apply wpS_region
  simp [wpOpsS, go_sem, recoverD, hu, Tryz.ntmps47, Exit.thenS]
  refine wpS_of_wp ?_
  change Code.wp _ _ _ { tmps := #[.pointer (some ⟨g, 0, none⟩), .pointer (some ⟨i, 0, none⟩), .pointer (some ⟨j, 0, none⟩), .iface 107 (.int .i64 c), undef, undef, undef, .iface 107 (.int .i64 c), undef, undef, undef, undef, undef, undef, undef, undef, undef, undef], defers := [] } w
  obtain ⟨R, hR⟩ : ∃ R : Ending → FrameMode → World → Prop, R = (fun e u' w' => e = .returned (.tuple #[]) ∧ u' = .panicking ({ v := .iface 107 (.int .i64 c), recovered := true } :: older) ∧
      w'.heap[g]? = some (.cells #[.int .i64 0, .int .i64 0, .int .i64 0, .int .i64 0, .slice none 0 0, .int .i64 0, .int .i64 0, .slice none 0 0] 55 (0, 0)) ∧ w'.heap[i]? = some (.cells #[.int .i64 c] 3 (0, 0)) ∧ w'.heap[j]? = some (.cells #[.int .i64 10] 34 (0, 0)) ∧ (∀ B, B ≤ g → B ≤ i → B ≤ j → B ≤ w.heap.size → Below B w w')) := ⟨_, rfl⟩
  rw [← hR]
  have HR := Lib.hid hR
  have H0 := Lib.hid h0
  have H1 := Lib.hid h1
  have H2 := Lib.hid h2
  have hgl := block_lt h0
  have hil := block_lt h1
  have hjl := block_lt h2
  clear hR h0 h1 h2
  have neq : ∀ (X : Value), (BinOp.eql == BinOp.eql) = true := fun _ => rfl
  clear neq
  go_wp2_with (first | (refine stop_load 55 _ rfl ?_) | (refine stop_store 55 _ _ rfl ?_))
  refine Stop.go (abs_list ?_)
  intro w1 e1
  have hb1 : Below w.heap.size w w1 := by rw [e1]; exact grow1 w _
  have hg1 : w1.heap[w.heap.size]? = some (.cells #[.int .i64 0, .int .i64 0, .int .i64 0, .int .i64 0, .slice none 0 0, .int .i64 0, .int .i64 0, .slice none 0 0] 55 (0, 0)) := by rw [e1]; exact heap_alloc_new w _
  have HB1 := Lib.hid hb1
  clear e1 hb1
  obtain ⟨fs, hu55⟩ := und55
  refine wpList_load_row rfl 55 _ rfl w.heap.size rfl 55 _ (0, 0) _ hg1 hu55 rfl inf55 ?_
  refine wpList_store_o rfl 55 _ _ rfl g _ rfl rfl 55 _ ((HB1.out.block g hgl).trans H0.out) inf55 hx rfl ?_
  intro w2 hg2 ho2
  have hi2 : w2.heap[i]? = some (.cells #[x1] 3 (0, 0)) := (ho2.block i (Ne.symm hgi)).trans ((HB1.out.block i hil).trans H1.out)
  have hj2 : w2.heap[j]? = some (.cells #[x2] 34 (0, 0)) := (ho2.block j (Ne.symm hgj)).trans ((HB1.out.block j hjl).trans H2.out)
  have ci := block_cell hi2 0
  have cj := block_cell hj2 0
  have fi := block_free hi2 0
  have fj := block_free hj2 0
  simp only [List.getElem?_toArray, List.getElem?_cons_zero] at ci cj
  have nij : (i = j) = False := eq_false hij
  have nji : (j = i) = False := eq_false (Ne.symm hij)
  have HF : Hid ((((w2.setCell ⟨i, 0, none⟩ (.int .i64 0)).setCell ⟨j, 0, none⟩ (.int .i64 10)).setCell ⟨i, 0, none⟩ (.int .i64 c)).heap[g]? = some (.cells #[.int .i64 0, .int .i64 0, .int .i64 0, .int .i64 0, .slice none 0 0, .int .i64 0, .int .i64 0, .slice none 0 0] 55 (0, 0)) ∧
      (((w2.setCell ⟨i, 0, none⟩ (.int .i64 0)).setCell ⟨j, 0, none⟩ (.int .i64 10)).setCell ⟨i, 0, none⟩ (.int .i64 c)).heap[i]? = some (.cells #[.int .i64 c] 3 (0, 0)) ∧
      (((w2.setCell ⟨i, 0, none⟩ (.int .i64 0)).setCell ⟨j, 0, none⟩ (.int .i64 10)).setCell ⟨i, 0, none⟩ (.int .i64 c)).heap[j]? = some (.cells #[.int .i64 10] 34 (0, 0)) ∧
      (∀ B, B ≤ g → B ≤ i → B ≤ j → B ≤ w.heap.size → Below B w (((w2.setCell ⟨i, 0, none⟩ (.int .i64 0)).setCell ⟨j, 0, none⟩ (.int .i64 10)).setCell ⟨i, 0, none⟩ (.int .i64 c)))) := by
    refine Lib.hid ⟨?_, ?_, ?_, fun B b1 b2 b3 b4 => ?_⟩
    · rw [heap_setCell_other _ _ _ _ hgi, heap_setCell_other _ _ _ _ hgj, heap_setCell_other _ _ _ _ hgi]; exact hg2
    · exact heap_setCell_same _ i 0 #[.int .i64 0] 3 _ (by rw [heap_setCell_other _ _ _ _ hij]; exact heap_setCell_same _ i 0 #[x1] 3 _ hi2)
    · rw [heap_setCell_other _ _ _ _ (Ne.symm hij)]
      exact heap_setCell_same _ j 0 #[x2] 34 _ (by rw [heap_setCell_other _ _ _ _ (Ne.symm hij)]; exact hj2)
    · exact (((((HB1.out.mono b4).trans (ho2.below b1)).setCell b2 _).setCell b3 _).setCell b2 _)
  clear hi2 hj2 hg2 ho2 HB1 H0 H1 H2 hu55 hg1
  go_wp2_with fail
  cases c₀
  simp only [bodyPostS]
  refine ⟨by simp, _, rfl, .tuple #[], by simp [results, Tryz.results47], ?_⟩
  rw [HR.out]
  exact ⟨rfl, rfl, HF.out⟩
end Go.Proofs.YtekfkieimdgfkaaGreat
