/- What is proved here: the parser reads a condition that is one part. Condition: neither word that joins stands behind it. -/
import Derived.Test.YtekfkieimdgfkaaGreatT39
namespace Go.Proofs.YtekfkieimdgfkaaGreat
open Go Go.RowKit
attribute [local go_sem] KW.cell KW.frozen
/-- The parser's function fn, at place a, goes to place b and tells V. -/
def OneC (fn : FuncId) (q : Nat) (lv : Value) (l : List Tk) (a b : Nat) (V : Value) : Prop :=
  ∀ wk : World, wk.heap[q]? = some (PaO lv a) → Rz 4 tkE lv l wk → Calls Tryz.prog fn #[.pointer (some ⟨q, 0, none⟩)] wk fun e w' => e = .returned V ∧ ParTo q lv b wk w'

set_option maxRecDepth 100000 in
set_option maxHeartbeats 8000000 in
theorem chain156 (q : Nat) (lv : Value) (l : List Tk) (a b : Nat) (k f n : Int) (s : ByteArray) (y : Tk) (w : World) (hq : w.heap[q]? = some (PaO lv a)) (hl : Rz 4 tkE lv l w) (hne : Apart q lv) (hln : l.length ≤ 1000)
    (ho : OneC 156 q lv l a b (.agg #[.int .i64 k, .int .i64 f, .int .i64 n, .slice none 0 0])) (hy : l[b]? = some y) (hb : ((y.k == 1 || y.k == 3) && (y.t == s.data.toList)) = false) :
    Calls Tryz.prog 131 #[.pointer (some ⟨q, 0, none⟩), .string s, .func (.func 156) #[.pointer (some ⟨q, 0, none⟩)] #[]] w fun e w' => ∃ g, e = .returned (.slice (some ⟨g, 0, none⟩) 1 1) ∧ w.heap.size ≤ g ∧
      w'.heap[g]? = some (.cells #[.int .i64 k, .int .i64 f, .int .i64 n, .slice none 0 0] 52 (0, 0)) ∧ ParTo q lv b w w' := by
  obtain ⟨hbl, hyb⟩ := List.getElem?_eq_some_iff.1 hy
  have X := Lib.hid (ho w hq hl)
  have HQ := Lib.hid hq
  have HL := Lib.hid hl
  have HN := Lib.hid hne
  have HB := Lib.hid hb
  have HY := Lib.hid hyb
  clear hq hl hne hb hy hyb ho
  go_enter Tryz.func131, Tryz.ntmps131
  go_wp2_with fail
  refine X.out.mono ?_
  rintro e w1 ⟨rfl, hp⟩
  have hql := block_lt hp.1
  have hs1 : w.heap.size ≤ w1.heap.size := hp.2.size
  have hgq : w1.heap.size ≠ q := by omega
  have hl1 := HL.out.qm hp.2 HN.out
  have S1 : Hid (PS q lv l w1.heap.size (.cells #[.int .i64 k, .int .i64 f, .int .i64 n, .slice none 0 0] 52 (0, 0)) b w (w1.alloc (.cells #[.int .i64 k, .int .i64 f, .int .i64 n, .slice none 0 0] 52))) := Lib.hid ⟨hp.kept (grow1 w1 _), heap_alloc_new w1 _, hl1.kept (grow1 w1 _)⟩
  obtain ⟨g, hg⟩ : ∃ g, g = w1.heap.size := ⟨_, rfl⟩
  clear hp hl1 X HQ HL hql
  go_wp2_with fail
  rw [← hg] at S1 hgq hs1
  go_loopw [7] (fun v' wr => v' = .slice (some ⟨g, 0, none⟩) 1 1 ∧ Hid (PS q lv l g (.cells #[.int .i64 k, .int .i64 f, .int .i64 n, .slice none 0 0] 52 (0, 0)) b w wr)) (fun _ _ => 0)
  case atStart => exact ⟨by rw [hg], S1⟩
  case round =>
    clear S1 hg
    obtain ⟨rfl, S1⟩ := hrel
    go_wp2_with fail
    refine (is_no s S1.out.1.1 S1.out.2.2 hbl hln y HY.out HB.out).mono ?_
    rintro e w2 ⟨rfl, hp⟩
    have S2 := Lib.hid (S1.out.step hp hgq HN.out)
    clear hp S1
    go_wp2_with fail
    go_ret
    exact ⟨g, rfl, hs1, S2.out.2.1, S2.out.1⟩

set_option maxRecDepth 100000 in
set_option maxHeartbeats 8000000 in
theorem one132 (q : Nat) (lv : Value) (l : List Tk) (a b : Nat) (k f n : Int) (y : Tk) (hne : Apart q lv) (hln : l.length ≤ 1000)
    (ho : OneC 156 q lv l a b (.agg #[.int .i64 k, .int .i64 f, .int .i64 n, .slice none 0 0])) (hy : l[b]? = some y) (hb : (y.t == [97, 110, 100]) = false) : OneC 132 q lv l a b (.agg #[.int .i64 k, .int .i64 f, .int .i64 n, .slice none 0 0]) := by
  intro w hq hl
  have hgq : w.heap.size ≠ q := by have := block_lt hq; omega
  have hqg : q ≠ w.heap.size := by omega
  have S0 := Lib.hid (PS.start (l := l) 52 #[.int .i64 0, .int .i64 0, .int .i64 0, .slice none 0 0] hq hl)
  have HN := Lib.hid hne
  have HB := Lib.hid (no_of y.k y.t _ hb)
  have HO := Lib.hid ho
  have HY := Lib.hid hy
  clear hq hl hne hb ho hy
  go_enter Tryz.func132, Tryz.ntmps132
  go_wp2_with fail
  refine (chain156 q lv l a b k f n _ y _ S0.out.1.1 S0.out.2.2 HN.out hln HO.out HY.out HB.out).mono ?_
  rintro e w1 ⟨g, rfl, hg, hc, hp⟩
  have hs := S0.out.step hp hgq HN.out
  have S1 := Lib.hid hs
  have hzb := hs.2.1
  have hgl := block_lt hc
  simp only [World.size_alloc] at hg
  have hgw : g ≠ w.heap.size := by omega
  have k0 := block_cell hc 0
  have k1 := block_cell hc 1
  have k2 := block_cell hc 2
  have k3 := block_cell hc 3
  have z0 := block_cell hzb 0
  have z1 := block_cell hzb 1
  have z2 := block_cell hzb 2
  have z3 := block_cell hzb 3
  have y0 := block_free hzb 0
  have y1 := block_free hzb 1
  have y2 := block_free hzb 2
  have y3 := block_free hzb 3
  simp only [List.getElem?_toArray, List.getElem?_cons_zero, List.getElem?_cons_succ] at z0 z1 z2 z3 k0 k1 k2 k3
  clear hp S0 hs hzb hc
  go_wp2_with fail
  refine bodyPost_ret (v := .agg #[.int .i64 k, .int .i64 f, .int .i64 n, .slice none 0 0]) (by simp [results, Tryz.results132, go_sem, z0, z1, z2, z3]) rfl ⟨rfl, ?_⟩
  repeat (first | exact S1.out.1 | refine ParTo.set ?_ _ _ _ (Nat.le_refl _) hqg)

set_option maxRecDepth 100000 in
set_option maxHeartbeats 8000000 in
theorem chain132 (q : Nat) (lv : Value) (l : List Tk) (a b : Nat) (k f n : Int) (s : ByteArray) (y : Tk) (w : World) (hq : w.heap[q]? = some (PaO lv a)) (hl : Rz 4 tkE lv l w) (hne : Apart q lv) (hln : l.length ≤ 1000)
    (ho : OneC 132 q lv l a b (.agg #[.int .i64 k, .int .i64 f, .int .i64 n, .slice none 0 0])) (hy : l[b]? = some y) (hb : ((y.k == 1 || y.k == 3) && (y.t == s.data.toList)) = false) :
    Calls Tryz.prog 131 #[.pointer (some ⟨q, 0, none⟩), .string s, .func (.func 132) #[.pointer (some ⟨q, 0, none⟩)] #[]] w fun e w' => ∃ g, e = .returned (.slice (some ⟨g, 0, none⟩) 1 1) ∧ w.heap.size ≤ g ∧
      w'.heap[g]? = some (.cells #[.int .i64 k, .int .i64 f, .int .i64 n, .slice none 0 0] 52 (0, 0)) ∧ ParTo q lv b w w' := by
  obtain ⟨hbl, hyb⟩ := List.getElem?_eq_some_iff.1 hy
  have X := Lib.hid (ho w hq hl)
  have HQ := Lib.hid hq
  have HL := Lib.hid hl
  have HN := Lib.hid hne
  have HB := Lib.hid hb
  have HY := Lib.hid hyb
  clear hq hl hne hb hy hyb ho
  go_enter Tryz.func131, Tryz.ntmps131
  go_wp2_with fail
  refine X.out.mono ?_
  rintro e w1 ⟨rfl, hp⟩
  have hql := block_lt hp.1
  have hs1 : w.heap.size ≤ w1.heap.size := hp.2.size
  have hgq : w1.heap.size ≠ q := by omega
  have hl1 := HL.out.qm hp.2 HN.out
  have S1 : Hid (PS q lv l w1.heap.size (.cells #[.int .i64 k, .int .i64 f, .int .i64 n, .slice none 0 0] 52 (0, 0)) b w (w1.alloc (.cells #[.int .i64 k, .int .i64 f, .int .i64 n, .slice none 0 0] 52))) := Lib.hid ⟨hp.kept (grow1 w1 _), heap_alloc_new w1 _, hl1.kept (grow1 w1 _)⟩
  obtain ⟨g, hg⟩ : ∃ g, g = w1.heap.size := ⟨_, rfl⟩
  clear hp hl1 X HQ HL hql
  go_wp2_with fail
  rw [← hg] at S1 hgq hs1
  go_loopw [7] (fun v' wr => v' = .slice (some ⟨g, 0, none⟩) 1 1 ∧ Hid (PS q lv l g (.cells #[.int .i64 k, .int .i64 f, .int .i64 n, .slice none 0 0] 52 (0, 0)) b w wr)) (fun _ _ => 0)
  case atStart => exact ⟨by rw [hg], S1⟩
  case round =>
    clear S1 hg
    obtain ⟨rfl, S1⟩ := hrel
    go_wp2_with fail
    refine (is_no s S1.out.1.1 S1.out.2.2 hbl hln y HY.out HB.out).mono ?_
    rintro e w2 ⟨rfl, hp⟩
    have S2 := Lib.hid (S1.out.step hp hgq HN.out)
    clear hp S1
    go_wp2_with fail
    go_ret
    exact ⟨g, rfl, hs1, S2.out.2.1, S2.out.1⟩

set_option maxRecDepth 100000 in
set_option maxHeartbeats 8000000 in
theorem one99 (q : Nat) (lv : Value) (l : List Tk) (a b : Nat) (k f n : Int) (y : Tk) (hne : Apart q lv) (hln : l.length ≤ 1000)
    (ho : OneC 132 q lv l a b (.agg #[.int .i64 k, .int .i64 f, .int .i64 n, .slice none 0 0])) (hy : l[b]? = some y) (hb : (y.t == [111, 114]) = false) : OneC 99 q lv l a b (.agg #[.int .i64 k, .int .i64 f, .int .i64 n, .slice none 0 0]) := by
  intro w hq hl
  have hgq : w.heap.size ≠ q := by have := block_lt hq; omega
  have hqg : q ≠ w.heap.size := by omega
  have S0 := Lib.hid (PS.start (l := l) 52 #[.int .i64 0, .int .i64 0, .int .i64 0, .slice none 0 0] hq hl)
  have HN := Lib.hid hne
  have HB := Lib.hid (no_of y.k y.t _ hb)
  have HO := Lib.hid ho
  have HY := Lib.hid hy
  clear hq hl hne hb ho hy
  go_enter Tryz.func99, Tryz.ntmps99
  go_wp2_with fail
  refine (chain132 q lv l a b k f n _ y _ S0.out.1.1 S0.out.2.2 HN.out hln HO.out HY.out HB.out).mono ?_
  rintro e w1 ⟨g, rfl, hg, hc, hp⟩
  have hs := S0.out.step hp hgq HN.out
  have S1 := Lib.hid hs
  have hzb := hs.2.1
  have hgl := block_lt hc
  simp only [World.size_alloc] at hg
  have hgw : g ≠ w.heap.size := by omega
  have k0 := block_cell hc 0
  have k1 := block_cell hc 1
  have k2 := block_cell hc 2
  have k3 := block_cell hc 3
  have z0 := block_cell hzb 0
  have z1 := block_cell hzb 1
  have z2 := block_cell hzb 2
  have z3 := block_cell hzb 3
  have y0 := block_free hzb 0
  have y1 := block_free hzb 1
  have y2 := block_free hzb 2
  have y3 := block_free hzb 3
  simp only [List.getElem?_toArray, List.getElem?_cons_zero, List.getElem?_cons_succ] at z0 z1 z2 z3 k0 k1 k2 k3
  clear hp S0 hs hzb hc
  go_wp2_with fail
  refine bodyPost_ret (v := .agg #[.int .i64 k, .int .i64 f, .int .i64 n, .slice none 0 0]) (by simp [results, Tryz.results99, go_sem, z0, z1, z2, z3]) rfl ⟨rfl, ?_⟩
  repeat (first | exact S1.out.1 | refine ParTo.set ?_ _ _ _ (Nat.le_refl _) hqg)
end Go.Proofs.YtekfkieimdgfkaaGreat
