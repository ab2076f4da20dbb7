/- What is proved here: a case with one more field known, and whether a number stays as it came. Condition: the field is one of a packet, or the port. -/
import Derived.Test.YtekfkieimdgfkaaGreatT13
import Derived.Test.YtekfkieimdgfkaaGreatT19
namespace Go.Proofs.YtekfkieimdgfkaaGreat
open Go Go.RowKit
attribute [local go_sem] KW.cell KW.frozen
theorem inf89 : (Tryz.prog.info? 89).map (·.size) = some 6 := by kernel_rfl
theorem und89 : ∃ fs, Tryz.prog.underlying 89 = some (.struct fs) := by
  have h : (match Tryz.prog.underlying 89 with | some (.struct _) => true | _ => false) = true := by kernel_rfl
  cases hu : Tryz.prog.underlying 89 with
  | none => rw [hu] at h; cases h
  | some d => cases d <;> (rw [hu] at h; first | exact ⟨_, rfl⟩ | cases h)
theorem ret89 {fn : Func} {p : Tmp} (h : fn.results = #[.cell p 89]) {R : Ending → World → Prop} {a : Act} {w : World} {g : Nat} {cs : Array Value} {t : TypeId} (hd : a.defers = []) (hp : a.tmps.getD p undef = .pointer (some ⟨g, 0, none⟩))
    (hg : w.heap[g]? = some (.cells cs t (0, 0))) (hs : cs.size = 6) (hR : R (.returned (.agg cs)) w) : bodyPost Tryz.prog fn R .ret a w := by
  obtain ⟨fs, hu⟩ := und89
  exact bodyPost_ret (results_row1 h a.tmps w g cs _ hp t hg hu rfl (by rw [hs]; exact inf89)) hd hR
/-- A case: what is known of port and packet, and the slice of what comes. -/
def csA (s : Sn) (o : Value) : Array Value := #[.int .i64 s.1, .int .i64 s.2.1, .int .i64 s.2.2.1, .int .i64 s.2.2.2.1, .int .i64 s.2.2.2.2, o]
def csV (s : Sn) (o : Value) : Value := .agg (csA s o)
abbrev zero89 : Array Value := #[.int .i64 0, .int .i64 0, .int .i64 0, .int .i64 0, .int .i64 0, .slice none 0 0]
def cameF (n k : Int) : Int := if n = k then -1 else n
theorem came_c (n k : Int) (w : World) : Ret 122 #[.int .i64 n, .int .i64 k] (.int .i64 (cameF n k)) w := by
  unfold Ret cameF
  obtain ⟨b, hb⟩ : ∃ b, decide (n = k) = b := ⟨_, rfl⟩
  cases b with
  | true =>
    have e : n = k := of_decide_eq_true hb
    rw [if_pos e]
    go_enter Tryz.func122, Tryz.ntmps122
    go_wp2_with fail
    go_ret
    exact ⟨rfl, Below.refl _ _⟩
  | false =>
    have e : n ≠ k := of_decide_eq_false hb
    rw [if_neg e]
    go_enter Tryz.func122, Tryz.ntmps122
    go_wp2_with fail
    go_ret
    exact ⟨rfl, Below.refl _ _⟩
/-- What is known, with one more field. -/
def withS (s : Sn) (f v : Int) : Sn :=
  if f = 4 then (v, s.2) else if f = 0 then (s.1, v, s.2.2.1, s.2.2.2.1, s.2.2.2.2) else if f = 1 then (s.1, s.2.1, v, s.2.2.2.1, s.2.2.2.2) else if f = 2 then (s.1, s.2.1, s.2.2.1, v, s.2.2.2.2) else (s.1, s.2.1, s.2.2.1, s.2.2.2.1, v)
set_option maxRecDepth 100000 in
set_option maxHeartbeats 4000000 in
theorem with0 (p a b c d v : Int) (oa : Option Addr) (on oc : Nat) (w : World) : Ret 88 #[csV (p, a, b, c, d) (.slice oa on oc), .int .i64 0, .int .i64 v] (.agg #[.int .i64 p, .int .i64 v, .int .i64 b, .int .i64 c, .int .i64 d, .slice oa on oc]) w := by
  have HB : Hid (Below w.heap.size w ((w.alloc (.cells (csA (p, a, b, c, d) (.slice oa on oc)) 89)).alloc (.cells zero89 89))) := Lib.hid (((Below.refl _ _).alloc (Nat.le_refl _) _).alloc (by simp) _)
  have HS : Hid (((w.alloc (.cells (csA (p, a, b, c, d) (.slice oa on oc)) 89)).alloc (.cells zero89 89)).heap[w.heap.size]? = some (.cells (csA (p, a, b, c, d) (.slice oa on oc)) 89 (0, 0))) :=
    Lib.hid ((Below.heap_alloc _ _ _ (by simp)).trans (heap_alloc_new w _))
  have HR : Hid (((w.alloc (.cells (csA (p, a, b, c, d) (.slice oa on oc)) 89)).alloc (.cells zero89 89)).heap[w.heap.size + 1]? = some (.cells zero89 89 (0, 0))) := by
    have := heap_alloc_new (w.alloc (.cells (csA (p, a, b, c, d) (.slice oa on oc)) 89)) (.cells zero89 89)
    exact Lib.hid (by simpa using this)
  unfold Ret csV
  simp only [csA] at HB HS HR ⊢
  go_enter Tryz.func88, Tryz.ntmps88
  go_wp2_with (refine stop_load 89 _ rfl ?_)
  refine Stop.go (abs_list ?_)
  intro w2 e2
  have hb2 : Below w.heap.size w w2 := by rw [e2]; exact (((Below.refl _ _).alloc (Nat.le_refl _) _).alloc (by simp) _)
  have hs2 : w2.heap[w.heap.size]? = some (.cells #[.int .i64 p, .int .i64 v, .int .i64 b, .int .i64 c, .int .i64 d, .slice oa on oc] 89 (0, 0)) := by
    rw [e2]
    exact (Below.heap_alloc _ _ _ (by simp)).trans (heap_alloc_new w _)
  have hr2 : w2.heap[w.heap.size + 1]? = some (.cells zero89 89 (0, 0)) := by
    rw [e2]
    have := heap_alloc_new (w.alloc (.cells #[.int .i64 p, .int .i64 v, .int .i64 b, .int .i64 c, .int .i64 d, .slice oa on oc] 89)) (.cells zero89 89)
    simpa using this
  have HB2 := Lib.hid hb2
  clear e2 hb2 HB HS HR
  obtain ⟨f89, hu89⟩ := und89
  refine wpList_load_row rfl 89 _ rfl w.heap.size rfl 89 _ (0, 0) _ hs2 hu89 rfl inf89 ?_
  clear hu89
  refine wpList_store_o rfl 89 _ _ rfl (w.heap.size + 1) _ rfl rfl 89 _ hr2 inf89 rfl rfl ?_
  intro w3 hg3 ho3
  have HB3 := Lib.hid (ho3.belowT HB2.out (by omega))
  have HG3 := Lib.hid hg3
  clear hg3 ho3 HB2 hs2 hr2
  go_wp2_with fail
  exact ret89 Tryz.results88 rfl rfl HG3.out rfl ⟨rfl, HB3.out⟩
set_option maxRecDepth 100000 in
set_option maxHeartbeats 4000000 in
theorem with1 (p a b c d v : Int) (oa : Option Addr) (on oc : Nat) (w : World) : Ret 88 #[csV (p, a, b, c, d) (.slice oa on oc), .int .i64 1, .int .i64 v] (.agg #[.int .i64 p, .int .i64 a, .int .i64 v, .int .i64 c, .int .i64 d, .slice oa on oc]) w := by
  have HB : Hid (Below w.heap.size w ((w.alloc (.cells (csA (p, a, b, c, d) (.slice oa on oc)) 89)).alloc (.cells zero89 89))) := Lib.hid (((Below.refl _ _).alloc (Nat.le_refl _) _).alloc (by simp) _)
  have HS : Hid (((w.alloc (.cells (csA (p, a, b, c, d) (.slice oa on oc)) 89)).alloc (.cells zero89 89)).heap[w.heap.size]? = some (.cells (csA (p, a, b, c, d) (.slice oa on oc)) 89 (0, 0))) :=
    Lib.hid ((Below.heap_alloc _ _ _ (by simp)).trans (heap_alloc_new w _))
  have HR : Hid (((w.alloc (.cells (csA (p, a, b, c, d) (.slice oa on oc)) 89)).alloc (.cells zero89 89)).heap[w.heap.size + 1]? = some (.cells zero89 89 (0, 0))) := by
    have := heap_alloc_new (w.alloc (.cells (csA (p, a, b, c, d) (.slice oa on oc)) 89)) (.cells zero89 89)
    exact Lib.hid (by simpa using this)
  unfold Ret csV
  simp only [csA] at HB HS HR ⊢
  go_enter Tryz.func88, Tryz.ntmps88
  go_wp2_with (refine stop_load 89 _ rfl ?_)
  refine Stop.go (abs_list ?_)
  intro w2 e2
  have hb2 : Below w.heap.size w w2 := by rw [e2]; exact (((Below.refl _ _).alloc (Nat.le_refl _) _).alloc (by simp) _)
  have hs2 : w2.heap[w.heap.size]? = some (.cells #[.int .i64 p, .int .i64 a, .int .i64 v, .int .i64 c, .int .i64 d, .slice oa on oc] 89 (0, 0)) := by
    rw [e2]
    exact (Below.heap_alloc _ _ _ (by simp)).trans (heap_alloc_new w _)
  have hr2 : w2.heap[w.heap.size + 1]? = some (.cells zero89 89 (0, 0)) := by
    rw [e2]
    have := heap_alloc_new (w.alloc (.cells #[.int .i64 p, .int .i64 a, .int .i64 v, .int .i64 c, .int .i64 d, .slice oa on oc] 89)) (.cells zero89 89)
    simpa using this
  have HB2 := Lib.hid hb2
  clear e2 hb2 HB HS HR
  obtain ⟨f89, hu89⟩ := und89
  refine wpList_load_row rfl 89 _ rfl w.heap.size rfl 89 _ (0, 0) _ hs2 hu89 rfl inf89 ?_
  clear hu89
  refine wpList_store_o rfl 89 _ _ rfl (w.heap.size + 1) _ rfl rfl 89 _ hr2 inf89 rfl rfl ?_
  intro w3 hg3 ho3
  have HB3 := Lib.hid (ho3.belowT HB2.out (by omega))
  have HG3 := Lib.hid hg3
  clear hg3 ho3 HB2 hs2 hr2
  go_wp2_with fail
  exact ret89 Tryz.results88 rfl rfl HG3.out rfl ⟨rfl, HB3.out⟩
set_option maxRecDepth 100000 in
set_option maxHeartbeats 4000000 in
theorem with2 (p a b c d v : Int) (oa : Option Addr) (on oc : Nat) (w : World) : Ret 88 #[csV (p, a, b, c, d) (.slice oa on oc), .int .i64 2, .int .i64 v] (.agg #[.int .i64 p, .int .i64 a, .int .i64 b, .int .i64 v, .int .i64 d, .slice oa on oc]) w := by
  have HB : Hid (Below w.heap.size w ((w.alloc (.cells (csA (p, a, b, c, d) (.slice oa on oc)) 89)).alloc (.cells zero89 89))) := Lib.hid (((Below.refl _ _).alloc (Nat.le_refl _) _).alloc (by simp) _)
  have HS : Hid (((w.alloc (.cells (csA (p, a, b, c, d) (.slice oa on oc)) 89)).alloc (.cells zero89 89)).heap[w.heap.size]? = some (.cells (csA (p, a, b, c, d) (.slice oa on oc)) 89 (0, 0))) :=
    Lib.hid ((Below.heap_alloc _ _ _ (by simp)).trans (heap_alloc_new w _))
  have HR : Hid (((w.alloc (.cells (csA (p, a, b, c, d) (.slice oa on oc)) 89)).alloc (.cells zero89 89)).heap[w.heap.size + 1]? = some (.cells zero89 89 (0, 0))) := by
    have := heap_alloc_new (w.alloc (.cells (csA (p, a, b, c, d) (.slice oa on oc)) 89)) (.cells zero89 89)
    exact Lib.hid (by simpa using this)
  unfold Ret csV
  simp only [csA] at HB HS HR ⊢
  go_enter Tryz.func88, Tryz.ntmps88
  go_wp2_with (refine stop_load 89 _ rfl ?_)
  refine Stop.go (abs_list ?_)
  intro w2 e2
  have hb2 : Below w.heap.size w w2 := by rw [e2]; exact (((Below.refl _ _).alloc (Nat.le_refl _) _).alloc (by simp) _)
  have hs2 : w2.heap[w.heap.size]? = some (.cells #[.int .i64 p, .int .i64 a, .int .i64 b, .int .i64 v, .int .i64 d, .slice oa on oc] 89 (0, 0)) := by
    rw [e2]
    exact (Below.heap_alloc _ _ _ (by simp)).trans (heap_alloc_new w _)
  have hr2 : w2.heap[w.heap.size + 1]? = some (.cells zero89 89 (0, 0)) := by
    rw [e2]
    have := heap_alloc_new (w.alloc (.cells #[.int .i64 p, .int .i64 a, .int .i64 b, .int .i64 v, .int .i64 d, .slice oa on oc] 89)) (.cells zero89 89)
    simpa using this
  have HB2 := Lib.hid hb2
  clear e2 hb2 HB HS HR
  obtain ⟨f89, hu89⟩ := und89
  refine wpList_load_row rfl 89 _ rfl w.heap.size rfl 89 _ (0, 0) _ hs2 hu89 rfl inf89 ?_
  clear hu89
  refine wpList_store_o rfl 89 _ _ rfl (w.heap.size + 1) _ rfl rfl 89 _ hr2 inf89 rfl rfl ?_
  intro w3 hg3 ho3
  have HB3 := Lib.hid (ho3.belowT HB2.out (by omega))
  have HG3 := Lib.hid hg3
  clear hg3 ho3 HB2 hs2 hr2
  go_wp2_with fail
  exact ret89 Tryz.results88 rfl rfl HG3.out rfl ⟨rfl, HB3.out⟩
set_option maxRecDepth 100000 in
set_option maxHeartbeats 4000000 in
theorem with3 (p a b c d v : Int) (oa : Option Addr) (on oc : Nat) (w : World) : Ret 88 #[csV (p, a, b, c, d) (.slice oa on oc), .int .i64 3, .int .i64 v] (.agg #[.int .i64 p, .int .i64 a, .int .i64 b, .int .i64 c, .int .i64 v, .slice oa on oc]) w := by
  have HB : Hid (Below w.heap.size w ((w.alloc (.cells (csA (p, a, b, c, d) (.slice oa on oc)) 89)).alloc (.cells zero89 89))) := Lib.hid (((Below.refl _ _).alloc (Nat.le_refl _) _).alloc (by simp) _)
  have HS : Hid (((w.alloc (.cells (csA (p, a, b, c, d) (.slice oa on oc)) 89)).alloc (.cells zero89 89)).heap[w.heap.size]? = some (.cells (csA (p, a, b, c, d) (.slice oa on oc)) 89 (0, 0))) :=
    Lib.hid ((Below.heap_alloc _ _ _ (by simp)).trans (heap_alloc_new w _))
  have HR : Hid (((w.alloc (.cells (csA (p, a, b, c, d) (.slice oa on oc)) 89)).alloc (.cells zero89 89)).heap[w.heap.size + 1]? = some (.cells zero89 89 (0, 0))) := by
    have := heap_alloc_new (w.alloc (.cells (csA (p, a, b, c, d) (.slice oa on oc)) 89)) (.cells zero89 89)
    exact Lib.hid (by simpa using this)
  unfold Ret csV
  simp only [csA] at HB HS HR ⊢
  go_enter Tryz.func88, Tryz.ntmps88
  go_wp2_with (refine stop_load 89 _ rfl ?_)
  refine Stop.go (abs_list ?_)
  intro w2 e2
  have hb2 : Below w.heap.size w w2 := by rw [e2]; exact (((Below.refl _ _).alloc (Nat.le_refl _) _).alloc (by simp) _)
  have hs2 : w2.heap[w.heap.size]? = some (.cells #[.int .i64 p, .int .i64 a, .int .i64 b, .int .i64 c, .int .i64 v, .slice oa on oc] 89 (0, 0)) := by
    rw [e2]
    exact (Below.heap_alloc _ _ _ (by simp)).trans (heap_alloc_new w _)
  have hr2 : w2.heap[w.heap.size + 1]? = some (.cells zero89 89 (0, 0)) := by
    rw [e2]
    have := heap_alloc_new (w.alloc (.cells #[.int .i64 p, .int .i64 a, .int .i64 b, .int .i64 c, .int .i64 v, .slice oa on oc] 89)) (.cells zero89 89)
    simpa using this
  have HB2 := Lib.hid hb2
  clear e2 hb2 HB HS HR
  obtain ⟨f89, hu89⟩ := und89
  refine wpList_load_row rfl 89 _ rfl w.heap.size rfl 89 _ (0, 0) _ hs2 hu89 rfl inf89 ?_
  clear hu89
  refine wpList_store_o rfl 89 _ _ rfl (w.heap.size + 1) _ rfl rfl 89 _ hr2 inf89 rfl rfl ?_
  intro w3 hg3 ho3
  have HB3 := Lib.hid (ho3.belowT HB2.out (by omega))
  have HG3 := Lib.hid hg3
  clear hg3 ho3 HB2 hs2 hr2
  go_wp2_with fail
  exact ret89 Tryz.results88 rfl rfl HG3.out rfl ⟨rfl, HB3.out⟩
set_option maxRecDepth 100000 in
set_option maxHeartbeats 4000000 in
theorem with4 (p a b c d v : Int) (oa : Option Addr) (on oc : Nat) (w : World) : Ret 88 #[csV (p, a, b, c, d) (.slice oa on oc), .int .i64 4, .int .i64 v] (.agg #[.int .i64 v, .int .i64 a, .int .i64 b, .int .i64 c, .int .i64 d, .slice oa on oc]) w := by
  have HB : Hid (Below w.heap.size w ((w.alloc (.cells (csA (p, a, b, c, d) (.slice oa on oc)) 89)).alloc (.cells zero89 89))) := Lib.hid (((Below.refl _ _).alloc (Nat.le_refl _) _).alloc (by simp) _)
  have HS : Hid (((w.alloc (.cells (csA (p, a, b, c, d) (.slice oa on oc)) 89)).alloc (.cells zero89 89)).heap[w.heap.size]? = some (.cells (csA (p, a, b, c, d) (.slice oa on oc)) 89 (0, 0))) :=
    Lib.hid ((Below.heap_alloc _ _ _ (by simp)).trans (heap_alloc_new w _))
  have HR : Hid (((w.alloc (.cells (csA (p, a, b, c, d) (.slice oa on oc)) 89)).alloc (.cells zero89 89)).heap[w.heap.size + 1]? = some (.cells zero89 89 (0, 0))) := by
    have := heap_alloc_new (w.alloc (.cells (csA (p, a, b, c, d) (.slice oa on oc)) 89)) (.cells zero89 89)
    exact Lib.hid (by simpa using this)
  unfold Ret csV
  simp only [csA] at HB HS HR ⊢
  go_enter Tryz.func88, Tryz.ntmps88
  go_wp2_with (refine stop_load 89 _ rfl ?_)
  refine Stop.go (abs_list ?_)
  intro w2 e2
  have hb2 : Below w.heap.size w w2 := by rw [e2]; exact (((Below.refl _ _).alloc (Nat.le_refl _) _).alloc (by simp) _)
  have hs2 : w2.heap[w.heap.size]? = some (.cells #[.int .i64 v, .int .i64 a, .int .i64 b, .int .i64 c, .int .i64 d, .slice oa on oc] 89 (0, 0)) := by
    rw [e2]
    exact (Below.heap_alloc _ _ _ (by simp)).trans (heap_alloc_new w _)
  have hr2 : w2.heap[w.heap.size + 1]? = some (.cells zero89 89 (0, 0)) := by
    rw [e2]
    have := heap_alloc_new (w.alloc (.cells #[.int .i64 v, .int .i64 a, .int .i64 b, .int .i64 c, .int .i64 d, .slice oa on oc] 89)) (.cells zero89 89)
    simpa using this
  have HB2 := Lib.hid hb2
  clear e2 hb2 HB HS HR
  obtain ⟨f89, hu89⟩ := und89
  refine wpList_load_row rfl 89 _ rfl w.heap.size rfl 89 _ (0, 0) _ hs2 hu89 rfl inf89 ?_
  clear hu89
  refine wpList_store_o rfl 89 _ _ rfl (w.heap.size + 1) _ rfl rfl 89 _ hr2 inf89 rfl rfl ?_
  intro w3 hg3 ho3
  have HB3 := Lib.hid (ho3.belowT HB2.out (by omega))
  have HG3 := Lib.hid hg3
  clear hg3 ho3 HB2 hs2 hr2
  go_wp2_with fail
  exact ret89 Tryz.results88 rfl rfl HG3.out rfl ⟨rfl, HB3.out⟩
theorem with_c (s : Sn) (f v : Int) (oa : Option Addr) (on oc : Nat) (w : World) (h0 : 0 ≤ f) (h4 : f ≤ 4) : Ret 88 #[csV s (.slice oa on oc), .int .i64 f, .int .i64 v] (csV (withS s f v) (.slice oa on oc)) w := by
  obtain ⟨p, a, b, c, d⟩ := s
  rcases (by omega : f = 0 ∨ f = 1 ∨ f = 2 ∨ f = 3 ∨ f = 4) with rfl | rfl | rfl | rfl | rfl
  · exact with0 p a b c d v oa on oc w
  · exact with1 p a b c d v oa on oc w
  · exact with2 p a b c d v oa on oc w
  · exact with3 p a b c d v oa on oc w
  · exact with4 p a b c d v oa on oc w
end Go.Proofs.YtekfkieimdgfkaaGreat
/- What is proved here: what comes of what is known. Condition: at most one packet comes of it, and of each step on the way. -/
namespace Go.Proofs.YtekfkieimdgfkaaGreat
open Go Go.RowKit
attribute [local go_sem] KW.cell KW.frozen
/-- The maker: the policy, its switch, and the numbers of each field. -/
def mkL (x : Pol) (u : Value) (sw : Int) (vs : List Value) : List Value := polL x u ++ .int .i64 sw :: vs
def mkA (x : Pol) (u : Value) (sw : Int) (vs : List Value) : Array Value := (mkL x u sw vs).toArray
theorem mk_get {x : Pol} {u : Value} {sw : Int} {vs : List Value} (i : Nat) : (mkA x u sw vs)[i]? = (mkL x u sw vs)[i]? := by simp [mkA]
theorem mk_range {x : Pol} {u : Value} {sw : Int} {vs : List Value} {mk : Nat} {w : World} (h : w.heap[mk]? = some (.cells (mkA x u sw vs) 132 (0, 0))) : w.rangeAt mk 0 (polL x u) := by
  intro j v hj
  have hl : j < (polL x u).length := (List.getElem?_eq_some_iff.1 hj).1
  rw [Nat.zero_add, block_cell h, mk_get]
  unfold mkL
  rw [List.getElem?_append_left hl]
  exact hj
theorem mk_sw {x : Pol} {u : Value} {sw : Int} {vs : List Value} {mk : Nat} {w : World} (h : w.heap[mk]? = some (.cells (mkA x u sw vs) 132 (0, 0))) : w.cell? ⟨mk, 8, none⟩ = some (.int .i64 sw) := by
  rw [block_cell h, mk_get]
  rfl
theorem cs_range {s : Sn} {o : Value} {b : Nat} {w : World} (h : w.heap[b]? = some (.cells (csA s o) 89 (0, 0))) : w.rangeAt b 1 (pkA s.2).toList := by
  intro j v hj
  rw [block_cell h]
  have hl : j < 4 := (List.getElem?_eq_some_iff.1 hj).1
  rcases (by omega : j = 0 ∨ j = 1 ∨ j = 2 ∨ j = 3) with rfl | rfl | rfl | rfl <;> exact hj
theorem inf29 : (Tryz.prog.info? 29).map (·.size) = some 4 := by kernel_rfl
theorem und29 : ∃ d, Tryz.prog.underlying 29 = some d ∧ d.isRow = true := by
  have h : (match Tryz.prog.underlying 29 with | some d => d.isRow | _ => false) = true := by kernel_rfl
  cases hu : Tryz.prog.underlying 29 with
  | none => rw [hu] at h; cases h
  | some d => rw [hu] at h; exact ⟨d, rfl, h⟩
theorem pure_takeD {P : Program} {ops : Array Oper} {S : World → Prop} {R : Act → Prop} {o : Oper} {rest : List Oper} {a : Act} (dst : Tmp) (hd : o.dst = some dst) (hw : Region.wanted o (yielded ops a.tmps) = true) (v : Value) (hv : ∀ w, S w → (execOp a.eval o).run P w = .ok (.value v) w)
    (h : wpPure P ops S R rest (a.put (some dst) v)) : wpPure P ops S R (o :: rest) a := pure_take hw v hv (by rw [hd]; exact h)
theorem pure_mid {P : Program} {ops : Array Oper} {S : World → Prop} {R : Act → Prop} {o : Oper} {rest : List Oper} {a : Act} (dst : Tmp) (hds : o.dst = some dst) (hw : Region.wanted o (yielded ops a.tmps) = true) (ty : TypeId) (x : Operand) (ho : o.op = .load ty x) (g i : Nat) (hx : a.eval x = .pointer (some ⟨g, i, none⟩)) (cs : List Value) (d : TypeDesc)
    (hS : ∀ w, S w → w.rangeAt g i cs) (hu : P.underlying ty = some d) (hd : d.isRow = true) (hi : (P.info? ty).map (·.size) = some cs.length)
    (h : wpPure P ops S R rest (a.put (some dst) (.agg cs.toArray))) : wpPure P ops S R (o :: rest) a :=
  pure_takeD dst hds hw _ (fun w hw' => by
    unfold execOp
    simp only [ho, hx, Instr.loadAt, Instr.sureAddr, Sem.run_bind, Sem.run_pure, Result.andThen_ok, run_loadVar_mid w g i ty cs d (hS w hw') hu hd hi]) h
theorem pure_end {P : Program} {ops : Array Oper} {S : World → Prop} {R : Act → Prop} {a : Act} (h : R a) : wpPure P ops S R [] a := h
theorem own_one {B : Nat} {v : Value} {s : Sn} {w : World} (h : w.ownsRow B 63 5 v 1 (flatR stE [s])) : ∃ g cap, v = .slice (some ⟨g, 0, none⟩) 1 cap ∧ B ≤ g ∧ g < w.heap.size ∧ w.rangeAt g 0 (stE s) := by
  rcases h.2 with ⟨_, h0⟩ | ⟨g, cap, cur, rfl, hB, hg, _, _, hz, ht⟩
  · omega
  · refine ⟨g, cap, rfl, hB, block_lt hg, fun j u hj => ?_⟩
    have hl : j < 5 := (List.getElem?_eq_some_iff.1 hj).1
    have e : flatR stE [s] = stE s := by simp [flatR]
    rw [e] at ht
    rw [Nat.zero_add, block_cell hg, ← hj, ← ht, List.getElem?_take]
    simp [hl]
/-- What comes, told by what is known. -/
def cameS (k s : Sn) : Sn := (s.1, cameF s.2.1 k.2.1, cameF s.2.2.1 k.2.2.1, cameF s.2.2.2.1 k.2.2.2.1, cameF s.2.2.2.2 k.2.2.2.2)
def camI (f i : Nat) (a k : Int) : Int := if i < f then cameF a k else a
/-- A packet whose first f numbers are told by what is known. -/
def camA (f : Nat) (sp sa sb sc sd ka kb kc kd : Int) : Array Value := #[.int .i64 sp, .int .i64 (camI f 0 sa ka), .int .i64 (camI f 1 sb kb), .int .i64 (camI f 2 sc kc), .int .i64 (camI f 3 sd kd)]
def lastL (sw : Int) (d : Nat) (x : Pol) (k : Sn) : List Sn := (semL sw d x k).map (cameS k)
set_option maxRecDepth 100000 in
set_option maxHeartbeats 8000000 in
theorem last_none (mk : Nat) (sw : Int) (k : Sn) (d : Nat) (x : Pol) (u : Value) (vs : List Value) (w : World) (hm : w.heap[mk]? = some (.cells (mkA x u sw vs) 132 (0, 0))) (hr : RdP AnyP (d + 1) u x.l w) (ho : OkR d x) (h1 : OneOk sw d x k) (hs : semL sw d x k = []) :
    Calls Tryz.prog 87 #[.pointer (some ⟨mk, 0, none⟩), csV k (.slice none 0 0)] w fun e w' => ∃ o, e = .returned (csV k o) ∧ w'.ownsRow w.heap.size 63 5 o 0 [] ∧ Below w.heap.size w w' := by
  obtain ⟨uo, uc, rfl, _, huc⟩ := hr.form
  have hmk := block_lt hm
  have X := Lib.hid (fun w' (hb : Below w.heap.size w w') => run121_c sw k.1 k.2 d x (.slice uo x.l.length uc) w' (hr.kept hb) ho h1 (by rw [show (k.1, k.2) = k from rfl, hs]; simp))
  simp only [show (k.1, k.2) = k from rfl, hs] at X
  have HB : Hid (Below w.heap.size w ((w.alloc (.cells (csA k (.slice none 0 0)) 89)).alloc (.cells zero89 89))) := Lib.hid (((Below.refl _ _).alloc (Nat.le_refl _) _).alloc (by simp) _)
  have HC : Hid (((w.alloc (.cells (csA k (.slice none 0 0)) 89)).alloc (.cells zero89 89)).heap[w.heap.size]? = some (.cells (csA k (.slice none 0 0)) 89 (0, 0))) :=
    Lib.hid ((Below.heap_alloc _ _ _ (by simp)).trans (heap_alloc_new w _))
  have HR : Hid (((w.alloc (.cells (csA k (.slice none 0 0)) 89)).alloc (.cells zero89 89)).heap[w.heap.size + 1]? = some (.cells zero89 89 (0, 0))) := by
    have := heap_alloc_new (w.alloc (.cells (csA k (.slice none 0 0)) 89)) (.cells zero89 89)
    exact Lib.hid (by simpa using this)
  have HM := Lib.hid hm
  clear hr ho h1 hs hm
  obtain ⟨kp, ka, kb, kc, kd⟩ := k
  unfold csV
  simp only [csA, polV] at HB HC HR X ⊢
  go_enter Tryz.func87, Tryz.ntmps87
  go_upto_region 1 with fail
  refine abs_wp ?_
  intro wb hwb
  have HBb : Hid (Below w.heap.size w wb) := by rw [hwb]; exact HB
  have HCb : Hid (wb.heap[w.heap.size]? = some (.cells (csA (kp, ka, kb, kc, kd) (.slice none 0 0)) 89 (0, 0))) := by rw [hwb]; exact HC
  have HRb : Hid (wb.heap[w.heap.size + 1]? = some (.cells zero89 89 (0, 0))) := by rw [hwb]; exact HR
  have hsb : wb.heap.size = w.heap.size + 1 + 1 := by rw [hwb]; simp
  have HSB := Lib.hid hsb
  clear hwb HB HC HR hsb
  have HMb := Lib.hid ((HBb.out.block mk hmk).trans HM.out)
  have c0 := block_cell HCb.out 0
  simp only [csA, List.getElem?_toArray, List.getElem?_cons_zero] at c0
  have c8 := mk_sw HMb.out
  have hlc := block_lt HCb.out
  have hlm := block_lt HMb.out
  obtain ⟨f55, hu55⟩ := und55
  obtain ⟨d29, hu29, hd29⟩ := und29
  refine wp_region_pick [0, 1, 2, 4, 5, 6, 8, 10, 14] [3, 7, 9, 11] [12] [13] [13] (by kernel_rfl) (by kernel_rfl) (by kernel_rfl) ?_
  refine pure_takeD 8 rfl (by rfl) ?v0 ?h0 ?r0
  case h0 => (intro w0 _; go_simp; try (with_reducible rfl))
  (try simp only [Act.put, List.setIfInBounds_toArray, List.set_cons_zero, List.set_cons_succ])
  refine pure_takeD 9 rfl (by rfl) ?v1 ?h1 ?r1
  case h1 => (intro w0 _; go_simp; try (with_reducible rfl))
  (try simp only [Act.put, List.setIfInBounds_toArray, List.set_cons_zero, List.set_cons_succ])
  refine pure_takeD 10 rfl (by rfl) ?v2 ?h2 ?r2
  case h2 => (intro w0 _; go_simp; try (with_reducible rfl))
  (try simp only [Act.put, List.setIfInBounds_toArray, List.set_cons_zero, List.set_cons_succ])
  refine pure_takeD 12 rfl (by rfl) ?v3 ?h3 ?r3
  case h3 => (intro w0 _; go_simp; try (with_reducible rfl))
  (try simp only [Act.put, List.setIfInBounds_toArray, List.set_cons_zero, List.set_cons_succ])
  refine pure_takeD 13 rfl (by rfl) ?v4 ?h4 ?r4
  case h4 => (intro w0 _; go_simp; try (with_reducible rfl))
  (try simp only [Act.put, List.setIfInBounds_toArray, List.set_cons_zero, List.set_cons_succ])
  refine pure_takeD 14 rfl (by rfl) ?v5 ?h5 ?r5
  case h5 => (intro w0 _; go_simp; try (with_reducible rfl))
  (try simp only [Act.put, List.setIfInBounds_toArray, List.set_cons_zero, List.set_cons_succ])
  refine pure_takeD 16 rfl (by rfl) ?v6 ?h6 ?r6
  case h6 => (intro w0 _; go_simp; try (with_reducible rfl))
  (try simp only [Act.put, List.setIfInBounds_toArray, List.set_cons_zero, List.set_cons_succ])
  refine pure_takeD 18 rfl (by rfl) ?v7 ?h7 ?r7
  case h7 => (intro w0 _; go_simp; try (with_reducible rfl))
  (try simp only [Act.put, List.setIfInBounds_toArray, List.set_cons_zero, List.set_cons_succ])
  refine pure_takeD 22 rfl (by rfl) ?v8 ?h8 ?r8
  case h8 => (intro w0 _; go_simp; try (with_reducible rfl))
  (try simp only [Act.put, List.setIfInBounds_toArray, List.set_cons_zero, List.set_cons_succ])
  refine pure_end ?_
  (try dsimp only)
  refine pure_mid 11 rfl (by rfl) 55 _ rfl mk 0 rfl (polL x (.slice uo x.l.length uc)) (.struct f55) (fun w0 hw0 => ?m0) hu55 rfl inf55 ?_
  case m0 => (obtain ⟨kz, rfl⟩ := hw0; exact mk_range ((kz.kp.block _ hlm).trans HMb.out))
  (try simp only [Act.put, List.setIfInBounds_toArray, List.set_cons_zero, List.set_cons_succ])
  refine pure_takeD 15 rfl (by rfl) ?vl0 ?hl0 ?rl0
  case hl0 => (rintro w0 ⟨kz, rfl⟩; go_simp; try (with_reducible rfl))
  (try simp only [Act.put, List.setIfInBounds_toArray, List.set_cons_zero, List.set_cons_succ])
  refine pure_takeD 17 rfl (by rfl) ?vl1 ?hl1 ?rl1
  case hl1 => (rintro w0 ⟨kz, rfl⟩; go_simp; try (with_reducible rfl))
  (try simp only [Act.put, List.setIfInBounds_toArray, List.set_cons_zero, List.set_cons_succ])
  refine pure_mid 19 rfl (by rfl) 29 _ rfl w.heap.size 1 rfl (pkA (ka, kb, kc, kd)).toList d29 (fun w0 hw0 => ?m1) hu29 hd29 inf29 ?_
  case m1 => (obtain ⟨kz, rfl⟩ := hw0; exact cs_range ((kz.kp.block _ hlc).trans HCb.out))
  (try simp only [Act.put, List.setIfInBounds_toArray, List.set_cons_zero, List.set_cons_succ])
  refine pure_end ?_
  (try dsimp only)
  intro kz
  refine keep_call (by rfl) 121 #[.agg (polL x (.slice uo x.l.length uc)).toArray, .int .i64 sw, .int .i64 kp, .agg (pkA (ka, kb, kc, kd))] ?hc ?_
  case hc => (go_simp; try rfl)
  have HKB := Lib.hid (HBb.out.trans (kz.kp.mono HBb.out.size))
  refine (X.out _ HKB.out).mono ?_
  rintro e w1 ⟨v1, rfl, hown, hb1⟩
  have hszk := kz.kp.size
  have HB1 := Lib.hid (kz.kp.trans (hb1.mono hszk))
  obtain ⟨ro, rc, rfl, _, _⟩ := own_form hown
  refine ⟨_, rfl, ⟨⟨w1, HB1.out⟩, rfl⟩, ?_⟩
  have HO1 := Lib.hid (own_mono (B' := w.heap.size + 1 + 1) hown (by rw [← HSB.out]; exact hszk))
  have HBw := Lib.hid (HBb.out.trans (HB1.out.mono HBb.out.size))
  have HC1 := Lib.hid ((HB1.out.block _ hlc).trans HCb.out)
  have HR1 := Lib.hid ((HB1.out.block _ (block_lt HRb.out)).trans HRb.out)
  have HS1 := Lib.hid (show w.heap.size + 1 + 1 ≤ w1.heap.size by have := HB1.out.size; rw [HSB.out] at this; exact this)
  clear hown hb1 hszk HKB X HBb HCb HRb HMb c0 c8 hlc hlm hu55 hu29 hd29 HB1 HM
  show wpList _ _ _ _ _ _
  go_wp2_with fail
  refine NoPanic.normal ?_
  go_wp2_with fail
  go_loopw [22] (fun i wr => i = .int .i64 0 ∧ wr = w1) (fun _ _ => 0)
  case atStart => exact ⟨rfl, rfl⟩
  case round =>
    obtain ⟨rfl, rfl⟩ := hrel
    have HCx := HC1
    have HRx := HR1
    have HOx := Lib.hid (own_nil wr (w.heap.size + 1 + 1) 63 5)
    have HBx := HBw
    have HSx := HS1
    clear HC1 HR1 HO1 HBw HS1
    have hsx := HSx.out
    have c5 := block_cell HCx.out 5
    simp only [csA, List.getElem?_toArray, List.getElem?_cons_zero, List.getElem?_cons_succ] at c5
    have hlx := block_lt HCx.out
    have f5 := block_free HCx.out 5
    go_wp2_with (first | (go_at_call 123; refine (sort123_c _ _ _ _ _ (by omega)).mono ?_; rintro e w2 ⟨rfl, rfl⟩) | (go_at_call 125; refine (compact125_c _ _ _ _ (by omega)).mono ?_; rintro e w3 ⟨rfl, rfl⟩) | (refine stop_load 89 _ rfl ?_) | go_in)
    have HC9 := Lib.hid (heap_setCell_same wr w.heap.size 5 _ 89 (.slice none 0 0) HCx.out)
    have HR9 := Lib.hid ((heap_setCell_other wr ⟨w.heap.size, 5, none⟩ _ (.slice none 0 0) (by dsimp only; omega)).trans HRx.out)
    have HB9 := Lib.hid (HBx.out.setCell (p := ⟨w.heap.size, 5, none⟩) (Nat.le_refl _) (.slice none 0 0))
    have HO9 := Lib.hid (own_blk (w' := wr.setCell ⟨w.heap.size, 5, none⟩ (.slice none 0 0)) HOx.out fun j hj => heap_setCell_other _ _ _ _ (by have := (HOx.out.lt j hj).1; dsimp only; omega))
    clear HCx HRx HBx HOx c5 f5
    obtain ⟨f89, hu89⟩ := und89
    refine Stop.go (wpList_load_row rfl 89 _ rfl w.heap.size rfl 89 _ (0, 0) _ HC9.out hu89 rfl inf89 ?_)
    clear hu89
    refine wpList_store_o rfl 89 _ _ rfl (w.heap.size + 1) _ rfl rfl 89 _ HR9.out inf89 rfl rfl ?_
    intro w8 hg8 ho8
    have HB8 := Lib.hid (ho8.belowT HB9.out (by omega))
    have HG8 := Lib.hid hg8
    have HO8 := Lib.hid (own_blk (w' := w8) HO9.out fun j hj => ho8.block j (by have := (HO9.out.lt j hj).1; omega))
    clear hg8 ho8 HB9 HC9 HR9 HO9
    go_wp2_with fail
    exact ret89 Tryz.results87 rfl rfl HG8.out rfl ⟨_, rfl, own_mono HO8.out (by omega), HB8.out⟩
end Go.Proofs.YtekfkieimdgfkaaGreat
