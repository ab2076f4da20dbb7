/- What is proved here: with which numbers a policy asks for a field, or sets it. Condition: it can be read. -/
import Derived.Test.YtekfkieimdgfkaaGreatT04
import Derived.Test.YtekfkieimdgfkaaGreatT07
import Derived.Test.YtekfkieimdgfkaaGreatT10
namespace Go.Proofs.YtekfkieimdgfkaaGreat
open Go Go.RowKit
attribute [local go_sem] KW.cell KW.frozen
theorem el44 : Elem Tryz.prog 44 3 1 := elem_of (by kernel_rfl)
abbrev IV (zs : List Int) : List Value := zs.map (Value.int .i64)
set_option maxRecDepth 100000 in
set_option maxHeartbeats 4000000 in
theorem pval_no (k f n fl : Int) (w : World) (h : ((k == 3) && (f == fl)) = false) : Ret 107 #[.slice none 0 0, .agg (predA k f n), .int .i64 fl] (.slice none 0 0) w := by
  have HB := Lib.hid (grow1 w (.cells (predA k f n) 52))
  obtain ⟨b1, hb1⟩ : ∃ b, (k == 3) = b := ⟨_, rfl⟩
  obtain ⟨b2, hb2⟩ : ∃ b, (f == fl) = b := ⟨_, rfl⟩
  rw [hb1, hb2] at h
  unfold Ret
  cases b1 <;> cases b2
  case true.true => cases h
  all_goals
    go_enter Tryz.func107, Tryz.ntmps107
    go_wp2_with fail
    go_loopw [0, 26] (fun o i wr => o = .slice none 0 0 ∧ i = .int .i64 0 ∧ wr = w.alloc (.cells (predA k f n) 52)) (fun _ _ _ => 0)
    case atStart => exact ⟨rfl, rfl, rfl⟩
    case round =>
      obtain ⟨rfl, rfl, rfl⟩ := hrel
      go_wp2_with fail
      go_ret
      exact ⟨rfl, HB.out⟩
set_option maxRecDepth 100000 in
set_option maxHeartbeats 4000000 in
theorem pval_yes (n fl : Int) (w : World) : Calls Tryz.prog 107 #[.slice none 0 0, .agg (predA 3 fl n), .int .i64 fl] w fun e w' => ∃ v, e = .returned v ∧ w'.ownsRow w.heap.size 3 1 v 1 (IV [n]) ∧ Below w.heap.size w w' := by
  have HB := Lib.hid (grow1 w (.cells (predA 3 fl n) 52))
  have HG := Lib.hid (heap_alloc_new w (.cells (predA 3 fl n) 52))
  go_enter Tryz.func107, Tryz.ntmps107
  go_wp2_with (at_builtin; refine stop_list ?_)
  refine Stop.go (abs_list ?_)
  intro w2 e2
  have hb2 : Below w.heap.size w w2 := by rw [e2]; exact HB.out.alloc (by simp) _
  have hx2 : w2.heap[w.heap.size]? = some (.cells (predA 3 fl n) 52 (0, 0)) := by rw [e2]; exact (Below.heap_alloc _ _ _ (by simp)).trans HG.out
  have hg2 : w2.heap[w.heap.size + 1]? = some (.cells #[.int .i64 n] 3 (0, 0)) := by
    rw [e2]
    have := heap_alloc_new (w.alloc (.cells (predA 3 fl n) 52)) (.cells #[.int .i64 n] 3)
    simpa using this
  have hs2 : w2.heap.size = w.heap.size + 1 + 1 := by rw [e2]; simp
  clear e2 HB HG
  refine wpList_push1 el44 rfl _ _ rfl w.heap.size (.slice none 0 0) 0 [] rfl (own_nil _ _ _ _) (w.heap.size + 1) rfl _ hg2 rfl rfl (by omega) (by omega) ?_
  intro gn cap w3 hown hgr hor hlt
  have HO := Lib.hid (show w3.ownsRow w.heap.size 3 1 (.slice (some ⟨gn, 0, none⟩) 1 cap) 1 (IV [n]) from by simpa using hown)
  have HB3 := Lib.hid (hb2.grown hgr (by omega) fun j hj => by simp [Value.ownBlock] at hj)
  have hx3 := (hgr.block w.heap.size (by omega) (by simp [Value.ownBlock])).trans hx2
  have c3 := block_cell hx3 3
  have hl := block_lt hx3
  simp only [List.getElem?_toArray, List.getElem?_cons_zero, List.getElem?_cons_succ] at c3
  clear hown hgr hor hb2 hx2 hg2 hx3
  go_wp2_with fail
  go_loopw [0, 26] (fun o i wr => o = .slice (some ⟨gn, 0, none⟩) 1 cap ∧ i = .int .i64 0 ∧ wr = w3) (fun _ _ _ => 0)
  case atStart => exact ⟨rfl, rfl, rfl⟩
  case round =>
    obtain ⟨rfl, rfl, rfl⟩ := hrel
    go_wp2_with fail
    go_ret
    exact ⟨_, rfl, HO.out, HB3.out⟩
theorem sv_nil : sv [] = [] := by simp [sv, sortI, Lib.compact, Lib.compactUpTo]
theorem sv_one (n : Int) : sv [n] = [n] := by
  unfold sv sortI
  rw [List.mergeSort_singleton]
  exact Lib.compact_all _ (fun j hj => Lib.keeps_lt_one _ j (by simpa using hj))
/-- A leaf's numbers of a field. -/
def pvals (k f n fl : Int) : List Int := if ((k == 3) && (f == fl)) = true then [n] else []
set_option maxRecDepth 100000 in
set_option maxHeartbeats 4000000 in
theorem pvals_c (k f n fl : Int) (w : World) : Calls Tryz.prog 81 #[.agg (predA k f n), .int .i64 fl] w fun e w' => ∃ v, e = .returned v ∧ w'.ownsRow w.heap.size 3 1 v (pvals k f n fl).length (IV (pvals k f n fl)) ∧ (pvals k f n fl = [] → v = .slice none 0 0) ∧ Below w.heap.size w w' := by
  have HB := Lib.hid (grow1 w (.cells (predA k f n) 52))
  unfold pvals
  by_cases h : ((k == 3) && (f == fl)) = true
  · rw [if_pos h]
    rw [Bool.and_eq_true] at h
    obtain ⟨h1, h2⟩ := h
    have e1 : k = 3 := by simpa using h1
    have e2 : f = fl := by simpa using h2
    subst e1 e2
    have X := Lib.hid (pval_yes n f (w.alloc (.cells (predA 3 f n) 52)))
    clear h1 h2
    go_enter Tryz.func81, Tryz.ntmps81
    go_wp2_with fail
    refine X.out.mono ?_
    rintro e w1 ⟨v, rfl, hown, hb⟩
    have HO := Lib.hid (own_mono (B' := w.heap.size) hown (by simp))
    have HB1 := Lib.hid (HB.out.trans (hb.mono (by simp)))
    clear hown hb X HB
    go_wp2_with fail
    refine (sort_own w.heap.size v [n] w1 HO.out (by simp)).mono ?_
    rintro e w2 ⟨rfl, hown, hg⟩
    have es : sortI [n] = [n] := List.mergeSort_singleton _
    rw [es] at hown
    have HO2 := Lib.hid hown
    have HB2 := Lib.hid (HB1.out.grown hg HB1.out.size fun j hj => (HO.out.lt j hj).1)
    clear hown hg HO HB1
    go_wp2_with fail
    refine (compact_own w.heap.size v [n] w2 HO2.out (by simp)).mono ?_
    rintro e w3 ⟨v', rfl, hown, hvb, hg⟩
    have ec : Lib.compact [n] = [n] := Lib.compact_all _ (fun j hj => Lib.keeps_lt_one _ j (by simpa using hj))
    rw [ec] at hown
    have HO3 := Lib.hid hown
    have HB3 := Lib.hid (HB2.out.grown hg HB2.out.size fun j hj => (HO2.out.lt j hj).1)
    clear hown hg HO2 HB2 hvb
    go_wp2_with fail
    go_ret
    exact ⟨_, rfl, HO3.out, fun h => (by cases h), HB3.out⟩
  · rw [if_neg h]
    have h' : ((k == 3) && (f == fl)) = false := by simpa using h
    have X := Lib.hid (pval_no k f n fl (w.alloc (.cells (predA k f n) 52)) h')
    clear h h'
    go_enter Tryz.func81, Tryz.ntmps81
    go_wp2_with fail
    refine X.out.mono ?_
    rintro e w1 ⟨rfl, hb⟩
    have HB1 := Lib.hid (HB.out.trans (hb.mono (by simp)))
    clear hb X HB
    go_wp2_with fail
    refine (slices_Sort_int_none none 0 w1).mono ?_
    rintro e w2 ⟨rfl, rfl⟩
    go_wp2_with fail
    refine (slices_Compact_int_empty none 0 w2).mono ?_
    rintro e w3 ⟨rfl, rfl⟩
    go_wp2_with fail
    go_ret
    exact ⟨_, rfl, own_nil _ _ _ _, fun _ => rfl, HB1.out⟩
end Go.Proofs.YtekfkieimdgfkaaGreat
/- What is proved here: with which numbers a policy, and all within, ask for a field, or set it. Condition: it can be read. -/
namespace Go.Proofs.YtekfkieimdgfkaaGreat
open Go Go.RowKit
attribute [local go_sem] KW.cell KW.frozen
def ownV (x : Pol) (fl : Int) : List Int := (if ((x.k == 2) && (x.f == fl)) = true then [x.v] else []) ++ pvals x.pk x.pf x.pn fl
/-- The call lays the numbers zs' behind the numbers zs. -/
def ValC (fl : Int) (d : Nat) (x : Pol) (news : List Int) : Prop :=
  ∀ (u : Value) (B : Nat) (v0 : Value) (zs : List Int) (w : World), w.ownsRow B 3 1 v0 zs.length (IV zs) → B ≤ w.heap.size → RdP (fun g => g < B) d u x.l w → (zs ++ news).length ≤ 1000 →
    Calls Tryz.prog 58 #[v0, polV x u, .int .i64 fl] w fun e w' => ∃ v', e = .returned v' ∧ w'.ownsRow B 3 1 v' (zs ++ news).length (IV (zs ++ news)) ∧ Below B w w'
theorem IV_append (a b : List Int) : IV (a ++ b) = IV a ++ IV b := by simp [IV]
set_option maxRecDepth 100000 in
set_option maxHeartbeats 8000000 in
theorem val_leaf1 (fl pk pf pn f v : Int) (d : Nat) : ValC fl (d + 1) (.mk 1 pk pf pn f v []) (ownV (.mk 1 pk pf pn f v []) fl) := by
  intro u B v0 zs w hown hB hr hn
  obtain ⟨uo, uc, rfl, _, huc⟩ := hr.form
  have e : ownV (.mk 1 pk pf pn f v []) fl = pvals pk pf pn fl := by simp [ownV, Pol.k, Pol.pk, Pol.pf, Pol.pn]
  rw [e] at hn ⊢
  have HX := Lib.hid (heap_alloc_new w (.cells #[.int .i64 1, .int .i64 pk, .int .i64 pf, .int .i64 pn, .slice none 0 0, .int .i64 f, .int .i64 v, .slice uo 0 uc] 55))
  have HB := Lib.hid ((grow1 w (.cells #[.int .i64 1, .int .i64 pk, .int .i64 pf, .int .i64 pn, .slice none 0 0, .int .i64 f, .int .i64 v, .slice uo 0 uc] 55)).mono hB)
  have HO := Lib.hid (own_kept hown (grow1 w (.cells #[.int .i64 1, .int .i64 pk, .int .i64 pf, .int .i64 pn, .slice none 0 0, .int .i64 f, .int .i64 v, .slice uo 0 uc] 55)))
  have HV := Lib.hid (show ∀ g, v0.ownBlock = some g → g < w.heap.size from fun g hg => (hown.lt g hg).2)
  clear hr hown e
  unfold polV
  simp only [Pol.k, Pol.pk, Pol.pf, Pol.pn, Pol.f, Pol.v, Pol.l]
  have XP := Lib.hid (fun w => pvals_c pk pf pn fl w)
  obtain ⟨news, hnews⟩ : ∃ l, l = pvals pk pf pn fl := ⟨_, rfl⟩
  have hnl : news.length = 0 ∨ news.length = 1 := by rw [hnews]; unfold pvals; split <;> simp
  rw [← hnews] at XP hn ⊢
  clear hnews
  obtain ⟨vo, vc, hvf, _, _⟩ := own_form HO.out
  subst hvf
  have hs0 : B ≤ w.heap.size := hB
  go_enter Tryz.func58, Tryz.ntmps58
  go_wp2_with fail
  refine (XP.out _).mono ?_
  rintro e w1 ⟨pv, rfl, hpo, hpn, hb⟩
  simp only [World.size_alloc] at hpo
  have hsz := hb.size
  simp only [World.size_alloc] at hsz
  have HB1 := Lib.hid (HB.out.trans (hb.mono (by simp; omega)))
  have hx1 := (hb.block w.heap.size (by simp)).trans HX.out
  have HX1 := Lib.hid hx1
  have HO1 := Lib.hid (own_kept HO.out hb)
  have HPO := Lib.hid hpo
  have HPN := Lib.hid hpn
  clear hb hpo hpn HB HX HO XP hx1
  go_wp2_with (at_builtin; refine stop_list ?_)
  refine Stop.go ?_
  have fin : ∀ (vv : Value) (w2 : World) (Q : Exit → Act → World → Prop), True := fun _ _ _ => trivial
  rcases hnl with h0 | h1
  · have hz : news = [] := List.eq_nil_of_length_eq_zero h0
    subst hz
    have hpv := HPN.out rfl
    subst hpv
    obtain ⟨i, zv, hi, _, hsz2, _, _, _⟩ := el44.ex
    refine wpList_append_own_none rfl _ _ 44 rfl B 3 i 1 el44.ht hi _ _ _ rfl HO1.out rfl ?_
    have c7 := block_cell HX1.out 7
    have hl := block_lt HX1.out
    simp only [List.getElem?_toArray, List.getElem?_cons_zero, List.getElem?_cons_succ] at c7
    have HF : Hid (w1.ownsRow B 3 1 (.slice vo zs.length vc) (zs ++ []).length (IV (zs ++ []))) := Lib.hid (by simpa using HO1.out)
    clear HPN HPO HO1 hn fin
    go_wp2_with fail
    go_loopw [0, 32] (fun o i wr => o = .slice vo zs.length vc ∧ i = .int .i64 0 ∧ wr = w1) (fun _ _ _ => 0)
    case atStart => exact ⟨rfl, rfl, rfl⟩
    case round =>
      obtain ⟨rfl, rfl, rfl⟩ := hrel
      go_wp2_with fail
      go_ret
      exact ⟨_, rfl, HF.out, HB1.out⟩
  · obtain ⟨n, rfl⟩ := List.length_eq_one_iff.1 h1
    have hp2 := HPO.out
    rcases hp2.2 with ⟨rfl, h⟩ | ⟨g, cap, cur, rfl, hg1, hg2, hg3, hg4, hg5, hg6⟩
    · cases h
    have hne : ∀ k, (Value.slice vo zs.length vc).ownBlock = some k → k < w.heap.size := HV.out
    refine wpList_pushm el44 rfl _ _ rfl B _ _ _ rfl HO1.out g 1 cap rfl (by decide) (by decide) [.int .i64 n] rfl (fun j u hj => ?_) rfl (by simp at hn; omega) (by omega) ?_
    · have := hp2.cells rfl j u (by simpa using hj)
      rw [adh] at this
      exact this
    intro gn cp w3 hown hgr hor hlt
    have HF : Hid (w3.ownsRow B 3 1 (.slice (some ⟨gn, 0, none⟩) (zs.length + 1) cp) (zs ++ [n]).length (IV (zs ++ [n]))) := Lib.hid (by rw [IV_append]; simpa using hown)
    have HB3 := Lib.hid (HB1.out.grown hgr (by omega) fun j hj => (HO1.out.lt j hj).1)
    have HX3 := Lib.hid ((hgr.block w.heap.size (by omega) (fun e => by have := hne _ e.symm; omega)).trans HX1.out)
    have c7 := block_cell HX3.out 7
    have hl := block_lt HX3.out
    simp only [List.getElem?_toArray, List.getElem?_cons_zero, List.getElem?_cons_succ] at c7
    clear hown hgr hor HPN HPO HO1 hn fin HX1 HB1 hp2 hg2 hg6
    go_wp2_with fail
    go_loopw [0, 32] (fun o i wr => o = .slice (some ⟨gn, 0, none⟩) (zs.length + 1) cp ∧ i = .int .i64 0 ∧ wr = w3) (fun _ _ _ => 0)
    case atStart => exact ⟨rfl, rfl, rfl⟩
    case round =>
      obtain ⟨rfl, rfl, rfl⟩ := hrel
      go_wp2_with fail
      go_ret
      exact ⟨_, rfl, HF.out, HB3.out⟩
end Go.Proofs.YtekfkieimdgfkaaGreat
/- What is proved here: with which numbers a policy that sets a field, or has parts, asks for a field, or sets it. Condition: it can be read. -/
namespace Go.Proofs.YtekfkieimdgfkaaGreat
open Go Go.RowKit
attribute [local go_sem] KW.cell KW.frozen
theorem pvals_no (pf pn fl : Int) : pvals 0 pf pn fl = [] := by unfold pvals; rw [if_neg (by simp)]
set_option maxRecDepth 100000 in
set_option maxHeartbeats 8000000 in
theorem val_leaf2 (fl f v : Int) (d : Nat) : ValC fl (d + 1) (.mk 2 0 0 0 f v []) (ownV (.mk 2 0 0 0 f v []) fl) := by
  intro u B v0 zs w hown hB hr hn
  obtain ⟨uo, uc, rfl, _, huc⟩ := hr.form
  have e : ownV (.mk 2 0 0 0 f v []) fl = if (f == fl) = true then [v] else [] := by
    unfold ownV
    simp only [Pol.k, Pol.pk, Pol.pf, Pol.pn, Pol.f, Pol.v, pvals_no, List.append_nil]
    simp
  rw [e] at hn ⊢
  have HX := Lib.hid (heap_alloc_new w (.cells #[.int .i64 2, .int .i64 0, .int .i64 0, .int .i64 0, .slice none 0 0, .int .i64 f, .int .i64 v, .slice uo 0 uc] 55))
  have HB := Lib.hid ((grow1 w (.cells #[.int .i64 2, .int .i64 0, .int .i64 0, .int .i64 0, .slice none 0 0, .int .i64 f, .int .i64 v, .slice uo 0 uc] 55)).mono hB)
  have HO := Lib.hid (own_kept hown (grow1 w (.cells #[.int .i64 2, .int .i64 0, .int .i64 0, .int .i64 0, .slice none 0 0, .int .i64 f, .int .i64 v, .slice uo 0 uc] 55)))
  have HV := Lib.hid (show ∀ g, v0.ownBlock = some g → g < w.heap.size from fun g hg => (hown.lt g hg).2)
  clear hr hown e
  unfold polV
  simp only [Pol.k, Pol.pk, Pol.pf, Pol.pn, Pol.f, Pol.v, Pol.l]
  obtain ⟨b, hb⟩ : ∃ b, (f == fl) = b := ⟨_, rfl⟩
  rw [hb] at hn ⊢
  obtain ⟨res, hres⟩ : ∃ l, l = zs ++ (if b = true then [v] else []) := ⟨_, rfl⟩
  have hzl : zs.length + 1 ≤ 1001 := by simp at hn; omega
  rw [← hres]
  obtain ⟨vo, vc, hvf, _, _⟩ := own_form HO.out
  subst hvf
  have hs0 : B ≤ w.heap.size := hB
  obtain ⟨i, zv, hi, _, hsz2, _, _, _⟩ := el44.ex
  have HI := Lib.hid hi
  clear hi hsz2
  cases b with
  | false =>
    have HRS := Lib.hid (show res = zs from by simpa using hres)
    clear hres hn
    go_enter Tryz.func58, Tryz.ntmps58
    go_wp2_with fail
    refine (pvals_c 0 0 0 fl _).mono ?_
    rintro e w1 ⟨pv, rfl, _, hpn, hb1⟩
    have hpv := hpn (pvals_no 0 0 fl)
    subst hpv
    have HB1 := Lib.hid (HB.out.trans (hb1.mono (by simp; omega)))
    have HX1 := Lib.hid ((hb1.block w.heap.size (by simp)).trans HX.out)
    have HO1 := Lib.hid (own_kept HO.out hb1)
    clear hb1 HB HX HO hpn
    go_wp2_with (at_builtin; refine stop_list ?_)
    refine Stop.go ?_
    refine wpList_append_own_none rfl _ _ 44 rfl B 3 i 1 el44.ht HI.out _ _ _ rfl HO1.out rfl ?_
    have c7 := block_cell HX1.out 7
    have hl := block_lt HX1.out
    simp only [List.getElem?_toArray, List.getElem?_cons_zero, List.getElem?_cons_succ] at c7
    have HF : Hid (w1.ownsRow B 3 1 (.slice vo zs.length vc) res.length (IV res)) := Lib.hid (by rw [HRS.out]; exact HO1.out)
    clear HO1
    go_wp2_with fail
    go_loopw [0, 32] (fun o i wr => o = .slice vo zs.length vc ∧ i = .int .i64 0 ∧ wr = w1) (fun _ _ _ => 0)
    case atStart => exact ⟨rfl, rfl, rfl⟩
    case round =>
      obtain ⟨rfl, rfl, rfl⟩ := hrel
      go_wp2_with fail
      go_ret
      exact ⟨_, rfl, HF.out, HB1.out⟩
  | true =>
    have HRS := Lib.hid (show res = zs ++ [v] from by simpa using hres)
    clear hres hn
    go_enter Tryz.func58, Tryz.ntmps58
    go_wp2_with (at_builtin; refine stop_list ?_)
    refine Stop.go (abs_list ?_)
    intro w2 e2
    have hb2 : Below (w.heap.size + 1) (w.alloc (.cells #[.int .i64 2, .int .i64 0, .int .i64 0, .int .i64 0, .slice none 0 0, .int .i64 f, .int .i64 v, .slice uo 0 uc] 55)) w2 := by
      rw [e2]
      have := grow1 (w.alloc (.cells #[.int .i64 2, .int .i64 0, .int .i64 0, .int .i64 0, .slice none 0 0, .int .i64 f, .int .i64 v, .slice uo 0 uc] 55)) (.cells #[.int .i64 v] 3)
      simpa using this
    have hg2 : w2.heap[w.heap.size + 1]? = some (.cells #[.int .i64 v] 3 (0, 0)) := by
      rw [e2]
      have := heap_alloc_new (w.alloc (.cells #[.int .i64 2, .int .i64 0, .int .i64 0, .int .i64 0, .slice none 0 0, .int .i64 f, .int .i64 v, .slice uo 0 uc] 55)) (.cells #[.int .i64 v] 3)
      simpa using this
    have hs2 : w2.heap.size = w.heap.size + 1 + 1 := by rw [e2]; simp
    have HB2 := Lib.hid (HB.out.trans (hb2.mono (by omega)))
    have HX2 := Lib.hid ((hb2.block w.heap.size (by omega)).trans HX.out)
    have HO2 := Lib.hid (own_kept HO.out (w' := w2) (by simpa using hb2))
    clear e2 hb2 HB HX HO
    refine wpList_push1 el44 rfl _ _ rfl B _ _ _ rfl HO2.out (w.heap.size + 1) rfl _ hg2 rfl rfl (by omega) (by omega) ?_
    intro gn cp w3 hown hgr hor hlt
    have HF := Lib.hid (show w3.ownsRow B 3 1 (.slice (some ⟨gn, 0, none⟩) (zs.length + 1) cp) (zs.length + 1) (IV (zs ++ [v])) from by rw [IV_append]; simpa using hown)
    have HB3 := Lib.hid (HB2.out.grown hgr (by omega) fun j hj => (HO2.out.lt j hj).1)
    have HX3 := Lib.hid ((hgr.block w.heap.size (by omega) (fun e => by have := HV.out _ e.symm; omega)).trans HX2.out)
    have hs3 := hgr.size
    have c1 := block_cell HX3.out 1
    have c2 := block_cell HX3.out 2
    have c3 := block_cell HX3.out 3
    have c4 := block_cell HX3.out 4
    have hl := block_lt HX3.out
    simp only [List.getElem?_toArray, List.getElem?_cons_zero, List.getElem?_cons_succ] at c1 c2 c3 c4
    clear hown hgr hor HX2 HB2 hg2 HO2
    go_wp2_with fail
    refine (pvals_c 0 0 0 fl _).mono ?_
    rintro e w4 ⟨pv, rfl, _, hpn, hb4⟩
    have hpv := hpn (pvals_no 0 0 fl)
    subst hpv
    have HB4 := Lib.hid (HB3.out.trans (hb4.mono (by omega)))
    have HX4 := Lib.hid ((hb4.block w.heap.size hl).trans HX3.out)
    have HF4 := Lib.hid (own_kept HF.out hb4)
    clear hb4 HB3 HX3 HF hpn c1 c2 c3 c4 hl
    go_wp2_with (at_builtin; refine stop_list ?_)
    refine Stop.go ?_
    refine wpList_append_own_none rfl _ _ 44 rfl B 3 i 1 el44.ht HI.out _ _ _ rfl HF4.out rfl ?_
    have c7 := block_cell HX4.out 7
    have hl := block_lt HX4.out
    simp only [List.getElem?_toArray, List.getElem?_cons_zero, List.getElem?_cons_succ] at c7
    have HF5 : Hid (w4.ownsRow B 3 1 (.slice (some ⟨gn, 0, none⟩) (zs.length + 1) cp) res.length (IV res)) := Lib.hid (by rw [HRS.out, List.length_append]; exact HF4.out)
    clear HF4
    go_wp2_with fail
    go_loopw [0, 32] (fun o i wr => o = .slice (some ⟨gn, 0, none⟩) (zs.length + 1) cp ∧ i = .int .i64 0 ∧ wr = w4) (fun _ _ _ => 0)
    case atStart => exact ⟨rfl, rfl, rfl⟩
    case round =>
      obtain ⟨rfl, rfl, rfl⟩ := hrel
      go_wp2_with fail
      go_ret
      exact ⟨_, rfl, HF5.out, HB4.out⟩
set_option maxRecDepth 100000 in
set_option maxHeartbeats 8000000 in
theorem val_step (fl k f v : Int) (L : List Pol) (d : Nat) (G : Pol → List Int) (hk : k = 3 ∨ k = 4) (IH : ∀ y ∈ L, ValC fl d y (G y)) : ValC fl (d + 1) (.mk k 0 0 0 f v L) (L.flatMap G) := by
  intro u B v0 zs w hown hB hr hn
  obtain ⟨uo, uc, rfl, hle, huc⟩ := hr.form
  unfold maxLen at huc
  simp only [Pol.l] at hr hle ⊢
  have HX := Lib.hid (heap_alloc_new w (.cells #[.int .i64 k, .int .i64 0, .int .i64 0, .int .i64 0, .slice none 0 0, .int .i64 f, .int .i64 v, .slice uo L.length uc] 55))
  have HB := Lib.hid ((grow1 w (.cells #[.int .i64 k, .int .i64 0, .int .i64 0, .int .i64 0, .slice none 0 0, .int .i64 f, .int .i64 v, .slice uo L.length uc] 55)).mono hB)
  have HO := Lib.hid (own_kept hown (grow1 w (.cells #[.int .i64 k, .int .i64 0, .int .i64 0, .int .i64 0, .slice none 0 0, .int .i64 f, .int .i64 v, .slice uo L.length uc] 55)))
  have HR := Lib.hid hr
  have HI := Lib.hid IH
  have HN := Lib.hid hn
  obtain ⟨res, hres⟩ : ∃ l, l = zs ++ L.flatMap G := ⟨_, rfl⟩
  rw [← hres]
  have HRS := Lib.hid hres
  have d2 : (k == 2) = false := by rw [beq_eq_false_iff_ne]; omega
  have hs0 : B ≤ w.heap.size := hB
  clear hr hown IH hn hk hres
  unfold polV
  simp only [Pol.k, Pol.pk, Pol.pf, Pol.pn, Pol.f, Pol.v]
  obtain ⟨vo, vc, hvf, _, _⟩ := own_form HO.out
  subst hvf
  obtain ⟨i, zv, hi, _, hsz2, _, _, _⟩ := el44.ex
  have HI44 := Lib.hid hi
  clear hi hsz2
  go_enter Tryz.func58, Tryz.ntmps58
  go_wp2_with fail
  refine (pvals_c 0 0 0 fl _).mono ?_
  rintro e w1 ⟨pv, rfl, _, hpn, hb1⟩
  have hpv := hpn (pvals_no 0 0 fl)
  subst hpv
  have hs1 := hb1.size
  simp only [World.size_alloc] at hs1
  have HB1 := Lib.hid (HB.out.trans (hb1.mono (by simp; omega)))
  have HX1 := Lib.hid ((hb1.block w.heap.size (by simp)).trans HX.out)
  have HO1 := Lib.hid (own_kept HO.out hb1)
  clear hb1 HB HX HO hpn
  go_wp2_with (at_builtin; refine stop_list ?_)
  refine Stop.go ?_
  refine wpList_append_own_none rfl _ _ 44 rfl B 3 i 1 el44.ht HI44.out _ _ _ rfl HO1.out rfl ?_
  have c7 := block_cell HX1.out 7
  have hl := block_lt HX1.out
  simp only [List.getElem?_toArray, List.getElem?_cons_zero, List.getElem?_cons_succ] at c7
  go_wp2_with fail
  clear c7 hl
  go_loopw [0, 32] (fun o i wr => ∃ (j : Nat) (vv : Value) (acc : List Int), i = .int .i64 j ∧ j ≤ L.length ∧ vv = o ∧ Hid (acc = zs ++ (L.take j).flatMap G) ∧ Hid (wr.ownsRow B 3 1 vv acc.length (IV acc)) ∧ Hid (Below B w wr)) (fun _ i _ => L.length - (intOf i).toNat)
  case atStart => exact ⟨0, _, zs, rfl, Nat.zero_le _, rfl, Lib.hid (by simp), HO1, HB1⟩
  case round =>
    obtain ⟨j, vv, acc, rfl, hj, rfl, HAC, HOr, HBr⟩ := hrel
    have hsr := HBr.out.size
    by_cases hlt : j < L.length
    · have hd : decide ((j : Int) < (L.length : Int)) = true := by simp; omega
      have hj2 : (j : Int) < (L.length : Int) := by omega
      have hrr : RdP (fun g => g < B) (d + 1) (.slice uo L.length uc) L wr := HR.out.blk fun g hg _ => HBr.out.block g hg
      obtain ⟨ge, cap, ue, hv, hge, hgB, hrange, hre⟩ := hrr.at_ j hlt
      cases hv
      have HRA := Lib.hid hrange
      have HRE := Lib.hid hre
      obtain ⟨eo, ec, rfl, _, _⟩ := hre.form
      clear hrange hre hrr
      have HT := Lib.hid (show (L.take (j + 1)).flatMap G = (L.take j).flatMap G ++ G L[j] by rw [List.take_succ_eq_append_getElem hlt, List.flatMap_append]; simp)
      obtain ⟨vo2, vc2, hvf, _, _⟩ := own_form HOr.out
      subst hvf
      go_wp2_with (refine stop_load 55 _ rfl ?_)
      obtain ⟨fs, hu55⟩ := und55
      refine Stop.go (wpList_load_mid rfl 55 _ rfl ge (j * 8) rfl (polL L[j] (.slice eo L[j].l.length ec)) _ HRA.out hu55 rfl inf55 ?_)
      have HU := Lib.hid hu55
      clear hu55
      go_wp2_with (refine stop_store 55 _ _ rfl ?_)
      refine Stop.go (abs_list ?_)
      intro w4 e4
      have hb4 : Below wr.heap.size wr w4 := by rw [e4]; exact grow1 wr _
      have hg4 : w4.heap[wr.heap.size]? = some (.cells #[.int .i64 0, .int .i64 0, .int .i64 0, .int .i64 0, .slice none 0 0, .int .i64 0, .int .i64 0, .slice none 0 0] 55 (0, 0)) := by rw [e4]; exact heap_alloc_new wr _
      have HB4 := Lib.hid hb4
      clear e4 hb4
      refine wpList_store_o rfl 55 _ _ rfl wr.heap.size _ rfl rfl 55 _ hg4 inf55 rfl rfl ?_
      intro w5 hg5 ho5
      have HB5 := Lib.hid (ho5.belowT HB4.out (Nat.le_refl _))
      have HG5 := Lib.hid hg5
      have hs5 := HB5.out.size
      clear hg4 hg5 ho5 HB4 HRA
      go_wp2_with (refine stop_load 55 _ rfl ?_)
      refine Stop.go (wpList_load_row rfl 55 _ rfl wr.heap.size rfl 55 _ (0, 0) _ HG5.out HU.out rfl inf55 ?_)
      go_wp2_with fail
      have hlen : (acc ++ G L[j]).length ≤ 1000 := by
        rw [HAC.out]
        have h1 := HN.out
        have h2 : (L.take (j + 1)).flatMap G ++ (L.drop (j + 1)).flatMap G = L.flatMap G := by rw [← List.flatMap_append, List.take_append_drop]
        rw [← h2, HT.out] at h1
        simp only [List.length_append] at h1 ⊢
        omega
      refine (HI.out L[j] (List.getElem_mem hlt) _ B _ _ _ (own_kept HOr.out HB5.out) (by omega) (HRE.out.kept HB5.out) hlen).mono ?_
      rintro e w6 ⟨v', rfl, hown6, hb6⟩
      obtain ⟨acc2, hacc2⟩ : ∃ l, l = acc ++ G L[j] := ⟨_, rfl⟩
      rw [← hacc2] at hown6
      have HO6 := Lib.hid hown6
      have HAC2 : Hid (acc2 = zs ++ (L.take (j + 1)).flatMap G) := Lib.hid (by rw [hacc2, HAC.out, HT.out, ← List.append_assoc])
      have HB6 : Hid (Below B w w6) := Lib.hid ((HBr.out.trans (HB5.out.mono (by omega))).trans hb6)
      clear hown6 hb6 hacc2 HAC HOr HBr HB5 HG5 HRE HT HU hlen
      go_wp2_with fail
      go_roundw
      case rel => exact ⟨j + 1, _, acc2, by go_num, hlt, rfl, HAC2, HO6, HB6⟩
      case measure => simp [intOf]; omega
    · obtain rfl : j = L.length := by omega
      have hd : decide ((L.length : Int) < (L.length : Int)) = false := by simp
      have HF : Hid (wr.ownsRow B 3 1 vv res.length (IV res)) := by
        have h1 := HAC.out
        rw [List.take_of_length_le (Nat.le_refl _), ← HRS.out] at h1
        rw [← h1]
        exact HOr
      clear HOr HAC
      go_wp2_with fail
      go_ret
      exact ⟨_, rfl, HF.out, HBr.out⟩
end Go.Proofs.YtekfkieimdgfkaaGreat
