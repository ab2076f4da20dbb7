/- What is proved here: all places that a topology names. Condition: it can be read. -/
import Derived.Test.YtekfkieimdgfkaaGreatT03
import Derived.Test.YtekfkieimdgfkaaGreatT04
import Derived.Test.YtekfkieimdgfkaaGreatT06
namespace Go.Proofs.YtekfkieimdgfkaaGreat
open Go Go.RowKit
attribute [local go_sem] KW.cell KW.frozen
def plL (l : Lk) : List Ho := [(l.1, l.2.1), (l.2.2.1, l.2.2.2.1)]
def plsL (ls : List Lk) : List Ho := ls.flatMap plL
theorem plsL_take (ls : List Lk) (k : Nat) (h : k < ls.length) : plsL (ls.take (k + 1)) = plsL (ls.take k) ++ plL ls[k] := by
  unfold plsL
  rw [List.take_succ_eq_append_getElem h, List.flatMap_append]
  simp
theorem plsL_len (ls : List Lk) : (plsL ls).length = 2 * ls.length := by
  induction ls with
  | nil => rfl
  | cons l ls ih =>
    show (plL l ++ plsL ls).length = _
    rw [List.length_append, ih, List.length_cons]
    simp [plL]
    omega
theorem el116 : Elem Tryz.prog 116 119 2 := elem_of (by kernel_rfl)
section
variable {P : Program}
/-- Some elements, alone in a row of their own at block g0, are appended. -/
theorem wpList_pushm {t e : TypeId} {z : Nat} (E : Elem P t e z) {ops : Array Oper} {rest : List Oper} {o : Oper} {a : Act} {w : World} {Q : Exit → Act → World → Prop} (hgd : o.guard = none) (s x : Operand)
    (ho : o.op = .call { callee := .builtin .append, args := #[s, x], argTypes := #[t, t] }) (base : Nat) (v : Value) (n : Nat) (xs : List Value) (hs : a.eval s = v) (hown : w.ownsRow base e z v n xs)
    (g0 m c : Nat) (hx : a.eval x = .slice (some ⟨g0, 0, none⟩) m c) (hm0 : 0 < m) (hm1 : m ≤ 1000) (news : List Value) (hl : news.length = m * z) (hnews : ∀ j u, news[j]? = some u → w.cell? ⟨g0, j, none⟩ = some u) (h1 : news.all (·.oneCell') = true) (h63 : n ≤ 1000000) (hbase : base ≤ w.heap.size)
    (h : ∀ g cap w', w'.ownsRow base e z (.slice (some ⟨g, 0, none⟩) (n + m) cap) (n + m) (xs ++ news) → w.grownBy w' v.ownBlock → (v.ownBlock = some g ∨ g = w.heap.size) → g < w'.heap.size → wpList P ops Q rest (a.put o.dst (.slice (some ⟨g, 0, none⟩) (n + m) cap)) w') :
    wpList P ops Q (o :: rest) a w := by
  obtain ⟨i, zv, hi, hz, hsz, hby, hzs, h0⟩ := E.ex
  have hm : (n + m) * i.bytes ≤ 1001000 * 1000 := Nat.mul_le_mul (by omega) hby
  refine wpList_append_lies w hgd s x t ho base e i zv z i.bytes E.ht hi hz hsz rfl hzs h0 v n xs hs hown ⟨g0, 0, none⟩ m c news hx hl (fun j u hj => ?_) (fun u hu => ?_) hm0 (by unfold maxLen; omega) (by omega) hbase w.heap.size rfl h
  · rw [adh]; exact hnews j u hj
  · exact (List.all_eq_true.1 h1) u hu
end
set_option maxRecDepth 100000 in
set_option maxHeartbeats 8000000 in
theorem places_c (n : Int) (lo ho : Option Addr) (lc hc : Nat) (ls : List Lk) (hs : List Ho) (w : World) (h1 : Rz 6 lkE (.slice lo ls.length lc) ls w) (h2 : Rz 2 hoE (.slice ho hs.length hc) hs w) (hl : ls.length ≤ 30) (hh : hs.length ≤ 12) :
    Calls Tryz.prog 52 #[.agg #[.int .i64 n, .slice lo ls.length lc, .slice ho hs.length hc]] w fun e w' => ∃ v, e = .returned v ∧ Rz 2 hoE v (plsL ls ++ hs) w' ∧ Below w.heap.size w w' := by
  obtain ⟨_, _, e1, l1, l2⟩ := h1.form
  obtain ⟨_, _, e2, l3, l4⟩ := h2.form
  cases e1
  cases e2
  have hb0 := grow1 w (.cells #[.int .i64 n, .slice lo ls.length lc, .slice ho hs.length hc] 25)
  have HB := Lib.hid hb0
  have H1 := Lib.hid h1
  have H2 := Lib.hid h2
  clear hb0 h1 h2
  go_enter Tryz.func52, Tryz.ntmps52
  go_wp2_with fail
  refine abs_wp ?_
  intro wb hwb
  have hb0 : Below w.heap.size w wb := by rw [hwb]; exact HB.out
  have hg0 : wb.heap[w.heap.size]? = some (.cells #[.int .i64 n, .slice lo ls.length lc, .slice ho hs.length hc] 25 (0, 0)) := by rw [hwb]; exact heap_alloc_new w _
  have hg : w.heap.size < wb.heap.size := by rw [hwb]; simp
  have K1 := Lib.hid (H1.out.kept hb0)
  have K2 := Lib.hid (H2.out.kept hb0)
  have HB0 := Lib.hid hb0
  have HG0 := Lib.hid hg0
  clear hwb HB H1 H2 hb0 hg0
  go_loopw [3, 11] (fun v i wr => ∃ (k : Nat) (vv : Value), i = .int .i64 k ∧ k ≤ ls.length ∧ vv = v ∧ Hid (wr.ownsRow wb.heap.size 119 2 vv (plsL (ls.take k)).length (flatR hoE (plsL (ls.take k)))) ∧ Hid (Below wb.heap.size wb wr)) (fun _ i _ => ls.length - (intOf i).toNat)
  case atStart => exact ⟨0, _, rfl, Nat.zero_le _, rfl, Lib.hid (own_nil _ _ _ _), Lib.hid (Below.refl _ _)⟩
  case round =>
    obtain ⟨k, vv, rfl, hk, rfl, HO, HBr⟩ := hrel
    have hs0 := HBr.out.size
    by_cases hlt : k < ls.length
    · have hd : decide ((k : Int) < (ls.length : Int)) = true := by simp; omega
      have hk2 : (k : Int) < (ls.length : Int) := by omega
      obtain ⟨a, rfl, z1, e0, e1, e2, e3, e4, e5⟩ := lk_at (K1.out.kept HBr.out) k hlt
      obtain ⟨vo, vc, rfl, _, _⟩ := own_form HO.out
      have hpl : plL ls[k] = [((ls[k]).1, (ls[k]).2.1), ((ls[k]).2.2.1, (ls[k]).2.2.2.1)] := rfl
      have HX := Lib.hid (plsL_take ls k hlt)
      have hln : (plsL (ls.take k)).length ≤ 60 := by rw [plsL_len, List.length_take]; omega
      rw [hpl] at HX
      have HX2 := Lib.hid HX.out
      clear hpl HX
      generalize (ls[k]).1 = x0 at *
      generalize (ls[k]).2.1 = x1 at *
      generalize (ls[k]).2.2.1 = x2 at *
      generalize (ls[k]).2.2.2.1 = x3 at *
      generalize (ls[k]).2.2.2.2.1 = x4 at *
      generalize (ls[k]).2.2.2.2.2 = x5 at *
      go_wp2_with (at_builtin; refine stop_list ?_)
      refine Stop.go (abs_list ?_)
      intro w2 e2
      have hs2 : w2.heap.size = wr.heap.size + 1 + 1 := by rw [e2]; simp
      have hb2 : Below wr.heap.size wr w2 := by rw [e2]; exact ((Below.refl _ _).alloc (Nat.le_refl _) _).alloc (by simp) _
      have hg2 : w2.heap[wr.heap.size + 1]? = some (.cells #[.int .i64 x0, .int .i64 x1, .int .i64 x2, .int .i64 x3] 119 (0, 0)) := by
        rw [e2]
        have := heap_alloc_new (wr.alloc (.cells #[.int .i64 x0, .int .i64 x1, .int .i64 x2, .int .i64 x3, .int .i64 x4, .int .i64 x5] 101)) (.cells #[.int .i64 x0, .int .i64 x1, .int .i64 x2, .int .i64 x3] 119)
        simpa using this
      have HO2 := Lib.hid (own_kept HO.out hb2)
      have HB2 := Lib.hid (HBr.out.trans (hb2.mono hs0))
      clear e2 HO hb2
      refine wpList_pushm el116 rfl _ _ rfl wb.heap.size _ _ _ rfl HO2.out (wr.heap.size + 1) 2 2 rfl (by decide) (by decide) [.int .i64 x0, .int .i64 x1, .int .i64 x2, .int .i64 x3] rfl (fun j u hj => by rw [block_cell hg2]; simpa using hj) rfl (by omega) (by omega) ?_
      intro g cap w3 hown hgr hor hlt3
      have HO3 : Hid (w3.ownsRow wb.heap.size 119 2 (.slice (some ⟨g, 0, none⟩) ((plsL (ls.take k)).length + 2) cap) (plsL (ls.take (k + 1))).length (flatR hoE (plsL (ls.take (k + 1))))) := by
        rw [HX2.out, flatR_append, List.length_append]
        exact Lib.hid hown
      have HB3 : Hid (Below wb.heap.size wb w3) := Lib.hid (below_grown HB2.out (by omega) hgr HO2.out)
      clear hown hgr hor HO2 HB2 hg2
      go_wp2_with fail
      go_roundw
      case rel => exact ⟨k + 1, _, by go_num, hlt, rfl, HO3, HB3⟩
      case measure => simp [intOf]; omega
    · obtain rfl : k = ls.length := by omega
      have hd : decide ((ls.length : Int) < (ls.length : Int)) = false := by simp
      have hgr := (HBr.out.block w.heap.size hg).trans HG0.out
      have c2 := block_cell hgr 2
      simp only [List.getElem?_toArray, List.getElem?_cons_zero, List.getElem?_cons_succ] at c2
      have hlr := block_lt hgr
      have HO1 : Hid (wr.ownsRow wb.heap.size 119 2 vv (plsL ls ++ hs.take 0).length (flatR hoE (plsL ls ++ hs.take 0))) := by
        have := HO.out
        rw [List.take_of_length_le (Nat.le_refl _)] at this
        simpa using Lib.hid this
      have HPL := Lib.hid (plsL_len ls)
      clear hgr HO
      go_wp2_with fail
      go_loopw [3, 32] (fun v i wr => ∃ (k : Nat) (vv : Value), i = .int .i64 k ∧ k ≤ hs.length ∧ vv = v ∧ Hid (wr.ownsRow wb.heap.size 119 2 vv (plsL ls ++ hs.take k).length (flatR hoE (plsL ls ++ hs.take k))) ∧ Hid (Below wb.heap.size wb wr)) (fun _ i _ => hs.length - (intOf i).toNat)
      case atStart => exact ⟨0, _, rfl, Nat.zero_le _, rfl, HO1, HBr⟩
      case round =>
        clear HO1 HBr hs0 c2 hlr
        obtain ⟨k, vv, rfl, hk, rfl, HO, HBr⟩ := hrel
        have hs0 := HBr.out.size
        by_cases hlt : k < hs.length
        · have hd : decide ((k : Int) < (hs.length : Int)) = true := by simp; omega
          have hk2 : (k : Int) < (hs.length : Int) := by omega
          obtain ⟨a, rfl, z1, e0, e1⟩ := ho_at (K2.out.kept HBr.out) k hlt
          obtain ⟨pre, hpre⟩ : ∃ p, p = plsL ls ++ hs.take k := ⟨_, rfl⟩
          have hto : plsL ls ++ hs.take (k + 1) = pre ++ [((hs[k]).1, (hs[k]).2)] := by rw [hpre, List.take_succ_eq_append_getElem hlt, List.append_assoc]
          have hln : pre.length ≤ 90 := by rw [hpre, List.length_append, List.length_take, HPL.out]; omega
          rw [← hpre] at HO
          obtain ⟨vo, vc, rfl, _, _⟩ := own_form HO.out
          have HX2 := Lib.hid hto
          clear hto hpre
          generalize (hs[k]).1 = x0 at *
          generalize (hs[k]).2 = x1 at *
          go_wp2_with (at_builtin; refine stop_list ?_)
          refine Stop.go (abs_list ?_)
          intro w2 e2
          have hs2 : w2.heap.size = wr.heap.size + 1 + 1 := by rw [e2]; simp
          have hb2 : Below wr.heap.size wr w2 := by rw [e2]; exact ((Below.refl _ _).alloc (Nat.le_refl _) _).alloc (by simp) _
          have hg2 : w2.heap[wr.heap.size + 1]? = some (.cells #[.int .i64 x0, .int .i64 x1] 119 (0, 0)) := by
            rw [e2]
            have := heap_alloc_new (wr.alloc (.cells #[.int .i64 x0, .int .i64 x1] 49)) (.cells #[.int .i64 x0, .int .i64 x1] 119)
            simpa using this
          have HO2 := Lib.hid (own_kept HO.out hb2)
          have HB2 := Lib.hid (HBr.out.trans (hb2.mono hs0))
          clear e2 HO hb2
          refine wpList_pushm el116 rfl _ _ rfl wb.heap.size _ _ _ rfl HO2.out (wr.heap.size + 1) 1 1 rfl (by decide) (by decide) [.int .i64 x0, .int .i64 x1] rfl (fun j u hj => by rw [block_cell hg2]; simpa using hj) rfl (by omega) (by omega) ?_
          intro g cap w3 hown hgr hor hlt3
          have HO3 : Hid (w3.ownsRow wb.heap.size 119 2 (.slice (some ⟨g, 0, none⟩) (pre.length + 1) cap) (plsL ls ++ hs.take (k + 1)).length (flatR hoE (plsL ls ++ hs.take (k + 1)))) := by
            rw [HX2.out, flatR_append, List.length_append]
            exact Lib.hid hown
          have HB3 : Hid (Below wb.heap.size wb w3) := Lib.hid (below_grown HB2.out (by omega) hgr HO2.out)
          clear hown hgr hor HO2 HB2 hg2
          go_wp2_with fail
          go_roundw
          case rel => exact ⟨k + 1, _, by go_num, hlt, rfl, HO3, HB3⟩
          case measure => simp [intOf]; omega
        · obtain rfl : k = hs.length := by omega
          have hd : decide ((hs.length : Int) < (hs.length : Int)) = false := by simp
          have HR : Hid (Rz 2 hoE vv (plsL ls ++ hs) wr) := by
            have := HO.out
            rw [List.take_of_length_le (Nat.le_refl _)] at this
            exact Lib.hid (Rz.of_own (enc := hoE) (fun _ => rfl) (own_mono this (Nat.zero_le _)))
          have HF := Lib.hid (HB0.out.trans (HBr.out.mono (Nat.le_of_lt hg)))
          clear HO HBr
          go_wp2_with fail
          go_ret
          exact ⟨_, rfl, HR.out, HF.out⟩
end Go.Proofs.YtekfkieimdgfkaaGreat
/- What is proved here: what IndexFunc and ContainsFunc answer of numbers, links and hosts. Condition: what is asked of each is known. -/
namespace Go.Proofs.YtekfkieimdgfkaaGreat
open Go Go.RowKit
attribute [local go_sem] KW.cell KW.frozen
/-- A place, or -1 where there is none. -/
def IdxP (b : Bool) (w : World) (e : Ending) (w' : World) : Prop := ∃ r : Int, e = .returned (.int .i64 r) ∧ (b = false → r = -1) ∧ (b = true → 0 ≤ r) ∧ r ≤ 9223372036854775807 ∧ Below w.heap.size w w'

set_option maxRecDepth 100000 in
set_option maxHeartbeats 4000000 in
theorem idx57_c (v : Value) (xs : List Int) (g : FuncId) (c : Value) (p : Int → Bool) (w : World) (hr : Rz 1 INT v xs w) (hf : ∀ (ar : Array Value) (w : World), (callFunc g ar).run Tryz.prog w = .ok (.enter g ar) w) (hc : ∀ x ∈ xs, ∀ w', Below w.heap.size w w' → Ret g #[.int .i64 x, c] (.bool (p x)) w') :
    Calls Tryz.prog 57 #[v, .func (.func g) #[] #[c]] w (IdxP (xs.any p) w) := by
  obtain ⟨uo, uc, rfl, hle, huc⟩ := hr.form
  have HR := Lib.hid hr
  have HC := Lib.hid hc
  clear hr hc
  go_enter Tryz.func57, Tryz.ntmps57
  go_wp2_with fail
  go_loopw [8] (fun i wr => ∃ k : Nat, i = .int .i64 k ∧ k ≤ xs.length ∧ Hid (∀ j (h : j < xs.length), j < k → p xs[j] = false) ∧ Hid (Below w.heap.size w wr)) (fun i _ => xs.length - (intOf i).toNat)
  case atStart => exact ⟨0, rfl, Nat.zero_le _, Lib.hid (fun j _ h => absurd h (by omega)), Lib.hid (Below.refl _ _)⟩
  case round =>
    obtain ⟨k, rfl, hk, HA, HB2⟩ := hrel
    by_cases hlt : k < xs.length
    · have hd : decide ((k : Int) < (xs.length : Int)) = true := by simp; omega
      have hk2 : (k : Int) < (xs.length : Int) := by omega
      obtain ⟨a, rfl, z1, e0⟩ := int_at (HR.out.kept HB2.out) k hlt
      have HX := Lib.hid (HC.out xs[k] (List.getElem_mem hlt))
      obtain ⟨b, hb⟩ : ∃ b, p xs[k] = b := ⟨_, rfl⟩
      rw [hb] at HX
      have HT : Hid (b = true → xs.any p = true) := Lib.hid (fun h => List.any_eq_true.2 ⟨xs[k], List.getElem_mem hlt, by rw [hb]; exact h⟩)
      have HF : Hid (b = false → ∀ j (h : j < xs.length), j < k + 1 → p xs[j] = false) := Lib.hid (fun hbf j hj h => by
        by_cases hjk : j = k
        · subst hjk; rw [hb]; exact hbf
        · exact HA.out j hj (by omega))
      clear hb HA
      generalize xs[k] = x0 at *
      unfold Ret at HX
      go_wp2_with fail
      refine (HX.out _ HB2.out).mono ?_
      rintro e w4 ⟨rfl, hb4⟩
      have HB4 : Hid (Below w.heap.size w w4) := Lib.hid (HB2.out.trans (hb4.mono HB2.out.size))
      clear hb4 HX
      cases b with
      | true =>
        have HAny := Lib.hid (HT.out rfl)
        clear HT HF
        go_wp2_with fail
        go_ret
        exact ⟨k, rfl, fun h => (by rw [HAny.out] at h; cases h), fun _ => by omega, by omega, HB4.out⟩
      | false =>
        have HA2 := Lib.hid (HF.out rfl)
        clear HT HF
        go_wp2_with fail
        go_roundw
        case rel => exact ⟨k + 1, by go_num, hlt, HA2, HB4⟩
        case measure => simp [intOf]; omega
    · obtain rfl : k = xs.length := by omega
      have hd : decide ((xs.length : Int) < (xs.length : Int)) = false := by simp
      have HAny : Hid (xs.any p = false) := Lib.hid (by
        rw [List.any_eq_false]
        intro x hx
        obtain ⟨j, hj, rfl⟩ := List.mem_iff_getElem.1 hx
        simpa using HA.out j hj hj)
      go_wp2_with fail
      go_ret
      exact ⟨-1, rfl, fun _ => rfl, fun h => (by rw [HAny.out] at h; cases h), by omega, HB2.out⟩
set_option maxHeartbeats 4000000 in
theorem cont30_c (v : Value) (xs : List Int) (g : FuncId) (c : Value) (p : Int → Bool) (w : World) (hr : Rz 1 INT v xs w) (hf : ∀ (ar : Array Value) (w : World), (callFunc g ar).run Tryz.prog w = .ok (.enter g ar) w) (hc : ∀ x ∈ xs, ∀ w', Below w.heap.size w w' → Ret g #[.int .i64 x, c] (.bool (p x)) w') :
    Ret 30 #[v, .func (.func g) #[] #[c]] (.bool (xs.any p)) w := by
  have X := Lib.hid (idx57_c v xs g c p w hr hf hc)
  obtain ⟨b, hb⟩ : ∃ b, xs.any p = b := ⟨_, rfl⟩
  rw [hb] at X ⊢
  clear hr hc hb
  unfold Ret
  go_enter Tryz.func30, Tryz.ntmps30
  go_wp2_with fail
  refine X.out.mono ?_
  rintro e w1 ⟨r, rfl, h1, h2, h3, hb⟩
  have hd : decide ((0 : Int) ≤ r) = b := by
    cases b with
    | false => have := h1 rfl; subst this; rfl
    | true => simpa using h2 rfl
  have HB := Lib.hid hb
  clear hb X h1 h2
  go_wp2_with fail
  go_ret
  exact ⟨by simp, HB.out⟩

set_option maxRecDepth 100000 in
set_option maxHeartbeats 4000000 in
theorem idx84_c (v : Value) (xs : List Lk) (g : FuncId) (c : Value) (p : Lk → Bool) (w : World) (hr : Rz 6 lkE v xs w) (hf : ∀ (ar : Array Value) (w : World), (callFunc g ar).run Tryz.prog w = .ok (.enter g ar) w) (hc : ∀ x ∈ xs, ∀ w', Below w.heap.size w w' → Ret g #[.agg #[.int .i64 x.1, .int .i64 x.2.1, .int .i64 x.2.2.1, .int .i64 x.2.2.2.1, .int .i64 x.2.2.2.2.1, .int .i64 x.2.2.2.2.2], c] (.bool (p x)) w') :
    Calls Tryz.prog 84 #[v, .func (.func g) #[] #[c]] w (IdxP (xs.any p) w) := by
  obtain ⟨uo, uc, rfl, hle, huc⟩ := hr.form
  have HR := Lib.hid hr
  have HC := Lib.hid hc
  clear hr hc
  go_enter Tryz.func84, Tryz.ntmps84
  go_wp2_with fail
  go_loopw [8] (fun i wr => ∃ k : Nat, i = .int .i64 k ∧ k ≤ xs.length ∧ Hid (∀ j (h : j < xs.length), j < k → p xs[j] = false) ∧ Hid (Below w.heap.size w wr)) (fun i _ => xs.length - (intOf i).toNat)
  case atStart => exact ⟨0, rfl, Nat.zero_le _, Lib.hid (fun j _ h => absurd h (by omega)), Lib.hid (Below.refl _ _)⟩
  case round =>
    obtain ⟨k, rfl, hk, HA, HB2⟩ := hrel
    by_cases hlt : k < xs.length
    · have hd : decide ((k : Int) < (xs.length : Int)) = true := by simp; omega
      have hk2 : (k : Int) < (xs.length : Int) := by omega
      obtain ⟨a, rfl, z1, e0, e1, e2, e3, e4, e5⟩ := lk_at (HR.out.kept HB2.out) k hlt
      have HX := Lib.hid (HC.out xs[k] (List.getElem_mem hlt))
      obtain ⟨b, hb⟩ : ∃ b, p xs[k] = b := ⟨_, rfl⟩
      rw [hb] at HX
      have HT : Hid (b = true → xs.any p = true) := Lib.hid (fun h => List.any_eq_true.2 ⟨xs[k], List.getElem_mem hlt, by rw [hb]; exact h⟩)
      have HF : Hid (b = false → ∀ j (h : j < xs.length), j < k + 1 → p xs[j] = false) := Lib.hid (fun hbf j hj h => by
        by_cases hjk : j = k
        · subst hjk; rw [hb]; exact hbf
        · exact HA.out j hj (by omega))
      clear hb HA
      generalize (xs[k]).1 = x0 at *
      generalize (xs[k]).2.1 = x1 at *
      generalize (xs[k]).2.2.1 = x2 at *
      generalize (xs[k]).2.2.2.1 = x3 at *
      generalize (xs[k]).2.2.2.2.1 = x4 at *
      generalize (xs[k]).2.2.2.2.2 = x5 at *
      unfold Ret at HX
      go_wp2_with fail
      refine (HX.out _ HB2.out).mono ?_
      rintro e w4 ⟨rfl, hb4⟩
      have HB4 : Hid (Below w.heap.size w w4) := Lib.hid (HB2.out.trans (hb4.mono HB2.out.size))
      clear hb4 HX
      cases b with
      | true =>
        have HAny := Lib.hid (HT.out rfl)
        clear HT HF
        go_wp2_with fail
        go_ret
        exact ⟨k, rfl, fun h => (by rw [HAny.out] at h; cases h), fun _ => by omega, by omega, HB4.out⟩
      | false =>
        have HA2 := Lib.hid (HF.out rfl)
        clear HT HF
        go_wp2_with fail
        go_roundw
        case rel => exact ⟨k + 1, by go_num, hlt, HA2, HB4⟩
        case measure => simp [intOf]; omega
    · obtain rfl : k = xs.length := by omega
      have hd : decide ((xs.length : Int) < (xs.length : Int)) = false := by simp
      have HAny : Hid (xs.any p = false) := Lib.hid (by
        rw [List.any_eq_false]
        intro x hx
        obtain ⟨j, hj, rfl⟩ := List.mem_iff_getElem.1 hx
        simpa using HA.out j hj hj)
      go_wp2_with fail
      go_ret
      exact ⟨-1, rfl, fun _ => rfl, fun h => (by rw [HAny.out] at h; cases h), by omega, HB2.out⟩
set_option maxHeartbeats 4000000 in
theorem cont61_c (v : Value) (xs : List Lk) (g : FuncId) (c : Value) (p : Lk → Bool) (w : World) (hr : Rz 6 lkE v xs w) (hf : ∀ (ar : Array Value) (w : World), (callFunc g ar).run Tryz.prog w = .ok (.enter g ar) w) (hc : ∀ x ∈ xs, ∀ w', Below w.heap.size w w' → Ret g #[.agg #[.int .i64 x.1, .int .i64 x.2.1, .int .i64 x.2.2.1, .int .i64 x.2.2.2.1, .int .i64 x.2.2.2.2.1, .int .i64 x.2.2.2.2.2], c] (.bool (p x)) w') :
    Ret 61 #[v, .func (.func g) #[] #[c]] (.bool (xs.any p)) w := by
  have X := Lib.hid (idx84_c v xs g c p w hr hf hc)
  obtain ⟨b, hb⟩ : ∃ b, xs.any p = b := ⟨_, rfl⟩
  rw [hb] at X ⊢
  clear hr hc hb
  unfold Ret
  go_enter Tryz.func61, Tryz.ntmps61
  go_wp2_with fail
  refine X.out.mono ?_
  rintro e w1 ⟨r, rfl, h1, h2, h3, hb⟩
  have hd : decide ((0 : Int) ≤ r) = b := by
    cases b with
    | false => have := h1 rfl; subst this; rfl
    | true => simpa using h2 rfl
  have HB := Lib.hid hb
  clear hb X h1 h2
  go_wp2_with fail
  go_ret
  exact ⟨by simp, HB.out⟩

set_option maxRecDepth 100000 in
set_option maxHeartbeats 4000000 in
theorem idx85_c (v : Value) (xs : List Ho) (g : FuncId) (c : Value) (p : Ho → Bool) (w : World) (hr : Rz 2 hoE v xs w) (hf : ∀ (ar : Array Value) (w : World), (callFunc g ar).run Tryz.prog w = .ok (.enter g ar) w) (hc : ∀ x ∈ xs, ∀ w', Below w.heap.size w w' → Ret g #[.agg #[.int .i64 x.1, .int .i64 x.2], c] (.bool (p x)) w') :
    Calls Tryz.prog 85 #[v, .func (.func g) #[] #[c]] w (IdxP (xs.any p) w) := by
  obtain ⟨uo, uc, rfl, hle, huc⟩ := hr.form
  have HR := Lib.hid hr
  have HC := Lib.hid hc
  clear hr hc
  go_enter Tryz.func85, Tryz.ntmps85
  go_wp2_with fail
  go_loopw [8] (fun i wr => ∃ k : Nat, i = .int .i64 k ∧ k ≤ xs.length ∧ Hid (∀ j (h : j < xs.length), j < k → p xs[j] = false) ∧ Hid (Below w.heap.size w wr)) (fun i _ => xs.length - (intOf i).toNat)
  case atStart => exact ⟨0, rfl, Nat.zero_le _, Lib.hid (fun j _ h => absurd h (by omega)), Lib.hid (Below.refl _ _)⟩
  case round =>
    obtain ⟨k, rfl, hk, HA, HB2⟩ := hrel
    by_cases hlt : k < xs.length
    · have hd : decide ((k : Int) < (xs.length : Int)) = true := by simp; omega
      have hk2 : (k : Int) < (xs.length : Int) := by omega
      obtain ⟨a, rfl, z1, e0, e1⟩ := ho_at (HR.out.kept HB2.out) k hlt
      have HX := Lib.hid (HC.out xs[k] (List.getElem_mem hlt))
      obtain ⟨b, hb⟩ : ∃ b, p xs[k] = b := ⟨_, rfl⟩
      rw [hb] at HX
      have HT : Hid (b = true → xs.any p = true) := Lib.hid (fun h => List.any_eq_true.2 ⟨xs[k], List.getElem_mem hlt, by rw [hb]; exact h⟩)
      have HF : Hid (b = false → ∀ j (h : j < xs.length), j < k + 1 → p xs[j] = false) := Lib.hid (fun hbf j hj h => by
        by_cases hjk : j = k
        · subst hjk; rw [hb]; exact hbf
        · exact HA.out j hj (by omega))
      clear hb HA
      generalize (xs[k]).1 = x0 at *
      generalize (xs[k]).2 = x1 at *
      unfold Ret at HX
      go_wp2_with fail
      refine (HX.out _ HB2.out).mono ?_
      rintro e w4 ⟨rfl, hb4⟩
      have HB4 : Hid (Below w.heap.size w w4) := Lib.hid (HB2.out.trans (hb4.mono HB2.out.size))
      clear hb4 HX
      cases b with
      | true =>
        have HAny := Lib.hid (HT.out rfl)
        clear HT HF
        go_wp2_with fail
        go_ret
        exact ⟨k, rfl, fun h => (by rw [HAny.out] at h; cases h), fun _ => by omega, by omega, HB4.out⟩
      | false =>
        have HA2 := Lib.hid (HF.out rfl)
        clear HT HF
        go_wp2_with fail
        go_roundw
        case rel => exact ⟨k + 1, by go_num, hlt, HA2, HB4⟩
        case measure => simp [intOf]; omega
    · obtain rfl : k = xs.length := by omega
      have hd : decide ((xs.length : Int) < (xs.length : Int)) = false := by simp
      have HAny : Hid (xs.any p = false) := Lib.hid (by
        rw [List.any_eq_false]
        intro x hx
        obtain ⟨j, hj, rfl⟩ := List.mem_iff_getElem.1 hx
        simpa using HA.out j hj hj)
      go_wp2_with fail
      go_ret
      exact ⟨-1, rfl, fun _ => rfl, fun h => (by rw [HAny.out] at h; cases h), by omega, HB2.out⟩
set_option maxHeartbeats 4000000 in
theorem cont63_c (v : Value) (xs : List Ho) (g : FuncId) (c : Value) (p : Ho → Bool) (w : World) (hr : Rz 2 hoE v xs w) (hf : ∀ (ar : Array Value) (w : World), (callFunc g ar).run Tryz.prog w = .ok (.enter g ar) w) (hc : ∀ x ∈ xs, ∀ w', Below w.heap.size w w' → Ret g #[.agg #[.int .i64 x.1, .int .i64 x.2], c] (.bool (p x)) w') :
    Ret 63 #[v, .func (.func g) #[] #[c]] (.bool (xs.any p)) w := by
  have X := Lib.hid (idx85_c v xs g c p w hr hf hc)
  obtain ⟨b, hb⟩ : ∃ b, xs.any p = b := ⟨_, rfl⟩
  rw [hb] at X ⊢
  clear hr hc hb
  unfold Ret
  go_enter Tryz.func63, Tryz.ntmps63
  go_wp2_with fail
  refine X.out.mono ?_
  rintro e w1 ⟨r, rfl, h1, h2, h3, hb⟩
  have hd : decide ((0 : Int) ≤ r) = b := by
    cases b with
    | false => have := h1 rfl; subst this; rfl
    | true => simpa using h2 rfl
  have HB := Lib.hid hb
  clear hb X h1 h2
  go_wp2_with fail
  go_ret
  exact ⟨by simp, HB.out⟩
end Go.Proofs.YtekfkieimdgfkaaGreat
/- What is proved here: whether a topology names a port. Condition: it can be read. -/
namespace Go.Proofs.YtekfkieimdgfkaaGreat
open Go Go.RowKit
attribute [local go_sem] KW.cell KW.frozen
theorem call_62 (ar : Array Value) (w : World) : (callFunc 62 ar).run Tryz.prog w = .ok (.enter 62 ar) w := by kernel_rfl
theorem call_64 (ar : Array Value) (w : World) : (callFunc 64 ar).run Tryz.prog w = .ok (.enter 64 ar) w := by kernel_rfl
theorem call_32 (ar : Array Value) (w : World) : (callFunc 32 ar).run Tryz.prog w = .ok (.enter 32 ar) w := by kernel_rfl
theorem call_34 (ar : Array Value) (w : World) : (callFunc 34 ar).run Tryz.prog w = .ok (.enter 34 ar) w := by kernel_rfl
def nl (port : Int) (l : Lk) : Bool := (l.2.1 == port) || (l.2.2.2.1 == port)
def nh (port : Int) (h : Ho) : Bool := h.2 == port
def namedB (ls : List Lk) (hs : List Ho) (port : Int) : Bool := ls.any (nl port) || hs.any (nh port)
abbrev topoA (n : Int) (lo ho : Option Addr) (ln lc hn hc : Nat) : Array Value := #[.int .i64 n, .slice lo ln lc, .slice ho hn hc]
set_option maxHeartbeats 4000000 in
theorem n62_c (x : Lk) (c : Nat) (port : Int) (w : World) (hc : w.heap[c]? = some (.cells #[.int .i64 port] 3 (0, 0))) :
    Ret 62 #[.agg #[.int .i64 x.1, .int .i64 x.2.1, .int .i64 x.2.2.1, .int .i64 x.2.2.2.1, .int .i64 x.2.2.2.2.1, .int .i64 x.2.2.2.2.2], .pointer (some ⟨c, 0, none⟩)] (.bool (nl port x)) w := by
  obtain ⟨x0, x1, x2, x3, x4, x5⟩ := x
  have e : nl port (x0, x1, x2, x3, x4, x5) = ((x1 == port) || (x3 == port)) := rfl
  rw [e]
  dsimp only
  obtain ⟨b1, hb1⟩ : ∃ b, (x1 == port) = b := ⟨_, rfl⟩
  obtain ⟨b2, hb2⟩ : ∃ b, (x3 == port) = b := ⟨_, rfl⟩
  rw [hb1, hb2]
  have HB := Lib.hid (grow1 w (.cells #[.int .i64 x0, .int .i64 x1, .int .i64 x2, .int .i64 x3, .int .i64 x4, .int .i64 x5] 101))
  have c0 := block_cell hc 0
  have hlc := block_lt hc
  have hne : w.heap.size ≠ c := by omega
  have hne2 : c ≠ w.heap.size := by omega
  simp only [List.getElem?_toArray, List.getElem?_cons_zero] at c0
  have cx : (w.alloc (.cells #[.int .i64 x0, .int .i64 x1, .int .i64 x2, .int .i64 x3, .int .i64 x4, .int .i64 x5] 101)).cell? ⟨c, 0, none⟩ = some (.int .i64 port) := by rw [HB.out.cell (p := ⟨c, 0, none⟩) hlc]; exact c0
  clear hc e
  unfold Ret
  cases b1
  all_goals
    go_enter Tryz.func62, Tryz.ntmps62
    go_wp2_with fail
    go_ret
    exact ⟨by simp, HB.out⟩
set_option maxHeartbeats 4000000 in
theorem n64_c (x : Ho) (c : Nat) (port : Int) (w : World) (hc : w.heap[c]? = some (.cells #[.int .i64 port] 3 (0, 0))) :
    Ret 64 #[.agg #[.int .i64 x.1, .int .i64 x.2], .pointer (some ⟨c, 0, none⟩)] (.bool (nh port x)) w := by
  obtain ⟨x0, x1⟩ := x
  have e : nh port (x0, x1) = (x1 == port) := rfl
  rw [e]
  dsimp only
  obtain ⟨b1, hb1⟩ : ∃ b, (x1 == port) = b := ⟨_, rfl⟩
  rw [hb1]
  have HB := Lib.hid (grow1 w (.cells #[.int .i64 x0, .int .i64 x1] 49))
  have c0 := block_cell hc 0
  have hlc := block_lt hc
  have hne : w.heap.size ≠ c := by omega
  have hne2 : c ≠ w.heap.size := by omega
  simp only [List.getElem?_toArray, List.getElem?_cons_zero] at c0
  have cx : (w.alloc (.cells #[.int .i64 x0, .int .i64 x1] 49)).cell? ⟨c, 0, none⟩ = some (.int .i64 port) := by rw [HB.out.cell (p := ⟨c, 0, none⟩) hlc]; exact c0
  clear hc e
  unfold Ret
  go_enter Tryz.func64, Tryz.ntmps64
  go_wp2_with fail
  go_ret
  exact ⟨by simp, HB.out⟩
set_option maxRecDepth 100000 in
set_option maxHeartbeats 8000000 in
theorem named_c (n port : Int) (lo ho : Option Addr) (lc hc : Nat) (ls : List Lk) (hs : List Ho) (w : World) (h1 : Rz 6 lkE (.slice lo ls.length lc) ls w) (h2 : Rz 2 hoE (.slice ho hs.length hc) hs w) :
    Ret 33 #[.agg (topoA n lo ho ls.length lc hs.length hc), .int .i64 port] (.bool (namedB ls hs port)) w := by
  have HB : Hid (Below w.heap.size w ((w.alloc (.cells (topoA n lo ho ls.length lc hs.length hc) 25)).alloc (.cells #[.int .i64 port] 3))) := Lib.hid (((Below.refl _ _).alloc (Nat.le_refl _) _).alloc (by simp) _)
  have HP : Hid (((w.alloc (.cells (topoA n lo ho ls.length lc hs.length hc) 25)).alloc (.cells #[.int .i64 port] 3)).heap[w.heap.size + 1]? = some (.cells #[.int .i64 port] 3 (0, 0))) := by
    have := heap_alloc_new (w.alloc (.cells (topoA n lo ho ls.length lc hs.length hc) 25)) (.cells #[.int .i64 port] 3)
    exact Lib.hid (by simpa using this)
  have HT : Hid (((w.alloc (.cells (topoA n lo ho ls.length lc hs.length hc) 25)).alloc (.cells #[.int .i64 port] 3)).heap[w.heap.size]? = some (.cells (topoA n lo ho ls.length lc hs.length hc) 25 (0, 0))) :=
    Lib.hid ((Below.heap_alloc _ _ _ (by simp)).trans (heap_alloc_new w _))
  have X1 := Lib.hid (cont61_c (.slice lo ls.length lc) ls 62 (.pointer (some ⟨w.heap.size + 1, 0, none⟩)) (nl port) _ (h1.kept HB.out) call_62 (fun x _ w' hb => n62_c x _ port w' ((hb.block _ (block_lt HP.out)).trans HP.out)))
  have H2 := Lib.hid h2
  have e : namedB ls hs port = (ls.any (nl port) || hs.any (nh port)) := rfl
  rw [e]
  obtain ⟨b1, hb1⟩ : ∃ b, ls.any (nl port) = b := ⟨_, rfl⟩
  rw [hb1] at X1 ⊢
  obtain ⟨b2, hb2⟩ : ∃ b, hs.any (nh port) = b := ⟨_, rfl⟩
  rw [hb2]
  have HB2e := Lib.hid hb2
  clear hb2
  have hmf : ∀ (fn : Fn) (first cap : Array Value) (w : World), (Instr.makeFunc fn first cap).run Tryz.prog w = .ok (.func fn first cap) w := fun _ _ _ _ => rfl
  clear h1 h2 e hb1
  unfold Ret at *
  cases b1 with
  | true =>
    go_enter Tryz.func33, Tryz.ntmps33
    go_wp2_with fail
    refine X1.out.mono ?_
    rintro e w1 ⟨rfl, hb⟩
    have HB1 := Lib.hid (HB.out.trans (hb.mono (by simp; omega)))
    clear hb X1 HB HT HP
    go_wp2_with fail
    go_ret
    exact ⟨by simp, HB1.out⟩
  | false =>
    go_enter Tryz.func33, Tryz.ntmps33
    go_wp2_with fail
    refine X1.out.mono ?_
    rintro e w1 ⟨rfl, hb⟩
    have HB1 := Lib.hid (HB.out.trans (hb.mono (by simp; omega)))
    have HT1 := Lib.hid ((hb.block w.heap.size (by simp; omega)).trans HT.out)
    have HP1 := Lib.hid ((hb.block (w.heap.size + 1) (by simp)).trans HP.out)
    have c2 := block_cell HT1.out 2
    have hl := block_lt HT1.out
    simp only [List.getElem?_toArray, List.getElem?_cons_zero, List.getElem?_cons_succ] at c2
    have X2 := Lib.hid (cont63_c (.slice ho hs.length hc) hs 64 (.pointer (some ⟨w.heap.size + 1, 0, none⟩)) (nh port) w1 (H2.out.kept HB1.out) call_64 (fun x _ w' hb => n64_c x _ port w' ((hb.block _ (block_lt HP1.out)).trans HP1.out)))
    rw [HB2e.out] at X2
    clear hb X1 HB HT HP HB2e
    unfold Ret at X2
    go_wp2_with fail
    refine X2.out.mono ?_
    rintro e w2 ⟨rfl, hb⟩
    have HB2 := Lib.hid (HB1.out.trans (hb.mono HB1.out.size))
    clear hb X2 HB1
    go_wp2_with fail
    go_ret
    exact ⟨by simp, HB2.out⟩
set_option maxRecDepth 100000 in
set_option maxHeartbeats 4000000 in
theorem n32_c (n p : Int) (c : Nat) (lo ho : Option Addr) (lc hc : Nat) (ls : List Lk) (hs : List Ho) (w : World) (h1 : Rz 6 lkE (.slice lo ls.length lc) ls w) (h2 : Rz 2 hoE (.slice ho hs.length hc) hs w) (hg : w.heap[c]? = some (.cells (topoA n lo ho ls.length lc hs.length hc) 25 (0, 0))) :
    Ret 32 #[.int .i64 p, .pointer (some ⟨c, 0, none⟩)] (.bool (!namedB ls hs p)) w := by
  have X := Lib.hid (named_c n p lo ho lc hc ls hs w h1 h2)
  obtain ⟨b, hb⟩ : ∃ b, namedB ls hs p = b := ⟨_, rfl⟩
  rw [hb] at X ⊢
  have c0 := block_cell hg 0
  have c1 := block_cell hg 1
  have c2 := block_cell hg 2
  have hl := block_lt hg
  simp only [List.getElem?_toArray, List.getElem?_cons_zero, List.getElem?_cons_succ] at c0 c1 c2
  have hnot : ∀ (x : Bool) (w : World), (Op.unary .not (.bool x)).run Tryz.prog w = .ok (.bool (!x)) w := fun _ _ => rfl
  clear h1 h2 hg hb
  unfold Ret at *
  go_enter Tryz.func32, Tryz.ntmps32
  go_wp2_with fail
  refine X.out.mono ?_
  rintro e w1 ⟨rfl, hb⟩
  have HB := Lib.hid hb
  clear hb X
  go_wp2_with fail
  go_ret
  exact ⟨by simp, HB.out⟩
set_option maxHeartbeats 4000000 in
theorem n34_c (n p : Int) (c : Nat) (lo ho : Option Addr) (ln lc hn hc : Nat) (w : World) (hg : w.heap[c]? = some (.cells (topoA n lo ho ln lc hn hc) 25 (0, 0))) :
    Ret 34 #[.int .i64 p, .pointer (some ⟨c, 0, none⟩)] (.bool (decide (n ≤ p))) w := by
  have c0 := block_cell hg 0
  have hl := block_lt hg
  simp only [List.getElem?_toArray, List.getElem?_cons_zero] at c0
  clear hg
  unfold Ret
  go_enter Tryz.func34, Tryz.ntmps34
  go_wp2_with fail
  go_ret
  exact ⟨by simp, Below.refl _ _⟩
end Go.Proofs.YtekfkieimdgfkaaGreat
