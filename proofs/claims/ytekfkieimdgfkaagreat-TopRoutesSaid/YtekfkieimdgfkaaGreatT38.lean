/- What is proved here: which tokens a text has. Condition: its tokens are read as LexR says. -/
import Derived.Test.YtekfkieimdgfkaaGreatT37
namespace Go.Proofs.YtekfkieimdgfkaaGreat
open Go Go.RowKit
attribute [local go_sem] KW.cell KW.frozen
theorem own_snoc {α : Type} {enc : α → List Value} {B e z : Nat} {v : Value} {xs : List α} {x : α} {w : World} (h : w.ownsRow B e z v (xs.length + 1) (flatR enc xs ++ enc x)) : w.ownsRow B e z v (xs ++ [x]).length (flatR enc (xs ++ [x])) := by
  have e1 : flatR enc [x] = enc x := by simp [flatR]
  rw [flatR_append, e1, List.length_append]
  exact h
/-- A token: kind, number, text, place. -/
structure Tk where
  k : Int
  n : Int
  t : List UInt8
  at_ : Nat
def tkE (x : Tk) : List Value := [.int .i64 x.k, .int .i64 x.n, .string (bs x.t), .int .i64 (x.at_ : Int)]
/-- What stands first in a text, and how many bytes it takes. -/
def TokN (l : List UInt8) (k n : Int) (t : List UInt8) (m : Nat) : Prop :=
  ∃ c r, l = c :: r ∧ c ≠ 35 ∧ ((letterP c = true ∧ k = 1 ∧ n = 0 ∧ t = l.takeWhile letterP ∧ m = t.length) ∨
    (letterP c = false ∧ digitP c = true ∧ l.takeWhile digitP = [c] ∧ 48 ≤ c.toNat ∧ c.toNat ≤ 57 ∧ k = 2 ∧ n = (c.toNat : Int) - 48 ∧ t = [] ∧ m = 1) ∨
    (letterP c = false ∧ digitP c = false ∧ Lib.hasPrefix l [58, 61] = true ∧ k = 3 ∧ n = 0 ∧ t = [58, 61] ∧ m = 2) ∨
    (letterP c = false ∧ digitP c = false ∧ Lib.hasPrefix l [58, 61] = false ∧ decide (0 ≤ Lib.indexByte [40, 41, 59, 124, 61] c) = true ∧ k = 3 ∧ n = 0 ∧ t = [c] ∧ m = 1))
/-- Which tokens a text has from a place on, the end's among them. -/
inductive LexR (L : List UInt8) : Nat → List Tk → Prop
  | stop (a : Nat) (h : afterSp L a = L.length) : LexR L a [⟨4, 0, [], L.length⟩]
  | tok (a : Nat) (k n : Int) (t : List UInt8) (m : Nat) (ts : List Tk) (hn : TokN (L.drop (afterSp L a)) k n t m) (hm : afterSp L a + m ≤ L.length) (h : LexR L (afterSp L a + m) ts) : LexR L a (⟨k, n, t, afterSp L a⟩ :: ts)
theorem LexR.pos {L : List UInt8} {a : Nat} {ts : List Tk} (h : LexR L a ts) : 0 < ts.length := by cases h <;> simp
theorem TokN.lt {L : List UInt8} {b : Nat} {k n : Int} {t : List UInt8} {m : Nat} (h : TokN (L.drop b) k n t m) : ∃ hb : b < L.length, L[b] ≠ 35 := by
  obtain ⟨c, r, hl, h35, _⟩ := h
  have hb : b < L.length := by
    rcases Nat.lt_or_ge b L.length with h | h
    · exact h
    · rw [List.drop_eq_nil_of_le h] at hl; cases hl
  refine ⟨hb, ?_⟩
  rw [List.drop_eq_getElem_cons hb] at hl
  cases hl
  exact h35
theorem tok_c (q : Nat) (s : ByteArray) (a : Nat) (w : World) (hq : w.heap[q]? = some (.cells #[.string s, .int .i64 a] 141 (0, 0))) (hs : s.size ≤ 5000) (k n : Int) (t : List UInt8) (m : Nat) (h : TokN (s.data.toList.drop a) k n t m) :
    Calls Tryz.prog 74 #[.pointer (some ⟨q, 0, none⟩)] w fun e w' => e = .returned (.tuple #[.agg #[.int .i64 k, .int .i64 n, .string (bs t), .int .i64 a], .bool true]) ∧ LexTo q s (a + m) w w' := by
  have hb := h.lt.1
  obtain ⟨c, r, hl, h35, h⟩ := h
  have ha : a < s.size := by rw [ba_size]; exact hb
  have hc : s[a] = c := by
    rw [List.drop_eq_getElem_cons hb] at hl
    cases hl
    rfl
  rcases h with ⟨h1, rfl, rfl, h4, rfl⟩ | ⟨h1, h2, h3, h4, h5, rfl, rfl, rfl, rfl⟩ | ⟨h1, h2, h3, rfl, rfl, rfl, rfl⟩ | ⟨h1, h2, h3, h4, rfl, rfl, rfl, rfl⟩
  · exact next_word q s a w hq ha hs c hc h1 t h4.symm
  · exact next_num q s a w hq ha hs c hc h1 h2 h3 h4 h5
  · exact next_assign q s a w hq ha hs c hc h1 h2 h3
  · exact next_sign q s a w hq ha hs c hc h1 h2 h3 h4
theorem info112 : (Tryz.prog.info? 112).map (fun i => (i.zero, i.size, i.bytes)) = some (some (.agg #[.int .i64 0, .int .i64 0, .string ⟨#[]⟩, .int .i64 0]), 4, 40) := by kernel_rfl
def lenOf : Value → Nat
  | .slice _ n _ => n
  | _ => 0
set_option maxRecDepth 100000 in
set_option maxHeartbeats 8000000 in
theorem lex_c (s : ByteArray) (all : List Tk) (w : World) (hL : LexR s.data.toList 0 all) (hs : s.size ≤ 4000) (hn : all.length ≤ 500) :
    Calls Tryz.prog 46 #[.string s] w fun e w' => ∃ v, e = .returned (.tuple #[v, .int .i64 0, .int .i64 0]) ∧ Rz 4 tkE v all w' ∧ (∀ k, v.ownBlock = some k → w.heap.size < k) ∧ Below w.heap.size w w' := by
  have H0 := Lib.hid hL
  have hd4 : decide ((4000 : Int) < (s.size : Int)) = false := by simp; omega
  have hd5 : ¬ (4000 : Int) < (s.size : Int) := by omega
  have hq0 : (w.alloc (.cells #[.string s, .int .i64 ((0 : Nat) : Int)] 141)).heap[w.heap.size]? = some (.cells #[.string s, .int .i64 ((0 : Nat) : Int)] 141 (0, 0)) := heap_alloc_new w _
  have hb0 := grow1 w (.cells #[.string s, .int .i64 ((0 : Nat) : Int)] 141)
  have HQ := Lib.hid hq0
  have HB := Lib.hid hb0
  obtain ⟨i0, hi0, hz0, hz1, hz2⟩ := info_parts info112
  clear hL hq0 hb0
  go_enter Tryz.func46, Tryz.ntmps46
  go_wp2_with fail
  go_loopw [6] (fun v' wr => ∃ (a : Nat) (vv : Value) (vs ts : List Tk), vv = v' ∧ lenOf vv = vs.length ∧ vs ++ ts = all ∧ a ≤ s.size ∧ Hid (LexR s.data.toList a ts) ∧ Hid (wr.heap[w.heap.size]? = some (.cells #[.string s, .int .i64 a] 141 (0, 0))) ∧ Hid (wr.ownsRow (w.heap.size + 1) 112 4 vv vs.length (flatR tkE vs)) ∧ Below w.heap.size w wr) (fun v' _ => all.length - lenOf v')
  case atStart => exact ⟨0, _, [], all, rfl, rfl, rfl, Nat.zero_le _, H0, HQ, Lib.hid (own_nil _ _ _ _), HB.out⟩
  case round =>
    obtain ⟨a, vv, vs, ts, rfl, hvl, hall, ha, HT, HQ2, HO, hb⟩ := hrel
    have hsq := block_lt HQ2.out
    obtain ⟨vo, vc, rfl, hvc1, hvc2⟩ := own_form HO.out
    have X := Lib.hid (skip_c w.heap.size s a wr HQ2.out ha (by omega) (by
      intro hlt
      have ht := HT.out
      cases ht with
      | stop _ h => omega
      | tok _ k n t m ts hn hm h => exact hn.lt.2))
    have hpos := HT.out.pos
    have hle := afterSp_le s.data.toList a (by rw [← ba_size]; exact ha)
    have hlen : vs.length + ts.length = all.length := by rw [← hall, List.length_append]
    go_wp2_with fail
    refine X.out.mono ?_
    rintro e w2 ⟨rfl, hq2, hm⟩
    have HQ3 := Lib.hid hq2
    have hb2 : Below w.heap.size w w2 := hb.trans (hm.below (Nat.le_refl _) (by omega))
    have HO2 := Lib.hid (hm.own HO.out (fun e => by have := (HO.out.lt _ e).1; omega))
    have hsq2 := block_lt hq2
    have c0 := block_cell hq2 0
    have c1 := block_cell hq2 1
    simp only [List.getElem?_toArray, List.getElem?_cons_zero, List.getElem?_cons_succ] at c0 c1
    clear X hq2 hm HO HQ2 hb hsq
    have ht := HT.out
    clear HT
    cases ht with
    | stop _ hstop =>
      rw [hstop, ← ba_size] at c1 hle
      have hd : ((s.size : Int) == (s.size : Int)) = true := by simp
      clear HQ3
      go_wp2_with (at_builtin; refine wpList_append_own _ rfl _ _ 104 rfl (w.heap.size + 1) 112 i0 (.agg #[.int .i64 0, .int .i64 0, .string ⟨#[]⟩, .int .i64 0]) 4 40 Tryz.underlying104 hi0 hz0 hz1 hz2 rfl (by decide) (.slice vo vs.length vc) vs.length _ (by rfl) (HO2.out.alloc _) ⟨w2.heap.size, 0, none⟩ 1 1 (tkE ⟨4, 0, [], s.size⟩) (by rfl) (by rfl) (by intro j u hj; rcases j with _ | _ | _ | _ | j <;> simp [tkE] at hj <;> subst hj <;> simp [go_sem, Addr.add] <;> rfl) (by simp [tkE, Value.oneCell']) (by unfold maxLen; omega) (by omega) (by simp; omega) ?_)
      intro v1 w3 hown1 hg1 _
      have hb3 : Below w.heap.size w w3 := below_grown (hb2.alloc (by omega) _) (by simp; omega) hg1 (own_mono HO2.out (by omega))
      have HR := Lib.hid (Rz.of_own (enc := tkE) (fun _ => rfl) (own_snoc hown1))
      rw [ba_size, hall] at HR
      have HK := Lib.hid hown1.lt
      clear hown1 hg1
      go_wp2_with fail
      exact bodyPost_ret (v := .tuple #[v1, .int .i64 0, .int .i64 0]) (by simp [results, Tryz.results46, go_sem]) rfl ⟨v1, rfl, HR.out, fun k hk => (HK.out k hk).1, hb3⟩
    | tok _ k n t m ts' hn hm2 hrest =>
      have hlt := hn.lt.1
      rw [← ba_size] at hlt hm2
      have hp2 := hrest.pos
      simp only [List.length_cons] at hlen
      generalize afterSp s.data.toList a = b at *
      have X2 := Lib.hid (tok_c w.heap.size s b w2 HQ3.out (by omega) k n t m hn)
      have hd : ((b : Int) == (s.size : Int)) = false := by rw [beq_eq_false_iff_ne]; omega
      have hv1 : ((vs.length : Int) == 500) = false := by rw [beq_eq_false_iff_ne]; omega
      have hv2 : ¬ (vs.length = 500) := by omega
      have HRest := Lib.hid hrest
      have HAll := Lib.hid hall
      clear hn hrest hall HQ3
      go_wp2_with fail
      refine X2.out.mono ?_
      rintro e w3 ⟨rfl, hl⟩
      have hm3 : Below w.heap.size w w3 := hb2.trans (hl.2.below (Nat.le_refl _) (by omega))
      have HO3 := Lib.hid (hl.2.own HO2.out (fun e => by have := (HO2.out.lt _ e).1; omega))
      have hsq3 := block_lt hl.1
      have HQ4 := Lib.hid hl.1
      clear X2 hl HO2 c0 c1 hb2
      go_wp2_with (at_builtin; refine wpList_append_own _ rfl _ _ 104 rfl (w.heap.size + 1) 112 i0 (.agg #[.int .i64 0, .int .i64 0, .string ⟨#[]⟩, .int .i64 0]) 4 40 Tryz.underlying104 hi0 hz0 hz1 hz2 rfl (by decide) (.slice vo vs.length vc) vs.length _ (by rfl) ((HO3.out.alloc _).alloc _) ⟨w3.heap.size + 1, 0, none⟩ 1 1 (tkE ⟨k, n, t, b⟩) (by rfl) (by rfl) (by intro j u hj; rcases j with _ | _ | _ | _ | j <;> simp [tkE] at hj <;> subst hj <;> simp [go_sem, Addr.add]) (by simp [tkE, Value.oneCell']) (by unfold maxLen; omega) (by omega) (by simp; omega) ?_)
      intro v1 w4 hown1 hg1 _
      have hb4 : Below (w.heap.size + 1) w3 w4 := below_grown (((Below.refl (w.heap.size + 1) w3).alloc (by omega) _).alloc (by simp; omega) _) (by simp; omega) hg1 HO3.out
      have HO4 := Lib.hid (own_snoc hown1)
      have HQ5 := Lib.hid ((hb4.block w.heap.size (by omega)).trans HQ4.out)
      have hb5 : Below w.heap.size w w4 := hm3.trans (hb4.mono (by omega))
      have hv5 := hown1
      obtain ⟨uo, uc, rfl, _, _⟩ := own_form hv5
      clear hown1 hg1 hv5 HQ4
      go_wp2_with fail
      go_roundw
      case rel => exact ⟨b + m, _, vs ++ [⟨k, n, t, b⟩], ts', rfl, by simp [lenOf], by rw [← HAll.out]; simp, hm2, HRest, HQ5, HO4, hb5⟩
      case measure => simp [lenOf]; omega
end Go.Proofs.YtekfkieimdgfkaaGreat
/- What is proved here: the parser's small steps. Condition: it lies in memory of the call's own, before the tokens' end. -/
namespace Go.Proofs.YtekfkieimdgfkaaGreat
open Go Go.RowKit
attribute [local go_sem] KW.cell KW.frozen
theorem tk_at {ao : Option Addr} {n c : Nat} {xs : List Tk} {w : World} (h : Rz 4 tkE (.slice ao n c) xs w) (k : Nat) (hk : k < xs.length) :
    ∃ a, ao = some a ∧ (a.add (k * 4)).block < w.heap.size ∧ w.cell? (a.add (k * 4)) = some (.int .i64 (xs[k]).k) ∧ w.cell? ⟨(a.add (k * 4)).block, (a.add (k * 4)).off + 1, none⟩ = some (.int .i64 (xs[k]).n) ∧
      w.cell? ⟨(a.add (k * 4)).block, (a.add (k * 4)).off + 2, none⟩ = some (.string (bs (xs[k]).t)) ∧ w.cell? ⟨(a.add (k * 4)).block, (a.add (k * 4)).off + 3, none⟩ = some (.int .i64 ((xs[k]).at_ : Int)) := by
  obtain ⟨a, ha, hg, hc, hc2⟩ := h.at_ k hk
  exact ⟨a, ha, by rw [adb]; exact hg, hc _ rfl, hc2 0 _ rfl, hc2 1 _ rfl, hc2 2 _ rfl⟩
/-- The parser at block q: its tokens' slice and its place. -/
abbrev PaO (lv : Value) (at_ : Nat) : Obj := .cells #[lv, .int .i64 (at_ : Int)] 110 (0, 0)
set_option maxRecDepth 100000 in
set_option maxHeartbeats 4000000 in
theorem now_c (q : Nat) (lv : Value) (l : List Tk) (at_ : Nat) (w : World) (hq : w.heap[q]? = some (PaO lv at_)) (hl : Rz 4 tkE lv l w) (h : at_ < l.length) (x : Tk) (hx : l[at_] = x) :
    Calls Tryz.prog 48 #[.pointer (some ⟨q, 0, none⟩)] w fun e w' => e = .returned (.agg #[.int .i64 x.k, .int .i64 x.n, .string (bs x.t), .int .i64 (x.at_ : Int)]) ∧ Below w.heap.size w w' := by
  have hql0 := block_lt hq
  obtain ⟨lo, lc, rfl, hlc1, hlc2⟩ := hl.form
  have hb0 := grow1 w (.cells #[.int .i64 0, .int .i64 0, .string ⟨#[]⟩, .int .i64 0] 112)
  have hq0 := (hb0.block q hql0).trans hq
  have hl0 := hl.kept hb0
  have hz0 : (w.alloc (.cells #[.int .i64 0, .int .i64 0, .string ⟨#[]⟩, .int .i64 0] 112)).heap[w.heap.size]? = some (.cells #[.int .i64 0, .int .i64 0, .string ⟨#[]⟩, .int .i64 0] 112 (0, 0)) := heap_alloc_new w _
  have hql := block_lt hq0
  have hnq : w.heap.size ≠ q := by omega
  have hnp : q ≠ w.heap.size := by omega
  have n1 : (w.heap.size = q) = False := eq_false hnq
  have n2 : (q = w.heap.size) = False := eq_false hnp
  have hi1 : (at_ : Int) < (l.length : Int) := by omega
  have HB := Lib.hid hb0
  have HZ := Lib.hid hz0
  have HL := Lib.hid hl0
  have HQ := Lib.hid hq0
  clear hq hl hb0 hq0 hl0 hz0 hql
  go_enter Tryz.func48, Tryz.ntmps48
  go_upto_region 1 with fail
  refine abs_wp ?_
  intro wb hwb
  have hb0 : Below w.heap.size w wb := by rw [hwb]; exact HB.out
  have hl0 : Rz 4 tkE (.slice lo l.length lc) l wb := by rw [hwb]; exact HL.out
  have hq0 : wb.heap[q]? = some (PaO (.slice lo l.length lc) at_) := by rw [hwb]; exact HQ.out
  have hz0 : wb.heap[w.heap.size]? = some (.cells #[.int .i64 0, .int .i64 0, .string ⟨#[]⟩, .int .i64 0] 112 (0, 0)) := by rw [hwb]; exact HZ.out
  clear hwb HB HL HQ HZ
  have hql := block_lt hq0
  obtain ⟨a, rfl, hg, e0, e1, e2, e3⟩ := tk_at hl0 at_ h
  rw [hx] at e0 e1 e2 e3
  obtain ⟨xk, xn, xt, xa⟩ := x
  simp only at e0 e1 e2 e3
  have c0 := block_cell hq0 0
  have c1 := block_cell hq0 1
  simp only [List.getElem?_toArray, List.getElem?_cons_zero, List.getElem?_cons_succ] at c0 c1
  have HB := Lib.hid hb0
  have hzl := block_lt hz0
  have HZ := Lib.hid hz0
  clear hl0 hb0 hq0 hz0 hx
  go_wp2_with fail
  refine wp_region_kw 10 (by kernel_rfl) (by kernel_rfl) ?_
  repeat (first | go_big_quiet_step (fail) | quiet_step (fail))
  refine wpQuiet_nil ?_
  intro kz
  have hz1 := (kz.kp.block w.heap.size hzl).trans HZ.out
  have hb1 := bon HB.out kz.kp
  have z0 := block_cell hz1 0
  have z1 := block_cell hz1 1
  have z2 := block_cell hz1 2
  have z3 := block_cell hz1 3
  have y0 := block_free hz1 0
  have y1 := block_free hz1 1
  have y2 := block_free hz1 2
  have y3 := block_free hz1 3
  simp only [List.getElem?_toArray, List.getElem?_cons_zero, List.getElem?_cons_succ] at z0 z1 z2 z3
  have HB1 := Lib.hid hb1
  clear hz1 hb1
  go_wp2_with fail
  refine bodyPost_ret (v := .agg #[.int .i64 xk, .int .i64 xn, .string (bs xt), .int .i64 (xa : Int)]) (by simp [results, Tryz.results48, go_sem, z0, z1, z2, z3]) rfl ⟨rfl, ?_⟩
  repeat (first | exact HB1.out | refine Below.setCell (B := w.heap.size) (p := ⟨w.heap.size, _, none⟩) ?_ (Nat.le_refl _) _)
/-- The parser at place at' behind what was done, and nothing else that was there was turned. -/
def ParTo (q : Nat) (lv : Value) (at' : Nat) (w w' : World) : Prop := w'.heap[q]? = some (PaO lv at') ∧ Qm q w w'
theorem ParTo.trans {q : Nat} {lv : Value} {a b : Nat} {w w1 w2 : World} (h : ParTo q lv a w w1) (k : ParTo q lv b w1 w2) : ParTo q lv b w w2 := ⟨k.1, h.2.trans k.2⟩
theorem ParTo.kept {q : Nat} {lv : Value} {a : Nat} {w w1 w2 : World} (h : ParTo q lv a w w1) (hb : Below w1.heap.size w1 w2) : ParTo q lv a w w2 := ⟨(hb.block q (block_lt h.1)).trans h.1, h.2.trans (Qm.of_below hb)⟩
theorem Rz.qm {q : Nat} {z : Nat} {α : Type} {enc : α → List Value} {v : Value} {xs : List α} {w w' : World} (h : Rz z enc v xs w) (hm : Qm q w w') (hn : ∀ a n c, v = .slice (some a) n c → a.block ≠ q) : Rz z enc v xs w' := by
  rcases h with h | ⟨a, cap, hv, hg, h1, h2, hx⟩
  · exact .inl h
  · refine .inr ⟨a, cap, hv, fun h0 => Nat.lt_of_lt_of_le (hg h0) hm.size, h1, h2, fun i hi j u hj => ?_⟩
    rw [World.cell?_of_block (w := w) (hm.block _ (by rw [adb]; exact hg (by omega)) (by rw [adb]; exact hn _ _ _ hv))]
    exact hx i hi j u hj
set_option maxRecDepth 100000 in
set_option maxHeartbeats 8000000 in
theorem is_c (q : Nat) (lv : Value) (l : List Tk) (at_ : Nat) (s : ByteArray) (w : World) (hq : w.heap[q]? = some (PaO lv at_)) (hl : Rz 4 tkE lv l w) (h : at_ < l.length) (hln : l.length ≤ 1000) (x : Tk) (hx : l[at_] = x) (b : Bool) (hb : ((x.k == 1 || x.k == 3) && (x.t == s.data.toList)) = b) :
    Calls Tryz.prog 75 #[.pointer (some ⟨q, 0, none⟩), .string s] w fun e w' => e = .returned (.bool b) ∧ ParTo q lv (if b = true then at_ + 1 else at_) w w' := by
  have X := Lib.hid (now_c q lv l at_ w hq hl h x hx)
  have HQ := Lib.hid hq
  obtain ⟨xk, xn, xt, xa⟩ := x
  simp only at hb
  clear hq hl hx
  generalize hk1 : (xk == 1) = b1 at *
  generalize hk3 : (xk == 3) = b3 at *
  generalize hts : (xt == s.data.toList) = b2 at *
  have hts2 : ((bs xt).toList == s.toList) = b2 := by rw [ByteArray.toList_eq, ByteArray.toList_eq]; exact hts
  clear hts
  subst hb
  cases b1 <;> cases b3 <;> cases b2 <;> simp only [Bool.or_true, Bool.or_false, Bool.and_true, Bool.and_false]
  all_goals
    go_enter Tryz.func75, Tryz.ntmps75
    go_wp2_with fail
    refine X.out.mono ?_
    rintro e w1 ⟨rfl, hb1⟩
    have hq1 := (hb1.block q (block_lt HQ.out)).trans HQ.out
    have hp1 : ParTo q lv at_ w w1 := ⟨hq1, Qm.of_below hb1⟩
    have hb2 := grow1 w1 (.cells #[.int .i64 xk, .int .i64 xn, .string (bs xt), .int .i64 (xa : Int)] 112)
    have hp2 := hp1.kept hb2
    have hql := block_lt hq1
    have hnq : w1.heap.size ≠ q := by omega
    have hnp : q ≠ w1.heap.size := by omega
    have n1 : (w1.heap.size = q) = False := eq_false hnq
    have n2 : (q = w1.heap.size) = False := eq_false hnp
    have c1 := block_cell hq1 1
    have f1 := block_free hq1 1
    simp only [List.getElem?_toArray, List.getElem?_cons_zero, List.getElem?_cons_succ] at c1
    have hp3 : ParTo q lv (at_ + 1) w (w1.setCell ⟨q, 1, none⟩ (.int .i64 ((at_ + 1 : Nat) : Int))) := ⟨blk_set2 hq1, (Qm.of_below hb1).set 1 _⟩
    have hc2 : ((at_ + 1 : Nat) : Int) = (at_ : Int) + 1 := by omega
    rw [hc2] at hp3
    have HP1 := Lib.hid hp1
    have HP3 := Lib.hid hp3
    have HB2 := Lib.hid hb2
    clear hq1 hb1 hp1 hp2 hp3 hb2 hc2 HQ X
    go_wp2_with fail
    go_ret
    refine ⟨rfl, ?_⟩
    first | exact HP1.out.kept HB2.out | exact HP3.out.kept (grow1 _ _)
end Go.Proofs.YtekfkieimdgfkaaGreat
/- What is proved here: the parser goes over a sign, a number, a field's word. Condition: they stand there. -/
namespace Go.Proofs.YtekfkieimdgfkaaGreat
open Go Go.RowKit
attribute [local go_sem] KW.cell KW.frozen
set_option maxRecDepth 100000 in
set_option maxHeartbeats 4000000 in
theorem must_c (q : Nat) (lv : Value) (l : List Tk) (at_ : Nat) (s : ByteArray) (w : World) (hq : w.heap[q]? = some (PaO lv at_)) (hl : Rz 4 tkE lv l w) (h : at_ < l.length) (hln : l.length ≤ 1000) (x : Tk) (hx : l[at_] = x) (hb : ((x.k == 1 || x.k == 3) && (x.t == s.data.toList)) = true) :
    Calls Tryz.prog 100 #[.pointer (some ⟨q, 0, none⟩), .string s] w fun e w' => e = .returned (.tuple #[]) ∧ ParTo q lv (at_ + 1) w w' := by
  have X0 := is_c q lv l at_ s w hq hl h hln x hx true hb
  rw [if_pos (rfl : true = true)] at X0
  have X := Lib.hid X0
  clear hq hl hx hb X0
  go_enter Tryz.func100, Tryz.ntmps100
  go_wp2_with fail
  refine X.out.mono ?_
  rintro e w1 ⟨rfl, hp⟩
  have HP := Lib.hid hp
  clear hp X
  go_wp2_with fail
  go_returns
  exact ⟨rfl, HP.out⟩
set_option maxRecDepth 100000 in
set_option maxHeartbeats 4000000 in
theorem pnum_c (q : Nat) (lv : Value) (l : List Tk) (at_ : Nat) (w : World) (hq : w.heap[q]? = some (PaO lv at_)) (hl : Rz 4 tkE lv l w) (h : at_ < l.length) (hln : l.length ≤ 1000) (x : Tk) (hx : l[at_] = x) (hk : x.k = 2) :
    Calls Tryz.prog 102 #[.pointer (some ⟨q, 0, none⟩)] w fun e w' => e = .returned (.int .i64 x.n) ∧ ParTo q lv (at_ + 1) w w' := by
  have X := Lib.hid (now_c q lv l at_ w hq hl h x hx)
  have HQ := Lib.hid hq
  obtain ⟨xk, xn, xt, xa⟩ := x
  simp only at hk
  subst hk
  clear hq hl hx
  go_enter Tryz.func102, Tryz.ntmps102
  go_wp2_with fail
  refine X.out.mono ?_
  rintro e w1 ⟨rfl, hb1⟩
  have hq1 := (hb1.block q (block_lt HQ.out)).trans HQ.out
  have hql := block_lt hq1
  have hnq : w1.heap.size ≠ q := by omega
  have hnp : q ≠ w1.heap.size := by omega
  have n1 : (w1.heap.size = q) = False := eq_false hnq
  have n2 : (q = w1.heap.size) = False := eq_false hnp
  have c1 := block_cell hq1 1
  have f1 := block_free hq1 1
  simp only [List.getElem?_toArray, List.getElem?_cons_zero, List.getElem?_cons_succ] at c1
  have hp3 : ParTo q lv (at_ + 1) w (w1.setCell ⟨q, 1, none⟩ (.int .i64 ((at_ + 1 : Nat) : Int))) := ⟨blk_set2 hq1, (Qm.of_below hb1).set 1 _⟩
  have hc2 : ((at_ + 1 : Nat) : Int) = (at_ : Int) + 1 := by omega
  rw [hc2] at hp3
  have HP3 := Lib.hid hp3
  clear hq1 hb1 hp3 hc2 HQ X
  go_wp2_with fail
  go_ret
  exact ⟨rfl, HP3.out.kept (grow1 _ _)⟩
def strE (x : List UInt8) : List Value := [.string (bs x)]
theorem str_at {ao : Option Addr} {n c : Nat} {xs : List (List UInt8)} {w : World} (h : Rz 1 strE (.slice ao n c) xs w) (k : Nat) (hk : k < xs.length) :
    ∃ a, ao = some a ∧ (a.add k).block < w.heap.size ∧ w.cell? (a.add k) = some (.string (bs xs[k])) := by
  obtain ⟨a, ha, hg, hc, _⟩ := h.at_ k hk
  have hc : w.cell? (a.add (k * 1)) = some (.string (bs xs[k])) := hc _ rfl
  rw [Nat.mul_one] at hc
  exact ⟨a, ha, by rw [adb]; exact hg, hc⟩
set_option maxRecDepth 100000 in
set_option maxHeartbeats 4000000 in
/-- slices.Index of strings: the first of them. -/
theorem sindex_c (v : Value) (xs : List (List UInt8)) (s : ByteArray) (f : Nat) (w : World) (hv : Rz 1 strE v xs w) (hf : f < xs.length) (hfx : xs[f] = s.data.toList) (hno : ∀ j (hj : j < xs.length), j < f → xs[j] ≠ s.data.toList) (_hxl : xs.length ≤ 1000) :
    Calls Tryz.prog 133 #[v, .string s] w fun e w' => e = .returned (.int .i64 f) ∧ w' = w := by
  obtain ⟨vo, vc, rfl, hc1, hc2⟩ := hv.form
  have HV := Lib.hid hv
  have HF := Lib.hid hfx
  have HN := Lib.hid hno
  clear hv hfx hno
  go_enter Tryz.func133, Tryz.ntmps133
  go_wp2_with fail
  go_loopw [8] (fun i' wr => ∃ i : Nat, i' = .int .i64 i ∧ i ≤ f ∧ wr = w) (fun i' _ => f - (intOf i').toNat)
  case atStart => exact ⟨0, rfl, Nat.zero_le _, rfl⟩
  case round =>
    obtain ⟨i, rfl, hi, rfl⟩ := hrel
    have hlt : i < xs.length := by omega
    have hd : decide ((i : Int) < (xs.length : Int)) = true := by simp; omega
    have hk2 : (i : Int) < (xs.length : Int) := by omega
    obtain ⟨a, rfl, hg, e0⟩ := str_at HV.out i hlt
    by_cases hif : i = f
    · subst hif
      have hs : (s.toList == (bs xs[i]).toList) = true := by rw [ByteArray.toList_eq, ByteArray.toList_eq, HF.out]; simp [bs]
      generalize xs[i] = y at *
      go_wp2_with fail
      go_ret
      exact ⟨rfl, rfl⟩
    · have hs : (s.toList == (bs xs[i]).toList) = false := by
        rw [ByteArray.toList_eq, ByteArray.toList_eq, beq_eq_false_iff_ne]
        exact fun e => HN.out i hlt (by omega) e.symm
      generalize xs[i] = y at *
      go_wp2_with fail
      go_roundw
      case rel => exact ⟨i + 1, by go_num, by omega, trivial⟩
      case measure => simp [intOf]; omega
end Go.Proofs.YtekfkieimdgfkaaGreat
