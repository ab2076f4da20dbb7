/- What is proved here: the order in which the fields are asked; a row's tail. Condition: none. -/
import Derived.Test.YtekfkieimdgfkaaGreatT23
namespace Go.Proofs.YtekfkieimdgfkaaGreat
open Go Go.RowKit
attribute [local go_sem] KW.cell KW.frozen
theorem rz_tail {f : Int} {fs : List Int} {ao : Option Addr} {n c : Nat} {w : World} (h : Rz 1 INT (.slice ao n c) (f :: fs) w) : ∃ a : Addr, ao = some a ∧ n = fs.length + 1 ∧ n ≤ c ∧ c ≤ maxLen ∧ a.block < w.heap.size ∧ w.cell? a = some (.int .i64 f) ∧ Rz 1 INT (.slice (some (a.add 1)) fs.length (c - 1)) fs w := by
  rcases h with ⟨_, h0⟩ | ⟨a, cap, he, hb, hle, hm, hc⟩
  · cases h0
  · cases he
    refine ⟨a, rfl, rfl, hle, hm, hb (by simp), ?_, .inr ⟨a.add 1, c - 1, rfl, fun _ => ?_, ?_, by omega, fun i hi j u hj => ?_⟩⟩
    · have := hc 0 (by simp) 0 _ (by rfl)
      have e : a.add 0 = a := by unfold Addr.add; split <;> simp_all
      simpa [e] using this
    · have := hb (by simp)
      unfold Addr.add
      split <;> simpa using this
    · simp only [List.length_cons] at hle
      omega
    · have h2 := hc (i + 1) (by simp; omega) j u (by simpa using hj)
      have e : (a.add 1).add (i * 1 + j) = a.add ((i + 1) * 1 + j) := by
        unfold Addr.add
        split <;> simp <;> omega
      rw [e]
      exact h2
set_option maxRecDepth 100000 in
set_option maxHeartbeats 2000000 in
theorem order_c (w : World) : Calls Tryz.prog 67 #[] w fun e w' => ∃ v, e = .returned v ∧ w'.ownsRow w.heap.size 3 1 v 5 (IV [4, 0, 1, 2, 3]) ∧ Below w.heap.size w w' := by
  go_enter Tryz.func67, Tryz.ntmps67
  go_wp2_with fail
  have HG := Lib.hid (heap_alloc_new w (.cells #[.int .i64 4, .int .i64 0, .int .i64 1, .int .i64 2, .int .i64 3] 3))
  have HB := Lib.hid (grow1 w (.cells #[.int .i64 4, .int .i64 0, .int .i64 1, .int .i64 2, .int .i64 3] 3))
  go_ret
  exact ⟨_, rfl, ⟨rfl, .inr ⟨w.heap.size, 5, _, rfl, Nat.le_refl _, HG.out, Nat.le_refl _, by decide, rfl, rfl⟩⟩, HB.out⟩
end Go.Proofs.YtekfkieimdgfkaaGreat
/- What is proved here: rows of cases, one behind the other. Condition: none. -/
namespace Go.Proofs.YtekfkieimdgfkaaGreat
open Go Go.RowKit
theorem own_type {B e z n : Nat} {v : Value} {vs : List Value} {w : World} (h : w.ownsRow B e z v n vs) {g : Nat} (hg : v.ownBlock = some g) : ∃ cur, w.heap[g]? = some (.cells cur e (0, 0)) := by
  rcases h.2 with ⟨rfl, _⟩ | ⟨g', cap, cur, rfl, _, hh, _⟩
  · simp [Value.ownBlock] at hg
  · simp [Value.ownBlock] at hg
    subst hg
    exact ⟨cur, hh⟩
theorem own63_grown {B B' n m : Nat} {v o : Value} {vs os : List Value} {w w' : World} (h : w.ownsRow B 89 6 v n vs) (ho : w.ownsRow B' 63 5 o m os) (hg : w.grownBy w' v.ownBlock) : w'.ownsRow B' 63 5 o m os :=
  own_blk ho fun g hog => hg.block g (ho.lt g hog).2 (fun e => by
    obtain ⟨c1, h1⟩ := own_type h e.symm
    obtain ⟨c2, h2⟩ := own_type ho hog
    rw [h1] at h2
    cases h2)
/-- The cells of a row of cases, and what they are. -/
theorem RdC.open_ {B : Nat} {v : Value} {l : List Cs} {w : World} (h : RdC B v l w) : ∃ xs : List Cv, xs.length = l.length ∧ xs.map Prod.fst = l.map Prod.fst ∧ w.ownsRow B 89 6 v l.length (flatR cvE xs) ∧ ∀ i (h : i < xs.length) (h' : i < l.length), w.ownsRow B 63 5 xs[i].2 l[i].2.length (flatR stE l[i].2) := by
  obtain ⟨xs, h1, h2, h3⟩ := h
  exact ⟨xs, by simpa using congrArg List.length h1, h1, h2, h3⟩
theorem RdC.nil (w : World) (B : Nat) : RdC B (.slice none 0 0) [] w := ⟨[], rfl, own_nil _ _ _ _, fun i hi => by cases hi⟩
theorem RdC.form {B : Nat} {v : Value} {l : List Cs} {w : World} (h : RdC B v l w) : ∃ ao c, v = .slice ao l.length c ∧ l.length ≤ c ∧ c ≤ maxLen := by
  obtain ⟨xs, _, h2, _⟩ := h
  exact own_form h2
/-- What a row of cases is behind another one, appended. -/
theorem RdC.append {B B' : Nat} {v v' : Value} {acc l : List Cs} {xs ys : List Cv} {w w' : World} (hx : xs.map Prod.fst = acc.map Prod.fst) (hxo : ∀ i (h : i < xs.length) (h' : i < acc.length), w.ownsRow B 63 5 xs[i].2 acc[i].2.length (flatR stE acc[i].2))
    (hv : w.ownsRow B 89 6 v acc.length (flatR cvE xs)) (hy : ys.map Prod.fst = l.map Prod.fst) (hyo : ∀ i (h : i < ys.length) (h' : i < l.length), w.ownsRow B' 63 5 ys[i].2 l[i].2.length (flatR stE l[i].2))
    (hB : B ≤ B') (hown : w'.ownsRow B 89 6 v' (acc.length + l.length) (flatR cvE xs ++ flatR cvE ys)) (hg : w.grownBy w' v.ownBlock) : RdC B v' (acc ++ l) w' := by
  have hxl : xs.length = acc.length := by simpa using congrArg List.length hx
  have hyl : ys.length = l.length := by simpa using congrArg List.length hy
  refine ⟨xs ++ ys, by rw [List.map_append, List.map_append, hx, hy], by rw [List.length_append, flatR_append]; exact hown, fun i hi hj => ?_⟩
  by_cases h : i < acc.length
  · rw [List.getElem_append_left (by omega), List.getElem_append_left h]
    exact own63_grown hv (hxo i (by omega) h) hg
  · have h1 : i - xs.length < ys.length := by simp at hi; omega
    have h2 : i - acc.length < l.length := by simp at hj; omega
    rw [List.getElem_append_right (by omega), List.getElem_append_right (by omega)]
    have e : i - xs.length = i - acc.length := by omega
    simp only [e]
    exact own63_grown hv (own_mono (hyo (i - acc.length) (by omega) h2) hB) hg
end Go.Proofs.YtekfkieimdgfkaaGreat
/- What is proved here: the cases when a field is left. Condition: at most one packet comes; the cases can be compared. -/
namespace Go.Proofs.YtekfkieimdgfkaaGreat
open Go Go.RowKit
attribute [local go_sem] KW.cell KW.frozen
/-- The maker's block, with its policy and its numbers, can be read. -/
structure MkR (mk : Nat) (sw : Int) (d : Nat) (x : Pol) (u : Value) (vl : List Value) (vs : Int → List Int) (w : World) : Prop where
  blk : w.heap[mk]? = some (.cells (mkA x u sw vl) 132 (0, 0))
  pol : RdP AnyP (d + 1) u x.l w
  len : vl.length = 5
  row : ∀ f (h : f < vl.length), Rz 1 INT vl[f] (vs f) w
theorem MkR.kept {mk : Nat} {sw : Int} {d : Nat} {x : Pol} {u : Value} {vl : List Value} {vs : Int → List Int} {w w' : World} (h : MkR mk sw d x u vl vs w) (hb : Below w.heap.size w w') : MkR mk sw d x u vl vs w' :=
  ⟨(hb.block mk (block_lt h.blk)).trans h.blk, h.pol.kept hb, h.len, fun f hf => (h.row f hf).kept hb⟩
theorem MkR.at_ {mk : Nat} {sw : Int} {d : Nat} {x : Pol} {u : Value} {vl : List Value} {vs : Int → List Int} {w : World} (h : MkR mk sw d x u vl vs w) {f : Int} (h0 : 0 ≤ f) (h4 : f ≤ 4) :
    ∃ vo vc, w.cell? ⟨mk, 9 + f.toNat, none⟩ = some (.slice vo (vs f).length vc) ∧ Rz 1 INT (.slice vo (vs f).length vc) (vs f) w := by
  have hf : f.toNat < vl.length := by rw [h.len]; omega
  have hr := h.row f.toNat hf
  have e : ((f.toNat : Nat) : Int) = f := by omega
  rw [e] at hr
  obtain ⟨vo, vc, hv, _, _⟩ := hr.form
  refine ⟨vo, vc, ?_, by rw [← hv]; exact hr⟩
  rw [block_cell h.blk, mk_get, ← hv]
  unfold mkL
  rw [List.getElem?_append_right (by show 8 ≤ _; omega)]
  show (Value.int .i64 sw :: vl)[9 + f.toNat - 8]? = _
  rw [show 9 + f.toNat - 8 = f.toNat + 1 by omega, List.getElem?_cons_succ, List.getElem?_eq_getElem hf]
theorem rangeK {w w' : World} {g i B : Nat} {cs : List Value} (hb : Below B w w') (hg : g < B) (h : w.rangeAt g i cs) : w'.rangeAt g i cs := by
  intro j v hj
  rw [World.cell?_of_block (w := w) (w' := w') (a := ⟨g, i + j, none⟩) (hb.block g hg)]
  exact h j v hj
theorem el85 : Elem Tryz.prog 85 89 6 := elem_of (by kernel_rfl)
theorem flat_len (G : Int → List Cs) : ∀ (l : List Int), (∀ v ∈ l, (G v).length ≤ 1000) → (l.flatMap G).length ≤ 1000 * l.length := by
  intro l
  induction l with
  | nil => intro _; simp
  | cons v l ih =>
    intro h
    have h1 := h v (by simp)
    have h2 := ih fun x hx => h x (by simp [hx])
    rw [List.flatMap_cons, List.length_append, List.length_cons]
    omega
theorem own_oneCell {B e z n : Nat} {v : Value} {vs : List Value} {w : World} (h : w.ownsRow B e z v n vs) : v.oneCell' = true := by
  obtain ⟨_, _, rfl, _, _⟩ := own_form h
  rfl
theorem cv_ones {xs : List Cv} (h : ∀ i (h : i < xs.length), xs[i].2.oneCell' = true) : ∀ u ∈ flatR cvE xs, u.oneCell' = true := by
  intro u hu
  obtain ⟨x, hx, hux⟩ := List.mem_flatMap.1 hu
  obtain ⟨i, hi, rfl⟩ := List.getElem_of_mem hx
  simp only [cvE, csA, List.mem_cons, List.not_mem_nil, or_false] at hux
  rcases hux with rfl | rfl | rfl | rfl | rfl | rfl
  · rfl
  · rfl
  · rfl
  · rfl
  · rfl
  · exact h i hi
/-- Two rows of cases are appended. -/
theorem push_cases {ops : Array Oper} {rest : List Oper} {o : Oper} {a : Act} {w : World} {Q : Exit → Act → World → Prop} (hgd : o.guard = none) (s x : Operand) (ho : o.op = .call { callee := .builtin .append, args := #[s, x], argTypes := #[85, 85] })
    (B B' : Nat) (v v2 : Value) (acc l : List Cs) (hs : a.eval s = v) (hx : a.eval x = v2) (h1 : RdC B v acc w) (h2 : RdC B' v2 l w) (hB : B ≤ B') (hB2 : B ≤ w.heap.size) (hpos : 0 < l.length) (hal : acc.length ≤ 2000000) (hll : l.length ≤ 1000)
    (h : ∀ v' w', RdC B v' (acc ++ l) w' → (∀ w0, Below B w0 w → Below B w0 w') → v'.oneCell' = true → wpList Tryz.prog ops Q rest (a.put o.dst v') w') : wpList Tryz.prog ops Q (o :: rest) a w := by
  obtain ⟨ie, zv, hi, hz2, hsz, hby, hzs, h0⟩ := el85.ex
  obtain ⟨xs, x1, x2, x3, x4⟩ := h1.open_
  obtain ⟨ys, y1, y2, y3, y4⟩ := h2.open_
  obtain ⟨g4, c4, rfl, hgB, hrg⟩ := own_rowC y3 hpos y1
  have hm : (acc.length + l.length) * ie.bytes ≤ 2001000 * 1000 := Nat.mul_le_mul (by omega) hby
  refine wpList_append_own w hgd s x 85 ho B 89 ie zv 6 ie.bytes el85.ht hi hz2 hsz rfl hzs h0 v acc.length (flatR cvE xs) hs x3 ⟨g4, 0, none⟩ l.length c4 (flatR cvE ys) hx ?_ (fun j u hj => y3.cells rfl j u hj) ?_ (by unfold maxLen; omega) (by omega) hB2 ?_
  · rw [flatR_len cvE_len, y1]
  · exact cv_ones fun i hi => own_oneCell (y4 i hi (by omega))
  · intro v' w' ho' hg' _
    refine h v' w' (RdC.append x2 x4 x3 y2 y4 hB ho' hg') (fun w0 hb => below_grown hb hB2 hg' x3) (own_oneCell ho')
/-- What cases answers. -/
def CasesC (mk : Nat) (sw : Int) (d : Nat) (x : Pol) (u : Value) (vl : List Value) (vs : Int → List Int) (fs : List Int) : Prop :=
  ∀ (g i c : Nat) (k : Sn) (w : World), MkR mk sw d x u vl vs w → g < w.heap.size → w.rangeAt g i (IV fs) → fs.length ≤ c → c ≤ maxLen → FineC vs sw d x fs k →
    Calls Tryz.prog 66 #[.pointer (some ⟨mk, 0, none⟩), .slice (some ⟨g, i, none⟩) fs.length c, csV k (.slice none 0 0)] w fun e w' => ∃ v, e = .returned v ∧ RdC w.heap.size v (casesF vs sw d x fs k) w' ∧ Below w.heap.size w w'
set_option maxRecDepth 100000 in
set_option maxHeartbeats 8000000 in
theorem cases_step (mk : Nat) (sw : Int) (d : Nat) (x : Pol) (u : Value) (vl : List Value) (vs : Int → List Int) (f : Int) (fs : List Int) (IH : CasesC mk sw d x u vl vs fs) : CasesC mk sw d x u vl vs (f :: fs) := by
  intro g i c k w hM hg hr hle hc hF
  obtain ⟨hf0, hf4, hvl, hcl, hF1, hF2⟩ := hF
  have HCL := Lib.hid hcl
  have HVL := Lib.hid hvl
  have hb0 : Below w.heap.size w (w.alloc (.cells (csA k (.slice none 0 0)) 89)) := grow1 w _
  have HC := Lib.hid (heap_alloc_new w (.cells (csA k (.slice none 0 0)) 89))
  have HB := Lib.hid hb0
  have HM := Lib.hid hM
  have HR := Lib.hid hr
  have HIH := Lib.hid IH
  have hfc : w.cell? ⟨g, i, none⟩ = some (.int .i64 f) := by simpa using hr 0 _ rfl
  have HFC := Lib.hid hfc
  have HLE := Lib.hid hle
  have HF1 := Lib.hid hF1
  have HF2 := Lib.hid hF2
  obtain ⟨res, hres⟩ : ∃ l, l = casesF vs sw d x (f :: fs) k := ⟨_, rfl⟩
  rw [← hres]
  have HRES := Lib.hid hres
  obtain ⟨G, hG⟩ : ∃ G : Int → List Cs, G = fun v => if alikeF (casesF vs sw d x fs (withS k f v)) (casesF vs sw d x fs k) = true then [] else casesF vs sw d x fs (withS k f v) := ⟨_, rfl⟩
  have HGG := Lib.hid (show ∀ v, G v = if alikeF (casesF vs sw d x fs (withS k f v)) (casesF vs sw d x fs k) = true then [] else casesF vs sw d x fs (withS k f v) from fun v => by rw [hG])
  have HGL := Lib.hid (show ∀ l : List Int, (∀ v ∈ l, v ∈ vs f) → (l.flatMap G).length ≤ 1000 * l.length from fun l hl => flat_len G l fun v hv => by
    rw [hG]
    dsimp only
    split
    · simp
    · exact (hF2 v (hl v hv)).2.2.1)
  have HRG := Lib.hid (show res = (vs f).flatMap G ++ casesF vs sw d x fs k by rw [hres, hG]; rfl)
  clear hG HRES hcl hvl
  obtain ⟨m, hm⟩ : ∃ m, m = fs.length := ⟨_, rfl⟩
  have hlm : (f :: fs).length = m + 1 := by simp [hm]
  rw [hlm] at HLE ⊢
  have hc1 : m + 1 ≤ c := HLE.out
  have HMM := Lib.hid hm
  clear hb0 hM hr IH hres hF1 hF2 hm hlm hle hfc
  unfold csV
  obtain ⟨ac, hac⟩ : ∃ a, csA k (.slice none 0 0) = a := ⟨_, rfl⟩
  rw [hac] at HC HB ⊢
  have HAC := Lib.hid hac
  have hz : ac.size = 6 := by rw [← hac]; rfl
  clear hac
  have e0 : (((m + 1 : Nat) : Int) == 0) = false := by simp; omega
  go_enter Tryz.func66, Tryz.ntmps66
  go_upto_region 3 with fail
  refine abs_wp ?_
  intro wb hwb
  have HBb : Hid (Below w.heap.size w wb) := by rw [hwb]; exact HB
  have HCb : Hid (wb.heap[w.heap.size]? = some (.cells ac 89 (0, 0))) := by rw [hwb]; exact HC
  clear hwb HB HC
  have hgb : g < wb.heap.size := Nat.lt_of_lt_of_le hg HBb.out.size
  have hfc : wb.cell? ⟨g, i, none⟩ = some (.int .i64 f) := (HBb.out.cell (p := ⟨g, i, none⟩) hg).trans HFC.out
  refine wp_region_pick [0, 1, 3, 4] [2] [] [5, 6] [5, 6] (by kernel_rfl) (by kernel_rfl) (by kernel_rfl) ?_
  refine pure_takeD 21 rfl (by rfl) ?v0 ?h0 ?r0
  case h0 => (intro w0 _; go_simp; try (with_reducible rfl))
  (try simp only [Act.put, List.setIfInBounds_toArray, List.set_cons_zero, List.set_cons_succ])
  refine pure_takeD 22 rfl (by rfl) ?v1 ?h1 ?r1
  case h1 => (intro w0 _; go_simp; try (with_reducible rfl))
  (try simp only [Act.put, List.setIfInBounds_toArray, List.set_cons_zero, List.set_cons_succ])
  refine pure_takeD 24 rfl (by rfl) ?v2 ?h2 ?r2
  case h2 => (intro w0 _; go_simp; try (with_reducible rfl))
  (try simp only [Act.put, List.setIfInBounds_toArray, List.set_cons_zero, List.set_cons_succ])
  obtain ⟨i2, hi2⟩ : ∃ i2, i2 = (if c = 1 then i else i + 1) := ⟨_, rfl⟩
  have HI2 := Lib.hid hi2
  clear hi2
  refine pure_takeD 25 rfl (by rfl) (.slice (some ⟨g, i2, none⟩) m (c - 1)) ?h3 ?r3
  case h3 =>
    intro w0 _
    go_simp
    rw [if_pos (by omega), HI2.out]
    by_cases h : c = 1 <;> simp [h]
  (try simp only [Act.put, List.setIfInBounds_toArray, List.set_cons_zero, List.set_cons_succ])
  refine pure_end ?_
  (try dsimp only)
  refine pure_takeD 23 rfl (by rfl) ?w0 ?k0 ?s0
  case k0 => (rintro w0 ⟨kz, rfl⟩; go_simp; try (with_reducible rfl))
  (try simp only [Act.put, List.setIfInBounds_toArray, List.set_cons_zero, List.set_cons_succ])
  refine pure_end ?_
  (try dsimp only)
  intro kz
  show wpList _ _ _ _ _ _
  go_wp2_with fail
  refine NoPanic.normal ?_
  have HBk := Lib.hid (HBb.out.trans (kz.kp.mono HBb.out.size))
  have HCk := Lib.hid ((kz.kp.block _ (block_lt HCb.out)).trans HCb.out)
  have hsk := kz.kp.size
  obtain ⟨w1, hw1⟩ : ∃ w1 : World, w1 = kz.val := ⟨_, rfl⟩
  rw [← hw1] at HBk HCk hsk ⊢
  have HR1 := Lib.hid (show w1.rangeAt g i2 (IV fs) from fun j v hj => by
    by_cases h : c = 1
    · have h0 : fs = [] := List.eq_nil_of_length_eq_zero (by rw [← HMM.out]; omega)
      rw [h0] at hj
      simp [IV] at hj
    · rw [HI2.out, if_neg h, World.cell?_of_block (w := w) (w' := w1) (a := ⟨g, i + 1 + j, none⟩) (HBk.out.block g hg), Nat.add_assoc, Nat.add_comm 1 j]
      exact HR.out (j + 1) v (by simpa [IV] using hj))
  have hs1 : w.heap.size + 1 ≤ w1.heap.size := by have := HBb.out.size; have := block_lt HCk.out; omega
  clear hw1 hfc HBb HCb hsk
  go_wp2_with (refine stop_load 89 _ rfl ?_)
  obtain ⟨f89, hu89⟩ := und89
  refine Stop.go (wpList_load_row rfl 89 _ rfl w.heap.size rfl 89 _ (0, 0) _ HCk.out hu89 rfl (by rw [hz]; exact inf89) ?_)
  clear hu89
  have Y := Lib.hid (HIH.out g i2 (c - 1) k w1 (HM.out.kept HBk.out) (Nat.lt_of_lt_of_le hg HBk.out.size) HR1.out (by rw [← HMM.out]; omega) (by omega) HF1.out)
  rw [← HMM.out] at Y
  unfold csV at Y
  rw [HAC.out] at Y
  go_wp2_with (first | (go_at_call 66; refine Y.out.mono ?_; rintro e w2 ⟨v2, rfl, hrd2, hb2⟩; have HB2 := Lib.hid (HBk.out.trans (hb2.mono HBk.out.size)); have HC2 := Lib.hid ((hb2.block _ (block_lt HCk.out)).trans HCk.out); have hs2 := hb2.size; have HRD2 := Lib.hid hrd2; have HM2 := Lib.hid (HM.out.kept HB2.out); obtain ⟨vo, vc, hvf, hvr⟩ := HM2.out.at_ hf0 hf4; have HVR := Lib.hid hvr; have hmk2 := block_lt HM2.out.blk; have HR2 := Lib.hid (rangeK hb2 (Nat.lt_of_lt_of_le hg HBk.out.size) HR1.out); clear hb2 hrd2 hvr Y HBk HCk HR1) | go_in)
  go_loopw [37, 10] (fun i o wr => ∃ j : Nat, i = .int .i64 j ∧ j ≤ (vs f).length ∧ Hid (∃ acc, RdC w2.heap.size o acc wr ∧ acc = ((vs f).take j).flatMap G) ∧ Hid (Below w2.heap.size w2 wr)) (fun i _ _ => (vs f).length - (intOf i).toNat)
  case atStart => exact ⟨0, rfl, Nat.zero_le _, Lib.hid ⟨[], RdC.nil _ _, by rw [List.take_zero]; rfl⟩, Lib.hid (Below.refl _ _)⟩
  case round =>
    obtain ⟨j, rfl, hj, HA0, HBr⟩ := hrel
    obtain ⟨acc, ha, hacc⟩ := HA0.out
    have HA := Lib.hid ha
    have HACC := Lib.hid hacc
    clear ha hacc HA0
    have HCr := Lib.hid ((HBr.out.block _ (block_lt HC2.out)).trans HC2.out)
    have hlr := block_lt HCr.out
    have hvn : (vs f).length ≤ maxLen := by
      obtain ⟨_, _, _, h1, h2⟩ := HVR.out.form
      exact Nat.le_trans h1 h2
    unfold maxLen at hvn
    by_cases hlt : j < (vs f).length
    · have hd : decide ((j : Int) < ((vs f).length : Int)) = true := by simp; omega
      obtain ⟨va, rfl, hvb, hvc⟩ := int_at (HVR.out.kept HBr.out) j hlt
      have HT := Lib.hid (show (vs f).take (j + 1) = (vs f).take j ++ [(vs f)[j]] by rw [List.take_succ_eq_append_getElem hlt])
      have HFI := Lib.hid (HF2.out _ (List.getElem_mem hlt))
      obtain ⟨vj, hvj⟩ : ∃ v, v = (vs f)[j] := ⟨_, rfl⟩
      rw [← hvj] at hvc HT HFI
      clear hvj
      go_wp2_with (refine stop_load 89 _ rfl ?_)
      obtain ⟨f89, hu89⟩ := und89
      refine Stop.go (wpList_load_row rfl 89 _ rfl w.heap.size rfl 89 _ (0, 0) _ HCr.out hu89 rfl (by rw [hz]; exact inf89) ?_)
      clear hu89
      have W := Lib.hid (with_c k f vj none 0 0 wr hf0 hf4)
      unfold Ret csV at W
      rw [HAC.out] at W
      obtain ⟨ac2, hac2⟩ : ∃ a, csA (withS k f vj) (.slice none 0 0) = a := ⟨_, rfl⟩
      rw [hac2] at W
      obtain ⟨b, hb⟩ : ∃ b, alikeF (casesF vs sw d x fs (withS k f vj)) (casesF vs sw d x fs k) = b := ⟨_, rfl⟩
      have HAB := Lib.hid hb
      clear hb
      have hnot : ∀ (x : Bool) (w : World), (Op.unary .not (.bool x)).run Tryz.prog w = .ok (.bool (!x)) w := fun _ _ => rfl
      go_wp2_with (first | (go_at_call 88; refine W.out.mono ?_; rintro e w3 ⟨rfl, hb3⟩; have HB3 := Lib.hid (HBr.out.trans (hb3.mono HBr.out.size)); have hs3 := hb3.size; have HW3 := Lib.hid hb3; clear hb3 W) | (go_at_call 66; have hg2 : g < w2.heap.size := (Nat.lt_of_lt_of_le hg HB2.out.size); have Z := HIH.out g i2 (c - 1) (withS k f vj) w3 (HM2.out.kept HB3.out) (Nat.lt_of_lt_of_le hg2 HB3.out.size) (rangeK HB3.out hg2 HR2.out) (by rw [← HMM.out]; omega) (by omega) HFI.out.1; unfold csV at Z; rw [← HMM.out, hac2] at Z; refine Z.mono ?_; rintro e w4 ⟨v4, rfl, hrd4, hb4⟩; have HB4 := Lib.hid (HB3.out.trans (hb4.mono HB3.out.size)); have hs4 := hb4.size; have HW4 := Lib.hid (HW3.out.trans (hb4.mono hs3)); have HRD4 := Lib.hid hrd4; clear hb4 hrd4 Z) | (go_at_call 89; have Q := RdC.alike HRD4.out (HRD2.out.kept HB4.out) HFI.out.2 hf0 hf4 (casesF_pos _ _ _ _ _ _); rw [HAB.out] at Q; refine Q.mono ?_; rintro e w5 ⟨rfl, hb5⟩; have HB5 := Lib.hid (HB4.out.trans (hb5.mono HB4.out.size)); have hs5 := hb5.size; have HW5 := Lib.hid (HW4.out.trans (hb5.mono HW4.out.size)); have HRD5 := Lib.hid (HRD4.out.kept hb5); clear hb5 Q; cases b) | (at_builtin; refine stop_list ?_) | fail)
      rotate_left
      · have hgv : G vj = [] := by rw [HGG.out, if_pos HAB.out]
        go_roundw
        case rel => exact ⟨j + 1, by go_num, hlt, Lib.hid ⟨acc, HA.out.kept HW5.out, by rw [HT.out, List.flatMap_append, ← HACC.out, List.flatMap_cons, hgv]; simp⟩, HB5⟩
        case measure => simp [intOf]; omega
      · have hgv : G vj = casesF vs sw d x fs (withS k f vj) := by rw [HGG.out, if_neg (by rw [HAB.out]; decide)]
        have hacc : acc.length ≤ 1000000 := by
          have h1 := HGL.out ((vs f).take j) (fun v hv => List.mem_of_mem_take hv)
          rw [← HACC.out, List.length_take] at h1
          have h2 := HVL.out
          omega
        have hll : (casesF vs sw d x fs (withS k f vj)).length ≤ 1000 := HFI.out.2.2.1
        have hpos : 0 < (casesF vs sw d x fs (withS k f vj)).length := casesF_pos _ _ _ _ _ _
        obtain ⟨L, hL⟩ : ∃ L, casesF vs sw d x fs (withS k f vj) = L := ⟨_, rfl⟩
        have HHL := Lib.hid hL
        rw [hL] at hgv hll hpos
        clear hL
        have HGV := Lib.hid hgv
        have HLN := Lib.hid (And.intro hacc (And.intro hll hpos))
        clear hgv hacc hll hpos
        have HRL := HRD5.out
        rw [HHL.out] at HRL
        have HRL2 := Lib.hid HRL
        clear HRL HRD5 HRD4
        refine Stop.go (push_cases rfl (.tmp 53) (.tmp 54) rfl w2.heap.size w3.heap.size u10 v4 acc L rfl rfl (HA.out.kept HW5.out) HRL2.out HB3.out.size HB5.out.size HLN.out.2.2 (by have := HLN.out.1; omega) HLN.out.2.1 ?_)
        intro v6 w6 hr6 hb6 h16
        have HR6 := Lib.hid hr6
        have HB6 := Lib.hid (hb6 _ HB5.out)
        clear hr6 hb6
        go_wp2_with fail
        go_roundw
        case rel => exact ⟨j + 1, by go_num, hlt, Lib.hid ⟨acc ++ L, HR6.out, by rw [HT.out, List.flatMap_append, ← HACC.out, List.flatMap_cons, HGV.out]; simp⟩, HB6⟩
        case measure => simp [intOf]; omega
    · obtain rfl : j = (vs f).length := by omega
      have hd : decide (((vs f).length : Int) < ((vs f).length : Int)) = false := by simp
      have hpos : 0 < (casesF vs sw d x fs k).length := casesF_pos _ _ _ _ _ _
      have HPO := Lib.hid hpos
      have hal : acc.length ≤ 1000000 := by
        have h1 := HGL.out (vs f) (fun v hv => hv)
        rw [List.take_length] at HACC
        rw [← HACC.out] at h1
        have h2 := HVL.out
        omega
      have HAL := Lib.hid hal
      clear hpos hal
      go_wp2_with (first | (at_builtin; refine stop_list ?_) | fail)
      refine Stop.go (push_cases rfl (.tmp 57) (.tmp 58) rfl w.heap.size w1.heap.size u10 v2 acc (casesF vs sw d x fs k) rfl rfl (HA.out.mono HB2.out.size) (HRD2.out.kept HBr.out) (by omega) (Nat.le_trans HB2.out.size HBr.out.size) HPO.out (by have := HAL.out; omega) HCL.out ?_)
      intro v6 w6 hr6 hb6 h16
      have HR6 := Lib.hid hr6
      have HB6 := Lib.hid (hb6 _ (HB2.out.trans (HBr.out.mono HB2.out.size)))
      clear hr6 hb6
      go_wp2_with fail
      go_ret
      rw [List.take_length] at HACC
      rw [HRG.out, ← HACC.out]
      exact ⟨_, rfl, HR6.out, HB6.out⟩
end Go.Proofs.YtekfkieimdgfkaaGreat
