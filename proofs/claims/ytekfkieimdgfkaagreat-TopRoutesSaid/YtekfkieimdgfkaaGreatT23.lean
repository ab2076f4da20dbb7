/- What is proved here: rows of cases, compared but for a field. Condition: each pair's verdict is given. -/
import Derived.Test.YtekfkieimdgfkaaGreatT22
namespace Go.Proofs.YtekfkieimdgfkaaGreat
open Go Go.RowKit
attribute [local go_sem] KW.cell KW.frozen
/-- A case in memory: what is known, and its slice. -/
abbrev Cv := Sn × Value
def cvE (x : Cv) : List Value := (csA x.1 x.2).toList
theorem cvE_len (x : Cv) : (cvE x).length = 6 := rfl
theorem call_127 (ar : Array Value) (w : World) : (callFunc 127 ar).run Tryz.prog w = .ok (.enter 127 ar) w := by kernel_rfl
/-- From block g's head on lie these cases. -/
def RowC (g : Nat) (xs : List Cv) (w : World) : Prop := g < w.heap.size ∧ ∀ k (h : k < xs.length), w.rangeAt g (k * 6) (cvE xs[k])
theorem RowC.kept {g B : Nat} {xs : List Cv} {w w' : World} (h : RowC g xs w) (hb : Below B w w') (hB : g < B) : RowC g xs w' :=
  ⟨Nat.lt_of_lt_of_le h.1 hb.size, fun k hk j v hj => by
    rw [World.cell?_of_block (w := w) (w' := w') (a := ⟨g, k * 6 + j, none⟩) (hb.block g hB)]
    exact h.2 k hk j v hj⟩
set_option maxRecDepth 100000 in
set_option maxHeartbeats 4000000 in
theorem equal126_c (g1 g2 c1 c2 bf : Nat) (xs ys : List Cv) (q : Nat → Bool) (w : World) (hl : ys.length = xs.length) (hm : xs.length ≤ 1000) (h1 : RowC g1 xs w) (h2 : RowC g2 ys w)
    (hf1 : ∀ x ∈ xs, ∃ o n c, x.2 = .slice o n c) (hf2 : ∀ x ∈ ys, ∃ o n c, x.2 = .slice o n c)
    (X : ∀ k (hx : k < xs.length) (hy : k < ys.length), ∀ w', Below w.heap.size w w' → Ret 127 #[csV xs[k].1 xs[k].2, csV ys[k].1 ys[k].2, .pointer (some ⟨bf, 0, none⟩)] (.bool (q k)) w') :
    Ret 126 #[.slice (some ⟨g1, 0, none⟩) xs.length c1, .slice (some ⟨g2, 0, none⟩) ys.length c2, .func (.func 127) #[] #[.pointer (some ⟨bf, 0, none⟩)]] (.bool ((List.range xs.length).all q)) w := by
  have H1 := Lib.hid h1
  have H2 := Lib.hid h2
  have XX := Lib.hid X
  have HF1 := Lib.hid hf1
  have HF2 := Lib.hid hf2
  have hnot : ∀ (x : Bool) (w : World), (Op.unary .not (.bool x)).run Tryz.prog w = .ok (.bool (!x)) w := fun _ _ => rfl
  obtain ⟨r, hr⟩ : ∃ r, (List.range xs.length).all q = r := ⟨_, rfl⟩
  rw [hr]
  have HRR := Lib.hid hr
  rw [hl]
  have HL := Lib.hid hl
  clear h1 h2 X hr hf1 hf2 hl
  have hf := call_127
  unfold Ret
  go_enter Tryz.func126, Tryz.ntmps126
  go_wp2_with fail
  go_loopw [17] (fun i wr => ∃ k : Nat, i = .int .i64 k ∧ k ≤ xs.length ∧ Hid (∀ j, j < k → q j = true) ∧ Hid (Below w.heap.size w wr)) (fun i _ => xs.length - (intOf i).toNat)
  case atStart => exact ⟨0, rfl, Nat.zero_le _, Lib.hid (fun j h => absurd h (by omega)), Lib.hid (Below.refl _ _)⟩
  case round =>
    obtain ⟨k, rfl, hk, HA, HB⟩ := hrel
    by_cases hlt : k < xs.length
    · have hd : decide ((k : Int) < (xs.length : Int)) = true := by simp; omega
      have hk2 : (k : Int) < (xs.length : Int) := by omega
      have hky : k < ys.length := by rw [HL.out]; exact hlt
      have hg1 := H1.out.1
      have hg2 := H2.out.1
      have hsz := HB.out.size
      obtain ⟨o1, n1, m1, e1⟩ := HF1.out xs[k] (List.getElem_mem hlt)
      obtain ⟨o2, n2, m2, e2⟩ := HF2.out ys[k] (List.getElem_mem hky)
      have R1 := Lib.hid ((H1.out.kept HB.out hg1).2 k hlt)
      have R2 := Lib.hid ((H2.out.kept HB.out hg2).2 k hky)
      have HX := Lib.hid (XX.out k hlt hky)
      unfold cvE at R1 R2
      unfold csV at HX
      rw [e1] at R1 HX
      rw [e2] at R2 HX
      obtain ⟨ac, hac⟩ : ∃ a, csA xs[k].1 (.slice o1 n1 m1) = a := ⟨_, rfl⟩
      obtain ⟨ad, had⟩ : ∃ a, csA ys[k].1 (.slice o2 n2 m2) = a := ⟨_, rfl⟩
      have hzc : ac.size = 6 := by rw [← hac]; rfl
      have hzd : ad.size = 6 := by rw [← had]; rfl
      have hoc : ac.toList.all (·.oneCell') = true := by rw [← hac]; rfl
      have hod : ad.toList.all (·.oneCell') = true := by rw [← had]; rfl
      rw [hac] at R1 HX
      rw [had] at R2 HX
      clear hac had e1 e2
      obtain ⟨f89, hu89⟩ := und89
      have HU := Lib.hid hu89
      clear hu89
      go_wp2_with (refine stop_load 89 _ rfl ?_)
      refine Stop.go (wpList_load_mid rfl 89 _ rfl g1 (k * 6) rfl ac.toList (.struct f89) R1.out HU.out rfl (by rw [Array.length_toList, hzc]; exact inf89) ?_)
      go_wp2_with (refine stop_store 89 _ _ rfl ?_)
      refine Stop.go (abs_list ?_)
      intro w4 e4
      have hb4 : Below wr.heap.size wr w4 := by rw [e4]; exact grow1 wr _
      have hg4 : w4.heap[wr.heap.size]? = some (.cells zero89 89 (0, 0)) := by rw [e4]; exact heap_alloc_new wr _
      have hs4 : w4.heap.size = wr.heap.size + 1 := by rw [e4]; simp
      clear e4
      refine wpList_store_o rfl 89 _ _ rfl wr.heap.size ac rfl rfl 89 _ hg4 (by rw [hzc]; exact inf89) (by rw [hzc]; rfl) hoc ?_
      intro w5 hg5 ho5
      have HB5 := Lib.hid (ho5.belowT hb4 (Nat.le_refl _))
      have HG5 := Lib.hid hg5
      have hs5 : w5.heap.size = wr.heap.size + 1 := by rw [ho5.size, hs4]
      have HS5 := Lib.hid hs5
      have R25 := Lib.hid (show w5.rangeAt g2 (k * 6) ad.toList from fun j v hj => by
        rw [World.cell?_of_block (w := wr) (w' := w5) (a := ⟨g2, k * 6 + j, none⟩) (HB5.out.block g2 (by omega))]
        exact R2.out j v hj)
      clear hb4 hg4 hs4 hg5 ho5 hs5 R1 R2
      go_wp2_with (refine stop_load 89 _ rfl ?_)
      refine Stop.go (wpList_load_mid rfl 89 _ rfl g2 (k * 6) rfl ad.toList (.struct f89) R25.out HU.out rfl (by rw [Array.length_toList, hzd]; exact inf89) ?_)
      go_wp2_with (refine stop_store 89 _ _ rfl ?_)
      refine Stop.go (abs_list ?_)
      intro w6 e6
      have hb6 : Below w5.heap.size w5 w6 := by rw [e6]; exact grow1 w5 _
      have hg6 : w6.heap[w5.heap.size]? = some (.cells zero89 89 (0, 0)) := by rw [e6]; exact heap_alloc_new w5 _
      clear e6
      refine wpList_store_o rfl 89 _ _ rfl w5.heap.size ad rfl rfl 89 _ hg6 (by rw [hzd]; exact inf89) (by rw [hzd]; rfl) hod ?_
      intro w7 hg7 ho7
      have hb7 := ho7.belowT hb6 (Nat.le_refl _)
      have HG7 := Lib.hid hg7
      have HC7 := Lib.hid ((hb7.block wr.heap.size (by rw [HS5.out]; omega)).trans HG5.out)
      have HB7 := Lib.hid (HB.out.trans ((HB5.out.trans (hb7.mono HB5.out.size)).mono hsz))
      clear hb6 hg6 hg7 ho7 hb7 R25 HG5 HB5 HS5
      go_wp2_with (refine stop_load 89 _ rfl ?_)
      refine Stop.go (wpList_load_row rfl 89 _ rfl wr.heap.size rfl 89 _ (0, 0) _ HC7.out HU.out rfl (by rw [hzc]; exact inf89) ?_)
      refine wpList_load_row rfl 89 _ rfl w5.heap.size rfl 89 _ (0, 0) _ HG7.out HU.out rfl (by rw [hzd]; exact inf89) ?_
      have HY := Lib.hid (HX.out w7 HB7.out)
      obtain ⟨b, hb⟩ : ∃ b, q k = b := ⟨_, rfl⟩
      rw [hb] at HY
      have HQ := Lib.hid hb
      clear hb HX HC7 HG7 HU hd hk2
      unfold Ret at HY
      go_wp2_with fail
      refine HY.out.mono ?_
      rintro e w8 ⟨rfl, hb8⟩
      have HB8 := Lib.hid (HB7.out.trans (hb8.mono HB7.out.size))
      clear hb8 HB7 HY
      cases b with
      | true =>
        have HA2 := Lib.hid (show ∀ j, j < k + 1 → q j = true from fun j hj => by
          rcases (by omega : j < k ∨ j = k) with h | rfl
          · exact HA.out j h
          · exact HQ.out)
        clear HA HQ
        go_wp2_with fail
        go_roundw
        case rel => exact ⟨k + 1, by go_num, hlt, HA2, HB8⟩
        case measure => simp [intOf]; omega
      | false =>
        have hrf : r = false := by
          rw [← HRR.out, List.all_eq_false]
          exact ⟨k, List.mem_range.2 hlt, by rw [HQ.out]; simp⟩
        subst hrf
        go_wp2_with fail
        go_ret
        exact ⟨rfl, HB8.out⟩
    · obtain rfl : k = xs.length := by omega
      have hd : decide ((xs.length : Int) < (xs.length : Int)) = false := by simp
      have hrt : r = true := by
        rw [← HRR.out, List.all_eq_true]
        exact fun j hj => HA.out j (List.mem_range.1 hj)
      subst hrt
      go_wp2_with fail
      go_ret
      exact ⟨rfl, HB.out⟩
end Go.Proofs.YtekfkieimdgfkaaGreat
/- What is proved here: rows of cases are alike. Condition: each pair's verdict is given. -/
namespace Go.Proofs.YtekfkieimdgfkaaGreat
open Go Go.RowKit
attribute [local go_sem] KW.cell KW.frozen
set_option maxRecDepth 100000 in
set_option maxHeartbeats 4000000 in
theorem alike_c (g1 g2 c1 c2 : Nat) (xs ys : List Cv) (f : Int) (q : Nat → Bool) (w : World) (hl : ys.length = xs.length) (hm : xs.length ≤ 1000) (h1 : RowC g1 xs w) (h2 : RowC g2 ys w)
    (hf1 : ∀ x ∈ xs, ∃ o n c, x.2 = .slice o n c) (hf2 : ∀ x ∈ ys, ∃ o n c, x.2 = .slice o n c)
    (X : ∀ k (hx : k < xs.length) (hy : k < ys.length), ∀ bf w', Below w.heap.size w w' → bf < w'.heap.size → w'.cell? ⟨bf, 0, none⟩ = some (.int .i64 f) → Ret 127 #[csV xs[k].1 xs[k].2, csV ys[k].1 ys[k].2, .pointer (some ⟨bf, 0, none⟩)] (.bool (q k)) w') :
    Ret 89 #[.slice (some ⟨g1, 0, none⟩) xs.length c1, .slice (some ⟨g2, 0, none⟩) ys.length c2, .int .i64 f] (.bool ((List.range xs.length).all q)) w := by
  have hmf : ∀ (fn : Fn) (first cap : Array Value) (w : World), (Instr.makeFunc fn first cap).run Tryz.prog w = .ok (.func fn first cap) w := fun _ _ _ _ => rfl
  have hb1 : Below w.heap.size w (w.alloc (.cells #[.int .i64 f] 3)) := grow1 w _
  have hc1 : (w.alloc (.cells #[.int .i64 f] 3)).heap[w.heap.size]? = some (.cells #[.int .i64 f] 3 (0, 0)) := heap_alloc_new w _
  have Y := Lib.hid (equal126_c g1 g2 c1 c2 w.heap.size xs ys q _ hl hm (h1.kept hb1 h1.1) (h2.kept hb1 h2.1) hf1 hf2 (fun k hx hy w' hb => X k hx hy w.heap.size w' (hb1.trans (hb.mono hb1.size)) (Nat.lt_of_lt_of_le (block_lt hc1) hb.size) (by rw [block_cell ((hb.block _ (block_lt hc1)).trans hc1)]; rfl)))
  have HB := Lib.hid hb1
  obtain ⟨r, hr⟩ : ∃ r, (List.range xs.length).all q = r := ⟨_, rfl⟩
  rw [hr, hl] at Y ⊢
  clear hb1 hc1 h1 h2 hf1 hf2 X hr hl
  unfold Ret at Y ⊢
  go_enter Tryz.func89, Tryz.ntmps89
  go_wp2_with fail
  refine Y.out.mono ?_
  rintro e w1 ⟨rfl, hb⟩
  have HB1 := Lib.hid (HB.out.trans (hb.mono HB.out.size))
  clear hb HB Y
  go_wp2_with fail
  go_ret
  exact ⟨rfl, HB1.out⟩
end Go.Proofs.YtekfkieimdgfkaaGreat
/- What is proved here: rows of cases in memory; the cases when no field is left. Condition: at most one packet comes. -/
namespace Go.Proofs.YtekfkieimdgfkaaGreat
open Go Go.RowKit
attribute [local go_sem] KW.cell KW.frozen
/-- A case: what is known, and what comes. -/
abbrev Cs := Sn × List Sn
/-- The row v, of one's own from block B on, is these cases. -/
def RdC (B : Nat) (v : Value) (l : List Cs) (w : World) : Prop :=
  ∃ xs : List Cv, xs.map Prod.fst = l.map Prod.fst ∧ w.ownsRow B 89 6 v l.length (flatR cvE xs) ∧ ∀ i (h : i < xs.length) (h' : i < l.length), w.ownsRow B 63 5 xs[i].2 l[i].2.length (flatR stE l[i].2)
theorem RdC.kept {B : Nat} {v : Value} {l : List Cs} {w w' : World} (h : RdC B v l w) (hb : Below w.heap.size w w') : RdC B v l w' := by
  obtain ⟨xs, h1, h2, h3⟩ := h
  exact ⟨xs, h1, own_kept h2 hb, fun i hi hj => own_kept (h3 i hi hj) hb⟩
theorem RdC.mono {B B' : Nat} {v : Value} {l : List Cs} {w : World} (h : RdC B v l w) (hB : B' ≤ B) : RdC B' v l w := by
  obtain ⟨xs, h1, h2, h3⟩ := h
  exact ⟨xs, h1, own_mono h2 hB, fun i hi hj => own_mono (h3 i hi hj) hB⟩
theorem last_c (mk : Nat) (sw : Int) (k : Sn) (d : Nat) (x : Pol) (u : Value) (vs : List Value) (w : World) (hm : w.heap[mk]? = some (.cells (mkA x u sw vs) 132 (0, 0))) (hr : RdP AnyP (d + 1) u x.l w) (ho : OkR d x) (h1 : OneOk sw d x k) (hl : (semL sw d x k).length ≤ 1) :
    Calls Tryz.prog 87 #[.pointer (some ⟨mk, 0, none⟩), csV k (.slice none 0 0)] w fun e w' => ∃ o, e = .returned (csV k o) ∧ w'.ownsRow w.heap.size 63 5 o (lastL sw d x k).length (flatR stE (lastL sw d x k)) ∧ Below w.heap.size w w' := by
  unfold lastL
  match hs : semL sw d x k with
  | [] => exact last_none mk sw k d x u vs w hm hr ho h1 hs
  | [s] => exact last_one mk sw k d x u vs w hm hr ho h1 s hs
  | s :: t :: r => rw [hs] at hl; simp at hl
set_option maxRecDepth 100000 in
set_option maxHeartbeats 4000000 in
theorem cases_nil (mk : Nat) (sw : Int) (k : Sn) (d : Nat) (x : Pol) (u : Value) (vs : List Value) (fo : Option Addr) (fc : Nat) (w : World) (hm : w.heap[mk]? = some (.cells (mkA x u sw vs) 132 (0, 0))) (hr : RdP AnyP (d + 1) u x.l w) (ho : OkR d x) (h1 : OneOk sw d x k) (hl : (semL sw d x k).length ≤ 1) :
    Calls Tryz.prog 66 #[.pointer (some ⟨mk, 0, none⟩), .slice fo 0 fc, csV k (.slice none 0 0)] w fun e w' => ∃ v, e = .returned v ∧ RdC w.heap.size v [(k, lastL sw d x k)] w' ∧ Below w.heap.size w w' := by
  have hb0 : Below w.heap.size w (w.alloc (.cells (csA k (.slice none 0 0)) 89)) := grow1 w _
  have hmk := block_lt hm
  have Y := Lib.hid (last_c mk sw k d x u vs _ ((hb0.block mk hmk).trans hm) (hr.kept hb0) ho h1 hl)
  have HB := Lib.hid hb0
  have HC := Lib.hid (heap_alloc_new w (.cells (csA k (.slice none 0 0)) 89))
  obtain ⟨L, hL⟩ : ∃ L, lastL sw d x k = L := ⟨_, rfl⟩
  rw [hL] at Y ⊢
  clear hb0 hm hr ho h1 hl hL
  unfold csV at Y ⊢
  obtain ⟨ac, hac⟩ : ∃ a, csA k (.slice none 0 0) = a := ⟨_, rfl⟩
  rw [hac] at Y HB HC ⊢
  have hz : ac.size = 6 := by rw [← hac]; rfl
  clear hac
  go_enter Tryz.func66, Tryz.ntmps66
  go_wp2_with (refine stop_load 89 _ rfl ?_)
  obtain ⟨f89, hu89⟩ := und89
  refine Stop.go (wpList_load_row rfl 89 _ rfl w.heap.size rfl 89 _ (0, 0) _ HC.out hu89 rfl (by rw [hz]; exact inf89) ?_)
  clear hu89
  go_wp2_with fail
  refine Y.out.mono ?_
  rintro e w1 ⟨o, rfl, hown, hb1⟩
  obtain ⟨oa, oc, rfl, _, _⟩ := own_form hown
  have HO := Lib.hid (own_mono (B' := w.heap.size) hown (by simp))
  have HB1 := Lib.hid (HB.out.trans (hb1.mono (by simp)))
  clear hown hb1 Y HB HC
  obtain ⟨p, a, b, c, dd⟩ := k
  simp only [csA]
  go_wp2_with fail
  have HG := Lib.hid (heap_alloc_new w1 (.cells #[.int .i64 p, .int .i64 a, .int .i64 b, .int .i64 c, .int .i64 dd, .slice oa L.length oc] 89))
  have HB2 := Lib.hid (HB1.out.alloc HB1.out.size (.cells #[.int .i64 p, .int .i64 a, .int .i64 b, .int .i64 c, .int .i64 dd, .slice oa L.length oc] 89))
  have HO2 := Lib.hid (own_kept HO.out (grow1 w1 (.cells #[.int .i64 p, .int .i64 a, .int .i64 b, .int .i64 c, .int .i64 dd, .slice oa L.length oc] 89)))
  have hsz := HB1.out.size
  go_ret
  refine ⟨_, rfl, ⟨[((p, a, b, c, dd), .slice oa L.length oc)], rfl, ⟨rfl, .inr ⟨w1.heap.size, 1, _, rfl, hsz, HG.out, Nat.le_refl _, by decide, rfl, rfl⟩⟩, fun i hi hj => ?_⟩, HB2.out⟩
  have h0 : i = 0 := by simp at hi; omega
  subst h0
  exact HO2.out
end Go.Proofs.YtekfkieimdgfkaaGreat
/- What is proved here: rows of cases are alike; which cases there are. Condition: where two differ, their packets' numbers do. -/
namespace Go.Proofs.YtekfkieimdgfkaaGreat
open Go Go.RowKit
attribute [local go_sem] KW.cell KW.frozen
theorem own_rowC {B n : Nat} {v : Value} {xs : List Cv} {w : World} (h : w.ownsRow B 89 6 v n (flatR cvE xs)) (hn : 0 < n) (hx : xs.length = n) : ∃ g cap, v = .slice (some ⟨g, 0, none⟩) n cap ∧ B ≤ g ∧ RowC g xs w := by
  rcases h.2 with ⟨_, h0⟩ | ⟨g, cap, cur, rfl, hB, hg, _, _, hz, ht⟩
  · omega
  · refine ⟨g, cap, rfl, hB, block_lt hg, fun k hk j u hj => ?_⟩
    have hf := flatR_get cvE_len xs k hk j u hj
    rw [← ht, List.getElem?_take] at hf
    split at hf
    · rw [block_cell hg]
      simpa using hf
    · cases hf
/-- Two rows of cases have the same outcomes. -/
def alikeF (l o : List Cs) : Bool := (List.range l.length).all fun i => decide ((l[i]?.map Prod.snd) = (o[i]?.map Prod.snd))
/-- Two rows of cases can be compared, but for field f. -/
def CmpC (f : Int) (l o : List Cs) : Prop :=
  o.length = l.length ∧ l.length ≤ 1000 ∧ ∀ i (h : i < l.length) (h' : i < o.length), withS l[i].1 f (-1) = withS o[i].1 f (-1) ∧ (l[i].2 = o[i].2 ∨ l[i].2.length ≠ o[i].2.length) ∧ l[i].2.length ≤ 1 ∧ o[i].2.length ≤ 1
theorem equal128_c (B1 B2 : Nat) (v1 v2 : Value) (l o : List Sn) (w : World) (h1 : w.ownsRow B1 63 5 v1 l.length (flatR stE l)) (h2 : w.ownsRow B2 63 5 v2 o.length (flatR stE o)) (hc : l = o ∨ l.length ≠ o.length) (hl : l.length ≤ 1) (ho : o.length ≤ 1) :
    Ret 128 #[v1, v2] (.bool (decide (l = o))) w := by
  obtain ⟨a1, c1, rfl, _, _⟩ := own_form h1
  obtain ⟨a2, c2, rfl, _, _⟩ := own_form h2
  rcases hc with rfl | hne
  · rw [decide_eq_true rfl]
    match l, hl with
    | [], _ => exact equal128_nil a1 a2 c1 c2 w
    | [s], _ =>
      obtain ⟨g1, k1, e1, _, hg1, hr1⟩ := own_one h1
      obtain ⟨g2, k2, e2, _, hg2, hr2⟩ := own_one h2
      cases e1
      cases e2
      exact equal128_one g1 g2 c1 c2 s w hg1 hg2 hr1 hr2
  · rw [decide_eq_false (fun e => hne (by rw [e]))]
    exact equal128_ne a1 a2 _ _ c1 c2 w hne hl ho
theorem RdC.alike {B1 B2 : Nat} {v1 v2 : Value} {l o : List Cs} {f : Int} {w : World} (h1 : RdC B1 v1 l w) (h2 : RdC B2 v2 o w) (hc : CmpC f l o) (h0 : 0 ≤ f) (h4 : f ≤ 4) (hn : 0 < l.length) : Ret 89 #[v1, v2, .int .i64 f] (.bool (alikeF l o)) w := by
  obtain ⟨xs, hx, ho1, hs1⟩ := h1
  obtain ⟨ys, hy, ho2, hs2⟩ := h2
  obtain ⟨hlen, hm, hp⟩ := hc
  have hxl : xs.length = l.length := by simpa using congrArg List.length hx
  have hyl : ys.length = o.length := by simpa using congrArg List.length hy
  obtain ⟨g1, c1, rfl, _, hr1⟩ := own_rowC ho1 hn hxl
  obtain ⟨g2, c2, rfl, _, hr2⟩ := own_rowC ho2 (by omega) hyl
  have hf1 : ∀ x ∈ xs, ∃ o n c, x.2 = .slice o n c := fun x hx => by
    obtain ⟨i, hi, rfl⟩ := List.getElem_of_mem hx
    obtain ⟨a, c, e, _, _⟩ := own_form (hs1 i hi (by omega))
    exact ⟨_, _, _, e⟩
  have hf2 : ∀ x ∈ ys, ∃ o n c, x.2 = .slice o n c := fun x hx => by
    obtain ⟨i, hi, rfl⟩ := List.getElem_of_mem hx
    obtain ⟨a, c, e, _, _⟩ := own_form (hs2 i hi (by omega))
    exact ⟨_, _, _, e⟩
  have H := alike_c g1 g2 c1 c2 xs ys f (fun i => decide ((l[i]?.map Prod.snd) = (o[i]?.map Prod.snd))) w (by omega) (by omega) hr1 hr2 hf1 hf2 (fun k hkx hky bf w' hb hbf hfc => by
    have hkl : k < l.length := by omega
    have hko : k < o.length := by omega
    obtain ⟨p1, p2, p3, p4⟩ := hp k hkl hko
    have e1 : xs[k].1 = l[k].1 := by
      have := congrArg (·[k]?) hx
      simpa [hkx, hkl] using this
    have e2 : ys[k].1 = o[k].1 := by
      have := congrArg (·[k]?) hy
      simpa [hky, hko] using this
    have q1 := hs1 k hkx hkl
    have q2 := hs2 k hky hko
    obtain ⟨a1, d1, s1, _, _⟩ := own_form q1
    obtain ⟨a2, d2, s2, _, _⟩ := own_form q2
    have eq : decide ((l[k]?.map Prod.snd) = (o[k]?.map Prod.snd)) = decide (l[k].2 = o[k].2) := by simp [hkl, hko]
    rw [eq, e1, e2, s1, s2]
    rw [s1] at q1
    rw [s2] at q2
    exact same127_c _ _ _ _ _ _ _ _ bf f _ w' h0 h4 hbf hfc p1 (fun w'' hb' => equal128_c B1 B2 _ _ _ _ w'' (own_kept q1 (hb.trans (hb'.mono hb.size))) (own_kept q2 (hb.trans (hb'.mono hb.size))) p2 p3 p4))
  have e3 : (List.range xs.length).all (fun i => decide ((l[i]?.map Prod.snd) = (o[i]?.map Prod.snd))) = alikeF l o := by unfold alikeF; rw [hxl]
  rw [e3, hxl, hyl] at H
  exact H
section
variable (vs : Int → List Int) (sw : Int) (d : Nat) (x : Pol)
/-- The cases of these fields, where so much is known. -/
def casesF : List Int → Sn → List Cs
  | [], k => [(k, lastL sw d x k)]
  | f :: rest, k => (vs f).flatMap (fun v => if alikeF (casesF rest (withS k f v)) (casesF rest k) = true then [] else casesF rest (withS k f v)) ++ casesF rest k
/-- All comparisons on the way can be made. -/
def FineC : List Int → Sn → Prop
  | [], k => OneOk sw d x k ∧ (semL sw d x k).length ≤ 1
  | f :: rest, k => 0 ≤ f ∧ f ≤ 4 ∧ (vs f).length ≤ 1000 ∧ (casesF vs sw d x rest k).length ≤ 1000 ∧ FineC rest k ∧ ∀ v ∈ vs f, FineC rest (withS k f v) ∧ CmpC f (casesF vs sw d x rest (withS k f v)) (casesF vs sw d x rest k)
theorem casesF_pos : ∀ (fs : List Int) (k : Sn), 0 < (casesF vs sw d x fs k).length
  | [], _ => Nat.one_pos
  | f :: rest, k => by
    have := casesF_pos rest k
    unfold casesF
    rw [List.length_append]
    omega
end
end Go.Proofs.YtekfkieimdgfkaaGreat
