/- What is proved here: what sending a flight does, of both channels. Condition: it lies in memory of the call's own. -/
import Derived.Test.YthmglahcampllaaCa
import Derived.Deep.AppendLies
import Derived.Deep.RegionLaw
namespace Go.Proofs.Ythmglahcampllaa
open Go Go.RowKit
attribute [local go_sem] KW.cell KW.frozen
namespace Ch
theorem info72 : (Try.prog.info? 72).map (fun i => (i.zero, i.size, i.bytes)) = some (some (.agg #[.int .i64 0, .bool false, .string ⟨#[]⟩]), 3, 32) := by kernel_rfl
theorem info65 : (Try.prog.info? 65).map (fun i => (i.zero, i.size, i.bytes)) = some (some (.agg #[.int .i64 0, .bool false, .string ⟨#[]⟩]), 3, 32) := by kernel_rfl
theorem own_snoc {B E : Nat} {w : World} {u : Value} {l : List Fl} {sw : Int} {up : Bool} {s : ByteArray} (h : w.ownsRow B E 3 u (l.length + 1) (flat l ++ [.int .i64 sw, .bool up, .string s])) :
    w.ownsRow B E 3 u (l ++ [(sw, up, s)]).length (flat (l ++ [(sw, up, s)])) := by
  rw [flat_append, List.length_append]
  exact h
section
variable {B q : Nat} {w : World} {v : Value} {n : Int} {l : List Fl}

set_option maxRecDepth 100000 in
set_option maxHeartbeats 2000000 in
theorem send_c (sw : Int) (up : Bool) (s : ByteArray) (h : St 99 72 B w q v n l) (hl : l.length ≤ 256) (hn0 : 0 ≤ n) (hn : n ≤ 100000) :
    Calls Try.prog 72 #[.pointer (some ⟨q, 0, none⟩), .agg #[.int .i64 sw, .bool up, .string s]] w fun e w' =>
      e = .returned (.int .i64 (sendE l)) ∧ (∃ v', St 99 72 B w' q v' (sendN l n) (sendL l (sw, up, s))) ∧ TM 99 72 B w w' := by
  have H := Lib.hid h
  have c0 := h.c0
  have c1 := h.c1
  have f0 := h.f 0
  have f1 := h.f 1
  have hq := h.lt
  have hBq := h.hq
  have hat := h.at_
  have hvb := h.vne
  have hown := h.own
  obtain ⟨ao, c, hv, hc1, hc2⟩ := h.form
  unfold maxLen at hc2
  clear h
  have hB : B ≤ w.heap.size := by omega
  by_cases hf : 255 < l.length
  · have e1 : sendE l = 6 := by unfold sendE full; rw [decide_eq_true hf]; rfl
    have e2 : sendN l n = n + 1 := by unfold sendN full; rw [decide_eq_true hf]; rfl
    have e3 : sendL l (sw, up, s) = l := by unfold sendL full; rw [decide_eq_true hf]; rfl
    rw [e1, e2, e3]
    clear e1 e2 e3 hown
    subst hv
    have df : ((l.length : Int) == 256) = true := by rw [beq_iff_eq]; omega
    clear hat hvb
    go_enter Try.func72, Try.ntmps72
    go_wp2_with fail
    go_ret
    have hb2 : Below (w.setCell ⟨q, 1, none⟩ (.int .i64 (n + 1))).heap.size (w.setCell ⟨q, 1, none⟩ (.int .i64 (n + 1))) ((w.setCell ⟨q, 1, none⟩ (.int .i64 (n + 1))).alloc (.cells #[.int .i64 sw, .bool up, .string s] 72)) := (Below.refl _ _).alloc (Nat.le_refl _) _
    exact ⟨rfl, ⟨_, (H.out.setN _).kept hb2⟩, (TM.set H.out 1 _ (TM.refl _ _ _ _)).trans (TM.of_below (by simp; omega) hb2)⟩
  · have hf' : decide (255 < l.length) = false := by simpa using hf
    have e1 : sendE l = 0 := by unfold sendE full; rw [hf']; rfl
    have e2 : sendN l n = n := by unfold sendN full; rw [hf']; rfl
    have e3 : sendL l (sw, up, s) = l ++ [(sw, up, s)] := by unfold sendL full; rw [hf']; rfl
    rw [e1, e2, e3]
    clear e1 e2 e3 hf'
    obtain ⟨i0, hi, hz0, hz1, hz2⟩ := info_parts info72
    have df : ((l.length : Int) == 256) = false := by rw [beq_eq_false_iff_ne]; omega
    have H1 := hown.alloc (.cells #[.int .i64 sw, .bool up, .string s] 72)
    have lens : ∀ (ao : Option Addr) (n c : Nat), v = .slice ao n c → n = l.length := by
      intro ao' n' c' e
      rw [hv] at e
      cases e
      rfl
    clear lens
    have hlenv : (Builtin.len_ #[97] 3 #[v]).run Try.prog w = .ok (.int .i64 (l.length : Int)) w := by rw [hv]; rfl
    subst hv
    clear hlenv
    have HP : Hid (∀ o o' : Obj, ((w.heap.push o).push o')[q]? = some (.cells #[.slice ao l.length c, .int .i64 n] 99 (0, 0))) := Lib.hid fun o o' => by
      rw [Array.getElem?_push, if_neg (by simp; omega), Array.getElem?_push, if_neg (by omega)]; exact hat
    clear hat
    go_enter Try.func72, Try.ntmps72
    go_wp2_with fail
    go_region_law ((refine step_append_lies _ (by rfl) _ _ 97 (by rfl) B 72 i0 (.agg #[.int .i64 0, .bool false, .string ⟨#[]⟩]) 3 32 Try.underlying97 hi hz0 hz1 hz2 rfl (by decide) (.slice ao l.length c) l.length (flat l) (by rfl) (by exact (H1.alloc _)) ⟨w.heap.size + 1, 0, none⟩ 1 1 [.int .i64 sw, .bool up, .string s] (by rfl) (by rfl) (by intro j u hj; rcases j with _ | _ | _ | j <;> simp at hj <;> subst hj <;> simp [go_sem, Addr.add]) (by simp [Value.oneCell']) (by decide) (by unfold maxLen; omega) (by omega) (by simp; omega) (w.heap.size + 2) (by simp) ?_; intro g cap w1 hown1 hgrow hat hlt1; have hb1 := (hgrow.block q (by simp; omega) (fun e => hvb e.symm)).trans (HP.out _ _); have hc1 := block_cell hb1 0; have hf1 := block_free hb1 0; simp only [List.getElem?_toArray, List.getElem?_cons_zero] at hc1))
    all_goals
      go_wp2_with fail
      go_ret
      have hg := TM.grown H.out (by (repeat' (first | (with_reducible exact Below.refl _ _) | (with_reducible assumption) | (with_reducible refine Below.alloc ?_ ?_ _) | (with_reducible refine Below.drew ?_) | (simp; done) | (simp; omega)))) hgrow
      exact ⟨rfl, ⟨_, H.out.setV hg.2 (own_snoc hown1)⟩, TM.set H.out 0 _ hg.1⟩


set_option maxRecDepth 100000 in
set_option maxHeartbeats 2000000 in
theorem rsend_c (sw : Int) (up : Bool) (s : ByteArray) (h : St 63 65 B w q v n l) (hl : l.length ≤ 256) (hn0 : 0 ≤ n) (hn : n ≤ 100000) :
    Calls Try.prog 74 #[.pointer (some ⟨q, 0, none⟩), .agg #[.int .i64 sw, .bool up, .string s]] w fun e w' =>
      e = .returned (.int .i64 (sendE l)) ∧ (∃ v', St 63 65 B w' q v' (sendN l n) (sendL l (sw, up, s))) ∧ TM 63 65 B w w' := by
  have H := Lib.hid h
  have c0 := h.c0
  have c1 := h.c1
  have f0 := h.f 0
  have f1 := h.f 1
  have hq := h.lt
  have hBq := h.hq
  have hat := h.at_
  have hvb := h.vne
  have hown := h.own
  obtain ⟨ao, c, hv, hc1, hc2⟩ := h.form
  unfold maxLen at hc2
  clear h
  have hB : B ≤ w.heap.size := by omega
  by_cases hf : 255 < l.length
  · have e1 : sendE l = 6 := by unfold sendE full; rw [decide_eq_true hf]; rfl
    have e2 : sendN l n = n + 1 := by unfold sendN full; rw [decide_eq_true hf]; rfl
    have e3 : sendL l (sw, up, s) = l := by unfold sendL full; rw [decide_eq_true hf]; rfl
    rw [e1, e2, e3]
    clear e1 e2 e3 hown
    subst hv
    have df : decide (255 < (l.length : Int)) = true := by simp; omega
    clear hat hvb
    go_enter Try.func74, Try.ntmps74
    go_wp2_with fail
    go_ret
    have hb2 : Below (w.setCell ⟨q, 1, none⟩ (.int .i64 (n + 1))).heap.size (w.setCell ⟨q, 1, none⟩ (.int .i64 (n + 1))) ((w.setCell ⟨q, 1, none⟩ (.int .i64 (n + 1))).alloc (.cells #[.int .i64 sw, .bool up, .string s] 65)) := (Below.refl _ _).alloc (Nat.le_refl _) _
    exact ⟨rfl, ⟨_, (H.out.setN _).kept hb2⟩, (TM.set H.out 1 _ (TM.refl _ _ _ _)).trans (TM.of_below (by simp; omega) hb2)⟩
  · have hf' : decide (255 < l.length) = false := by simpa using hf
    have e1 : sendE l = 0 := by unfold sendE full; rw [hf']; rfl
    have e2 : sendN l n = n := by unfold sendN full; rw [hf']; rfl
    have e3 : sendL l (sw, up, s) = l ++ [(sw, up, s)] := by unfold sendL full; rw [hf']; rfl
    rw [e1, e2, e3]
    clear e1 e2 e3 hf'
    obtain ⟨i0, hi, hz0, hz1, hz2⟩ := info_parts info65
    have df : decide (255 < (l.length : Int)) = false := by simp; omega
    have H1 := hown.alloc (.cells #[.int .i64 sw, .bool up, .string s] 65)
    have lens : ∀ (ao : Option Addr) (n c : Nat), v = .slice ao n c → n = l.length := by
      intro ao' n' c' e
      rw [hv] at e
      cases e
      rfl
    clear lens
    have hlenv : (Builtin.len_ #[61] 3 #[v]).run Try.prog w = .ok (.int .i64 (l.length : Int)) w := by rw [hv]; rfl
    subst hv
    clear hlenv
    have HP : Hid (∀ o o' : Obj, ((w.heap.push o).push o')[q]? = some (.cells #[.slice ao l.length c, .int .i64 n] 63 (0, 0))) := Lib.hid fun o o' => by
      rw [Array.getElem?_push, if_neg (by simp; omega), Array.getElem?_push, if_neg (by omega)]; exact hat
    clear hat
    go_enter Try.func74, Try.ntmps74
    go_wp2_with fail
    go_region_law ((refine step_append_lies _ (by rfl) _ _ 61 (by rfl) B 65 i0 (.agg #[.int .i64 0, .bool false, .string ⟨#[]⟩]) 3 32 Try.underlying61 hi hz0 hz1 hz2 rfl (by decide) (.slice ao l.length c) l.length (flat l) (by rfl) (by exact (H1.alloc _)) ⟨w.heap.size + 1, 0, none⟩ 1 1 [.int .i64 sw, .bool up, .string s] (by rfl) (by rfl) (by intro j u hj; rcases j with _ | _ | _ | j <;> simp at hj <;> subst hj <;> simp [go_sem, Addr.add]) (by simp [Value.oneCell']) (by decide) (by unfold maxLen; omega) (by omega) (by simp; omega) (w.heap.size + 2) (by simp) ?_; intro g cap w1 hown1 hgrow hat hlt1; have hb1 := (hgrow.block q (by simp; omega) (fun e => hvb e.symm)).trans (HP.out _ _); have hc1 := block_cell hb1 0; have hf1 := block_free hb1 0; simp only [List.getElem?_toArray, List.getElem?_cons_zero] at hc1))
    all_goals
      go_wp2_with fail
      go_ret
      have hg := TM.grown H.out (by (repeat' (first | (with_reducible exact Below.refl _ _) | (with_reducible assumption) | (with_reducible refine Below.alloc ?_ ?_ _) | (with_reducible refine Below.drew ?_) | (simp; done) | (simp; omega)))) hgrow
      exact ⟨rfl, ⟨_, H.out.setV hg.2 (own_snoc hown1)⟩, TM.set H.out 0 _ hg.1⟩

end
end Ch
end Go.Proofs.Ythmglahcampllaa
