/- What is proved here: what copying and cutting a row of flights does. Condition: they lie in memory of the call's own. -/
import Derived.Test.YthmglahcampllaaCd
import Derived.Lib.SliceRun
import Derived.Laws.IdiomCopy
import Derived.Deep.Upon
namespace Go.Proofs.Ythmglahcampllaa
open Go Go.RowKit
attribute [local go_sem] KW.cell KW.frozen
namespace Ch
/-- Cells laid into cells. -/
def lay (cs : Array Value) : Nat → List Value → Array Value
  | _, [] => cs
  | o, v :: vs => lay (cs.setIfInBounds o v) (o + 1) vs
theorem lay_size : ∀ (vs : List Value) (cs : Array Value) (o : Nat), (lay cs o vs).size = cs.size := by
  intro vs
  induction vs with
  | nil => intro cs o; rfl
  | cons v vs ih => intro cs o; show (lay (cs.setIfInBounds o v) (o + 1) vs).size = _; rw [ih]; simp
theorem lay_get : ∀ (vs : List Value) (cs : Array Value) (o : Nat), o + vs.length ≤ cs.size → ∀ j, (lay cs o vs)[j]? = if o ≤ j ∧ j < o + vs.length then vs[j - o]? else cs[j]? := by
  intro vs
  induction vs with
  | nil => intro cs o _ j; rw [if_neg (by simp only [List.length_nil]; omega)]; rfl
  | cons v vs ih =>
    intro cs o h j
    simp only [List.length_cons] at h
    show (lay (cs.setIfInBounds o v) (o + 1) vs)[j]? = _
    rw [ih _ _ (by simp; omega)]
    by_cases hj : j = o
    · subst hj
      rw [if_neg (by omega), if_pos (by simp only [List.length_cons]; omega)]
      simp [show j < cs.size by omega]
    · by_cases h2 : o + 1 ≤ j ∧ j < o + 1 + vs.length
      · rw [if_pos h2, if_pos (by simp only [List.length_cons]; omega)]
        have e : j - o = j - (o + 1) + 1 := by omega
        rw [e, List.getElem?_cons_succ]
      · rw [if_neg h2, if_neg (by simp only [List.length_cons]; omega)]
        rw [Array.getElem?_setIfInBounds, if_neg (by omega)]
theorem blk_setCells {t : TypeId} {g : Nat} : ∀ (vs : List Value) (o : Nat) (w : World) (cs : Array Value), w.heap[g]? = some (.cells cs t (0, 0)) → (w.setCells g o vs).heap[g]? = some (.cells (lay cs o vs) t (0, 0)) := by
  intro vs
  induction vs with
  | nil => intro o w cs h; exact h
  | cons v vs ih =>
    intro o w cs h
    show ((w.setCell ⟨g, o, none⟩ v).setCells g (o + 1) vs).heap[g]? = _
    exact ih _ _ _ (by simp [World.setCell, Array.getElem?_modify, h])
theorem below_setCells {B g : Nat} {w0 : World} (hg : B ≤ g) : ∀ (vs : List Value) (o : Nat) (w : World), Below B w0 w → Below B w0 (w.setCells g o vs) := by
  intro vs
  induction vs with
  | nil => intro o w h; exact h
  | cons v vs ih => intro o w h; exact ih _ _ (h.setCell hg _)
/-- One element cleared. -/
theorem run_clear_one {P : Program} (w : World) (t e ty : TypeId) (z : Value) (ht : P.underlying t = some (.slice e)) (hv : ∀ w, (zeroValue e).run P w = .ok z w) (b o c : Nat) (h1 : ∀ u ∈ z.cells.toList, u.oneCell' = true)
    (hc : ∀ j, j < z.cells.size → (w.cell? ⟨b, o + j, none⟩).isSome = true) (hf : ∀ j, j < z.cells.size → w.frozen? ⟨b, o + j, none⟩ = false) :
    (Builtin.clear_ #[t] ty #[.slice (some ⟨b, o, none⟩) 1 c]).run P w = .ok (.tuple #[]) (w.setCells b o z.cells.toList) := by
  have hzc : (Builtin.zeroCells z.cells 1).toList = z.cells.toList := by
    apply List.ext_getElem
    · simp [Builtin.zeroCells]
    · intro i h1 h2
      simp [Builtin.zeroCells] at h1 ⊢
      have h2 : i < z.cells.size := by simpa using h2
      simp [Nat.mod_eq_of_lt h2, h2]
  have hst := run_storeCells_cells (P := P) b o z.cells.toList 0 w (by simpa using hc) (by simpa using hf) h1
  simp only [Nat.add_zero] at hst
  simp [Builtin.clear_, run_underlying ht, hv, hzc, hst]
section
variable {B q : Nat} {w : World} {v : Value} {n : Int} {l : List Fl}
set_option maxRecDepth 100000 in
set_option maxHeartbeats 2000000 in
theorem clone_c {ao : Option Addr} {c : Nat} (h : St 99 72 B w q (.slice ao l.length c) n l) (hne : 0 < l.length) (hl : l.length ≤ 256) :
    Calls Try.prog 87 #[.slice ao l.length c] w fun e w' => ∃ u, e = .returned u ∧ w'.ownsRow w.heap.size 72 3 u l.length (flat l) ∧ Below w.heap.size w w' := by
  obtain ⟨i0, hi, hz0, hz1, hz2⟩ := info_parts info72
  obtain ⟨g, rfl, hg, hgq, _⟩ := h.el 0 hne
  have hcc := h.own.cells rfl
  have hfl := flat_len l
  have HC := Lib.hid hcc
  clear hcc h
  have q97 : ∀ (w : World) (a : Option Addr) (n c n' c' : Nat), (binOp .eql 97 (.slice a n c) (.slice none n' c')).run Try.prog w = .ok (.bool a.isNone) w := fun w a n c n' c' => Lib.run_eql_slice_nil w _ _ a n c n' c' Try.underlying97
  go_enter Try.func87, Try.ntmps87
  go_wp2_with (at_builtin; refine wpList_append_own _ rfl _ _ 97 rfl w.heap.size 72 i0 (.agg #[.int .i64 0, .bool false, .string ⟨#[]⟩]) 3 32 Try.underlying97 hi hz0 hz1 hz2 rfl (by decide) _ _ _ rfl (World.ownsRow_made w #[] 0 (Nat.le_refl _) (Nat.zero_le _) rfl) ⟨g, 0, none⟩ l.length c (flat l) rfl hfl ?qc2 ?qc3 ?qc4 ?qc5 ?qc6 ?_)
  case qc2 =>
    intro j u hj
    have := HC.out j u hj
    rwa [adh] at this
  case qc3 => exact flat_one l
  case qc4 => unfold maxLen; omega
  case qc5 => omega
  intro v' w1 hown hgrow hnil
  go_wp2
  go_ret
  refine ⟨v', rfl, by simpa using hown, ?_⟩
  exact ((Below.refl _ w).alloc (Nat.le_refl _) _).grown hgrow (by simp) (by intro k hk; simp [Value.ownBlock] at hk; omega)
set_option maxRecDepth 100000 in
set_option maxHeartbeats 2000000 in
theorem delete_c {B0 : Nat} {u : Value} (k : Nat) (_hB : B0 ≤ w.heap.size) (h : w.ownsRow B0 72 3 u l.length (flat l)) (hk : k < l.length) (hl : l.length ≤ 256) :
    Calls Try.prog 86 #[u, .int .i64 (k : Int), .int .i64 ((k : Int) + 1)] w fun e w' => ∃ u', e = .returned u' ∧ w'.ownsRow B0 72 3 u' (l.length - 1) (flat (l.take k ++ l.drop (k + 1))) ∧ Below B0 w w' := by
  obtain ⟨i0, hi, hz0, hz1, hz2⟩ := info_parts info72
  rcases h.2 with ⟨_, h0⟩ | ⟨g, cap, cur, rfl, hBg, hg, hc1, hc2, hcs, htake⟩
  · omega
  have hfl := flat_len l
  have e1 : ((k : Int) == (k : Int) + 1) = false := by rw [beq_eq_false_iff_ne]; omega
  have i1 : (k : Int) + 1 ≤ (l.length : Int) := by omega
  have i2 : (l.length : Int) ≤ (cap : Int) := by omega
  have i3 : (k : Int) ≤ (cap : Int) := by omega
  have i5 : (0 : Int) ≤ (k : Int) + 1 := by omega
  have i4 : (k : Int) + 1 ≤ (cap : Int) := by omega
  clear h
  unfold maxLen at hc2
  have hgl := block_lt hg
  obtain ⟨news, hnews⟩ : ∃ news, news = flat (l.drop (k + 1)) := ⟨_, rfl⟩
  have hnl : news.length = (l.length - (k + 1)) * 3 := by rw [hnews, flat_len, List.length_drop]
  have hcur : ∀ j, j < cur.size → (w.cell? ⟨g, j, none⟩).isSome = true := fun j hj => by rw [block_cell hg j]; simp [hj]
  obtain ⟨A, hA, hsrc⟩ : ∃ A : Addr, (if cap = k + 1 then (some ⟨g, 0, none⟩ : Option Addr) else some ⟨g, (k + 1) * 3, none⟩) = some A ∧ Hid (∀ t u, news[t]? = some u → w.drew.cell? (A.add t) = some u) := by
    by_cases hh : cap = k + 1
    · refine ⟨⟨g, 0, none⟩, by simp [hh], Lib.hid fun t u hu => ?_⟩
      have h0 : news.length = 0 := by rw [hnl]; omega
      rw [List.length_eq_zero_iff.1 h0] at hu
      simp at hu
    · refine ⟨⟨g, (k + 1) * 3, none⟩, by simp [hh], Lib.hid fun t u hu => ?_⟩
      have ht := (List.getElem?_eq_some_iff.1 hu).1
      rw [hnl] at ht
      have ea : (⟨g, (k + 1) * 3, none⟩ : Addr).add t = ⟨g, (k + 1) * 3 + t, none⟩ := by
        unfold Addr.add
        split
        · rename_i h0; simp
        · simp
      rw [ea]
      show w.cell? _ = _
      rw [block_cell hg]
      rw [hnews, flat_drop, List.getElem?_drop] at hu
      rw [← htake, List.getElem?_take, if_pos (by omega)] at hu
      simpa using hu
  have s1 := Lib.hid hnl
  have s2 : Hid (∀ u ∈ news, u.oneCell' = true) := Lib.hid (by rw [hnews]; exact flat_one _)
  have s3 : Hid (∀ t, t < news.length → (w.drew.cell? ⟨g, 0 + k * 3 + t, none⟩).isSome = true ∧ w.drew.frozen? ⟨g, 0 + k * 3 + t, none⟩ = false) := Lib.hid fun t ht => by
    rw [hnl] at ht
    exact ⟨hcur _ (by rw [hcs]; omega), block_free hg _⟩
  obtain ⟨W1, hW1⟩ : ∃ W1, W1 = w.drew.setCells g (0 + k * 3) news := ⟨_, rfl⟩
  have hg1 : W1.heap[g]? = some (.cells (lay cur (0 + k * 3) news) 72 (0, 0)) := by rw [hW1]; exact blk_setCells news (0 + k * 3) w.drew cur hg
  have hB1 : Below B0 w W1 := by rw [hW1]; exact below_setCells hBg _ _ _ ((Below.refl _ _).drew)
  have hsz1 : (lay cur (0 + k * 3) news).size = cap * 3 := by rw [lay_size, hcs]
  have e2 : l.length - (k + (l.length - (k + 1))) = 1 := by omega
  have hcl : ∀ ty, (Builtin.clear_ #[97] ty #[.slice (some ⟨g, (k + (l.length - (k + 1))) * 3, none⟩) (l.length - (k + (l.length - (k + 1)))) (cap - (k + (l.length - (k + 1))))]).run Try.prog W1 = .ok (.tuple #[]) (W1.setCells g ((k + (l.length - (k + 1))) * 3) [.int .i64 0, .bool false, .string ⟨#[]⟩]) := by
    intro ty
    rw [e2]
    refine run_clear_one (P := Try.prog) W1 97 72 ty (.agg #[.int .i64 0, .bool false, .string ⟨#[]⟩]) Try.underlying97 Try.zeroValue72 g _ _ ?_ ?_ ?_
    · intro u hu
      simp [Value.cells] at hu
      rcases hu with rfl | rfl | rfl <;> rfl
    · intro j hj
      have hj : j < 3 := hj
      rw [block_cell hg1]
      simp only [Option.isSome_iff_exists]
      exact ⟨_, Array.getElem?_eq_getElem (by rw [hsz1]; omega)⟩
    · intro j hj
      exact block_free hg1 _
  have R : Hid (∃ W2, W2 = W1.setCells g ((k + (l.length - (k + 1))) * 3) [.int .i64 0, .bool false, .string ⟨#[]⟩] ∧ Below B0 w W2 ∧ W2.ownsRow B0 72 3 (.slice (some ⟨g, 0, none⟩) (k + (l.length - (k + 1))) cap) (l.length - 1) (flat (l.take k ++ l.drop (k + 1)))) := by
    refine Lib.hid ⟨_, rfl, below_setCells hBg _ _ _ hB1, ?_, .inr ⟨g, cap, _, ?_, hBg, blk_setCells _ _ _ _ hg1, by omega, hc2, ?_, ?_⟩⟩
    · rw [flat_len, List.length_append, List.length_take, List.length_drop]; omega
    · rw [show k + (l.length - (k + 1)) = l.length - 1 by omega]
    · rw [lay_size, hsz1]
    · rw [flat_append, flat_take, flat_drop, ← htake]
      apply List.ext_getElem?
      intro j
      have hcl2 : cur.toList.length = cap * 3 := by rw [Array.length_toList, hcs]
      rw [List.getElem?_take, Array.getElem?_toList, lay_get _ _ _ (by rw [hsz1]; simp only [List.length_cons, List.length_nil]; omega)]
      by_cases hj : j < (l.length - 1) * 3
      · rw [if_pos hj, if_neg (by omega), lay_get _ _ _ (by rw [hcs, hnl]; omega)]
        rw [List.take_take, List.getElem?_append, List.length_take, hcl2]
        by_cases hj2 : j < k * 3
        · rw [if_neg (by omega), if_pos (by omega), List.getElem?_take, if_pos (by omega), Array.getElem?_toList]
        · rw [if_pos (by rw [hnl]; omega), if_neg (by omega), hnews, flat_drop, ← htake]
          congr 1
          omega
      · rw [if_neg hj]
        symm
        rw [List.getElem?_eq_none]
        rw [List.length_append, List.length_take, List.length_take, List.length_drop, List.length_take, hcl2]
        omega
  have hW : Hid (W1 = w.drew.setCells g (0 + k * 3) news) := Lib.hid hW1
  clear hW1 hg1 hB1 hsz1 hcur hnl hnews htake hcs hfl e2 hgl hg
  go_enter Try.func86, Try.ntmps86
  go_wp2_with fail
  go_region_law ((refine step_append_room rfl (.tmp 22) (.tmp 25) 97 rfl 72 i0 3 Try.underlying97 hi hz1 g 0 k cap (by simp [Act.eval, Act.put]) A (l.length - (k + 1)) (cap - (k + 1)) news (by simp [Act.eval, Act.put]) s1.out hsrc.out s2.out (by omega) s3.out ?_; rw [← hW.out]))
  go_wp2_with fail
  go_ret
  obtain ⟨W2, rfl, hb2, ho⟩ := R.out
  exact ⟨_, rfl, ho, hb2⟩
end
end Ch
end Go.Proofs.Ythmglahcampllaa
