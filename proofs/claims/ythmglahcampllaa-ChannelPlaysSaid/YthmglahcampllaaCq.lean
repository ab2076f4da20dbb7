/-
  What is proved here: a region that draws its order, whose first n operations are quiet, whose operation n is a call that all others wait for, and whose other operations are quiet behind it, may be walked in the order of the text. Condition: the Bool 'Region.midB'.
-/
import Derived.Test.YthmglahcampllaaMem
namespace Go.Proofs.Ythmglahcampllaa
open Go Go.RowKit
section
variable {P : Program} {ops : Array Oper} {md : Region.Mode} {C : World → Prop}
/-- Whatever stands behind n waits for n, or for something between. -/
def Region.tailB (md : Region.Mode) (ops : Array Oper) (n : Nat) : Bool :=
  (List.range ops.size).all fun t => decide (t ≤ n) || (List.range ops.size).any fun j => decide (n ≤ j) && Region.waitsFor md ops t j
theorem tail_waitsM {n : Nat} {listed : Array Bool} (hs : Region.sinkB md ops n = true) (hc : Region.tailB md ops n = true) (hn : n < ops.size) (inv : HeadInv md ops n listed) :
    ∀ (d i : Nat), n - i = d → i < n → listed.getD i true = false → ∀ t, n ≤ t → t ∉ Region.ready md ops listed := by
  intro d
  induction d using Nat.strongRecOn with
  | _ d ih =>
    intro i hd hi hun t ht hr
    obtain ⟨_, ot, hot, hall⟩ := mem_ready.1 hr
    have htlt : t < ops.size := (Array.getElem?_eq_some_iff.1 hot).1
    by_cases htn : t = n
    · subst htn
      obtain ⟨j, hj, hj2⟩ := List.any_eq_true.1 (List.all_eq_true.1 hs i (List.mem_range.2 hi))
      simp only [Bool.and_eq_true, decide_eq_true_eq] at hj2
      obtain ⟨oj, hoj, e, he, hb, hon⟩ := Region.waitsFor_spec hj2.2
      have hjle : j ≤ t := by have := List.mem_range.1 hj; omega
      by_cases hjt : j = t
      · subst hjt
        obtain rfl : oj = ot := Option.some.inj (hoj.symm.trans hot)
        have h2 := hall e he hb
        rw [hon, getD_both hun] at h2
        cases h2
      · cases hl : listed.getD j false with
        | true =>
          have h2 := inv.closed j oj hoj hl e he hb
          rw [hon, getD_both hun] at h2
          cases h2
        | false =>
          have hjs : j < listed.size := by rw [inv.size]; omega
          exact ih (t - j) (by omega) j rfl (by omega) (getD_in hjs hl) t (Nat.le_refl _) hr
    · have h1 := List.all_eq_true.1 hc t (List.mem_range.2 htlt)
      simp only [Bool.or_eq_true, decide_eq_true_eq] at h1
      rcases h1 with h1 | h1
      · omega
      · obtain ⟨j, hj, hj2⟩ := List.any_eq_true.1 h1
        simp only [Bool.and_eq_true, decide_eq_true_eq] at hj2
        obtain ⟨o', ho', e, he, hb, hon⟩ := Region.waitsFor_spec hj2.2
        obtain rfl : o' = ot := Option.some.inj (ho'.symm.trans hot)
        have h2 := hall e he hb
        rw [hon, getD_both (inv.tail j hj2.1 (List.mem_range.1 hj))] at h2
        cases h2
theorem headQ_takeM {n i : Nat} {oi : Oper} {v : Value} {L : Array Bool → Act → Prop} (hi : ops[i]? = some oi) (hsel : ∀ (j : Nat) (o : Oper) cs b, ops[j]? = some o → o.op ≠ .select cs b)
    (hs : Region.sinkB md ops n = true) (hc : Region.tailB md ops n = true) (hn : n < ops.size) (hin : i < n) (hdone : ∀ li a, L li a → ∀ j ∈ Region.ready md ops li, n ≤ j)
    (f : Nat) : ∀ (li : Array Bool) (a : Act), HeadInv md ops n li →
      (∀ j oj, ops[j]? = some oj → j ≠ i → li.getD j true = false → (∀ e ∈ oj.after, Region.binds md e = true → e.on ≠ i) → oi.apart ops oj = true) →
      i ∈ Region.ready md ops li → YieldsIn P ops C oi v a → headQ P md ops C n L f (li.setIfInBounds i true) (a.put oi.dst v) → headQ P md ops C n L (f + 1) li a := by
  induction f with
  | zero =>
    intro li a inv _ hr hy H
    have hun := (mem_ready.1 hr).1
    refine ⟨fun h => (by rw [h] at hr; cases hr), fun j hj => ?_⟩
    have hjn : j < n := Nat.lt_of_not_le fun h => tail_waitsM hs hc hn inv _ i rfl hin hun j h hj
    refine ⟨hjn, ?_⟩
    by_cases hji : j = i
    · subst hji
      exact hy.qOp hi H
    · exact absurd (hdone _ _ H j (ready_mono hj hji)) (by omega)
  | succ f ih =>
    intro li a inv hfree hr hy H
    have hun := (mem_ready.1 hr).1
    refine ⟨fun h => (by rw [h] at hr; cases hr), fun j hj => ?_⟩
    have hjn : j < n := Nat.lt_of_not_le fun h => tail_waitsM hs hc hn inv _ i rfl hin hun j h hj
    refine ⟨hjn, ?_⟩
    by_cases hji : j = i
    · subst hji
      exact hy.qOp hi H
    · have h1 := (H.2 j (ready_mono hj hji)).2
      obtain ⟨hjun, oj, hoj, hall⟩ := mem_ready.1 hj
      have hno : ∀ e ∈ oj.after, Region.binds md e = true → e.on ≠ i := by
        intro e he hb heq
        have hx := hall e he hb
        rw [heq, getD_both hun] at hx
        cases hx
      refine qOp_mono (fun a' h3 => ?_) (qOp_put hoj (hfree j oj hoj hji hjun hno) (fun cs b => hsel i oi cs b hi) (fun cs b => hsel j oj cs b hoj) hy h1)
      refine ih _ a' (inv.set hj hjn) (fun k ok hk hki hku hkn => ?_) (ready_mono hr (Ne.symm hji)) h3.1 ?_
      · refine hfree k ok hk hki ?_ hkn
        by_cases hjk : j = k
        · rw [← hjk]; exact hjun
        · rwa [getD_set_ne true hjk] at hku
      · rw [Array.setIfInBounds_comm _ _ hji]
        exact h3.2
def Region.lexHeadM (md : Region.Mode) (ops : Array Oper) : Nat → Nat → Array Bool → Bool
  | 0, k, li => decide (Region.ready md ops li = [k]) && Region.lexFrom md ops (ops.size - (k + 1)) (k + 1) (li.setIfInBounds k true)
  | f + 1, k, li => (Region.ready md ops li).contains k && Region.free md ops li k && Region.lexHeadM md ops f (k + 1) (li.setIfInBounds k true)
def Region.midB (md : Region.Mode) (ops : Array Oper) (n : Nat) : Bool :=
  Region.noSelect ops && decide (n < ops.size) && Region.sinkB md ops n && Region.tailB md ops n && Region.lexHeadM md ops n 0 (Array.replicate ops.size false)
theorem headQ_textM {n : Nat} {Lq : Act → Prop} (hsel : Region.noSelect ops = true) (hs : Region.sinkB md ops n = true) (hc : Region.tailB md ops n = true) (hn : n < ops.size) :
    ∀ (l : List Oper) (k : Nat) (li : Array Bool) (a : Act), (∀ j, j < l.length → l[j]? = ops[k + j]?) → k + l.length = n → HeadInv md ops n li →
    Region.lexHeadM md ops l.length k li = true → wpQuiet P ops C Lq l a →
    headQ P md ops C n (fun li' a' => (Region.ready md ops li' = [n] ∧ Region.lexFrom md ops (ops.size - (n + 1)) (n + 1) (li'.setIfInBounds n true) = true) ∧ Lq a') l.length li a
  | [], k, li, a, _, hk, _, hB, h => by
    obtain rfl : k = n := by simpa using hk
    simp only [List.length_nil, Region.lexHeadM, Bool.and_eq_true, decide_eq_true_eq] at hB
    exact ⟨hB, h⟩
  | o :: l, k, li, a, hl, hk, inv, hB, h => by
    simp only [List.length_cons] at hk
    have h0 : ops[k]? = some o := by simpa using (hl 0 (by simp)).symm
    simp only [List.length_cons, Region.lexHeadM, Bool.and_eq_true] at hB
    have hr : k ∈ Region.ready md ops li := by simpa using hB.1.1
    obtain ⟨v, hy, hK⟩ := yieldsIn_of_qOp h0 (K := wpQuiet P ops C Lq l) (by unfold qOp; simp only [h0]; exact h)
    refine headQ_takeM h0 (Region.noSelect_spec hsel) hs hc hn (by omega) (fun _ _ hL j hj => ?_) l.length li a inv (Region.free_spec h0 hB.1.2) hr hy ?_
    · rw [hL.1.1] at hj
      have : j = n := by simpa using hj
      omega
    refine headQ_textM hsel hs hc hn l (k + 1) _ _ (fun j hj => ?_) (by omega) (inv.set hr (by omega)) hB.2 hK
    have e : k + 1 + j = k + (j + 1) := by omega
    rw [e, ← hl (j + 1) (by simp only [List.length_cons]; omega)]
    rfl
/-- THE LAW: quiet, a call, quiet. -/
theorem wp_region_mid {id : Nat} {Q : Exit → Act → World → Prop} {a : Act} {w : World} {l : List Oper} (n : Nat) (hm : P.follows .mixedOrders = true) (hB : Region.midB .any l.toArray n = true)
    (h : wpQuiet P l.toArray (fun w' => ∃ k : KW w, w' = k.val) (fun a' => ∀ k : KW w, ∃ f args oj, l.toArray[n]? = some oj ∧ oj.guard = none ∧ (execOp a'.eval oj).run P k.val = .ok (.enter f args) k.val ∧
      Calls P f args k.val fun e w'' => ∃ v, e = .returned v ∧ wpQuiet P l.toArray (fun x => ∃ k2 : KW w'', x = k2.val) (fun a3 => ∀ k2 : KW w'', Q .normal a3 k2.val) (l.drop (n + 1)) (a'.put oj.dst v)) (l.take n) a) :
    (Code.region id l.toArray true).wp P Q a w := by
  simp only [Region.midB, Bool.and_eq_true, decide_eq_true_eq] at hB
  obtain ⟨⟨⟨⟨hsel, hn⟩, hs⟩, hc⟩, hlex⟩ := hB
  have hnl : n < l.length := by simpa using hn
  have htl : (l.take n).length = n := by rw [List.length_take]; omega
  have hdl : (l.drop (n + 1)).length = l.toArray.size - (n + 1) := by simp
  have inv0 : HeadInv .any l.toArray n (Array.replicate l.toArray.size false) :=
    ⟨by simp, fun j oj _ hl => (by rw [getD_replicate_false] at hl; cases hl), fun t _ ht => getD_in (by simpa using ht) (getD_replicate_false _ _)⟩
  have H := headQ_textM (md := .any) (P := P) (C := fun w' => ∃ k : KW w, w' = k.val) hsel hs hc hn (l.take n) 0 _ a (fun j hj => by
    have hj' : j < n := by rw [htl] at hj; exact hj
    simp [hj']) (by simpa using htl) inv0 (by rw [htl]; exact hlex) h
  refine wp_region_any hm ?_
  have := headQ_any (Q' := Q) (g := (l.toArray.size - (n + 1)) + 1) (fun li a' w' hw' hL => by
    obtain ⟨⟨hrd, hlx⟩, hq⟩ := hL
    obtain ⟨k, rfl⟩ := hw'
    obtain ⟨f, args, oj, hoj, hg, hr, hcall⟩ := hq k
    refine ⟨fun h0 => (by rw [hrd] at h0; cases h0), fun i hi => ?_⟩
    rw [hrd] at hi
    obtain rfl : i = n := by simpa using hi
    unfold wpOp
    simp only [hoj]
    rw [if_pos (by simp [Region.wanted, hg])]
    refine .inl ?_
    unfold Oper.wp
    rw [hr, Oper.upon_enter]
    refine hcall.mono fun e w'' ⟨v, he, hq2⟩ => ?_
    subst he
    have h5 := wpAnyQ_lex (C := fun x => ∃ k2 : KW w'', x = k2.val) (md := .any) hsel (l.drop (i + 1)) (i + 1) (li.setIfInBounds i true) (a'.put oj.dst v) (fun j => by simp [List.getElem?_drop]) (by rw [hdl]; exact hlx) hq2
    have h6 := wpAny_of_quiet (Q' := Q) (fun a3 w3 ⟨k3, hk3⟩ h3 => by rw [hk3]; exact h3 k3) _ _ _ w'' ⟨⟨w'', Below.refl _ _⟩, rfl⟩ h5
    rwa [hdl] at h6) _ _ _ _ ⟨⟨w.drew, (Below.refl _ _).drew⟩, rfl⟩ H
  rwa [htl, show n + (l.toArray.size - (n + 1) + 1) = l.toArray.size by omega] at this
end
end Go.Proofs.Ythmglahcampllaa
