/-
  What is proved here: a region that draws its order, whose first n operations are quiet in a class of worlds and whose other operations wait for these and come one by one, may be walked in the order of the text. Condition: the Bool 'Region.lexTailB'.
-/
import Derived.WalkKit
import Derived.StillTail
import Derived.Deep.Quiet
import Derived.Deep.QuietTactic
import Derived.BigQuiet
import Derived.Handy
namespace Go.Proofs.YtekfkieimdgfkaaGreat
open Go Go.RowKit

section
variable {P : Program} {ops : Array Oper} {md : Region.Mode} {C : World → Prop}

/-- f operations of the head are still to come, whichever comes up; behind them 'L'. -/
def headQ (P : Program) (md : Region.Mode) (ops : Array Oper) (C : World → Prop) (n : Nat) (L : Array Bool → Act → Prop) : Nat → Array Bool → Act → Prop
  | 0, li, a => L li a
  | f + 1, li, a => Region.ready md ops li ≠ [] ∧ ∀ i ∈ Region.ready md ops li, i < n ∧ qOp P ops C i (headQ P md ops C n L f (li.setIfInBounds i true)) a

theorem headQ_any {n g : Nat} {L : Array Bool → Act → Prop} {Q' : Exit → Act → World → Prop} (hL : ∀ li a w, C w → L li a → wpAny P md ops Q' g li a w) :
    ∀ (f : Nat) (li : Array Bool) (a : Act) (w : World), C w → headQ P md ops C n L f li a → wpAny P md ops Q' (f + g) li a w
  | 0, li, a, w, hw, h => by rw [Nat.zero_add]; exact hL _ _ _ hw h
  | f + 1, li, a, w, hw, h => by
    have e : f + 1 + g = (f + g) + 1 := by omega
    rw [e]
    exact ⟨fun h0 => absurd h0 h.1, fun i hi => wpOp_of_qOp hw (fun a' w' hw' h' => headQ_any hL f _ a' w' hw' h') (h.2 i hi).2⟩

theorem headQ_take {n i : Nat} {oi : Oper} {v : Value} {L : Array Bool → Act → Prop} (hi : ops[i]? = some oi) (hsel : ∀ (j : Nat) (o : Oper) cs b, ops[j]? = some o → o.op ≠ .select cs b)
    (hs : Region.sinkB md ops n = true) (hc : Region.chainB md ops n = true) (hn : n < ops.size) (hin : i < n) (hdone : ∀ li a, L li a → ∀ j ∈ Region.ready md ops li, n ≤ j)
    (f : Nat) : ∀ (li : Array Bool) (a : Act), HeadInv md ops n li →
      (∀ j oj, ops[j]? = some oj → j ≠ i → li.getD j true = false → (∀ e ∈ oj.after, Region.binds md e = true → e.on ≠ i) → oi.apart ops oj = true) →
      i ∈ Region.ready md ops li → YieldsIn P ops C oi v a → headQ P md ops C n L f (li.setIfInBounds i true) (a.put oi.dst v) → headQ P md ops C n L (f + 1) li a := by
  induction f with
  | zero =>
    intro li a inv _ hr hy H
    have hun := (mem_ready.1 hr).1
    refine ⟨fun h => (by rw [h] at hr; cases hr), fun j hj => ?_⟩
    have hjn : j < n := Nat.lt_of_not_le fun h => tail_waits hs hc hn inv _ i rfl hin hun j h hj
    refine ⟨hjn, ?_⟩
    by_cases hji : j = i
    · subst hji
      exact hy.qOp hi H
    · exact absurd (hdone _ _ H j (ready_mono hj hji)) (by omega)
  | succ f ih =>
    intro li a inv hfree hr hy H
    have hun := (mem_ready.1 hr).1
    refine ⟨fun h => (by rw [h] at hr; cases hr), fun j hj => ?_⟩
    have hjn : j < n := Nat.lt_of_not_le fun h => tail_waits hs hc hn inv _ i rfl hin hun j h hj
    refine ⟨hjn, ?_⟩
    by_cases hji : j = i
    · subst hji
      exact hy.qOp hi H
    · have h1 := (H.2 j (ready_mono hj hji)).2
      obtain ⟨hjun, oj, hoj, hall⟩ := mem_ready.1 hj
      have hno : ∀ e ∈ oj.after, Region.binds md e = true → e.on ≠ i := by
        intro e he hb heq
        have hx := hall e he hb
        rw [heq, getD_both hun] at hx
        cases hx
      refine qOp_mono (fun a' h3 => ?_) (qOp_put hoj (hfree j oj hoj hji hjun hno) (fun cs b => hsel i oi cs b hi) (fun cs b => hsel j oj cs b hoj) hy h1)
      refine ih _ a' (inv.set hj hjn) (fun k ok hk hki hku hkn => ?_) (ready_mono hr (Ne.symm hji)) h3.1 ?_
      · refine hfree k ok hk hki ?_ hkn
        by_cases hjk : j = k
        · rw [← hjk]; exact hjun
        · rwa [getD_set_ne true hjk] at hku
      · rw [Array.setIfInBounds_comm _ _ hji]
        exact h3.2

theorem headQ_text {n g : Nat} {Lq : Act → Prop} (hsel : Region.noSelect ops = true) (hs : Region.sinkB md ops n = true) (hc : Region.chainB md ops n = true) (hn : n < ops.size) :
    ∀ (l : List Oper) (k : Nat) (li : Array Bool) (a : Act), (∀ j, j < l.length → l[j]? = ops[k + j]?) → k + l.length = n → HeadInv md ops n li →
    Region.lexHead md ops g l.length k li = true → wpQuiet P ops C Lq l a → headQ P md ops C n (fun li' a' => Region.seqB md ops g n li' = true ∧ Lq a') l.length li a
  | [], k, li, a, _, hk, _, hB, h => by
    obtain rfl : k = n := by simpa using hk
    exact ⟨by simpa [Region.lexHead] using hB, h⟩
  | o :: l, k, li, a, hl, hk, inv, hB, h => by
    simp only [List.length_cons] at hk
    have h0 : ops[k]? = some o := by simpa using (hl 0 (by simp)).symm
    simp only [List.length_cons, Region.lexHead, Bool.and_eq_true] at hB
    have hr : k ∈ Region.ready md ops li := by simpa using hB.1.1
    obtain ⟨v, hy, hK⟩ := yieldsIn_of_qOp h0 (K := wpQuiet P ops C Lq l) (by unfold qOp; simp only [h0]; exact h)
    refine headQ_take h0 (Region.noSelect_spec hsel) hs hc hn (by omega) (fun _ _ hL => seqB_ready hL.1) l.length li a inv (Region.free_spec h0 hB.1.2) hr hy ?_
    refine headQ_text hsel hs hc hn l (k + 1) _ _ (fun j hj => ?_) (by omega) (inv.set hr (by omega)) hB.2 hK
    have e : k + 1 + j = k + (j + 1) := by omega
    rw [e, ← hl (j + 1) (by simp only [List.length_cons]; omega)]
    rfl

/-- THE LAW: the head quiet in the class, the tail one by one. -/
theorem wp_region_head {id : Nat} {Q : Exit → Act → World → Prop} {a : Act} {w : World} {l : List Oper} (n : Nat) (hm : P.follows .mixedOrders = true) (hB : Region.lexTailB .any l.toArray n = true)
    (hC : C { w with drawn := w.drawn + 1 }) (h : wpQuiet P l.toArray C (fun a' => ∀ w', C w' → wpList P l.toArray Q (l.drop n) a' w') (l.take n) a) : (Code.region id l.toArray true).wp P Q a w := by
  simp only [Region.lexTailB, Bool.and_eq_true, decide_eq_true_eq] at hB
  obtain ⟨⟨⟨⟨hsel, hn⟩, hs⟩, hc⟩, hlex⟩ := hB
  have hnl : n < l.length := by simpa using hn
  have htl : (l.take n).length = n := by rw [List.length_take]; omega
  have hdl : (l.drop n).length = l.toArray.size - n := by simp
  have inv0 : HeadInv .any l.toArray n (Array.replicate l.toArray.size false) :=
    ⟨by simp, fun j oj _ hl => (by rw [getD_replicate_false] at hl; cases hl), fun t _ ht => getD_in (by simpa using ht) (getD_replicate_false _ _)⟩
  have H := headQ_text (md := .any) (g := l.toArray.size - n) hsel hs hc hn (l.take n) 0 _ a (fun j hj => by
    have hj' : j < n := by rw [htl] at hj; exact hj
    simp [hj']) (by simpa using htl) inv0 (by rw [htl]; exact hlex) h
  refine wp_region_any hm ?_
  have := headQ_any (Q' := Q) (g := l.toArray.size - n) (fun li a' w' hw' hL => by
    have := wpAny_of_seq (md := .any) (Q' := Q) (l.drop n) n li a' w' (fun j => by simp [List.getElem?_drop]) (by rw [hdl]; exact hL.1) (hL.2 w' hw')
    rwa [hdl] at this) _ _ _ _ hC H
  rwa [htl, show n + (l.toArray.size - n) = l.toArray.size by omega] at this
end

/-! ### The class: worlds that have all that W has, as W has it -/

structure KW (W : World) where
  val : World
  kp : Below W.heap.size W val

theorem KW.cell {W : World} (k : KW W) (p : Addr) (h : p.block < W.heap.size) : k.val.cell? p = W.cell? p := k.kp.cell h
theorem KW.frozen {W : World} (k : KW W) (p : Addr) (h : p.block < W.heap.size) : k.val.frozen? p = W.frozen? p := k.kp.frozen h
instance {W : World} : Nonempty (KW W) := ⟨⟨W, Below.refl _ _⟩⟩

/-- The law at that class: the tail is walked in whatever world of it. -/
theorem wp_region_kw {P : Program} {id : Nat} {Q : Exit → Act → World → Prop} {a : Act} {w : World} {l : List Oper} (n : Nat) (hm : P.follows .mixedOrders = true) (hB : Region.lexTailB .any l.toArray n = true)
    (h : wpQuiet P l.toArray (fun w' => ∃ k : KW w, w' = k.val) (fun a' => ∀ k : KW w, wpList P l.toArray Q (l.drop n) a' k.val) (l.take n) a) : (Code.region id l.toArray true).wp P Q a w := by
  refine wp_region_head (C := fun w' => ∃ k : KW w, w' = k.val) n hm hB ⟨⟨w.drew, (Below.refl _ _).drew⟩, rfl⟩ ?_
  have e : (fun a' => ∀ w', (∃ k : KW w, w' = k.val) → wpList P l.toArray Q (l.drop n) a' w') = (fun a' => ∀ k : KW w, wpList P l.toArray Q (l.drop n) a' k.val) := by
    funext a'
    exact propext ⟨fun h k => h _ ⟨k, rfl⟩, fun h w' ⟨k, hk⟩ => by rw [hk]; exact h k⟩
  rw [e]
  exact h
/-- A region that is quiet from end to end. -/
theorem wp_region_kq {P : Program} {id : Nat} {Q : Exit → Act → World → Prop} {a : Act} {w : World} {l : List Oper} (hm : P.follows .mixedOrders = true) (hB : Region.lexB .any l.toArray = true)
    (h : wpQuiet P l.toArray (fun w' => ∃ k : KW w, w' = k.val) (fun a' => ∀ k : KW w, Q .normal a' k.val) l a) : (Code.region id l.toArray true).wp P Q a w := by
  refine wp_region_quiet (C := fun w' => ∃ k : KW w, w' = k.val) hm hB ⟨⟨w.drew, (Below.refl _ _).drew⟩, rfl⟩ ?_
  have e : (fun a' => ∀ w', (∃ k : KW w, w' = k.val) → Q .normal a' w') = (fun a' => ∀ k : KW w, Q .normal a' k.val) := by
    funext a'
    exact propext ⟨fun h k => h _ ⟨k, rfl⟩, fun h w' ⟨k, hk⟩ => by rw [hk]; exact h k⟩
  rw [e]
  exact h

/-- The law at the class of worlds that part in draws alone. -/
theorem wp_region_dw {P : Program} {id : Nat} {Q : Exit → Act → World → Prop} {a : Act} {w : World} {l : List Oper} (n : Nat) (hm : P.follows .mixedOrders = true) (hB : Region.lexTailB .any l.toArray n = true)
    (h : wpQuiet P l.toArray (fun w' => ∃ n, w' = w.drewN n) (fun a' => ∀ k : Nat, wpList P l.toArray Q (l.drop n) a' (w.drewN k)) (l.take n) a) : (Code.region id l.toArray true).wp P Q a w := by
  refine wp_region_head (C := fun w' => ∃ n, w' = w.drewN n) n hm hB ⟨1, rfl⟩ ?_
  have e : (fun a' => ∀ w', (∃ k : Nat, w' = w.drewN k) → wpList P l.toArray Q (l.drop n) a' w') = (fun a' => ∀ k : Nat, wpList P l.toArray Q (l.drop n) a' (w.drewN k)) := by
    funext a'
    exact propext ⟨fun h k => h _ ⟨k, rfl⟩, fun h w' ⟨k, hk⟩ => by rw [hk]; exact h k⟩
  rw [e]
  exact h
theorem quiet_eq {P : Program} {f : FuncId} {args : Array Value} {w : World} {n : Nat} {v : Value} (h : Calls P f args (w.drewN n) fun e w' => e = .returned v ∧ w.drewN n = w') :
    Calls P f args (w.drewN n) fun e w'' => e = .returned v ∧ ∃ m, w'' = w.drewN m :=
  h.mono fun _ _ ⟨he, hm⟩ => ⟨he, n, hm.symm⟩
theorem below_drewN {B : Nat} {a w : World} (h : Below B a w) (n : Nat) : Below B a (w.drewN n) := ⟨h.os, h.tape, h.output, h.size, h.block⟩

/-- A contract of a callee that writes nothing that was there, met in a world of the class. -/
theorem KW.call {P : Program} {f : FuncId} {args : Array Value} {W : World} {k : KW W} {v : Value} (h : Calls P f args k.val fun e w' => e = .returned v ∧ Below k.val.heap.size k.val w') :
    Calls P f args k.val fun e w' => e = .returned v ∧ ∃ k' : KW W, w' = k'.val :=
  h.mono fun _ w' ⟨he, hb⟩ => ⟨he, ⟨w', k.kp.trans (hb.mono k.kp.size)⟩, rfl⟩
theorem KW.same {P : Program} {f : FuncId} {args : Array Value} {W : World} {k : KW W} {v : Value} (h : Calls P f args k.val fun e w' => e = .returned v ∧ k.val = w') :
    Calls P f args k.val fun e w' => e = .returned v ∧ ∃ k' : KW W, w' = k'.val :=
  h.mono fun _ _w' ⟨he, hb⟩ => ⟨he, k, hb.symm⟩
theorem block_cell {w : World} {b : Nat} {cs : Array Value} {t : TypeId} (h : w.heap[b]? = some (.cells cs t (0, 0))) (i : Nat) : w.cell? ⟨b, i, none⟩ = cs[i]? := by simp [World.cell?, h]
theorem block_free {w : World} {b : Nat} {cs : Array Value} {t : TypeId} (h : w.heap[b]? = some (.cells cs t (0, 0))) (i : Nat) : w.frozen? ⟨b, i, none⟩ = false := by simp [World.frozen?, h]
theorem block_lt {w : World} {b : Nat} {o : Obj} (h : w.heap[b]? = some o) : b < w.heap.size := (Array.getElem?_eq_some_iff.1 h).1
/-- The world at hand under a name of its own. -/
theorem abs_wp {P : Program} {c : Code} {Q : Exit → Act → World → Prop} {a : Act} {w : World} (h : ∀ W, W = w → c.wp P Q a W) : c.wp P Q a w := h w rfl
end Go.Proofs.YtekfkieimdgfkaaGreat
namespace Go.Proofs.YtekfkieimdgfkaaGreat
open Go Go.RowKit
/-! ### A region one of whose calls panics -/
section
variable {P : Program} {ops : Array Oper} {md : Region.Mode} {C : World → Prop} {Q : Exit → Act → World → Prop}

/-- Whichever comes up: number j panics, the others are quiet. -/
def anyPan (P : Program) (md : Region.Mode) (ops : Array Oper) (C : World → Prop) (Pn : Act → Prop) (j : Nat) : Nat → Array Bool → Act → Prop
  | 0, li, a => Region.ready md ops li = [j] ∧ Pn a
  | f + 1, li, a => Region.ready md ops li ≠ [] ∧ ∀ i ∈ Region.ready md ops li, (i = j ∧ Pn a) ∨ (i ≠ j ∧ qOp P ops C i (anyPan P md ops C Pn j f (li.setIfInBounds i true)) a)

theorem anyPan_any {j g : Nat} {Pn : Act → Prop} (hPn : ∀ a w, Pn a → C w → ∀ K, wpOp P ops Q j K a w) : ∀ (f : Nat) (li : Array Bool) (a : Act) (w : World), C w → anyPan P md ops C Pn j f li a → wpAny P md ops Q (f + (g + 1)) li a w
  | 0, li, a, w, hw, h => by
    rw [Nat.zero_add]
    refine ⟨fun h0 => ?_, fun i hi => ?_⟩
    · rw [h.1] at h0; cases h0
    · rw [h.1] at hi
      obtain rfl : i = j := by simpa using hi
      exact hPn _ w h.2 hw _
  | f + 1, li, a, w, hw, h => by
    have e : f + 1 + (g + 1) = (f + (g + 1)) + 1 := by omega
    rw [e]
    refine ⟨fun h0 => absurd h0 h.1, fun i hi => ?_⟩
    rcases h.2 i hi with ⟨rfl, hp⟩ | ⟨_, hq⟩
    · exact hPn _ w hp hw _
    · exact wpOp_of_qOp hw (fun a' w' hw' h' => anyPan_any hPn f _ a' w' hw' h') hq

theorem anyPan_take {j i : Nat} {oi oj : Oper} {v : Value} {Pn : Act → Prop} (hij : i ≠ j) (hi : ops[i]? = some oi) (hoj : ops[j]? = some oj) (hsel : ∀ (j : Nat) (o : Oper) cs b, ops[j]? = some o → o.op ≠ .select cs b)
    (hback : ∀ a d u, (∀ x, d = some x → x ∉ oj.looksAt ops) → Pn (a.put d u) → Pn a) (f : Nat) : ∀ (li : Array Bool) (a : Act),
      (∀ k ok, ops[k]? = some ok → k ≠ i → li.getD k true = false → (∀ e ∈ ok.after, Region.binds md e = true → e.on ≠ i) → oi.apart ops ok = true) →
      i ∈ Region.ready md ops li → YieldsIn P ops C oi v a → anyPan P md ops C Pn j f (li.setIfInBounds i true) (a.put oi.dst v) → anyPan P md ops C Pn j (f + 1) li a := by
  have hno : ∀ (li : Array Bool) (k : Nat) (ok : Oper), k ∈ Region.ready md ops li → ops[k]? = some ok → li.getD i true = false → ∀ e ∈ ok.after, Region.binds md e = true → e.on ≠ i := by
    intro li k ok hk hok hun e he hb heq
    obtain ⟨_, ok', hok', hall⟩ := mem_ready.1 hk
    obtain rfl : ok = ok' := Option.some.inj (hok.symm.trans hok')
    have hx := hall e he hb
    rw [heq, getD_both hun] at hx
    cases hx
  have hpan : ∀ (li : Array Bool) (a : Act), (∀ k ok, ops[k]? = some ok → k ≠ i → li.getD k true = false → (∀ e ∈ ok.after, Region.binds md e = true → e.on ≠ i) → oi.apart ops ok = true) →
      li.getD i true = false → j ∈ Region.ready md ops li → Pn (a.put oi.dst v) → Pn a := by
    intro li a hfree hun hj hp
    exact hback a oi.dst v (Oper.apart_spec (hfree j oj hoj (Ne.symm hij) (mem_ready.1 hj).1 (hno li j oj hj hoj hun))).1 hp
  induction f with
  | zero =>
    intro li a hfree hr hy H
    have hun := (mem_ready.1 hr).1
    refine ⟨fun h => (by rw [h] at hr; cases hr), fun k hk => ?_⟩
    by_cases hki : k = i
    · subst hki
      exact .inr ⟨hij, hy.qOp hi H⟩
    · have hk2 := ready_mono hk hki
      rw [H.1] at hk2
      obtain rfl : k = j := by simpa using hk2
      exact .inl ⟨rfl, hpan li a hfree hun hk H.2⟩
  | succ f ih =>
    intro li a hfree hr hy H
    have hun := (mem_ready.1 hr).1
    refine ⟨fun h => (by rw [h] at hr; cases hr), fun k hk => ?_⟩
    by_cases hki : k = i
    · subst hki
      exact .inr ⟨hij, hy.qOp hi H⟩
    · rcases H.2 k (ready_mono hk hki) with ⟨rfl, hp⟩ | ⟨hkj, hq⟩
      · exact .inl ⟨rfl, hpan li a hfree hun hk hp⟩
      · obtain ⟨hkun, ok, hok, _⟩ := mem_ready.1 hk
        refine .inr ⟨hkj, qOp_mono (fun a' h3 => ?_) (qOp_put hok (hfree k ok hok hki hkun (hno li k ok hk hok hun)) (fun cs b => hsel i oi cs b hi) (fun cs b => hsel k ok cs b hok) hy hq)⟩
        refine ih _ a' (fun m om hm hmi hmu hmn => ?_) (ready_mono hr (Ne.symm hki)) h3.1 ?_
        · refine hfree m om hm hmi ?_ hmn
          by_cases hkm : k = m
          · rw [← hkm]; exact hkun
          · rwa [getD_set_ne true hkm] at hmu
        · rw [Array.setIfInBounds_comm _ _ hki]
          exact h3.2

def Region.lexPan (md : Region.Mode) (ops : Array Oper) (j : Nat) : List Nat → Array Bool → Bool
  | [], li => decide (Region.ready md ops li = [j])
  | k :: ks, li => decide (k ≠ j) && (Region.ready md ops li).contains k && Region.free md ops li k && Region.lexPan md ops j ks (li.setIfInBounds k true)

theorem anyPan_text {j : Nat} {oj : Oper} {Pn : Act → Prop} (hoj : ops[j]? = some oj) (hs : Region.noSelect ops = true)
    (hback : ∀ a d u, (∀ x, d = some x → x ∉ oj.looksAt ops) → Pn (a.put d u) → Pn a) : ∀ (ks : List Nat) (li : Array Bool) (a : Act), (∀ k ∈ ks, k < ops.size) →
    Region.lexPan md ops j ks li = true → wpQuiet P ops C Pn (ks.filterMap (ops[·]?)) a → anyPan P md ops C Pn j ks.length li a
  | [], li, a, _, hB, h => ⟨by simpa [Region.lexPan] using hB, h⟩
  | k :: ks, li, a, hk, hB, h => by
    have hlt := hk k (by simp)
    have h0 : ops[k]? = some ops[k] := Array.getElem?_eq_getElem hlt
    simp only [Region.lexPan, Bool.and_eq_true, decide_eq_true_eq] at hB
    obtain ⟨⟨⟨hkj, hr⟩, hf⟩, hB'⟩ := hB
    have e : (k :: ks).filterMap (ops[·]?) = ops[k] :: ks.filterMap (ops[·]?) := by simp [h0]
    rw [e] at h
    obtain ⟨v, hy, hK⟩ := yieldsIn_of_qOp h0 (K := wpQuiet P ops C Pn (ks.filterMap (ops[·]?))) (by unfold qOp; simp only [h0]; exact h)
    exact anyPan_take hkj h0 hoj (Region.noSelect_spec hs) hback ks.length li a (Region.free_spec h0 hf) (by simpa using hr) hy
      (anyPan_text hoj hs hback ks _ _ (fun x hx => hk x (by simp [hx])) hB' hK)

/-- A CALL IN A REGION THAT PANICS (number j, unguarded, a value as its callee's number): the others that do not wait for it are quiet. -/
theorem wp_region_pan {id : Nat} {a : Act} {w : World} {l : List Oper} (j f : Nat) (ks : List Nat) (chain : List PanicEntry) (hm : P.follows .mixedOrders = true) (hsel : Region.noSelect l.toArray = true)
    (hlex : Region.lexPan .any l.toArray j ks (Array.replicate l.toArray.size false) = true) (hks : ks.all (fun k => decide (k < l.toArray.size)) = true) (hlen : ks.length + 1 ≤ l.toArray.size) (hg : (l.toArray[j]?).map (·.guard) = some none)
    (hQ : ∀ a d u w, Q (.panic chain) (a.put (some d) u) w → Q (.panic chain) a w)
    (h : wpQuiet P l.toArray (fun w' => ∃ n, w' = w.drewN n) (fun a' => ∀ n : Nat, ∃ args oj, l.toArray[j]? = some oj ∧ (execOp a'.eval oj).run P (w.drewN n) = .ok (.enter f args) (w.drewN n) ∧
      Calls P f args (w.drewN n) fun e w' => e = .panicked chain ∧ Q (.panic chain) a' w') (ks.filterMap (l.toArray[·]?)) a) : (Code.region id l.toArray true).wp P Q a w := by
  obtain ⟨oj, hoj, hgj⟩ := Option.map_eq_some_iff.1 hg
  refine wp_region_any hm ?_
  have hopsel := Region.noSelect_spec hsel j oj
  have H := anyPan_text (md := .any) (P := P) (C := fun w' => ∃ n, w' = w.drewN n) (Pn := fun a' => ∀ n : Nat, ∃ args oj, l.toArray[j]? = some oj ∧ (execOp a'.eval oj).run P (w.drewN n) = .ok (.enter f args) (w.drewN n) ∧
      Calls P f args (w.drewN n) fun e w' => e = .panicked chain ∧ Q (.panic chain) a' w') hoj hsel (fun a' d u hd hp n => by
    obtain ⟨args, oj', ho', hr, hc⟩ := hp n
    obtain rfl : oj = oj' := Option.some.inj (hoj.symm.trans ho')
    rw [execOp_put oj (fun cs b => hopsel cs b hoj) a' d u hd] at hr
    exact ⟨args, oj, hoj, hr, hc.mono fun e w' ⟨he, hq⟩ => ⟨he, by cases d with | none => exact hq | some d => exact hQ _ _ _ _ hq⟩⟩) ks _ a (fun k hk => by simpa using List.all_eq_true.1 hks k hk) hlex h
  have := anyPan_any (Q := Q) (g := l.toArray.size - (ks.length + 1)) (fun a' w' hp ⟨n, hn⟩ K => by
    obtain ⟨args, oj', ho', hr, hc⟩ := hp n
    obtain rfl : oj = oj' := Option.some.inj (hoj.symm.trans ho')
    unfold wpOp
    simp only [hoj]
    rw [if_pos (by simp [Region.wanted, hgj])]
    refine .inl ?_
    unfold Oper.wp
    rw [hn, hr, Oper.upon_enter]
    exact hc.mono fun e w'' ⟨he, hq⟩ => by subst he; exact hq) ks.length _ a { w with drawn := w.drawn + 1 } ⟨1, rfl⟩ H
  rwa [show ks.length + (l.toArray.size - (ks.length + 1) + 1) = l.toArray.size by omega] at this
end
end Go.Proofs.YtekfkieimdgfkaaGreat
/-
  What is proved here: a region that draws its order, whose first n operations are quiet, whose operation n is a call that all others wait for, and whose other operations are quiet behind it, may be walked in the order of the text. Condition: the Bool 'Region.midB'.
-/
namespace Go.Proofs.YtekfkieimdgfkaaGreat
open Go Go.RowKit
section
variable {P : Program} {ops : Array Oper} {md : Region.Mode} {C : World → Prop}
/-- Whatever stands behind n waits for n, or for something between. -/
def Region.tailB (md : Region.Mode) (ops : Array Oper) (n : Nat) : Bool :=
  (List.range ops.size).all fun t => decide (t ≤ n) || (List.range ops.size).any fun j => decide (n ≤ j) && Region.waitsFor md ops t j
theorem tail_waitsM {n : Nat} {listed : Array Bool} (hs : Region.sinkB md ops n = true) (hc : Region.tailB md ops n = true) (hn : n < ops.size) (inv : HeadInv md ops n listed) :
    ∀ (d i : Nat), n - i = d → i < n → listed.getD i true = false → ∀ t, n ≤ t → t ∉ Region.ready md ops listed := by
  intro d
  induction d using Nat.strongRecOn with
  | _ d ih =>
    intro i hd hi hun t ht hr
    obtain ⟨_, ot, hot, hall⟩ := mem_ready.1 hr
    have htlt : t < ops.size := (Array.getElem?_eq_some_iff.1 hot).1
    by_cases htn : t = n
    · subst htn
      obtain ⟨j, hj, hj2⟩ := List.any_eq_true.1 (List.all_eq_true.1 hs i (List.mem_range.2 hi))
      simp only [Bool.and_eq_true, decide_eq_true_eq] at hj2
      obtain ⟨oj, hoj, e, he, hb, hon⟩ := Region.waitsFor_spec hj2.2
      have hjle : j ≤ t := by have := List.mem_range.1 hj; omega
      by_cases hjt : j = t
      · subst hjt
        obtain rfl : oj = ot := Option.some.inj (hoj.symm.trans hot)
        have h2 := hall e he hb
        rw [hon, getD_both hun] at h2
        cases h2
      · cases hl : listed.getD j false with
        | true =>
          have h2 := inv.closed j oj hoj hl e he hb
          rw [hon, getD_both hun] at h2
          cases h2
        | false =>
          have hjs : j < listed.size := by rw [inv.size]; omega
          exact ih (t - j) (by omega) j rfl (by omega) (getD_in hjs hl) t (Nat.le_refl _) hr
    · have h1 := List.all_eq_true.1 hc t (List.mem_range.2 htlt)
      simp only [Bool.or_eq_true, decide_eq_true_eq] at h1
      rcases h1 with h1 | h1
      · omega
      · obtain ⟨j, hj, hj2⟩ := List.any_eq_true.1 h1
        simp only [Bool.and_eq_true, decide_eq_true_eq] at hj2
        obtain ⟨o', ho', e, he, hb, hon⟩ := Region.waitsFor_spec hj2.2
        obtain rfl : o' = ot := Option.some.inj (ho'.symm.trans hot)
        have h2 := hall e he hb
        rw [hon, getD_both (inv.tail j hj2.1 (List.mem_range.1 hj))] at h2
        cases h2
theorem headQ_takeM {n i : Nat} {oi : Oper} {v : Value} {L : Array Bool → Act → Prop} (hi : ops[i]? = some oi) (hsel : ∀ (j : Nat) (o : Oper) cs b, ops[j]? = some o → o.op ≠ .select cs b)
    (hs : Region.sinkB md ops n = true) (hc : Region.tailB md ops n = true) (hn : n < ops.size) (hin : i < n) (hdone : ∀ li a, L li a → ∀ j ∈ Region.ready md ops li, n ≤ j)
    (f : Nat) : ∀ (li : Array Bool) (a : Act), HeadInv md ops n li →
      (∀ j oj, ops[j]? = some oj → j ≠ i → li.getD j true = false → (∀ e ∈ oj.after, Region.binds md e = true → e.on ≠ i) → oi.apart ops oj = true) →
      i ∈ Region.ready md ops li → YieldsIn P ops C oi v a → headQ P md ops C n L f (li.setIfInBounds i true) (a.put oi.dst v) → headQ P md ops C n L (f + 1) li a := by
  induction f with
  | zero =>
    intro li a inv _ hr hy H
    have hun := (mem_ready.1 hr).1
    refine ⟨fun h => (by rw [h] at hr; cases hr), fun j hj => ?_⟩
    have hjn : j < n := Nat.lt_of_not_le fun h => tail_waitsM hs hc hn inv _ i rfl hin hun j h hj
    refine ⟨hjn, ?_⟩
    by_cases hji : j = i
    · subst hji
      exact hy.qOp hi H
    · exact absurd (hdone _ _ H j (ready_mono hj hji)) (by omega)
  | succ f ih =>
    intro li a inv hfree hr hy H
    have hun := (mem_ready.1 hr).1
    refine ⟨fun h => (by rw [h] at hr; cases hr), fun j hj => ?_⟩
    have hjn : j < n := Nat.lt_of_not_le fun h => tail_waitsM hs hc hn inv _ i rfl hin hun j h hj
    refine ⟨hjn, ?_⟩
    by_cases hji : j = i
    · subst hji
      exact hy.qOp hi H
    · have h1 := (H.2 j (ready_mono hj hji)).2
      obtain ⟨hjun, oj, hoj, hall⟩ := mem_ready.1 hj
      have hno : ∀ e ∈ oj.after, Region.binds md e = true → e.on ≠ i := by
        intro e he hb heq
        have hx := hall e he hb
        rw [heq, getD_both hun] at hx
        cases hx
      refine qOp_mono (fun a' h3 => ?_) (qOp_put hoj (hfree j oj hoj hji hjun hno) (fun cs b => hsel i oi cs b hi) (fun cs b => hsel j oj cs b hoj) hy h1)
      refine ih _ a' (inv.set hj hjn) (fun k ok hk hki hku hkn => ?_) (ready_mono hr (Ne.symm hji)) h3.1 ?_
      · refine hfree k ok hk hki ?_ hkn
        by_cases hjk : j = k
        · rw [← hjk]; exact hjun
        · rwa [getD_set_ne true hjk] at hku
      · rw [Array.setIfInBounds_comm _ _ hji]
        exact h3.2
def Region.lexHeadM (md : Region.Mode) (ops : Array Oper) : Nat → Nat → Array Bool → Bool
  | 0, k, li => decide (Region.ready md ops li = [k]) && Region.lexFrom md ops (ops.size - (k + 1)) (k + 1) (li.setIfInBounds k true)
  | f + 1, k, li => (Region.ready md ops li).contains k && Region.free md ops li k && Region.lexHeadM md ops f (k + 1) (li.setIfInBounds k true)
def Region.midB (md : Region.Mode) (ops : Array Oper) (n : Nat) : Bool :=
  Region.noSelect ops && decide (n < ops.size) && Region.sinkB md ops n && Region.tailB md ops n && Region.lexHeadM md ops n 0 (Array.replicate ops.size false)
theorem headQ_textM {n : Nat} {Lq : Act → Prop} (hsel : Region.noSelect ops = true) (hs : Region.sinkB md ops n = true) (hc : Region.tailB md ops n = true) (hn : n < ops.size) :
    ∀ (l : List Oper) (k : Nat) (li : Array Bool) (a : Act), (∀ j, j < l.length → l[j]? = ops[k + j]?) → k + l.length = n → HeadInv md ops n li →
    Region.lexHeadM md ops l.length k li = true → wpQuiet P ops C Lq l a →
    headQ P md ops C n (fun li' a' => (Region.ready md ops li' = [n] ∧ Region.lexFrom md ops (ops.size - (n + 1)) (n + 1) (li'.setIfInBounds n true) = true) ∧ Lq a') l.length li a
  | [], k, li, a, _, hk, _, hB, h => by
    obtain rfl : k = n := by simpa using hk
    simp only [List.length_nil, Region.lexHeadM, Bool.and_eq_true, decide_eq_true_eq] at hB
    exact ⟨hB, h⟩
  | o :: l, k, li, a, hl, hk, inv, hB, h => by
    simp only [List.length_cons] at hk
    have h0 : ops[k]? = some o := by simpa using (hl 0 (by simp)).symm
    simp only [List.length_cons, Region.lexHeadM, Bool.and_eq_true] at hB
    have hr : k ∈ Region.ready md ops li := by simpa using hB.1.1
    obtain ⟨v, hy, hK⟩ := yieldsIn_of_qOp h0 (K := wpQuiet P ops C Lq l) (by unfold qOp; simp only [h0]; exact h)
    refine headQ_takeM h0 (Region.noSelect_spec hsel) hs hc hn (by omega) (fun _ _ hL j hj => ?_) l.length li a inv (Region.free_spec h0 hB.1.2) hr hy ?_
    · rw [hL.1.1] at hj
      have : j = n := by simpa using hj
      omega
    refine headQ_textM hsel hs hc hn l (k + 1) _ _ (fun j hj => ?_) (by omega) (inv.set hr (by omega)) hB.2 hK
    have e : k + 1 + j = k + (j + 1) := by omega
    rw [e, ← hl (j + 1) (by simp only [List.length_cons]; omega)]
    rfl
/-- THE LAW: quiet, a call, quiet. -/
theorem wp_region_mid {id : Nat} {Q : Exit → Act → World → Prop} {a : Act} {w : World} {l : List Oper} (n : Nat) (hm : P.follows .mixedOrders = true) (hB : Region.midB .any l.toArray n = true)
    (h : wpQuiet P l.toArray (fun w' => ∃ k : KW w, w' = k.val) (fun a' => ∀ k : KW w, ∃ f args oj, l.toArray[n]? = some oj ∧ oj.guard = none ∧ (execOp a'.eval oj).run P k.val = .ok (.enter f args) k.val ∧
      Calls P f args k.val fun e w'' => ∃ v, e = .returned v ∧ wpQuiet P l.toArray (fun x => ∃ k2 : KW w'', x = k2.val) (fun a3 => ∀ k2 : KW w'', Q .normal a3 k2.val) (l.drop (n + 1)) (a'.put oj.dst v)) (l.take n) a) :
    (Code.region id l.toArray true).wp P Q a w := by
  simp only [Region.midB, Bool.and_eq_true, decide_eq_true_eq] at hB
  obtain ⟨⟨⟨⟨hsel, hn⟩, hs⟩, hc⟩, hlex⟩ := hB
  have hnl : n < l.length := by simpa using hn
  have htl : (l.take n).length = n := by rw [List.length_take]; omega
  have hdl : (l.drop (n + 1)).length = l.toArray.size - (n + 1) := by simp
  have inv0 : HeadInv .any l.toArray n (Array.replicate l.toArray.size false) :=
    ⟨by simp, fun j oj _ hl => (by rw [getD_replicate_false] at hl; cases hl), fun t _ ht => getD_in (by simpa using ht) (getD_replicate_false _ _)⟩
  have H := headQ_textM (md := .any) (P := P) (C := fun w' => ∃ k : KW w, w' = k.val) hsel hs hc hn (l.take n) 0 _ a (fun j hj => by
    have hj' : j < n := by rw [htl] at hj; exact hj
    simp [hj']) (by simpa using htl) inv0 (by rw [htl]; exact hlex) h
  refine wp_region_any hm ?_
  have := headQ_any (Q' := Q) (g := (l.toArray.size - (n + 1)) + 1) (fun li a' w' hw' hL => by
    obtain ⟨⟨hrd, hlx⟩, hq⟩ := hL
    obtain ⟨k, rfl⟩ := hw'
    obtain ⟨f, args, oj, hoj, hg, hr, hcall⟩ := hq k
    refine ⟨fun h0 => (by rw [hrd] at h0; cases h0), fun i hi => ?_⟩
    rw [hrd] at hi
    obtain rfl : i = n := by simpa using hi
    unfold wpOp
    simp only [hoj]
    rw [if_pos (by simp [Region.wanted, hg])]
    refine .inl ?_
    unfold Oper.wp
    rw [hr, Oper.upon_enter]
    refine hcall.mono fun e w'' ⟨v, he, hq2⟩ => ?_
    subst he
    have h5 := wpAnyQ_lex (C := fun x => ∃ k2 : KW w'', x = k2.val) (md := .any) hsel (l.drop (i + 1)) (i + 1) (li.setIfInBounds i true) (a'.put oj.dst v) (fun j => by simp [List.getElem?_drop]) (by rw [hdl]; exact hlx) hq2
    have h6 := wpAny_of_quiet (Q' := Q) (fun a3 w3 ⟨k3, hk3⟩ h3 => by rw [hk3]; exact h3 k3) _ _ _ w'' ⟨⟨w'', Below.refl _ _⟩, rfl⟩ h5
    rwa [hdl] at h6) _ _ _ _ ⟨⟨w.drew, (Below.refl _ _).drew⟩, rfl⟩ H
  rwa [htl, show n + (l.toArray.size - (n + 1) + 1) = l.toArray.size by omega] at this
end
end Go.Proofs.YtekfkieimdgfkaaGreat
