/-
  What is proved here: a region that draws its order and declares variables ('x, y := f(a), f(b)': loads, calls and allocs in whatever order, then the stores) may be walked in the order of the text, the variables' blocks being any that differ. Condition: the Bool 'Region.lexTailB'.
-/
import Derived.Test.YtgpeekmagckgcaaMem
namespace Go.Proofs.Ytgpeekmagckgcaa
open Go Go.RowKit

section
variable {P : Program} {ops : Array Oper} {md : Region.Mode} {W : World} {V : Nat → Value} {Al : Nat → Bool} {Z : Nat → Obj}

/-- In the world w the operation leaves v, and turns nothing that is there. -/
def growAt (P : Program) (o : Oper) (a : Act) (w : World) (v : Value) : Prop :=
  match (execOp a.eval o).run P w with
  | .ok (.value u) w' => w' = w ∧ u = v
  | .ok .skip w' => w' = w ∧ v = undef
  | .ok (.enter f args) w' => w' = w ∧ Calls P f args w (fun e w'' => e = .returned v ∧ Below w.heap.size w w'')
  | _ => False

def upd (β : Nat → Nat) (i g : Nat) : Nat → Nat := fun j => if j = i then g else β j

/-- What operation number i, taken now, must be; and what it leaves (g: where the new variable lies, if it is one). -/
def preO (P : Program) (ops : Array Oper) (W : World) (V : Nat → Value) (Al : Nat → Bool) (o : Oper) (i : Nat) (a : Act) : Prop :=
  if Al i = true then Region.wanted o (yielded ops a.tmps) = true
  else if Region.wanted o (yielded ops a.tmps) = true then ∀ w, Below W.heap.size W w → growAt P o a w (V i) else True
def outO (ops : Array Oper) (V : Nat → Value) (Al : Nat → Bool) (o : Oper) (i g : Nat) (x : (Nat → Nat) × Act) : (Nat → Nat) × Act :=
  if Al i = true then (upd x.1 i g, x.2.put o.dst (.pointer (some ⟨g, 0, none⟩)))
  else if Region.wanted o (yielded ops x.2.tmps) = true then (x.1, x.2.put o.dst (V i)) else (x.1, x.2.put o.dst undef)

theorem outO_act (o : Oper) (i g : Nat) (x : (Nat → Nat) × Act) : ∃ v, (outO ops V Al o i g x).2 = x.2.put o.dst v := by
  unfold outO
  split
  · exact ⟨_, rfl⟩
  · split <;> exact ⟨_, rfl⟩

theorem preO_put {oi oj : Oper} {j : Nat} (hsj : ∀ cs b, oj.op ≠ .select cs b) (h1 : ∀ d, oi.dst = some d → d ∉ oj.looksAt ops) (a : Act) (v : Value) :
    preO P ops W V Al oj j (a.put oi.dst v) = preO P ops W V Al oj j a := by
  unfold preO growAt
  rw [wanted_put oj a oi.dst v h1, execOp_put oj hsj a oi.dst v h1]

theorem outO_comm {oi oj : Oper} {i j g g' : Nat} (hij : j ≠ i) (h1 : ∀ d, oi.dst = some d → d ∉ oj.looksAt ops) (h2 : ∀ d, oi.dst = some d → oj.dst ≠ some d) (h3 : ∀ d, oj.dst = some d → d ∉ oi.looksAt ops)
    (x : (Nat → Nat) × Act) : outO ops V Al oj j g' (outO ops V Al oi i g x) = outO ops V Al oi i g (outO ops V Al oj j g' x) := by
  have hu : ∀ β : Nat → Nat, upd (upd β i g) j g' = upd (upd β j g') i g := fun β => by
    funext k
    unfold upd
    split
    · rename_i hk
      rw [if_neg (by omega)]
    · rfl
  unfold outO
  by_cases ai : Al i = true <;> by_cases aj : Al j = true <;> simp only [ai, aj, if_true, if_false, Bool.false_eq_true]
  · rw [hu, Act.put_comm _ _ _ h2]
  · rw [wanted_put oj _ oi.dst _ h1]
    split
    · simp only [Act.put_comm _ _ _ h2]
    · simp only [Act.put_comm _ _ _ h2]
  · rw [wanted_put oi _ oj.dst _ h3]
    split
    · simp only [Act.put_comm _ _ _ h2]
    · simp only [Act.put_comm _ _ _ h2]
  · by_cases wi : Region.wanted oi (yielded ops x.2.tmps) = true <;> by_cases wj : Region.wanted oj (yielded ops x.2.tmps) = true <;>
      simp only [wi, wj, if_true, if_false, Bool.false_eq_true, wanted_put oj _ oi.dst _ h1, wanted_put oi _ oj.dst _ h3, Act.put_comm _ _ _ h2]

/-- f operations of the head are still to come, whichever comes up. -/
def headV (P : Program) (md : Region.Mode) (ops : Array Oper) (W : World) (V : Nat → Value) (Al : Nat → Bool) (n : Nat) (L : Array Bool → (Nat → Nat) × Act → Prop) : Nat → Array Bool → (Nat → Nat) × Act → Prop
  | 0, li, x => L li x
  | f + 1, li, x => Region.ready md ops li ≠ [] ∧ ∀ i ∈ Region.ready md ops li, i < n ∧ ∀ o, ops[i]? = some o → preO P ops W V Al o i x.2 ∧ ∀ g, headV P md ops W V Al n L f (li.setIfInBounds i true) (outO ops V Al o i g x)

theorem headV_take {n i : Nat} {oi : Oper} {L : Array Bool → (Nat → Nat) × Act → Prop} (hi : ops[i]? = some oi) (hsel : ∀ (j : Nat) (o : Oper) cs b, ops[j]? = some o → o.op ≠ .select cs b)
    (hs : Region.sinkB md ops n = true) (hc : Region.chainB md ops n = true) (hn : n < ops.size) (hin : i < n) (hdone : ∀ li x, L li x → ∀ j ∈ Region.ready md ops li, n ≤ j)
    (f : Nat) : ∀ (li : Array Bool) (x : (Nat → Nat) × Act), HeadInv md ops n li →
      (∀ j oj, ops[j]? = some oj → j ≠ i → li.getD j true = false → (∀ e ∈ oj.after, Region.binds md e = true → e.on ≠ i) → oi.apart ops oj = true) →
      i ∈ Region.ready md ops li → preO P ops W V Al oi i x.2 → (∀ g, headV P md ops W V Al n L f (li.setIfInBounds i true) (outO ops V Al oi i g x)) → headV P md ops W V Al n L (f + 1) li x := by
  induction f with
  | zero =>
    intro li x inv _ hr hy H
    have hun := (mem_ready.1 hr).1
    refine ⟨fun h => (by rw [h] at hr; cases hr), fun j hj => ?_⟩
    have hjn : j < n := Nat.lt_of_not_le fun h => tail_waits hs hc hn inv _ i rfl hin hun j h hj
    by_cases hji : j = i
    · subst hji
      refine ⟨hjn, fun o ho => ?_⟩
      obtain rfl : oi = o := Option.some.inj (hi.symm.trans ho)
      exact ⟨hy, H⟩
    · exact absurd (hdone _ _ (H 0) j (ready_mono hj hji)) (by omega)
  | succ f ih =>
    intro li x inv hfree hr hy H
    have hun := (mem_ready.1 hr).1
    refine ⟨fun h => (by rw [h] at hr; cases hr), fun j hj => ?_⟩
    have hjn : j < n := Nat.lt_of_not_le fun h => tail_waits hs hc hn inv _ i rfl hin hun j h hj
    refine ⟨hjn, fun oj hoj => ?_⟩
    by_cases hji : j = i
    · subst hji
      obtain rfl : oi = oj := Option.some.inj (hi.symm.trans hoj)
      exact ⟨hy, H⟩
    · have h1 := fun g => ((H g).2 j (ready_mono hj hji)).2 oj hoj
      obtain ⟨hjun, oj', hoj', hall⟩ := mem_ready.1 hj
      obtain rfl : oj = oj' := Option.some.inj (hoj.symm.trans hoj')
      have hno : ∀ e ∈ oj.after, Region.binds md e = true → e.on ≠ i := by
        intro e he hb heq
        have hx := hall e he hb
        rw [heq, getD_both hun] at hx
        cases hx
      obtain ⟨d1, d2, d3⟩ := Oper.apart_spec (hfree j oj hoj hji hjun hno)
      have hpre : preO P ops W V Al oj j x.2 := by
        obtain ⟨v, hv⟩ := outO_act (ops := ops) (V := V) (Al := Al) oi i 0 x
        have := (h1 0).1
        rwa [hv, preO_put (fun cs b => hsel j oj cs b hoj) d1] at this
      refine ⟨hpre, fun g' => ?_⟩
      refine ih _ _ (inv.set hj hjn) (fun k ok hk hki hku hkn => ?_) (ready_mono hr (Ne.symm hji)) ?_ fun g => ?_
      · refine hfree k ok hk hki ?_ hkn
        by_cases hjk : j = k
        · rw [← hjk]; exact hjun
        · rwa [getD_set_ne true hjk] at hku
      · obtain ⟨v, hv⟩ := outO_act (ops := ops) (V := V) (Al := Al) oj j g' x
        rw [hv, preO_put (fun cs b => hsel i oi cs b hi) d3]
        exact hy
      · have := (h1 g).2 g'
        rwa [outO_comm hji d1 d2 d3, Array.setIfInBounds_comm _ _ (Ne.symm hji)] at this

/-- THE WALK IN THE ORDER OF THE TEXT. -/
def wpVars (P : Program) (ops : Array Oper) (W : World) (V : Nat → Value) (Al : Nat → Bool) (Q : (Nat → Nat) × Act → Prop) : Nat → List Oper → (Nat → Nat) × Act → Prop
  | _, [], x => Q x
  | k, o :: rest, x => preO P ops W V Al o k x.2 ∧ ∀ g, wpVars P ops W V Al Q (k + 1) rest (outO ops V Al o k g x)

theorem headV_text {n g : Nat} {Lq : (Nat → Nat) × Act → Prop} (hsel : Region.noSelect ops = true) (hs : Region.sinkB md ops n = true) (hc : Region.chainB md ops n = true) (hn : n < ops.size) :
    ∀ (l : List Oper) (k : Nat) (li : Array Bool) (x : (Nat → Nat) × Act), (∀ j, j < l.length → l[j]? = ops[k + j]?) → k + l.length = n → HeadInv md ops n li → (∀ j, j < k → li.getD j false = true) →
    Region.lexHead md ops g l.length k li = true → wpVars P ops W V Al Lq k l x → headV P md ops W V Al n (fun li' x' => Region.seqB md ops g n li' = true ∧ (∀ j, j < n → li'.getD j false = true) ∧ Lq x') l.length li x
  | [], k, li, x, _, hk, _, ha, hB, h => by
    obtain rfl : k = n := by simpa using hk
    exact ⟨by simpa [Region.lexHead] using hB, ha, h⟩
  | o :: l, k, li, x, hl, hk, inv, ha, hB, h => by
    simp only [List.length_cons] at hk
    have h0 : ops[k]? = some o := by simpa using (hl 0 (by simp)).symm
    simp only [List.length_cons, Region.lexHead, Bool.and_eq_true] at hB
    have hr : k ∈ Region.ready md ops li := by simpa using hB.1.1
    refine headV_take h0 (Region.noSelect_spec hsel) hs hc hn (by omega) (fun _ _ hL => seqB_ready hL.1) l.length li x inv (Region.free_spec h0 hB.1.2) hr h.1 fun gg => ?_
    refine headV_text hsel hs hc hn l (k + 1) _ _ (fun j hj => ?_) (by omega) (inv.set hr (by omega)) (fun j hj => ?_) hB.2 (h.2 gg)
    · have e : k + 1 + j = k + (j + 1) := by omega
      rw [e, ← hl (j + 1) (by simp only [List.length_cons]; omega)]
      rfl
    · by_cases hjk : k = j
      · subst hjk
        have hks : k < li.size := by rw [inv.size]; omega
        simp [hks]
      · rw [getD_set_ne false hjk]
        exact ha j (by omega)

/-- What is known of the variables that lie already. -/
structure Lies (W : World) (Al : Nat → Bool) (Z : Nat → Obj) (li : Nat → Prop) (β : Nat → Nat) (w : World) : Prop where
  kept : Below W.heap.size W w
  lies : ∀ i, Al i = true → li i → W.heap.size ≤ β i ∧ w.heap[β i]? = some (Z i)
  apart : ∀ i j, Al i = true → Al j = true → li i → li j → i ≠ j → β i ≠ β j

theorem Lies.grow {li : Nat → Prop} {β : Nat → Nat} {w w' : World} (h : Lies W Al Z li β w) (hb : Below w.heap.size w w') : Lies W Al Z li β w' :=
  ⟨h.kept.trans (hb.mono h.kept.size), fun i hi hl => by
    obtain ⟨h1, h2⟩ := h.lies i hi hl
    refine ⟨h1, ?_⟩
    rw [hb.block _ (Array.getElem?_eq_some_iff.1 h2).1]
    exact h2, h.apart⟩
theorem Lies.weak {li li' : Nat → Prop} {β : Nat → Nat} {w : World} (h : Lies W Al Z li β w) (hl : ∀ i, Al i = true → li' i → li i) : Lies W Al Z li' β w :=
  ⟨h.kept, fun i hi h' => h.lies i hi (hl i hi h'), fun i j hi hj h1 h2 => h.apart i j hi hj (hl i hi h1) (hl j hj h2)⟩
theorem Lies.new {li li' : Nat → Prop} {β : Nat → Nat} {w : World} {k : Nat} (h : Lies W Al Z li β w) (hl : ∀ i, li' i → i ≠ k → li i) : Lies W Al Z li' (upd β k w.heap.size) (w.alloc (Z k)) := by
  have hlt : ∀ i, Al i = true → li i → β i < w.heap.size := fun i hi hl => (Array.getElem?_eq_some_iff.1 (h.lies i hi hl).2).1
  refine ⟨h.kept.alloc h.kept.size _, fun i hi h' => ?_, fun i j hi hj h1 h2 hij => ?_⟩
  · unfold upd
    split
    · subst k
      refine ⟨h.kept.size, ?_⟩
      show (w.heap.push _)[_]? = _
      simp
    · rename_i hik
      have h3 := h.lies i hi (hl i h' hik)
      exact ⟨h3.1, by rw [Below.heap_alloc _ _ _ (hlt i hi (hl i h' hik))]; exact h3.2⟩
  · unfold upd
    split <;> split
    · omega
    · rename_i a1 a2
      have := hlt j hj (hl j h2 a2)
      omega
    · rename_i a1 a2
      have := hlt i hi (hl i h1 a1)
      omega
    · rename_i a1 a2
      exact h.apart i j hi hj (hl i h1 a1) (hl j h2 a2) hij

theorem headV_any {n g : Nat} {L : Array Bool → (Nat → Nat) × Act → Prop} {Q' : Exit → Act → World → Prop}
    (hAl : ∀ i o, ops[i]? = some o → Al i = true → ∀ (a : Act) (w : World), (execOp a.eval o).run P w = .ok (.value (.pointer (some ⟨w.heap.size, 0, none⟩))) (w.alloc (Z i)))
    (hL : ∀ li x w, Lies W Al Z (fun i => li.getD i false = true) x.1 w → L li x → wpAny P md ops Q' g li x.2 w) :
    ∀ (f : Nat) (li : Array Bool) (x : (Nat → Nat) × Act) (w : World), Lies W Al Z (fun i => li.getD i false = true) x.1 w → headV P md ops W V Al n L f li x → wpAny P md ops Q' (f + g) li x.2 w
  | 0, li, x, w, hw, h => by rw [Nat.zero_add]; exact hL _ _ _ hw h
  | f + 1, li, x, w, hw, h => by
    have e : f + 1 + g = (f + g) + 1 := by omega
    rw [e]
    refine ⟨fun h0 => absurd h0 h.1, fun i hi => ?_⟩
    obtain ⟨hun, o, ho, hall⟩ := mem_ready.1 hi
    obtain ⟨hpre, hnext⟩ := (h.2 i hi).2 o ho
    have hstay : ∀ j, (li.setIfInBounds i true).getD j false = true → j ≠ i → li.getD j false = true := fun j hj hji => by
      rwa [getD_set_ne false (Ne.symm hji)] at hj
    unfold wpOp
    simp only [ho]
    unfold preO at hpre
    by_cases ai : Al i = true
    · simp only [ai, if_true] at hpre
      simp only [hpre, if_true]
      refine .inl ?_
      unfold Oper.wp
      rw [hAl i o ho ai, Oper.upon_value]
      have := headV_any hAl hL f _ _ (w.alloc (Z i)) (by
        have : (outO ops V Al o i w.heap.size x).1 = upd x.1 i w.heap.size := by unfold outO; rw [if_pos ai]
        rw [this]
        exact hw.new hstay) (hnext w.heap.size)
      have e2 : (outO ops V Al o i w.heap.size x).2 = x.2.put o.dst (.pointer (some ⟨w.heap.size, 0, none⟩)) := by unfold outO; rw [if_pos ai]
      rwa [e2] at this
    · have hw' : Lies W Al Z (fun j => (li.setIfInBounds i true).getD j false = true) x.1 w := hw.weak fun j hj hl => hstay j hl (fun e => ai (e ▸ hj))
      simp only [ai, if_false, Bool.false_eq_true] at hpre
      by_cases wi : Region.wanted o (yielded ops x.2.tmps) = true
      · simp only [wi, if_true] at hpre ⊢
        refine .inl ?_
        have e2 : ∀ gg, outO ops V Al o i gg x = (x.1, x.2.put o.dst (V i)) := fun gg => by unfold outO; rw [if_neg ai, if_pos wi]
        have h3 := hpre w hw.kept
        have h4 := fun w1 (h1 : Lies W Al Z (fun j => (li.setIfInBounds i true).getD j false = true) x.1 w1) => headV_any hAl hL f _ (x.1, x.2.put o.dst (V i)) w1 h1 (by rw [← e2 0]; exact hnext 0)
        unfold growAt at h3
        unfold Oper.wp
        generalize (execOp x.2.eval o).run P w = r at *
        cases r with
        | ok nx w' =>
          cases nx <;> simp only at h3 <;> simp only [Oper.upon]
          case value u =>
            obtain ⟨r1, r2⟩ := h3
            rw [r1, r2]
            exact h4 w hw'
          case skip =>
            obtain ⟨r1, r2⟩ := h3
            rw [r1, ← r2]
            exact h4 w hw'
          case enter f args =>
            obtain ⟨r1, hcall⟩ := h3
            rw [r1]
            exact hcall.mono fun e w'' ⟨he, hb⟩ => by subst he; exact h4 w'' (hw'.grow hb)
        | halt y w' => simp only at h3
      · simp only [wi, if_false, Bool.false_eq_true]
        have e2 : outO ops V Al o i 0 x = (x.1, x.2.put o.dst undef) := by unfold outO; rw [if_neg ai, if_neg wi]
        have := hnext 0
        rw [e2] at this
        exact headV_any hAl hL f _ (x.1, x.2.put o.dst undef) w hw' this

/-- THE LAW. n: the head; V: what each operation of it leaves; Al: which ones make a variable, Z: what lies in it at first. -/
theorem wp_region_vars {id : Nat} {Q : Exit → Act → World → Prop} {a : Act} {w : World} {l : List Oper} (n : Nat) (V : Nat → Value) (Al : Nat → Bool) (Z : Nat → Obj) (hm : P.follows .mixedOrders = true) (hB : Region.lexTailB .any l.toArray n = true)
    (hAl : ∀ i o, l[i]? = some o → Al i = true → ∀ (a : Act) (w : World), (execOp a.eval o).run P w = .ok (.value (.pointer (some ⟨w.heap.size, 0, none⟩))) (w.alloc (Z i)))
    (h : wpVars P l.toArray w V Al (fun x => ∀ w', Lies w Al Z (fun i => i < n) x.1 w' → wpList P l.toArray Q (l.drop n) x.2 w') 0 (l.take n) (fun _ => 0, a)) : (Code.region id l.toArray true).wp P Q a w := by
  simp only [Region.lexTailB, Bool.and_eq_true, decide_eq_true_eq] at hB
  obtain ⟨⟨⟨⟨hsel, hn⟩, hs⟩, hc⟩, hlex⟩ := hB
  have hnl : n < l.length := by simpa using hn
  have htl : (l.take n).length = n := by rw [List.length_take]; omega
  have hdl : (l.drop n).length = l.toArray.size - n := by simp
  have inv0 : HeadInv .any l.toArray n (Array.replicate l.toArray.size false) :=
    ⟨by simp, fun j oj _ hl => (by rw [getD_replicate_false] at hl; cases hl), fun t _ ht => getD_in (by simpa using ht) (getD_replicate_false _ _)⟩
  have H := headV_text (md := .any) (g := l.toArray.size - n) hsel hs hc hn (l.take n) 0 _ (fun _ => 0, a) (fun j hj => by
    have hj' : j < n := by rw [htl] at hj; exact hj
    simp [hj']) (by simpa using htl) inv0 (fun j hj => by omega) (by rw [htl]; exact hlex) h
  refine wp_region_any hm ?_
  have := headV_any (Q' := Q) (g := l.toArray.size - n) (Z := Z) (fun i o ho => hAl i o (by simpa using ho)) (fun li x w' hw' hL => by
    have := wpAny_of_seq (md := .any) (Q' := Q) (l.drop n) n li x.2 w' (fun j => by simp [List.getElem?_drop]) (by rw [hdl]; exact hL.1) (hL.2.2 w' (hw'.weak fun i _ hi => hL.2.1 i hi))
    rwa [hdl] at this) _ _ _ { w with drawn := w.drawn + 1 } ⟨(Below.refl _ _).drew, fun i _ hi => (by rw [getD_replicate_false] at hi; cases hi), fun i _ _ _ hi => (by rw [getD_replicate_false] at hi; cases hi)⟩ H
  rwa [htl, show n + (l.toArray.size - n) = l.toArray.size by omega] at this

theorem wpVars_nil {Q : (Nat → Nat) × Act → Prop} {k : Nat} {x : (Nat → Nat) × Act} (h : Q x) : wpVars P ops W V Al Q k [] x := h
theorem wpVars_val {Q : (Nat → Nat) × Act → Prop} {k : Nat} {o : Oper} {rest : List Oper} {β : Nat → Nat} {a : Act} (h1 : Al k = false) (h2 : Region.wanted o (yielded ops a.tmps) = true) (h3 : ∀ w, Below W.heap.size W w → growAt P o a w (V k))
    (h4 : ∀ K : (Nat → Nat) × Act → Prop, (∀ x, wpVars P ops W V Al Q (k + 1) rest x → K x) → K (β, a.put o.dst (V k))) : wpVars P ops W V Al Q k (o :: rest) (β, a) := by
  refine ⟨by unfold preO; rw [h1, if_neg Bool.false_ne_true, if_pos h2]; exact h3, fun g => ?_⟩
  unfold outO
  rw [h1, if_neg Bool.false_ne_true, if_pos h2]
  exact h4 _ fun _ h => h
theorem wpVars_var {Q : (Nat → Nat) × Act → Prop} {k : Nat} {o : Oper} {rest : List Oper} {β : Nat → Nat} {a : Act} (h1 : Al k = true) (h2 : Region.wanted o (yielded ops a.tmps) = true)
    (h4 : ∀ (g : Nat) (K : (Nat → Nat) × Act → Prop), (∀ x, wpVars P ops W V Al Q (k + 1) rest x → K x) → K (upd β k g, a.put o.dst (.pointer (some ⟨g, 0, none⟩)))) : wpVars P ops W V Al Q k (o :: rest) (β, a) := by
  refine ⟨by unfold preO; rw [h1, if_pos rfl]; exact h2, fun g => ?_⟩
  unfold outO
  rw [h1, if_pos rfl]
  exact h4 g _ fun _ h => h
end
end Go.Proofs.Ytgpeekmagckgcaa
