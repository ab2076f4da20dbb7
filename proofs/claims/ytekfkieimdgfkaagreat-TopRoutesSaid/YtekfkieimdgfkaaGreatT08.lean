/- What is proved here: what is left of a leaf condition at a switch. Condition: it has no parts. -/
import Derived.Test.YtekfkieimdgfkaaGreatT01
import Derived.Test.YtekfkieimdgfkaaGreatT03
import Derived.Test.YtekfkieimdgfkaaGreatT04
import Derived.OrdersHeld
import Derived.Deep.MidRow
import Derived.Deep.RegionHeld3
namespace Go.Proofs.YtekfkieimdgfkaaGreat
open Go Go.RowKit
attribute [local go_sem] KW.cell KW.frozen
theorem ret52 {fn : Func} {p : Tmp} (h : fn.results = #[.cell p 52]) {R : Ending → World → Prop} {a : Act} {w : World} {g : Nat} {cs : Array Value} {t : TypeId} (hd : a.defers = []) (hp : a.tmps.getD p undef = .pointer (some ⟨g, 0, none⟩))
    (hg : w.heap[g]? = some (.cells cs t (0, 0))) (hs : cs.size = 4) (hR : R (.returned (.agg cs)) w) : bodyPost Tryz.prog fn R .ret a w := by
  obtain ⟨fs, hu⟩ := und52
  exact bodyPost_ret (results_row1 h a.tmps w g cs _ hp t hg hu rfl (by rw [hs]; exact inf52)) hd hR
def truthK (b : Bool) : Int := if b then 1 else 2
set_option maxHeartbeats 1000000 in
theorem truth_c (b : Bool) (w : World) : Ret 119 #[.bool b] (.agg (predA (truthK b) 0 0)) w := by
  have HB := Lib.hid (grow1 w (.cells (predA 0 0 0) 52))
  have HG := Lib.hid (heap_alloc_new w (.cells (predA 0 0 0) 52))
  unfold Ret
  cases b
  all_goals
    go_enter Tryz.func119, Tryz.ntmps119
    go_wp2_with (refine stop_store 52 _ _ rfl ?_)
    refine Stop.go (wpList_store_o rfl 52 _ _ rfl w.heap.size _ rfl rfl 52 _ HG.out inf52 rfl rfl ?_)
    intro w2 hg2 ho2
    have HB2 := Lib.hid (ho2.belowT HB.out (Nat.le_refl _))
    have HG2 := Lib.hid hg2
    clear hg2 ho2 HB HG
    go_wp2_with fail
    exact ret52 Tryz.results119 rfl rfl HG2.out rfl ⟨rfl, HB2.out⟩
set_option maxRecDepth 100000 in
set_option maxHeartbeats 4000000 in
theorem cut_sw (n sw : Int) (w : World) : Ret 86 #[.agg (predA 3 5 n), .int .i64 sw] (.agg (predA (truthK (n == sw)) 0 0)) w := by
  have HB : Hid (Below w.heap.size w ((w.alloc (.cells (predA 3 5 n) 52)).alloc (.cells (predA 0 0 0) 52))) := Lib.hid (((Below.refl _ _).alloc (Nat.le_refl _) _).alloc (by simp) _)
  have HG : Hid (((w.alloc (.cells (predA 3 5 n) 52)).alloc (.cells (predA 0 0 0) 52)).heap[w.heap.size + 1]? = some (.cells (predA 0 0 0) 52 (0, 0))) := by
    have := heap_alloc_new (w.alloc (.cells (predA 3 5 n) 52)) (.cells (predA 0 0 0) 52)
    exact Lib.hid (by simpa using this)
  obtain ⟨b, hb⟩ : ∃ b, (n == sw) = b := ⟨_, rfl⟩
  rw [hb]
  unfold Ret
  go_enter Tryz.func86, Tryz.ntmps86
  go_wp2_with (first | (go_at_call 119; refine (truth_c _ _).mono ?_; rintro e w1 ⟨rfl, hb1⟩) | (refine stop_store 52 _ _ rfl ?_))
  have hs := hb1.size
  simp only [World.size_alloc] at hs
  have HB1 := Lib.hid (HB.out.trans (hb1.mono (by simp; omega)))
  have HG1 := Lib.hid ((hb1.block (w.heap.size + 1) (by simp)).trans HG.out)
  clear hb1 HB HG
  refine Stop.go (wpList_store_o rfl 52 _ _ rfl (w.heap.size + 1) _ rfl rfl 52 _ HG1.out inf52 rfl rfl ?_)
  intro w2 hg2 ho2
  have HB2 := Lib.hid (ho2.belowT HB1.out (Nat.le_succ _))
  have HG2 := Lib.hid hg2
  clear hg2 ho2 HB1 HG1
  go_wp2_with fail
  exact ret52 Tryz.results86 rfl rfl HG2.out rfl ⟨rfl, HB2.out⟩
set_option maxRecDepth 100000 in
set_option maxHeartbeats 4000000 in
theorem cut_leaf (f n sw : Int) (w : World) (h5 : f ≠ 5) : Ret 86 #[.agg (predA 3 f n), .int .i64 sw] (.agg (predA 3 f n)) w := by
  have HB : Hid (Below w.heap.size w ((w.alloc (.cells (predA 3 f n) 52)).alloc (.cells (predA 0 0 0) 52))) := Lib.hid (((Below.refl _ _).alloc (Nat.le_refl _) _).alloc (by simp) _)
  have HA : Hid (((w.alloc (.cells (predA 3 f n) 52)).alloc (.cells (predA 0 0 0) 52)).heap[w.heap.size]? = some (.cells (predA 3 f n) 52 (0, 0))) := by
    have := heap_alloc_new w (.cells (predA 3 f n) 52)
    exact Lib.hid ((Below.heap_alloc _ _ _ (by simp)).trans this)
  have HG : Hid (((w.alloc (.cells (predA 3 f n) 52)).alloc (.cells (predA 0 0 0) 52)).heap[w.heap.size + 1]? = some (.cells (predA 0 0 0) 52 (0, 0))) := by
    have := heap_alloc_new (w.alloc (.cells (predA 3 f n) 52)) (.cells (predA 0 0 0) 52)
    exact Lib.hid (by simpa using this)
  have d5 : (f == 5) = false := by rw [beq_eq_false_iff_ne]; exact h5
  clear h5
  unfold Ret
  go_enter Tryz.func86, Tryz.ntmps86
  go_wp2_with (refine stop_store 52 _ _ rfl ?_)
  refine Stop.go (abs_list ?_)
  intro w2 e2
  have hb2 : Below w.heap.size w w2 := by rw [e2]; exact HB.out.alloc (by simp; omega) _
  have ha2 : w2.heap[w.heap.size]? = some (.cells (predA 3 f n) 52 (0, 0)) := by rw [e2]; exact (Below.heap_alloc _ _ _ (by simp; omega)).trans HA.out
  have hg2 : w2.heap[w.heap.size + 1]? = some (.cells (predA 0 0 0) 52 (0, 0)) := by rw [e2]; exact (Below.heap_alloc _ _ _ (by simp)).trans HG.out
  have hg3 : w2.heap[w.heap.size + 1 + 1]? = some (.cells (predA 0 0 0) 52 (0, 0)) := by
    rw [e2]
    have := heap_alloc_new ((w.alloc (.cells (predA 3 f n) 52)).alloc (.cells (predA 0 0 0) 52)) (.cells (predA 0 0 0) 52)
    simpa using this
  have HB2 := Lib.hid hb2
  have HA2 := Lib.hid ha2
  have HG2 := Lib.hid hg2
  clear e2 hb2 ha2 hg2 HB HA HG
  refine wpList_store_o rfl 52 _ _ rfl (w.heap.size + 1 + 1) _ rfl rfl 52 _ hg3 inf52 rfl rfl ?_
  intro w3 hg4 ho3
  have HB3 := Lib.hid (ho3.belowT HB2.out (by omega))
  have HA3 := Lib.hid ((ho3.block _ (by omega)).trans HA2.out)
  have HG3 := Lib.hid ((ho3.block _ (by omega)).trans HG2.out)
  have HG4 := Lib.hid hg4
  clear hg3 hg4 ho3 HB2 HG2 HA2
  have c0 := block_cell HA3.out 0
  have c1 := block_cell HA3.out 1
  have c2 := block_cell HA3.out 2
  have c3 := block_cell HA3.out 3
  simp only [List.getElem?_toArray, List.getElem?_cons_zero, List.getElem?_cons_succ] at c0 c1 c2 c3
  go_wp2_with fail
  go_loopw [31] (fun i wr => i = .int .i64 0 ∧ wr = w3) (fun _ _ => 0)
  case atStart => exact ⟨rfl, rfl⟩
  case round =>
    obtain ⟨rfl, rfl⟩ := hrel
    go_wp2_with (first | (refine stop_load 52 _ rfl ?_) | (refine stop_store 52 _ _ rfl ?_))
    obtain ⟨fs, hu52⟩ := und52
    refine Stop.go (wpList_load_row rfl 52 _ rfl (w.heap.size + 1 + 1) rfl 52 _ (0, 0) _ HG4.out hu52 rfl inf52 ?_)
    clear hu52
    refine wpList_store_o rfl 52 _ _ rfl (w.heap.size + 1) _ rfl rfl 52 _ HG3.out inf52 rfl rfl ?_
    intro w4 hg5 ho4
    have HB4 := Lib.hid (ho4.belowT HB3.out (Nat.le_succ _))
    have HG5 := Lib.hid hg5
    clear hg5 ho4 HB3 HG3 HA3 HG4
    go_wp2_with fail
    exact ret52 Tryz.results86 rfl rfl HG5.out rfl ⟨rfl, HB4.out⟩
def cutF (sw : Int) (k f n : Int) : Int × Int × Int := if k = 3 ∧ f = 5 then (truthK (n == sw), 0, 0) else (k, f, n)
theorem cut_c (sw f n : Int) (w : World) : Ret 86 #[.agg (predA 3 f n), .int .i64 sw] (.agg (predA (cutF sw 3 f n).1 (cutF sw 3 f n).2.1 (cutF sw 3 f n).2.2)) w := by
  by_cases h : f = 5
  · subst h
    exact cut_sw n sw w
  · have e : cutF sw 3 f n = (3, f, n) := by unfold cutF; rw [if_neg (fun h' => h h'.2)]
    rw [e]
    exact cut_leaf f n sw w h
end Go.Proofs.YtekfkieimdgfkaaGreat
/- What is proved here: a region that draws its order, whose worldless operations and whose loads may be taken first, and whose other operations come one by one, may be walked in that order. Condition: the Bool 'pickB'; what comes ahead of the last stores keeps what the loads read. -/
namespace Go.Proofs.YtekfkieimdgfkaaGreat
open Go Go.RowKit
section
variable {P : Program} {ops : Array Oper} {Q : Exit → Act → World → Prop} {md : Region.Mode} {S : World → Prop} {nb : List Nat}
/-- Whatever order is picked; and S holds behind each operation that is not on the list nb. -/
def wpAnyB (P : Program) (md : Region.Mode) (ops : Array Oper) (Q : Exit → Act → World → Prop) (S : World → Prop) (nb : List Nat) : Nat → Array Bool → Act → World → Prop
  | 0, li, a, w => Region.ready md ops li = [] ∧ Q .normal a w
  | f + 1, li, a, w => (Region.ready md ops li = [] → Q .normal a w) ∧
    ∀ i ∈ Region.ready md ops li, wpOp P ops Q i (fun a' w' => (i ∉ nb → S w') ∧ wpAnyB P md ops Q S nb f (li.setIfInBounds i true) a' w') a w
theorem any_of_B : ∀ (f : Nat) (li : Array Bool) (a : Act) (w : World), wpAnyB P md ops Q S nb f li a w → wpAny P md ops Q f li a w
  | 0, _, _, _, h => h
  | f + 1, _, _, _, h => ⟨h.1, fun i hi => wpOp_mono (fun a' w' h' => any_of_B f _ a' w' h'.2) (h.2 i hi)⟩
/-- Those on the list nb wait for i, or for one another. -/
def staysB (md : Region.Mode) (ops : Array Oper) (nb : List Nat) (i : Nat) (li : Array Bool) : Bool :=
  !nb.contains i && nb.all fun d => !li.getD d true && match ops[d]? with
    | some od => od.after.any fun e => Region.binds md e && (e.on == i || nb.contains e.on)
    | none => false
theorem stays_not {i : Nat} {li : Array Bool} (h : staysB md ops nb i li = true) (hun : li.getD i true = false) {d : Nat} (hd : d ∈ nb) : d ∉ Region.ready md ops li := by
  intro hr
  unfold staysB at h
  rw [Bool.and_eq_true, List.all_eq_true] at h
  have h2 := h.2 d hd
  rw [Bool.and_eq_true] at h2
  obtain ⟨_, od, hod, hall⟩ := mem_ready.1 hr
  have h3 := h2.2
  rw [hod] at h3
  dsimp only at h3
  obtain ⟨e, he, hb⟩ := Array.any_eq_true'.1 h3
  rw [Bool.and_eq_true, Bool.or_eq_true] at hb
  have h4 := hall e he hb.1
  rcases hb.2 with h5 | h5
  · have : e.on = i := by simpa using h5
    rw [this, getD_both hun] at h4
    cases h4
  · have h6 : e.on ∈ nb := by simpa using h5
    have h7 := h.2 e.on h6
    rw [Bool.and_eq_true] at h7
    have h8 : li.getD e.on true = false := by simpa using h7.1
    rw [getD_both h8] at h4
    cases h4
theorem stays_set {i j : Nat} {li : Array Bool} (h : staysB md ops nb i li = true) (hj : j ∉ nb) : staysB md ops nb i (li.setIfInBounds j true) = true := by
  unfold staysB at h ⊢
  rw [Bool.and_eq_true, List.all_eq_true] at h ⊢
  refine ⟨h.1, fun d hd => ?_⟩
  have h2 := h.2 d hd
  have hjd : j ≠ d := fun e => hj (by rw [e]; exact hd)
  rw [getD_set_ne true hjd]
  exact h2
/-- Those that come behind i. -/
def downL (md : Region.Mode) (ops : Array Oper) (i : Nat) : List Nat :=
  (List.range ops.size).foldl (fun D j => if (match ops[j]? with | some oj => oj.after.any fun e => Region.binds md e && (e.on == i || D.contains e.on) | none => false) then j :: D else D) []
def stayB (md : Region.Mode) (ops : Array Oper) (nb : List Nat) (i : Nat) (li : Array Bool) : Bool := nb.all ((downL md ops i).contains ·) && staysB md ops (downL md ops i) i li
theorem stay_not {i : Nat} {li : Array Bool} (h : stayB md ops nb i li = true) (hun : li.getD i true = false) {d : Nat} (hr : d ∈ Region.ready md ops li) : d ∉ nb ∧ stayB md ops nb i (li.setIfInBounds d true) = true := by
  unfold stayB at h ⊢
  rw [Bool.and_eq_true] at h ⊢
  have h1 : d ∉ downL md ops i := fun hd => stays_not h.2 hun hd hr
  refine ⟨fun hd => h1 ?_, h.1, stays_set h.2 h1⟩
  have := List.all_eq_true.1 h.1 d hd
  simpa using this
theorem anyB_first {i : Nat} {oi : Oper} {v : Value} (hi : ops[i]? = some oi) (hsel : ∀ (j : Nat) (o : Oper) cs b, ops[j]? = some o → o.op ≠ .select cs b)
    (hQ : ∀ c a w, Q (.panic c) (a.put oi.dst v) w → Q (.panic c) a w) :
    ∀ (fuel : Nat) (listed : Array Bool) (a : Act) (w : World),
      (∀ j oj, ops[j]? = some oj → j ≠ i → listed.getD j true = false → (∀ e ∈ oj.after, Region.binds md e = true → e.on ≠ i) → oi.apart ops oj = true) →
      stayB md ops nb i listed = true → i ∈ Region.ready md ops listed → YieldsIf P ops S oi v a → S w →
      wpAnyB P md ops Q S nb fuel (listed.setIfInBounds i true) (a.put oi.dst v) w → wpAnyB P md ops Q S nb (fuel + 1) listed a w := by
  intro fuel
  induction fuel with
  | zero =>
    intro listed a w _ hst hr hy hS H
    refine ⟨fun h => (by rw [h] at hr; cases hr), fun j hj => ?_⟩
    by_cases hji : j = i
    · subst hji; exact hy.wpOp hi hS ⟨fun _ => hS, H⟩
    · have := ready_mono hj hji
      rw [H.1] at this
      cases this
  | succ fuel ih =>
    intro listed a w hfree hst hr hy hS H
    refine ⟨fun h => (by rw [h] at hr; cases hr), fun j hj => ?_⟩
    have hun := (mem_ready.1 hr).1
    by_cases hji : j = i
    · subst hji; exact hy.wpOp hi hS ⟨fun _ => hS, H⟩
    · obtain ⟨hjn, hst2⟩ := stay_not hst hun hj
      have h1 := H.2 j (ready_mono hj hji)
      obtain ⟨hjun, oj, hoj, hall⟩ := mem_ready.1 hj
      have hnot : ∀ e ∈ oj.after, Region.binds md e = true → e.on ≠ i := fun e he hb heq => by
        have h1 := hall e he hb
        rw [heq, getD_both hun] at h1
        cases h1
      have h2 := wpOp_putIf hoj (hfree j oj hoj hji hjun hnot) (fun cs b => hsel i oi cs b hi) (fun cs b => hsel j oj cs b hoj) hQ hy h1
      have hfree' : ∀ k ok, ops[k]? = some ok → k ≠ i → (listed.setIfInBounds j true).getD k true = false →
          (∀ e ∈ ok.after, Region.binds md e = true → e.on ≠ i) → oi.apart ops ok = true := fun k ok hk hki hun hno => by
        refine hfree k ok hk hki ?_ hno
        by_cases hjk : j = k
        · subst hjk; exact hjun
        · rw [getD_set_ne true hjk] at hun; exact hun
      refine wpOp_mono (fun a' w' h3 => ⟨fun _ => h3.2.1 hjn, ih (listed.setIfInBounds j true) a' w' hfree' hst2 (ready_mono hr (Ne.symm hji)) h3.1 (h3.2.1 hjn) ?_⟩) h2
      rw [Array.setIfInBounds_comm _ _ hji]
      exact h3.2.2
/-- One after the other each yields a value in whatever world meets S. -/
def wpPure (P : Program) (ops : Array Oper) (S : World → Prop) (R : Act → Prop) : List Oper → Act → Prop
  | [], a => R a
  | o :: rest, a => ∃ v, YieldsIf P ops S o v a ∧ wpPure P ops S R rest (a.put o.dst v)
theorem pure_take {R : Act → Prop} {o : Oper} {rest : List Oper} {a : Act} (hw : Region.wanted o (yielded ops a.tmps) = true) (v : Value) (hv : ∀ w, S w → (execOp a.eval o).run P w = .ok (.value v) w)
    (h : wpPure P ops S R rest (a.put o.dst v)) : wpPure P ops S R (o :: rest) a := ⟨v, .inl ⟨hw, hv⟩, h⟩
/-- One after the other, each keeps S. -/
def wpKeep (P : Program) (ops : Array Oper) (Q : Exit → Act → World → Prop) (S : World → Prop) (R : Act → World → Prop) : List Oper → Act → World → Prop
  | [], a, w => R a w
  | o :: rest, a, w => if Region.wanted o (yielded ops a.tmps) then o.wp P a w (fun a' w' => S w' ∧ wpKeep P ops Q S R rest a' w') Q else S w ∧ wpKeep P ops Q S R rest (a.put o.dst undef) w
theorem keep_call {R : Act → World → Prop} {o : Oper} {rest : List Oper} {a : Act} {w : World} (hw : Region.wanted o (yielded ops a.tmps) = true) (f : FuncId) (args : Array Value) (he : (execOp a.eval o).run P w = .ok (.enter f args) w)
    (h : Calls P f args w fun e w' => ∃ v, e = .returned v ∧ S w' ∧ wpKeep P ops Q S R rest (a.put o.dst v) w') : wpKeep P ops Q S R (o :: rest) a w := by
  unfold wpKeep
  rw [if_pos hw]
  unfold Oper.wp
  rw [he, Oper.upon_enter]
  refine h.mono ?_
  rintro e w' ⟨v, rfl, h1, h2⟩
  exact ⟨h1, h2⟩
theorem keep_value {R : Act → World → Prop} {o : Oper} {rest : List Oper} {a : Act} {w w' : World} (hw : Region.wanted o (yielded ops a.tmps) = true) (v : Value) (he : (execOp a.eval o).run P w = .ok (.value v) w')
    (hS : S w') (h : wpKeep P ops Q S R rest (a.put o.dst v) w') : wpKeep P ops Q S R (o :: rest) a w := by
  unfold wpKeep
  rw [if_pos hw]
  unfold Oper.wp
  rw [he]
  exact ⟨hS, h⟩
def firstB (md : Region.Mode) (ops : Array Oper) (li : Array Bool) (k : Nat) : Bool := decide (k < ops.size) && (Region.ready md ops li).contains k && Region.free md ops li k
def seqL (md : Region.Mode) (ops : Array Oper) : List Nat → Array Bool → Bool
  | [], li => decide (Region.ready md ops li = [])
  | t :: ts, li => decide (t < ops.size) && decide (Region.ready md ops li = [t]) && seqL md ops ts (li.setIfInBounds t true)
def keepL (md : Region.Mode) (ops : Array Oper) (nb ts : List Nat) : List Nat → Array Bool → Bool
  | [], li => seqL md ops ts li
  | c :: cs, li => decide (c < ops.size) && decide (Region.ready md ops li = [c]) && keepL md ops nb ts cs (li.setIfInBounds c true)
def loadL (md : Region.Mode) (ops : Array Oper) (nb cs ts : List Nat) : List Nat → Array Bool → Bool
  | [], li => keepL md ops nb ts cs li
  | k :: ks, li => firstB md ops li k && stayB md ops nb k li && loadL md ops nb cs ts ks (li.setIfInBounds k true)
def freeL (md : Region.Mode) (ops : Array Oper) (nb ks cs ts : List Nat) : List Nat → Array Bool → Bool
  | [], li => loadL md ops nb cs ts ks li
  | k :: ws, li => firstB md ops li k && freeL md ops nb ks cs ts ws (li.setIfInBounds k true)
def pickB (md : Region.Mode) (ops : Array Oper) (ws ks cs ts nb : List Nat) : Bool := Region.noSelect ops && decide (ws.length + ks.length + cs.length + ts.length = ops.size) && freeL md ops nb ks cs ts ws (Array.replicate ops.size false)
theorem any_seqL : ∀ (ts : List Nat) (li : Array Bool) (a : Act) (w : World), seqL md ops ts li = true → wpList P ops Q (ts.filterMap (ops[·]?)) a w → wpAny P md ops Q ts.length li a w
  | [], _, _, _, hB, h => ⟨by simpa [seqL] using hB, h⟩
  | t :: ts, li, a, w, hB, h => by
    simp only [seqL, Bool.and_eq_true, decide_eq_true_eq] at hB
    have h0 : ops[t]? = some ops[t] := Array.getElem?_eq_getElem hB.1.1
    refine ⟨fun h1 => (by rw [hB.1.2] at h1; cases h1), fun i hi => ?_⟩
    rw [hB.1.2] at hi
    obtain rfl : i = t := by simpa using hi
    have e : (i :: ts).filterMap (ops[·]?) = ops[i] :: ts.filterMap (ops[·]?) := by simp [h0]
    rw [e] at h
    have hw : wpOp P ops Q i (wpList P ops Q (ts.filterMap (ops[·]?))) a w := by unfold wpOp; simp only [h0]; exact h
    exact wpOp_mono (fun a' w' h' => any_seqL ts _ a' w' hB.2 h') hw
theorem B_seqL : ∀ (ts : List Nat) (li : Array Bool) (a : Act) (w : World), (∀ t ∈ ts, t ∈ nb) → seqL md ops ts li = true → wpList P ops Q (ts.filterMap (ops[·]?)) a w → wpAnyB P md ops Q S nb ts.length li a w
  | [], _, _, _, _, hB, h => ⟨by simpa [seqL] using hB, h⟩
  | t :: ts, li, a, w, hn, hB, h => by
    simp only [seqL, Bool.and_eq_true, decide_eq_true_eq] at hB
    have h0 : ops[t]? = some ops[t] := Array.getElem?_eq_getElem hB.1.1
    refine ⟨fun h1 => (by rw [hB.1.2] at h1; cases h1), fun i hi => ?_⟩
    rw [hB.1.2] at hi
    obtain rfl : i = t := by simpa using hi
    have e : (i :: ts).filterMap (ops[·]?) = ops[i] :: ts.filterMap (ops[·]?) := by simp [h0]
    rw [e] at h
    have hw : wpOp P ops Q i (wpList P ops Q (ts.filterMap (ops[·]?))) a w := by unfold wpOp; simp only [h0]; exact h
    exact wpOp_mono (fun a' w' h' => ⟨fun hx => absurd (hn i (by simp)) hx, B_seqL ts _ a' w' (fun x hx => hn x (by simp [hx])) hB.2 h'⟩) hw
theorem B_keepL {ts : List Nat} (hn : ∀ t ∈ ts, t ∈ nb) : ∀ (cs : List Nat) (li : Array Bool) (a : Act) (w : World), keepL md ops nb ts cs li = true →
    wpKeep P ops Q S (fun a' w' => wpList P ops Q (ts.filterMap (ops[·]?)) a' w') (cs.filterMap (ops[·]?)) a w → wpAnyB P md ops Q S nb (cs.length + ts.length) li a w
  | [], li, a, w, hB, h => by
    rw [List.length_nil, Nat.zero_add]
    exact B_seqL ts li a w hn hB h
  | c :: cs, li, a, w, hB, h => by
    simp only [keepL, Bool.and_eq_true, decide_eq_true_eq] at hB
    have h0 : ops[c]? = some ops[c] := Array.getElem?_eq_getElem hB.1.1
    have e1 : (c :: cs).length + ts.length = (cs.length + ts.length) + 1 := by simp; omega
    rw [e1]
    refine ⟨fun h1 => (by rw [hB.1.2] at h1; cases h1), fun i hi => ?_⟩
    rw [hB.1.2] at hi
    obtain rfl : i = c := by simpa using hi
    have e : (i :: cs).filterMap (ops[·]?) = ops[i] :: cs.filterMap (ops[·]?) := by simp [h0]
    rw [e] at h
    unfold wpKeep at h
    unfold wpOp
    simp only [h0]
    split
    · rename_i hw
      rw [if_pos hw] at h
      exact .inl (Oper.wp_mono (fun a' w' h' => ⟨fun _ => h'.1, B_keepL hn cs _ a' w' hB.2 h'.2⟩) h)
    · rename_i hw
      rw [if_neg hw] at h
      exact ⟨fun _ => h.1, B_keepL hn cs _ _ w hB.2 h.2⟩
theorem B_loadL {ts cs : List Nat} (hsel : Region.noSelect ops = true) (hn : ∀ t ∈ ts, t ∈ nb) (hQ : ∀ c a d v w, Q (.panic c) (Act.put a d v) w → Q (.panic c) a w) : ∀ (ks : List Nat) (li : Array Bool) (a : Act) (w : World), S w → loadL md ops nb cs ts ks li = true →
    wpPure P ops S (fun a' => ∀ w', S w' → wpKeep P ops Q S (fun a' w' => wpList P ops Q (ts.filterMap (ops[·]?)) a' w') (cs.filterMap (ops[·]?)) a' w') (ks.filterMap (ops[·]?)) a → wpAnyB P md ops Q S nb (ks.length + (cs.length + ts.length)) li a w
  | [], li, a, w, hS, hB, h => by
    rw [List.length_nil, Nat.zero_add]
    exact B_keepL hn cs li a w hB (h w hS)
  | k :: ks, li, a, w, hS, hB, h => by
    simp only [loadL, firstB, Bool.and_eq_true, decide_eq_true_eq] at hB
    obtain ⟨⟨⟨⟨hlt, hr⟩, hf⟩, hst⟩, hB'⟩ := hB
    have h0 : ops[k]? = some ops[k] := Array.getElem?_eq_getElem hlt
    have e1 : (k :: ks).length + (cs.length + ts.length) = (ks.length + (cs.length + ts.length)) + 1 := by simp; omega
    rw [e1]
    have e : (k :: ks).filterMap (ops[·]?) = ops[k] :: ks.filterMap (ops[·]?) := by simp [h0]
    rw [e] at h
    obtain ⟨v, hy, h⟩ := h
    exact anyB_first h0 (Region.noSelect_spec hsel) (fun c a w => hQ c a _ _ w) _ li a w (Region.free_spec h0 hf) hst (by simpa using hr) hy hS (B_loadL hsel hn hQ ks _ _ w hS hB' h)
theorem any_freeL {ts cs ks : List Nat} (hsel : Region.noSelect ops = true) (hn : ∀ t ∈ ts, t ∈ nb) (hQ : ∀ c a d v w, Q (.panic c) (Act.put a d v) w → Q (.panic c) a w) : ∀ (ws : List Nat) (li : Array Bool) (a : Act) (w : World), S w → freeL md ops nb ks cs ts ws li = true →
    wpPure P ops (fun _ => True) (fun a => wpPure P ops S (fun a' => ∀ w', S w' → wpKeep P ops Q S (fun a' w' => wpList P ops Q (ts.filterMap (ops[·]?)) a' w') (cs.filterMap (ops[·]?)) a' w') (ks.filterMap (ops[·]?)) a) (ws.filterMap (ops[·]?)) a → wpAny P md ops Q (ws.length + (ks.length + (cs.length + ts.length))) li a w
  | [], li, a, w, hS, hB, h => by
    rw [List.length_nil, Nat.zero_add]
    exact any_of_B _ _ _ _ (B_loadL hsel hn hQ ks li a w hS hB h)
  | k :: ws, li, a, w, hS, hB, h => by
    simp only [freeL, firstB, Bool.and_eq_true, decide_eq_true_eq] at hB
    obtain ⟨⟨⟨hlt, hr⟩, hf⟩, hB'⟩ := hB
    have h0 : ops[k]? = some ops[k] := Array.getElem?_eq_getElem hlt
    have e1 : (k :: ws).length + (ks.length + (cs.length + ts.length)) = (ws.length + (ks.length + (cs.length + ts.length))) + 1 := by simp; omega
    rw [e1]
    have e : (k :: ws).filterMap (ops[·]?) = ops[k] :: ws.filterMap (ops[·]?) := by simp [h0]
    rw [e] at h
    obtain ⟨v, hy, h⟩ := h
    have hy' : Yields P ops ops[k] v a := hy.imp (fun ⟨h1, h2⟩ => ⟨h1, fun w => h2 w trivial⟩) id
    exact wpAny_first h0 (Region.noSelect_spec hsel) (fun c a w => hQ c a _ _ w) _ li a w (Region.free_spec h0 hf) (by simpa using hr) hy' (any_freeL hsel hn hQ ws _ _ w hS hB' h)
/-- The region: ws (worldless), ks (loads), cs (each keeps what was there), ts (the rest). -/
theorem wp_region_pick {id : Nat} {a : Act} {w : World} {l : List Oper} (ws ks cs ts nb : List Nat) (hm : P.follows .mixedOrders = true) (hB : pickB .any l.toArray ws ks cs ts nb = true) (hn : ts.all (nb.contains ·) = true)
    (h : wpPure P l.toArray (fun _ => True) (fun a => wpPure P l.toArray (fun w' => ∃ k : KW w, w' = k.val) (fun a' => ∀ k : KW w, wpKeep P l.toArray (NoPanic Q) (fun w' => ∃ k : KW w, w' = k.val) (fun a' w' => wpList P l.toArray (NoPanic Q) (ts.filterMap (l.toArray[·]?)) a' w') (cs.filterMap (l.toArray[·]?)) a' k.val) (ks.filterMap (l.toArray[·]?)) a) (ws.filterMap (l.toArray[·]?)) a) :
    (Code.region id l.toArray true).wp P Q a w := by
  simp only [pickB, Bool.and_eq_true, decide_eq_true_eq] at hB
  obtain ⟨⟨hsel, hlen⟩, hf⟩ := hB
  refine wp_region_noPanic (wp_region_any hm ?_)
  have e : (fun a' => ∀ w', (∃ k : KW w, w' = k.val) → wpKeep P l.toArray (NoPanic Q) (fun w' => ∃ k : KW w, w' = k.val) (fun a' w' => wpList P l.toArray (NoPanic Q) (ts.filterMap (l.toArray[·]?)) a' w') (cs.filterMap (l.toArray[·]?)) a' w') =
      (fun a' => ∀ k : KW w, wpKeep P l.toArray (NoPanic Q) (fun w' => ∃ k : KW w, w' = k.val) (fun a' w' => wpList P l.toArray (NoPanic Q) (ts.filterMap (l.toArray[·]?)) a' w') (cs.filterMap (l.toArray[·]?)) a' k.val) := by
    funext a'
    exact propext ⟨fun h k => h _ ⟨k, rfl⟩, fun h w' ⟨k, hk⟩ => by rw [hk]; exact h k⟩
  rw [← e] at h
  have H := any_freeL (md := .any) (S := fun w' => ∃ k : KW w, w' = k.val) (nb := nb) hsel (fun t ht => by simpa using List.all_eq_true.1 hn t ht) (Q := NoPanic Q) (fun _ _ _ _ _ h => h) ws (Array.replicate l.toArray.size false) a { w with drawn := w.drawn + 1 } ⟨⟨w.drew, (Below.refl _ _).drew⟩, rfl⟩ hf h
  rwa [show ws.length + (ks.length + (cs.length + ts.length)) = l.toArray.size by omega] at H
end
/-! Parts of a block -/
def splA : Array Value → Nat → List Value → Array Value
  | cs, _, [] => cs
  | cs, o, v :: r => splA (cs.setIfInBounds o v) (o + 1) r
theorem setCells_blk (g : Nat) (t : TypeId) : ∀ (vs : List Value) (o : Nat) (cs : Array Value) (w : World), w.heap[g]? = some (.cells cs t (0, 0)) → (w.setCells g o vs).heap[g]? = some (.cells (splA cs o vs) t (0, 0))
  | [], _, _, _, h => h
  | v :: r, o, cs, w, h => setCells_blk g t r (o + 1) _ _ (heap_setCell_same w g o cs t v h)
theorem only_setCells (g : Nat) : ∀ (vs : List Value) (o : Nat) (w : World), Only g w (w.setCells g o vs)
  | [], _, _ => ⟨rfl, rfl, rfl, rfl, fun _ _ => rfl⟩
  | v :: r, o, w => by
    have h1 := only_setCell w g o v
    have h2 := only_setCells g r (o + 1) (w.setCell ⟨g, o, none⟩ v)
    exact ⟨h2.os.trans h1.os, h2.tape.trans h1.tape, h2.output.trans h1.output, h2.size.trans h1.size, fun k hk => (h2.block k hk).trans (h1.block k hk)⟩
/-- A whole value is stored into a part of block g. -/
theorem wpList_store_p {P : Program} {ops : Array Oper} {rest : List Oper} {o : Oper} {a : Act} {w : World} {Q : Exit → Act → World → Prop} (hgd : o.guard = none) (ty : TypeId) (x y : Operand) (ho : o.op = .store ty x y)
    (g i : Nat) (cells : Array Value) (hx : a.eval x = .pointer (some ⟨g, i, none⟩)) (hy : a.eval y = .agg cells)
    (t : TypeId) (old : Array Value) (hg : w.heap[g]? = some (.cells old t (0, 0))) (hi : (P.info? ty).map (·.size) = some cells.size) (hl : i + cells.size ≤ old.size) (h1 : cells.toList.all (·.oneCell') = true)
    (h : ∀ w' : World, w'.heap[g]? = some (.cells (splA old i cells.toList) t (0, 0)) → Only g w w' → wpList P ops Q rest (a.put o.dst undef) w') : wpList P ops Q (o :: rest) a w := by
  refine wpList_store_mid hgd ty x y ho g i cells hx hy (fun j hj => ?_) hi (by rw [← h1, Array.all_toList]) (h _ (setCells_blk g t _ i old w hg) (only_setCells g _ i w))
  have hjs : i + j < old.size := by omega
  exact ⟨by rw [block_cell hg]; simp [hjs], block_free hg _⟩
end Go.Proofs.YtekfkieimdgfkaaGreat
/- What is proved here: what is left of a policy at a switch. Condition: it can be read, and all within have their shapes. -/
namespace Go.Proofs.YtekfkieimdgfkaaGreat
open Go Go.RowKit
attribute [local go_sem] KW.cell KW.frozen
section
variable {P : Program} {ops : Array Oper} {S : World → Prop}
theorem pure_row {R : Act → Prop} {o : Oper} {rest : List Oper} {a : Act} (hw : Region.wanted o (yielded ops a.tmps) = true) (ty : TypeId) (x : Operand) (ho : o.op = .load ty x) (g : Nat) (hx : a.eval x = .pointer (some ⟨g, 0, none⟩)) (cs : Array Value) (t : TypeId) (d : TypeDesc)
    (hS : ∀ w, S w → w.heap[g]? = some (.cells cs t (0, 0))) (hu : P.underlying ty = some d) (hd : (match d with | .struct _ | .array _ _ => true | _ => false) = true) (hi : (P.info? ty).map (·.size) = some cs.size)
    (h : wpPure P ops S R rest (a.put o.dst (.agg cs))) : wpPure P ops S R (o :: rest) a :=
  pure_take hw _ (fun w hw' => by
    unfold execOp
    simp only [ho, hx, Instr.loadAt, Instr.sureAddr, Sem.run_bind, Sem.run_pure, Result.andThen_ok, run_loadVar_row w g t ty cs (0, 0) d (hS w hw') hu hd hi]) h
end
/-- A row of policies of one's own, or none. -/
def RowQ (B g d : Nat) (v : Value) (xs : List Pol) (w : World) : Prop := (v = .slice none 0 0 ∧ xs = []) ∨ RowP B g d v xs w
theorem RowQ.form {B g d : Nat} {v : Value} {xs : List Pol} {w : World} (h : RowQ B g d v xs w) : ∃ ao c, v = .slice ao xs.length c ∧ xs.length ≤ c ∧ c ≤ maxLen := by
  rcases h with ⟨rfl, rfl⟩ | h
  · exact ⟨none, 0, rfl, Nat.le_refl _, by decide⟩
  · obtain ⟨c, hv, h1, h2, _⟩ := h.form
    exact ⟨_, c, hv, h1, h2⟩
theorem RowQ.blk {B g d : Nat} {v : Value} {xs : List Pol} {w w' : World} (h : RowQ B g d v xs w) (hk : ∀ k, B ≤ k → k < w.heap.size → w'.heap[k]? = w.heap[k]?) : RowQ B g d v xs w' := by
  rcases h with h | h
  · exact .inl h
  · exact .inr (h.blk hk)
theorem RowQ.rd {B g d : Nat} {v : Value} {xs : List Pol} {w : World} (h : RowQ B g d v xs w) : RdP (fun k => B ≤ k) (d + 1) v xs w := by
  rcases h with ⟨rfl, rfl⟩ | h
  · exact RdP.nil _ _ _
  · exact h.rd
theorem RowQ.own {B g d : Nat} {v : Value} {xs : List Pol} {w : World} (h : RowQ B g d v xs w) : ∃ ys, w.ownsRow B 55 8 v xs.length ys ∧
    ∀ (x : Pol) (u : Value) (w3 w4 : World) (g' cap : Nat), Below w.heap.size w w3 → (∀ gg, v.ownBlock = some gg → RdP (fun k => B ≤ k ∧ k ≠ gg) d u x.l w3) → RdP (fun k => B ≤ k) d u x.l w3 → w4.ownsRow B 55 8 (.slice (some ⟨g', 0, none⟩) (xs.length + 1) cap) (xs.length + 1) (ys ++ (polL x u).toArray.toList) →
      w3.grownBy w4 v.ownBlock → (v.ownBlock = some g' ∨ g' = w3.heap.size) → RowQ B g' d (.slice (some ⟨g', 0, none⟩) (xs.length + 1) cap) (xs ++ [x]) w4 := by
  rcases h with ⟨rfl, rfl⟩ | h
  · refine ⟨[], own_nil _ _ _ _, fun x u w3 w4 g' cap hb _ hx hown hg hor => .inr ?_⟩
    have hg' : g' = w3.heap.size := by
      rcases hor with h | h
      · simp [Value.ownBlock] at h
      · exact h
    refine ⟨[u], rfl, ?_, rfl, fun i y z h1 h2 => ?_⟩
    · have e : flatR polE (([] ++ [x] : List Pol).zip [u]) = polL x u := by simp [flatR, polE]
      rw [e]
      simpa using hown
    · cases i with
      | zero =>
        simp at h1 h2
        subst h1 h2
        have h3 := hx.mono (P' := fun k => B ≤ k ∧ k ≠ g') fun k hk hlt => ⟨hk, by omega⟩
        exact h3.blk fun k hk hlt => hg.block k hlt (by simp [Value.ownBlock])
      | succ i => simp at h1
  · exact ⟨_, h.choose_spec.2.1, fun x u w3 w4 g' cap hb hx _ hown hg hor => .inr (h.push hb (hx g h.choose_spec.2.2.1) hown hg hor)⟩
def cutX (sw : Int) (x : Pol) : Int × Int × Int := if x.k = 1 then cutF sw x.pk x.pf x.pn else (0, 0, 0)
def atX (sw : Int) (x : Pol) (l : List Pol) : Pol := .mk x.k (cutX sw x).1 (cutX sw x).2.1 (cutX sw x).2.2 x.f x.v l
def atF (sw : Int) : Nat → Pol → Pol
  | 0, x => atX sw x []
  | d + 1, x => atX sw x (x.l.map (atF sw d))
/-- What the cut of a policy is to be. -/
def AtC (sw : Int) (d : Nat) (x y : Pol) (u : Value) (w : World) : Prop :=
  Calls Tryz.prog 65 #[polV x u, .int .i64 sw] w fun e w' => ∃ u', e = .returned (polV y u') ∧ RdP (fun g => w.heap.size ≤ g) d u' y.l w' ∧ Below w.heap.size w w'
abbrev zeroA : Array Value := #[.int .i64 0, .int .i64 0, .int .i64 0, .int .i64 0, .slice none 0 0, .int .i64 0, .int .i64 0, .slice none 0 0]
set_option maxRecDepth 100000 in
set_option maxHeartbeats 8000000 in
theorem at_step1 (sw pf pn f v : Int) (d : Nat) (uo : Option Addr) (uc : Nat) (w : World) : AtC sw d (.mk 1 3 pf pn f v []) (atX sw (.mk 1 3 pf pn f v []) []) (.slice uo 0 uc) w := by
  have HB : Hid (Below w.heap.size w ((w.alloc (.cells (polL (.mk 1 3 pf pn f v []) (.slice uo 0 uc)).toArray 55)).alloc (.cells zeroA 55))) := Lib.hid (((Below.refl _ _).alloc (Nat.le_refl _) _).alloc (by simp) _)
  have HX : Hid (((w.alloc (.cells (polL (.mk 1 3 pf pn f v []) (.slice uo 0 uc)).toArray 55)).alloc (.cells zeroA 55)).heap[w.heap.size]? = some (.cells (polL (.mk 1 3 pf pn f v []) (.slice uo 0 uc)).toArray 55 (0, 0))) :=
    Lib.hid ((Below.heap_alloc _ _ _ (by simp)).trans (heap_alloc_new w _))
  have HR : Hid (((w.alloc (.cells (polL (.mk 1 3 pf pn f v []) (.slice uo 0 uc)).toArray 55)).alloc (.cells zeroA 55)).heap[w.heap.size + 1]? = some (.cells zeroA 55 (0, 0))) := by
    have := heap_alloc_new (w.alloc (.cells (polL (.mk 1 3 pf pn f v []) (.slice uo 0 uc)).toArray 55)) (.cells zeroA 55)
    exact Lib.hid (by simpa using this)
  have XC := Lib.hid (fun w => cut_c sw pf pn w)
  have HE : Hid (atX sw (.mk 1 3 pf pn f v []) [] = .mk 1 (cutF sw 3 pf pn).1 (cutF sw 3 pf pn).2.1 (cutF sw 3 pf pn).2.2 f v []) := Lib.hid rfl
  rw [HE.out]
  unfold AtC
  clear HE
  generalize (cutF sw 3 pf pn).1 = y1 at *
  generalize (cutF sw 3 pf pn).2.1 = y2 at *
  generalize (cutF sw 3 pf pn).2.2 = y3 at *
  unfold polV
  simp only [polL, Pol.k, Pol.pk, Pol.pf, Pol.pn, Pol.f, Pol.v, Pol.l] at HB HX HR ⊢
  go_enter Tryz.func65, Tryz.ntmps65
  go_wp2_with (refine stop_store 55 _ _ rfl ?_)
  refine Stop.go (abs_list ?_)
  intro w2 e2
  have hb2 : Below w.heap.size w w2 := by rw [e2]; exact HB.out.alloc (by simp; omega) _
  have hx2 : w2.heap[w.heap.size]? = some (.cells #[.int .i64 1, .int .i64 3, .int .i64 pf, .int .i64 pn, .slice none 0 0, .int .i64 f, .int .i64 v, .slice uo 0 uc] 55 (0, 0)) := by rw [e2]; exact (Below.heap_alloc _ _ _ (by simp; omega)).trans HX.out
  have hr2 : w2.heap[w.heap.size + 1]? = some (.cells zeroA 55 (0, 0)) := by rw [e2]; exact (Below.heap_alloc _ _ _ (by simp)).trans HR.out
  have hg3 : w2.heap[w.heap.size + 1 + 1]? = some (.cells zeroA 55 (0, 0)) := by
    rw [e2]
    have := heap_alloc_new ((w.alloc (.cells #[.int .i64 1, .int .i64 3, .int .i64 pf, .int .i64 pn, .slice none 0 0, .int .i64 f, .int .i64 v, .slice uo 0 uc] 55)).alloc (.cells zeroA 55)) (.cells zeroA 55)
    simpa using this
  have HB2 := Lib.hid hb2
  have HX2 := Lib.hid hx2
  have HR2 := Lib.hid hr2
  clear e2 hb2 hx2 hr2 HB HX HR
  refine wpList_store_o rfl 55 _ _ rfl (w.heap.size + 1 + 1) _ rfl rfl 55 _ hg3 inf55 rfl rfl ?_
  intro w3 hg4 ho3
  have HB3 := Lib.hid (ho3.belowT HB2.out (by omega))
  have HX3 := Lib.hid ((ho3.block _ (by omega)).trans HX2.out)
  have HR3 := Lib.hid ((ho3.block _ (by omega)).trans HR2.out)
  have HG3 := Lib.hid hg4
  clear hg3 hg4 ho3 HB2 HX2 HR2
  have c0 := block_cell HX3.out 0
  have c1 := block_cell HX3.out 1
  have c2 := block_cell HX3.out 2
  have c3 := block_cell HX3.out 3
  have c4 := block_cell HX3.out 4
  simp only [List.getElem?_toArray, List.getElem?_cons_zero, List.getElem?_cons_succ] at c0 c1 c2 c3 c4
  go_wp2_with fail
  refine (XC.out _).mono ?_
  rintro e w4 ⟨rfl, hb⟩
  have hs3 := HB3.out.size
  have hs4 := hb.size
  have hl3 := block_lt HG3.out
  have HB4 := Lib.hid (HB3.out.trans (hb.mono hs3))
  have HX4 := Lib.hid ((hb.block _ (by omega)).trans HX3.out)
  have HR4 := Lib.hid ((hb.block _ (by omega)).trans HR3.out)
  have HG4 := Lib.hid ((hb.block _ hl3).trans HG3.out)
  clear hb HB3 HX3 HR3 HG3 c0 c1 c2 c3 c4 XC
  go_wp2_with (refine stop_store 52 _ _ rfl ?_)
  refine Stop.go (wpList_store_p rfl 52 _ _ rfl (w.heap.size + 1 + 1) 1 _ rfl rfl 55 _ HG4.out inf52 (by simp) rfl ?_)
  intro w5 hg5 ho5
  have HB5 := Lib.hid (ho5.belowT HB4.out (by omega))
  have HX5 := Lib.hid ((ho5.block _ (by omega)).trans HX4.out)
  have HR5 := Lib.hid ((ho5.block _ (by omega)).trans HR4.out)
  have HG5 : Hid (w5.heap[w.heap.size + 1 + 1]? = some (.cells #[.int .i64 1, .int .i64 y1, .int .i64 y2, .int .i64 y3, .slice none 0 0, .int .i64 f, .int .i64 v, .slice none 0 0] 55 (0, 0))) := Lib.hid hg5
  clear hg5 ho5 HB4 HX4 HR4 HG4 hs3 hs4 hl3
  have c0 := block_cell HX5.out 0
  have c7 := block_cell HX5.out 7
  simp only [List.getElem?_toArray, List.getElem?_cons_zero, List.getElem?_cons_succ] at c0 c7
  go_wp2_with fail
  go_loopw [31] (fun i wr => i = .int .i64 0 ∧ wr = w5) (fun _ _ => 0)
  case atStart => exact ⟨rfl, rfl⟩
  case round =>
    obtain ⟨rfl, rfl⟩ := hrel
    go_wp2_with (first | (refine stop_load 55 _ rfl ?_) | (refine stop_store 55 _ _ rfl ?_))
    obtain ⟨fs, hu55⟩ := und55
    refine Stop.go (wpList_load_row rfl 55 _ rfl (w.heap.size + 1 + 1) rfl 55 _ (0, 0) _ HG5.out hu55 rfl inf55 ?_)
    clear hu55
    refine wpList_store_o rfl 55 _ _ rfl (w.heap.size + 1) _ rfl rfl 55 _ HR5.out inf55 rfl rfl ?_
    intro w6 hg6 ho6
    have HB6 := Lib.hid (ho6.belowT HB5.out (by omega))
    have HG6 := Lib.hid hg6
    clear hg6 ho6 HB5 HG5 HX5 HR5
    go_wp2_with fail
    exact ret55 Tryz.results65 rfl rfl HG6.out rfl ⟨_, rfl, RdP.nil _ _ _, HB6.out⟩
end Go.Proofs.YtekfkieimdgfkaaGreat
