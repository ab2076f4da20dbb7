/- What is proved here: routes as a policy may be, and may be laid into their network; what the table of each switch is. Condition: at most four switches, one or two hosts, ports that are named. -/
import Derived.Test.YtekfkieimdgfkaaGreatT31
namespace Go.Proofs.YtekfkieimdgfkaaGreat
open Go Go.RowKit
theorem okp_leaf (d : Nat) (x : Pol) (hl : x.l = []) (h : ShapeOk x) : OkP d x := by
  cases d
  · exact h
  · exact ⟨h, fun y hy => by rw [hl] at hy; cases hy⟩
theorem okp_flt (d : Nat) (f v : Int) (h0 : 0 ≤ f) (h5 : f ≤ 5) (v0 : 0 ≤ v) (v1 : v ≤ ptopF f) : OkP d (fltP f v) :=
  okp_leaf d _ rfl (.inl ⟨rfl, ⟨rfl, h0, h5, v0, v1⟩, rfl, rfl, rfl⟩)
theorem okp_set (d : Nat) (p : Int) (h0 : 0 ≤ p) (h1 : p ≤ 7) : OkP d (setP p) :=
  okp_leaf d _ rfl (.inr (.inl ⟨rfl, rfl, rfl, rfl, by show (0 : Int) ≤ 4; decide, by show (4 : Int) ≤ 4; decide, h0, by show p ≤ ptopF 4; simpa [ptopF] using h1, rfl⟩))
theorem okp_many (d : Nat) (k : Int) (hk : k = 3 ∨ k = 4) (l : List Pol) (h2 : 2 ≤ l.length) (h8 : l.length ≤ 8) (h : ∀ y ∈ l, OkP d y) : OkP (d + 1) (.mk k 0 0 0 0 0 l) :=
  ⟨.inr (.inr ⟨hk, rfl, rfl, rfl, rfl, rfl, h2, h8⟩), h⟩
theorem okp_row (d : Nat) (h p : Int) (h0 : 0 ≤ h) (h1 : h ≤ 1) (p0 : 0 ≤ p) (p1 : p ≤ 7) : OkP (d + 1) (rowP h p) := by
  refine okp_many d 3 (.inl rfl) _ (by simp) (by simp) fun y hy => ?_
  simp at hy
  rcases hy with rfl | rfl
  · exact okp_flt d 1 h (by omega) (by omega) h0 (by simp [ptopF, topF]; omega)
  · exact okp_set d p p0 p1
theorem okp_inn (d h : Nat) (r : List Int) (hr : RowOk h r) (h1 : 1 ≤ h) (h2 : h ≤ 2) : OkP (d + 2) (innP r) := by
  rcases hr.cases h1 h2 with ⟨p, _, rfl, hp⟩ | ⟨p, q, _, rfl, hp0, hp1, hq0, hq1⟩
  · exact okp_row (d + 1) 0 p (by omega) (by omega) hp.1 hp.2
  · refine okp_many (d + 1) 4 (.inr rfl) _ (by simp) (by simp) fun y hy => ?_
    simp at hy
    rcases hy with rfl | rfl
    · exact okp_row d 0 p (by omega) (by omega) hp0 hp1
    · exact okp_row d 1 q (by omega) (by omega) hq0 hq1
theorem okp_sw (d h : Nat) (i : Int) (r : List Int) (hr : RowOk h r) (h1 : 1 ≤ h) (h2 : h ≤ 2) (i0 : 0 ≤ i) (i1 : i ≤ 7) : OkP (d + 3) (swP i r) := by
  refine okp_many (d + 2) 3 (.inl rfl) _ (by simp) (by simp) fun y hy => ?_
  simp at hy
  rcases hy with rfl | rfl
  · exact okp_flt (d + 2) 5 i (by omega) (by omega) i0 (by simp [ptopF]; omega)
  · exact okp_inn d h r hr h1 h2
theorem swsP_mem {y : Pol} : ∀ {rows : List (List Int)} {i : Int}, y ∈ swsP i rows → ∃ j, i ≤ j ∧ j < i + rows.length ∧ ∃ r ∈ rows, y = swP j r := by
  intro rows
  induction rows with
  | nil => intro i h; cases h
  | cons r rs ih =>
    intro i h
    rcases List.mem_cons.1 h with rfl | h
    · exact ⟨i, by omega, by simp; omega, r, by simp, rfl⟩
    · obtain ⟨j, h1, h2, r', h3, h4⟩ := ih h
      exact ⟨j, by omega, by simp; omega, r', by simp [h3], h4⟩
theorem swsP_len : ∀ (rows : List (List Int)) (i : Int), (swsP i rows).length = rows.length
  | [], _ => rfl
  | r :: rs, i => by simp [swsP, swsP_len rs]
section
variable {h : Nat} {rows : List (List Int)}
theorem okp_told (h1 : 1 ≤ h) (h2 : h ≤ 2) (hr : ∀ r ∈ rows, RowOk h r) (hn1 : 1 ≤ rows.length) (hn : rows.length ≤ 4) : OkP 4 (toldP rows) := by
  match rows, hr, hn1, hn with
  | [r], hr, _, _ => exact okp_sw 1 h 0 r (hr r (by simp)) h1 h2 (by omega) (by omega)
  | r :: s :: rs, hr, _, hn =>
    refine okp_many 3 4 (.inr rfl) _ (by rw [swsP_len]; simp) (by rw [swsP_len]; omega) fun y hy => ?_
    obtain ⟨j, j0, j1, r', hm, rfl⟩ := swsP_mem hy
    exact okp_sw 0 h j r' (hr r' hm) h1 h2 j0 (by omega)
theorem dep_leaf (d : Nat) (x : Pol) (hl : x.l = []) : DepP d x := by
  cases d
  · exact hl
  · intro y hy
    rw [hl] at hy
    cases hy
theorem dep_row (d : Nat) (i p : Int) : DepP (d + 1) (rowP i p) := by
  intro y hy
  simp [rowP, Pol.l] at hy
  rcases hy with rfl | rfl <;> exact dep_leaf d _ rfl
theorem dep_inn (d : Nat) (r : List Int) (hr : RowOk h r) (h1 : 1 ≤ h) (h2 : h ≤ 2) : DepP (d + 2) (innP r) := by
  rcases hr.cases h1 h2 with ⟨p, _, rfl, hp⟩ | ⟨p, q, _, rfl, _⟩
  · exact dep_row (d + 1) 0 p
  · intro y hy
    simp [innP, Pol.l] at hy
    rcases hy with rfl | rfl <;> exact dep_row d _ _
theorem dep_sw (d : Nat) (i : Int) (r : List Int) (hr : RowOk h r) (h1 : 1 ≤ h) (h2 : h ≤ 2) : DepP (d + 3) (swP i r) := by
  intro y hy
  simp [swP, Pol.l] at hy
  rcases hy with rfl | rfl
  · exact dep_leaf _ _ rfl
  · exact dep_inn d r hr h1 h2
theorem dep_told (h1 : 1 ≤ h) (h2 : h ≤ 2) (hr : ∀ r ∈ rows, RowOk h r) : DepP 4 (toldP rows) := by
  match rows, hr with
  | [], _ => intro y hy; cases hy
  | [r], hr => exact dep_sw 1 0 r (hr r (by simp)) h1 h2
  | r :: s :: rs, hr =>
    intro y hy
    obtain ⟨j, _, _, r', hm, rfl⟩ := swsP_mem (rows := r :: s :: rs) (i := 0) hy
    exact dep_sw 0 j r' (hr r' hm) h1 h2
/-! How great it is. -/
theorem size_row (d : Nat) (i p : Int) : sizeF (d + 1) (rowP i p) = 4 := by
  cases d <;> simp [sizeF, rowP, fltP, setP, Pol.k, Pol.l, accF, addI]
theorem size_inn (d : Nat) (r : List Int) (hr : RowOk h r) (h1 : 1 ≤ h) (h2 : h ≤ 2) : sizeF (d + 2) (innP r) ≤ 9 ∧ 0 ≤ sizeF (d + 2) (innP r) := by
  rcases hr.cases h1 h2 with ⟨p, _, rfl, hp⟩ | ⟨p, q, _, rfl, _⟩
  · rw [show innP [p] = rowP 0 p from rfl, size_row]
    omega
  · have e : sizeF (d + 2) (innP [p, q]) = 1 + sizeF (d + 1) (rowP 0 p) + sizeF (d + 1) (rowP 1 q) := by
      conv => lhs; unfold sizeF innP
      simp [Pol.k, Pol.l, accF, addI]
    rw [e, size_row, size_row]
    omega
theorem size_sw (d : Nat) (i : Int) (r : List Int) (hr : RowOk h r) (h1 : 1 ≤ h) (h2 : h ≤ 2) : sizeF (d + 3) (swP i r) ≤ 12 ∧ 0 ≤ sizeF (d + 3) (swP i r) := by
  have a := size_inn d r hr h1 h2
  have e : sizeF (d + 3) (swP i r) = 1 + 2 + sizeF (d + 2) (innP r) := by
    conv => lhs; unfold sizeF swP
    simp [Pol.k, Pol.l, accF, addI, sizeF, fltP]
  omega
theorem acc_add (g : Pol → Int) (B : Int) : ∀ (l : List Pol) (z : Int), (∀ y ∈ l, g y ≤ B) → (l.map g).foldl addI z ≤ z + B * l.length := by
  intro l
  induction l with
  | nil => intro z _; simp
  | cons y l ih =>
    intro z hy
    have h1 := hy y (by simp)
    have h2 := ih (addI z (g y)) fun x hx => hy x (by simp [hx])
    rw [List.map_cons, List.foldl_cons]
    refine Int.le_trans h2 ?_
    have e : B * ((y :: l).length : Int) = B * (l.length : Int) + B := by
      rw [List.length_cons]
      push_cast
      rw [Int.mul_add, Int.mul_one]
    rw [e]
    show z + g y + B * (l.length : Int) ≤ _
    omega
theorem size_told (h1 : 1 ≤ h) (h2 : h ≤ 2) (hr : ∀ r ∈ rows, RowOk h r) (hn : rows.length ≤ 4) : sizeF 4 (toldP rows) ≤ 64 := by
  match rows, hr, hn with
  | [], _, _ => simp [sizeF, toldP, swsP, Pol.k, Pol.l, accF]
  | [r], hr, _ =>
    have : sizeF 4 (swP 0 r) ≤ 12 := (size_sw 1 0 r (hr r (by simp)) h1 h2).1
    show sizeF 4 (swP 0 r) ≤ 64
    omega
  | r :: s :: rs, hr, hn =>
    have e : sizeF 4 (toldP (r :: s :: rs)) = ((swsP 0 (r :: s :: rs)).map (sizeF 3)).foldl addI 1 := by
      show (if (4 : Int) = 1 then 2 else accF addI 1 (sizeF 3) (swsP 0 (r :: s :: rs)) (swsP 0 (r :: s :: rs)).length) = _
      rw [if_neg (by decide)]
      unfold accF
      rw [List.take_length]
    rw [e]
    refine Int.le_trans (acc_add (sizeF 3) 12 _ 1 fun y hy => ?_) ?_
    · obtain ⟨j, _, _, r', hm, rfl⟩ := swsP_mem hy
      exact (size_sw 0 j r' (hr r' hm) h1 h2).1
    · rw [swsP_len]
      omega
theorem widef_leaf (d : Nat) (x : Pol) (h3 : x.k ≠ 3) (h4 : x.k ≠ 4) : wideF d x = 1 := by
  cases d
  · unfold wideF
    rw [if_neg h4]
  · unfold wideF
    rw [if_neg h3, if_neg h4]
theorem wide_flt (d : Nat) (f v : Int) : wideF d (fltP f v) = 1 := widef_leaf d _ (by show (1 : Int) ≠ 3; decide) (by show (1 : Int) ≠ 4; decide)
theorem wide_set (d : Nat) (p : Int) : wideF d (setP p) = 1 := widef_leaf d _ (by show (2 : Int) ≠ 3; decide) (by show (2 : Int) ≠ 4; decide)
theorem wide_seq (d : Nat) (a b : Pol) : wideF (d + 1) (.mk 3 0 0 0 0 0 [a, b]) = mul1000 (mul1000 1 (wideF d a)) (wideF d b) := by
  simp [wideF, Pol.k, Pol.l, accF]
theorem wide_row (d : Nat) (i p : Int) : wideF (d + 1) (rowP i p) = 1 := by
  unfold rowP
  rw [wide_seq, wide_flt, wide_set]
  rfl
theorem wide_inn (d : Nat) (r : List Int) (hr : RowOk h r) (h1 : 1 ≤ h) (h2 : h ≤ 2) : wideF (d + 2) (innP r) ≤ 2 ∧ 0 ≤ wideF (d + 2) (innP r) := by
  rcases hr.cases h1 h2 with ⟨p, _, rfl, hp⟩ | ⟨p, q, _, rfl, _⟩
  · rw [show innP [p] = rowP 0 p from rfl, wide_row]
    omega
  · have e : wideF (d + 2) (innP [p, q]) = add1000 (add1000 0 (wideF (d + 1) (rowP 0 p))) (wideF (d + 1) (rowP 1 q)) := by
      conv => lhs; unfold wideF innP
      simp [Pol.k, Pol.l, accF]
    rw [e, wide_row, wide_row]
    decide
theorem wide_sw (d : Nat) (i : Int) (r : List Int) (hr : RowOk h r) (h1 : 1 ≤ h) (h2 : h ≤ 2) : wideF (d + 3) (swP i r) ≤ 2 ∧ 0 ≤ wideF (d + 3) (swP i r) := by
  have a := wide_inn d r hr h1 h2
  unfold swP
  rw [wide_seq, wide_flt]
  unfold mul1000
  rw [if_neg (by decide : ¬ (1000 : Int) < 1 * 1), Int.mul_one, Int.one_mul]
  split <;> omega
theorem acc_add1000 (g : Pol → Int) (B : Int) (_hB : 0 ≤ B) : ∀ (l : List Pol) (z : Int), (∀ y ∈ l, g y ≤ B) → (l.map g).foldl add1000 z ≤ z + B * l.length := by
  intro l
  induction l with
  | nil => intro z _; simp
  | cons y l ih =>
    intro z hy
    have h1 := hy y (by simp)
    have h2 := ih (add1000 z (g y)) fun x hx => hy x (by simp [hx])
    rw [List.map_cons, List.foldl_cons]
    refine Int.le_trans h2 ?_
    have e : B * ((y :: l).length : Int) = B * (l.length : Int) + B := by
      rw [List.length_cons]
      push_cast
      rw [Int.mul_add, Int.mul_one]
    rw [e]
    have : add1000 z (g y) ≤ z + g y := by unfold add1000; split <;> omega
    omega
theorem wide_told (h1 : 1 ≤ h) (h2 : h ≤ 2) (hr : ∀ r ∈ rows, RowOk h r) (hn : rows.length ≤ 4) : wideF 4 (toldP rows) ≤ 64 := by
  match rows, hr, hn with
  | [], _, _ => simp [wideF, toldP, swsP, Pol.k, Pol.l, accF]
  | [r], hr, _ =>
    have : wideF 4 (swP 0 r) ≤ 2 := (wide_sw 1 0 r (hr r (by simp)) h1 h2).1
    show wideF 4 (swP 0 r) ≤ 64
    omega
  | r :: s :: rs, hr, hn =>
    have e : wideF 4 (toldP (r :: s :: rs)) = ((swsP 0 (r :: s :: rs)).map (wideF 3)).foldl add1000 0 := by
      show (if (4 : Int) = 3 then _ else if (4 : Int) = 4 then accF add1000 0 (wideF 3) (swsP 0 (r :: s :: rs)) (swsP 0 (r :: s :: rs)).length else 1) = _
      rw [if_neg (by decide), if_pos rfl]
      unfold accF
      rw [List.take_length]
    rw [e]
    refine Int.le_trans (acc_add1000 (wideF 3) 2 (by omega) _ 0 fun y hy => ?_) ?_
    · obtain ⟨j, _, _, r', hm, rfl⟩ := swsP_mem hy
      exact (wide_sw 0 j r' (hr r' hm) h1 h2).1
    · rw [swsP_len]
      omega
/-! What is left at a switch can be run. -/
theorem okr_leaf (d : Nat) (x : Pol) (h : LeafR x) : OkR d x := by
  cases d
  · exact h
  · exact .inl h
theorem okr_many (d : Nat) (k : Int) (hk : k = 3 ∨ k = 4) (l : List Pol) (h : ∀ y ∈ l, OkR d y) : OkR (d + 1) (.mk k 0 0 0 0 0 l) := .inr ⟨hk, rfl, rfl, rfl, h⟩
theorem okr_row (d : Nat) (i p : Int) : OkR (d + 1) (rowP i p) := by
  refine okr_many d 3 (.inl rfl) _ fun y hy => ?_
  simp at hy
  rcases hy with rfl | rfl
  · exact okr_leaf d _ (.inl ⟨rfl, .inr (.inr ⟨rfl, by show (0 : Int) ≤ 1; decide, by show (1 : Int) ≤ 5; decide⟩), rfl⟩)
  · exact okr_leaf d _ (.inr ⟨rfl, rfl, rfl, rfl, rfl, rfl⟩)
theorem okr_inn (d : Nat) (r : List Int) (hr : RowOk h r) (h1 : 1 ≤ h) (h2 : h ≤ 2) : OkR (d + 2) (innP r) := by
  rcases hr.cases h1 h2 with ⟨p, _, rfl, hp⟩ | ⟨p, q, _, rfl, _⟩
  · exact okr_row (d + 1) 0 p
  · refine okr_many (d + 1) 4 (.inr rfl) _ fun y hy => ?_
    simp at hy
    rcases hy with rfl | rfl <;> exact okr_row d _ _
theorem okr_sw (d : Nat) (sw i : Int) (r : List Int) (hr : RowOk h r) (h1 : 1 ≤ h) (h2 : h ≤ 2) : OkR (d + 3) (swC sw i r) := by
  refine okr_many (d + 2) 3 (.inl rfl) _ fun y hy => ?_
  simp at hy
  rcases hy with rfl | rfl
  · refine okr_leaf _ _ (.inl ⟨rfl, ?_, rfl⟩)
    cases (i == sw)
    · exact .inr (.inl ⟨rfl, rfl, rfl⟩)
    · exact .inl ⟨rfl, rfl, rfl⟩
  · exact okr_inn d r hr h1 h2
theorem okr_told (sw : Int) (h1 : 1 ≤ h) (h2 : h ≤ 2) (hr : ∀ r ∈ rows, RowOk h r) : OkR 4 (toldC sw rows) := by
  match rows, hr with
  | [], _ => exact okr_many 3 4 (.inr rfl) _ fun y hy => by cases hy
  | [r], hr => exact okr_sw 1 sw 0 r (hr r (by simp)) h1 h2
  | r :: s :: rs, hr =>
    refine okr_many 3 4 (.inr rfl) _ fun y hy => ?_
    obtain ⟨j, r', hm, rfl⟩ := swsC_mem hy
    exact okr_sw 0 sw j r' (hr r' hm) h1 h2
theorem cells_small (L : Int → Nat) (h0 : L 0 = 0) (h1 : L 1 ≤ 8) (h2 : L 2 = 0) (h3 : L 3 = 0) (h4 : L 4 ≤ 8) : cellsN L 5 ≤ 4096 := by
  have d1 : cellsN L 1 = min (1 * ((L 0 : Int) + 1)) 100000 := rfl
  have d2 : cellsN L 2 = min (cellsN L 1 * ((L 1 : Int) + 1)) 100000 := rfl
  have d3 : cellsN L 3 = min (cellsN L 2 * ((L 2 : Int) + 1)) 100000 := rfl
  have d4 : cellsN L 4 = min (cellsN L 3 * ((L 3 : Int) + 1)) 100000 := rfl
  have d5 : cellsN L 5 = min (cellsN L 4 * ((L 4 : Int) + 1)) 100000 := rfl
  rw [h0] at d1
  rw [h2] at d3
  rw [h3] at d4
  have e1 : cellsN L 1 = 1 := by rw [d1]; decide
  rw [e1, Int.one_mul] at d2
  generalize cellsN L 5 = c5 at *
  generalize cellsN L 4 = c4 at *
  generalize cellsN L 3 = c3 at *
  generalize cellsN L 2 = c2 at *
  generalize L 1 = l1 at *
  generalize L 4 = l4 at *
  clear e1 d1 h0 h2 h3
  have e2 : c2 ≤ 9 ∧ 0 ≤ c2 := by omega
  have e3 : c3 ≤ 9 ∧ 0 ≤ c3 := by
    have : c2 * (((0 : Nat) : Int) + 1) = c2 := by simp
    omega
  have e4 : c4 ≤ 9 ∧ 0 ≤ c4 := by
    have : c3 * (((0 : Nat) : Int) + 1) = c3 := by simp
    omega
  have : c4 * ((l4 : Int) + 1) ≤ 9 * ((l4 : Int) + 1) := Int.mul_le_mul_of_nonneg_right e4.1 (by omega)
  omega
theorem vals_few (h1 : 1 ≤ h) (h2 : h ≤ 2) (hr : ∀ r ∈ rows, RowOk h r) (hn : rows.length ≤ 4) (fl : Int) : (valsF fl 4 (toldP rows)).length ≤ 8 := by
  by_cases hf : fl = 5
  · subst hf
    match rows, hr, hn with
    | [], _, _ => rw [show toldP [] = .mk 4 0 0 0 0 0 [] from rfl, vals_many 5 3 4 (.inr rfl)]; simp
    | [r], hr, _ =>
      have := vals5_len h h1 h2 1 [r] 0 hr
      have e : (swsP 0 [r]).flatMap (valsF 5 (1 + 3)) = valsF 5 4 (toldP [r]) := by simp [swsP, toldP]
      rw [e] at this
      simp at this
      omega
    | r :: s :: rs, hr, hn =>
      have e : toldP (r :: s :: rs) = .mk 4 0 0 0 0 0 (swsP 0 (r :: s :: rs)) := rfl
      rw [e, vals_many 5 3 4 (.inr rfl), vals5_len h h1 h2 0 _ 0 hr]
      omega
  · rw [vals_told fl hf h h1 h2 rows hr]
    have := innV_flat_len fl h1 h2 rows hr
    omega
/-- What makes such routes a policy that may be laid into the network. -/
theorem told_maybe (h1 : 1 ≤ h) (h2 : h ≤ 2) (hr : ∀ r ∈ rows, RowOk h r) (hn1 : 1 ≤ rows.length) (hn : rows.length ≤ 4) (n : Int) (ls : List Lk) (hs : List Ho) (hnn : (rows.length : Int) ≤ n) (hnm : ∀ r ∈ rows, ∀ p ∈ r, namedB ls hs p = true) : MayBe n ls hs 4 (toldP rows) := by
  have hfew := vals_few h1 h2 hr hn
  refine ⟨by omega, okp_told h1 h2 hr hn1 hn, dep_told h1 h2 hr, size_told h1 h2 hr hn, wide_told h1 h2 hr hn, fun fl => Nat.le_trans (hfew fl) (by omega), fun p hp => ?_, fun s hs => ?_, ?_⟩
  · rw [vals_told 4 (by decide) h h1 h2 rows hr] at hp
    obtain ⟨r, hm, hpr⟩ := List.mem_flatMap.1 hp
    rw [innV4 (hr r hm) h1 h2] at hpr
    exact hnm r hm p hpr
  · have := vals5_told h h1 h2 rows hr s hs
    omega
  · have hz : ∀ fl : Int, fl ≠ 1 → fl ≠ 4 → fl ≠ 5 → (sv (valsF fl 4 (toldP rows))).length = 0 := fun fl a b c => by
      rw [vals_told fl c h h1 h2 rows hr, innV_none fl a b h1 h2 rows hr]
      exact Nat.le_zero.1 (sv_len [])
    exact cells_small _ (hz 0 (by decide) (by decide) (by decide)) (Nat.le_trans (sv_len _) (hfew 1)) (hz 2 (by decide) (by decide) (by decide)) (hz 3 (by decide) (by decide) (by decide)) (Nat.le_trans (sv_len _) (hfew 4))
end
end Go.Proofs.YtekfkieimdgfkaaGreat
