/- What is proved here: the tokens of a text that is no policy; how routes are parsed. Condition: at most four switches, one or two hosts. -/
import Derived.Test.YtekfkieimdgfkaaGreatT31
import Derived.Test.YtekfkieimdgfkaaGreatT43
import Derived.Test.YtekfkieimdgfkaaGreatT44
namespace Go.Proofs.YtekfkieimdgfkaaGreat
open Go Go.RowKit
abbrev badL : List UInt8 := [119, 104, 101, 110, 32, 100, 115, 116, 59, 32, 112, 111, 114, 116, 32, 58, 61, 32, 50]
def badT : List Tk := [⟨1, 0, wWhen, 0⟩, ⟨1, 0, wDst, 5⟩, ⟨3, 0, [59], 8⟩, ⟨1, 0, wPort, 10⟩, ⟨3, 0, [58, 61], 15⟩, ⟨2, 2, [], 18⟩, ⟨4, 0, [], 19⟩]
theorem bad_lex : LexR badL 0 badT := by
  have a0 : afterSp badL 0 = 0 := by decide
  have a1 : afterSp badL 4 = 5 := by decide
  have a2 : afterSp badL 8 = 8 := by decide
  have a3 : afterSp badL 9 = 10 := by decide
  have a4 : afterSp badL 14 = 15 := by decide
  have a5 : afterSp badL 17 = 18 := by decide
  have a6 : afterSp badL 19 = 19 := by decide
  have h6 : LexR badL 19 [⟨4, 0, [], 19⟩] := .stop 19 a6
  have h5 : LexR badL 17 (⟨2, 2, [], 18⟩ :: [⟨4, 0, [], 19⟩]) := by
    have := LexR.tok (L := badL) 17 2 2 [] 1 [⟨4, 0, [], 19⟩] (by rw [a5]; exact ⟨50, [], rfl, by decide, .inr (.inl ⟨by decide, by decide, by decide, by decide, by decide, rfl, by decide, rfl, rfl⟩)⟩) (by rw [a5]; decide) (by rw [a5]; exact h6)
    rwa [a5] at this
  have h4 := LexR.tok (L := badL) 14 3 0 [58, 61] 2 _ (by rw [a4]; exact ⟨58, [61, 32, 50], rfl, by decide, .inr (.inr (.inl ⟨by decide, by decide, by decide, rfl, rfl, rfl, rfl⟩))⟩) (by rw [a4]; decide) (by rw [a4]; exact h5)
  rw [a4] at h4
  have h3 := LexR.tok (L := badL) 9 1 0 wPort 4 _ (by rw [a3]; exact ⟨112, [111, 114, 116, 32, 58, 61, 32, 50], rfl, by decide, .inl ⟨by decide, rfl, rfl, by decide, rfl⟩⟩) (by rw [a3]; decide) (by rw [a3]; exact h4)
  rw [a3] at h3
  have h2 := LexR.tok (L := badL) 8 3 0 [59] 1 _ (by rw [a2]; exact ⟨59, [32, 112, 111, 114, 116, 32, 58, 61, 32, 50], rfl, by decide, .inr (.inr (.inr ⟨by decide, by decide, by decide, by decide, rfl, rfl, rfl, rfl⟩))⟩) (by rw [a2]; decide) (by rw [a2]; exact h3)
  rw [a2] at h2
  have h1 := LexR.tok (L := badL) 4 1 0 wDst 3 _ (by rw [a1]; exact ⟨100, [115, 116, 59, 32, 112, 111, 114, 116, 32, 58, 61, 32, 50], rfl, by decide, .inl ⟨by decide, rfl, rfl, by decide, rfl⟩⟩) (by rw [a1]; decide) (by rw [a1]; exact h2)
  rw [a1] at h1
  have h0 := LexR.tok (L := badL) 0 1 0 wWhen 4 _ (by rw [a0]; exact ⟨119, [104, 101, 110, 32, 100, 115, 116, 59, 32, 112, 111, 114, 116, 32, 58, 61, 32, 50], rfl, by decide, .inl ⟨by decide, rfl, rfl, by decide, rfl⟩⟩) (by rw [a0]; decide) (by rw [a0]; exact h1)
  rw [a0] at h0
  exact h0
/-- The parser gives up at the sign in the middle of it. -/
theorem bad_pan (q : Nat) (lv : Value) (hne : Apart q lv) : PanC 26 q lv badT 0 8 := by
  refine parse26_no q lv badT 0 8 (policy_no q lv badT 0 8 (row_no q lv badT 0 8 ?_))
  refine step_no q lv badT 0 8 ⟨1, 0, wWhen, 0⟩ hne (by decide) rfl rfl rfl ?_
  refine cond_no q lv badT 1 8 (group_no q lv badT 1 8 ?_)
  exact part_no q lv badT 1 ⟨1, 0, wDst, 5⟩ ⟨3, 0, [59], 8⟩ hne (by decide) rfl rfl 1 (by decide) rfl rfl (by decide)
/-! Where these tokens stand. -/
def At (l : List Tk) (a : Nat) (ts : List Tw) : Prop := ∀ j (h : j < ts.length), (l[a + j]?).map tkS = some ts[j]
theorem At.split {l : List Tk} {a : Nat} {ts us : List Tw} (h : At l a (ts ++ us)) : At l a ts ∧ At l (a + ts.length) us := by
  constructor
  · intro j hj
    have := h j (by rw [List.length_append]; omega)
    rwa [List.getElem_append_left hj] at this
  · intro j hj
    have := h (ts.length + j) (by rw [List.length_append]; omega)
    rw [List.getElem_append_right (by omega)] at this
    rw [Nat.add_assoc]
    simpa using this
theorem At.join {l : List Tk} {a : Nat} {ts us : List Tw} (h : At l a ts) (h2 : At l (a + ts.length) us) : At l a (ts ++ us) := by
  intro j hj
  by_cases hl : j < ts.length
  · rw [List.getElem_append_left hl]
    exact h j hl
  · rw [List.getElem_append_right (by omega)]
    have := h2 (j - ts.length) (by rw [List.length_append] at hj; omega)
    rwa [show a + ts.length + (j - ts.length) = a + j by omega] at this
theorem At.get {l : List Tk} {a : Nat} {ts : List Tw} (h : At l a ts) (j : Nat) (hj : j < ts.length) : ∃ x, l[a + j]? = some x ∧ x.k = ts[j].1 ∧ x.n = ts[j].2.1 ∧ x.t = ts[j].2.2 := by
  have h := h j hj
  cases hx : l[a + j]? with
  | none => rw [hx] at h; cases h
  | some x =>
    rw [hx] at h
    have e : tkS x = ts[j] := by simpa using h
    rw [← e]
    exact ⟨x, rfl, rfl, rfl, rfl⟩
theorem At.of {l : List Tk} {ts : List Tw} (h : l.map tkS = ts) : At l 0 ts := by
  intro j hj
  subst h
  rw [Nat.zero_add, ← List.getElem?_map]
  exact List.getElem?_eq_getElem hj
section
variable {q : Nat} {lv : Value} {l : List Tk}
theorem pol_cond (hne : Apart q lv) (hln : l.length ≤ 1000) (a d : Nat) (f : Nat) (hf : f < 6) (fw : List UInt8) (hfw : fieldsL[f]? = some fw) (v : Int) (k9 : Tw) (hk9 : (k9.2.2 == [97, 110, 100]) = false ∧ (k9.2.2 == [111, 114]) = false) (h : At l a [(1, 0, wWhen), (1, 0, fw), (3, 0, [61]), (2, v, []), k9]) : PolC 76 q lv l a (a + 4) d (fltP f v) := by
  obtain ⟨x0, e0, k0, n0, t0⟩ := h.get 0 (by simp)
  obtain ⟨x1, e1, k1, n1, t1⟩ := h.get 1 (by simp)
  obtain ⟨x2, e2, k2, n2, t2⟩ := h.get 2 (by simp)
  obtain ⟨x3, e3, k3, n3, t3⟩ := h.get 3 (by simp)
  obtain ⟨x4, e4, k4, n4, t4⟩ := h.get 4 (by simp)
  simp only [List.getElem_cons_zero, List.getElem_cons_succ] at k0 n0 t0 k1 n1 t1 k2 n2 t2 k3 n3 t3 k4 n4 t4
  have hl4 : a + 4 < l.length := (List.getElem?_eq_some_iff.1 e4).1
  have o156 : OneC 156 q lv l (a + 1) (a + 4) (.agg #[.int .i64 3, .int .i64 f, .int .i64 v, .slice none 0 0]) := by
    intro wk hq hl
    have := part_c q lv l (a + 1) wk hq hl hne (by omega) hln x1 x2 x3 e1 e2 e3 f hf k1 (by rw [t1]; exact hfw) k2 t2 k3
    rw [n3] at this
    exact this
  have o132 := one132 q lv l (a + 1) (a + 4) 3 f v x4 hne hln o156 e4 (by rw [t4]; exact hk9.1)
  have o99 := one99 q lv l (a + 1) (a + 4) 3 f v x4 hne hln o132 e4 (by rw [t4]; exact hk9.2)
  exact step_when q lv l a (a + 4) d 3 f v x0 hne hln e0 k0 t0 o99
theorem pol_set (hne : Apart q lv) (hln : l.length ≤ 1000) (a d : Nat) (p : Int) (h : At l a [(1, 0, wPort), (3, 0, [58, 61]), (2, p, [])]) : PolC 76 q lv l a (a + 3) d (setP p) := by
  obtain ⟨x0, e0, k0, n0, t0⟩ := h.get 0 (by simp)
  obtain ⟨x1, e1, k1, n1, t1⟩ := h.get 1 (by simp)
  obtain ⟨x2, e2, k2, n2, t2⟩ := h.get 2 (by simp)
  simp only [List.getElem_cons_zero, List.getElem_cons_succ] at k0 n0 t0 k1 n1 t1 k2 n2 t2
  have := step_set q lv l a d 4 x0 x1 x2 hne hln e0 e1 e2 (by omega) k0 (by rw [t0]; rfl) k1 t1 k2
  rw [n2] at this
  exact this
/-- What stands behind it is none of these signs. -/
def Ends (k9 : Tw) : Prop := ((k9.1 == 1 || k9.1 == 3) && (k9.2.2 == [59])) = false
theorem pol_row (hne : Apart q lv) (hln : l.length ≤ 1000) (a d : Nat) (k p : Int) (k9 : Tw) (hk9 : Ends k9) (h : At l a (tRow k p ++ [k9])) : PolC 51 q lv l a (a + 8) (d + 1) (rowP k p) := by
  have h0 : At l a [(1, 0, wWhen), (1, 0, wDst), (3, 0, [61]), (2, k, []), (3, 0, [59])] := by
    intro j hj
    have hj : j < 5 := hj
    have := h j (by simp [tRow]; omega)
    rcases (by omega : j = 0 ∨ j = 1 ∨ j = 2 ∨ j = 3 ∨ j = 4) with rfl | rfl | rfl | rfl | rfl <;> exact this
  have h5 : At l (a + 5) [(1, 0, wPort), (3, 0, [58, 61]), (2, p, [])] := by
    intro j hj
    have hj : j < 3 := hj
    have := h (5 + j) (by simp [tRow]; omega)
    rw [← Nat.add_assoc] at this
    rcases (by omega : j = 0 ∨ j = 1 ∨ j = 2) with rfl | rfl | rfl <;> exact this
  obtain ⟨x4, e4, k4, n4, t4⟩ := h0.get 4 (by simp)
  obtain ⟨x8, e8, k8, n8, t8⟩ := h.get 8 (by simp [tRow])
  have o1 := pol_cond hne hln a d 1 (by omega) wDst rfl k (3, 0, [59]) ⟨by decide, by decide⟩ h0
  have o2 := pol_set hne hln (a + 5) d p h5
  refine many51 q lv l a (a + 4) (a + 8) d (fltP 1 k) (setP p) [] hne hln o1 ⟨⟨x4, e4, ?_⟩, a + 8, o2, rfl, x8, e8, ?_⟩ (by simp)
  · rw [k4, t4]
    show (((3 : Int) == 1 || (3 : Int) == 3) && (([59] : List UInt8) == [59])) = true
    decide
  · rw [k8, t8]
    exact hk9
theorem row_tlen (k p : Int) : (tRow k p).length = 8 := rfl
theorem pol_inn (hne : Apart q lv) (hln : l.length ≤ 1000) (a d h : Nat) (r : List Int) (hr : RowOk h r) (h1 : 1 ≤ h) (h2 : h ≤ 2) (hA : At l a (tRows r ++ [(3, 0, [41])])) : PolC 27 q lv l a (a + (tRows r).length) (d + 2) (innP r) := by
  rcases hr.cases h1 h2 with ⟨p, _, rfl, _⟩ | ⟨p, p', _, rfl, _⟩
  · obtain ⟨x8, e8, k8, n8, t8⟩ := hA.get 8 (by simp [tRows, tRow])
    have o := pol_row hne hln a (d + 1) 0 p (3, 0, [41]) (by unfold Ends; decide) hA
    refine one27 q lv l a (a + 8) (d + 2) (rowP 0 p) hne hln o ⟨rfl, x8, e8, ?_⟩
    rw [k8, t8]
    show (((3 : Int) == 1 || (3 : Int) == 3) && (([41] : List UInt8) == [124])) = false
    decide
  · have e : tRows [p, p'] ++ [(3, 0, [41])] = tRow 0 p ++ (tBar ++ (tRow 1 p' ++ [(3, 0, [41])])) := by simp only [tRows, List.append_assoc]
    rw [e] at hA
    obtain ⟨hA1, hA2⟩ := hA.split
    obtain ⟨hA3, hA4⟩ := hA2.split
    rw [row_tlen] at hA3 hA4
    have hA5 : At l a (tRow 0 p ++ [(3, 0, [124])]) := by
      intro j hj
      rw [List.length_append, row_tlen] at hj
      by_cases hj8 : j < 8
      · rw [List.getElem_append_left (by rw [row_tlen]; exact hj8)]
        exact hA1 j (by rw [row_tlen]; exact hj8)
      · obtain rfl : j = 8 := by simp at hj; omega
        exact hA3 0 (by simp [tBar])
    have o1 := pol_row hne hln a d 0 p (3, 0, [124]) (by unfold Ends; decide) hA5
    have o2 := pol_row hne hln (a + 8 + 1) d 1 p' (3, 0, [41]) (by unfold Ends; decide) hA4
    obtain ⟨x8, e8, k8, n8, t8⟩ := hA3.get 0 (by simp [tBar])
    obtain ⟨x9, e9, k9, n9, t9⟩ := hA4.get 8 (by simp [tRow])
    have el : a + (tRows [p, p']).length = a + 8 + 1 + 8 := by simp [tRows, tRow, tBar]
    rw [el]
    refine many27 q lv l a (a + 8) (a + 8 + 1 + 8) (d + 1) (rowP 0 p) (rowP 1 p') [] hne hln o1 ⟨⟨x8, e8, ?_⟩, a + 8 + 1 + 8, o2, rfl, x9, e9, ?_⟩ (by simp)
    · rw [k8, t8]
      show (((3 : Int) == 1 || (3 : Int) == 3) && (([124] : List UInt8) == [124])) = true
      decide
    · rw [k9, t9]
      show (((3 : Int) == 1 || (3 : Int) == 3) && (([41] : List UInt8) == [124])) = false
      decide
theorem pol_sw (hne : Apart q lv) (hln : l.length ≤ 1000) (a d h : Nat) (i : Int) (r : List Int) (hr : RowOk h r) (h1 : 1 ≤ h) (h2 : h ≤ 2) (k9 : Tw) (hk9 : Ends k9) (hA : At l a (tSw i ++ (tRows r ++ (tEnd ++ [k9])))) : PolC 51 q lv l a (a + 9 + (tRows r).length) (d + 3) (swP i r) := by
  obtain ⟨hS, hA2⟩ := hA.split
  have es : (tSw i).length = 7 := rfl
  rw [es] at hA2
  obtain ⟨hR, hA3⟩ := hA2.split
  obtain ⟨hE, hA4⟩ := hA3.split
  have ee : tEnd.length = 2 := rfl
  rw [ee] at hA4
  obtain ⟨m, hm⟩ : ∃ m, m = (tRows r).length := ⟨_, rfl⟩
  rw [← hm] at hE hA3 hA4 ⊢
  have hRi : At l (a + 7) (tRows r ++ [(3, 0, [41])]) := by
    intro j hj
    by_cases hjm : j < (tRows r).length
    · rw [List.getElem_append_left hjm]
      exact hR j hjm
    · obtain rfl : j = (tRows r).length := by simp at hj; omega
      have := hE 0 (by rw [ee]; omega)
      rw [Nat.add_zero, hm] at this
      rw [this]
      simp [tEnd]
  have hC : At l (a + 1) [(1, 0, wWhen), (1, 0, wSwitch), (3, 0, [61]), (2, i, []), (3, 0, [59])] := by
    intro j hj
    have hj : j < 5 := hj
    have := hS (1 + j) (by rw [es]; omega)
    rw [← Nat.add_assoc] at this
    rcases (by omega : j = 0 ∨ j = 1 ∨ j = 2 ∨ j = 3 ∨ j = 4) with rfl | rfl | rfl | rfl | rfl <;> exact this
  obtain ⟨x0, e0, k0, n0, t0⟩ := hS.get 0 (by rw [es]; omega)
  obtain ⟨x5, e5, k5, n5, t5⟩ := hS.get 5 (by rw [es]; omega)
  obtain ⟨x6, e6, k6, n6, t6⟩ := hS.get 6 (by rw [es]; omega)
  obtain ⟨y0, f0, g0, _, u0⟩ := hE.get 0 (by rw [ee]; omega)
  obtain ⟨y1, f1, g1, _, u1⟩ := hE.get 1 (by rw [ee]; omega)
  obtain ⟨y2, f2, g2, _, u2⟩ := hA4.get 0 (by simp)
  have o1 := pol_cond hne hln (a + 1) (d + 2) 5 (by omega) wSwitch rfl i (3, 0, [59]) ⟨by decide, by decide⟩ hC
  have o2 := pol_inn hne hln (a + 7) d h r hr h1 h2 hRi
  rw [← hm] at o2
  have o3 : PolC 76 q lv l (a + 6) (a + 7 + m + 1) (d + 2) (innP r) := step_paren q lv l (a + 6) (a + 7 + m) (d + 2) (innP r) x6 y0 hne hln e6 k6 t6 o2 f0 g0 u0
  have o4 : PolC 51 q lv l (a + 1) (a + 7 + m + 1) (d + 3) (swP i r) := by
    refine many51 q lv l (a + 1) (a + 1 + 4) (a + 7 + m + 1) (d + 2) (fltP 5 i) (innP r) [] hne hln o1 ⟨⟨x5, e5, ?_⟩, a + 7 + m + 1, o3, rfl, y1, f1, ?_⟩ (by simp)
    · rw [k5, t5]
      show (((3 : Int) == 1 || (3 : Int) == 3) && (([59] : List UInt8) == [59])) = true
      decide
    · rw [g1, u1]
      show (((3 : Int) == 1 || (3 : Int) == 3) && (([41] : List UInt8) == [59])) = false
      decide
  have o5 : PolC 27 q lv l (a + 1) (a + 7 + m + 1) (d + 3) (swP i r) := by
    refine one27 q lv l (a + 1) (a + 7 + m + 1) (d + 3) (swP i r) hne hln o4 ⟨rfl, y1, f1, ?_⟩
    rw [g1, u1]
    show (((3 : Int) == 1 || (3 : Int) == 3) && (([41] : List UInt8) == [124])) = false
    decide
  have o6 : PolC 76 q lv l a (a + 7 + m + 1 + 1) (d + 3) (swP i r) := step_paren q lv l a (a + 7 + m + 1) (d + 3) (swP i r) x0 y1 hne hln e0 k0 t0 o5 f1 g1 u1
  have eb : a + 9 + m = a + 7 + m + 1 + 1 := by omega
  rw [eb]
  refine one51 q lv l a (a + 7 + m + 1 + 1) (d + 3) (swP i r) hne hln o6 ⟨rfl, y2, ?_, ?_⟩
  · rw [show a + 7 + m + 1 + 1 = a + 7 + m + 2 + 0 by omega]
    exact f2
  · rw [g2, u2]
    exact hk9
def nxt : List (List Int) → Tw
  | [] => (4, 0, [])
  | _ :: _ => (3, 0, [124])
theorem nxt_ends (rs : List (List Int)) : Ends (nxt rs) := by
  cases rs with
  | nil => show Ends (4, 0, []); unfold Ends; decide
  | cons r rs => show Ends (3, 0, [124]); unfold Ends; decide
theorem At.nxt {b i : Nat} {rs : List (List Int)} (h : At l b (tTold (i + 1) rs ++ [(4, 0, [])])) : At l b [nxt rs] := by
  intro j hj
  obtain rfl : j = 0 := by simp at hj; omega
  cases rs with
  | nil => exact h 0 (by simp [tTold])
  | cons r rs => exact h 0 (by rw [List.length_append]; simp)
theorem pol_rest (hne : Apart q lv) (hln : l.length ≤ 1000) (d h : Nat) (h1 : 1 ≤ h) (h2 : h ≤ 2) : ∀ (rs : List (List Int)) (i b : Nat), (∀ r ∈ rs, RowOk h r) → At l b (tTold (i + 1) rs ++ [(4, 0, [])]) →
    RestC 51 q lv l ⟨#[124]⟩ (d + 3) b (b + (tTold (i + 1) rs).length) (swsP ((i + 1 : Nat) : Int) rs) := by
  intro rs
  induction rs with
  | nil =>
    intro i b _ hA
    obtain ⟨x, e, k, _, t⟩ := hA.get 0 (by simp [tTold])
    refine ⟨rfl, x, e, ?_⟩
    rw [k, t]
    show (((4 : Int) == 1 || (4 : Int) == 3) && (([] : List UInt8) == [124])) = false
    decide
  | cons r rs ih =>
    intro i b hr hA
    have e : tTold (i + 1) (r :: rs) ++ [(4, 0, [])] = tBar ++ (tSw ((i + 1 : Nat) : Int) ++ (tRows r ++ (tEnd ++ (tTold (i + 1 + 1) rs ++ [(4, 0, [])])))) := by
      show ((if 0 < i + 1 then tBar else []) ++ (tSw ((i + 1 : Nat) : Int) ++ (tRows r ++ (tEnd ++ tTold (i + 1 + 1) rs)))) ++ _ = _
      rw [if_pos (by omega)]
      simp only [List.append_assoc]
    have el : (tTold (i + 1) (r :: rs)).length = 1 + (9 + (tRows r).length + (tTold (i + 1 + 1) rs).length) := by
      have := congrArg List.length e
      simp only [List.length_append, List.length_cons, List.length_nil] at this
      rw [show tBar.length = 1 from rfl, show (tSw ((i + 1 : Nat) : Int)).length = 7 from rfl, show tEnd.length = 2 from rfl] at this
      omega
    rw [e] at hA
    obtain ⟨hB, hA2⟩ := hA.split
    rw [show tBar.length = 1 from rfl] at hA2
    obtain ⟨x, ex, k, _, t⟩ := hB.get 0 (by simp [tBar])
    obtain ⟨hS, hA3⟩ := hA2.split
    obtain ⟨hR, hA4⟩ := hA3.split
    obtain ⟨hE, hA5⟩ := hA4.split
    rw [show (tSw ((i + 1 : Nat) : Int)).length = 7 from rfl, show tEnd.length = 2 from rfl] at hA5
    have hnx := hA5.nxt
    have hsw : At l (b + 1) (tSw ((i + 1 : Nat) : Int) ++ (tRows r ++ (tEnd ++ [nxt rs]))) := hS.join (hR.join (hE.join hnx))
    have o := pol_sw hne hln (b + 1) d h ((i + 1 : Nat) : Int) r (hr r (by simp)) h1 h2 (nxt rs) (nxt_ends rs) hsw
    refine ⟨⟨x, ex, ?_⟩, b + 1 + 9 + (tRows r).length, o, ?_⟩
    · rw [k, t]
      show (((3 : Int) == 1 || (3 : Int) == 3) && (([124] : List UInt8) == [124])) = true
      decide
    · have := ih (i + 1) (b + 1 + 9 + (tRows r).length) (fun x hx => hr x (by simp [hx])) (by rw [show b + 1 + 9 + (tRows r).length = b + 1 + 7 + (tRows r).length + 2 by omega]; exact hA5)
      rw [show b + (tTold (i + 1) (r :: rs)).length = b + 1 + 9 + (tRows r).length + (tTold (i + 1 + 1) rs).length by omega]
      exact this
end
end Go.Proofs.YtekfkieimdgfkaaGreat
/- What is proved here: what Parse tells of routes' text, and of two fixed texts. Condition: at most four switches, one or two hosts. -/
namespace Go.Proofs.YtekfkieimdgfkaaGreat
open Go Go.RowKit
theorem rows_tlen {h : Nat} {r : List Int} (hr : RowOk h r) (h1 : 1 ≤ h) (h2 : h ≤ 2) : (tRows r).length ≤ 17 := by
  rcases hr.cases h1 h2 with ⟨p, _, rfl, _⟩ | ⟨p, q, _, rfl, _⟩ <;> simp [tRows, tRow, tBar]
theorem told_tlen {h : Nat} (h1 : 1 ≤ h) (h2 : h ≤ 2) : ∀ (rs : List (List Int)) (i : Nat), (∀ r ∈ rs, RowOk h r) → (tTold i rs).length ≤ 27 * rs.length := by
  intro rs
  induction rs with
  | nil => intro i _; simp [tTold]
  | cons r rs ih =>
    intro i hr
    have a := ih (i + 1) fun x hx => hr x (by simp [hx])
    have b := rows_tlen (hr r (by simp)) h1 h2
    have c : (if 0 < i then tBar else []).length ≤ 1 := by split <;> simp [tBar]
    show ((if 0 < i then tBar else []) ++ (tSw (i : Int) ++ (tRows r ++ (tEnd ++ tTold (i + 1) rs)))).length ≤ _
    simp only [List.length_append, List.length_cons]
    rw [show (tSw (i : Int)).length = 7 from rfl, show tEnd.length = 2 from rfl]
    omega
theorem told_pol (h : Nat) (h1 : 1 ≤ h) (h2 : h ≤ 2) (rows : List (List Int)) (hr : ∀ r ∈ rows, RowOk h r) (hn1 : 1 ≤ rows.length) (hn : rows.length ≤ 4) (all : List Tk) (hall : all.map tkS = tTold 0 rows ++ [(4, 0, [])]) :
    all.length ≤ 500 ∧ ∃ b y, all[b]? = some y ∧ y.k = 4 ∧ ∀ q lv, Apart q lv → PolC 26 q lv all 0 b 4 (toldP rows) := by
  have hlen : all.length ≤ 500 := by
    have e := congrArg List.length hall
    rw [List.length_map, List.length_append] at e
    have := told_tlen h1 h2 rows 0 hr
    simp at e
    omega
  refine ⟨hlen, ?_⟩
  have hA := At.of hall
  obtain ⟨r, rs, rfl⟩ : ∃ r rs, rows = r :: rs := by
    cases rows with
    | nil => simp at hn1
    | cons r rs => exact ⟨r, rs, rfl⟩
  have e : tTold 0 (r :: rs) ++ [(4, 0, [])] = tSw ((0 : Nat) : Int) ++ (tRows r ++ (tEnd ++ (tTold (0 + 1) rs ++ [(4, 0, [])]))) := by
    show ((if 0 < 0 then tBar else []) ++ (tSw ((0 : Nat) : Int) ++ (tRows r ++ (tEnd ++ tTold (0 + 1) rs)))) ++ _ = _
    rw [if_neg (by omega)]
    simp only [List.append_assoc, List.nil_append]
  rw [e] at hA
  obtain ⟨hS, hA3⟩ := hA.split
  obtain ⟨hR, hA4⟩ := hA3.split
  obtain ⟨hE, hA5⟩ := hA4.split
  rw [show (tSw ((0 : Nat) : Int)).length = 7 from rfl, show tEnd.length = 2 from rfl] at hA5
  have hnx := hA5.nxt
  have hsw : At all 0 (tSw ((0 : Nat) : Int) ++ (tRows r ++ (tEnd ++ [nxt rs]))) := hS.join (hR.join (hE.join hnx))
  obtain ⟨m, hm⟩ : ∃ m, m = 0 + 9 + (tRows r).length := ⟨_, rfl⟩
  rw [show 0 + 7 + (tRows r).length + 2 = m by omega] at hA5
  obtain ⟨y, ey, ky, _, ty⟩ := hA5.get (tTold (0 + 1) rs).length (by simp)
  rw [List.getElem_append_right (Nat.le_refl _)] at ky
  refine ⟨m + (tTold (0 + 1) rs).length, y, ey, by simpa using ky, fun q lv hne => parse26 q lv all 0 _ 4 _ hne ?_⟩
  match rs, hr, hA5, hn, ey, ty, hsw with
  | [], hr, hA5, _, ey, ty, hsw =>
    have o := pol_sw hne (by omega) 0 1 h ((0 : Nat) : Int) r (hr r (by simp)) h1 h2 (nxt []) (nxt_ends []) hsw
    rw [← hm] at o
    refine one27 q lv all 0 m 4 (swP 0 r) hne (by omega) o ⟨rfl, y, ey, ?_⟩
    have hk4 : y.k = 4 := by simpa using ky
    rw [hk4]
    rfl
  | s :: rs, hr, hA5, hn, ey, ty, hsw =>
    have o := pol_sw hne (by omega) 0 0 h ((0 : Nat) : Int) r (hr r (by simp)) h1 h2 (nxt (s :: rs)) (nxt_ends (s :: rs)) hsw
    rw [← hm] at o
    have o2 := pol_rest hne (show all.length ≤ 1000 by omega) 0 h h1 h2 (s :: rs) 0 m (fun x hx => hr x (by simp [hx])) hA5
    have el : (swsP (((0 + 1 : Nat) : Int) + 1) rs).length ≤ 100 := by
      have : ∀ (l : List (List Int)) (i : Int), (swsP i l).length = l.length := by
        intro l
        induction l with
        | nil => intro i; rfl
        | cons x l ih => intro i; simp [swsP, ih]
      rw [this]
      simp at hn
      omega
    exact many27 q lv all 0 m _ 3 (swP 0 r) (swP ((0 + 1 : Nat) : Int) s) (swsP (((0 + 1 : Nat) : Int) + 1) rs) hne (by omega) o o2 el
theorem told_parse (h : Nat) (h1 : 1 ≤ h) (h2 : h ≤ 2) (rows : List (List Int)) (hr : ∀ r ∈ rows, RowOk h r) (hn1 : 1 ≤ rows.length) (hn : rows.length ≤ 4) (s : ByteArray) (hs : s.data.toList = toldL rows) (w : World) :
    Calls Tryz.prog 16 #[.string s] w fun e w' => ∃ u, e = .returned (.tuple #[polV (toldP rows) u, .int .i64 0, .int .i64 0]) ∧ RdP (fun g => w.heap.size ≤ g) 4 u (toldP rows).l w' ∧ Below w.heap.size w w' := by
  have hr' : ∀ r ∈ rows, (r.length = 1 ∨ r.length = 2) ∧ ∀ x ∈ r, 0 ≤ x ∧ x ≤ 7 := fun r hm => by
    have := hr r hm
    exact ⟨by have := this.1; omega, this.2⟩
  obtain ⟨all, hL, hmap⟩ := told_lex rows hn hr'
  obtain ⟨hlen, b, y, hy, hyk, ho⟩ := told_pol h h1 h2 rows hr hn1 hn all hmap
  rw [← hs] at hL
  have hsz : s.size ≤ 4000 := by
    rw [ba_size, hs]
    have := swT_len rows (fun r hm => by have := (hr r hm).1; omega) rows.length (Nat.le_refl _)
    show (swT rows rows.length).length ≤ 4000
    omega
  exact parse_ok s all b 4 (toldP rows) y w hL hsz hlen hy hyk ho
theorem fixed_parse (s : ByteArray) (hs : s.data.toList = [119, 104, 101, 110, 32, 100, 115, 116, 32, 61, 32, 49, 59, 32, 112, 111, 114, 116, 32, 58, 61, 32, 50]) (w : World) :
    Calls Tryz.prog 16 #[.string s] w fun e w' => ∃ u, e = .returned (.tuple #[polV (rowP 1 2) u, .int .i64 0, .int .i64 0]) ∧ RdP (fun g => w.heap.size ≤ g) 4 u (rowP 1 2).l w' ∧ Below w.heap.size w w' := by
  obtain ⟨all, hL, hmap⟩ := fixed_lex
  have hlen : all.length = 9 := by
    have e := congrArg List.length hmap
    simpa [tRow] using e
  have hA := At.of hmap
  obtain ⟨y, ey, ky, _, ty⟩ := hA.get 8 (by simp [tRow])
  have ky4 : y.k = 4 := ky
  rw [← hs] at hL
  refine parse_ok s all 8 4 (rowP 1 2) y w hL (by rw [ba_size, hs]; decide) (by omega) (by simpa using ey) ky4 fun q lv hne => parse26 q lv all 0 8 4 _ hne ?_
  have o := pol_row hne (show all.length ≤ 1000 by omega) 0 3 1 2 (4, 0, []) (by unfold Ends; decide) hA
  refine one27 q lv all 0 8 4 (rowP 1 2) hne (by omega) o ⟨rfl, y, by simpa using ey, ?_⟩
  rw [ky4]
  rfl
theorem bad_parse (s : ByteArray) (hs : s.data.toList = badL) (w : World) : Ret 16 #[.string s] (.tuple #[.agg zero55, .int .i64 8, .int .i64 10]) w := by
  have hL := bad_lex
  rw [← hs] at hL
  exact parse_no s badT 8 w hL (by rw [ba_size, hs]; decide) (by decide) (by decide) fun q lv hne => bad_pan q lv hne
end Go.Proofs.YtekfkieimdgfkaaGreat
