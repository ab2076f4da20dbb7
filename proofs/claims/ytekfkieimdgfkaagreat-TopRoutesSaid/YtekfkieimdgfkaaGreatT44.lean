/- What is proved here: which tokens the text of routes has. Condition: at most four switches, one or two hosts, ports of one digit. -/
import Derived.Test.YtekfkieimdgfkaaGreatT38
namespace Go.Proofs.YtekfkieimdgfkaaGreat
open Go Go.RowKit
/-- A token without its place. -/
abbrev Tw := Int × Int × List UInt8
def tkS (x : Tk) : Tw := (x.k, x.n, x.t)
/-- The tokens of a text, without their places and the end's. -/
inductive LexS : List UInt8 → List Tw → Prop
  | stop (l : List UInt8) (h : l.dropWhile spaceP = []) : LexS l []
  | tok (l : List UInt8) (k n : Int) (t : List UInt8) (m : Nat) (ts : List Tw) (hn : TokN (l.dropWhile spaceP) k n t m) (hm : m ≤ (l.dropWhile spaceP).length) (h : LexS ((l.dropWhile spaceP).drop m) ts) : LexS l ((k, n, t) :: ts)
theorem drop_tw {α : Type} (p : α → Bool) : ∀ l : List α, l.drop (l.takeWhile p).length = l.dropWhile p
  | [] => rfl
  | x :: l => by
    rw [List.takeWhile_cons, List.dropWhile_cons]
    split
    · simpa using drop_tw p l
    · rfl
theorem after_drop (L : List UInt8) (a : Nat) : L.drop (afterSp L a) = (L.drop a).dropWhile spaceP := by
  unfold afterSp
  rw [← List.drop_drop, drop_tw]
theorem LexS.toR {L l : List UInt8} {ts : List Tw} (h : LexS l ts) : ∀ a, a ≤ L.length → L.drop a = l → ∃ all, LexR L a all ∧ all.map tkS = ts ++ [(4, 0, [])] := by
  induction h with
  | stop l h =>
    intro a ha hl
    refine ⟨_, .stop a ?_, rfl⟩
    have e := after_drop L a
    rw [hl, h] at e
    have h1 := afterSp_le L a ha
    have h2 := congrArg List.length e
    rw [List.length_drop] at h2
    simp at h2
    omega
  | tok l k n t m ts hn hm h ih =>
    intro a ha hl
    have e := after_drop L a
    rw [hl] at e
    have h1 := afterSp_le L a ha
    have h2 := congrArg List.length e
    rw [List.length_drop] at h2
    obtain ⟨all, hr, hmap⟩ := ih (afterSp L a + m) (by omega) (by rw [← e, List.drop_drop])
    exact ⟨_, .tok a k n t m all (by rw [e]; exact hn) (by omega) hr, by rw [List.map_cons, hmap]; rfl⟩
theorem dig_ok (x : Int) (h0 : 0 ≤ x) (h1 : x ≤ 9) : letterP (dig x) = false ∧ digitP (dig x) = true ∧ spaceP (dig x) = false ∧ dig x ≠ 35 ∧ 48 ≤ (dig x).toNat ∧ (dig x).toNat ≤ 57 ∧ ((dig x).toNat : Int) - 48 = x := by
  rcases (by omega : x = 0 ∨ x = 1 ∨ x = 2 ∨ x = 3 ∨ x = 4 ∨ x = 5 ∨ x = 6 ∨ x = 7 ∨ x = 8 ∨ x = 9) with rfl | rfl | rfl | rfl | rfl | rfl | rfl | rfl | rfl | rfl <;> decide
/-- What does not go on as a number. -/
def noDig : List UInt8 → Prop
  | [] => True
  | c :: _ => digitP c = false
theorem noDig.tw {l : List UInt8} (h : noDig l) : l.takeWhile digitP = [] := by
  cases l with
  | nil => rfl
  | cons c l => rw [List.takeWhile_cons, if_neg (by rw [show digitP c = false from h]; decide)]
/-- Blanks go by. -/
theorem lex_sp (c : UInt8) (hc : spaceP c = true) {l : List UInt8} {ts : List Tw} (h : LexS l ts) : LexS (c :: l) ts := by
  have e : (c :: l).dropWhile spaceP = l.dropWhile spaceP := by rw [List.dropWhile_cons, if_pos hc]
  cases h with
  | stop l h => exact .stop _ (by rw [e]; exact h)
  | tok l k n t m ts hn hm h => exact .tok _ k n t m ts (by rw [e]; exact hn) (by rw [e]; exact hm) (by rw [e]; exact h)
/-- A digit that stands alone. -/
theorem lex_dig (x : Int) (h0 : 0 ≤ x) (h1 : x ≤ 9) {l : List UInt8} {ts : List Tw} (hl : noDig l) (h : LexS l ts) : LexS (dig x :: l) ((2, x, []) :: ts) := by
  obtain ⟨d1, d2, d3, d4, d5, d6, d7⟩ := dig_ok x h0 h1
  have e : (dig x :: l).dropWhile spaceP = dig x :: l := by rw [List.dropWhile_cons, if_neg (by rw [d3]; decide)]
  refine .tok _ 2 x [] 1 ts ?_ (by rw [e]; simp) (by rw [e]; exact h)
  rw [e]
  refine ⟨dig x, l, rfl, d4, .inr (.inl ⟨d1, d2, ?_, d5, d6, rfl, d7.symm, rfl, rfl⟩)⟩
  rw [List.takeWhile_cons, if_pos d2, hl.tw]
/-- A sign of one byte. -/
theorem lex_sign (c : UInt8) (hs : spaceP c = false) (h35 : c ≠ 35) (hl : letterP c = false) (hd : digitP c = false) (hp : ∀ l, Lib.hasPrefix (c :: l) [58, 61] = false) (hi : decide (0 ≤ Lib.indexByte [40, 41, 59, 124, 61] c) = true) {l : List UInt8} {ts : List Tw} (h : LexS l ts) : LexS (c :: l) ((3, 0, [c]) :: ts) := by
  have e : (c :: l).dropWhile spaceP = c :: l := by rw [List.dropWhile_cons, if_neg (by rw [hs]; decide)]
  refine .tok _ 3 0 [c] 1 ts ?_ (by rw [e]; simp) (by rw [e]; exact h)
  rw [e]
  exact ⟨c, l, rfl, h35, .inr (.inr (.inr ⟨hl, hd, hp l, hi, rfl, rfl, rfl, rfl⟩))⟩
theorem lex_assign {l : List UInt8} {ts : List Tw} (h : LexS l ts) : LexS (58 :: 61 :: l) ((3, 0, [58, 61]) :: ts) := by
  have e : (58 :: 61 :: l).dropWhile spaceP = 58 :: 61 :: l := by rw [List.dropWhile_cons, if_neg (by decide)]
  refine .tok _ 3 0 [58, 61] 2 ts ?_ (by rw [e]; simp) (by rw [e]; exact h)
  rw [e]
  exact ⟨58, 61 :: l, rfl, by decide, .inr (.inr (.inl ⟨by decide, by decide, by simp [Lib.hasPrefix], rfl, rfl, rfl, rfl⟩))⟩
/-- A word, with a byte behind it that is no letter. -/
theorem lex_word (w : List UInt8) (c : UInt8) (hw : w.all letterP = true) (h0 : w ≠ []) (hs : ∀ x ∈ w, spaceP x = false ∧ x ≠ 35) (hc : letterP c = false) {l : List UInt8} {ts : List Tw} (h : LexS (c :: l) ts) : LexS (w ++ c :: l) ((1, 0, w) :: ts) := by
  have tw : ∀ w : List UInt8, w.all letterP = true → (w ++ c :: l).takeWhile letterP = w := by
    intro w
    induction w with
    | nil => intro _; rw [List.nil_append, List.takeWhile_cons, if_neg (by rw [hc]; decide)]
    | cons x w ih =>
      intro hw
      rw [List.all_cons, Bool.and_eq_true] at hw
      rw [List.cons_append, List.takeWhile_cons, if_pos hw.1, ih hw.2]
  obtain ⟨x, w', rfl⟩ : ∃ x w', w = x :: w' := by
    cases w with
    | nil => exact absurd rfl h0
    | cons x w' => exact ⟨x, w', rfl⟩
  have hx := hs x (by simp)
  have e : ((x :: w') ++ c :: l).dropWhile spaceP = (x :: w') ++ c :: l := by rw [List.cons_append, List.dropWhile_cons, if_neg (by rw [hx.1]; decide)]
  refine .tok _ 1 0 (x :: w') (x :: w').length ts ?_ (by rw [e]; simp) (by rw [e, List.drop_left]; exact h)
  rw [e]
  refine ⟨x, w' ++ c :: l, rfl, hx.2, .inl ⟨?_, rfl, rfl, (tw _ hw).symm, rfl⟩⟩
  rw [List.all_cons, Bool.and_eq_true] at hw
  exact hw.1
def wWhen : List UInt8 := [119, 104, 101, 110]
def wSwitch : List UInt8 := [115, 119, 105, 116, 99, 104]
def wDst : List UInt8 := [100, 115, 116]
def wPort : List UInt8 := [112, 111, 114, 116]
/-- The tokens of a switch's head, of a host's part, and of the ends. -/
def tSw (i : Int) : List Tw := [(3, 0, [40]), (1, 0, wWhen), (1, 0, wSwitch), (3, 0, [61]), (2, i, []), (3, 0, [59]), (3, 0, [40])]
def tRow (h p : Int) : List Tw := [(1, 0, wWhen), (1, 0, wDst), (3, 0, [61]), (2, h, []), (3, 0, [59]), (1, 0, wPort), (3, 0, [58, 61]), (2, p, [])]
def tBar : List Tw := [(3, 0, [124])]
def tEnd : List Tw := [(3, 0, [41]), (3, 0, [41])]
theorem lex_tSw (i : Int) (h0 : 0 ≤ i) (h1 : i ≤ 9) {l : List UInt8} {ts : List Tw} (h : LexS l ts) : LexS (sWhenSw ++ ([dig i] ++ (sOpen ++ l))) (tSw i ++ ts) := by
  refine lex_sign 40 (by decide) (by decide) (by decide) (by decide) (fun l => by simp [Lib.hasPrefix, List.isPrefixOf]) (by decide) ?_
  refine lex_word wWhen 32 (by decide) (by decide) (by decide) (by decide) ?_
  refine lex_sp 32 (by decide) ?_
  refine lex_word wSwitch 32 (by decide) (by decide) (by decide) (by decide) ?_
  refine lex_sp 32 (by decide) ?_
  refine lex_sign 61 (by decide) (by decide) (by decide) (by decide) (fun l => by simp [Lib.hasPrefix, List.isPrefixOf]) (by decide) ?_
  refine lex_sp 32 (by decide) ?_
  refine lex_dig i h0 h1 (show digitP 59 = false by decide) ?_
  refine lex_sign 59 (by decide) (by decide) (by decide) (by decide) (fun l => by simp [Lib.hasPrefix, List.isPrefixOf]) (by decide) ?_
  refine lex_sp 32 (by decide) ?_
  exact lex_sign 40 (by decide) (by decide) (by decide) (by decide) (fun l => by simp [Lib.hasPrefix, List.isPrefixOf]) (by decide) h
theorem lex_tRow (k p : Int) (h0 : 0 ≤ k) (h1 : k ≤ 9) (p0 : 0 ≤ p) (p1 : p ≤ 9) {l : List UInt8} {ts : List Tw} (hl : noDig l) (h : LexS l ts) : LexS (sWhenDst ++ ([dig k] ++ (sPort ++ ([dig p] ++ l)))) (tRow k p ++ ts) := by
  refine lex_word wWhen 32 (by decide) (by decide) (by decide) (by decide) ?_
  refine lex_sp 32 (by decide) ?_
  refine lex_word wDst 32 (by decide) (by decide) (by decide) (by decide) ?_
  refine lex_sp 32 (by decide) ?_
  refine lex_sign 61 (by decide) (by decide) (by decide) (by decide) (fun l => by simp [Lib.hasPrefix, List.isPrefixOf]) (by decide) ?_
  refine lex_sp 32 (by decide) ?_
  refine lex_dig k h0 h1 (show digitP 59 = false by decide) ?_
  refine lex_sign 59 (by decide) (by decide) (by decide) (by decide) (fun l => by simp [Lib.hasPrefix, List.isPrefixOf]) (by decide) ?_
  refine lex_sp 32 (by decide) ?_
  refine lex_word wPort 32 (by decide) (by decide) (by decide) (by decide) ?_
  refine lex_sp 32 (by decide) ?_
  refine lex_assign ?_
  refine lex_sp 32 (by decide) ?_
  exact lex_dig p p0 p1 hl h
theorem lex_tBar {l : List UInt8} {ts : List Tw} (h : LexS l ts) : LexS (sBar ++ l) (tBar ++ ts) := by
  refine lex_sp 32 (by decide) ?_
  refine lex_sign 124 (by decide) (by decide) (by decide) (by decide) (fun l => by simp [Lib.hasPrefix, List.isPrefixOf]) (by decide) ?_
  exact lex_sp 32 (by decide) h
theorem lex_tEnd {l : List UInt8} {ts : List Tw} (h : LexS l ts) : LexS (sEnd ++ l) (tEnd ++ ts) := by
  refine lex_sign 41 (by decide) (by decide) (by decide) (by decide) (fun l => by simp [Lib.hasPrefix, List.isPrefixOf]) (by decide) ?_
  exact lex_sign 41 (by decide) (by decide) (by decide) (by decide) (fun l => by simp [Lib.hasPrefix, List.isPrefixOf]) (by decide) h
/-! The whole text. -/
def tRows : List Int → List Tw
  | [p] => tRow 0 p
  | [p, q] => tRow 0 p ++ (tBar ++ tRow 1 q)
  | _ => []
/-- Of these switches, from the i-th on, where more stand ahead or not. -/
def tTold : Nat → List (List Int) → List Tw
  | _, [] => []
  | i, r :: rs => (if 0 < i then tBar else []) ++ (tSw (i : Int) ++ (tRows r ++ (tEnd ++ tTold (i + 1) rs)))
/-- The text of these switches, from the i-th on. -/
def uTold : Nat → List (List Int) → List UInt8
  | _, [] => []
  | i, r :: rs => (if 0 < i then sBar else []) ++ (sWhenSw ++ ([dig (i : Int)] ++ (sOpen ++ (rowT r r.length ++ (sEnd ++ uTold (i + 1) rs)))))
theorem swT_u (all : List (List Int)) : ∀ (rs : List (List Int)) (i : Nat), (∀ j (h : j < rs.length), all.getD (i + j) [] = rs[j]) → swT all i ++ uTold i rs = swT all (i + rs.length) := by
  intro rs
  induction rs with
  | nil => intro i _; simp [uTold]
  | cons r rs ih =>
    intro i h
    have h0 := h 0 (by simp)
    simp only [Nat.add_zero, List.getElem_cons_zero] at h0
    have e := ih (i + 1) fun j hj => by
      have := h (j + 1) (by simpa using hj)
      rw [show i + (j + 1) = i + 1 + j by omega] at this
      simpa using this
    rw [List.length_cons, show i + (rs.length + 1) = i + 1 + rs.length by omega, ← e]
    conv => lhs; unfold uTold
    conv => rhs; rw [show swT all (i + 1) = swT all i ++ ((if 0 < i then sBar else []) ++ (sWhenSw ++ ([dig (i : Int)] ++ (sOpen ++ (rowT (all.getD i []) (all.getD i []).length ++ sEnd))))) from rfl]
    rw [h0]
    simp only [List.append_assoc]
theorem toldL_u (rows : List (List Int)) : toldL rows = uTold 0 rows := by
  have := swT_u rows rows 0 fun j hj => by rw [Nat.zero_add, List.getD_eq_getElem?_getD, List.getElem?_eq_getElem hj]; rfl
  unfold toldL
  rw [Nat.zero_add] at this
  rw [← this]
  rfl
theorem lex_rows (r : List Int) (hr : r.length = 1 ∨ r.length = 2) (hx : ∀ x ∈ r, 0 ≤ x ∧ x ≤ 7) {l : List UInt8} {ts : List Tw} (hl : noDig l) (h : LexS l ts) : LexS (rowT r r.length ++ l) (tRows r ++ ts) := by
  match r, hr, hx with
  | [p], _, hx =>
    have hp := hx p (by simp)
    have e : rowT [p] [p].length ++ l = sWhenDst ++ ([dig 0] ++ (sPort ++ ([dig p] ++ l))) := by
      show (([] ++ ([] ++ (sWhenDst ++ ([dig 0] ++ (sPort ++ [dig p]))))) ++ l) = _
      simp only [List.nil_append, List.append_assoc]
    rw [e]
    exact lex_tRow 0 p (by omega) (by omega) hp.1 (by omega) hl h
  | [p, q], _, hx =>
    have hp := hx p (by simp)
    have hq := hx q (by simp)
    have e : rowT [p, q] [p, q].length ++ l = sWhenDst ++ ([dig 0] ++ (sPort ++ ([dig p] ++ (sBar ++ (sWhenDst ++ ([dig 1] ++ (sPort ++ ([dig q] ++ l)))))))) := by
      show (([] ++ ([] ++ (sWhenDst ++ ([dig 0] ++ (sPort ++ [dig p]))))) ++ (sBar ++ (sWhenDst ++ ([dig 1] ++ (sPort ++ [dig q]))))) ++ l = _
      simp only [List.nil_append, List.append_assoc]
    rw [e]
    have e2 : tRows [p, q] ++ ts = tRow 0 p ++ (tBar ++ (tRow 1 q ++ ts)) := by simp only [tRows, List.append_assoc]
    rw [e2]
    exact lex_tRow 0 p (by omega) (by omega) hp.1 (by omega) (show digitP 32 = false by decide) (lex_tBar (lex_tRow 1 q (by omega) (by omega) hq.1 (by omega) hl h))
theorem lex_told : ∀ (rs : List (List Int)) (i : Nat), i + rs.length ≤ 9 → (∀ r ∈ rs, (r.length = 1 ∨ r.length = 2) ∧ ∀ x ∈ r, 0 ≤ x ∧ x ≤ 7) → LexS (uTold i rs) (tTold i rs) := by
  intro rs
  induction rs with
  | nil => intro i _ _; exact .stop _ rfl
  | cons r rs ih =>
    intro i hi hr
    simp only [List.length_cons] at hi
    have h1 := ih (i + 1) (by omega) fun x hx => hr x (by simp [hx])
    have h2 := hr r (by simp)
    have hnd : noDig (sEnd ++ uTold (i + 1) rs) := show digitP 41 = false by decide
    have h3 := lex_tSw (i : Int) (by omega) (by omega) (lex_rows r h2.1 h2.2 hnd (lex_tEnd h1))
    show LexS ((if 0 < i then sBar else []) ++ (sWhenSw ++ ([dig (i : Int)] ++ (sOpen ++ (rowT r r.length ++ (sEnd ++ uTold (i + 1) rs)))))) ((if 0 < i then tBar else []) ++ (tSw (i : Int) ++ (tRows r ++ (tEnd ++ tTold (i + 1) rs))))
    by_cases h0 : 0 < i
    · rw [if_pos h0, if_pos h0]
      exact lex_tBar h3
    · rw [if_neg h0, if_neg h0]
      exact h3
/-- The text of routes, read. -/
theorem told_lex (rows : List (List Int)) (hn : rows.length ≤ 4) (hr : ∀ r ∈ rows, (r.length = 1 ∨ r.length = 2) ∧ ∀ x ∈ r, 0 ≤ x ∧ x ≤ 7) : ∃ all, LexR (toldL rows) 0 all ∧ all.map tkS = tTold 0 rows ++ [(4, 0, [])] := by
  have h := lex_told rows 0 (by omega) hr
  rw [toldL_u]
  exact h.toR 0 (Nat.zero_le _) rfl
/-- compiles' two texts, read. -/
theorem fixed_lex : ∃ all, LexR [119, 104, 101, 110, 32, 100, 115, 116, 32, 61, 32, 49, 59, 32, 112, 111, 114, 116, 32, 58, 61, 32, 50] 0 all ∧ all.map tkS = tRow 1 2 ++ [(4, 0, [])] := by
  have h : LexS (sWhenDst ++ ([dig 1] ++ (sPort ++ ([dig 2] ++ [])))) (tRow 1 2 ++ []) := lex_tRow 1 2 (by omega) (by omega) (by omega) (by omega) trivial (.stop [] rfl)
  exact h.toR 0 (Nat.zero_le _) rfl
def tBad : List Tw := [(1, 0, wWhen), (1, 0, wDst), (3, 0, [59]), (1, 0, wPort), (3, 0, [58, 61]), (2, 2, [])]
end Go.Proofs.YtekfkieimdgfkaaGreat
