/- What is proved here: routes as a policy, and what is left of it at a switch. Condition: one or two hosts. -/
import Derived.Test.YtekfkieimdgfkaaGreatT15
import Derived.Test.YtekfkieimdgfkaaGreatT23
import Derived.Test.YtekfkieimdgfkaaGreatT29
namespace Go.Proofs.YtekfkieimdgfkaaGreat
open Go Go.RowKit
def fltP (f v : Int) : Pol := .mk 1 3 f v 0 0 []
def setP (p : Int) : Pol := .mk 2 0 0 0 4 p []
def rowP (h p : Int) : Pol := .mk 3 0 0 0 0 0 [fltP 1 h, setP p]
def innP : List Int → Pol
  | [p] => rowP 0 p
  | [p, q] => .mk 4 0 0 0 0 0 [rowP 0 p, rowP 1 q]
  | _ => setP 0
def swP (i : Int) (r : List Int) : Pol := .mk 3 0 0 0 0 0 [fltP 5 i, innP r]
def swsP : Int → List (List Int) → List Pol
  | _, [] => []
  | i, r :: rs => swP i r :: swsP (i + 1) rs
/-- Routes as a policy. -/
def toldP : List (List Int) → Pol
  | [r] => swP 0 r
  | rows => .mk 4 0 0 0 0 0 (swsP 0 rows)
/-- A row's part, cut at switch sw. -/
def swC (sw i : Int) (r : List Int) : Pol := .mk 3 0 0 0 0 0 [.mk 1 (truthK (i == sw)) 0 0 0 0 [], innP r]
def swsC (sw : Int) : Int → List (List Int) → List Pol
  | _, [] => []
  | i, r :: rs => swC sw i r :: swsC sw (i + 1) rs
def toldC (sw : Int) : List (List Int) → Pol
  | [r] => swC sw 0 r
  | rows => .mk 4 0 0 0 0 0 (swsC sw 0 rows)
/-- A row of one or two ports. -/
def RowOk (h : Nat) (r : List Int) : Prop := r.length = h ∧ ∀ x ∈ r, 0 ≤ x ∧ x ≤ 7
theorem RowOk.cases {h : Nat} {r : List Int} (hr : RowOk h r) (h1 : 1 ≤ h) (h2 : h ≤ 2) : (∃ p, h = 1 ∧ r = [p] ∧ 0 ≤ p ∧ p ≤ 7) ∨ ∃ p q, h = 2 ∧ r = [p, q] ∧ 0 ≤ p ∧ p ≤ 7 ∧ 0 ≤ q ∧ q ≤ 7 := by
  obtain ⟨hl, hx⟩ := hr
  match r, hl, hx with
  | [], hl, _ => simp at hl; omega
  | [p], hl, hx => exact .inl ⟨p, by simpa using hl.symm, rfl, hx p (by simp)⟩
  | [p, q], hl, hx => exact .inr ⟨p, q, by simpa using hl.symm, rfl, (hx p (by simp)).1, (hx p (by simp)).2, hx q (by simp)⟩
  | _ :: _ :: _ :: _, hl, _ => simp at hl; omega
theorem at_flt1 (sw : Int) (d : Nat) (h : Int) : atF sw d (fltP 1 h) = fltP 1 h := by
  cases d <;> simp [atF, atX, cutX, cutF, fltP, Pol.k, Pol.pk, Pol.pf, Pol.pn, Pol.f, Pol.v, Pol.l]
theorem at_flt5 (sw : Int) (d : Nat) (i : Int) : atF sw d (fltP 5 i) = .mk 1 (truthK (i == sw)) 0 0 0 0 [] := by
  cases d <;> simp [atF, atX, cutX, cutF, fltP, Pol.k, Pol.pk, Pol.pf, Pol.pn, Pol.f, Pol.v, Pol.l]
theorem at_set (sw : Int) (d : Nat) (p : Int) : atF sw d (setP p) = setP p := by
  cases d <;> simp [atF, atX, cutX, setP, Pol.k, Pol.f, Pol.v, Pol.l]
theorem at_row (sw : Int) (d : Nat) (h p : Int) : atF sw (d + 1) (rowP h p) = rowP h p := by
  simp [atF, atX, cutX, rowP, Pol.k, Pol.f, Pol.v, Pol.l, at_flt1, at_set]
theorem at_inn (sw : Int) (d h : Nat) (r : List Int) (hr : RowOk h r) (h1 : 1 ≤ h) (h2 : h ≤ 2) : atF sw (d + 2) (innP r) = innP r := by
  rcases hr.cases h1 h2 with ⟨p, _, rfl, _⟩ | ⟨p, q, _, rfl, _⟩
  · exact at_row sw (d + 1) 0 p
  · unfold innP
    unfold atF
    simp [atX, cutX, Pol.k, Pol.f, Pol.v, Pol.l, at_row]
theorem at_sw (sw : Int) (d h : Nat) (i : Int) (r : List Int) (hr : RowOk h r) (h1 : 1 ≤ h) (h2 : h ≤ 2) : atF sw (d + 3) (swP i r) = swC sw i r := by
  unfold swP swC atF
  simp [atX, cutX, Pol.k, Pol.f, Pol.v, Pol.l, at_flt5, at_inn sw d h r hr h1 h2]
theorem at_sws (sw : Int) (d h : Nat) (h1 : 1 ≤ h) (h2 : h ≤ 2) : ∀ (rows : List (List Int)) (i : Int), (∀ r ∈ rows, RowOk h r) → (swsP i rows).map (atF sw (d + 3)) = swsC sw i rows := by
  intro rows
  induction rows with
  | nil => intro i _; rfl
  | cons r rs ih =>
    intro i hr
    unfold swsP swsC
    rw [List.map_cons, at_sw sw d h i r (hr r (by simp)) h1 h2, ih (i + 1) fun x hx => hr x (by simp [hx])]
theorem at_told (sw : Int) (h : Nat) (h1 : 1 ≤ h) (h2 : h ≤ 2) (rows : List (List Int)) (hr : ∀ r ∈ rows, RowOk h r) : atF sw 4 (toldP rows) = toldC sw rows := by
  match rows, hr with
  | [], _ => rfl
  | [r], hr => exact at_sw sw 1 h 0 r (hr r (by simp)) h1 h2
  | r :: s :: rs, hr =>
    show atX sw _ ((swsP 0 (r :: s :: rs)).map (atF sw 3)) = _
    rw [at_sws sw 0 h h1 h2 _ 0 hr]
    rfl
/-- What comes of a packet at a switch with this row. -/
def outF (r : List Int) (k : Sn) : List Sn := match r with
  | [p] => if k.2.2.1 = 0 then [(p, k.2)] else []
  | [p, q] => if k.2.2.1 = 0 then [(p, k.2)] else if k.2.2.1 = 1 then [(q, k.2)] else []
  | _ => []
theorem sem_leaf (sw : Int) (d : Nat) (x : Pol) (k : Sn) (h3 : x.k ≠ 3) (h4 : x.k ≠ 4) : semL sw d x k = leafL sw x k := by
  cases d
  · rfl
  · unfold semL
    rw [if_neg h4, if_neg h3]
theorem sem_flt (sw : Int) (d : Nat) (h : Int) (k : Sn) : semL sw d (fltP 1 h) k = if k.2.2.1 = h then [k] else [] := by
  rw [sem_leaf sw d _ k (by show (1 : Int) ≠ 3; decide) (by show (1 : Int) ≠ 4; decide)]
  simp [leafL, fltP, Pol.k, Pol.pk, Pol.pf, Pol.pn, hitF, getF]
theorem sem_tru (sw : Int) (d : Nat) (b : Bool) (k : Sn) : semL sw d (.mk 1 (truthK b) 0 0 0 0 []) k = if b = true then [k] else [] := by
  rw [sem_leaf sw d _ k (by show (1 : Int) ≠ 3; decide) (by show (1 : Int) ≠ 4; decide)]
  cases b <;> simp [leafL, Pol.k, Pol.pk, hitF, truthK]
theorem sem_set (sw : Int) (d : Nat) (p : Int) (k : Sn) : semL sw d (setP p) k = [(p, k.2)] := by
  rw [sem_leaf sw d _ k (by show (2 : Int) ≠ 3; decide) (by show (2 : Int) ≠ 4; decide)]
  simp [leafL, setP, Pol.k, Pol.v]
theorem sem_seq (sw : Int) (d : Nat) (a b : Pol) (k : Sn) : semL sw (d + 1) (.mk 3 0 0 0 0 0 [a, b]) k = (semL sw d a k).flatMap (semL sw d b) := by
  simp [semL, Pol.k, Pol.l, accL]
theorem sem_uni (sw : Int) (d : Nat) (l : List Pol) (k : Sn) : semL sw (d + 1) (.mk 4 0 0 0 0 0 l) k = l.flatMap fun y => semL sw d y k := by
  simp [semL, Pol.k, Pol.l]
theorem sem_row (sw : Int) (d : Nat) (h p : Int) (k : Sn) : semL sw (d + 1) (rowP h p) k = if k.2.2.1 = h then [(p, k.2)] else [] := by
  unfold rowP
  rw [sem_seq, sem_flt]
  split <;> simp [sem_set]
theorem sem_inn (sw : Int) (d h : Nat) (r : List Int) (k : Sn) (hr : RowOk h r) (h1 : 1 ≤ h) (h2 : h ≤ 2) : semL sw (d + 2) (innP r) k = outF r k := by
  rcases hr.cases h1 h2 with ⟨p, _, rfl, _⟩ | ⟨p, q, _, rfl, _⟩
  · exact sem_row sw (d + 1) 0 p k
  · unfold innP outF
    rw [sem_uni]
    simp only [List.flatMap_cons, List.flatMap_nil, sem_row, List.append_nil]
    by_cases h0 : k.2.2.1 = 0
    · rw [if_pos h0, if_neg (by omega), if_pos h0]; rfl
    · rw [if_neg h0, if_neg h0]; rfl
theorem sem_sw (sw : Int) (d h : Nat) (i : Int) (r : List Int) (k : Sn) (hr : RowOk h r) (h1 : 1 ≤ h) (h2 : h ≤ 2) : semL sw (d + 3) (swC sw i r) k = if i = sw then outF r k else [] := by
  unfold swC
  rw [sem_seq, sem_tru]
  by_cases e : i = sw
  · rw [if_pos e, if_pos (by simpa using e)]
    simp [sem_inn sw d h r k hr h1 h2]
  · rw [if_neg e, if_neg (by simpa using e)]
    rfl
theorem sem_sws (sw : Int) (d h : Nat) (k : Sn) (h1 : 1 ≤ h) (h2 : h ≤ 2) : ∀ (rows : List (List Int)) (i : Int), (∀ r ∈ rows, RowOk h r) → 0 ≤ i →
    ((swsC sw i rows).flatMap fun y => semL sw (d + 3) y k) = if i ≤ sw then outF (rows.getD (sw - i).toNat []) k else [] := by
  intro rows
  induction rows with
  | nil => intro i _ _; split <;> rfl
  | cons r rs ih =>
    intro i hr h0
    unfold swsC
    rw [List.flatMap_cons, sem_sw sw d h i r k (hr r (by simp)) h1 h2, ih (i + 1) (fun x hx => hr x (by simp [hx])) (by omega)]
    by_cases e : i = sw
    · subst e
      rw [if_pos rfl, if_neg (by omega), if_pos (by omega), Int.sub_self]
      simp
    · rw [if_neg e, List.nil_append]
      by_cases e2 : i + 1 ≤ sw
      · rw [if_pos e2, if_pos (by omega)]
        have : (sw - i).toNat = (sw - (i + 1)).toNat + 1 := by omega
        rw [this, List.getD_cons_succ]
      · rw [if_neg e2, if_neg (by omega)]
theorem sem_told (sw : Int) (h : Nat) (k : Sn) (h1 : 1 ≤ h) (h2 : h ≤ 2) (rows : List (List Int)) (hr : ∀ r ∈ rows, RowOk h r) (h0 : 0 ≤ sw) (hs : sw < rows.length) : semL sw 4 (toldC sw rows) k = outF (rows.getD sw.toNat []) k := by
  match rows, hr, hs with
  | [], _, hs => simp at hs; omega
  | [r], hr, hs =>
    simp at hs
    obtain rfl : sw = 0 := by omega
    show semL 0 4 (swC 0 0 r) k = _
    rw [sem_sw 0 1 h 0 r k (hr r (by simp)) h1 h2]
    rfl
  | r :: s :: rs, hr, hs =>
    show semL sw 4 (.mk 4 0 0 0 0 0 (swsC sw 0 (r :: s :: rs))) k = _
    rw [sem_uni, sem_sws sw 0 h k h1 h2 _ 0 hr (Int.le_refl _), if_pos h0, Int.sub_zero]
theorem out_len (r : List Int) (k : Sn) : (outF r k).length ≤ 1 := by
  unfold outF
  split
  · split <;> simp
  · split
    · simp
    · split <;> simp
  · simp
/-! At most one packet comes of each step. -/
theorem one_leaf (sw : Int) (d : Nat) (x : Pol) (k : Sn) (h3 : x.k ≠ 3) (h4 : x.k ≠ 4) : OneOk sw d x k := by
  cases d
  · exact trivial
  · exact ⟨fun h => absurd h h4, fun h => absurd h h3⟩
theorem one_seq (sw : Int) (d : Nat) (a b : Pol) (k : Sn) (ha : OneOk sw d a k) (hl : (semL sw d a k).length ≤ 1) (hb : ∀ t ∈ semL sw d a k, OneOk sw d b t) (hl2 : ((semL sw d a k).flatMap (semL sw d b)).length ≤ 1) : OneOk sw (d + 1) (.mk 3 0 0 0 0 0 [a, b]) k := by
  refine ⟨fun h => absurd h (by show (3 : Int) ≠ 4; decide), fun _ => ⟨fun j hj => ?_, fun j hj t ht => ?_⟩⟩
  · have hj2 : j ≤ 2 := hj
    rcases (by omega : j = 0 ∨ j = 1 ∨ j = 2) with rfl | rfl | rfl
    · simp [Pol.l, accL]
    · simpa [Pol.l, accL] using hl
    · simpa [Pol.l, accL] using hl2
  · have hj2 : j < 2 := hj
    rcases (by omega : j = 0 ∨ j = 1) with rfl | rfl
    · simp [Pol.l, accL] at ht
      subst ht
      exact ha
    · simp [Pol.l, accL] at ht
      exact hb t ht
theorem one_uni (sw : Int) (d : Nat) (l : List Pol) (k : Sn) (h : ∀ y ∈ l, OneOk sw d y k) : OneOk sw (d + 1) (.mk 4 0 0 0 0 0 l) k :=
  ⟨fun _ => h, fun h => absurd h (by show (4 : Int) ≠ 3; decide)⟩
theorem one_row (sw : Int) (d : Nat) (h p : Int) (k : Sn) : OneOk sw (d + 1) (rowP h p) k :=
  one_seq sw d _ _ k (one_leaf sw d _ k (by show (1 : Int) ≠ 3; decide) (by show (1 : Int) ≠ 4; decide)) (by rw [sem_flt]; split <;> simp) (fun t _ => one_leaf sw d _ t (by show (2 : Int) ≠ 3; decide) (by show (2 : Int) ≠ 4; decide)) (by rw [sem_flt]; split <;> simp [sem_set])
theorem one_inn (sw : Int) (d h : Nat) (r : List Int) (k : Sn) (hr : RowOk h r) (h1 : 1 ≤ h) (h2 : h ≤ 2) : OneOk sw (d + 2) (innP r) k := by
  rcases hr.cases h1 h2 with ⟨p, _, rfl, _⟩ | ⟨p, q, _, rfl, _⟩
  · exact one_row sw (d + 1) 0 p k
  · refine one_uni sw (d + 1) _ k fun y hy => ?_
    simp at hy
    rcases hy with rfl | rfl <;> exact one_row sw d _ _ k
theorem one_sw (sw : Int) (d h : Nat) (i : Int) (r : List Int) (k : Sn) (hr : RowOk h r) (h1 : 1 ≤ h) (h2 : h ≤ 2) : OneOk sw (d + 3) (swC sw i r) k := by
  refine one_seq sw (d + 2) _ _ k (one_leaf sw _ _ k (by show (1 : Int) ≠ 3; decide) (by show (1 : Int) ≠ 4; decide)) (by rw [sem_tru]; split <;> simp) (fun t _ => one_inn sw d h r t hr h1 h2) ?_
  have := sem_sw sw d h i r k hr h1 h2
  unfold swC at this
  rw [sem_seq] at this
  rw [this]
  split
  · exact out_len r k
  · simp
theorem swsC_mem {sw : Int} {y : Pol} : ∀ {rows : List (List Int)} {i : Int}, y ∈ swsC sw i rows → ∃ j, ∃ r ∈ rows, y = swC sw j r := by
  intro rows
  induction rows with
  | nil => intro i h; cases h
  | cons r rs ih =>
    intro i h
    rcases List.mem_cons.1 h with rfl | h
    · exact ⟨i, r, by simp, rfl⟩
    · obtain ⟨j, r', h1, h2⟩ := ih h
      exact ⟨j, r', by simp [h1], h2⟩
theorem one_told (sw : Int) (h : Nat) (k : Sn) (h1 : 1 ≤ h) (h2 : h ≤ 2) (rows : List (List Int)) (hr : ∀ r ∈ rows, RowOk h r) : OneOk sw 4 (toldC sw rows) k := by
  match rows, hr with
  | [], _ => exact one_uni sw 3 _ k fun y hy => by cases hy
  | [r], hr => exact one_sw sw 1 h 0 r k (hr r (by simp)) h1 h2
  | r :: s :: rs, hr =>
    refine one_uni sw 3 _ k fun y hy => ?_
    obtain ⟨j, r', hm, rfl⟩ := swsC_mem hy
    exact one_sw sw 0 h j r' k (hr r' hm) h1 h2
end Go.Proofs.YtekfkieimdgfkaaGreat
/- What is proved here: which cases routes have at a switch, and that their rules send what the routes' rules send. Condition: each host has one port. -/
namespace Go.Proofs.YtekfkieimdgfkaaGreat
open Go Go.RowKit
/-- Of each host, its port. -/
abbrev Hp := Int × Int
def outA (hz : List Hp) (k : Sn) : List Sn := match hz.find? (fun a => a.1 == k.2.2.1) with
  | some a => [(a.2, k.2)]
  | none => []
/-- Hosts are told apart, and their ports are numbers. -/
structure HpOk (hz : List Hp) : Prop where
  len : hz.length ≤ 100
  key : ∀ a ∈ hz, hz.find? (fun b => b.1 == a.1) = some a
  pos : ∀ a ∈ hz, 0 ≤ a.1 ∧ a.1 ≤ 255 ∧ 0 ≤ a.2
def caseA (pt : Int) (a : Hp) : Cs := ((pt, -1, a.1, -1, -1), [asCame a.2])
def caseL (hz : List Hp) (pt : Int) : List Cs := hz.map (caseA pt) ++ [((pt, -1, -1, -1, -1), [])]
theorem caseL_len (hz : List Hp) (pt : Int) : (caseL hz pt).length = hz.length + 1 := by simp [caseL]
theorem alike_one (a b : Sn) (x y : List Sn) : alikeF [(a, x)] [(b, y)] = decide (x = y) := by simp [alikeF]
theorem flat_map_one {α β γ : Type} (F : α → List β) (G : γ → β) (p : γ → α) : ∀ l : List γ, (∀ a ∈ l, F (p a) = [G a]) → (l.map p).flatMap F = l.map G := by
  intro l
  induction l with
  | nil => intro _; rfl
  | cons a l ih =>
    intro h
    rw [List.map_cons, List.flatMap_cons, h a (by simp), ih fun x hx => h x (by simp [hx])]
    rfl
section
variable {vs : Int → List Int} {sw : Int} {d : Nat} {x : Pol} {hz : List Hp}
theorem last_of (hsem : ∀ k, semL sw d x k = outA hz k) (hA : HpOk hz) (pt : Int) : lastL sw d x (pt, -1, -1, -1, -1) = [] ∧ ∀ a ∈ hz, lastL sw d x (pt, -1, a.1, -1, -1) = [asCame a.2] := by
  constructor
  · have e : hz.find? (fun a => a.1 == -1) = none := by
      rw [List.find?_eq_none]
      intro a ha
      have := hA.pos a ha
      simp
      omega
    unfold lastL
    rw [hsem]
    unfold outA
    simp only [e]
    rfl
  · intro a ha
    unfold lastL
    rw [hsem]
    unfold outA
    simp only [hA.key a ha]
    simp [cameS, cameF]
theorem cases23 (h2 : vs 2 = []) (h3 : vs 3 = []) (k : Sn) : casesF vs sw d x [2, 3] k = [(k, lastL sw d x k)] := by
  simp [casesF, h2, h3]
theorem cases123 (hsem : ∀ k, semL sw d x k = outA hz k) (hA : HpOk hz) (h1 : vs 1 = hz.map Prod.fst) (h2 : vs 2 = []) (h3 : vs 3 = []) (pt : Int) : casesF vs sw d x [1, 2, 3] (pt, -1, -1, -1, -1) = caseL hz pt := by
  obtain ⟨l0, l1⟩ := last_of (x := x) hsem hA pt
  unfold casesF caseL
  rw [h1, cases23 h2 h3, l0]
  congr 1
  refine flat_map_one _ (caseA pt) Prod.fst hz fun a ha => ?_
  rw [cases23 h2 h3]
  have e : withS (pt, -1, -1, -1, -1) 1 a.1 = (pt, -1, a.1, -1, -1) := by simp [withS]
  rw [e, l1 a ha, alike_one]
  simp [caseA]
theorem cases0123 (hsem : ∀ k, semL sw d x k = outA hz k) (hA : HpOk hz) (h0 : vs 0 = []) (h1 : vs 1 = hz.map Prod.fst) (h2 : vs 2 = []) (h3 : vs 3 = []) (pt : Int) : casesF vs sw d x [0, 1, 2, 3] (pt, -1, -1, -1, -1) = caseL hz pt := by
  rw [← cases123 (vs := vs) hsem hA h1 h2 h3 pt]
  conv => lhs; unfold casesF
  rw [h0]
  rfl
theorem caseL_get (hz : List Hp) (pt : Int) (i : Nat) (h : i < (caseL hz pt).length) : (∃ a ∈ hz, (caseL hz pt)[i] = caseA pt a ∧ hz[i]? = some a) ∨ ((caseL hz pt)[i] = ((pt, -1, -1, -1, -1), []) ∧ i = hz.length) := by
  unfold caseL at h ⊢
  by_cases hi : i < hz.length
  · refine .inl ⟨hz[i], List.getElem_mem hi, ?_, List.getElem?_eq_getElem hi⟩
    rw [List.getElem_append_left (by simpa using hi), List.getElem_map]
  · have e : i = hz.length := by simp at h; omega
    refine .inr ⟨?_, e⟩
    subst e
    simp
theorem alike_pt (hz : List Hp) (p q : Int) : alikeF (caseL hz p) (caseL hz q) = true := by
  unfold alikeF
  rw [List.all_eq_true]
  intro i hi
  rw [List.mem_range] at hi
  have h2 : i < (caseL hz q).length := by rw [caseL_len] at hi ⊢; exact hi
  rw [List.getElem?_eq_getElem hi, List.getElem?_eq_getElem h2]
  rcases caseL_get hz p i hi with ⟨a, _, e, ha⟩ | ⟨e, ha⟩
  · rcases caseL_get hz q i h2 with ⟨b, _, e2, hb⟩ | ⟨e2, hb⟩
    · rw [ha] at hb
      cases hb
      rw [e, e2]
      simp [caseA]
    · subst hb
      simp at ha
  · rcases caseL_get hz q i h2 with ⟨b, _, e2, hb⟩ | ⟨e2, hb⟩
    · subst ha
      simp at hb
    · rw [e, e2]
      simp
theorem cases_all (hsem : ∀ k, semL sw d x k = outA hz k) (hA : HpOk hz) (h0 : vs 0 = []) (h1 : vs 1 = hz.map Prod.fst) (h2 : vs 2 = []) (h3 : vs 3 = []) : casesF vs sw d x [4, 0, 1, 2, 3] unknowns = caseL hz (-1) := by
  conv => lhs; unfold casesF
  rw [cases0123 hsem hA h0 h1 h2 h3]
  have e : ∀ l : List Int, (l.flatMap fun v => if alikeF (casesF vs sw d x [0, 1, 2, 3] (withS unknowns 4 v)) (caseL hz (-1)) = true then [] else casesF vs sw d x [0, 1, 2, 3] (withS unknowns 4 v)) = [] := by
    intro l
    rw [List.flatMap_eq_nil_iff]
    intro v _
    have e2 : withS unknowns 4 v = (v, -1, -1, -1, -1) := by simp [withS]
    rw [e2, cases0123 hsem hA h0 h1 h2 h3, alike_pt]
    rfl
  rw [e]
  rfl
theorem fine_nil (hone : ∀ k, OneOk sw d x k) (hsem : ∀ k, semL sw d x k = outA hz k) (k : Sn) : FineC vs sw d x [] k := by
  refine ⟨hone k, ?_⟩
  rw [hsem]
  unfold outA
  split <;> simp
theorem fine23 (hone : ∀ k, OneOk sw d x k) (hsem : ∀ k, semL sw d x k = outA hz k) (h2 : vs 2 = []) (h3 : vs 3 = []) (k : Sn) : FineC vs sw d x [2, 3] k := by
  have f3 : FineC vs sw d x [3] k := ⟨by omega, by omega, by rw [h3]; simp, by simp [casesF], fine_nil hone hsem k, fun v hv => by rw [h3] at hv; cases hv⟩
  exact ⟨by omega, by omega, by rw [h2]; simp, by simp [casesF, h3], f3, fun v hv => by rw [h2] at hv; cases hv⟩
theorem fine123 (hone : ∀ k, OneOk sw d x k) (hsem : ∀ k, semL sw d x k = outA hz k) (hA : HpOk hz) (h1 : vs 1 = hz.map Prod.fst) (h2 : vs 2 = []) (h3 : vs 3 = []) (pt : Int) : FineC vs sw d x [1, 2, 3] (pt, -1, -1, -1, -1) := by
  obtain ⟨l0, l1⟩ := last_of (x := x) hsem hA pt
  have hl := hA.len
  refine ⟨by omega, by omega, by rw [h1]; simp; omega, by rw [cases23 h2 h3]; simp, fine23 hone hsem h2 h3 _, fun v hv => ⟨fine23 hone hsem h2 h3 _, ?_⟩⟩
  rw [h1] at hv
  obtain ⟨a, ha, rfl⟩ := List.mem_map.1 hv
  rw [cases23 h2 h3, cases23 h2 h3]
  have e : withS (pt, -1, -1, -1, -1) 1 a.1 = (pt, -1, a.1, -1, -1) := by simp [withS]
  rw [e, l0, l1 a ha]
  refine ⟨rfl, by simp, fun i h h' => ?_⟩
  obtain rfl : i = 0 := by simp at h; omega
  simp [withS]
theorem fine0123 (hone : ∀ k, OneOk sw d x k) (hsem : ∀ k, semL sw d x k = outA hz k) (hA : HpOk hz) (h0 : vs 0 = []) (h1 : vs 1 = hz.map Prod.fst) (h2 : vs 2 = []) (h3 : vs 3 = []) (pt : Int) : FineC vs sw d x [0, 1, 2, 3] (pt, -1, -1, -1, -1) := by
  have hl := hA.len
  exact ⟨by omega, by omega, by rw [h0]; simp, by rw [cases123 hsem hA h1 h2 h3, caseL_len]; omega, fine123 hone hsem hA h1 h2 h3 pt, fun v hv => by rw [h0] at hv; cases hv⟩
theorem fine_all (hone : ∀ k, OneOk sw d x k) (hsem : ∀ k, semL sw d x k = outA hz k) (hA : HpOk hz) (h0 : vs 0 = []) (h1 : vs 1 = hz.map Prod.fst) (h2 : vs 2 = []) (h3 : vs 3 = []) (h4 : (vs 4).length ≤ 1000) : FineC vs sw d x [4, 0, 1, 2, 3] unknowns := by
  have hl := hA.len
  refine ⟨by omega, by omega, h4, by rw [cases0123 hsem hA h0 h1 h2 h3, caseL_len]; omega, fine0123 hone hsem hA h0 h1 h2 h3 (-1), fun v hv => ?_⟩
  have e2 : withS unknowns 4 v = (v, -1, -1, -1, -1) := by simp [withS]
  rw [e2]
  refine ⟨fine0123 hone hsem hA h0 h1 h2 h3 v, ?_⟩
  rw [cases0123 hsem hA h0 h1 h2 h3, cases0123 hsem hA h0 h1 h2 h3]
  refine ⟨by rw [caseL_len, caseL_len], by rw [caseL_len]; omega, fun i h h' => ?_⟩
  rcases caseL_get hz v i h with ⟨a, _, e, ha⟩ | ⟨e, ha⟩
  · rcases caseL_get hz (-1) i h' with ⟨b, _, e2, hb⟩ | ⟨e2, hb⟩
    · rw [ha] at hb
      cases hb
      rw [e, e2]
      simp [caseA, withS]
    · subst hb
      simp at ha
  · rcases caseL_get hz (-1) i h' with ⟨b, _, e2, hb⟩ | ⟨e2, hb⟩
    · subst ha
      simp at hb
    · rw [e, e2]
      simp [withS]
end
theorem caseL_ok {hz : List Hp} (hA : HpOk hz) : ∀ c ∈ caseL hz (-1), CaseOk c := by
  intro c hc
  unfold caseL at hc
  rcases List.mem_append.1 hc with h | h
  · obtain ⟨a, ha, rfl⟩ := List.mem_map.1 h
    have := hA.pos a ha
    exact ⟨.inr ⟨a.1, this.1, rfl⟩, .inr ⟨a.2, this.2.2, rfl⟩⟩
  · simp at h
    subst h
    exact ⟨.inl rfl, .inl rfl⟩
/-- What a packet finds. -/
def findA (hz : List Hp) (p : Pk) : List Sn := match hz.find? (fun a => a.1 == p.2.1) with
  | some a => [(a.2, p)]
  | none => []
theorem hit_dst (x : Int) (p : Pk) : hitB (dstM x) p = decide (p.2.1 = x) := by simp [hitB]
theorem hit_any (p : Pk) : hitB anyM p = true := by simp [hitB]
theorem out_rules : ∀ (hz : List Hp) (p : Pk), (∀ a ∈ hz, 0 ≤ a.1) → outL (rulesF (caseL hz (-1))) p = findA hz p := by
  intro hz
  induction hz with
  | nil =>
    intro p _
    simp [caseL, rulesF, outL, findA, askM, hit_any, actsL, sentL]
  | cons a hz ih =>
    intro p h
    have h0 := h a (by simp)
    have ih := ih p fun b hb => h b (by simp [hb])
    have e : rulesF (caseL (a :: hz) (-1)) = (((((caseL hz (-1)).length : Int) + 1), dstM a.1), [(2, 0, a.2)]) :: rulesF (caseL hz (-1)) := by
      show (((((caseL hz (-1)).length : Int) + 1), askM (caseA (-1) a).1), actsL (caseA (-1) a).2) :: rulesF (caseL hz (-1)) = _
      have e2 : askM (caseA (-1) a).1 = dstM a.1 := by
        unfold askM
        rw [if_neg (by show ¬ a.1 < 0; omega)]
        rfl
      rw [e2]
      rfl
    rw [e]
    unfold outL findA at ih ⊢
    rw [List.find?_cons, List.find?_cons, hit_dst]
    by_cases hp : p.2.1 = a.1
    · simp [hp, sentL]
    · have hp2 : ¬ a.1 = p.2.1 := fun h => hp h.symm
      simp only [hp, decide_false, show (a.1 == p.2.1) = false by simpa using hp2]
      exact ih
def hostsA : Nat → List Int → List Hp
  | _, [] => []
  | h, q :: r => ((h : Int), q) :: hostsA (h + 1) r
theorem out_route : ∀ (r : List Int) (h : Nat) (p : Pk), outL (routeF h r) p = findA (hostsA h r) p := by
  intro r
  induction r with
  | nil => intro h p; rfl
  | cons q r ih =>
    intro h p
    have ih := ih (h + 1) p
    unfold routeF hostsA
    unfold outL findA at ih ⊢
    rw [List.find?_cons, List.find?_cons, hit_dst]
    by_cases hp : p.2.1 = (h : Int)
    · simp [hp, sentL]
    · have hp2 : ¬ (h : Int) = p.2.1 := fun h => hp h.symm
      simp only [hp, decide_false, show ((h : Int) == p.2.1) = false by simpa using hp2]
      exact ih
theorem findA_len (hz : List Hp) (p : Pk) : (findA hz p).length ≤ 1 := by
  unfold findA
  split <;> simp
end Go.Proofs.YtekfkieimdgfkaaGreat
/- What is proved here: routes as a policy may be laid into their network. Condition: at most four switches, one or two hosts, ports that are named. -/
namespace Go.Proofs.YtekfkieimdgfkaaGreat
open Go Go.RowKit
theorem outF_A {h : Nat} {r : List Int} (hr : RowOk h r) (h1 : 1 ≤ h) (h2 : h ≤ 2) (k : Sn) : outF r k = outA (hostsA 0 r) k := by
  rcases hr.cases h1 h2 with ⟨p, _, rfl, _⟩ | ⟨p, q, _, rfl, _⟩
  · unfold outF outA hostsA
    simp only [List.find?_cons]
    by_cases h0 : k.2.2.1 = 0
    · simp [h0]
    · have : ((0 : Int) == k.2.2.1) = false := by simpa using fun h => h0 h.symm
      simp [h0, this, hostsA]
  · unfold outF outA hostsA hostsA
    simp only [List.find?_cons]
    by_cases h0 : k.2.2.1 = 0
    · simp [h0]
    · have e0 : ((0 : Int) == k.2.2.1) = false := by simpa using fun h => h0 h.symm
      by_cases h1 : k.2.2.1 = 1
      · simp [h1]
      · have e1 : ((1 : Int) == k.2.2.1) = false := by simpa using fun h => h1 h.symm
        simp [h0, e0, h1, e1, hostsA]
theorem hosts_ok {h : Nat} {r : List Int} (hr : RowOk h r) (h1 : 1 ≤ h) (h2 : h ≤ 2) : HpOk (hostsA 0 r) := by
  rcases hr.cases h1 h2 with ⟨p, _, rfl, hp⟩ | ⟨p, q, _, rfl, hp0, hp1, hq0, hq1⟩
  · refine ⟨by simp [hostsA], fun a ha => ?_, fun a ha => ?_⟩
    · simp [hostsA] at ha
      subst ha
      simp [hostsA]
    · simp [hostsA] at ha
      subst ha
      exact ⟨by simp, by simp, hp.1⟩
  · refine ⟨by simp [hostsA], fun a ha => ?_, fun a ha => ?_⟩
    · simp [hostsA] at ha
      rcases ha with rfl | rfl <;> simp [hostsA]
    · simp [hostsA] at ha
      rcases ha with rfl | rfl
      · exact ⟨by simp, by simp, hp0⟩
      · exact ⟨by simp, by simp, hq0⟩
/-! Which numbers it knows of. -/
def rowV (fl h p : Int) : List Int := (if fl = 1 then [h] else []) ++ (if fl = 4 then [p] else [])
def innV (fl : Int) : List Int → List Int
  | [p] => rowV fl 0 p
  | [p, q] => rowV fl 0 p ++ rowV fl 1 q
  | _ => []
theorem vals_leaf (fl : Int) (d : Nat) (x : Pol) (hl : x.l = []) : valsF fl d x = ownV x fl := by
  cases d
  · rfl
  · unfold valsF
    rw [hl]
    simp
theorem vals_flt (fl : Int) (d : Nat) (f v : Int) : valsF fl d (fltP f v) = if f = fl then [v] else [] := by
  rw [vals_leaf fl d _ rfl]
  simp [ownV, pvals, fltP, Pol.k, Pol.pk, Pol.pf, Pol.pn]
theorem vals_tru (fl : Int) (d : Nat) (b : Bool) : valsF fl d (.mk 1 (truthK b) 0 0 0 0 []) = [] := by
  rw [vals_leaf fl d _ rfl]
  cases b <;> simp [ownV, pvals, truthK, Pol.k, Pol.pk]
theorem vals_set (fl : Int) (d : Nat) (p : Int) : valsF fl d (setP p) = if 4 = fl then [p] else [] := by
  rw [vals_leaf fl d _ rfl]
  simp [ownV, pvals, setP, Pol.k, Pol.pk, Pol.f, Pol.v]
theorem vals_many (fl : Int) (d : Nat) (k : Int) (hk : k = 3 ∨ k = 4) (l : List Pol) : valsF fl (d + 1) (.mk k 0 0 0 0 0 l) = l.flatMap (valsF fl d) := by
  unfold valsF
  rcases hk with rfl | rfl <;> simp [ownV, pvals, Pol.k, Pol.pk, Pol.l]
theorem vals_row (fl : Int) (d : Nat) (h p : Int) : valsF fl (d + 1) (rowP h p) = rowV fl h p := by
  unfold rowP rowV
  rw [vals_many fl d 3 (.inl rfl)]
  simp only [List.flatMap_cons, List.flatMap_nil, vals_flt, vals_set, List.append_nil]
  by_cases h1 : fl = 1
  · subst h1; simp
  · by_cases h4 : fl = 4
    · subst h4; simp
    · simp [h1, h4, show ¬ (1 : Int) = fl from fun h => h1 h.symm, show ¬ (4 : Int) = fl from fun h => h4 h.symm]
theorem vals_inn (fl : Int) (d h : Nat) (r : List Int) (hr : RowOk h r) (h1 : 1 ≤ h) (h2 : h ≤ 2) : valsF fl (d + 2) (innP r) = innV fl r := by
  rcases hr.cases h1 h2 with ⟨p, _, rfl, _⟩ | ⟨p, q, _, rfl, _⟩
  · exact vals_row fl (d + 1) 0 p
  · unfold innP innV
    rw [vals_many fl (d + 1) 4 (.inr rfl)]
    simp [vals_row]
theorem vals_sw (fl : Int) (d h : Nat) (i : Int) (r : List Int) (hr : RowOk h r) (h1 : 1 ≤ h) (h2 : h ≤ 2) : valsF fl (d + 3) (swP i r) = (if 5 = fl then [i] else []) ++ innV fl r := by
  unfold swP
  rw [vals_many fl (d + 2) 3 (.inl rfl)]
  simp [vals_flt, vals_inn fl d h r hr h1 h2]
theorem vals_swC (fl : Int) (d h : Nat) (sw i : Int) (r : List Int) (hr : RowOk h r) (h1 : 1 ≤ h) (h2 : h ≤ 2) : valsF fl (d + 3) (swC sw i r) = innV fl r := by
  unfold swC
  rw [vals_many fl (d + 2) 3 (.inl rfl)]
  simp [vals_tru, vals_inn fl d h r hr h1 h2]
theorem vals_sws (fl : Int) (hf : fl ≠ 5) (d h : Nat) (h1 : 1 ≤ h) (h2 : h ≤ 2) : ∀ (rows : List (List Int)) (i : Int), (∀ r ∈ rows, RowOk h r) → (swsP i rows).flatMap (valsF fl (d + 3)) = rows.flatMap (innV fl) := by
  intro rows
  induction rows with
  | nil => intro i _; rfl
  | cons r rs ih =>
    intro i hr
    unfold swsP
    rw [List.flatMap_cons, List.flatMap_cons, vals_sw fl d h i r (hr r (by simp)) h1 h2, ih (i + 1) fun x hx => hr x (by simp [hx]), if_neg (fun e => hf e.symm)]
    rfl
theorem vals_swsC (fl : Int) (sw : Int) (d h : Nat) (h1 : 1 ≤ h) (h2 : h ≤ 2) : ∀ (rows : List (List Int)) (i : Int), (∀ r ∈ rows, RowOk h r) → (swsC sw i rows).flatMap (valsF fl (d + 3)) = rows.flatMap (innV fl) := by
  intro rows
  induction rows with
  | nil => intro i _; rfl
  | cons r rs ih =>
    intro i hr
    unfold swsC
    rw [List.flatMap_cons, List.flatMap_cons, vals_swC fl d h sw i r (hr r (by simp)) h1 h2, ih (i + 1) fun x hx => hr x (by simp [hx])]
theorem vals_told (fl : Int) (hf : fl ≠ 5) (h : Nat) (h1 : 1 ≤ h) (h2 : h ≤ 2) (rows : List (List Int)) (hr : ∀ r ∈ rows, RowOk h r) : valsF fl 4 (toldP rows) = rows.flatMap (innV fl) := by
  match rows, hr with
  | [], _ => exact vals_many fl 3 4 (.inr rfl) _
  | [r], hr =>
    show valsF fl 4 (swP 0 r) = _
    rw [vals_sw fl 1 h 0 r (hr r (by simp)) h1 h2, if_neg (fun e => hf e.symm)]
    simp
  | r :: s :: rs, hr =>
    show valsF fl 4 (.mk 4 0 0 0 0 0 (swsP 0 (r :: s :: rs))) = _
    rw [vals_many fl 3 4 (.inr rfl), vals_sws fl hf 0 h h1 h2 _ 0 hr]
theorem vals_toldC (fl sw : Int) (h : Nat) (h1 : 1 ≤ h) (h2 : h ≤ 2) (rows : List (List Int)) (hr : ∀ r ∈ rows, RowOk h r) : valsF fl 4 (toldC sw rows) = rows.flatMap (innV fl) := by
  match rows, hr with
  | [], _ => exact vals_many fl 3 4 (.inr rfl) _
  | [r], hr =>
    show valsF fl 4 (swC sw 0 r) = _
    rw [vals_swC fl 1 h sw 0 r (hr r (by simp)) h1 h2]
    simp
  | r :: s :: rs, hr =>
    show valsF fl 4 (.mk 4 0 0 0 0 0 (swsC sw 0 (r :: s :: rs))) = _
    rw [vals_many fl 3 4 (.inr rfl), vals_swsC fl sw 0 h h1 h2 _ 0 hr]
theorem vals5_sws (d h : Nat) (h1 : 1 ≤ h) (h2 : h ≤ 2) : ∀ (rows : List (List Int)) (i : Int), (∀ r ∈ rows, RowOk h r) → ∀ s ∈ (swsP i rows).flatMap (valsF 5 (d + 3)), i ≤ s ∧ s < i + rows.length := by
  intro rows
  induction rows with
  | nil => intro i _ s hs; cases hs
  | cons r rs ih =>
    intro i hr s hs
    unfold swsP at hs
    rw [List.flatMap_cons, vals_sw 5 d h i r (hr r (by simp)) h1 h2, List.mem_append] at hs
    rcases hs with hs | hs
    · have e : innV 5 r = [] := by
        rcases (hr r (by simp)).cases h1 h2 with ⟨p, _, rfl, _⟩ | ⟨p, q, _, rfl, _⟩ <;> simp [innV, rowV]
      rw [e] at hs
      simp at hs
      subst hs
      simp
      omega
    · have := ih (i + 1) (fun x hx => hr x (by simp [hx])) s hs
      simp
      omega
theorem vals5_told (h : Nat) (h1 : 1 ≤ h) (h2 : h ≤ 2) (rows : List (List Int)) (hr : ∀ r ∈ rows, RowOk h r) : ∀ s ∈ valsF 5 4 (toldP rows), s < (rows.length : Int) := by
  intro s hs
  match rows, hr, hs with
  | [], _, hs =>
    rw [show toldP [] = .mk 4 0 0 0 0 0 [] from rfl, vals_many 5 3 4 (.inr rfl)] at hs
    cases hs
  | [r], hr, hs =>
    have := vals5_sws 1 h h1 h2 [r] 0 hr s (by simpa [swsP, toldP] using hs)
    simpa using this.2
  | r :: t :: rs, hr, hs =>
    have e : toldP (r :: t :: rs) = .mk 4 0 0 0 0 0 (swsP 0 (r :: t :: rs)) := rfl
    rw [e, vals_many 5 3 4 (.inr rfl)] at hs
    have := vals5_sws 0 h h1 h2 _ 0 hr s hs
    simpa using this.2
theorem vals5_len (h : Nat) (h1 : 1 ≤ h) (h2 : h ≤ 2) (d : Nat) : ∀ (rows : List (List Int)) (i : Int), (∀ r ∈ rows, RowOk h r) → ((swsP i rows).flatMap (valsF 5 (d + 3))).length = rows.length := by
  intro rows
  induction rows with
  | nil => intro i _; rfl
  | cons r rs ih =>
    intro i hr
    unfold swsP
    have e : innV 5 r = [] := by
      rcases (hr r (by simp)).cases h1 h2 with ⟨p, _, rfl, _⟩ | ⟨p, q, _, rfl, _⟩ <;> simp [innV, rowV]
    rw [List.flatMap_cons, vals_sw 5 d h i r (hr r (by simp)) h1 h2, List.length_append, ih (i + 1) fun x hx => hr x (by simp [hx]), e]
    simp
    omega
theorem innV_len (fl : Int) {h : Nat} {r : List Int} (hr : RowOk h r) (h1 : 1 ≤ h) (h2 : h ≤ 2) : (innV fl r).length ≤ 2 := by
  rcases hr.cases h1 h2 with ⟨p, _, rfl, _⟩ | ⟨p, q, _, rfl, _⟩
  · simp only [innV, rowV]
    by_cases e : fl = 1
    · subst e; simp
    · simp [e]; split <;> simp
  · simp only [innV, rowV]
    by_cases e : fl = 1
    · subst e; simp
    · simp [e]; split <;> simp
theorem innV_flat_len (fl : Int) {h : Nat} (h1 : 1 ≤ h) (h2 : h ≤ 2) : ∀ (rows : List (List Int)), (∀ r ∈ rows, RowOk h r) → (rows.flatMap (innV fl)).length ≤ 2 * rows.length := by
  intro rows
  induction rows with
  | nil => intro _; simp
  | cons r rs ih =>
    intro hr
    have a := innV_len fl (hr r (by simp)) h1 h2
    have b := ih fun x hx => hr x (by simp [hx])
    rw [List.flatMap_cons, List.length_append, List.length_cons]
    omega
theorem innV_none (fl : Int) (hf : fl ≠ 1) (hg : fl ≠ 4) {h : Nat} (h1 : 1 ≤ h) (h2 : h ≤ 2) : ∀ (rows : List (List Int)), (∀ r ∈ rows, RowOk h r) → rows.flatMap (innV fl) = [] := by
  intro rows hr
  rw [List.flatMap_eq_nil_iff]
  intro r hm
  rcases (hr r hm).cases h1 h2 with ⟨p, _, rfl, _⟩ | ⟨p, q, _, rfl, _⟩ <;> simp [innV, rowV, hf, hg]
theorem innV4 {h : Nat} {r : List Int} (hr : RowOk h r) (h1 : 1 ≤ h) (h2 : h ≤ 2) : innV 4 r = r := by
  rcases hr.cases h1 h2 with ⟨p, _, rfl, _⟩ | ⟨p, q, _, rfl, _⟩ <;> simp [innV, rowV]
def firstN (h : Nat) : List Int := if h = 1 then [0] else [0, 1]
theorem innV1 {h : Nat} {r : List Int} (hr : RowOk h r) (h1 : 1 ≤ h) (h2 : h ≤ 2) : innV 1 r = firstN h := by
  rcases hr.cases h1 h2 with ⟨p, rfl, rfl, _⟩ | ⟨p, q, rfl, rfl, _⟩ <;> simp [innV, rowV, firstN]
theorem sv_firstN : ∀ h, h = 1 ∨ h = 2 → ∀ n, n = 1 ∨ n = 2 ∨ n = 3 ∨ n = 4 → sv ((List.replicate n (firstN h)).flatten) = firstN h := by
  rintro h (rfl | rfl) n (rfl | rfl | rfl | rfl) <;> (unfold sv sortI; simp [firstN, List.replicate, List.mergeSort, List.MergeSort.Internal.splitInTwo]; try rfl)
end Go.Proofs.YtekfkieimdgfkaaGreat
