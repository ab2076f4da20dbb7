/- What is proved here: how policies lie in memory, and whole structs in and out of blocks. Condition: none. -/
import Derived.Test.YtekfkieimdgfkaaGreatT01
import Derived.Test.YtekfkieimdgfkaaGreatT02
import Derived.Laws.Rows
import Derived.Laws.Tables
import Derived.Deep.MidRow
import Derived.Deep.AppendLies
namespace Go.Proofs.YtekfkieimdgfkaaGreat
open Go Go.RowKit
/-- From w to w' only block g was turned. -/
structure Only (g : Nat) (w w' : World) : Prop where
  os : w'.os = w.os
  tape : w'.tape = w.tape
  output : w'.output = w.output
  size : w'.heap.size = w.heap.size
  block : ∀ k, k ≠ g → w'.heap[k]? = w.heap[k]?
theorem Only.below {B g : Nat} {w w' : World} (h : Only g w w') (hB : B ≤ g) : Below B w w' :=
  ⟨h.os, h.tape, h.output, by rw [h.size]; exact Nat.le_refl _, fun k hk => h.block k (by omega)⟩
theorem Only.belowT {B g : Nat} {W w w' : World} (h : Only g w w') (hb : Below B W w) (hB : B ≤ g) : Below B W w' := hb.trans (h.below hB)
theorem only_setRow (w : World) (g : Nat) (cs : Array Value) : Only g w (w.setRow g cs) :=
  ⟨rfl, rfl, rfl, by simp, fun k hk => setRow_other w g k cs hk⟩
theorem only_setCell (w : World) (g i : Nat) (v : Value) : Only g w (w.setCell ⟨g, i, none⟩ v) :=
  ⟨rfl, rfl, rfl, by simp, fun k hk => heap_setCell_other w ⟨g, i, none⟩ k v hk⟩
section
variable {P : Program}
/-- A whole struct is stored at the head of block g; the world behind it under a name of its own. -/
theorem wpList_store_o {ops : Array Oper} {rest : List Oper} {o : Oper} {a : Act} {w : World} {Q : Exit → Act → World → Prop} (hgd : o.guard = none) (ty : TypeId) (x y : Operand) (ho : o.op = .store ty x y)
    (g : Nat) (cells : Array Value) (hx : a.eval x = .pointer (some ⟨g, 0, none⟩)) (hy : a.eval y = .agg cells)
    (t : TypeId) (old : Array Value) (hg : w.heap[g]? = some (.cells old t (0, 0))) (hi : (P.info? ty).map (·.size) = some cells.size)
    (hold : old.size = cells.size) (h1 : cells.toList.all (·.oneCell') = true)
    (h : ∀ w' : World, w'.heap[g]? = some (.cells cells t (0, 0)) → Only g w w' → wpList P ops Q rest (a.put o.dst undef) w') : wpList P ops Q (o :: rest) a w :=
  wpList_store_row hgd ty x y ho g cells hx hy t old hg hi hold (by rw [← h1, Array.all_toList]) (h _ (setRow_heap w g old cells t (0, 0) hg) (only_setRow w g cells))
/-- Here the walk is to stand still. -/
structure Stop (p : Prop) : Prop where
  go ::
  out : p
theorem stop_store {ops : Array Oper} {rest : List Oper} {o : Oper} {a : Act} {w : World} {Q : Exit → Act → World → Prop} (ty : TypeId) (x y : Operand) (ho : o.op = .store ty x y)
    (h : Stop (wpList P ops Q (o :: rest) a w)) : wpList P ops Q (o :: rest) a w := ho.rec (motive := fun _ _ => wpList P ops Q (o :: rest) a w) h.out
theorem stop_load {ops : Array Oper} {rest : List Oper} {o : Oper} {a : Act} {w : World} {Q : Exit → Act → World → Prop} (ty : TypeId) (x : Operand) (ho : o.op = .load ty x)
    (h : Stop (wpList P ops Q (o :: rest) a w)) : wpList P ops Q (o :: rest) a w := ho.rec (motive := fun _ _ => wpList P ops Q (o :: rest) a w) h.out
theorem stop_build {ops : Array Oper} {rest : List Oper} {o : Oper} {a : Act} {w : World} {Q : Exit → Act → World → Prop} (ty : TypeId) (x : Array (Nat × Operand)) (ho : o.op = .build ty x)
    (h : Stop (wpList P ops Q (o :: rest) a w)) : wpList P ops Q (o :: rest) a w := ho.rec (motive := fun _ _ => wpList P ops Q (o :: rest) a w) h.out
theorem stop_list {ops : Array Oper} {l : List Oper} {a : Act} {w : World} {Q : Exit → Act → World → Prop} (h : Stop (wpList P ops Q l a w)) : wpList P ops Q l a w := h.out
/-- The list of operations goes on in whatever world is like this one. -/
theorem abs_list {ops : Array Oper} {l : List Oper} {a : Act} {w : World} {Q : Exit → Act → World → Prop} (h : ∀ W, W = w → wpList P ops Q l a W) : wpList P ops Q l a w := h w rfl
theorem results_row1 {fn : Func} {p : Tmp} {ty : TypeId} (h : fn.results = #[.cell p ty]) (tmps : Array Value) (w : World) (g : Nat) (cs : Array Value) (d : TypeDesc)
    (hp : tmps.getD p undef = .pointer (some ⟨g, 0, none⟩)) (t : TypeId) (hg : w.heap[g]? = some (.cells cs t (0, 0)))
    (hu : P.underlying ty = some d) (hd : (match d with | .struct _ | .array _ _ => true | _ => false) = true) (hi : (P.info? ty).map (·.size) = some cs.size) :
    (results fn tmps).run P w = .ok (.agg cs) w := results_cell_row h tmps w g t cs (0, 0) d hp hg hu hd hi
end
/-- What append asks of a slice's type t and its element's type e, z cells wide. -/
structure Elem (P : Program) (t e : TypeId) (z : Nat) : Prop where
  ht : P.underlying t = some (.slice e)
  ex : ∃ i zv, P.info? e = some i ∧ i.zero = some zv ∧ i.size = z ∧ i.bytes ≤ 1000 ∧ zv.cells.size = z ∧ 0 < z
def elemB (P : Program) (t e : TypeId) (z : Nat) : Bool :=
  (match P.underlying t with | some (.slice e') => e' == e | _ => false) &&
  (match P.info? e with | some i => i.size == z && decide (i.bytes ≤ 1000) && decide (0 < z) && (match i.zero with | some zv => zv.cells.size == z | none => false) | none => false)
theorem elem_of {P : Program} {t e : TypeId} {z : Nat} (h : elemB P t e z = true) : Elem P t e z := by
  unfold elemB at h
  rw [Bool.and_eq_true] at h
  obtain ⟨h1, h2⟩ := h
  constructor
  · split at h1
    · rename_i e' he
      rw [he]
      have : e' = e := by simpa using h1
      rw [this]
    · cases h1
  · split at h2
    · rename_i i hi
      rw [Bool.and_eq_true, Bool.and_eq_true, Bool.and_eq_true] at h2
      obtain ⟨⟨⟨h3, h4⟩, h5⟩, h6⟩ := h2
      split at h6
      · rename_i zv hz
        exact ⟨i, zv, hi, hz, by simpa using h3, by simpa using h4, by simpa using h6, by simpa using h5⟩
      · cases h6
    · cases h2
section
variable {P : Program}
/-- One element, alone in a row of its own at block g0, is appended. -/
theorem wpList_push1 {t e : TypeId} {z : Nat} (E : Elem P t e z) {ops : Array Oper} {rest : List Oper} {o : Oper} {a : Act} {w : World} {Q : Exit → Act → World → Prop} (hgd : o.guard = none) (s x : Operand)
    (ho : o.op = .call { callee := .builtin .append, args := #[s, x], argTypes := #[t, t] }) (base : Nat) (v : Value) (n : Nat) (xs : List Value) (hs : a.eval s = v) (hown : w.ownsRow base e z v n xs)
    (g0 : Nat) (hx : a.eval x = .slice (some ⟨g0, 0, none⟩) 1 1) (cs : Array Value) (hb : w.heap[g0]? = some (.cells cs e (0, 0))) (hcs : cs.size = z) (h1 : cs.toList.all (·.oneCell') = true) (h63 : n ≤ 1000000) (hbase : base ≤ w.heap.size)
    (h : ∀ g cap w', w'.ownsRow base e z (.slice (some ⟨g, 0, none⟩) (n + 1) cap) (n + 1) (xs ++ cs.toList) → w.grownBy w' v.ownBlock → (v.ownBlock = some g ∨ g = w.heap.size) → g < w'.heap.size → wpList P ops Q rest (a.put o.dst (.slice (some ⟨g, 0, none⟩) (n + 1) cap)) w') :
    wpList P ops Q (o :: rest) a w := by
  obtain ⟨i, zv, hi, hz, hsz, hby, hzs, h0⟩ := E.ex
  have hm : (n + 1) * i.bytes ≤ 1000001 * 1000 := Nat.mul_le_mul (by omega) hby
  refine wpList_append_lies w hgd s x t ho base e i zv z i.bytes E.ht hi hz hsz rfl hzs h0 v n xs hs hown ⟨g0, 0, none⟩ 1 1 cs.toList hx (by simp [hcs]) (fun j u hj => ?_) (fun u hu => ?_) (by decide) (by unfold maxLen; omega) (by omega) hbase w.heap.size rfl h
  · rw [adh, cell_of_row w g0 j cs e (0, 0) hb]
    simpa using hj
  · exact (List.all_eq_true.1 h1) u hu
end
theorem el53 : Elem Tryz.prog 53 55 8 := elem_of (by kernel_rfl)
/-- A policy whose conditions are leaves: kind, its condition's kind, field, number, its field, its number, its parts. -/
inductive Pol
  | mk (k pk pf pn f v : Int) (l : List Pol)
def Pol.k : Pol → Int | .mk k _ _ _ _ _ _ => k
def Pol.pk : Pol → Int | .mk _ k _ _ _ _ _ => k
def Pol.pf : Pol → Int | .mk _ _ k _ _ _ _ => k
def Pol.pn : Pol → Int | .mk _ _ _ k _ _ _ => k
def Pol.f : Pol → Int | .mk _ _ _ _ k _ _ => k
def Pol.v : Pol → Int | .mk _ _ _ _ _ k _ => k
def Pol.l : Pol → List Pol | .mk _ _ _ _ _ _ l => l
def polL (x : Pol) (u : Value) : List Value := [.int .i64 x.k, .int .i64 x.pk, .int .i64 x.pf, .int .i64 x.pn, .slice none 0 0, .int .i64 x.f, .int .i64 x.v, u]
def polV (x : Pol) (u : Value) : Value := .agg #[.int .i64 x.k, .int .i64 x.pk, .int .i64 x.pf, .int .i64 x.pn, .slice none 0 0, .int .i64 x.f, .int .i64 x.v, u]
def polE (p : Pol × Value) : List Value := polL p.1 p.2
theorem polE_len (p : Pol × Value) : (polE p).length = 8 := rfl
/-- The slice v reads as the policies xs, at most d within each other; all of it lies in blocks that P allows. -/
def RdP (P : Nat → Prop) : Nat → Value → List Pol → World → Prop
  | 0, v, xs, _ => v = .slice none 0 0 ∧ xs = []
  | d + 1, v, xs, w => ∃ us : List Value, us.length = xs.length ∧ w.ownsRow 0 55 8 v xs.length (flatR polE (xs.zip us)) ∧ (∀ g, v.ownBlock = some g → P g) ∧
      ∀ (i : Nat) (x : Pol) (u : Value), xs[i]? = some x → us[i]? = some u → RdP P d u x.l w
theorem RdP.nil (P : Nat → Prop) (d : Nat) (w : World) : RdP P d (.slice none 0 0) [] w := by
  cases d
  · exact ⟨rfl, rfl⟩
  · exact ⟨[], rfl, own_nil _ _ _ _, fun g h => by simp [Value.ownBlock] at h, fun i x u h => by simp at h⟩
theorem RdP.blk {P : Nat → Prop} {w w' : World} (hk : ∀ g, P g → g < w.heap.size → w'.heap[g]? = w.heap[g]?) : ∀ {d : Nat} {v : Value} {xs : List Pol}, RdP P d v xs w → RdP P d v xs w' := by
  intro d
  induction d with
  | zero => intro v xs h; exact h
  | succ d ih =>
    intro v xs h
    obtain ⟨us, hl, hr, hp, hx⟩ := h
    exact ⟨us, hl, own_blk hr (fun g hg => hk g (hp g hg) (hr.lt g hg).2), hp, fun i x u h1 h2 => ih (hx i x u h1 h2)⟩
theorem RdP.kept {P : Nat → Prop} {w w' : World} {d : Nat} {v : Value} {xs : List Pol} (h : RdP P d v xs w) (hb : Below w.heap.size w w') : RdP P d v xs w' := h.blk fun g _ hg => hb.block g hg
theorem RdP.mono {P P' : Nat → Prop} {w : World} (hP : ∀ g, P g → g < w.heap.size → P' g) : ∀ {d : Nat} {v : Value} {xs : List Pol}, RdP P d v xs w → RdP P' d v xs w := by
  intro d
  induction d with
  | zero => intro v xs h; exact h
  | succ d ih =>
    intro v xs h
    obtain ⟨us, hl, hr, hp, hx⟩ := h
    exact ⟨us, hl, hr, fun g hg => hP g (hp g hg) (hr.lt g hg).2, fun i x u h1 h2 => ih (hx i x u h1 h2)⟩
theorem RdP.up {P : Nat → Prop} {w : World} : ∀ {d : Nat} {v : Value} {xs : List Pol}, RdP P d v xs w → RdP P (d + 1) v xs w := by
  intro d
  induction d with
  | zero => rintro v xs ⟨rfl, rfl⟩; exact RdP.nil _ _ _
  | succ d ih =>
    intro v xs h
    obtain ⟨us, hl, hr, hp, hx⟩ := h
    exact ⟨us, hl, hr, hp, fun i x u h1 h2 => ih (hx i x u h1 h2)⟩
theorem RdP.form {P : Nat → Prop} {w : World} {d : Nat} {v : Value} {xs : List Pol} (h : RdP P d v xs w) : ∃ ao c, v = .slice ao xs.length c ∧ xs.length ≤ c ∧ c ≤ maxLen := by
  cases d with
  | zero => obtain ⟨rfl, rfl⟩ := h; exact ⟨none, 0, rfl, Nat.le_refl _, by decide⟩
  | succ d =>
    obtain ⟨us, _, hr, _, _⟩ := h
    exact own_form hr
theorem RdP.zero {P : Nat → Prop} {w : World} {v : Value} {xs : List Pol} (h : RdP P 0 v xs w) : xs = [] := h.2
theorem RdP.at_ {P : Nat → Prop} {w : World} {d : Nat} {v : Value} {xs : List Pol} (h : RdP P (d + 1) v xs w) (k : Nat) (hk : k < xs.length) :
    ∃ g cap u, v = .slice (some ⟨g, 0, none⟩) xs.length cap ∧ g < w.heap.size ∧ P g ∧ w.rangeAt g (k * 8) (polL xs[k] u) ∧ RdP P d u xs[k].l w := by
  obtain ⟨us, hl, hr, hp, hx⟩ := h
  have hku : k < us.length := by omega
  have hz : (xs.zip us).length = xs.length := by simp [hl]
  have h2 := hr.2
  rcases h2 with ⟨rfl, h0⟩ | ⟨g, cap, cur, rfl, _, hg, h1, h2, _⟩
  · omega
  · refine ⟨g, cap, us[k], rfl, block_lt hg, hp g rfl, fun j v hj => ?_, hx k _ _ (List.getElem?_eq_getElem hk) (List.getElem?_eq_getElem hku)⟩
    have := hr.cells rfl (k * 8 + j) v (flatR_get (z := 8) (fun x => polE_len x) (xs.zip us) k (by omega) j v (by simpa [polE] using hj))
    rw [adh] at this
    exact this
theorem inf55 : (Tryz.prog.info? 55).map (·.size) = some 8 := by kernel_rfl
theorem und55 : ∃ fs, Tryz.prog.underlying 55 = some (.struct fs) := by
  have h : (match Tryz.prog.underlying 55 with | some (.struct _) => true | _ => false) = true := by kernel_rfl
  cases hu : Tryz.prog.underlying 55 with
  | none => rw [hu] at h; cases h
  | some d => cases d <;> (rw [hu] at h; first | exact ⟨_, rfl⟩ | cases h)
theorem inf52 : (Tryz.prog.info? 52).map (·.size) = some 4 := by kernel_rfl
theorem und52 : ∃ fs, Tryz.prog.underlying 52 = some (.struct fs) := by
  have h : (match Tryz.prog.underlying 52 with | some (.struct _) => true | _ => false) = true := by kernel_rfl
  cases hu : Tryz.prog.underlying 52 with
  | none => rw [hu] at h; cases h
  | some d => cases d <;> (rw [hu] at h; first | exact ⟨_, rfl⟩ | cases h)
/-- A policy comes back out of block g. -/
theorem ret55 {fn : Func} {p : Tmp} (h : fn.results = #[.cell p 55]) {R : Ending → World → Prop} {a : Act} {w : World} {g : Nat} {cs : Array Value} {t : TypeId} (hd : a.defers = []) (hp : a.tmps.getD p undef = .pointer (some ⟨g, 0, none⟩))
    (hg : w.heap[g]? = some (.cells cs t (0, 0))) (hs : cs.size = 8) (hR : R (.returned (.agg cs)) w) : bodyPost Tryz.prog fn R .ret a w := by
  obtain ⟨fs, hu⟩ := und55
  exact bodyPost_ret (results_row1 h a.tmps w g cs _ hp t hg hu rfl (by rw [hs]; exact inf55)) hd hR
/-- A row of policies of one's own at block g; what lies within each lies elsewhere. -/
def RowP (B g d : Nat) (v : Value) (xs : List Pol) (w : World) : Prop :=
  ∃ us : List Value, us.length = xs.length ∧ w.ownsRow B 55 8 v xs.length (flatR polE (xs.zip us)) ∧ v.ownBlock = some g ∧
    ∀ (i : Nat) (x : Pol) (u : Value), xs[i]? = some x → us[i]? = some u → RdP (fun k => B ≤ k ∧ k ≠ g) d u x.l w
theorem RowP.rd {B g d : Nat} {v : Value} {xs : List Pol} {w : World} (h : RowP B g d v xs w) : RdP (fun k => B ≤ k) (d + 1) v xs w := by
  obtain ⟨us, hl, hr, hg, hx⟩ := h
  exact ⟨us, hl, own_mono hr (Nat.zero_le _), fun k hk => (hr.lt k hk).1, fun i x u h1 h2 => (hx i x u h1 h2).mono fun k hk _ => hk.1⟩
theorem RowP.form {B g d : Nat} {v : Value} {xs : List Pol} {w : World} (h : RowP B g d v xs w) : ∃ c, v = .slice (some ⟨g, 0, none⟩) xs.length c ∧ xs.length ≤ c ∧ c ≤ maxLen ∧ B ≤ g ∧ g < w.heap.size := by
  obtain ⟨us, hl, hr, hg, hx⟩ := h
  have h2 := hr.2
  rcases h2 with ⟨rfl, _⟩ | ⟨g', cap', cur, rfl, hb, hg', h1, h2, _⟩
  · simp [Value.ownBlock] at hg
  · simp [Value.ownBlock] at hg
    subst hg
    exact ⟨_, rfl, h1, h2, hb, block_lt hg'⟩
theorem RowP.blk {B g d : Nat} {v : Value} {xs : List Pol} {w w' : World} (h : RowP B g d v xs w) (hk : ∀ k, B ≤ k → k < w.heap.size → w'.heap[k]? = w.heap[k]?) : RowP B g d v xs w' := by
  obtain ⟨us, hl, hr, hg, hx⟩ := h
  exact ⟨us, hl, own_blk hr (fun k hk' => hk k (hr.lt k hk').1 (hr.lt k hk').2), hg, fun i x u h1 h2 => (hx i x u h1 h2).blk fun k hk' h => hk k hk'.1 h⟩
theorem flat_one (x : Pol) (u : Value) : flatR polE ([x].zip [u]) = polL x u := by simp [flatR, polE]
theorem flat_snoc {xs : List Pol} {us : List Value} (h : us.length = xs.length) (x : Pol) (u : Value) : flatR polE ((xs ++ [x]).zip (us ++ [u])) = flatR polE (xs.zip us) ++ polL x u := by
  rw [List.zip_append h.symm, flatR_append, flat_one]
/-- A fresh literal row of one policy. -/
theorem RowP.lit {B d : Nat} {x : Pol} {u : Value} {w : World} (hB : B ≤ w.heap.size) (h : RdP (fun k => B ≤ k) d u x.l w) :
    RowP B w.heap.size d (.slice (some ⟨w.heap.size, 0, none⟩) 1 1) [x] (w.alloc (.cells (polL x u).toArray 55)) := by
  refine ⟨[u], rfl, ⟨by simp [flatR, polE, polL], .inr ⟨w.heap.size, 1, (polL x u).toArray, rfl, hB, heap_alloc_new w _, Nat.le_refl _, by decide, rfl, ?_⟩⟩, rfl, fun i y z h1 h2 => ?_⟩
  · rw [flat_one]; rfl
  · cases i with
    | zero =>
      simp at h1 h2
      subst h1 h2
      have h3 := h.mono (P' := fun k => B ≤ k ∧ k ≠ w.heap.size) fun k hk hlt => ⟨hk, by omega⟩
      exact h3.blk fun k hk hlt => Below.heap_alloc w _ k hlt
    | succ i => simp at h1
/-- One policy is appended. -/
theorem RowP.push {B g d : Nat} {v : Value} {xs : List Pol} {x : Pol} {u : Value} {w w3 w4 : World} (h : RowP B g d v xs w) (hw : Below w.heap.size w w3) (hx : RdP (fun k => B ≤ k ∧ k ≠ g) d u x.l w3)
    {g' cap : Nat} (hown : w4.ownsRow B 55 8 (.slice (some ⟨g', 0, none⟩) (xs.length + 1) cap) (xs.length + 1) (flatR polE (xs.zip h.choose) ++ (polL x u).toArray.toList)) (hg : w3.grownBy w4 v.ownBlock) (hor : v.ownBlock = some g' ∨ g' = w3.heap.size) :
    RowP B g' d (.slice (some ⟨g', 0, none⟩) (xs.length + 1) cap) (xs ++ [x]) w4 := by
  obtain ⟨hl, hr, hvg, hxs⟩ := h.choose_spec
  have hsz := hw.size
  have hglt := (hr.lt g hvg).2
  have hne : ∀ k, B ≤ k ∧ k ≠ g → k < w3.heap.size → B ≤ k ∧ k ≠ g' := fun k hk hlt => ⟨hk.1, by
    rcases hor with h1 | h1
    · rw [hvg] at h1; cases h1; exact hk.2
    · omega⟩
  have hblk : ∀ k, B ≤ k ∧ k ≠ g → k < w3.heap.size → w4.heap[k]? = w3.heap[k]? := fun k hk hlt => hg.block k hlt (by rw [hvg]; simpa using hk.2)
  have key : ∀ {z : Value} {ys : List Pol}, RdP (fun k => B ≤ k ∧ k ≠ g) d z ys w3 → RdP (fun k => B ≤ k ∧ k ≠ g') d z ys w4 := fun h5 => by
    have h6 := h5.mono (P' := fun k => (B ≤ k ∧ k ≠ g) ∧ B ≤ k ∧ k ≠ g') fun k hk hlt => ⟨hk, hne k hk hlt⟩
    have h7 := h6.blk (w' := w4) fun k hk hlt => hblk k hk.1 hlt
    exact h7.mono fun k hk _ => hk.2
  refine ⟨h.choose ++ [u], by simp [hl], ?_, rfl, fun i y z h1 h2 => ?_⟩
  · rw [flat_snoc hl, List.length_append]; exact hown
  · rcases Nat.lt_or_ge i xs.length with hi | hi
    · rw [List.getElem?_append_left hi] at h1
      rw [List.getElem?_append_left (by omega)] at h2
      exact key ((hxs i y z h1 h2).kept hw)
    · rw [List.getElem?_append_right hi] at h1
      rw [List.getElem?_append_right (by omega), hl] at h2
      rcases Nat.eq_zero_or_pos (i - xs.length) with h0 | h0
      · rw [h0] at h1 h2
        simp at h1 h2
        subst h1 h2
        exact key hx
      · rw [List.getElem?_eq_none (by simp; omega)] at h1
        cases h1
end Go.Proofs.YtekfkieimdgfkaaGreat
/- What is proved here: what the looks at a condition that is a leaf answer. Condition: it has no parts. -/
namespace Go.Proofs.YtekfkieimdgfkaaGreat
open Go Go.RowKit
attribute [local go_sem] KW.cell KW.frozen
abbrev predA (k f n : Int) : Array Value := #[.int .i64 k, .int .i64 f, .int .i64 n, .slice none 0 0]
set_option maxRecDepth 100000 in
set_option maxHeartbeats 4000000 in
theorem psize_c (k f n : Int) (w : World) : Calls Tryz.prog 77 #[.agg (predA k f n)] w fun e w' => e = .returned (.int .i64 1) ∧ Below w.heap.size w w' := by
  have HB := Lib.hid (grow1 w (.cells (predA k f n) 52))
  go_enter Tryz.func77, Tryz.ntmps77
  go_wp2_with fail
  go_loopw [3, 9] (fun m i wr => m = .int .i64 1 ∧ i = .int .i64 0 ∧ wr = w.alloc (.cells (predA k f n) 52)) (fun _ _ _ => 0)
  case atStart => exact ⟨rfl, rfl, rfl⟩
  case round =>
    obtain ⟨rfl, rfl, rfl⟩ := hrel
    go_wp2_with fail
    go_ret
    exact ⟨rfl, HB.out⟩
set_option maxRecDepth 100000 in
set_option maxHeartbeats 4000000 in
theorem pdeep_c (k f n : Int) (w : World) : Calls Tryz.prog 134 #[.agg (predA k f n)] w fun e w' => e = .returned (.int .i64 1) ∧ Below w.heap.size w w' := by
  have HB := Lib.hid (grow1 w (.cells (predA k f n) 52))
  go_enter Tryz.func134, Tryz.ntmps134
  go_wp2_with fail
  go_loopw [3, 9] (fun m i wr => m = .int .i64 0 ∧ i = .int .i64 0 ∧ wr = w.alloc (.cells (predA k f n) 52)) (fun _ _ _ => 0)
  case atStart => exact ⟨rfl, rfl, rfl⟩
  case round =>
    obtain ⟨rfl, rfl, rfl⟩ := hrel
    go_wp2_with fail
    go_ret
    exact ⟨rfl, HB.out⟩
/-! The greatest number of a field -/
theorem bits_c (f : Int) (w : World) (h : 0 ≤ f ∧ f ≤ 3) : Calls Tryz.prog 90 #[.int .i64 f] w fun e w' => e = .returned (.int .i64 (if f = 2 then 4 else 8)) ∧ w = w' := by
  obtain rfl | rfl | rfl | rfl : f = 0 ∨ f = 1 ∨ f = 2 ∨ f = 3 := by omega
  all_goals
    go_enter Tryz.func90, Tryz.ntmps90
    go_wp2
    go_ret
    exact ⟨rfl, rfl⟩
theorem top69_c (f : Int) (w : World) (h : 0 ≤ f ∧ f ≤ 3) : Calls Tryz.prog 69 #[.int .i64 f] w fun e w' => e = .returned (.int .i64 (topF f)) ∧ w = w' := by
  obtain rfl | rfl | rfl | rfl : f = 0 ∨ f = 1 ∨ f = 2 ∨ f = 3 := by omega
  all_goals
    go_enter Tryz.func69, Tryz.ntmps69
    go_wp2_with (go_at_call 90; refine (bits_c _ _ (by decide)).mono ?_; rintro e w' ⟨rfl, rfl⟩)
    go_ret
    exact ⟨rfl, rfl⟩
def ptopF (f : Int) : Int := if f = 4 ∨ f = 5 then 7 else topF f
theorem ptop_c (f : Int) (w : World) (h : 0 ≤ f ∧ f ≤ 5) : Calls Tryz.prog 105 #[.int .i64 f] w fun e w' => e = .returned (.int .i64 (ptopF f)) ∧ w = w' := by
  obtain rfl | rfl | rfl | rfl | rfl | rfl : f = 0 ∨ f = 1 ∨ f = 2 ∨ f = 3 ∨ f = 4 ∨ f = 5 := by omega
  all_goals
    go_enter Tryz.func105, Tryz.ntmps105
    go_wp2_with (go_at_call 69; refine (top69_c _ _ (by decide)).mono ?_; rintro e w' ⟨rfl, rfl⟩)
    go_ret
    exact ⟨rfl, rfl⟩
/-! A condition on a field -/
def LeafOk (k f n : Int) : Prop := k = 3 ∧ 0 ≤ f ∧ f ≤ 5 ∧ 0 ≤ n ∧ n ≤ ptopF f
set_option maxRecDepth 100000 in
set_option maxHeartbeats 4000000 in
theorem pshape_c (k f n : Int) (w : World) (h : LeafOk k f n) : Calls Tryz.prog 157 #[.agg (predA k f n)] w fun e w' => e = .returned (.bool true) ∧ Below w.heap.size w w' := by
  obtain ⟨rfl, h1, h2, h3, h4⟩ := h
  have HB := Lib.hid (grow1 w (.cells (predA 3 f n) 52))
  have HG := Lib.hid (heap_alloc_new w (.cells (predA 3 f n) 52))
  have d1 : decide (0 ≤ f) = true := by simpa using h1
  have d2 : decide (f ≤ 5) = true := by simpa using h2
  have d3 : decide (0 ≤ n) = true := by simpa using h3
  have d4 : decide (n ≤ ptopF f) = true := by simpa using h4
  have X := Lib.hid (fun w => ptop_c f w ⟨h1, h2⟩)
  go_enter Tryz.func157, Tryz.ntmps157
  go_upto_region 4 with fail
  refine abs_wp ?_
  intro wb hwb
  have hb0 : Below w.heap.size w wb := by rw [hwb]; exact HB.out
  have hg0 : wb.heap[w.heap.size]? = some (.cells (predA 3 f n) 52 (0, 0)) := by rw [hwb]; exact HG.out
  have c0 := block_cell hg0 0
  have c1 := block_cell hg0 1
  have c2 := block_cell hg0 2
  have c3 := block_cell hg0 3
  simp only [List.getElem?_toArray, List.getElem?_cons_zero, List.getElem?_cons_succ] at c0 c1 c2 c3
  have hl := block_lt hg0
  have HB1 := Lib.hid hb0
  clear hwb HB HG hb0 hg0
  generalize ptopF f = tp at *
  refine wp_region_kq (by kernel_rfl) (by kernel_rfl) ?_
  repeat (first | go_big_quiet_step ((go_at_call 105; exact KW.same (X.out _))) | quiet_step ((go_at_call 105; exact KW.same (X.out _))))
  refine wpQuiet_nil ?_
  intro kz
  have HZ := Lib.hid (HB1.out.trans (kz.kp.mono HB1.out.size))
  go_wp2_with fail
  go_ret
  exact ⟨rfl, HZ.out⟩
set_option maxHeartbeats 1000000 in
theorem pindex_c (fv : Value) (w : World) : Calls Tryz.prog 161 #[.slice none 0 0, fv] w fun e w' => e = .returned (.int .i64 (-1)) ∧ w = w' := by
  go_enter Tryz.func161, Tryz.ntmps161
  go_wp2_with fail
  go_loopw [8] (fun i wr => i = .int .i64 0 ∧ wr = w) (fun _ _ => 0)
  case atStart => exact ⟨rfl, rfl⟩
  case round =>
    obtain ⟨rfl, rfl⟩ := hrel
    go_wp2_with fail
    go_ret
    exact ⟨rfl, rfl⟩
set_option maxHeartbeats 1000000 in
theorem pcontains_c (fv : Value) (w : World) : Calls Tryz.prog 143 #[.slice none 0 0, fv] w fun e w' => e = .returned (.bool false) ∧ w = w' := by
  go_enter Tryz.func143, Tryz.ntmps143
  go_wp2_with (go_at_call 161; refine (pindex_c _ _).mono ?_; rintro e w' ⟨rfl, rfl⟩)
  go_ret
  exact ⟨rfl, rfl⟩
set_option maxRecDepth 100000 in
set_option maxHeartbeats 4000000 in
theorem pall_c (k f n : Int) (w : World) (h : LeafOk k f n) : Calls Tryz.prog 135 #[.agg (predA k f n)] w fun e w' => e = .returned (.bool true) ∧ Below w.heap.size w w' := by
  have HB := Lib.hid (grow1 w (.cells (predA k f n) 52))
  have HG := Lib.hid (heap_alloc_new w (.cells (predA k f n) 52))
  have X := Lib.hid (fun w => pshape_c k f n w h)
  clear h
  go_enter Tryz.func135, Tryz.ntmps135
  go_wp2_with fail
  refine (X.out _).mono ?_
  rintro e w1 ⟨rfl, hb⟩
  have HB1 := Lib.hid (HB.out.trans (hb.mono (by simp)))
  have hg := (hb.block w.heap.size (by simp)).trans HG.out
  have c3 := block_cell hg 3
  simp only [List.getElem?_toArray, List.getElem?_cons_zero, List.getElem?_cons_succ] at c3
  clear hb hg HB HG
  go_wp2_with (go_at_call 143; refine (pcontains_c _ _).mono ?_; rintro e w' ⟨rfl, rfl⟩)
  go_ret
  exact ⟨rfl, HB1.out⟩
set_option maxRecDepth 100000 in
set_option maxHeartbeats 4000000 in
theorem predright_c (k f n : Int) (w : World) (h : LeafOk k f n) : Calls Tryz.prog 103 #[.agg (predA k f n)] w fun e w' => e = .returned (.bool true) ∧ Below w.heap.size w w' := by
  have HB := Lib.hid (grow1 w (.cells (predA k f n) 52))
  have HG := Lib.hid (heap_alloc_new w (.cells (predA k f n) 52))
  have X := Lib.hid (fun w => pall_c k f n w h)
  clear h
  go_enter Tryz.func103, Tryz.ntmps103
  go_wp2_with fail
  refine (pdeep_c _ _ _ _).mono ?_
  rintro e w1 ⟨rfl, hb⟩
  have HB1 := Lib.hid (HB.out.trans (hb.mono (by simp)))
  have HG1 := Lib.hid ((hb.block w.heap.size (by simp)).trans HG.out)
  clear hb HB HG
  have c0 := block_cell HG1.out 0
  have c1 := block_cell HG1.out 1
  have c2 := block_cell HG1.out 2
  have c3 := block_cell HG1.out 3
  simp only [List.getElem?_toArray, List.getElem?_cons_zero, List.getElem?_cons_succ] at c0 c1 c2 c3
  go_wp2_with fail
  refine (psize_c _ _ _ _).mono ?_
  rintro e w2 ⟨rfl, hb⟩
  have HB2 := Lib.hid (HB1.out.trans (hb.mono HB1.out.size))
  have HG2 := Lib.hid ((hb.block w.heap.size (block_lt HG1.out)).trans HG1.out)
  clear hb HB1 HG1 c0 c1 c2 c3
  have c0 := block_cell HG2.out 0
  have c1 := block_cell HG2.out 1
  have c2 := block_cell HG2.out 2
  have c3 := block_cell HG2.out 3
  simp only [List.getElem?_toArray, List.getElem?_cons_zero, List.getElem?_cons_succ] at c0 c1 c2 c3
  go_wp2_with fail
  refine (X.out _).mono ?_
  rintro e w3 ⟨rfl, hb⟩
  have HB3 := Lib.hid (HB2.out.trans (hb.mono HB2.out.size))
  clear hb HB2 HG2
  go_wp2_with fail
  go_ret
  exact ⟨rfl, HB3.out⟩
set_option maxHeartbeats 1000000 in
theorem pequal_c (fv : Value) (w : World) : Calls Tryz.prog 159 #[.slice none 0 0, .slice none 0 0, fv] w fun e w' => e = .returned (.bool true) ∧ w = w' := by
  go_enter Tryz.func159, Tryz.ntmps159
  go_wp2_with fail
  go_loopw [17] (fun i wr => i = .int .i64 0 ∧ wr = w) (fun _ _ => 0)
  case atStart => exact ⟨rfl, rfl⟩
  case round =>
    obtain ⟨rfl, rfl⟩ := hrel
    go_wp2_with fail
    go_ret
    exact ⟨rfl, rfl⟩
set_option maxRecDepth 100000 in
set_option maxHeartbeats 4000000 in
theorem psame_c (w : World) : Calls Tryz.prog 136 #[.agg (predA 0 0 0), .agg (predA 0 0 0)] w fun e w' => e = .returned (.bool true) ∧ Below w.heap.size w w' := by
  have HB : Hid (Below w.heap.size w ((w.alloc (.cells (predA 0 0 0) 52)).alloc (.cells (predA 0 0 0) 52))) := Lib.hid (((Below.refl _ _).alloc (Nat.le_refl _) _).alloc (by simp) _)
  go_enter Tryz.func136, Tryz.ntmps136
  go_wp2_with (go_at_call 159; refine (pequal_c _ _).mono ?_; rintro e w' ⟨rfl, rfl⟩)
  go_ret
  exact ⟨rfl, HB.out⟩
end Go.Proofs.YtekfkieimdgfkaaGreat
