/- What is proved here: how channels of flights lie in memory. Condition: none. -/
import Derived.Test.YthmglahcampllaaChecked
import Derived.Test.YthmglahcampllaaCp
import Derived.Lib.Hide
import Derived.WalkSpells
import Derived.WalkLawsBesides
import Derived.Deep.AppendLies
import Derived.Laws.MakeOwn
namespace Go.Proofs.Ythmglahcampllaa
open Go Go.RowKit
namespace Ch
theorem adh (g n : Nat) : (⟨g, 0, none⟩ : Addr).add n = ⟨g, n, none⟩ := by
  unfold Addr.add
  split
  · subst_vars; rfl
  · simp
theorem bon {W w w' : World} (h : Below W.heap.size W w) (h2 : Below w.heap.size w w') : Below W.heap.size W w' := h.trans (h2.mono h.size)
/-! A row of the call's own -/
section
variable {B e z n : Nat} {v : Value} {vs : List Value} {w w' : World}
theorem own_block {g cap : Nat} (h : w.ownsRow B e z (.slice (some ⟨g, 0, none⟩) n cap) n vs) : ∃ cur, w.heap[g]? = some (.cells cur e (0, 0)) ∧ B ≤ g := by
  rcases h.2 with ⟨h0, _⟩ | ⟨g', cap', cur, hv, hB, hg, _⟩
  · cases h0
  · cases hv; exact ⟨cur, hg, hB⟩
theorem own_blk (h : w.ownsRow B e z v n vs) (hk : ∀ g cur, v.ownBlock = some g → w.heap[g]? = some (.cells cur e (0, 0)) → w'.heap[g]? = w.heap[g]?) : w'.ownsRow B e z v n vs := by
  refine ⟨h.1, ?_⟩
  rcases h.2 with hn | ⟨g, cap, cur, rfl, hB, hg, r⟩
  · exact .inl hn
  · exact .inr ⟨g, cap, cur, rfl, hB, (hk g cur rfl hg).trans hg, r⟩
theorem own_ne {g t : Nat} {cs : Array Value} (h : w.ownsRow B e z v n vs) (hg : w.heap[g]? = some (.cells cs t (0, 0))) (hne : e ≠ t) : v.ownBlock ≠ some g := by
  intro hb
  rcases h.2 with ⟨rfl, _⟩ | ⟨g', cap, cur, rfl, hB, hg', _⟩
  · simp [Value.ownBlock] at hb
  · simp [Value.ownBlock] at hb
    subst hb
    rw [hg] at hg'
    injection hg' with hg'
    injection hg' with _ hg'
    exact hne hg'.symm
theorem own_form (h : w.ownsRow B e z v n vs) : ∃ ao c, v = .slice ao n c ∧ n ≤ c ∧ c ≤ maxLen := by
  rcases h.2 with ⟨rfl, rfl⟩ | ⟨g', cap', cur, rfl, _, _, h1, h2, _⟩
  · exact ⟨none, 0, rfl, Nat.le_refl _, by decide⟩
  · exact ⟨_, _, rfl, h1, h2⟩
end
/-- A channel of type T, its flights of type E, at block q. -/
structure St (T E B : Nat) (w : World) (q : Nat) (v : Value) (n : Int) (l : List Fl) : Prop where
  hq : B ≤ q
  at_ : w.heap[q]? = some (.cells #[v, .int .i64 n] T (0, 0))
  own : w.ownsRow B E 3 v l.length (flat l)
  ne : E ≠ T
/-- From w on only blocks of these two types were written, of those that were, and none below B. -/
structure TM (T E B : Nat) (w w' : World) : Prop where
  bl : Below B w w'
  kp : ∀ (b : Nat) (cs : Array Value) (t : TypeId), w.heap[b]? = some (.cells cs t (0, 0)) → t ≠ T → t ≠ E → w'.heap[b]? = w.heap[b]?
theorem TM.refl (T E B : Nat) (w : World) : TM T E B w w := ⟨Below.refl _ _, fun _ _ _ _ _ _ => rfl⟩
theorem TM.trans {T E B : Nat} {a b c : World} (h : TM T E B a b) (k : TM T E B b c) : TM T E B a c :=
  ⟨h.bl.trans k.bl, fun x cs t hx h1 h2 => (k.kp x cs t ((h.kp x cs t hx h1 h2).trans hx) h1 h2).trans (h.kp x cs t hx h1 h2)⟩
theorem TM.of_below {T E B : Nat} {w w' : World} (hB : B ≤ w.heap.size) (h : Below w.heap.size w w') : TM T E B w w' :=
  ⟨h.mono hB, fun b _ _ hb _ _ => h.block b (block_lt hb)⟩
theorem TM.size {T E B : Nat} {w w' : World} (h : TM T E B w w') : w.heap.size ≤ w'.heap.size := h.bl.size
section
variable {T E B q : Nat} {w w' : World} {v : Value} {n : Int} {l : List Fl}
theorem St.c0 (h : St T E B w q v n l) : w.cell? ⟨q, 0, none⟩ = some v := block_cell h.at_ 0
theorem St.c1 (h : St T E B w q v n l) : w.cell? ⟨q, 1, none⟩ = some (.int .i64 n) := block_cell h.at_ 1
theorem St.f (h : St T E B w q v n l) (i : Nat) : w.frozen? ⟨q, i, none⟩ = false := block_free h.at_ i
theorem St.lt (h : St T E B w q v n l) : q < w.heap.size := block_lt h.at_
theorem St.form (h : St T E B w q v n l) : ∃ ao c, v = .slice ao l.length c ∧ l.length ≤ c ∧ c ≤ maxLen := own_form h.own
theorem St.vne (h : St T E B w q v n l) : v.ownBlock ≠ some q := own_ne h.own h.at_ h.ne
/-- A flight, read. -/
theorem St.el {ao : Option Addr} {m c : Nat} (h : St T E B w q (.slice ao m c) n l) (k : Nat) (hk : k < l.length) :
    ∃ g, ao = some ⟨g, 0, none⟩ ∧ g < w.heap.size ∧ g ≠ q ∧ w.cell? ⟨g, k * 3, none⟩ = some (.int .i64 (l[k]).1) ∧ w.cell? ⟨g, k * 3 + 1, none⟩ = some (.bool (l[k]).2.1) ∧ w.cell? ⟨g, k * 3 + 2, none⟩ = some (.string (l[k]).2.2) := by
  have hne := h.vne
  rcases h.own.2 with ⟨h0, h1⟩ | ⟨g, cap', cur, hv, hB, hb, h1, h2, _⟩
  · omega
  · cases hv
    have e := flat_get l k hk
    have hc := h.own.cells rfl
    refine ⟨g, rfl, block_lt hb, fun e => hne (by simp [Value.ownBlock, e]), ?_, ?_, ?_⟩
    · have := hc (k * 3) _ e.1; rwa [adh] at this
    · have := hc (k * 3 + 1) _ e.2.1; rwa [adh] at this
    · have := hc (k * 3 + 2) _ e.2.2; rwa [adh] at this
theorem St.far (h : St T E B w q v n l) (hk : ∀ (b : Nat) (cs : Array Value) (t : TypeId), w.heap[b]? = some (.cells cs t (0, 0)) → t = T ∨ t = E → w'.heap[b]? = w.heap[b]?) : St T E B w' q v n l :=
  ⟨h.hq, (hk q _ _ h.at_ (.inl rfl)).trans h.at_, own_blk h.own fun g cur _ hg => hk g cur _ hg (.inr rfl), h.ne⟩
theorem St.kept (h : St T E B w q v n l) (hb : Below w.heap.size w w') : St T E B w' q v n l := h.far fun b _ _ hh _ => hb.block b (block_lt hh)
theorem St.other {T' E' : Nat} (h : St T E B w q v n l) (hm : TM T' E' B w w') (h1 : T ≠ T') (h2 : T ≠ E') (h3 : E ≠ T') (h4 : E ≠ E') : St T E B w' q v n l :=
  h.far fun b cs t hb ht => hm.kp b cs t hb (by rcases ht with rfl | rfl <;> assumption) (by rcases ht with rfl | rfl <;> assumption)
/-- The number of lost ones, turned. -/
theorem St.setN (h : St T E B w q v n l) (m : Int) : St T E B (w.setCell ⟨q, 1, none⟩ (.int .i64 m)) q v m l := by
  refine ⟨h.hq, ?_, own_blk h.own fun g cur hg _ => Below.heap_setCell w ⟨q, 1, none⟩ _ g ?_, h.ne⟩
  · simp [World.setCell, Array.getElem?_modify, h.at_]
  · rintro rfl
    exact h.vne hg
/-- The slice, turned. -/
theorem St.setV (h : St T E B w q v n l) {w1 : World} {u : Value} {l' : List Fl} (hq : w1.heap[q]? = w.heap[q]?) (hown : w1.ownsRow B E 3 u l'.length (flat l')) : St T E B (w1.setCell ⟨q, 0, none⟩ u) q u n l' := by
  have hq' := hq.trans h.at_
  refine ⟨h.hq, ?_, own_blk hown fun g cur hg hc => Below.heap_setCell w1 ⟨q, 0, none⟩ _ g ?_, h.ne⟩
  · simp [World.setCell, Array.getElem?_modify, hq']
  · rintro rfl
    exact own_ne hown hq' h.ne hg
theorem TM.set (h : St T E B w q v n l) (i : Nat) (u : Value) {w1 : World} (hm : TM T E B w w1) : TM T E B w (w1.setCell ⟨q, i, none⟩ u) := by
  refine ⟨hm.bl.setCell h.hq _, fun b cs t hb h1 h2 => (Below.heap_setCell w1 ⟨q, i, none⟩ _ b ?_).trans (hm.kp b cs t hb h1 h2)⟩
  rintro rfl
  rw [h.at_] at hb
  injection hb with hb
  injection hb with _ hb
  exact h1 hb.symm
/-- Behind an append to the flights. -/
theorem TM.grown (h : St T E B w q v n l) {w1 w2 : World} (hm : Below w.heap.size w w1) (hg : w1.grownBy w2 v.ownBlock) : TM T E B w w2 ∧ w2.heap[q]? = w.heap[q]? := by
  have hlt := h.lt
  have st : ∀ b, b < w.heap.size → some b ≠ v.ownBlock → w2.heap[b]? = w.heap[b]? := fun b hb hne => (hg.block b (Nat.lt_of_lt_of_le hb hm.size) hne).trans (hm.block b hb)
  refine ⟨⟨⟨hg.os.trans hm.os, hg.tape.trans hm.tape, hg.output.trans hm.output, Nat.le_trans hm.size hg.size, fun b hb => st b (by have := h.hq; omega) fun e => ?_⟩, fun b cs t hb h1 h2 => st b (block_lt hb) fun e => ?_⟩, st q hlt (Ne.symm h.vne)⟩
  · have := (h.own.lt b e.symm).1
    omega
  · exact own_ne h.own hb (Ne.symm h2) e.symm
end
end Ch
end Go.Proofs.Ythmglahcampllaa
