/- What is proved here: what the reference's clocks answer. Condition: they lie in memory of the call's own. -/
import Derived.Test.YtgpeekmagckgcaaK7
import Derived.Test.YtgpeekmagckgcaaK5
import Derived.RegionTactic
import Derived.BigRegion
namespace Go.Proofs.Ytgpeekmagckgcaa
open Go Go.RowKit
attribute [local go_sem] KW.cell KW.frozen

/-- A clock of the reference: start, rate, the slice of its pieces, the pieces. -/
structure Rr where
  s : Int
  r : Int
  v : Value
  ps : List (Int × Int)
def rflat (l : List Rr) : List Value := l.flatMap fun c => [.int .i64 c.s, .int .i64 c.r, c.v]
theorem rflat_len (l : List Rr) : (rflat l).length = l.length * 3 := by
  induction l with
  | nil => rfl
  | cons o l ih => simp only [rflat, List.flatMap_cons, List.length_append, List.length_cons, List.length_nil] at *; omega
theorem rflat_append (a b : List Rr) : rflat (a ++ b) = rflat a ++ rflat b := by simp [rflat]
theorem rflat_get (l : List Rr) : ∀ (i : Nat) (h : i < l.length), (rflat l)[i * 3]? = some (.int .i64 (l[i]).s) ∧ (rflat l)[i * 3 + 1]? = some (.int .i64 (l[i]).r) ∧ (rflat l)[i * 3 + 2]? = some (l[i]).v := by
  induction l with
  | nil => intro i h; cases h
  | cons o l ih =>
    intro i h
    cases i with
    | zero => exact ⟨rfl, rfl, rfl⟩
    | succ i =>
      have := ih i (by simpa using h)
      have e1 : (i + 1) * 3 = i * 3 + 1 + 1 + 1 := by omega
      rw [e1]
      exact ⟨by simpa [rflat] using this.1, by simpa [rflat] using this.2.1, by simpa [rflat] using this.2.2⟩
def pflat (l : List (Int × Int)) : List Value := l.flatMap fun c => [.int .i64 c.1, .int .i64 c.2]
theorem pflat_len (l : List (Int × Int)) : (pflat l).length = l.length * 2 := by
  induction l with
  | nil => rfl
  | cons o l ih => simp only [pflat, List.flatMap_cons, List.length_append, List.length_cons, List.length_nil] at *; omega
theorem pflat_append (a b : List (Int × Int)) : pflat (a ++ b) = pflat a ++ pflat b := by simp [pflat]
theorem pflat_get (l : List (Int × Int)) : ∀ (i : Nat) (h : i < l.length), (pflat l)[i * 2]? = some (.int .i64 (l[i]).1) ∧ (pflat l)[i * 2 + 1]? = some (.int .i64 (l[i]).2) := by
  induction l with
  | nil => intro i h; cases h
  | cons o l ih =>
    intro i h
    cases i with
    | zero => exact ⟨rfl, rfl⟩
    | succ i =>
      have := ih i (by simpa using h)
      have e1 : (i + 1) * 2 = i * 2 + 1 + 1 := by omega
      rw [e1]
      exact ⟨by simpa [pflat] using this.1, by simpa [pflat] using this.2⟩
namespace Pl
/-- What pieces sum up to; how long they are. -/
def psum (l : List (Int × Int)) : Int := (l.map fun p => p.1 * p.2).sum
def ptime (l : List (Int × Int)) : Int := (l.map fun p => p.1).sum
def pgood (l : List (Int × Int)) : Prop := ∀ p ∈ l, 0 ≤ p.1 ∧ -500 ≤ p.2 ∧ p.2 ≤ 500
theorem psum_bd : ∀ (l : List (Int × Int)), pgood l → 0 ≤ ptime l ∧ -(500 * ptime l) ≤ psum l ∧ psum l ≤ 500 * ptime l := by
  intro l
  induction l with
  | nil => intro _; exact ⟨by decide, by decide, by decide⟩
  | cons p l ih =>
    intro h
    obtain ⟨h1, h2, h3⟩ := ih fun q hq => h q (List.mem_cons_of_mem _ hq)
    obtain ⟨g1, g2, g3⟩ := h p (List.mem_cons_self ..)
    have a1 : p.1 * p.2 ≤ p.1 * 500 := Int.mul_le_mul_of_nonneg_left g3 g1
    have a2 : p.1 * (-500) ≤ p.1 * p.2 := Int.mul_le_mul_of_nonneg_left g2 g1
    simp only [psum, ptime, List.map_cons, List.sum_cons] at *
    omega
theorem psum_snoc (l : List (Int × Int)) (p : Int × Int) : psum (l ++ [p]) = psum l + p.1 * p.2 := by simp [psum]
theorem ptime_snoc (l : List (Int × Int)) (p : Int × Int) : ptime (l ++ [p]) = ptime l + p.1 := by simp [ptime]
theorem pgood_take {l : List (Int × Int)} (h : pgood l) (k : Nat) : pgood (l.take k) := fun p hp => h p (List.mem_of_mem_take hp)
theorem ptime_take {l : List (Int × Int)} (h : pgood l) (k : Nat) : ptime (l.take k) ≤ ptime l := by
  have e : ptime l = ptime (l.take k) + ptime (l.drop k) := by
    unfold ptime
    rw [← List.sum_append, ← List.map_append, List.take_append_drop]
  have := (psum_bd (l.drop k) fun p hp => h p (List.mem_of_mem_drop hp)).1
  omega
def view (l : List Rr) : List Cl := l.map fun c => (c.s, c.r, psum c.ps)
end Pl
/-- The reference's clocks lie at block q, their row at block g, each one's pieces in a block of their own, all from B on. -/
structure Rc (B : Nat) (w : World) (q g cap : Nat) (real most : Int) (l : List Rr) (T : Nat) : Prop where
  hq : B ≤ q
  at_ : w.heap[q]? = some (.cells #[.int .i64 real, .int .i64 most, .slice (some ⟨g, 0, none⟩) l.length cap] 51 (0, 0))
  own : w.ownsRow B 100 3 (.slice (some ⟨g, 0, none⟩) l.length cap) l.length (rflat l)
  inn : ∀ i (h : i < l.length), w.ownsRow B 102 2 (l[i]).v (l[i]).ps.length (pflat (l[i]).ps)
  sep : ∀ i j (hi : i < l.length) (hj : j < l.length), i ≠ j → (l[i]).v.ownBlock = none ∨ (l[i]).v.ownBlock ≠ (l[j]).v.ownBlock
  good : ∀ c ∈ l, Pl.pgood c.ps ∧ Pl.ptime c.ps ≤ real ∧ c.ps.length ≤ T
section
variable {B : Nat} {w : World} {q g cap T : Nat} {real most : Int} {l : List Rr}
theorem Rc.c0 (h : Rc B w q g cap real most l T) : w.cell? ⟨q, 0, none⟩ = some (.int .i64 real) := block_cell h.at_ 0
theorem Rc.c1 (h : Rc B w q g cap real most l T) : w.cell? ⟨q, 1, none⟩ = some (.int .i64 most) := block_cell h.at_ 1
theorem Rc.c2 (h : Rc B w q g cap real most l T) : w.cell? ⟨q, 2, none⟩ = some (.slice (some ⟨g, 0, none⟩) l.length cap) := block_cell h.at_ 2
theorem Rc.fq (h : Rc B w q g cap real most l T) (i : Nat) : w.frozen? ⟨q, i, none⟩ = false := block_free h.at_ i
theorem Rc.fg (h : Rc B w q g cap real most l T) (i : Nat) : w.frozen? ⟨g, i, none⟩ = false := h.own.frozenAt i
theorem Rc.le (h : Rc B w q g cap real most l T) : l.length ≤ cap ∧ cap ≤ maxLen := by
  rcases h.own.2 with ⟨h0, _⟩ | ⟨g', cap', cur, hv, _, _, h1, h2, _⟩
  · cases h0
  · cases hv; exact ⟨h1, h2⟩
theorem Rc.el (h : Rc B w q g cap real most l T) (i : Nat) (hi : i < l.length) : w.cell? ⟨g, i * 3, none⟩ = some (.int .i64 (l[i]).s) ∧ w.cell? ⟨g, i * 3 + 1, none⟩ = some (.int .i64 (l[i]).r) ∧ w.cell? ⟨g, i * 3 + 2, none⟩ = some (l[i]).v := by
  have e := rflat_get l i hi
  have hl := rflat_len l
  refine ⟨(h.own.cellAt (i * 3) (by omega)).trans e.1, (h.own.cellAt (i * 3 + 1) (by omega)).trans e.2.1, (h.own.cellAt (i * 3 + 2) (by omega)).trans e.2.2⟩
theorem own_form {e z n : Nat} {v : Value} {vs : List Value} (h : w.ownsRow B e z v n vs) : ∃ ao c, v = .slice ao n c := by
  rcases h.2 with ⟨rfl, rfl⟩ | ⟨g', cap', cur, rfl, _⟩
  · exact ⟨none, 0, rfl⟩
  · exact ⟨_, _, rfl⟩
/-- A piece, read. -/
theorem piece_at {ao : Option Addr} {n c : Nat} {ps : List (Int × Int)} (h : w.ownsRow B 102 2 (.slice ao n c) ps.length (pflat ps)) (k : Nat) (hk : k < ps.length) :
    ∃ b, ao = some ⟨b, 0, none⟩ ∧ b < w.heap.size ∧ w.cell? ⟨b, k * 2, none⟩ = some (.int .i64 (ps[k]).1) ∧ w.cell? ⟨b, k * 2 + 1, none⟩ = some (.int .i64 (ps[k]).2) := by
  obtain ⟨ao', c', e⟩ := own_form h
  rcases h.2 with ⟨h0, h1⟩ | ⟨b, cap', cur, hv, hB, hb, h1, h2, _⟩
  · omega
  · cases hv
    have e := pflat_get ps k hk
    have hl := pflat_len ps
    exact ⟨b, rfl, block_lt hb, (h.cellAt (k * 2) (by omega)).trans e.1, (h.cellAt (k * 2 + 1) (by omega)).trans e.2⟩
/-- Turned by what keeps its blocks. -/
theorem Rc.far {w' : World} (h : Rc B w q g cap real most l T) (hb : ∀ (b : Nat) (cs : Array Value) (t : TypeId), w.heap[b]? = some (Obj.cells cs t (0, 0)) → t = 51 ∨ t = 100 ∨ t = 102 → w'.heap[b]? = w.heap[b]?) : Rc B w' q g cap real most l T := by
  obtain ⟨cur, hg, _⟩ := own_block h.own
  refine ⟨h.hq, (hb q _ _ h.at_ (.inl rfl)).trans h.at_, own_at h.own (hb g _ _ hg (.inr (.inl rfl))), fun i hi => ?_, h.sep, h.good⟩
  have hx := h.inn i hi
  refine own_blk hx fun b hbk => ?_
  rcases hx.2 with ⟨h0, _⟩ | ⟨g', cap', cur, hv, _, hh, _⟩
  · rw [h0] at hbk; simp [Value.ownBlock] at hbk
  · rw [hv] at hbk
    have : g' = b := by simpa [Value.ownBlock] using hbk
    subst this
    exact hb g' _ _ hh (.inr (.inr rfl))
theorem Rc.kept {w' : World} (h : Rc B w q g cap real most l T) (hb : Below w.heap.size w w') : Rc B w' q g cap real most l T :=
  h.far fun b _ _ hh _ => hb.block b (block_lt hh)
theorem Rc.drewN (h : Rc B w q g cap real most l T) (n : Nat) : Rc B (w.drewN n) q g cap real most l T := h.far fun _ _ _ _ _ => rfl
theorem view_len (l : List Rr) : (Pl.view l).length = l.length := by simp [Pl.view]

theorem ris_c (i : Int) (h : Rc B w q g cap real most l T) : Calls Try.prog 34 #[.pointer (some ⟨q, 0, none⟩), .int .i64 i] w fun e w' => e = .returned (.bool (thereB l.length i)) ∧ w = w' := by
  have c2 := h.c2
  obtain ⟨l1, l2⟩ := h.le
  clear h
  by_cases h0 : 0 ≤ i
  · by_cases h1 : i < (l.length : Int)
    · rw [thereB_iff.2 ⟨h0, h1⟩]
      go_enter Try.func34, Try.ntmps34
      go_wp2
      go_ret
      exact ⟨rfl, rfl⟩
    · rw [thereB_no (fun h => h1 h.2)]
      go_enter Try.func34, Try.ntmps34
      go_wp2
      go_ret
      exact ⟨rfl, rfl⟩
  · rw [thereB_no (fun h => h0 h.1)]
    go_enter Try.func34, Try.ntmps34
    go_wp2
    go_ret
    exact ⟨rfl, rfl⟩
end
end Go.Proofs.Ytgpeekmagckgcaa
