/- What is proved here: how real time goes on for the reference's clocks. Condition: they lie in memory of the call's own. -/
import Derived.Test.YtgpeekmagckgcaaR3
import Derived.Deep.RegionLaw
import Derived.Deep.AppendLies
namespace Go.Proofs.Ytgpeekmagckgcaa
open Go Go.RowKit
attribute [local go_sem] KW.cell KW.frozen

theorem Try.info102 : (Try.prog.info? 102).map (fun i => (i.zero, i.size, i.bytes)) = some (some (.agg #[.int .i64 0, .int .i64 0]), 2, 16) := by kernel_rfl
/-- A row, turned. -/
def Rr.push (c : Rr) (n : Int) (v : Value) : Rr := ⟨c.s, c.r, v, c.ps ++ [(n, c.r)]⟩
section
variable {B : Nat} {w w' : World} {q g cap T : Nat} {real most : Int} {l : List Rr}
theorem Rc.setReal (h : Rc B w q g cap real most l T) (r : Int) (hr : real ≤ r) : Rc B (w.setCell ⟨q, 0, none⟩ (.int .i64 r)) q g cap r most l T := by
  refine ⟨h.hq, ?_, own_at h.own (Below.heap_setCell w ⟨q, 0, none⟩ _ g (Ne.symm h.ne)), fun i hi => ?_, h.sep, fun c hc => ?_⟩
  · simp [World.setCell, Array.getElem?_modify, h.at_]
  · refine own_blk (h.inn i hi) fun b hb => Below.heap_setCell w ⟨q, 0, none⟩ _ b ?_
    rintro rfl
    exact (h.vne i hi).1 hb
  · have := h.good c hc
    exact ⟨this.1, by omega, this.2.2⟩
theorem Rc.more (h : Rc B w q g cap real most l T) : Rc B w q g cap real most l (T + 1) :=
  ⟨h.hq, h.at_, h.own, h.inn, h.sep, fun c hc => by have := h.good c hc; exact ⟨this.1, this.2.1, by omega⟩⟩
/-- Behind the append to the pieces of clock k: the other blocks are as they were. -/
theorem Rc.grown {w1 : World} {o : Obj} (h : Rc B w q g cap real most l T) (k : Nat) (hk : k < l.length) (hg : (w.alloc o).grownBy w1 (l[k]).v.ownBlock) :
    w1.heap[q]? = w.heap[q]? ∧ w1.heap[g]? = w.heap[g]? ∧ ∀ i (hi : i < l.length), i ≠ k → ∀ b, (l[i]).v.ownBlock = some b → w1.heap[b]? = w.heap[b]? := by
  have hq := block_lt h.at_
  have hgl := h.hgB.2
  have step : ∀ b, b < w.heap.size → some b ≠ (l[k]).v.ownBlock → w1.heap[b]? = w.heap[b]? := fun b hb hne =>
    (hg.block b (by simp; omega) hne).trans (Below.heap_alloc w o b hb)
  refine ⟨step q hq (Ne.symm (h.vne k hk).1), step g hgl (Ne.symm (h.vne k hk).2), fun i hi hne b hb => step b ((h.inn i hi).lt b hb).2 fun e => ?_⟩
  rcases h.sep i k hi hk hne with h0 | h0
  · rw [h0] at hb; cases hb
  · exact h0 (hb.trans e)
theorem Rc.pushed {w1 : World} {o : Obj} {b' cap' : Nat} (h : Rc B w q g cap real most l T) (k : Nat) (hk : k < l.length) (n : Int) (hg : (w.alloc o).grownBy w1 (l[k]).v.ownBlock)
    (hown : w1.ownsRow B 102 2 (.slice (some ⟨b', 0, none⟩) ((l[k]).ps.length + 1) cap') ((l[k]).ps.length + 1) (pflat (l[k]).ps ++ [.int .i64 n, .int .i64 (l[k]).r]))
    (hb : (l[k]).v.ownBlock = some b' ∨ b' = w.heap.size + 1)
    (hgood : Pl.pgood ((l[k]).ps ++ [(n, (l[k]).r)]) ∧ Pl.ptime ((l[k]).ps ++ [(n, (l[k]).r)]) ≤ real ∧ ((l[k]).ps ++ [(n, (l[k]).r)]).length ≤ T) :
    Rc B (w1.setCell ⟨g, k * 3 + 2, none⟩ (.slice (some ⟨b', 0, none⟩) ((l[k]).ps.length + 1) cap')) q g cap real most (l.set k ((l[k]).push n (.slice (some ⟨b', 0, none⟩) ((l[k]).ps.length + 1) cap'))) T := by
  obtain ⟨hq1, hg1, hi1⟩ := h.grown k hk hg
  have ho1 := own_at h.own hg1
  have e := rflat_get l k hk
  have hs := (ho1.stored (k * 3 + 2) (.slice (some ⟨b', 0, none⟩) ((l[k]).ps.length + 1) cap')).1
  have hbg : b' ≠ g := by
    rintro rfl
    obtain ⟨cur, hx, _⟩ := own_block hown
    obtain ⟨cur2, hy, _⟩ := own_block h.own
    rw [hg1, hy] at hx
    injection hx with hx
    injection hx with _ hx
    cases hx
  have nb : ∀ i (hi : i < l.length), i ≠ k → (l[i]).v.ownBlock ≠ some b' := by
    intro i hi hne e2
    rcases hb with hb | hb
    · rcases h.sep i k hi hk hne with h0 | h0
      · rw [h0] at e2; cases e2
      · exact h0 (e2.trans hb.symm)
    · have := ((h.inn i hi).lt b' e2).2
      omega
  refine ⟨h.hq, ?_, ?_, fun i hi => ?_, fun i j hi hj hne => ?_, fun c hc => ?_⟩
  · rw [List.length_set]
    exact (Below.heap_setCell w1 ⟨g, k * 3 + 2, none⟩ _ q h.ne).trans (hq1.trans h.at_)
  · rw [List.length_set, rflat_set l k hk]
    show World.ownsRow _ B 100 3 _ _ ((((rflat l).set (k * 3) (.int .i64 (l[k]).s)).set (k * 3 + 1) (.int .i64 (l[k]).r)).set (k * 3 + 2) _)
    rw [set_same e.1, set_same e.2.1]
    exact hs
  · have hi' : i < l.length := by simpa using hi
    by_cases hki : k = i
    · subst hki
      simp only [List.getElem_set_self]
      have e2 : (pflat ((l[k]).push n (.slice (some ⟨b', 0, none⟩) ((l[k]).ps.length + 1) cap')).ps) = pflat (l[k]).ps ++ [.int .i64 n, .int .i64 (l[k]).r] := by simp [Rr.push, pflat]
      have e3 : ((l[k]).push n (.slice (some ⟨b', 0, none⟩) ((l[k]).ps.length + 1) cap')).ps.length = (l[k]).ps.length + 1 := by simp [Rr.push]
      rw [e2, e3]
      exact own_at hown (Below.heap_setCell w1 ⟨g, k * 3 + 2, none⟩ _ b' hbg)
    · rw [List.getElem_set_ne hki]
      refine own_blk (h.inn i hi') fun b hbb => (Below.heap_setCell w1 ⟨g, k * 3 + 2, none⟩ _ b ?_).trans (hi1 i hi' (Ne.symm hki) b hbb)
      rintro rfl
      exact (h.vne i hi').2 hbb
  · have hi' : i < l.length := by simpa using hi
    have hj' : j < l.length := by simpa using hj
    by_cases hki : k = i
    · subst hki
      rw [List.getElem_set_self, List.getElem_set_ne hne]
      exact .inr fun e2 => nb j hj' (Ne.symm hne) (e2.symm.trans rfl)
    · rw [List.getElem_set_ne hki]
      by_cases hkj : k = j
      · subst hkj
        rw [List.getElem_set_self]
        exact .inr fun e2 => nb i hi' (Ne.symm hki) (e2.trans rfl)
      · rw [List.getElem_set_ne hkj]
        exact h.sep i j hi' hj' hne
  · rcases List.mem_or_eq_of_mem_set hc with hc | rfl
    · exact h.good c hc
    · exact hgood
theorem RM.grown {w0 w1 : World} {o : Obj} (hm : RM B w0 w) (h : Rc B w q g cap real most l T) (hB : B ≤ w.heap.size) (k : Nat) (hk : k < l.length) (hg : (w.alloc o).grownBy w1 (l[k]).v.ownBlock) : RM B w0 w1 := by
  refine hm.trans ⟨?_, fun b cs t hb h1 h2 h3 => ?_⟩
  · exact below_grown3 ((Below.refl _ _).alloc hB o) (by simp; omega) hg (h.inn k hk)
  · have hlt := block_lt hb
    refine (hg.block b (by simp; omega) ?_).trans (Below.heap_alloc w o b hlt)
    exact Ne.symm (own_ne (h.inn k hk) hb (Ne.symm h3))
end
end Go.Proofs.Ytgpeekmagckgcaa
