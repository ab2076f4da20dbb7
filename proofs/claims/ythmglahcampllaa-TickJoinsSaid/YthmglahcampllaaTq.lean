/- What is proved here: what the pile of package tick does (pop). Condition: where it is said. -/
import Derived.Test.YthmglahcampllaaTp
namespace Go.Proofs.Ythmglahcampllaa
open Go Go.RowKit
attribute [local go_sem] assert34

abbrev argE : Ending := .panicked [{ v := .iface 34 (.int .i64 2), recovered := false }]

set_option maxHeartbeats 1000000 in
theorem pop_empty (B b : Nat) (w : World) (hp : Pile B b [] w) :
    Calls Try.prog 55 #[.pointer (some ⟨b, 0, none⟩)] w fun e w' => e = argE ∧ w = w' := by
  obtain ⟨v, hv, hBb, hvb, hown⟩ := hp
  have hc : w.cell? ⟨b, 0, none⟩ = some v := block_cell hv 0
  rcases hown.2 with ⟨rfl, _⟩ | ⟨g, cap, cur, rfl, _⟩
  all_goals
    clear hown hvb hv
    go_enter Try.func55, Try.ntmps55
    go_wp2
    exact ⟨rfl, rfl, rfl⟩

set_option maxHeartbeats 1000000 in
theorem pop_ok (B b : Nat) (ys : List Int) (n : Int) (w : World) (hp : Pile B b (ys ++ [n]) w) (_hB : B ≤ w.heap.size) (hl : ys.length ≤ 1000) :
    Calls Try.prog 55 #[.pointer (some ⟨b, 0, none⟩)] w fun e w' => e = .returned (.int .i64 n) ∧ Pile B b ys w' ∧ Below B w w' ∧ w.grownBy w' (some b) := by
  obtain ⟨v, hv, hBb, hvb, hown⟩ := hp
  have hc : w.cell? ⟨b, 0, none⟩ = some v := block_cell hv 0
  have hf : w.frozen? ⟨b, 0, none⟩ = false := block_free hv 0
  have hlt := block_lt hv
  rcases hown.2 with ⟨_, h0⟩ | ⟨g, cap, cur, rfl, hBg, hg, hnc, hcm, hcs, htake⟩
  · simp at h0
  have hcur : cur[ys.length]? = some (.int .i64 n) := by
    have := congrArg (fun l => l[ys.length]?) htake
    simp at this
    exact this
  have hcell : w.cell? ⟨g, ys.length, none⟩ = some (.int .i64 n) := (block_cell hg ys.length).trans hcur
  have e1 : ((ys ++ [n]).length : Int) = (ys.length : Int) + 1 := by simp
  simp only [List.length_append, List.length_cons, List.length_nil, Nat.zero_add] at hc hnc
  have e2 : ((ys.length : Int) + 1 == 0) = false := by rw [beq_eq_false_iff_ne]; omega
  have e3 : IntKind.i64.wrap ((ys.length : Int) + 1 - 1) = (ys.length : Int) := by rw [IntWalk.i64_in _ (by omega)]; omega
  have E := Lib.hid e1
  have hgb := Lib.hid hvb
  have HV := Lib.hid hv
  have HO := Lib.hid hown
  have HG := Lib.hid hg
  have HT := Lib.hid htake
  have HS := Lib.hid hcs
  clear e1 hv hown hg htake hcs hcur hvb
  go_enter Try.func55, Try.ntmps55
  go_wp2_with fail
  go_quiet (fail)
  go_wp2_with fail
  refine wp_region_dw 12 (by kernel_rfl) (by kernel_rfl) ?_
  simp only [List.take_succ_cons, List.take_zero, List.drop_succ_cons, List.drop_zero]
  repeat (first | go_big_quiet_step (fail) | quiet_step (fail))
  refine wpQuiet_nil ?_
  intro k
  go_wp2
  go_ret
  refine ⟨rfl, pile_set (HV.out) hBb ?_ ?_, ?_, ?_⟩
  · have h := hgb
    simpa [Value.ownBlock] using h.out
  · have ht := HT.out
    have hs := HS.out
    refine ⟨by simp, .inr ⟨g, cap, cur, rfl, hBg, HG.out, by omega, hcm, hs, ?_⟩⟩
    have := congrArg (fun l => l.take ys.length) ht
    simp [List.take_take] at this
    simpa using this
  · exact (below_drewN (Below.refl B w) _).setCell hBb _
  · exact ⟨rfl, rfl, rfl, by simp [World.setCell], fun i _ hne => Below.heap_setCell _ _ _ _ (fun e => hne (by rw [e]))⟩
end Go.Proofs.Ythmglahcampllaa
