/- What is proved here: mine of the law lays the operations in a slice of its own. Condition: the operations can be read. -/
import Derived.Test.YthmglahcampllaaTz
import Derived.Deep.RegionLaw
namespace Go.Proofs.Ythmglahcampllaa
open Go Go.RowKit

theorem below_grown3 {B n e z : Nat} {w wx w1 w2 : World} {v : Value} {vs : List Value} (h : Below B w w1) (hB : B ≤ w1.heap.size) (hg : w1.grownBy w2 v.ownBlock) (hown : wx.ownsRow B e z v n vs) : Below B w w2 := by
  refine h.grown hg hB fun k hk => ?_
  rcases hown.2 with ⟨rfl, _⟩ | ⟨g, cap, cur, rfl, hg', _⟩
  · simp [Value.ownBlock] at hk
  · simp [Value.ownBlock] at hk
    omega

def flat (os : List (Int × Int)) : List Value := os.flatMap fun o => [.int .i64 o.1, .int .i64 o.2]
theorem flat_len (os : List (Int × Int)) : (flat os).length = os.length * 2 := by
  induction os with
  | nil => rfl
  | cons o os ih => simp only [flat, List.flatMap_cons, List.length_append, List.length_cons, List.length_nil] at *; omega
theorem flat_append (a b : List (Int × Int)) : flat (a ++ b) = flat a ++ flat b := by simp [flat]
theorem flat_get (os : List (Int × Int)) : ∀ (i : Nat) (h : i < os.length), (flat os)[i * 2]? = some (.int .i64 (os[i]).1) ∧ (flat os)[i * 2 + 1]? = some (.int .i64 (os[i]).2) := by
  induction os with
  | nil => intro i h; cases h
  | cons o os ih =>
    intro i h
    cases i with
    | zero => exact ⟨rfl, rfl⟩
    | succ i =>
      have := ih i (by simpa using h)
      have e1 : (i + 1) * 2 = i * 2 + 1 + 1 := by omega
      rw [e1]
      exact ⟨by simpa [flat] using this.1, by simpa [flat] using this.2⟩

/-- A slice of the call's own reads as its operations. -/
theorem ops_of_own {B : Nat} {v : Value} {os : List (Int × Int)} {w : World} (h : w.ownsRow B 43 2 v os.length (flat os)) : Ops v os w := by
  rcases h.2 with ⟨rfl, h0⟩ | ⟨g, cap, cur, rfl, hB, hg, h1, h2, _⟩
  · exact .inl ⟨rfl, List.eq_nil_of_length_eq_zero h0⟩
  · refine .inr ⟨g, cap, rfl, block_lt hg, h1, h2, fun i hi => ?_⟩
    have e := flat_get os i hi
    have a := h.cells rfl _ _ e.1
    have b := h.cells rfl _ _ e.2
    rw [add_head] at a b
    exact ⟨a, b⟩

theorem Try.info43 : (Try.prog.info? 43).map (fun i => (i.zero, i.size, i.bytes)) = some (some (.agg #[.int .i64 0, .int .i64 0]), 2, 16) := by kernel_rfl

set_option maxRecDepth 100000 in
set_option maxHeartbeats 2000000 in
theorem mine_run (ad : Addr) (cap : Nat) (os : List (Int × Int)) (w : World) (hlen : os.length ≤ 1000) (hg0 : 0 < os.length → ad.block < w.heap.size)
    (hc : ∀ i (h : i < os.length), w.cell? (ad.add (i * 2)) = some (.int .i64 (os[i]).1) ∧ w.cell? (ad.add (i * 2 + 1)) = some (.int .i64 (os[i]).2)) :
    Calls Try.prog 19 #[.slice (some ad) os.length cap] w fun e w' => ∃ v, e = .returned v ∧ Below w.heap.size w w' ∧ w'.ownsRow w.heap.size 43 2 v os.length (flat os) := by
  obtain ⟨i0, hi, hz0, hz1, hz2⟩ := info_parts Try.info43
  have HC := Lib.hid hc
  clear hc
  go_enter Try.func19, Try.ntmps19
  go_wp2_with fail
  go_loopw [3, 4] (fun v i wr => ∃ (k : Nat), i = .int .i64 k ∧ k ≤ os.length ∧ wr.ownsRow w.heap.size 43 2 v k (flat (os.take k)) ∧ Below w.heap.size w wr) (fun _ i _ => os.length - (intOf i).toNat)
  case atStart => exact ⟨0, rfl, Nat.zero_le _, ⟨rfl, .inl ⟨rfl, rfl⟩⟩, Below.refl _ _⟩
  case round =>
    obtain ⟨k, rfl, hk, hown, hb⟩ := hrel
    have hs := hb.size
    by_cases hlt : k < os.length
    · have hg := hg0 (by omega)
      have hcs := HC.out k hlt
      have c0 : wr.cell? (ad.add (k * 2)) = some (.int .i64 (os[k]).1) := (hb.cell (p := ad.add (k * 2)) (by rw [add_block]; exact hg)).trans hcs.1
      have c1 : wr.cell? (ad.add (k * 2 + 1)) = some (.int .i64 (os[k]).2) := (hb.cell (p := ad.add (k * 2 + 1)) (by rw [add_block]; exact hg)).trans hcs.2
      have c2 : wr.cell? ⟨(ad.add (k * 2)).block, (ad.add (k * 2)).off + 1, none⟩ = some (.int .i64 (os[k]).2) := (by rw [Go.Deep.add_add]; exact c1 : wr.cell? ((ad.add (k * 2)).add 1) = some (.int .i64 (os[k]).2))
      have hdk : decide ((k : Int) < (os.length : Int)) = true := by simp; omega
      clear hcs
      have hfl : flat (os.take k) ++ [.int .i64 (os[k]).1, .int .i64 (os[k]).2] = flat (os.take (k + 1)) := by
        rw [take_snoc os k hlt, flat_append]
        rfl
      have HF := Lib.hid hfl
      clear hfl
      generalize (os[k]).1 = kk at *
      generalize (os[k]).2 = nn at *
      go_wp2_with fail
      go_region_law (first
        | ((refine step_append_lies _ (by rfl) _ _ 37 (by rfl) w.heap.size 43 i0 (.agg #[.int .i64 0, .int .i64 0]) 2 16 Try.underlying37 hi hz0 hz1 hz2 rfl (by decide) _ k (flat (os.take k)) (by rfl) (by exact (hown.alloc _)) ⟨wr.heap.size, 0, none⟩ 1 1 [.int .i64 kk, .int .i64 nn] (by rfl) (by rfl) (by intro j u hj; rcases j with _ | _ | j <;> simp at hj <;> subst hj <;> simp [go_sem, Addr.add]) (by simp [Value.oneCell']) (by decide) (by unfold maxLen; omega) (by omega) (by simp; omega) (wr.heap.size + 1) (by simp) ?_; intro g' cap' w1 hown1 hgrow hat hlt1)))
      all_goals
        have hbw := below_grown3 ((hb.alloc (by omega) (Obj.cells #[.int .i64 kk, .int .i64 nn] 43)).drew) (by simp; omega) hgrow hown
        have hown2 : w1.ownsRow w.heap.size 43 2 (.slice (some ⟨g', 0, none⟩) (k + 1) cap') (k + 1) (flat (os.take (k + 1))) := by
          rw [← HF.out]
          exact hown1
        go_wp2_with fail
        refine ⟨⟨k + 1, by go_num, by omega, hown2, hbw⟩, ?_⟩
        simp [intOf]; omega
    · have hkl : k = os.length := by omega
      subst hkl
      rw [List.take_length] at hown
      have hdk : decide ((os.length : Int) < (os.length : Int)) = false := by simp
      go_wp2_with fail
      go_returns
      exact ⟨_, rfl, hb, hown⟩

theorem mine_nil (w : World) : Calls Try.prog 19 #[.slice none 0 0] w fun e w' => e = .returned (.slice none 0 0) ∧ w = w' := by
  go_enter Try.func19, Try.ntmps19
  go_wp2_with fail
  go_loop [3, 4] (fun p i => p = .slice none 0 0 ∧ i = .int .i64 0) (fun _ _ => 0)
  case atStart => exact ⟨rfl, rfl⟩
  case round =>
    obtain ⟨rfl, rfl⟩ := hrel
    go_wp2_with fail
    go_returns
    exact ⟨rfl, rfl⟩

theorem mine_b (v : Value) (os : List (Int × Int)) {W w : World} (h : Reads v os w) (hlen : os.length ≤ 1000) (hb : Below W.heap.size W w) :
    Calls Try.prog 19 #[v] w fun e w' => ∃ u, e = .returned u ∧ Below W.heap.size W w' ∧ Below w.heap.size w w' ∧ w'.ownsRow w.heap.size 43 2 u os.length (flat os) := by
  rcases h with ⟨rfl, rfl⟩ | ⟨a, cap, rfl, hg, h1, h2, hc⟩
  · exact (mine_nil w).mono fun e w' h => ⟨_, h.1, h.2 ▸ hb, h.2 ▸ Below.refl _ _, rfl, .inl ⟨rfl, rfl⟩⟩
  · exact (mine_run a cap os w hlen hg hc).mono fun e w' ⟨u, he, h1, h2⟩ => ⟨u, he, Below.on hb h1, h1, h2⟩

/-- The document's Eval, whatever slice. -/
theorem reval_nil (w : World) : Calls Try.prog 20 #[.slice none 0 0] w fun e w' => e = .returned (.tuple #[.int .i64 0, .int .i64 2]) ∧ w = w' := by
  go_enter Try.func20, Try.ntmps20
  go_wp2_with fail
  go_loop [4, 5] (fun p i => p = .slice none 0 0 ∧ i = .int .i64 0) (fun _ _ => 0)
  case atStart => exact ⟨rfl, rfl⟩
  case round =>
    obtain ⟨rfl, rfl⟩ := hrel
    go_wp2_with fail
    go_returns
    exact ⟨rfl, rfl⟩
theorem reval_over (a : Option Addr) (n cap : Nat) (w : World) (h : 64 < n) : Calls Try.prog 20 #[.slice a n cap] w fun e w' => e = .returned (.tuple #[.int .i64 0, .int .i64 3]) ∧ w = w' := by
  have hd : decide (64 < (n : Int)) = true := by simp; omega
  go_enter Try.func20, Try.ntmps20
  go_wp2_with fail
  go_returns
  exact ⟨rfl, rfl⟩
theorem reval_b (v : Value) (os : List (Int × Int)) {W w : World} (h : Reads v os w) (hb : Below W.heap.size W w) :
    Calls Try.prog 20 #[v] w fun e w' => e = .returned (.tuple #[.int .i64 (Pl.eval os).1, .int .i64 (Pl.eval os).2]) ∧ Below W.heap.size W w' := by
  rcases h with ⟨rfl, rfl⟩ | ⟨a, cap, rfl, hg, h1, h2, hc⟩
  · exact (reval_nil w).mono fun e w' h => ⟨h.1, h.2 ▸ hb⟩
  · by_cases hl : 64 < os.length
    · have he : Pl.eval os = (0, 3) := by unfold Pl.eval; rw [if_pos hl]
      rw [he]
      exact (reval_over _ _ _ w hl).mono fun e w' h => ⟨h.1, h.2 ▸ hb⟩
    · exact (reval_run a cap os w (by omega) hg hc).mono fun e w' h => ⟨h.1, Below.on hb h.2⟩
end Go.Proofs.Ythmglahcampllaa
