/- What is proved here: slices.Backward hands back what goes through a slice of numbers from its end on. Condition: the loop's body keeps the slice, and where its header lies. -/
import Derived.Test.YtijgopcddjnfdaaWf
import Derived.RangeFuncNested
import Derived.RangeFuncBound
import Derived.RangeFuncCalls
import Derived.RangeFuncLeaves
import Derived.RangeFuncBox
import Derived.Shelf.Abstract
import Derived.Shelf.RegionOpen
import Derived.OwnWalkIn
import Derived.TacticsInMore
import Derived.LoopNIn
import Derived.LoopIn
namespace Go.Proofs.Ytijgopcddjnfdaa
open Go Go.Proofs Go.RowKit Go.Shelf
attribute [local go_sem] Oper.semAt_some

/-- WHAT HAS COME WHEN k ROUNDS ARE OVER. -/
def upTo {α : Type} (f : Nat → α) (k : Nat) : List α := (List.range k).map f
theorem upTo_succ {α : Type} (f : Nat → α) (k : Nat) : upTo f (k + 1) = upTo f k ++ [f k] := by simp [upTo, List.range_succ]
theorem upTo_length {α : Type} (f : Nat → α) (k : Nat) : (upTo f k).length = k := by simp [upTo]
/-- From the end on: place and number. -/
def fromEnd (zs : List Int) (j : Nat) : Nat × Int := (zs.length - 1 - j, zs[zs.length - 1 - j]?.getD 0)
/-- Of the blocks below N all but r and c are as they were. -/
def KpB (N r c : Nat) (W W' : World) : Prop := ∀ k, k < N → k ≠ r → k ≠ c → W'.heap[k]? = W.heap[k]?
theorem KpB.refl (N r c : Nat) (W : World) : KpB N r c W W := fun _ _ _ _ => rfl
theorem KpB.trans {N r c : Nat} {A B C : World} (h : KpB N r c A B) (k : KpB N r c B C) : KpB N r c A C := fun i h1 h2 h3 => (k i h1 h2 h3).trans (h i h1 h2 h3)
theorem KpB.cell {N r c : Nat} {A B : World} (h : KpB N r c A B) {p : Addr} (h1 : p.block < N) (h2 : p.block ≠ r) (h3 : p.block ≠ c) : B.cell? p = A.cell? p := World.cell?_of_block (h p.block h1 h2 h3)
set_option maxRecDepth 100000 in
set_option maxHeartbeats 2000000 in
theorem back1_in (n : Nat) (hn : 1 ≤ n) (l Bs N r c : Nat) (sa : Option Addr) (cap : Nat) (zs : List Int) (hz : zs.length ≤ 1000) (hB1 : Bs < N) (hB2 : Bs ≠ r) (hB3 : Bs ≠ c)
    (J Jx : List (Nat × Int) → World → Prop)
    (hY : ∀ pre x W, J pre W → pre.length < zs.length → YieldAt Fence.wide (n - 1) Try.prog l #[.int .i64 ((x.1 : Nat) : Int), .int .i64 x.2] W fun e W' =>
      (e = .returned (.bool true) ∧ J (pre ++ [x]) W' ∧ KpB N r c W W') ∨ (e = .returned (.bool false) ∧ Jx (pre ++ [x]) W'))
    (W : World) (hBs : W.cell? ⟨Bs, 0, none⟩ = some (.slice sa zs.length cap)) (hc : ∀ j, j < zs.length → ∃ a, sa = some a ∧ a.block < N ∧ a.block ≠ r ∧ a.block ≠ c ∧ W.cell? (a.add j) = some (.int .i64 (zs[j]?.getD 0))) (h0 : J [] W) :
    CallsIn Fence.wide n Try.prog 60 #[.func (.yield l) #[] #[], .pointer (some ⟨Bs, 0, none⟩)] W fun e W' => (∃ v, e = .returned v) ∧
      ((∃ ys, ys = upTo (fromEnd zs) zs.length ∧ J ys W') ∨ (∃ pre, (∃ k, k ≤ zs.length ∧ pre = upTo (fromEnd zs) k) ∧ Jx pre W')) := by
  have hx : IntKind.i64.wrap ((zs.length : Int) - 1) = (zs.length : Int) - 1 := IntWalk.i64_in _ (by omega)
  refine callsIn_of_wp Try.func60 rfl trivial ?_ rfl
  simp only [Try.ntmps60, List.size_toArray, List.length_cons, List.length_nil, Nat.reduceAdd, Nat.reduceSub, Array.replicate_succ, Array.replicate_zero, List.push_toArray, List.append_toArray, List.nil_append, List.cons_append]
  gi_wp2
  gi_loopw [3] (fun i wr => ∃ (k m : Nat) (v : Int), k + m = zs.length ∧ i = .int .i64 v ∧ v = (m : Int) - 1 ∧ J (upTo (fromEnd zs) k) wr ∧ KpB N r c W wr)
    (fun i _ => (intOf i + 1).toNat)
  case atStart => exact ⟨0, zs.length, _, by omega, rfl, by first | exact hx | rfl, h0, KpB.refl _ _ _ _⟩
  case round =>
    obtain ⟨k, m, v, hkm, rfl, hv, hJs, hnx⟩ := hrel
    clear hx
    have hBr : wr.cell? ⟨Bs, 0, none⟩ = some (.slice sa zs.length cap) := (hnx.cell (p := ⟨Bs, 0, none⟩) hB1 hB2 hB3).trans hBs
    rcases m with _ | m
    · have hv' : v < 0 := by omega
      clear hv
      obtain rfl : k = zs.length := by omega
      gi_wp2
      go_end0
      exact ⟨⟨_, rfl⟩, .inl ⟨_, rfl, hJs⟩⟩
    · obtain rfl : v = (m : Int) := by omega
      obtain ⟨a, rfl, ha1, ha2, ha3, hca⟩ := hc m (by omega)
      have hcx : wr.cell? (a.add m) = some (.int .i64 (zs[m]?.getD 0)) := (hnx.cell (p := a.add m) (by rw [add_block]; exact ha1) (by rw [add_block]; exact ha2) (by rw [add_block]; exact ha3)).trans hca
      have hfe : fromEnd zs k = (m, zs[m]?.getD 0) := by
        unfold fromEnd
        rw [show zs.length - 1 - k = m by omega]
      have HJ' : Hid (∀ W', J (upTo (fromEnd zs) k ++ [(m, zs[m]?.getD 0)]) W' → J (upTo (fromEnd zs) (k + 1)) W') := Lib.hid fun W' h => by rw [upTo_succ, hfe]; exact h
      have HX' : Hid (∀ W', Jx (upTo (fromEnd zs) k ++ [(m, zs[m]?.getD 0)]) W' → Jx (upTo (fromEnd zs) (k + 1)) W') := Lib.hid fun W' h => by rw [upTo_succ, hfe]; exact h
      obtain ⟨fn, tmps, assign, body, hy, hR⟩ := hY _ (m, zs[m]?.getD 0) wr hJs (by rw [upTo_length]; omega)
      dsimp only at hy
      have hm1 : (0 : Int) ≤ (m : Int) := by omega
      have hm2 : (m : Int) < (zs.length : Int) := by omega
      have hxm : IntKind.i64.wrap ((m : Int) - 1) = (m : Int) - 1 := IntWalk.i64_in _ (by omega)
      clear hfe hv
      gi_wp2
      refine hR.mono ?_
      rintro e W3 (⟨rfl, hJ3, hk3⟩ | ⟨rfl, hJx3⟩)
      · gi_wp2
        go_roundw
        case rel => exact ⟨k + 1, m, _, by omega, rfl, rfl, HJ'.out _ hJ3, hnx.trans hk3⟩
        case measure => first | (simp [intOf]; done) | (simp [intOf]; omega)
      · gi_wp2
        refine bodyPost_ret (results_none rfl _ _ _) rfl ?_
        exact ⟨⟨_, rfl⟩, .inr ⟨_, ⟨k + 1, by omega, rfl⟩, HX'.out _ hJx3⟩⟩
end Go.Proofs.Ytijgopcddjnfdaa
