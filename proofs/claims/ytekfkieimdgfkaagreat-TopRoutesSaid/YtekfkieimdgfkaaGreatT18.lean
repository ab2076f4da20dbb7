/- What is proved here: maps.Keys hands back what goes through a set of packets. Condition: the set holds at most one. -/
import Derived.Test.YtekfkieimdgfkaaGreatT16
import Derived.RangeFuncNested
import Derived.RangeFuncBound
import Derived.RangeFuncCalls
import Derived.RangeFuncLeaves
import Derived.RangeFuncBox
import Derived.RangeFuncWrites
import Derived.Shelf.Abstract
import Derived.Shelf.RegionOpen
import Derived.OwnWalkIn
import Derived.TacticsInMore
import Derived.LoopNIn
import Derived.LoopIn
import Derived.Sort.LoopGhostIn
import Derived.Shelf.Small.Bits
import Derived.Ground.Names2Prog
import Derived.Test.YtekfkieimdgfkaaGreatProg
namespace Go.Proofs.YtekfkieimdgfkaaGreat
open Go Go.Proofs Go.RowKit Go.Shelf
attribute [local go_sem] Oper.semAt_some
theorem ItS.walks {r b : Nat} {l left : List Sn} {w w' : World} (h : ItS r b l left w) (hk : KeepsWalks w w') : ItS r b l left w' := by
  refine ⟨h.1, ?_⟩
  rcases h.2 with ⟨h1, h2, c, h3, h4⟩ | ⟨s, n, c, h1, h2, h3, h4, h5⟩ | ⟨s, n, c, h1, h2, h3, h4, h5⟩
  · exact .inl ⟨h1, h2, c, hk.same _ _ h3 rfl, hk.same _ _ h4 rfl⟩
  · exact .inr (.inl ⟨s, n, c, h1, h2, h3, hk.same _ _ h4 rfl, hk.same _ _ h5 rfl⟩)
  · exact .inr (.inr ⟨s, n, c, h1, h2, h3, hk.same _ _ h4 rfl, hk.same _ _ h5 rfl⟩)
theorem ItS.iter {r b : Nat} {l left : List Sn} {w : World} (h : ItS r b l left w) : ∃ o : Obj, w.heap[r]? = some o ∧ o.isWalk = true := by
  rcases h.2 with ⟨h1, h2, c, h3, h4⟩ | ⟨s, n, c, h1, h2, h3, h4, h5⟩ | ⟨s, n, c, h1, h2, h3, h4, h5⟩
  · exact ⟨_, h4, rfl⟩
  · exact ⟨_, h5, rfl⟩
  · exact ⟨_, h5, rfl⟩
set_option maxRecDepth 100000 in
set_option maxHeartbeats 2000000 in
theorem keys166_in (n : Nat) (hn : 1 ≤ n) (l Bm b : Nat) (L : List Sn) (J Jx : List Sn → World → Prop)
    (hY : ∀ pre x W1, J pre W1 → pre.length < L.length → YieldAt Fence.wide (n - 1) Tryz.prog l #[stV x] W1 fun e W' =>
      (e = .returned (.bool true) ∧ J (pre ++ [x]) W' ∧ KeepsWalks W1 W') ∨ (e = .returned (.bool false) ∧ Jx (pre ++ [x]) W'))
    (W : World) (hJ : AbidesFrom W.heap.size J) (hm : W.cell? ⟨Bm, 0, none⟩ = some (.map (some b))) (hs : MpS b L W) (h0 : J [] W) :
    CallsIn Fence.wide n Tryz.prog 166 #[.func (.yield l) #[] #[], .pointer (some ⟨Bm, 0, none⟩)] W fun e W' => (∃ v, e = .returned v) ∧
      ((∃ xs, xs = L ∧ J xs W') ∨ (∃ pre : List Sn, pre.length ≤ L.length ∧ Jx pre W')) := by
  obtain ⟨w1, hrg, hit, hb1, hs1⟩ := hs.range
  have HI1 := Lib.hid hit
  have HJ1 := Lib.hid (hJ [] W w1 none h0 (below_grown1 hb1) (fun r e => by cases e))
  have HAB := Lib.hid hJ
  have HY := Lib.hid hY
  obtain ⟨rr, hrr⟩ : ∃ r, r = W.heap.size := ⟨_, rfl⟩
  rw [← hrr] at HI1 hrg
  have HRR := Lib.hid hrr
  clear hit hb1 hs1 hJ hY h0 hs hrr
  refine callsIn_of_wp Tryz.func166 rfl trivial ?_ rfl
  simp only [Tryz.ntmps166, List.size_toArray, List.length_cons, List.length_nil, Nat.reduceAdd, Nat.reduceSub, Array.replicate_succ, Array.replicate_zero, List.push_toArray, List.append_toArray, List.nil_append, List.cons_append]
  gi_wp2
  clear hrg
  gi_loopg [3] L.length (fun gg _ wr => ∃ (done left : List Sn), gg = left.length ∧ Hid (L = done ++ left) ∧ Hid (ItS rr b L left wr) ∧ Hid (J done wr))
  case atStart => exact ⟨[], L, rfl, Lib.hid rfl, HI1, HJ1⟩
  case round =>
    obtain ⟨done, left, rfl, HL, HI, HJ⟩ := hrel
    rcases HI.out.step with ⟨hleft, hnx⟩ | ⟨s, w2, hleft, hnx, hi2, ho2, hen⟩
    · subst hleft
      have HD : Hid (done = L) := Lib.hid (by rw [HL.out, List.append_nil])
      clear HI HL
      gi_wp2
      go_end0
      exact ⟨⟨_, rfl⟩, .inl ⟨_, HD.out, HJ.out⟩⟩
    · subst hleft
      have hlen : done.length < L.length := by rw [HL.out]; simp
      have HJ2 := HAB.out done wr w2 (some rr) HJ.out ho2.grown (fun r e => by cases e; exact ⟨by rw [HRR.out]; exact Nat.le_refl _, HI.out.iter⟩)
      have HJ3 := HAB.out done w2 (w2.alloc (.cells (stA s) 63)) none HJ2 (grown_alloc _ _ _) (fun r e => by cases e)
      have HI3 := Lib.hid (hi2.blk (w' := w2.alloc (.cells (stA s) 63)) (Below.heap_alloc _ _ _ hi2.lt.2) (Below.heap_alloc _ _ _ hi2.lt.1))
      obtain ⟨fn, tmps, assign, body, hy, hR⟩ := HY.out done s _ HJ3 hlen
      have HR := Lib.hid hR
      have HL2 := Lib.hid (show L = (done ++ [s]) ++ [] from by rw [List.append_nil]; exact HL.out)
      have HLE := Lib.hid (show (done ++ [s]).length ≤ L.length from by rw [HL.out]; exact Nat.le_refl _)
      clear hi2 ho2 HI HJ2 HJ3 hR HJ HL
      obtain ⟨p, a, c, d, e⟩ := s
      simp only [stV, stA] at hnx hen hy HR HI3
      gi_wp2
      refine HR.out.mono ?_
      rintro e W3 (⟨rfl, hJ3, hk3⟩ | ⟨rfl, hJx3⟩)
      · have HI4 := Lib.hid (HI3.out.walks hk3)
        have HJ4 := Lib.hid hJ3
        clear hJ3 hk3 HR hy HI3
        gi_wp2
        gi_roundg 0
        case rel => exact ⟨_, [], rfl, HL2, HI4, HJ4⟩
        case measure => simp
      · have HX := Lib.hid hJx3
        clear hJx3 HR hy HI3
        gi_wp2
        refine bodyPost_ret (results_none rfl _ _ _) rfl ?_
        exact ⟨⟨_, rfl⟩, .inr ⟨_, HLE.out, HX.out⟩⟩
end Go.Proofs.YtekfkieimdgfkaaGreat
/- What is proved here: the library's Len of bits, as the shelf has it. Condition: none. -/
namespace Go.Proofs.YtekfkieimdgfkaaGreat
open Go Go.Shelf
def lays125rent : Go.Shelf.Ren := ⟨fun | 125 => 83 | 128 => 117 | 129 => 118 | n => n, fun | 46 => 150 | 3 => 3 | 51 => 177 | 53 => 179 | 4 => 4 | 5 => 5 | 9 => 9 | n => n, fun | n => n⟩
theorem lays125t : Go.Proofs.Lays.n125 Tryz.prog lays125rent := {
  mixed := by kernel_rfl
  f125 := Tryz.func83.trans (congrArg some (by kernel_rfl))
  f128 := Tryz.func117.trans (congrArg some (by kernel_rfl))
  f129 := Tryz.func118.trans (congrArg some (by kernel_rfl))
  t3 := Tryz.underlying3
  a3 := Tryz.isAgg3
  z3 := Tryz.sizeOf3
  v3 := Tryz.zeroValue3
  t4 := Tryz.underlying4
  a4 := Tryz.isAgg4
  z4 := Tryz.sizeOf4
  v4 := Tryz.zeroValue4
  t5 := Tryz.underlying5
  a5 := Tryz.isAgg5
  z5 := Tryz.sizeOf5
  v5 := Tryz.zeroValue5
  t9 := Tryz.underlying9
  a9 := Tryz.isAgg9
  z9 := Tryz.sizeOf9
  v9 := Tryz.zeroValue9
  t46 := Tryz.underlying150
  a46 := Tryz.isAgg150
  z46 := Tryz.sizeOf150
  v46 := Tryz.zeroValue150
  t51 := Tryz.underlying177
  a51 := Tryz.isAgg177
  z51 := Tryz.sizeOf177
  v51 := Tryz.zeroValue177
  t53 := Tryz.underlying179
  a53 := Tryz.isAgg179
  z53 := Tryz.sizeOf179
  v53 := Tryz.zeroValue179 }
theorem bits_Len (x : Int) (w : World) (h0 : 0 ≤ x) (h1 : x ≤ 18446744073709551615) :
    Calls Tryz.prog 83 #[.int .u64 x] w fun e w' => e = .returned (.int .i64 (Lib.bitLen x.toNat)) ∧ w' = w := Any.bits_Len lays125t x w h0 h1
end Go.Proofs.YtekfkieimdgfkaaGreat
/- What is proved here: what SortFunc and Compact make of at most one packet. Condition: none. -/
namespace Go.Proofs.YtekfkieimdgfkaaGreat
open Go Go.RowKit
attribute [local go_sem] KW.cell KW.frozen
set_option maxRecDepth 100000 in
set_option maxHeartbeats 4000000 in
theorem ins167_c (a : Option Addr) (n c : Nat) (fv : Value) (w : World) (hn : n ≤ 1) : Calls Tryz.prog 167 #[.slice a n c, .int .i64 0, .int .i64 n, fv] w fun e w' => e = .returned (.tuple #[]) ∧ w = w' := by
  have hd : decide ((1 : Int) < (n : Int)) = false := by simp; omega
  go_enter Tryz.func167, Tryz.ntmps167
  go_wp2_with fail
  go_loopw [8] (fun i wr => i = .int .i64 1 ∧ wr = w) (fun _ _ => 0)
  case atStart => exact ⟨rfl, rfl⟩
  case round =>
    obtain ⟨rfl, rfl⟩ := hrel
    go_wp2_with fail
    go_returns
    exact ⟨rfl, rfl⟩
set_option maxRecDepth 100000 in
set_option maxHeartbeats 4000000 in
theorem pdq151_c (a : Option Addr) (n c : Nat) (lim : Int) (fv : Value) (w : World) (hn : n ≤ 1) : Calls Tryz.prog 151 #[.slice a n c, .int .i64 0, .int .i64 n, .int .i64 lim, fv] w fun e w' => e = .returned (.tuple #[]) ∧ w = w' := by
  have hd : decide ((n : Int) ≤ 12) = true := by simp; omega
  have hn2 : (n : Int) ≤ 1 := by omega
  go_enter Tryz.func151, Tryz.ntmps151
  go_wp2_with fail
  go_loopw [1, 2] (fun x y wr => x = .int .i64 0 ∧ y = .int .i64 n ∧ wr = w) (fun _ _ _ => 0)
  case atStart => exact ⟨rfl, rfl, rfl⟩
  case round =>
    obtain ⟨rfl, rfl, rfl⟩ := hrel
    go_wp2_with fail
    refine (ins167_c a n c fv wr hn).mono ?_
    rintro e w' ⟨rfl, rfl⟩
    go_wp2_with fail
    go_returns
    exact ⟨rfl, rfl⟩
set_option maxRecDepth 100000 in
set_option maxHeartbeats 4000000 in
theorem sort123_c (a : Option Addr) (n c : Nat) (fv : Value) (w : World) (hn : n ≤ 1) : Calls Tryz.prog 123 #[.slice a n c, fv] w fun e w' => e = .returned (.tuple #[]) ∧ w = w' := by
  have hn2 : (n : Int) ≤ 1 := by omega
  go_enter Tryz.func123, Tryz.ntmps123
  go_wp2_with fail
  refine (bits_Len _ _ ?_ ?_).mono ?_
  · simp
  · first | omega | (simp; omega)
  rintro e w' ⟨rfl, rfl⟩
  go_wp2_with fail
  refine (pdq151_c a n c _ fv w' hn).mono ?_
  rintro e w2 ⟨rfl, rfl⟩
  go_wp2_with fail
  go_returns
  exact ⟨rfl, rfl⟩
set_option maxHeartbeats 4000000 in
theorem compact125_c (a : Option Addr) (n c : Nat) (w : World) (hn : n ≤ 1) : Calls Tryz.prog 125 #[.slice a n c] w fun e w' => e = .returned (.slice a n c) ∧ w = w' := by
  have hd : decide ((n : Int) < 2) = true := by simp; omega
  go_enter Tryz.func125, Tryz.ntmps125
  go_wp2_with fail
  go_ret
  exact ⟨rfl, rfl⟩
end Go.Proofs.YtekfkieimdgfkaaGreat
