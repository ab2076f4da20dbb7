/- What is proved here: a policy may be laid into a network. Condition: it may be, its ports are named, its switches are there, and it has not too many cells. -/
import Derived.Test.YtekfkieimdgfkaaGreatT04
import Derived.Test.YtekfkieimdgfkaaGreatT07
import Derived.Test.YtekfkieimdgfkaaGreatT12
import Derived.Test.YtekfkieimdgfkaaGreatT14
namespace Go.Proofs.YtekfkieimdgfkaaGreat
open Go Go.RowKit
attribute [local go_sem] KW.cell KW.frozen
/-- What a policy is to be so that Check lets it by. -/
structure MayBe (n : Int) (ls : List Lk) (hs : List Ho) (d : Nat) (x : Pol) : Prop where
  depth : d ≤ 5
  ok : OkP d x
  dep : DepP d x
  size : sizeF d x ≤ 64
  wide : wideF d x ≤ 64
  few : ∀ fl, (valsF fl d x).length ≤ 1000
  named : ∀ p ∈ valsF 4 d x, namedB ls hs p = true
  switches : ∀ s ∈ valsF 5 d x, s < n
  cells : cellsN (fun fl => (sv (valsF fl d x)).length) 5 ≤ 4096
theorem sv_mem {zs : List Int} {x : Int} (h : x ∈ sv zs) : x ∈ zs := by
  unfold sv Lib.compact Lib.compactUpTo at h
  obtain ⟨j, hj, rfl⟩ := List.mem_map.1 h
  have hj2 := List.mem_range.1 (List.mem_filter.1 hj).1
  have hm : (sortI zs).toArray[j]! ∈ sortI zs := by
    rw [getElem!_pos (sortI zs).toArray j (by simpa using hj2)]
    simp
  exact (List.mergeSort_perm zs _).mem_iff.1 hm
theorem rz_of_own {B : Nat} {v : Value} {zs : List Int} {w : World} (h : w.ownsRow B 3 1 v zs.length (IV zs)) : Rz 1 INT v zs w := by
  refine Rz.of_own (B := B) (e := 3) (fun _ => rfl) ?_
  have e : ∀ zs : List Int, flatR INT zs = IV zs := by
    intro zs
    unfold flatR IV
    induction zs with
    | nil => rfl
    | cons z zs ih => rw [List.flatMap_cons, List.map_cons, ih]; rfl
  rw [e]
  exact h
set_option maxRecDepth 100000 in
set_option maxHeartbeats 8000000 in
theorem check_c (n : Int) (lo ho : Option Addr) (lc hc : Nat) (ls : List Lk) (hs : List Ho) (d : Nat) (x : Pol) (u : Value) (w : World) (h1 : Rz 6 lkE (.slice lo ls.length lc) ls w) (h2 : Rz 2 hoE (.slice ho hs.length hc) hs w) (ht : TopoF n ls hs)
    (hm : MayBe n ls hs d x) (hr : RdP AnyP d u x.l w) : Ret 17 #[.agg (topoA n lo ho ls.length lc hs.length hc), polV x u] (.int .i64 0) w := by
  obtain ⟨uo, uc, rfl, _, huc⟩ := hr.form
  have HB : Hid (Below w.heap.size w ((w.alloc (.cells (topoA n lo ho ls.length lc hs.length hc) 25)).alloc (.cells (polL x (.slice uo x.l.length uc)).toArray 55))) := Lib.hid (((Below.refl _ _).alloc (Nat.le_refl _) _).alloc (by simp) _)
  have HT : Hid (((w.alloc (.cells (topoA n lo ho ls.length lc hs.length hc) 25)).alloc (.cells (polL x (.slice uo x.l.length uc)).toArray 55)).heap[w.heap.size]? = some (.cells (topoA n lo ho ls.length lc hs.length hc) 25 (0, 0))) :=
    Lib.hid ((Below.heap_alloc _ _ _ (by simp)).trans (heap_alloc_new w _))
  have HP : Hid (((w.alloc (.cells (topoA n lo ho ls.length lc hs.length hc) 25)).alloc (.cells (polL x (.slice uo x.l.length uc)).toArray 55)).heap[w.heap.size + 1]? = some (.cells (polL x (.slice uo x.l.length uc)).toArray 55 (0, 0))) := by
    have := heap_alloc_new (w.alloc (.cells (topoA n lo ho ls.length lc hs.length hc) 25)) (.cells (polL x (.slice uo x.l.length uc)).toArray 55)
    exact Lib.hid (by simpa using this)
  have H1 := Lib.hid h1
  have H2 := Lib.hid h2
  have HR := Lib.hid hr
  have HM := Lib.hid hm
  have X28 := Lib.hid (fun w' (hb : Below w.heap.size w w') => topo28_c n lo ho lc hc ls hs w' (h1.kept hb) (h2.kept hb) ht)
  have X29 := Lib.hid (fun w' (hb : Below w.heap.size w w') => right29_c d x (.slice uo x.l.length uc) w' hm.depth (hr.kept hb) hm.ok hm.size hm.wide)
  have X31 := Lib.hid (fun fl w' (hb : Below w.heap.size w w') => values_c fl d x (.slice uo x.l.length uc) w' hm.ok.v hm.dep (hr.kept hb).up (hm.few fl))
  have X35 := Lib.hid (fun w' (hb : Below w.heap.size w w') => cells_c d x (.slice uo x.l.length uc) w' hm.ok.v hm.dep (hr.kept hb).up hm.few)
  have dc : decide (4096 < cellsN (fun fl => (sv (valsF fl d x)).length) 5) = false := by have := hm.cells; simp; omega
  have hnot : ∀ (x : Bool) (w : World), (Op.unary .not (.bool x)).run Tryz.prog w = .ok (.bool (!x)) w := fun _ _ => rfl
  have hmf : ∀ (fn : Fn) (first cap : Array Value) (w : World), (Instr.makeFunc fn first cap).run Tryz.prog w = .ok (.func fn first cap) w := fun _ _ _ _ => rfl
  obtain ⟨zp, hzp⟩ : ∃ l, l = sv (valsF 4 d x) := ⟨_, rfl⟩
  obtain ⟨zs, hzs⟩ : ∃ l, l = sv (valsF 5 d x) := ⟨_, rfl⟩
  have HZP := Lib.hid (show ∀ p ∈ zp, namedB ls hs p = true from fun p hp => hm.named p (sv_mem (by rw [← hzp]; exact hp)))
  have HZS := Lib.hid (show ∀ p ∈ zs, p < n from fun p hp => hm.switches p (sv_mem (by rw [← hzs]; exact hp)))
  have X31p := Lib.hid (fun w' (hb : Below w.heap.size w w') => X31.out 4 w' hb)
  have X31s := Lib.hid (fun w' (hb : Below w.heap.size w w') => X31.out 5 w' hb)
  rw [← hzp] at X31p
  rw [← hzs] at X31s
  clear X31 h1 h2 ht hm hr hzp hzs
  generalize cellsN (fun fl => (sv (valsF fl d x)).length) 5 = cn at *
  unfold Ret polV at *
  go_enter Tryz.func17, Tryz.ntmps17
  go_wp2_with fail
  refine (X28.out _ HB.out).mono ?_
  rintro e w1 ⟨rfl, hb⟩
  have hs1 := hb.size
  simp only [World.size_alloc] at hs1
  have HB1 := Lib.hid (HB.out.trans (hb.mono (by simp; omega)))
  have HT1 := Lib.hid ((hb.block w.heap.size (by simp; omega)).trans HT.out)
  have HP1 := Lib.hid ((hb.block (w.heap.size + 1) (by simp)).trans HP.out)
  clear hb HB HT HP X28
  go_wp2_with (refine stop_load 55 _ rfl ?_)
  obtain ⟨fs, hu55⟩ := und55
  have HU := Lib.hid hu55
  clear hu55
  refine Stop.go (wpList_load_row rfl 55 _ rfl (w.heap.size + 1) rfl 55 _ (0, 0) _ HP1.out HU.out rfl inf55 ?_)
  go_wp2_with fail
  refine (X29.out _ HB1.out).mono ?_
  rintro e w2 ⟨rfl, hb⟩
  have hs2 := hb.size
  have HB2 := Lib.hid (HB1.out.trans (hb.mono HB1.out.size))
  have HT2 := Lib.hid ((hb.block w.heap.size (by omega)).trans HT1.out)
  have HP2 := Lib.hid ((hb.block (w.heap.size + 1) (by omega)).trans HP1.out)
  clear hb HB1 HT1 HP1 X29
  go_wp2_with (refine stop_load 55 _ rfl ?_)
  refine Stop.go (wpList_load_row rfl 55 _ rfl (w.heap.size + 1) rfl 55 _ (0, 0) _ HP2.out HU.out rfl inf55 ?_)
  go_wp2_with fail
  refine (X31p.out _ HB2.out).mono ?_
  rintro e w3 ⟨v3, rfl, hown, hb⟩
  have hs3 := hb.size
  have HZ3 := Lib.hid (rz_of_own hown)
  have HB3 := Lib.hid (HB2.out.trans (hb.mono HB2.out.size))
  have HT3 := Lib.hid ((hb.block w.heap.size (by omega)).trans HT2.out)
  have HP3 := Lib.hid ((hb.block (w.heap.size + 1) (by omega)).trans HP2.out)
  clear hb hown HB2 HT2 HP2 X31p
  have Y1 := cont30_c v3 zp 32 (.pointer (some ⟨w.heap.size, 0, none⟩)) (fun p => !namedB ls hs p) w3 HZ3.out call_32 (fun p _ w' hb => n32_c n p w.heap.size lo ho lc hc ls hs w' (H1.out.kept (HB3.out.trans (hb.mono HB3.out.size))) (H2.out.kept (HB3.out.trans (hb.mono HB3.out.size))) ((hb.block _ (by omega)).trans HT3.out))
  have ea : zp.any (fun p => !namedB ls hs p) = false := by
    rw [List.any_eq_false]
    intro p hp
    simp [HZP.out p hp]
  rw [ea] at Y1
  have HY1 := Lib.hid Y1
  clear Y1 ea
  go_wp2_with fail
  refine HY1.out.mono ?_
  rintro e w4 ⟨rfl, hb⟩
  have hs4 := hb.size
  have HB4 := Lib.hid (HB3.out.trans (hb.mono HB3.out.size))
  have HT4 := Lib.hid ((hb.block w.heap.size (by omega)).trans HT3.out)
  have HP4 := Lib.hid ((hb.block (w.heap.size + 1) (by omega)).trans HP3.out)
  clear hb HB3 HT3 HP3 HY1 HZ3
  go_wp2_with (refine stop_load 55 _ rfl ?_)
  refine Stop.go (wpList_load_row rfl 55 _ rfl (w.heap.size + 1) rfl 55 _ (0, 0) _ HP4.out HU.out rfl inf55 ?_)
  go_wp2_with fail
  refine (X31s.out _ HB4.out).mono ?_
  rintro e w5 ⟨v5, rfl, hown, hb⟩
  have hs5 := hb.size
  have HZ5 := Lib.hid (rz_of_own hown)
  have HB5 := Lib.hid (HB4.out.trans (hb.mono HB4.out.size))
  have HT5 := Lib.hid ((hb.block w.heap.size (by omega)).trans HT4.out)
  have HP5 := Lib.hid ((hb.block (w.heap.size + 1) (by omega)).trans HP4.out)
  clear hb hown HB4 HT4 HP4 X31s
  have Y2 := cont30_c v5 zs 34 (.pointer (some ⟨w.heap.size, 0, none⟩)) (fun p => decide (n ≤ p)) w5 HZ5.out call_34 (fun p _ w' hb => n34_c n p w.heap.size lo ho ls.length lc hs.length hc w' ((hb.block _ (by omega)).trans HT5.out))
  have eb : zs.any (fun p => decide (n ≤ p)) = false := by
    rw [List.any_eq_false]
    intro p hp
    have := HZS.out p hp
    simp
    omega
  rw [eb] at Y2
  have HY2 := Lib.hid Y2
  clear Y2 eb
  go_wp2_with fail
  refine HY2.out.mono ?_
  rintro e w6 ⟨rfl, hb⟩
  have hs6 := hb.size
  have HB6 := Lib.hid (HB5.out.trans (hb.mono HB5.out.size))
  have HP6 := Lib.hid ((hb.block (w.heap.size + 1) (by omega)).trans HP5.out)
  clear hb HB5 HT5 HP5 HY2 HZ5
  go_wp2_with (refine stop_load 55 _ rfl ?_)
  refine Stop.go (wpList_load_row rfl 55 _ rfl (w.heap.size + 1) rfl 55 _ (0, 0) _ HP6.out HU.out rfl inf55 ?_)
  go_wp2_with fail
  refine (X35.out _ HB6.out).mono ?_
  rintro e w7 ⟨rfl, hb⟩
  have HB7 := Lib.hid (HB6.out.trans (hb.mono HB6.out.size))
  clear hb HB6 HP6 X35
  go_wp2_with fail
  go_ret
  exact ⟨rfl, HB7.out⟩
end Go.Proofs.YtekfkieimdgfkaaGreat
