/- What is proved here: what taking a flight off the program's channel does. Condition: it lies in memory of the call's own. -/
import Derived.Test.YthmglahcampllaaCe
namespace Go.Proofs.Ythmglahcampllaa
open Go Go.RowKit
attribute [local go_sem] KW.cell KW.frozen
namespace Ch
theorem own_mono {B B' e z n : Nat} {v : Value} {vs : List Value} {w : World} (h : w.ownsRow B e z v n vs) (hB : B' ≤ B) : w.ownsRow B' e z v n vs := by
  refine ⟨h.1, ?_⟩
  rcases h.2 with hn | ⟨g, cap, cur, hv, hb, r⟩
  · exact .inl hn
  · exact .inr ⟨g, cap, cur, hv, Nat.le_trans hB hb, r⟩
section
variable {T E B q : Nat} {w w' : World} {v : Value} {n : Int} {l : List Fl}
theorem St.set_other (h : St T E B w q v n l) (g i : Nat) (u : Value) (h1 : g ≠ q) (h2 : v.ownBlock ≠ some g) : St T E B (w.setCell ⟨g, i, none⟩ u) q v n l := by
  refine ⟨h.hq, (Below.heap_setCell w ⟨g, i, none⟩ _ q (Ne.symm h1)).trans h.at_, own_blk h.own fun b cur hb _ => Below.heap_setCell w ⟨g, i, none⟩ _ b ?_, h.ne⟩
  rintro rfl
  exact h2 hb
theorem TM.fresh (h : TM T E B w w') (g i : Nat) (u : Value) (hB : B ≤ w.heap.size) (hg : w.heap.size ≤ g) : TM T E B w (w'.setCell ⟨g, i, none⟩ u) := by
  refine ⟨h.bl.setCell (by simp; omega) _, fun b cs t hb h1 h2 => (Below.heap_setCell w' ⟨g, i, none⟩ _ b ?_).trans (h.kp b cs t hb h1 h2)⟩
  have := block_lt hb
  simp
  omega
end
section
variable {B q : Nat} {w : World} {v : Value} {n : Int} {l : List Fl}
set_option maxRecDepth 100000 in
set_option maxHeartbeats 2000000 in
theorem take_c (k : Int) (h : St 99 72 B w q v n l) (hl : l.length ≤ 256) :
    Calls Try.prog 73 #[.pointer (some ⟨q, 0, none⟩), .int .i64 k] w fun e w' =>
      e = .returned (.tuple #[.agg #[.int .i64 (atK l k).1, .bool (atK l k).2.1, .string (atK l k).2.2], .int .i64 (lookE l k)]) ∧ (∃ v', St 99 72 B w' q v' n (takeL l k)) ∧ TM 99 72 B w w' := by
  have hB : B ≤ w.heap.size := by have := h.hq; have := h.lt; omega
  have hq := h.lt
  have hb0 : Below w.heap.size w (w.alloc (.cells #[.int .i64 0, .bool false, .string ⟨#[]⟩] 72)) := (Below.refl _ _).alloc (Nat.le_refl _) _
  have X := Lib.hid (look_c k (h.kept hb0) hl)
  have HB0 := Lib.hid hb0
  have H := Lib.hid h
  obtain ⟨ao, c, rfl, hc1, hc2⟩ := h.form
  clear h hb0
  cases hi : is l k with
  | false =>
    have e0 : lookE l k = 7 := by unfold lookE; rw [hi]; rfl
    have e3 : takeL l k = l := by unfold takeL; rw [hi]; rfl
    rw [e0] at X
    rw [e0, e3]
    clear e0 e3 hi
    generalize atK l k = f at *
    generalize f.1 = x at *
    generalize f.2.1 = y at *
    generalize f.2.2 = z at *
    go_enter Try.func73, Try.ntmps73
    go_wp2_with fail
    refine X.out.mono ?_
    rintro e w1 ⟨rfl, hb⟩
    have hsz : w.heap.size < w1.heap.size := by have := hb.size; simp at this; omega
    have hsn : (w.heap.size = w1.heap.size) = False := eq_false (by omega)
    have k0 : w1.cell? ⟨w.heap.size, 0, none⟩ = some (.int .i64 0) := by rw [hb.cell (by simp)]; simp [go_sem]
    have k1 : w1.cell? ⟨w.heap.size, 1, none⟩ = some (.bool false) := by rw [hb.cell (by simp)]; simp [go_sem]
    have k2 : w1.cell? ⟨w.heap.size, 2, none⟩ = some (.string ⟨#[]⟩) := by rw [hb.cell (by simp)]; simp [go_sem]
    have f0 : w1.frozen? ⟨w.heap.size, 0, none⟩ = false := by rw [hb.frozen (by simp)]; simp [go_sem]
    have f1 : w1.frozen? ⟨w.heap.size, 1, none⟩ = false := by rw [hb.frozen (by simp)]; simp [go_sem]
    have f2 : w1.frozen? ⟨w.heap.size, 2, none⟩ = false := by rw [hb.frozen (by simp)]; simp [go_sem]
    have hb1 := bon HB0.out hb
    go_wp2_with fail
    refine bodyPost_ret (v := .tuple #[.agg #[.int .i64 x, .bool y, .string z], .int .i64 7]) (by simp [results, Try.results73, go_sem, k0, k1, k2, hsz]) rfl ⟨rfl, ?_, ?_⟩
    · have hb2 : Below w.heap.size w ((((w1.setCell ⟨w.heap.size, 0, none⟩ (.int .i64 x)).setCell ⟨w.heap.size, 1, none⟩ (.bool y)).setCell ⟨w.heap.size, 2, none⟩ (.string z)).alloc (.cells #[.int .i64 x, .bool y, .string z] 72)) := by
        (repeat' (first | (with_reducible exact Below.refl _ _) | (with_reducible assumption) | (with_reducible refine Below.alloc ?_ ?_ _) | (with_reducible refine Below.drew ?_) | (with_reducible refine Below.setCell ?_ ?_ _) | omega | (simp; done) | (simp; omega)))
      exact ⟨_, H.out.kept hb2⟩
    · refine TM.of_below hB ?_
      (repeat' (first | (with_reducible exact Below.refl _ _) | (with_reducible assumption) | (with_reducible refine Below.alloc ?_ ?_ _) | (with_reducible refine Below.drew ?_) | (with_reducible refine Below.setCell ?_ ?_ _) | omega | (simp; done) | (simp; omega)))
  | true =>
    obtain ⟨h0, h1⟩ := is_iff.1 hi
    have e0 : lookE l k = 0 := by unfold lookE; rw [hi]; rfl
    have e3 : takeL l k = l.take k.toNat ++ l.drop (k.toNat + 1) := by unfold takeL; rw [hi]; rfl
    rw [e0] at X
    rw [e0, e3]
    clear e0 e3 hi
    obtain ⟨j, rfl⟩ : ∃ j : Nat, k = j := ⟨k.toNat, by omega⟩
    rw [Int.toNat_natCast]
    have hj : j < l.length := by omega
    generalize atK l (j : Int) = f at *
    generalize f.1 = x at *
    generalize f.2.1 = y at *
    generalize f.2.2 = z at *
    go_enter Try.func73, Try.ntmps73
    go_wp2_with fail
    refine X.out.mono ?_
    rintro e w1 ⟨rfl, hb⟩
    have hsz : w.heap.size < w1.heap.size := by have := hb.size; simp at this; omega
    have k0 : w1.cell? ⟨w.heap.size, 0, none⟩ = some (.int .i64 0) := by rw [hb.cell (by simp)]; simp [go_sem]
    have k1 : w1.cell? ⟨w.heap.size, 1, none⟩ = some (.bool false) := by rw [hb.cell (by simp)]; simp [go_sem]
    have k2 : w1.cell? ⟨w.heap.size, 2, none⟩ = some (.string ⟨#[]⟩) := by rw [hb.cell (by simp)]; simp [go_sem]
    have f0 : w1.frozen? ⟨w.heap.size, 0, none⟩ = false := by rw [hb.frozen (by simp)]; simp [go_sem]
    have f1 : w1.frozen? ⟨w.heap.size, 1, none⟩ = false := by rw [hb.frozen (by simp)]; simp [go_sem]
    have f2 : w1.frozen? ⟨w.heap.size, 2, none⟩ = false := by rw [hb.frozen (by simp)]; simp [go_sem]
    have hb1 := bon HB0.out hb
    have hb2 : Below w.heap.size w (w1.alloc (.cells #[.int .i64 x, .bool y, .string z] 72)) := hb1.alloc hb1.size _
    have S2 := H.out.kept hb2
    have c0 := (H.out.kept hb1).c0
    have hq1 : q < w1.heap.size := by omega
    have X2 := Lib.hid (clone_c S2 (by omega) hl)
    have D2 := Lib.hid (fun (u : Value) (w3 : World) (hB3 : (w1.alloc (.cells #[.int .i64 x, .bool y, .string z] 72)).heap.size ≤ w3.heap.size) (ho : w3.ownsRow (w1.alloc (.cells #[.int .i64 x, .bool y, .string z] 72)).heap.size 72 3 u l.length (flat l)) => delete_c j hB3 ho hj hl)
    have r0 : (w1.alloc (.cells #[.int .i64 x, .bool y, .string z] 72)).cell? ⟨w1.heap.size, 0, none⟩ = some (.int .i64 x) := by simp [go_sem]
    have r1 : (w1.alloc (.cells #[.int .i64 x, .bool y, .string z] 72)).cell? ⟨w1.heap.size, 1, none⟩ = some (.bool y) := by simp [go_sem]
    have r2 : (w1.alloc (.cells #[.int .i64 x, .bool y, .string z] 72)).cell? ⟨w1.heap.size, 2, none⟩ = some (.string z) := by simp [go_sem]
    have hzz : (w1.alloc (.cells #[.int .i64 x, .bool y, .string z] 72)).heap.size = w1.heap.size + 1 := by simp
    have HZZ := Lib.hid hzz
    have hfz : ∀ (g i : Nat), g < w1.heap.size → (w1.alloc (.cells #[.int .i64 x, .bool y, .string z] 72)).frozen? ⟨g, i, none⟩ = w1.frozen? ⟨g, i, none⟩ := fun g i hg => World.frozen?_of_block (Below.heap_alloc w1 _ g hg)
    have hcz : ∀ (g i : Nat), g < w1.heap.size → (w1.alloc (.cells #[.int .i64 x, .bool y, .string z] 72)).cell? ⟨g, i, none⟩ = w1.cell? ⟨g, i, none⟩ := fun g i hg => World.cell?_of_block (Below.heap_alloc w1 _ g hg)
    have KZ := Lib.hid (⟨⟨(hcz _ 0 hsz).trans k0, (hcz _ 1 hsz).trans k1, (hcz _ 2 hsz).trans k2⟩, (hfz _ 0 hsz).trans f0, (hfz _ 1 hsz).trans f1, (hfz _ 2 hsz).trans f2⟩ : ((w1.alloc (.cells #[.int .i64 x, .bool y, .string z] 72)).cell? ⟨w.heap.size, 0, none⟩ = some (.int .i64 0) ∧ (w1.alloc (.cells #[.int .i64 x, .bool y, .string z] 72)).cell? ⟨w.heap.size, 1, none⟩ = some (.bool false) ∧ (w1.alloc (.cells #[.int .i64 x, .bool y, .string z] 72)).cell? ⟨w.heap.size, 2, none⟩ = some (.string ⟨#[]⟩)) ∧ (w1.alloc (.cells #[.int .i64 x, .bool y, .string z] 72)).frozen? ⟨w.heap.size, 0, none⟩ = false ∧ (w1.alloc (.cells #[.int .i64 x, .bool y, .string z] 72)).frozen? ⟨w.heap.size, 1, none⟩ = false ∧ (w1.alloc (.cells #[.int .i64 x, .bool y, .string z] 72)).frozen? ⟨w.heap.size, 2, none⟩ = false)
    have R := Lib.hid (⟨r0, r1, r2⟩ : (w1.alloc (.cells #[.int .i64 x, .bool y, .string z] 72)).cell? ⟨w1.heap.size, 0, none⟩ = some (.int .i64 x) ∧ (w1.alloc (.cells #[.int .i64 x, .bool y, .string z] 72)).cell? ⟨w1.heap.size, 1, none⟩ = some (.bool y) ∧ (w1.alloc (.cells #[.int .i64 x, .bool y, .string z] 72)).cell? ⟨w1.heap.size, 2, none⟩ = some (.string z))
    have HB2 := Lib.hid hb2
    clear r0 r1 r2 hzz hfz hcz k0 k1 k2 f0 f1 f2 S2 hb2
    go_wp2_with fail
    refine X2.out.mono ?_
    rintro e w3 ⟨u, rfl, ho, hb3⟩
    have D3 := Lib.hid (D2.out u w3 hb3.size ho)
    have HB3 := Lib.hid hb3
    clear hb3 ho D2 X2
    go_wp2_with fail
    refine D3.out.mono ?_
    rintro e w4 ⟨u', rfl, ho4, hb4⟩
    have hb24 := HB3.out.trans hb4
    rw [HZZ.out] at hb24
    have hs4 : w1.heap.size + 1 ≤ w4.heap.size := by have := hb24.size; simp at this; omega
    have l0 : w1.heap.size < w1.heap.size + 1 := by omega
    have l1 : w.heap.size < w1.heap.size + 1 := by omega
    obtain ⟨⟨k0, k1, k2⟩, f0, f1, f2⟩ := KZ.out
    obtain ⟨r0, r1, r2⟩ := R.out
    rw [← hb24.cell (by exact l1)] at k0 k1 k2
    rw [← hb24.frozen (by exact l1)] at f0 f1 f2
    rw [← hb24.cell (by exact l0)] at r0 r1 r2
    have q1 : w4.frozen? ⟨q, 0, none⟩ = false := by
      rw [hb24.frozen (p := ⟨q, 0, none⟩) (by show q < _; omega)]
      exact (H.out.kept HB2.out).f 0
    have q0 : w4.cell? ⟨q, 0, none⟩ = some (.slice ao l.length c) := by
      rw [hb24.cell (p := ⟨q, 0, none⟩) (by show q < _; omega)]
      exact (H.out.kept HB2.out).c0
    have HB4 := Lib.hid (HB2.out.trans (hb24.mono (by omega)))
    obtain ⟨uo, uc, rfl, _⟩ := own_form ho4
    have HO4 := Lib.hid ho4
    clear hb24 ho4 hb4 D3 KZ R
    have n1 : (w.heap.size = q) = False := eq_false (by omega)
    have n2 : (q = w.heap.size) = False := eq_false (by omega)
    have n3 : (w1.heap.size = q) = False := eq_false (by omega)
    have n4 : (w1.heap.size = w.heap.size) = False := eq_false (by omega)
    go_wp2_with fail
    have hlen : (l.take j ++ l.drop (j + 1)).length = l.length - 1 := by rw [List.length_append, List.length_take, List.length_drop]; omega
    have hz := HZZ.out
    have S4 : St 99 72 B (w4.setCell ⟨q, 0, none⟩ (.slice uo (l.length - 1) uc)) q (.slice uo (l.length - 1) uc) n (l.take j ++ l.drop (j + 1)) := H.out.setV (HB4.out.block q hq) (by rw [hlen]; exact own_mono HO4.out (by omega))
    have hvn : (Value.slice uo (l.length - 1) uc).ownBlock ≠ some w.heap.size := fun e => by
      have := (HO4.out.lt _ e).1
      omega
    have hnq : w.heap.size ≠ q := by omega
    have M4 : TM 99 72 B w (w4.setCell ⟨q, 0, none⟩ (.slice uo (l.length - 1) uc)) := TM.set H.out 0 _ (TM.of_below hB HB4.out)
    refine bodyPost_ret (v := .tuple #[.agg #[.int .i64 x, .bool y, .string z], .int .i64 0]) (by simp [results, Try.results73, go_sem, k0, k1, k2]) rfl ⟨rfl, ⟨_, ((S4.set_other _ _ _ hnq hvn).set_other _ _ _ hnq hvn).set_other _ _ _ hnq hvn⟩, ((M4.fresh _ _ _ hB (Nat.le_refl _)).fresh _ _ _ hB (Nat.le_refl _)).fresh _ _ _ hB (Nat.le_refl _)⟩
end
end Ch
end Go.Proofs.Ythmglahcampllaa
