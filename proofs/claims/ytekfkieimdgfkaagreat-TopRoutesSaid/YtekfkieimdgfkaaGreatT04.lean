/- What is proved here: how deep, large and wide policies are. Condition: they can be read. -/
import Derived.Test.YtekfkieimdgfkaaGreatT03
namespace Go.Proofs.YtekfkieimdgfkaaGreat
open Go Go.RowKit
attribute [local go_sem] KW.cell KW.frozen
/-- What is gathered of the first k. -/
def accF (f : Int → Int → Int) (z : Int) (g : Pol → Int) (l : List Pol) (k : Nat) : Int := ((l.take k).map g).foldl f z
theorem acc_succ {f : Int → Int → Int} {z : Int} {g : Pol → Int} {l : List Pol} {k : Nat} (h : k < l.length) : accF f z g l (k + 1) = f (accF f z g l k) (g l[k]) := by
  unfold accF
  rw [List.take_succ_eq_append_getElem h, List.map_append, List.foldl_append]
  rfl
theorem acc_zero {f : Int → Int → Int} {z : Int} {g : Pol → Int} {l : List Pol} : accF f z g l 0 = z := rfl
abbrev maxI (a b : Int) : Int := if a < b then b else a
abbrev addI (a b : Int) : Int := a + b
abbrev mul1000 (a b : Int) : Int := if 1000 < a * b then 1000 else a * b
abbrev add1000 (a b : Int) : Int := if 1000 < a + b then 1000 else a + b
abbrev AnyP : Nat → Prop := fun _ => True
set_option maxRecDepth 100000 in
set_option maxHeartbeats 8000000 in
theorem deep_step (d : Nat) (x : Pol) (g : Pol → Int) (u : Value) (w : World) (hr : RdP AnyP (d + 1) u x.l w) 
    (hacc : ∀ k, k ≤ x.l.length → 0 ≤ accF maxI 0 g x.l k ∧ accF maxI 0 g x.l k ≤ 1000000)
    (IH : ∀ y ∈ x.l, ∀ u' w', RdP AnyP d u' y.l w' → Calls Tryz.prog 53 #[polV y u'] w' fun e w'' => e = .returned (.int .i64 (g y)) ∧ Below w'.heap.size w' w'') :
    Calls Tryz.prog 53 #[polV x u] w fun e w' => e = .returned (.int .i64 (accF maxI 0 g x.l x.l.length + 1)) ∧ Below w.heap.size w w' := by
  obtain ⟨uo, uc, rfl, _, huc⟩ := hr.form
  have HR := Lib.hid (hr.kept (grow1 w (.cells (polL x (.slice uo x.l.length uc)).toArray 55)))
  have HB := Lib.hid (grow1 w (.cells (polL x (.slice uo x.l.length uc)).toArray 55))
  have HA := Lib.hid hacc
  have HI := Lib.hid IH
  unfold maxLen at huc
  clear hr hacc IH
  unfold polV
  go_enter Tryz.func53, Tryz.ntmps53
  go_wp2_with fail
  refine abs_wp ?_
  intro W hW
  have HR1 : Hid (RdP AnyP (d + 1) (.slice uo x.l.length uc) x.l W) := by rw [hW]; exact HR
  have HB1 : Hid (Below w.heap.size w W) := by rw [hW]; exact HB
  have hWs : w.heap.size < W.heap.size := by rw [hW]; simp
  clear hW HR HB
  go_loopw [3, 9] (fun m i wr => ∃ (k : Nat) (a : Int), i = .int .i64 k ∧ k ≤ x.l.length ∧ m = .int .i64 a ∧ Hid (a = accF maxI 0 g x.l k) ∧ Hid (Below W.heap.size W wr)) (fun _ i _ => x.l.length - (intOf i).toNat)
  case atStart => exact ⟨0, 0, rfl, Nat.zero_le _, rfl, Lib.hid rfl, Lib.hid (Below.refl _ _)⟩
  case round =>
    obtain ⟨k, a, rfl, hk, rfl, HE, HB2⟩ := hrel
    by_cases hlt : k < x.l.length
    · have hd : decide ((k : Int) < (x.l.length : Int)) = true := by simp; omega
      have hk2 : (k : Int) < (x.l.length : Int) := by omega
      obtain ⟨ge, cap, ue, hv, hge, _, hrange, hre⟩ := (HR1.out.kept HB2.out).at_ k hlt
      cases hv
      have HRA := Lib.hid hrange
      have HRE := Lib.hid hre
      obtain ⟨eo, ec, rfl, _, _⟩ := hre.form
      clear hrange hre
      go_wp2_with (refine stop_load 55 _ rfl ?_)
      obtain ⟨fs, hu55⟩ := und55
      refine Stop.go (wpList_load_mid rfl 55 _ rfl ge (k * 8) rfl (polL x.l[k] (.slice eo x.l[k].l.length ec)) _ HRA.out hu55 rfl inf55 ?_)
      have HU := Lib.hid hu55
      clear hu55
      go_wp2_with (refine stop_store 55 _ _ rfl ?_)
      refine Stop.go (abs_list ?_)
      intro w2 e2
      have hb2 : Below wr.heap.size wr w2 := by rw [e2]; exact grow1 wr _
      have hg2 : w2.heap[wr.heap.size]? = some (.cells #[.int .i64 0, .int .i64 0, .int .i64 0, .int .i64 0, .slice none 0 0, .int .i64 0, .int .i64 0, .slice none 0 0] 55 (0, 0)) := by rw [e2]; exact heap_alloc_new wr _
      have HB22 := Lib.hid hb2
      clear e2 hb2
      refine wpList_store_o rfl 55 _ _ rfl wr.heap.size _ rfl rfl 55 _ hg2 inf55 rfl rfl ?_
      intro w3 hg3 ho3
      have HB3 := Lib.hid (ho3.belowT HB22.out (Nat.le_refl _))
      have HG3 := Lib.hid hg3
      clear hg2 hg3 ho3 HB22 HRA
      go_wp2_with (refine stop_load 55 _ rfl ?_)
      refine Stop.go (wpList_load_row rfl 55 _ rfl wr.heap.size rfl 55 _ (0, 0) _ HG3.out HU.out rfl inf55 ?_)
      go_wp2_with fail
      refine (HI.out x.l[k] (List.getElem_mem hlt) _ _ (HRE.out.kept HB3.out)).mono ?_
      rintro e w4 ⟨rfl, hb4⟩
      have HB4 : Hid (Below W.heap.size W w4) := Lib.hid ((HB2.out.trans (HB3.out.mono HB2.out.size)).trans (hb4.mono (Nat.le_trans HB2.out.size HB3.out.size)))
      have HE2 := Lib.hid (acc_succ (f := maxI) (z := 0) (g := g) hlt)
      have ⟨p1, p2⟩ := HA.out k hk
      have ⟨p3, p4⟩ := HA.out (k + 1) hlt
      rw [HE2.out, ← HE.out] at p3 p4
      rw [← HE.out] at p1 p2
      clear hb4 HB3 HG3 HRE HU
      go_wp2_with fail
      go_roundw
      case rel => exact ⟨k + 1, _, by go_num, hlt, rfl, Lib.hid (by rw [HE2.out, ← HE.out]), HB4⟩
      case measure => simp [intOf]; omega
    · obtain rfl : k = x.l.length := by omega
      have hd : decide ((x.l.length : Int) < (x.l.length : Int)) = false := by simp
      have ⟨p1, p2⟩ := HA.out x.l.length hk
      rw [← HE.out] at p1 p2
      have HF := Lib.hid (HB1.out.trans (HB2.out.mono (Nat.le_of_lt hWs)))
      go_wp2_with fail
      go_ret
      exact ⟨by rw [← HE.out]; rfl, HF.out⟩
set_option maxRecDepth 100000 in
set_option maxHeartbeats 8000000 in
theorem size_step2 (d : Nat) (x : Pol) (g : Pol → Int) (u : Value) (w : World) (hr : RdP AnyP (d + 1) u x.l w) (hk0 : x.k = 2)
    (hacc : ∀ k, k ≤ x.l.length → 0 ≤ accF addI 1 g x.l k ∧ accF addI 1 g x.l k ≤ 1000000)
    (IH : ∀ y ∈ x.l, ∀ u' w', RdP AnyP d u' y.l w' → Calls Tryz.prog 54 #[polV y u'] w' fun e w'' => e = .returned (.int .i64 (g y)) ∧ Below w'.heap.size w' w'') :
    Calls Tryz.prog 54 #[polV x u] w fun e w' => e = .returned (.int .i64 (accF addI 1 g x.l x.l.length)) ∧ Below w.heap.size w w' := by
  obtain ⟨uo, uc, rfl, _, huc⟩ := hr.form
  have HR := Lib.hid (hr.kept (grow1 w (.cells (polL x (.slice uo x.l.length uc)).toArray 55)))
  have HB := Lib.hid (grow1 w (.cells (polL x (.slice uo x.l.length uc)).toArray 55))
  have HA := Lib.hid hacc
  have HI := Lib.hid IH
  unfold maxLen at huc
  clear hr hacc IH
  unfold polV
  unfold polL at HR HB
  rw [hk0] at HR HB ⊢
  clear hk0
  go_enter Tryz.func54, Tryz.ntmps54
  go_wp2_with fail
  refine abs_wp ?_
  intro W hW
  have HR1 : Hid (RdP AnyP (d + 1) (.slice uo x.l.length uc) x.l W) := by rw [hW]; exact HR
  have HB1 : Hid (Below w.heap.size w W) := by rw [hW]; exact HB
  have hWs : w.heap.size < W.heap.size := by rw [hW]; simp
  clear hW HR HB
  go_loopw [3, 27] (fun m i wr => ∃ (k : Nat) (a : Int), i = .int .i64 k ∧ k ≤ x.l.length ∧ m = .int .i64 a ∧ Hid (a = accF addI 1 g x.l k) ∧ Hid (Below W.heap.size W wr)) (fun _ i _ => x.l.length - (intOf i).toNat)
  case atStart => exact ⟨0, 1, rfl, Nat.zero_le _, rfl, Lib.hid rfl, Lib.hid (Below.refl _ _)⟩
  case round =>
    obtain ⟨k, a, rfl, hk, rfl, HE, HB2⟩ := hrel
    by_cases hlt : k < x.l.length
    · have hd : decide ((k : Int) < (x.l.length : Int)) = true := by simp; omega
      have hk2 : (k : Int) < (x.l.length : Int) := by omega
      obtain ⟨ge, cap, ue, hv, hge, _, hrange, hre⟩ := (HR1.out.kept HB2.out).at_ k hlt
      cases hv
      have HRA := Lib.hid hrange
      have HRE := Lib.hid hre
      obtain ⟨eo, ec, rfl, _, _⟩ := hre.form
      clear hrange hre
      go_wp2_with (refine stop_load 55 _ rfl ?_)
      obtain ⟨fs, hu55⟩ := und55
      refine Stop.go (wpList_load_mid rfl 55 _ rfl ge (k * 8) rfl (polL x.l[k] (.slice eo x.l[k].l.length ec)) _ HRA.out hu55 rfl inf55 ?_)
      have HU := Lib.hid hu55
      clear hu55
      go_wp2_with (refine stop_store 55 _ _ rfl ?_)
      refine Stop.go (abs_list ?_)
      intro w2 e2
      have hb2 : Below wr.heap.size wr w2 := by rw [e2]; exact grow1 wr _
      have hg2 : w2.heap[wr.heap.size]? = some (.cells #[.int .i64 0, .int .i64 0, .int .i64 0, .int .i64 0, .slice none 0 0, .int .i64 0, .int .i64 0, .slice none 0 0] 55 (0, 0)) := by rw [e2]; exact heap_alloc_new wr _
      have HB22 := Lib.hid hb2
      clear e2 hb2
      refine wpList_store_o rfl 55 _ _ rfl wr.heap.size _ rfl rfl 55 _ hg2 inf55 rfl rfl ?_
      intro w3 hg3 ho3
      have HB3 := Lib.hid (ho3.belowT HB22.out (Nat.le_refl _))
      have HG3 := Lib.hid hg3
      clear hg2 hg3 ho3 HB22 HRA
      go_wp2_with (refine stop_load 55 _ rfl ?_)
      refine Stop.go (wpList_load_row rfl 55 _ rfl wr.heap.size rfl 55 _ (0, 0) _ HG3.out HU.out rfl inf55 ?_)
      go_wp2_with fail
      refine (HI.out x.l[k] (List.getElem_mem hlt) _ _ (HRE.out.kept HB3.out)).mono ?_
      rintro e w4 ⟨rfl, hb4⟩
      have HB4 : Hid (Below W.heap.size W w4) := Lib.hid ((HB2.out.trans (HB3.out.mono HB2.out.size)).trans (hb4.mono (Nat.le_trans HB2.out.size HB3.out.size)))
      have HE2 := Lib.hid (acc_succ (f := addI) (z := 1) (g := g) hlt)
      have ⟨p1, p2⟩ := HA.out k hk
      have ⟨p3, p4⟩ := HA.out (k + 1) hlt
      rw [HE2.out, ← HE.out] at p3 p4
      rw [← HE.out] at p1 p2
      have q3 : 0 ≤ a + g x.l[k] := p3
      have q4 : a + g x.l[k] ≤ 1000000 := p4
      clear hb4 HB3 HG3 HRE HU
      go_wp2_with fail
      go_roundw
      case rel => exact ⟨k + 1, _, by go_num, hlt, rfl, Lib.hid (by rw [HE2.out, ← HE.out]), HB4⟩
      case measure => simp [intOf]; omega
    · obtain rfl : k = x.l.length := by omega
      have hd : decide ((x.l.length : Int) < (x.l.length : Int)) = false := by simp
      have ⟨p1, p2⟩ := HA.out x.l.length hk
      rw [← HE.out] at p1 p2
      have HF := Lib.hid (HB1.out.trans (HB2.out.mono (Nat.le_of_lt hWs)))
      go_wp2_with fail
      go_ret
      exact ⟨by rw [← HE.out]; rfl, HF.out⟩
set_option maxRecDepth 100000 in
set_option maxHeartbeats 8000000 in
theorem size_step3 (d : Nat) (x : Pol) (g : Pol → Int) (u : Value) (w : World) (hr : RdP AnyP (d + 1) u x.l w) (hk0 : x.k = 3)
    (hacc : ∀ k, k ≤ x.l.length → 0 ≤ accF addI 1 g x.l k ∧ accF addI 1 g x.l k ≤ 1000000)
    (IH : ∀ y ∈ x.l, ∀ u' w', RdP AnyP d u' y.l w' → Calls Tryz.prog 54 #[polV y u'] w' fun e w'' => e = .returned (.int .i64 (g y)) ∧ Below w'.heap.size w' w'') :
    Calls Tryz.prog 54 #[polV x u] w fun e w' => e = .returned (.int .i64 (accF addI 1 g x.l x.l.length)) ∧ Below w.heap.size w w' := by
  obtain ⟨uo, uc, rfl, _, huc⟩ := hr.form
  have HR := Lib.hid (hr.kept (grow1 w (.cells (polL x (.slice uo x.l.length uc)).toArray 55)))
  have HB := Lib.hid (grow1 w (.cells (polL x (.slice uo x.l.length uc)).toArray 55))
  have HA := Lib.hid hacc
  have HI := Lib.hid IH
  unfold maxLen at huc
  clear hr hacc IH
  unfold polV
  unfold polL at HR HB
  rw [hk0] at HR HB ⊢
  clear hk0
  go_enter Tryz.func54, Tryz.ntmps54
  go_wp2_with fail
  refine abs_wp ?_
  intro W hW
  have HR1 : Hid (RdP AnyP (d + 1) (.slice uo x.l.length uc) x.l W) := by rw [hW]; exact HR
  have HB1 : Hid (Below w.heap.size w W) := by rw [hW]; exact HB
  have hWs : w.heap.size < W.heap.size := by rw [hW]; simp
  clear hW HR HB
  go_loopw [3, 27] (fun m i wr => ∃ (k : Nat) (a : Int), i = .int .i64 k ∧ k ≤ x.l.length ∧ m = .int .i64 a ∧ Hid (a = accF addI 1 g x.l k) ∧ Hid (Below W.heap.size W wr)) (fun _ i _ => x.l.length - (intOf i).toNat)
  case atStart => exact ⟨0, 1, rfl, Nat.zero_le _, rfl, Lib.hid rfl, Lib.hid (Below.refl _ _)⟩
  case round =>
    obtain ⟨k, a, rfl, hk, rfl, HE, HB2⟩ := hrel
    by_cases hlt : k < x.l.length
    · have hd : decide ((k : Int) < (x.l.length : Int)) = true := by simp; omega
      have hk2 : (k : Int) < (x.l.length : Int) := by omega
      obtain ⟨ge, cap, ue, hv, hge, _, hrange, hre⟩ := (HR1.out.kept HB2.out).at_ k hlt
      cases hv
      have HRA := Lib.hid hrange
      have HRE := Lib.hid hre
      obtain ⟨eo, ec, rfl, _, _⟩ := hre.form
      clear hrange hre
      go_wp2_with (refine stop_load 55 _ rfl ?_)
      obtain ⟨fs, hu55⟩ := und55
      refine Stop.go (wpList_load_mid rfl 55 _ rfl ge (k * 8) rfl (polL x.l[k] (.slice eo x.l[k].l.length ec)) _ HRA.out hu55 rfl inf55 ?_)
      have HU := Lib.hid hu55
      clear hu55
      go_wp2_with (refine stop_store 55 _ _ rfl ?_)
      refine Stop.go (abs_list ?_)
      intro w2 e2
      have hb2 : Below wr.heap.size wr w2 := by rw [e2]; exact grow1 wr _
      have hg2 : w2.heap[wr.heap.size]? = some (.cells #[.int .i64 0, .int .i64 0, .int .i64 0, .int .i64 0, .slice none 0 0, .int .i64 0, .int .i64 0, .slice none 0 0] 55 (0, 0)) := by rw [e2]; exact heap_alloc_new wr _
      have HB22 := Lib.hid hb2
      clear e2 hb2
      refine wpList_store_o rfl 55 _ _ rfl wr.heap.size _ rfl rfl 55 _ hg2 inf55 rfl rfl ?_
      intro w3 hg3 ho3
      have HB3 := Lib.hid (ho3.belowT HB22.out (Nat.le_refl _))
      have HG3 := Lib.hid hg3
      clear hg2 hg3 ho3 HB22 HRA
      go_wp2_with (refine stop_load 55 _ rfl ?_)
      refine Stop.go (wpList_load_row rfl 55 _ rfl wr.heap.size rfl 55 _ (0, 0) _ HG3.out HU.out rfl inf55 ?_)
      go_wp2_with fail
      refine (HI.out x.l[k] (List.getElem_mem hlt) _ _ (HRE.out.kept HB3.out)).mono ?_
      rintro e w4 ⟨rfl, hb4⟩
      have HB4 : Hid (Below W.heap.size W w4) := Lib.hid ((HB2.out.trans (HB3.out.mono HB2.out.size)).trans (hb4.mono (Nat.le_trans HB2.out.size HB3.out.size)))
      have HE2 := Lib.hid (acc_succ (f := addI) (z := 1) (g := g) hlt)
      have ⟨p1, p2⟩ := HA.out k hk
      have ⟨p3, p4⟩ := HA.out (k + 1) hlt
      rw [HE2.out, ← HE.out] at p3 p4
      rw [← HE.out] at p1 p2
      have q3 : 0 ≤ a + g x.l[k] := p3
      have q4 : a + g x.l[k] ≤ 1000000 := p4
      clear hb4 HB3 HG3 HRE HU
      go_wp2_with fail
      go_roundw
      case rel => exact ⟨k + 1, _, by go_num, hlt, rfl, Lib.hid (by rw [HE2.out, ← HE.out]), HB4⟩
      case measure => simp [intOf]; omega
    · obtain rfl : k = x.l.length := by omega
      have hd : decide ((x.l.length : Int) < (x.l.length : Int)) = false := by simp
      have ⟨p1, p2⟩ := HA.out x.l.length hk
      rw [← HE.out] at p1 p2
      have HF := Lib.hid (HB1.out.trans (HB2.out.mono (Nat.le_of_lt hWs)))
      go_wp2_with fail
      go_ret
      exact ⟨by rw [← HE.out]; rfl, HF.out⟩
set_option maxRecDepth 100000 in
set_option maxHeartbeats 8000000 in
theorem size_step4 (d : Nat) (x : Pol) (g : Pol → Int) (u : Value) (w : World) (hr : RdP AnyP (d + 1) u x.l w) (hk0 : x.k = 4)
    (hacc : ∀ k, k ≤ x.l.length → 0 ≤ accF addI 1 g x.l k ∧ accF addI 1 g x.l k ≤ 1000000)
    (IH : ∀ y ∈ x.l, ∀ u' w', RdP AnyP d u' y.l w' → Calls Tryz.prog 54 #[polV y u'] w' fun e w'' => e = .returned (.int .i64 (g y)) ∧ Below w'.heap.size w' w'') :
    Calls Tryz.prog 54 #[polV x u] w fun e w' => e = .returned (.int .i64 (accF addI 1 g x.l x.l.length)) ∧ Below w.heap.size w w' := by
  obtain ⟨uo, uc, rfl, _, huc⟩ := hr.form
  have HR := Lib.hid (hr.kept (grow1 w (.cells (polL x (.slice uo x.l.length uc)).toArray 55)))
  have HB := Lib.hid (grow1 w (.cells (polL x (.slice uo x.l.length uc)).toArray 55))
  have HA := Lib.hid hacc
  have HI := Lib.hid IH
  unfold maxLen at huc
  clear hr hacc IH
  unfold polV
  unfold polL at HR HB
  rw [hk0] at HR HB ⊢
  clear hk0
  go_enter Tryz.func54, Tryz.ntmps54
  go_wp2_with fail
  refine abs_wp ?_
  intro W hW
  have HR1 : Hid (RdP AnyP (d + 1) (.slice uo x.l.length uc) x.l W) := by rw [hW]; exact HR
  have HB1 : Hid (Below w.heap.size w W) := by rw [hW]; exact HB
  have hWs : w.heap.size < W.heap.size := by rw [hW]; simp
  clear hW HR HB
  go_loopw [3, 27] (fun m i wr => ∃ (k : Nat) (a : Int), i = .int .i64 k ∧ k ≤ x.l.length ∧ m = .int .i64 a ∧ Hid (a = accF addI 1 g x.l k) ∧ Hid (Below W.heap.size W wr)) (fun _ i _ => x.l.length - (intOf i).toNat)
  case atStart => exact ⟨0, 1, rfl, Nat.zero_le _, rfl, Lib.hid rfl, Lib.hid (Below.refl _ _)⟩
  case round =>
    obtain ⟨k, a, rfl, hk, rfl, HE, HB2⟩ := hrel
    by_cases hlt : k < x.l.length
    · have hd : decide ((k : Int) < (x.l.length : Int)) = true := by simp; omega
      have hk2 : (k : Int) < (x.l.length : Int) := by omega
      obtain ⟨ge, cap, ue, hv, hge, _, hrange, hre⟩ := (HR1.out.kept HB2.out).at_ k hlt
      cases hv
      have HRA := Lib.hid hrange
      have HRE := Lib.hid hre
      obtain ⟨eo, ec, rfl, _, _⟩ := hre.form
      clear hrange hre
      go_wp2_with (refine stop_load 55 _ rfl ?_)
      obtain ⟨fs, hu55⟩ := und55
      refine Stop.go (wpList_load_mid rfl 55 _ rfl ge (k * 8) rfl (polL x.l[k] (.slice eo x.l[k].l.length ec)) _ HRA.out hu55 rfl inf55 ?_)
      have HU := Lib.hid hu55
      clear hu55
      go_wp2_with (refine stop_store 55 _ _ rfl ?_)
      refine Stop.go (abs_list ?_)
      intro w2 e2
      have hb2 : Below wr.heap.size wr w2 := by rw [e2]; exact grow1 wr _
      have hg2 : w2.heap[wr.heap.size]? = some (.cells #[.int .i64 0, .int .i64 0, .int .i64 0, .int .i64 0, .slice none 0 0, .int .i64 0, .int .i64 0, .slice none 0 0] 55 (0, 0)) := by rw [e2]; exact heap_alloc_new wr _
      have HB22 := Lib.hid hb2
      clear e2 hb2
      refine wpList_store_o rfl 55 _ _ rfl wr.heap.size _ rfl rfl 55 _ hg2 inf55 rfl rfl ?_
      intro w3 hg3 ho3
      have HB3 := Lib.hid (ho3.belowT HB22.out (Nat.le_refl _))
      have HG3 := Lib.hid hg3
      clear hg2 hg3 ho3 HB22 HRA
      go_wp2_with (refine stop_load 55 _ rfl ?_)
      refine Stop.go (wpList_load_row rfl 55 _ rfl wr.heap.size rfl 55 _ (0, 0) _ HG3.out HU.out rfl inf55 ?_)
      go_wp2_with fail
      refine (HI.out x.l[k] (List.getElem_mem hlt) _ _ (HRE.out.kept HB3.out)).mono ?_
      rintro e w4 ⟨rfl, hb4⟩
      have HB4 : Hid (Below W.heap.size W w4) := Lib.hid ((HB2.out.trans (HB3.out.mono HB2.out.size)).trans (hb4.mono (Nat.le_trans HB2.out.size HB3.out.size)))
      have HE2 := Lib.hid (acc_succ (f := addI) (z := 1) (g := g) hlt)
      have ⟨p1, p2⟩ := HA.out k hk
      have ⟨p3, p4⟩ := HA.out (k + 1) hlt
      rw [HE2.out, ← HE.out] at p3 p4
      rw [← HE.out] at p1 p2
      have q3 : 0 ≤ a + g x.l[k] := p3
      have q4 : a + g x.l[k] ≤ 1000000 := p4
      clear hb4 HB3 HG3 HRE HU
      go_wp2_with fail
      go_roundw
      case rel => exact ⟨k + 1, _, by go_num, hlt, rfl, Lib.hid (by rw [HE2.out, ← HE.out]), HB4⟩
      case measure => simp [intOf]; omega
    · obtain rfl : k = x.l.length := by omega
      have hd : decide ((x.l.length : Int) < (x.l.length : Int)) = false := by simp
      have ⟨p1, p2⟩ := HA.out x.l.length hk
      rw [← HE.out] at p1 p2
      have HF := Lib.hid (HB1.out.trans (HB2.out.mono (Nat.le_of_lt hWs)))
      go_wp2_with fail
      go_ret
      exact ⟨by rw [← HE.out]; rfl, HF.out⟩
set_option maxRecDepth 100000 in
set_option maxHeartbeats 8000000 in
theorem wide_step3 (d : Nat) (x : Pol) (g : Pol → Int) (u : Value) (w : World) (hr : RdP AnyP (d + 1) u x.l w) (hk0 : x.k = 3) (hg : ∀ y ∈ x.l, 0 ≤ g y ∧ g y ≤ 1000)
    (hacc : ∀ k, k ≤ x.l.length → 0 ≤ accF mul1000 1 g x.l k ∧ accF mul1000 1 g x.l k ≤ 1000000)
    (IH : ∀ y ∈ x.l, ∀ u' w', RdP AnyP d u' y.l w' → Calls Tryz.prog 55 #[polV y u'] w' fun e w'' => e = .returned (.int .i64 (g y)) ∧ Below w'.heap.size w' w'') :
    Calls Tryz.prog 55 #[polV x u] w fun e w' => e = .returned (.int .i64 (accF mul1000 1 g x.l x.l.length)) ∧ Below w.heap.size w w' := by
  obtain ⟨uo, uc, rfl, _, huc⟩ := hr.form
  have HR := Lib.hid (hr.kept (grow1 w (.cells (polL x (.slice uo x.l.length uc)).toArray 55)))
  have HB := Lib.hid (grow1 w (.cells (polL x (.slice uo x.l.length uc)).toArray 55))
  have HA := Lib.hid hacc
  have HI := Lib.hid IH
  unfold maxLen at huc
  clear hr hacc IH
  unfold polV
  unfold polL at HR HB
  rw [hk0] at HR HB ⊢
  clear hk0
  have HG := Lib.hid hg
  clear hg
  go_enter Tryz.func55, Tryz.ntmps55
  go_wp2_with fail
  refine abs_wp ?_
  intro W hW
  have HR1 : Hid (RdP AnyP (d + 1) (.slice uo x.l.length uc) x.l W) := by rw [hW]; exact HR
  have HB1 : Hid (Below w.heap.size w W) := by rw [hW]; exact HB
  have hWs : w.heap.size < W.heap.size := by rw [hW]; simp
  clear hW HR HB
  go_loopw [3, 17] (fun m i wr => ∃ (k : Nat) (a : Int), i = .int .i64 k ∧ k ≤ x.l.length ∧ m = .int .i64 a ∧ Hid (a = accF mul1000 1 g x.l k) ∧ Hid (Below W.heap.size W wr)) (fun _ i _ => x.l.length - (intOf i).toNat)
  case atStart => exact ⟨0, 1, rfl, Nat.zero_le _, rfl, Lib.hid rfl, Lib.hid (Below.refl _ _)⟩
  case round =>
    obtain ⟨k, a, rfl, hk, rfl, HE, HB2⟩ := hrel
    by_cases hlt : k < x.l.length
    · have hd : decide ((k : Int) < (x.l.length : Int)) = true := by simp; omega
      have hk2 : (k : Int) < (x.l.length : Int) := by omega
      obtain ⟨ge, cap, ue, hv, hge, _, hrange, hre⟩ := (HR1.out.kept HB2.out).at_ k hlt
      cases hv
      have HRA := Lib.hid hrange
      have HRE := Lib.hid hre
      obtain ⟨eo, ec, rfl, _, _⟩ := hre.form
      clear hrange hre
      go_wp2_with (refine stop_load 55 _ rfl ?_)
      obtain ⟨fs, hu55⟩ := und55
      refine Stop.go (wpList_load_mid rfl 55 _ rfl ge (k * 8) rfl (polL x.l[k] (.slice eo x.l[k].l.length ec)) _ HRA.out hu55 rfl inf55 ?_)
      have HU := Lib.hid hu55
      clear hu55
      go_wp2_with (refine stop_store 55 _ _ rfl ?_)
      refine Stop.go (abs_list ?_)
      intro w2 e2
      have hb2 : Below wr.heap.size wr w2 := by rw [e2]; exact grow1 wr _
      have hg2 : w2.heap[wr.heap.size]? = some (.cells #[.int .i64 0, .int .i64 0, .int .i64 0, .int .i64 0, .slice none 0 0, .int .i64 0, .int .i64 0, .slice none 0 0] 55 (0, 0)) := by rw [e2]; exact heap_alloc_new wr _
      have HB22 := Lib.hid hb2
      clear e2 hb2
      refine wpList_store_o rfl 55 _ _ rfl wr.heap.size _ rfl rfl 55 _ hg2 inf55 rfl rfl ?_
      intro w3 hg3 ho3
      have HB3 := Lib.hid (ho3.belowT HB22.out (Nat.le_refl _))
      have HG3 := Lib.hid hg3
      clear hg2 hg3 ho3 HB22 HRA
      go_wp2_with (refine stop_load 55 _ rfl ?_)
      refine Stop.go (wpList_load_row rfl 55 _ rfl wr.heap.size rfl 55 _ (0, 0) _ HG3.out HU.out rfl inf55 ?_)
      go_wp2_with fail
      refine (HI.out x.l[k] (List.getElem_mem hlt) _ _ (HRE.out.kept HB3.out)).mono ?_
      rintro e w4 ⟨rfl, hb4⟩
      have HB4 : Hid (Below W.heap.size W w4) := Lib.hid ((HB2.out.trans (HB3.out.mono HB2.out.size)).trans (hb4.mono (Nat.le_trans HB2.out.size HB3.out.size)))
      have HE2 := Lib.hid (acc_succ (f := mul1000) (z := 1) (g := g) hlt)
      have ⟨p1, p2⟩ := HA.out k hk
      have ⟨p3, p4⟩ := HA.out (k + 1) hlt
      rw [HE2.out, ← HE.out] at p3 p4
      rw [← HE.out] at p1 p2
      have ⟨g1, g2⟩ := HG.out x.l[k] (List.getElem_mem hlt)
      have q3 : 0 ≤ a * g x.l[k] := Int.mul_nonneg p1 g1
      have q4 : a * g x.l[k] ≤ 1000000 * 1000 := Int.mul_le_mul p2 g2 g1 (by decide)
      clear hb4 HB3 HG3 HRE HU
      go_wp2_with fail
      go_roundw
      case rel => exact ⟨k + 1, _, by go_num, hlt, rfl, Lib.hid (by rw [HE2.out, ← HE.out]), HB4⟩
      case measure => simp [intOf]; omega
    · obtain rfl : k = x.l.length := by omega
      have hd : decide ((x.l.length : Int) < (x.l.length : Int)) = false := by simp
      have ⟨p1, p2⟩ := HA.out x.l.length hk
      rw [← HE.out] at p1 p2
      have HF := Lib.hid (HB1.out.trans (HB2.out.mono (Nat.le_of_lt hWs)))
      go_wp2_with fail
      go_ret
      exact ⟨by rw [← HE.out]; rfl, HF.out⟩
set_option maxRecDepth 100000 in
set_option maxHeartbeats 8000000 in
theorem wide_step4 (d : Nat) (x : Pol) (g : Pol → Int) (u : Value) (w : World) (hr : RdP AnyP (d + 1) u x.l w) (hk0 : x.k = 4) (hg : ∀ y ∈ x.l, 0 ≤ g y ∧ g y ≤ 1000)
    (hacc : ∀ k, k ≤ x.l.length → 0 ≤ accF add1000 0 g x.l k ∧ accF add1000 0 g x.l k ≤ 1000000)
    (IH : ∀ y ∈ x.l, ∀ u' w', RdP AnyP d u' y.l w' → Calls Tryz.prog 55 #[polV y u'] w' fun e w'' => e = .returned (.int .i64 (g y)) ∧ Below w'.heap.size w' w'') :
    Calls Tryz.prog 55 #[polV x u] w fun e w' => e = .returned (.int .i64 (accF add1000 0 g x.l x.l.length)) ∧ Below w.heap.size w w' := by
  obtain ⟨uo, uc, rfl, _, huc⟩ := hr.form
  have HR := Lib.hid (hr.kept (grow1 w (.cells (polL x (.slice uo x.l.length uc)).toArray 55)))
  have HB := Lib.hid (grow1 w (.cells (polL x (.slice uo x.l.length uc)).toArray 55))
  have HA := Lib.hid hacc
  have HI := Lib.hid IH
  unfold maxLen at huc
  clear hr hacc IH
  unfold polV
  unfold polL at HR HB
  rw [hk0] at HR HB ⊢
  clear hk0
  have HG := Lib.hid hg
  clear hg
  go_enter Tryz.func55, Tryz.ntmps55
  go_wp2_with fail
  refine abs_wp ?_
  intro W hW
  have HR1 : Hid (RdP AnyP (d + 1) (.slice uo x.l.length uc) x.l W) := by rw [hW]; exact HR
  have HB1 : Hid (Below w.heap.size w W) := by rw [hW]; exact HB
  have hWs : w.heap.size < W.heap.size := by rw [hW]; simp
  clear hW HR HB
  go_loopw [3, 32] (fun m i wr => ∃ (k : Nat) (a : Int), i = .int .i64 k ∧ k ≤ x.l.length ∧ m = .int .i64 a ∧ Hid (a = accF add1000 0 g x.l k) ∧ Hid (Below W.heap.size W wr)) (fun _ i _ => x.l.length - (intOf i).toNat)
  case atStart => exact ⟨0, 0, rfl, Nat.zero_le _, rfl, Lib.hid rfl, Lib.hid (Below.refl _ _)⟩
  case round =>
    obtain ⟨k, a, rfl, hk, rfl, HE, HB2⟩ := hrel
    by_cases hlt : k < x.l.length
    · have hd : decide ((k : Int) < (x.l.length : Int)) = true := by simp; omega
      have hk2 : (k : Int) < (x.l.length : Int) := by omega
      obtain ⟨ge, cap, ue, hv, hge, _, hrange, hre⟩ := (HR1.out.kept HB2.out).at_ k hlt
      cases hv
      have HRA := Lib.hid hrange
      have HRE := Lib.hid hre
      obtain ⟨eo, ec, rfl, _, _⟩ := hre.form
      clear hrange hre
      go_wp2_with (refine stop_load 55 _ rfl ?_)
      obtain ⟨fs, hu55⟩ := und55
      refine Stop.go (wpList_load_mid rfl 55 _ rfl ge (k * 8) rfl (polL x.l[k] (.slice eo x.l[k].l.length ec)) _ HRA.out hu55 rfl inf55 ?_)
      have HU := Lib.hid hu55
      clear hu55
      go_wp2_with (refine stop_store 55 _ _ rfl ?_)
      refine Stop.go (abs_list ?_)
      intro w2 e2
      have hb2 : Below wr.heap.size wr w2 := by rw [e2]; exact grow1 wr _
      have hg2 : w2.heap[wr.heap.size]? = some (.cells #[.int .i64 0, .int .i64 0, .int .i64 0, .int .i64 0, .slice none 0 0, .int .i64 0, .int .i64 0, .slice none 0 0] 55 (0, 0)) := by rw [e2]; exact heap_alloc_new wr _
      have HB22 := Lib.hid hb2
      clear e2 hb2
      refine wpList_store_o rfl 55 _ _ rfl wr.heap.size _ rfl rfl 55 _ hg2 inf55 rfl rfl ?_
      intro w3 hg3 ho3
      have HB3 := Lib.hid (ho3.belowT HB22.out (Nat.le_refl _))
      have HG3 := Lib.hid hg3
      clear hg2 hg3 ho3 HB22 HRA
      go_wp2_with (refine stop_load 55 _ rfl ?_)
      refine Stop.go (wpList_load_row rfl 55 _ rfl wr.heap.size rfl 55 _ (0, 0) _ HG3.out HU.out rfl inf55 ?_)
      go_wp2_with fail
      refine (HI.out x.l[k] (List.getElem_mem hlt) _ _ (HRE.out.kept HB3.out)).mono ?_
      rintro e w4 ⟨rfl, hb4⟩
      have HB4 : Hid (Below W.heap.size W w4) := Lib.hid ((HB2.out.trans (HB3.out.mono HB2.out.size)).trans (hb4.mono (Nat.le_trans HB2.out.size HB3.out.size)))
      have HE2 := Lib.hid (acc_succ (f := add1000) (z := 0) (g := g) hlt)
      have ⟨p1, p2⟩ := HA.out k hk
      have ⟨p3, p4⟩ := HA.out (k + 1) hlt
      rw [HE2.out, ← HE.out] at p3 p4
      rw [← HE.out] at p1 p2
      have ⟨g1, g2⟩ := HG.out x.l[k] (List.getElem_mem hlt)
      have q3 : 0 ≤ a + g x.l[k] := by omega
      have q4 : a + g x.l[k] ≤ 1001000 := by omega
      clear hb4 HB3 HG3 HRE HU
      go_wp2_with fail
      go_roundw
      case rel => exact ⟨k + 1, _, by go_num, hlt, rfl, Lib.hid (by rw [HE2.out, ← HE.out]), HB4⟩
      case measure => simp [intOf]; omega
    · obtain rfl : k = x.l.length := by omega
      have hd : decide ((x.l.length : Int) < (x.l.length : Int)) = false := by simp
      have ⟨p1, p2⟩ := HA.out x.l.length hk
      rw [← HE.out] at p1 p2
      have HF := Lib.hid (HB1.out.trans (HB2.out.mono (Nat.le_of_lt hWs)))
      go_wp2_with fail
      go_ret
      exact ⟨by rw [← HE.out]; rfl, HF.out⟩
set_option maxRecDepth 100000 in
set_option maxHeartbeats 8000000 in
theorem size_leaf1 (pk pf pn f v : Int) (uo : Option Addr) (uc : Nat) (w : World) : Calls Tryz.prog 54 #[polV (.mk 1 pk pf pn f v []) (.slice uo 0 uc)] w fun e w' => e = .returned (.int .i64 2) ∧ Below w.heap.size w w' := by
  unfold polV
  simp only [Pol.k, Pol.pk, Pol.pf, Pol.pn, Pol.f, Pol.v]
  have HB := Lib.hid (grow1 w (.cells #[.int .i64 1, .int .i64 pk, .int .i64 pf, .int .i64 pn, .slice none 0 0, .int .i64 f, .int .i64 v, .slice uo 0 uc] 55))
  have HG := Lib.hid (heap_alloc_new w (.cells #[.int .i64 1, .int .i64 pk, .int .i64 pf, .int .i64 pn, .slice none 0 0, .int .i64 f, .int .i64 v, .slice uo 0 uc] 55))
  go_enter Tryz.func54, Tryz.ntmps54
  go_wp2_with fail
  refine (psize_c _ _ _ _).mono ?_
  rintro e w1 ⟨rfl, hb⟩
  have HB1 := Lib.hid (HB.out.trans (hb.mono (by simp)))
  have hg := (hb.block w.heap.size (by simp)).trans HG.out
  have c7 := block_cell hg 7
  simp only [List.getElem?_toArray, List.getElem?_cons_zero, List.getElem?_cons_succ] at c7
  clear hb hg HB HG
  go_wp2_with fail
  go_loopw [3, 27] (fun m i wr => m = .int .i64 2 ∧ i = .int .i64 0 ∧ wr = w1) (fun _ _ _ => 0)
  case atStart => exact ⟨rfl, rfl, rfl⟩
  case round =>
    obtain ⟨rfl, rfl, rfl⟩ := hrel
    go_wp2_with fail
    go_ret
    exact ⟨rfl, HB1.out⟩
set_option maxRecDepth 100000 in
set_option maxHeartbeats 8000000 in
theorem wide_leaf (k pk pf pn f v : Int) (u : Value) (l : List Pol) (w : World) (hk : k = 1 ∨ k = 2) : Calls Tryz.prog 55 #[polV (.mk k pk pf pn f v l) u] w fun e w' => e = .returned (.int .i64 1) ∧ Below w.heap.size w w' := by
  unfold polV
  simp only [Pol.k, Pol.pk, Pol.pf, Pol.pn, Pol.f, Pol.v]
  have HB := Lib.hid (grow1 w (.cells #[.int .i64 k, .int .i64 pk, .int .i64 pf, .int .i64 pn, .slice none 0 0, .int .i64 f, .int .i64 v, u] 55))
  rcases hk with rfl | rfl
  all_goals
    go_enter Tryz.func55, Tryz.ntmps55
    go_wp2_with fail
    go_ret
    exact ⟨rfl, HB.out⟩
end Go.Proofs.YtekfkieimdgfkaaGreat
/- What is proved here: policies whose parts have their shapes may be. Condition: they are deep, large and wide at most so much. -/
namespace Go.Proofs.YtekfkieimdgfkaaGreat
open Go Go.RowKit
attribute [local go_sem] KW.cell KW.frozen
abbrev polA (k pk pf pn f v : Int) (u : Value) : Array Value := #[.int .i64 k, .int .i64 pk, .int .i64 pf, .int .i64 pn, .slice none 0 0, .int .i64 f, .int .i64 v, u]
set_option maxRecDepth 100000 in
set_option maxHeartbeats 4000000 in
theorem none_c (k f v : Int) (u : Value) (w : World) : Calls Tryz.prog 104 #[.agg (polA k 0 0 0 f v u)] w fun e w' => e = .returned (.bool true) ∧ Below w.heap.size w w' := by
  have HB := Lib.hid (grow1 w (.cells (polA k 0 0 0 f v u) 55))
  go_enter Tryz.func104, Tryz.ntmps104
  go_wp2_with fail
  refine (psame_c _).mono ?_
  rintro e w1 ⟨rfl, hb⟩
  have HB1 := Lib.hid (HB.out.trans (hb.mono (by simp)))
  clear hb HB
  go_wp2_with fail
  go_ret
  exact ⟨rfl, HB1.out⟩
set_option maxRecDepth 100000 in
set_option maxHeartbeats 8000000 in
theorem shape1_c (uo : Option Addr) (uc : Nat) (pk pf pn : Int) (w : World) (h : LeafOk pk pf pn) : Calls Tryz.prog 78 #[.agg (polA 1 pk pf pn 0 0 (.slice uo 0 uc))] w fun e w' => e = .returned (.bool true) ∧ Below w.heap.size w w' := by
  have HB := Lib.hid (grow1 w (.cells (polA 1 pk pf pn 0 0 (.slice uo 0 uc)) 55))
  have HG := Lib.hid (heap_alloc_new w (.cells (polA 1 pk pf pn 0 0 (.slice uo 0 uc)) 55))
  have X := Lib.hid (fun w => predright_c pk pf pn w h)
  clear h
  go_enter Tryz.func78, Tryz.ntmps78
  go_wp2_with fail
  refine wp_region_kq (by kernel_rfl) (by kernel_rfl) ?_
  repeat (first | go_big_quiet_step (fail) | quiet_step (fail))
  refine wpQuiet_nil ?_
  intro kz
  have hb1 := HB.out.trans (kz.kp.mono (by simp))
  have hg1 := (kz.kp.block w.heap.size (by simp)).trans HG.out
  have c0 := block_cell hg1 0
  have c1 := block_cell hg1 1
  have c2 := block_cell hg1 2
  have c3 := block_cell hg1 3
  have c4 := block_cell hg1 4
  simp only [List.getElem?_toArray, List.getElem?_cons_zero, List.getElem?_cons_succ] at c0 c1 c2 c3 c4
  have HB1 := Lib.hid hb1
  clear hb1 hg1 HB HG
  generalize kz.val = w1 at *
  go_wp2_with fail
  refine (X.out _).mono ?_
  rintro e w2 ⟨rfl, hb⟩
  have HB2 := Lib.hid (HB1.out.trans (hb.mono HB1.out.size))
  clear hb HB1
  go_wp2_with fail
  go_ret
  exact ⟨rfl, HB2.out⟩
set_option maxRecDepth 100000 in
set_option maxHeartbeats 8000000 in
theorem shape2_c (uo : Option Addr) (uc : Nat) (f v : Int) (w : World) (h1 : 0 ≤ f) (h2 : f ≤ 4) (h3 : 0 ≤ v) (h4 : v ≤ ptopF f) : Calls Tryz.prog 78 #[.agg (polA 2 0 0 0 f v (.slice uo 0 uc))] w fun e w' => e = .returned (.bool true) ∧ Below w.heap.size w w' := by
  have HB := Lib.hid (grow1 w (.cells (polA 2 0 0 0 f v (.slice uo 0 uc)) 55))
  have HG := Lib.hid (heap_alloc_new w (.cells (polA 2 0 0 0 f v (.slice uo 0 uc)) 55))
  have d1 : decide (0 ≤ f) = true := by simpa using h1
  have d2 : decide (f ≤ 4) = true := by simpa using h2
  have d3 : decide (0 ≤ v) = true := by simpa using h3
  have d4 : decide (v ≤ ptopF f) = true := by simpa using h4
  have X := Lib.hid (fun w => ptop_c f w ⟨h1, by omega⟩)
  obtain ⟨e1, he1⟩ : ∃ d, (f == 0) = d := ⟨_, rfl⟩
  obtain ⟨e2, he2⟩ : ∃ d, (v == 0) = d := ⟨_, rfl⟩
  generalize ptopF f = tp at *
  cases e1 <;> cases e2
  all_goals
    go_enter Tryz.func78, Tryz.ntmps78
    go_wp2_with fail
    refine wp_region_kq (by kernel_rfl) (by kernel_rfl) ?_
    repeat (first | go_big_quiet_step (fail) | quiet_step (fail))
    refine wpQuiet_nil ?_
    intro kz
    have hb1 := HB.out.trans (kz.kp.mono (by simp))
    have hg1 := (kz.kp.block w.heap.size (by simp)).trans HG.out
    have hl1 := block_lt hg1
    have c0 := block_cell hg1 0
    have c1 := block_cell hg1 1
    have c2 := block_cell hg1 2
    have c3 := block_cell hg1 3
    have c4 := block_cell hg1 4
    have c5 := block_cell hg1 5
    have c6 := block_cell hg1 6
    have c7 := block_cell hg1 7
    simp only [List.getElem?_toArray, List.getElem?_cons_zero, List.getElem?_cons_succ] at c0 c1 c2 c3 c4 c5 c6 c7
    have HB1 := Lib.hid hb1
    clear hb1 hg1 HB HG
    generalize kz.val = w1 at *
    go_wp2_with fail
    refine wp_region_kq (by kernel_rfl) (by kernel_rfl) ?_
    repeat (first | go_big_quiet_step ((first | (go_at_call 104; exact KW.call (none_c _ _ _ _ _)) | (go_at_call 105; exact KW.same (X.out _)))) | quiet_step ((first | (go_at_call 104; exact KW.call (none_c _ _ _ _ _)) | (go_at_call 105; exact KW.same (X.out _)))))
    refine wpQuiet_nil ?_
    intro k2
    have HB2 := Lib.hid (HB1.out.trans (k2.kp.mono HB1.out.size))
    go_wp2_with fail
    go_ret
    exact ⟨rfl, HB2.out⟩
set_option maxRecDepth 100000 in
set_option maxHeartbeats 8000000 in
theorem shape34_c (k : Int) (uo : Option Addr) (n uc : Nat) (w : World) (hk : k = 3 ∨ k = 4) (h1 : 2 ≤ n) (h2 : n ≤ 8) : Calls Tryz.prog 78 #[.agg (polA k 0 0 0 0 0 (.slice uo n uc))] w fun e w' => e = .returned (.bool true) ∧ Below w.heap.size w w' := by
  have HB := Lib.hid (grow1 w (.cells (polA k 0 0 0 0 0 (.slice uo n uc)) 55))
  have HG := Lib.hid (heap_alloc_new w (.cells (polA k 0 0 0 0 0 (.slice uo n uc)) 55))
  have d1 : decide ((2 : Int) ≤ (n : Int)) = true := by simp; omega
  have d2 : decide ((n : Int) ≤ (8 : Int)) = true := by simp; omega
  rcases hk with rfl | rfl
  all_goals
    go_enter Tryz.func78, Tryz.ntmps78
    go_wp2_with fail
    refine wp_region_kq (by kernel_rfl) (by kernel_rfl) ?_
    repeat (first | go_big_quiet_step (fail) | quiet_step (fail))
    refine wpQuiet_nil ?_
    intro kz
    have hb1 := HB.out.trans (kz.kp.mono (by simp))
    have hg1 := (kz.kp.block w.heap.size (by simp)).trans HG.out
    have hl1 := block_lt hg1
    have c0 := block_cell hg1 0
    have c1 := block_cell hg1 1
    have c2 := block_cell hg1 2
    have c3 := block_cell hg1 3
    have c4 := block_cell hg1 4
    have c5 := block_cell hg1 5
    have c6 := block_cell hg1 6
    have c7 := block_cell hg1 7
    simp only [List.getElem?_toArray, List.getElem?_cons_zero, List.getElem?_cons_succ] at c0 c1 c2 c3 c4 c5 c6 c7
    have HB1 := Lib.hid hb1
    clear hb1 hg1 HB HG
    generalize kz.val = w1 at *
    go_wp2_with fail
    refine (none_c _ _ _ _ _).mono ?_
    rintro e w2 ⟨rfl, hb⟩
    have HB2 := Lib.hid (HB1.out.trans (hb.mono HB1.out.size))
    clear hb HB1
    go_wp2_with fail
    go_ret
    exact ⟨rfl, HB2.out⟩
end Go.Proofs.YtekfkieimdgfkaaGreat
/- What is proved here: a policy may be, if all within have their shapes and it is not too deep, large or wide. Condition: it can be read. -/
namespace Go.Proofs.YtekfkieimdgfkaaGreat
open Go Go.RowKit
attribute [local go_sem] KW.cell KW.frozen
/-- Whatever the call makes, it returns this, and nothing that was there is turned. -/
def Ret (f : FuncId) (args : Array Value) (v : Value) (w : World) : Prop := Calls Tryz.prog f args w fun e w' => e = .returned v ∧ Below w.heap.size w w'
set_option maxRecDepth 100000 in
set_option maxHeartbeats 4000000 in
theorem all80_c (y : Pol) (u : Value) (w : World) (h : ∀ w', Below w.heap.size w w' → Ret 56 #[polV y u] (.bool true) w') : Ret 80 #[polV y u] (.bool false) w := by
  have HB := Lib.hid (grow1 w (.cells (polL y u).toArray 55))
  have HG := Lib.hid (heap_alloc_new w (.cells (polL y u).toArray 55))
  have X := Lib.hid (h _ HB.out)
  clear h
  unfold polV Ret
  go_enter Tryz.func80, Tryz.ntmps80
  go_wp2_with (refine stop_load 55 _ rfl ?_)
  obtain ⟨fs, hu55⟩ := und55
  refine Stop.go (wpList_load_row rfl 55 _ rfl w.heap.size rfl 55 _ (0, 0) _ HG.out hu55 rfl inf55 ?_)
  clear hu55
  go_wp2_with fail
  refine (X.out).mono ?_
  rintro e w1 ⟨rfl, hb⟩
  have HB1 := Lib.hid (HB.out.trans (hb.mono (by simp)))
  clear hb HB X HG
  have hnot : ∀ (x : Bool) (w : World), (Op.unary .not (.bool x)).run Tryz.prog w = .ok (.bool (!x)) w := fun _ _ => rfl
  go_wp2_with fail
  go_ret
  exact ⟨rfl, HB1.out⟩
set_option maxRecDepth 100000 in
set_option maxHeartbeats 8000000 in
theorem idx106_c (d : Nat) (u : Value) (xs : List Pol) (w : World) (hr : RdP AnyP (d + 1) u xs w) (IH : ∀ y ∈ xs, ∀ u' w', RdP AnyP d u' y.l w' → Ret 80 #[polV y u'] (.bool false) w') :
    Ret 106 #[u, .func (.func 80) #[] #[]] (.int .i64 (-1)) w := by
  obtain ⟨uo, uc, rfl, _, huc⟩ := hr.form
  have HR := Lib.hid hr
  have HI := Lib.hid IH
  unfold maxLen at huc
  clear hr IH
  unfold Ret
  go_enter Tryz.func106, Tryz.ntmps106
  go_wp2_with fail
  go_loopw [8] (fun i wr => ∃ k : Nat, i = .int .i64 k ∧ k ≤ xs.length ∧ Hid (Below w.heap.size w wr)) (fun i _ => xs.length - (intOf i).toNat)
  case atStart => exact ⟨0, rfl, Nat.zero_le _, Lib.hid (Below.refl _ _)⟩
  case round =>
    obtain ⟨k, rfl, hk, HB2⟩ := hrel
    by_cases hlt : k < xs.length
    · have hd : decide ((k : Int) < (xs.length : Int)) = true := by simp; omega
      have hk2 : (k : Int) < (xs.length : Int) := by omega
      obtain ⟨ge, cap, ue, hv, hge, _, hrange, hre⟩ := (HR.out.kept HB2.out).at_ k hlt
      cases hv
      have HRA := Lib.hid hrange
      have HRE := Lib.hid hre
      obtain ⟨eo, ec, rfl, _, _⟩ := hre.form
      clear hrange hre
      go_wp2_with (refine stop_load 55 _ rfl ?_)
      obtain ⟨fs, hu55⟩ := und55
      refine Stop.go (wpList_load_mid rfl 55 _ rfl ge (k * 8) rfl (polL xs[k] (.slice eo xs[k].l.length ec)) _ HRA.out hu55 rfl inf55 ?_)
      clear hu55
      go_wp2_with fail
      refine (HI.out xs[k] (List.getElem_mem hlt) _ _ HRE.out).mono ?_
      rintro e w4 ⟨rfl, hb4⟩
      have HB4 : Hid (Below w.heap.size w w4) := Lib.hid (HB2.out.trans (hb4.mono HB2.out.size))
      clear hb4 HRE HRA
      go_wp2_with fail
      go_roundw
      case rel => exact ⟨k + 1, by go_num, hlt, HB4⟩
      case measure => simp [intOf]; omega
    · obtain rfl : k = xs.length := by omega
      have hd : decide ((xs.length : Int) < (xs.length : Int)) = false := by simp
      go_wp2_with fail
      go_ret
      exact ⟨rfl, HB2.out⟩
set_option maxHeartbeats 4000000 in
theorem cont79_c (d : Nat) (u : Value) (xs : List Pol) (w : World) (hr : RdP AnyP (d + 1) u xs w) (IH : ∀ y ∈ xs, ∀ u' w', RdP AnyP d u' y.l w' → Ret 80 #[polV y u'] (.bool false) w') :
    Ret 79 #[u, .func (.func 80) #[] #[]] (.bool false) w := by
  have X := Lib.hid (idx106_c d u xs w hr IH)
  clear hr IH
  unfold Ret at *
  go_enter Tryz.func79, Tryz.ntmps79
  go_wp2_with fail
  refine X.out.mono ?_
  rintro e w1 ⟨rfl, hb⟩
  have HB := Lib.hid hb
  clear hb X
  go_wp2_with fail
  go_ret
  exact ⟨rfl, HB.out⟩
def ShapeOk (x : Pol) : Prop :=
  (x.k = 1 ∧ LeafOk x.pk x.pf x.pn ∧ x.f = 0 ∧ x.v = 0 ∧ x.l = []) ∨
  (x.k = 2 ∧ x.pk = 0 ∧ x.pf = 0 ∧ x.pn = 0 ∧ 0 ≤ x.f ∧ x.f ≤ 4 ∧ 0 ≤ x.v ∧ x.v ≤ ptopF x.f ∧ x.l = []) ∨
  ((x.k = 3 ∨ x.k = 4) ∧ x.pk = 0 ∧ x.pf = 0 ∧ x.pn = 0 ∧ x.f = 0 ∧ x.v = 0 ∧ 2 ≤ x.l.length ∧ x.l.length ≤ 8)
theorem shape_ok (x : Pol) (uo : Option Addr) (uc : Nat) (w : World) (h : ShapeOk x) : Ret 78 #[polV x (.slice uo x.l.length uc)] (.bool true) w := by
  obtain ⟨k, pk, pf, pn, f, v, l⟩ := x
  unfold Ret polV
  simp only [ShapeOk, Pol.k, Pol.pk, Pol.pf, Pol.pn, Pol.f, Pol.v, Pol.l] at h ⊢
  rcases h with ⟨rfl, h1, rfl, rfl, rfl⟩ | ⟨rfl, rfl, rfl, rfl, h1, h2, h3, h4, rfl⟩ | ⟨hk, rfl, rfl, rfl, rfl, rfl, h1, h2⟩
  · exact shape1_c uo uc pk pf pn w h1
  · exact shape2_c uo uc f v w h1 h2 h3 h4
  · exact shape34_c k uo l.length uc w hk h1 h2
set_option maxRecDepth 100000 in
set_option maxHeartbeats 8000000 in
theorem all_step (d : Nat) (x : Pol) (u : Value) (w : World) (hr : RdP AnyP (d + 1) u x.l w) (hs : ShapeOk x) (IH : ∀ y ∈ x.l, ∀ u' w', RdP AnyP d u' y.l w' → Ret 56 #[polV y u'] (.bool true) w') : Ret 56 #[polV x u] (.bool true) w := by
  obtain ⟨uo, uc, rfl, _, huc⟩ := hr.form
  have HR := Lib.hid (hr.kept (grow1 w (.cells (polL x (.slice uo x.l.length uc)).toArray 55)))
  have HB := Lib.hid (grow1 w (.cells (polL x (.slice uo x.l.length uc)).toArray 55))
  have HG := Lib.hid (heap_alloc_new w (.cells (polL x (.slice uo x.l.length uc)).toArray 55))
  have HS := Lib.hid hs
  have HI := Lib.hid IH
  clear hr IH hs
  unfold Ret polV
  go_enter Tryz.func56, Tryz.ntmps56
  go_wp2_with (refine stop_load 55 _ rfl ?_)
  obtain ⟨fs, hu55⟩ := und55
  refine Stop.go (wpList_load_row rfl 55 _ rfl w.heap.size rfl 55 _ (0, 0) _ HG.out hu55 rfl inf55 ?_)
  clear hu55
  go_wp2_with fail
  refine (shape_ok x uo uc _ HS.out).mono ?_
  rintro e w1 ⟨rfl, hb⟩
  have HB1 := Lib.hid (HB.out.trans (hb.mono (by simp)))
  have hg1 := (hb.block w.heap.size (by simp)).trans HG.out
  have c7 := block_cell hg1 7
  simp only [polL, List.getElem?_toArray, List.getElem?_cons_zero, List.getElem?_cons_succ] at c7
  have X := Lib.hid (cont79_c d (.slice uo x.l.length uc) x.l w1 (HR.out.kept hb) fun y hy u' w' h => all80_c y u' w' fun w'' hb' => HI.out y hy u' w'' (h.kept hb'))
  have hl1 := block_lt hg1
  clear hb hg1 HB HG HR
  go_wp2_with fail
  refine X.out.mono ?_
  rintro e w2 ⟨rfl, hb⟩
  have HB2 := Lib.hid (HB1.out.trans (hb.mono HB1.out.size))
  have hnot : ∀ (x : Bool) (w : World), (Op.unary .not (.bool x)).run Tryz.prog w = .ok (.bool (!x)) w := fun _ _ => rfl
  clear hb HB1 X
  go_wp2_with fail
  go_ret
  exact ⟨rfl, HB2.out⟩
/-- All within have their shapes. -/
def OkP : Nat → Pol → Prop
  | 0, x => ShapeOk x
  | d + 1, x => ShapeOk x ∧ ∀ y ∈ x.l, OkP d y
theorem all_c : ∀ (d : Nat) (x : Pol) (u : Value) (w : World), RdP AnyP d u x.l w → OkP d x → Ret 56 #[polV x u] (.bool true) w := by
  intro d
  induction d with
  | zero =>
    intro x u w hr ho
    exact all_step 0 x u w hr.up ho fun y hy => by rw [hr.zero] at hy; cases hy
  | succ d ih =>
    intro x u w hr ho
    exact all_step d x u w hr ho.1 fun y hy u' w' h => ih y u' w' h (ho.2 y hy)
end Go.Proofs.YtekfkieimdgfkaaGreat
/- What is proved here: which policies may be. Condition: they can be read. -/
namespace Go.Proofs.YtekfkieimdgfkaaGreat
open Go Go.RowKit
attribute [local go_sem] KW.cell KW.frozen
theorem acc_bound {f : Int → Int → Int} {z : Int} {g : Pol → Int} {l : List Pol} (B : Nat → Int → Prop) (h0 : B 0 z) (hs : ∀ k a y, y ∈ l → B k a → B (k + 1) (f a (g y))) : ∀ k, k ≤ l.length → B k (accF f z g l k) := by
  intro k
  induction k with
  | zero => intro _; exact h0
  | succ k ih =>
    intro hk
    rw [acc_succ hk]
    exact hs k _ _ (List.getElem_mem hk) (ih (by omega))
def deepF : Nat → Pol → Int
  | 0, _ => 1
  | d + 1, x => accF maxI 0 (deepF d) x.l x.l.length + 1
theorem deepF_bd : ∀ (d : Nat) (x : Pol), 1 ≤ deepF d x ∧ deepF d x ≤ (d : Int) + 1 := by
  intro d
  induction d with
  | zero => intro x; simp [deepF]
  | succ d ih =>
    intro x
    have := acc_bound (f := maxI) (z := 0) (g := deepF d) (l := x.l) (fun _ a => 0 ≤ a ∧ a ≤ (d : Int) + 1) ⟨by omega, by omega⟩ (fun k a y _ h => by
      have := ih y
      unfold maxI
      split <;> omega) x.l.length (Nat.le_refl _)
    unfold deepF
    push_cast
    omega
theorem deep_c : ∀ (d : Nat) (x : Pol) (u : Value) (w : World), d ≤ 5 → RdP AnyP d u x.l w → Ret 53 #[polV x u] (.int .i64 (deepF d x)) w := by
  intro d
  induction d with
  | zero =>
    intro x u w _ hr
    have := deep_step 0 x (fun _ => 0) u w hr.up (fun k hk => by rw [hr.zero] at hk; obtain rfl : k = 0 := Nat.le_zero.1 hk; rw [acc_zero]; exact ⟨by decide, by decide⟩) (fun y hy => by rw [hr.zero] at hy; cases hy)
    rw [hr.zero] at this
    exact this
  | succ d ih =>
    intro x u w hd hr
    exact deep_step d x (deepF d) u w hr (fun k hk => by
      have := acc_bound (f := maxI) (z := 0) (g := deepF d) (l := x.l) (fun _ a => 0 ≤ a ∧ a ≤ (d : Int) + 1) ⟨by omega, by omega⟩ (fun k a y _ h => by
        have := deepF_bd d y
        unfold maxI
        split <;> omega) k hk
      omega) (fun y _ u' w' h => ih y u' w' (by omega) h)
def sizeF : Nat → Pol → Int
  | 0, x => if x.k = 1 then 2 else 1
  | d + 1, x => if x.k = 1 then 2 else accF addI 1 (sizeF d) x.l x.l.length
def pow9 : Nat → Int
  | 0 => 2
  | d + 1 => 9 * pow9 d
theorem pow9_pos : ∀ d, 2 ≤ pow9 d := by
  intro d
  induction d with
  | zero => decide
  | succ d ih => unfold pow9; omega
theorem OkP.len : ∀ {d : Nat} {x : Pol}, OkP d x → x.l.length ≤ 8 := by
  intro d x h
  have hs : ShapeOk x := by cases d; exact h; exact h.1
  rcases hs with ⟨_, _, _, _, h⟩ | ⟨_, _, _, _, _, _, _, _, h⟩ | ⟨_, _, _, _, _, _, _, h⟩
  · rw [h]; simp
  · rw [h]; simp
  · exact h
theorem OkP.shape : ∀ {d : Nat} {x : Pol}, OkP d x → ShapeOk x := by
  intro d x h
  cases d
  · exact h
  · exact h.1
theorem sizeF_acc {d : Nat} {l : List Pol} (hl : l.length ≤ 8) (ih : ∀ y ∈ l, 0 ≤ sizeF d y ∧ sizeF d y ≤ pow9 d) (k : Nat) (hk : k ≤ l.length) : 0 ≤ accF addI 1 (sizeF d) l k ∧ accF addI 1 (sizeF d) l k ≤ pow9 (d + 1) := by
  have := acc_bound (f := addI) (z := 1) (g := sizeF d) (l := l) (fun k a => 1 ≤ a ∧ a ≤ 1 + k * pow9 d) ⟨by omega, by simp⟩ (fun k a y hy h => by
    have := ih y hy
    unfold addI
    push_cast
    rw [Int.add_mul]
    omega) k hk
  have hp := pow9_pos d
  have h8 : (k : Int) * pow9 d ≤ 8 * pow9 d := Int.mul_le_mul_of_nonneg_right (by omega) (by omega)
  have : pow9 (d + 1) = 9 * pow9 d := rfl
  omega
theorem sizeF_bd : ∀ (d : Nat) (x : Pol), OkP d x → 0 ≤ sizeF d x ∧ sizeF d x ≤ pow9 d := by
  intro d
  induction d with
  | zero => intro x _; unfold sizeF pow9; split <;> omega
  | succ d ih =>
    intro x h
    unfold sizeF
    have hp := pow9_pos (d + 1)
    split
    · omega
    · exact sizeF_acc h.len (fun y hy => ih y (h.2 y hy)) _ (Nat.le_refl _)
theorem pow9_le : ∀ {d : Nat}, d ≤ 5 → pow9 d ≤ 118098 := by
  intro d hd
  have : d = 0 ∨ d = 1 ∨ d = 2 ∨ d = 3 ∨ d = 4 ∨ d = 5 := by omega
  rcases this with rfl | rfl | rfl | rfl | rfl | rfl <;> decide
theorem size_of_step {d : Nat} {x : Pol} {g : Pol → Int} {u : Value} {w : World} (hr : RdP AnyP (d + 1) u x.l w) (hs : ShapeOk x)
    (hacc : ∀ k, k ≤ x.l.length → 0 ≤ accF addI 1 g x.l k ∧ accF addI 1 g x.l k ≤ 1000000)
    (IH : ∀ y ∈ x.l, ∀ u' w', RdP AnyP d u' y.l w' → Ret 54 #[polV y u'] (.int .i64 (g y)) w') : Ret 54 #[polV x u] (.int .i64 (if x.k = 1 then 2 else accF addI 1 g x.l x.l.length)) w := by
  rcases hs with ⟨hk, _, hf, hv, hl⟩ | ⟨hk, _⟩ | ⟨hk | hk, _⟩
  · rw [if_pos hk]
    obtain ⟨uo, uc, rfl, _⟩ := hr.form
    obtain ⟨k, pk, pf, pn, f, v, l⟩ := x
    simp only [Pol.k, Pol.l, Pol.f, Pol.v] at hk hl hf hv
    subst hk hl
    exact size_leaf1 pk pf pn f v uo uc w
  · rw [if_neg (by omega)]; exact size_step2 d x g u w hr hk hacc IH
  · rw [if_neg (by omega)]; exact size_step3 d x g u w hr hk hacc IH
  · rw [if_neg (by omega)]; exact size_step4 d x g u w hr hk hacc IH
theorem size_c : ∀ (d : Nat) (x : Pol) (u : Value) (w : World), d ≤ 5 → RdP AnyP d u x.l w → OkP d x → Ret 54 #[polV x u] (.int .i64 (sizeF d x)) w := by
  intro d
  induction d with
  | zero =>
    intro x u w _ hr ho
    have := size_of_step (g := fun _ => 0) hr.up ho (fun k hk => by rw [hr.zero] at hk; obtain rfl : k = 0 := Nat.le_zero.1 hk; rw [acc_zero]; exact ⟨by decide, by decide⟩) (fun y hy => by rw [hr.zero] at hy; cases hy)
    rw [hr.zero] at this
    exact this
  | succ d ih =>
    intro x u w hd hr ho
    exact size_of_step (g := sizeF d) hr ho.shape (fun k hk => by
      have := sizeF_acc ho.len (fun y hy => sizeF_bd d y (ho.2 y hy)) k hk
      have := pow9_le hd
      omega) (fun y hy u' w' h => ih y u' w' (by omega) h (ho.2 y hy))
def wideF : Nat → Pol → Int
  | 0, x => if x.k = 4 then 0 else 1
  | d + 1, x => if x.k = 3 then accF mul1000 1 (wideF d) x.l x.l.length else if x.k = 4 then accF add1000 0 (wideF d) x.l x.l.length else 1
theorem wide_mul {l : List Pol} {g : Pol → Int} (ih : ∀ y ∈ l, 0 ≤ g y ∧ g y ≤ 1000) (k : Nat) (hk : k ≤ l.length) : 0 ≤ accF mul1000 1 g l k ∧ accF mul1000 1 g l k ≤ 1000 :=
  acc_bound (f := mul1000) (z := 1) (g := g) (l := l) (fun _ a => 0 ≤ a ∧ a ≤ 1000) ⟨by omega, by omega⟩ (fun k a y hy h => by
    have := Int.mul_nonneg h.1 (ih y hy).1
    unfold mul1000
    split <;> omega) k hk
theorem wide_add {l : List Pol} {g : Pol → Int} (ih : ∀ y ∈ l, 0 ≤ g y ∧ g y ≤ 1000) (k : Nat) (hk : k ≤ l.length) : 0 ≤ accF add1000 0 g l k ∧ accF add1000 0 g l k ≤ 1000 :=
  acc_bound (f := add1000) (z := 0) (g := g) (l := l) (fun _ a => 0 ≤ a ∧ a ≤ 1000) ⟨by omega, by omega⟩ (fun k a y hy h => by
    have := ih y hy
    unfold add1000
    split <;> omega) k hk
theorem wideF_bd : ∀ (d : Nat) (x : Pol), 0 ≤ wideF d x ∧ wideF d x ≤ 1000 := by
  intro d
  induction d with
  | zero => intro x; unfold wideF; split <;> omega
  | succ d ih =>
    intro x
    unfold wideF
    split
    · exact wide_mul (fun y _ => ih y) _ (Nat.le_refl _)
    · split
      · exact wide_add (fun y _ => ih y) _ (Nat.le_refl _)
      · omega
theorem wide_of_step {d : Nat} {x : Pol} {g : Pol → Int} {u : Value} {w : World} (hr : RdP AnyP (d + 1) u x.l w) (hs : ShapeOk x) (hg : ∀ y ∈ x.l, 0 ≤ g y ∧ g y ≤ 1000)
    (IH : ∀ y ∈ x.l, ∀ u' w', RdP AnyP d u' y.l w' → Ret 55 #[polV y u'] (.int .i64 (g y)) w') : Ret 55 #[polV x u] (.int .i64 (if x.k = 3 then accF mul1000 1 g x.l x.l.length else if x.k = 4 then accF add1000 0 g x.l x.l.length else 1)) w := by
  have leaf : x.k = 1 ∨ x.k = 2 → Ret 55 #[polV x u] (.int .i64 1) w := fun hk => by
    obtain ⟨k, pk, pf, pn, f, v, l⟩ := x
    exact wide_leaf k pk pf pn f v u l w hk
  rcases hs with ⟨hk, _, hf, hv, hl⟩ | ⟨hk, _⟩ | ⟨hk | hk, _⟩
  · rw [if_neg (by omega), if_neg (by omega)]; exact leaf (.inl hk)
  · rw [if_neg (by omega), if_neg (by omega)]; exact leaf (.inr hk)
  · rw [if_pos hk]; exact wide_step3 d x g u w hr hk hg (fun k hk => by have := wide_mul hg k hk; omega) IH
  · rw [if_neg (by omega), if_pos hk]; exact wide_step4 d x g u w hr hk hg (fun k hk => by have := wide_add hg k hk; omega) IH
theorem wide_c : ∀ (d : Nat) (x : Pol) (u : Value) (w : World), RdP AnyP d u x.l w → OkP d x → Ret 55 #[polV x u] (.int .i64 (wideF d x)) w := by
  intro d
  induction d with
  | zero =>
    intro x u w hr ho
    have := wide_of_step (g := fun _ => 0) hr.up ho (fun y hy => by rw [hr.zero] at hy; cases hy) (fun y hy => by rw [hr.zero] at hy; cases hy)
    rw [hr.zero] at this
    have e : wideF 0 x = (if x.k = 3 then accF mul1000 1 (fun _ => (0 : Int)) [] 0 else if x.k = 4 then accF add1000 0 (fun _ => (0 : Int)) [] 0 else 1) := by
      unfold wideF
      simp only [acc_zero]
      by_cases h3 : x.k = 3
      · rw [if_neg (by omega), if_pos h3]
      · rw [if_neg h3]
    rw [e]
    exact this
  | succ d ih =>
    intro x u w hr ho
    exact wide_of_step (g := wideF d) hr ho.shape (fun y _ => wideF_bd d y) (fun y hy u' w' h => ih y u' w' h (ho.2 y hy))
set_option maxRecDepth 100000 in
set_option maxHeartbeats 8000000 in
theorem right29_c (d : Nat) (x : Pol) (u : Value) (w : World) (hd : d ≤ 5) (hr : RdP AnyP d u x.l w) (ho : OkP d x) (hs : sizeF d x ≤ 64) (hw : wideF d x ≤ 64) : Ret 29 #[polV x u] (.bool true) w := by
  obtain ⟨uo, uc, rfl, _, huc⟩ := hr.form
  have HR := Lib.hid (hr.kept (grow1 w (.cells (polL x (.slice uo x.l.length uc)).toArray 55)))
  have HB := Lib.hid (grow1 w (.cells (polL x (.slice uo x.l.length uc)).toArray 55))
  have HG := Lib.hid (heap_alloc_new w (.cells (polL x (.slice uo x.l.length uc)).toArray 55))
  have HO := Lib.hid ho
  have hdb := deepF_bd d x
  have d1 : decide (deepF d x ≤ 8) = true := by simp; omega
  have d2 : decide (sizeF d x ≤ 64) = true := by simpa using hs
  have d3 : decide (wideF d x ≤ 64) = true := by simpa using hw
  have X1 := Lib.hid (fun w' h => deep_c d x (.slice uo x.l.length uc) w' hd h)
  have X2 := Lib.hid (fun w' h => size_c d x (.slice uo x.l.length uc) w' hd h ho)
  have X3 := Lib.hid (fun w' h => wide_c d x (.slice uo x.l.length uc) w' h ho)
  have X4 := Lib.hid (fun w' h => all_c d x (.slice uo x.l.length uc) w' h ho)
  clear hr ho hs hw hdb
  generalize deepF d x = n1 at *
  generalize sizeF d x = n2 at *
  generalize wideF d x = n3 at *
  unfold Ret polV
  go_enter Tryz.func29, Tryz.ntmps29
  go_wp2_with fail
  refine (X1.out _ HR.out).mono ?_
  rintro e w1 ⟨rfl, hb⟩
  have HB1 := Lib.hid (HB.out.trans (hb.mono (by simp)))
  have HG1 := Lib.hid ((hb.block w.heap.size (by simp)).trans HG.out)
  have HR1 := Lib.hid (HR.out.kept hb)
  have c0 := block_cell HG1.out 0
  have c1 := block_cell HG1.out 1
  have c2 := block_cell HG1.out 2
  have c3 := block_cell HG1.out 3
  have c4 := block_cell HG1.out 4
  have c5 := block_cell HG1.out 5
  have c6 := block_cell HG1.out 6
  have c7 := block_cell HG1.out 7
  simp only [polL, List.getElem?_toArray, List.getElem?_cons_zero, List.getElem?_cons_succ] at c0 c1 c2 c3 c4 c5 c6 c7
  clear hb HB HG HR
  go_wp2_with fail
  refine (X2.out _ HR1.out).mono ?_
  rintro e w2 ⟨rfl, hb⟩
  have HB2 := Lib.hid (HB1.out.trans (hb.mono HB1.out.size))
  have HG2 := Lib.hid ((hb.block w.heap.size (block_lt HG1.out)).trans HG1.out)
  have HR2 := Lib.hid (HR1.out.kept hb)
  clear c0 c1 c2 c3 c4 c5 c6 c7
  have c0 := block_cell HG2.out 0
  have c1 := block_cell HG2.out 1
  have c2 := block_cell HG2.out 2
  have c3 := block_cell HG2.out 3
  have c4 := block_cell HG2.out 4
  have c5 := block_cell HG2.out 5
  have c6 := block_cell HG2.out 6
  have c7 := block_cell HG2.out 7
  simp only [polL, List.getElem?_toArray, List.getElem?_cons_zero, List.getElem?_cons_succ] at c0 c1 c2 c3 c4 c5 c6 c7
  clear hb HB1 HG1 HR1
  go_wp2_with fail
  refine (X3.out _ HR2.out).mono ?_
  rintro e w3 ⟨rfl, hb⟩
  have HB3 := Lib.hid (HB2.out.trans (hb.mono HB2.out.size))
  have HG3 := Lib.hid ((hb.block w.heap.size (block_lt HG2.out)).trans HG2.out)
  have HR3 := Lib.hid (HR2.out.kept hb)
  clear c0 c1 c2 c3 c4 c5 c6 c7
  have c0 := block_cell HG3.out 0
  have c1 := block_cell HG3.out 1
  have c2 := block_cell HG3.out 2
  have c3 := block_cell HG3.out 3
  have c4 := block_cell HG3.out 4
  have c5 := block_cell HG3.out 5
  have c6 := block_cell HG3.out 6
  have c7 := block_cell HG3.out 7
  simp only [polL, List.getElem?_toArray, List.getElem?_cons_zero, List.getElem?_cons_succ] at c0 c1 c2 c3 c4 c5 c6 c7
  clear hb HB2 HG2 HR2
  go_wp2_with fail
  refine (X4.out _ HR3.out).mono ?_
  rintro e w4 ⟨rfl, hb⟩
  have HB4 := Lib.hid (HB3.out.trans (hb.mono HB3.out.size))
  clear hb HB3 HG3 HR3
  go_wp2_with fail
  go_ret
  exact ⟨rfl, HB4.out⟩
end Go.Proofs.YtekfkieimdgfkaaGreat
