/- What is proved here: what Earliest and Wrong answer, the program's and the reference's; Reverse. Condition: what they are given can be read. -/
import Derived.Test.YthmglahcampllaaDt
namespace Go.Proofs.Ythmglahcampllaa
open Go Go.RowKit
namespace Df
attribute [local go_sem] KW.cell KW.frozen
/-- What the program's Earliest answers. -/
def EPost (n : Nat) (l : List Af) (w : World) (e : Ending) (w' : World) : Prop :=
  Below w.heap.size w w' ∧ ∃ s, Pushed n l s ∧ ((s.last < 0 ∧ ∃ v, e = .returned (.tuple #[v, .bool true]) ∧ RI v s.x w') ∨ (¬ s.last < 0 ∧ e = .returned (.tuple #[.slice none 0 0, .bool false])))
theorem Pushed.len {n : Nat} {l : List Af} {s : St} (h : Pushed n l s) : s.x.length = n ∧ s.b.length = n := by
  obtain ⟨r, _, _, rfl, _⟩ := h.ex
  exact rnd_len n l r
theorem earl_no (n : Int) (v : Value) (l : List Af) (w : World) (hR : rightB n l = false) (hv : AfP v l w) : Calls Try.prog 14 #[.int .i64 n, v] w fun e w' => e = .returned (.tuple #[.slice none 0 0, .bool false]) ∧ Below w.heap.size w w' := by
  have HR := Lib.hid (right_c n v l w hv)
  rw [hR] at HR
  clear hR hv
  go_enter Try.func14, Try.ntmps14
  go_wp2_with (go_at_call 22; refine HR.out.mono ?_; rintro e w1 ⟨rfl, hb1⟩)
  go_ret2
  exact ⟨rfl, hb1⟩
theorem rearl_no (n : Int) (v : Value) (l : List Af) (w : World) (hR : rightB n l = false) (hv : AfR v l w) : Calls Try.prog 21 #[.int .i64 n, v] w fun e w' => e = .returned (.tuple #[.slice none 0 0, .bool false]) ∧ Below w.heap.size w w' := by
  have HR := Lib.hid (rright_c n v l w hv)
  rw [hR] at HR
  clear hR hv
  go_enter Try.func21, Try.ntmps21
  go_wp2_with (go_at_call 12; refine HR.out.mono ?_; rintro e w1 ⟨rfl, hb1⟩)
  go_ret2
  exact ⟨rfl, hb1⟩
set_option maxRecDepth 100000 in
theorem earl_yes (n : Nat) (ao : Option Addr) (c : Nat) (l : List Af) (w : World) (hR : rightB n l = true) (hv : AfP (.slice ao l.length c) l w) : Calls Try.prog 14 #[.int .i64 n, .slice ao l.length c] w fun e w' => EPost n l w e w' := by
  obtain ⟨hn, hl, hf⟩ := rightB_nat hR
  have HR := Lib.hid (right_c n (.slice ao l.length c) l w hv)
  rw [hR] at HR
  have HV := Lib.hid hv
  have HF := Lib.hid hf
  clear hR hv hf
  go_enter Try.func14, Try.ntmps14
  go_wp2_with (go_at_call 22; refine HR.out.mono ?_; rintro e w1 ⟨rfl, hb1⟩)
  refine (push_run n ao c l w1 hn hl HF.out (HV.out.kept hb1)).mono ?_
  rintro e w2 ⟨s, gx, gb, rfl, hP, hM⟩
  have HP := Lib.hid hP
  have HM := Lib.hid hM
  clear hP hM
  by_cases ht : s.last < 0
  · have hd : decide (0 ≤ s.last) = false := by simp; omega
    have HT := Lib.hid ht
    clear ht
    go_wp2_with fail
    go_ret2
    have hx := HP.out.len.1
    have hr := RI.blk HM.out.bx (by rw [hx]; unfold maxLen; omega)
    rw [hx] at hr
    exact ⟨bon hb1 HM.out.bl, s, HP.out, .inl ⟨HT.out, _, rfl, hr⟩⟩
  · have hd : decide (0 ≤ s.last) = true := by simp; omega
    have HT := Lib.hid ht
    clear ht
    go_wp2_with fail
    go_ret2
    exact ⟨bon hb1 HM.out.bl, s, HP.out, .inr ⟨by have := HT.out; omega, rfl⟩⟩
/-! Reverse -/
/-- M is L, the first i and the last i of it turned about. -/
def Turned (L M : List Int) (i : Nat) : Prop := M.length = L.length ∧ ∀ t, t < L.length → at_ M t = if t < i ∨ L.length - i ≤ t then at_ L (L.length - 1 - t) else at_ L t
theorem Turned.start (L : List Int) : Turned L L 0 := ⟨rfl, fun t ht => by rw [if_neg (by omega)]⟩
theorem Turned.next {L M : List Int} {i : Nat} (h : Turned L M i) (hi : i < L.length - 1 - i) : Turned L ((M.set i (at_ M (L.length - 1 - i))).set (L.length - 1 - i) (at_ M i)) (i + 1) := by
  obtain ⟨h1, h2⟩ := h
  refine ⟨by simp [h1], fun t ht => ?_⟩
  rw [at_set _ _ _ _ (by rw [List.length_set]; omega), at_set _ _ _ _ (by omega)]
  by_cases e1 : L.length - 1 - i = t
  · rw [if_pos e1, if_pos (by omega), h2 i (by omega), if_neg (by omega)]
    congr 1
    omega
  · rw [if_neg e1]
    by_cases e2 : i = t
    · rw [if_pos e2, if_pos (by omega), h2 _ (by omega), if_neg (by omega)]
      congr 1
      omega
    · rw [if_neg e2, h2 t ht]
      by_cases e3 : t < i ∨ L.length - i ≤ t
      · rw [if_pos e3, if_pos (by omega)]
      · rw [if_neg e3, if_neg (by omega)]
theorem Turned.all {L M : List Int} {i : Nat} (h : Turned L M i) (hi : ¬ i < L.length - 1 - i) : M = L.reverse := by
  obtain ⟨h1, h2⟩ := h
  refine List.ext_getElem (by rw [h1, List.length_reverse]) fun t ht ht' => ?_
  have e : at_ M t = M[t] := by unfold at_; rw [List.getD_eq_getElem?_getD, List.getElem?_eq_getElem ht]; rfl
  have e2 : at_ L (L.length - 1 - t) = L[L.length - 1 - t]'(by omega) := by unfold at_; rw [List.getD_eq_getElem?_getD, List.getElem?_eq_getElem (by omega)]; rfl
  rw [List.getElem_reverse, ← e, ← e2, h2 t (by omega)]
  split
  · rfl
  · congr 1
    omega
set_option maxRecDepth 100000 in
set_option maxHeartbeats 4000000 in
theorem rev_run (B g cap : Nat) (L : List Int) (w : World) (_hB : B ≤ w.heap.size) (hL : 1 ≤ L.length) (hL2 : L.length ≤ 1000) (hown : w.ownsRow B 3 1 (.slice (some ⟨g, 0, none⟩) L.length cap) L.length (vals L)) :
    Calls Try.prog 51 #[.slice (some ⟨g, 0, none⟩) L.length cap] w fun e w' => e = .returned (.tuple #[]) ∧ w'.ownsRow B 3 1 (.slice (some ⟨g, 0, none⟩) L.length cap) L.length (vals L.reverse) ∧ Below B w w' := by
  have HO := Lib.hid hown
  have hx : IntKind.i64.wrap ((L.length : Int) - 1) = ((L.length - 1 : Nat) : Int) := by rw [wrap_of (by omega) (by omega)]; omega
  clear hown
  go_enter Try.func51, Try.ntmps51
  go_wp2_with fail
  go_loopg [2, 3] L.length (fun gg s2 s3 wr => ∃ (i j : Nat) (M : List Int), gg = L.length - i ∧ i ≤ L.length ∧ s2 = .int .i64 i ∧ s3 = .int .i64 j ∧ i + j = L.length - 1 ∧ Hid (Turned L M i) ∧ wr.ownsRow B 3 1 (.slice (some ⟨g, 0, none⟩) L.length cap) L.length (vals M) ∧ Below B w wr)
  case atStart => exact ⟨0, L.length - 1, L, rfl, Nat.zero_le _, rfl, (by first | rfl | (rw [hx])), by omega, Lib.hid (Turned.start L), HO.out, Below.refl _ _⟩
  case round =>
    clear hx HO
    obtain ⟨i, j, M, rfl, hi, rfl, rfl, hij, HT, hown, hb⟩ := hrel
    have hml : M.length = L.length := HT.out.1
    by_cases hlt : i < j
    · have hd : decide ((i : Int) < (j : Int)) = true := by simp; omega
      have hgB : B ≤ g := (hown.lt g rfl).1
      have hgs : g < wr.heap.size := (hown.lt g rfl).2
      have ci := (hown.cellAt i (by omega)).trans (vals_get M i (by omega))
      have cj := (hown.cellAt j (by omega)).trans (vals_get M j (by omega))
      have fi := hown.frozenAt i
      have fj := hown.frozenAt j
      have HN := Lib.hid (HT.out.next (by omega))
      rw [show L.length - 1 - i = j by omega] at HN
      have HW := Lib.hid (fun k => ((own_blkD (w' := wr.drewN k) hown (fun _ _ => rfl)).stored i (.int .i64 (at_ M j))).1.stored j (.int .i64 (at_ M i)))
      have HB := Lib.hid (fun k => ((below_drewN hb k).setCell (p := ⟨g, i, none⟩) hgB (.int .i64 (at_ M j))).setCell (p := ⟨g, j, none⟩) hgB (.int .i64 (at_ M i)))
      have HI := Lib.hid hij
      have nij : ¬ i = j := by omega
      have nji : ¬ j = i := by omega
      have hi2 : (i : Int) < (L.length : Int) := by omega
      have hj2 : (j : Int) < (L.length : Int) := by omega
      have hj1 : (1 : Int) ≤ (j : Int) := by omega
      clear HT hown hij hml
      generalize hmi : at_ M i = mi at *
      generalize hmj : at_ M j = mj at *
      have xj : IntKind.i64.wrap ((j : Int) - 1) = (j : Int) - 1 := wrap_of (by omega) (by omega)
      clear hmi hmj
      go_wp2_with fail
      go_region
      all_goals
        go_wp2_with fail
        go_roundg (L.length - (i + 1))
        case measure => have := HI.out; omega
        case rel =>
          have := HI.out
          refine ⟨i + 1, j - 1, _, rfl, by omega, by go_num, by congr 1; omega, by omega, HN, ?_, HB.out 1⟩
          have h2 := (HW.out 1).1
          rw [vals_set, vals_set] at h2
          exact h2
    · have hd : decide ((i : Int) < (j : Int)) = false := by simp; omega
      have HE := Lib.hid (HT.out.all (by omega))
      have HO := Lib.hid hown
      clear hown HT hml hij
      go_wp2_with fail
      go_end0
      exact ⟨rfl, by rw [← HE.out]; exact HO.out, hb⟩
end Df
end Go.Proofs.Ythmglahcampllaa
