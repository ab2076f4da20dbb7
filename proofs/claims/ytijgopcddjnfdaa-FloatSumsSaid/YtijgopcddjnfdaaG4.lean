/- What is proved here: the walk of FloatSums. Condition: none. -/
import Derived.Test.YtijgopcddjnfdaaFd
namespace Go.Proofs.Ytijgopcddjnfdaa
open Go Go.RowKit

namespace Fl
theorem csum_clean (l : List Nat) : clean (csum l) = csum l := by
  rcases List.eq_nil_or_concat l with rfl | ⟨m, x, rfl⟩
  · rfl
  · unfold csum; rw [List.concat_eq_append, List.foldl_append]; exact cadd_clean _ _
theorem csum_app (l : List Nat) (n : Nat) : csum (l ++ [n]) = cadd (csum l) n := by unfold csum; rw [List.foldl_append]; rfl
theorem cls_nan {x : Nat} : cls x = 0 ↔ nan x = true := by
  unfold cls
  rcases clean_or x with ⟨h, e⟩ | ⟨h, e⟩
  · rw [e, h]; exact ⟨fun _ => rfl, fun _ => rfl⟩
  · rw [e, h]
    have hn := nan_no.1 h
    unfold rcls
    rw [if_neg (show ¬ (x : Int) = 9221120237041090561 by omega)]
    simp only [Bool.false_eq_true, iff_false]
    repeat' split
    all_goals decide
theorem cls_sum {s n : Nat} (h : cls s = 0) : cls (cadd s n) = 0 := by
  have hn := cls_nan.1 h
  unfold cadd
  rw [add_nan (.inl hn)]
  rfl
end Fl
set_option maxRecDepth 100000 in
set_option maxHeartbeats 2000000 in
theorem law4 (v : Value) (l : List Nat) (n : Nat) (W : World) (h : Rd WRD v l W) (_ : ∀ x ∈ l, Fl.W64 x) (_hn : Fl.W64 n) : Calls Try.prog 4 #[v, .int .u64 (n : Int)] W fun e W' => e = .returned (.bool true) ∧ Below W.heap.size W W' := by
  obtain ⟨ao, c, rfl, hm⟩ := h.form
  have H := Lib.hid h
  clear h
  by_cases hl : 40 < (l.length : Int)
  · have hd : decide (40 < (l.length : Int)) = true := by simpa using hl
    go_enter Try.func4, Try.ntmps4
    go_wp2_with (go_at_call 15; refine (fawake_b (Below.refl _ _)).mono ?_; rintro e w' ⟨rfl, hb1⟩)
    go_ret
    exact ⟨rfl, hb1⟩
  have hd : decide (40 < (l.length : Int)) = false := by simpa using hl
  obtain ⟨i0, hi, hz0, hz1, hz2⟩ := info_parts Try.info23
  have sw := Fl.csum_w l
  have S := Lib.hid (bits_w (Fl.csum l) sw)
  rw [Fl.csum_clean] at S
  have M := Lib.hid (bits_w (Fl.cadd (Fl.csum l) n) (Fl.cadd_w _ _))
  rw [Fl.cadd_clean] at M
  have C1 := Lib.hid (rclass_w (Fl.csum l))
  have C2 := Lib.hid (rclass_w (Fl.cadd (Fl.csum l) n))
  have CS := Lib.hid (Fl.cls_sum (s := Fl.csum l) (n := n))
  have APP := Lib.hid (Fl.csum_app l n)
  have Z0 := Lib.hid (show l = [] → Fl.csum l = 0 from fun e => by rw [e]; rfl)
  go_enter Try.func4, Try.ntmps4
  go_wp2_with fail
  refine (list_c _ l W H.out (by omega)).mono ?_
  rintro e w1 ⟨u, rfl, hown, hb1⟩
  have R1 := Lib.hid (Rd.of_own hown)
  clear hown
  go_wp2_with fail
  refine (sum_c _ l w1 R1.out).mono ?_
  rintro e w2 ⟨rfl, m, rfl⟩
  have hb2 := below_drewN hb1 m
  clear hb1
  go_wp2_with fail
  refine (list_c _ l _ (H.out.kept hb2) (by omega)).mono ?_
  rintro e w3 ⟨u3, rfl, hown, hb3⟩
  have hb4 := bon hb2 hb3
  have hown1 := hown.alloc (Obj.cells #[.float .f64 n] 23)
  unfold FLT at hown1
  clear hown
  go_wp2_with (first | (go_at_call 12; refine (raw_c _ _).mono ?_; rintro e w' ⟨rfl, rfl⟩) | (at_builtin; refine wpList_append_lies _ rfl _ _ 31 rfl (w1.drewN m).heap.size 23 i0 (.float .f64 0) 1 8 Try.underlying31 hi hz0 hz1 hz2 rfl (by decide) _ l.length _ rfl hown1 ⟨w3.heap.size, 0, none⟩ 1 1 [.float .f64 n] rfl rfl (by intro j u hj; rcases j with _ | j <;> simp at hj; subst hj; simp [go_sem, Addr.add]) (by simp [Value.oneCell']) (by decide) (by unfold maxLen; omega) (by omega) (by have := hb3.size; simp at this ⊢; omega) (w3.heap.size + 1) (by simp) ?_; intro g' cap' w5 hown2 hgrow hat1 hlt1))
  have hb5 : Below W.heap.size W w5 := below_grown3 (hb4.alloc hb4.size (Obj.cells #[.float .f64 n] 23)) (by have := hb4.size; simp; omega) hgrow (own_mono hown1 hb2.size)
  have R2 : Rd FLT (.slice (some ⟨g', 0, none⟩) (l.length + 1) cap') (l ++ [n]) w5 := by
    refine Rd.of_own (B := (w1.drewN m).heap.size) (e := 23) ?_
    have e1 : (l ++ [n]).length = l.length + 1 := by simp
    have e2 : (l ++ [n]).map FLT = l.map FLT ++ [FLT n] := by simp
    rw [e1, e2]
    exact hown2
  have R2' := Lib.hid R2
  clear hown2 hgrow hat1 hown1 R2
  refine (sum_c _ (l ++ [n]) w5 R2'.out).mono ?_
  rw [APP.out]
  rintro e w6 ⟨rfl, m6, rfl⟩
  obtain ⟨r, nr, hr, hw, hc⟩ := run_fadd (Fl.csum l) n (w5.drewN m6)
  have hb7 := below_drewN hb5 (m6 + nr)
  clear hb5 hb4 hb3 hb2
  have RB := Lib.hid (bits_w r hw)
  rw [hc] at RB
  clear hc hw
  have QZ : l.length = 0 → ((Fl.csum l : Int) != 0) = false := fun h => by rw [Z0.out (List.eq_nil_of_length_eq_zero h)]; rfl
  generalize Fl.cadd (Fl.csum l) n = sm at *
  generalize Fl.csum l = s at *
  by_cases hnil : l.length = 0
  · have qz := QZ hnil
    have e0 : ((l.length : Int) == 0) = true := by rw [beq_iff_eq]; omega
    clear QZ hnil
    by_cases hcl : Fl.cls s = 0
    · have hc2 := CS.out hcl
      have q1 : (Fl.cls s == 0) = true := by simpa using hcl
      have q2 : (Fl.cls sm != 0) = false := by simpa using hc2
      clear hcl hc2
      go_wp2_with (first | (go_at_call 18; ((with_reducible refine (S.out _).mono ?_)); rintro e w' ⟨rfl, rfl⟩) | (go_at_call 18; ((with_reducible refine (M.out _).mono ?_)); rintro e w' ⟨rfl, rfl⟩) | (go_at_call 18; ((with_reducible refine (RB.out _).mono ?_)); rintro e w' ⟨rfl, rfl⟩) | (go_at_call 19; ((with_reducible refine (C1.out _).mono ?_)); rintro e w' ⟨rfl, rfl⟩) | (go_at_call 19; ((with_reducible refine (C2.out _).mono ?_)); rintro e w' ⟨rfl, rfl⟩) | (go_at_call 12; refine (raw_c _ _).mono ?_; rintro e w' ⟨rfl, rfl⟩) | (go_at_call 15; refine (fawake_b (by assumption)).mono ?_; rintro e w' ⟨rfl, hb9⟩))
      go_ret
      exact ⟨rfl, hb9⟩
    · have q1 : (Fl.cls s == 0) = false := by simpa using hcl
      clear hcl
      go_wp2_with (first | (go_at_call 18; ((with_reducible refine (S.out _).mono ?_)); rintro e w' ⟨rfl, rfl⟩) | (go_at_call 18; ((with_reducible refine (M.out _).mono ?_)); rintro e w' ⟨rfl, rfl⟩) | (go_at_call 18; ((with_reducible refine (RB.out _).mono ?_)); rintro e w' ⟨rfl, rfl⟩) | (go_at_call 19; ((with_reducible refine (C1.out _).mono ?_)); rintro e w' ⟨rfl, rfl⟩) | (go_at_call 19; ((with_reducible refine (C2.out _).mono ?_)); rintro e w' ⟨rfl, rfl⟩) | (go_at_call 12; refine (raw_c _ _).mono ?_; rintro e w' ⟨rfl, rfl⟩) | (go_at_call 15; refine (fawake_b (by assumption)).mono ?_; rintro e w' ⟨rfl, hb9⟩))
      go_ret
      exact ⟨rfl, hb9⟩
  · have e0 : ((l.length : Int) == 0) = false := by rw [beq_eq_false_iff_ne]; omega
    clear QZ hnil
    by_cases hcl : Fl.cls s = 0
    · have hc2 := CS.out hcl
      have q1 : (Fl.cls s == 0) = true := by simpa using hcl
      have q2 : (Fl.cls sm != 0) = false := by simpa using hc2
      clear hcl hc2
      go_wp2_with (first | (go_at_call 18; ((with_reducible refine (S.out _).mono ?_)); rintro e w' ⟨rfl, rfl⟩) | (go_at_call 18; ((with_reducible refine (M.out _).mono ?_)); rintro e w' ⟨rfl, rfl⟩) | (go_at_call 18; ((with_reducible refine (RB.out _).mono ?_)); rintro e w' ⟨rfl, rfl⟩) | (go_at_call 19; ((with_reducible refine (C1.out _).mono ?_)); rintro e w' ⟨rfl, rfl⟩) | (go_at_call 19; ((with_reducible refine (C2.out _).mono ?_)); rintro e w' ⟨rfl, rfl⟩) | (go_at_call 12; refine (raw_c _ _).mono ?_; rintro e w' ⟨rfl, rfl⟩) | (go_at_call 15; refine (fawake_b (by assumption)).mono ?_; rintro e w' ⟨rfl, hb9⟩))
      go_ret
      exact ⟨rfl, hb9⟩
    · have q1 : (Fl.cls s == 0) = false := by simpa using hcl
      clear hcl
      go_wp2_with (first | (go_at_call 18; ((with_reducible refine (S.out _).mono ?_)); rintro e w' ⟨rfl, rfl⟩) | (go_at_call 18; ((with_reducible refine (M.out _).mono ?_)); rintro e w' ⟨rfl, rfl⟩) | (go_at_call 18; ((with_reducible refine (RB.out _).mono ?_)); rintro e w' ⟨rfl, rfl⟩) | (go_at_call 19; ((with_reducible refine (C1.out _).mono ?_)); rintro e w' ⟨rfl, rfl⟩) | (go_at_call 19; ((with_reducible refine (C2.out _).mono ?_)); rintro e w' ⟨rfl, rfl⟩) | (go_at_call 12; refine (raw_c _ _).mono ?_; rintro e w' ⟨rfl, rfl⟩) | (go_at_call 15; refine (fawake_b (by assumption)).mono ?_; rintro e w' ⟨rfl, hb9⟩))
      go_ret
      exact ⟨rfl, hb9⟩
end Go.Proofs.Ytijgopcddjnfdaa
