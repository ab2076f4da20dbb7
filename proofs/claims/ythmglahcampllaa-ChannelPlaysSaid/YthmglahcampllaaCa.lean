/- What is proved here: what the quiet functions of a channel answer. Condition: it lies in memory of the call's own. -/
import Derived.Test.YthmglahcampllaaCm
import Derived.Test.YthmglahcampllaaDm
namespace Go.Proofs.Ythmglahcampllaa
open Go Go.RowKit
attribute [local go_sem] KW.cell KW.frozen
namespace Ch
theorem new_c (w : World) : Calls Try.prog 32 #[] w fun e w' => e = .returned (.pointer (some ⟨w.heap.size, 0, none⟩)) ∧ w' = w.alloc (.cells #[.slice none 0 0, .int .i64 0] 99) := by
  go_enter Try.func32, Try.ntmps32
  go_wp2
  go_ret
  exact ⟨rfl, rfl⟩
theorem St.new (w : World) : St 99 72 w.heap.size (w.alloc (.cells #[.slice none 0 0, .int .i64 0] 99)) w.heap.size (.slice none 0 0) 0 [] :=
  ⟨Nat.le_refl _, heap_alloc_new w _, World.ownsRow_nil _ _ _ _, by decide⟩
theorem St.newR (w : World) (B : Nat) (hB : B ≤ w.heap.size) : St 63 65 B (w.alloc (.cells #[.slice none 0 0, .int .i64 0] 63)) w.heap.size (.slice none 0 0) 0 [] :=
  ⟨hB, heap_alloc_new w _, World.ownsRow_nil _ _ _ _, by decide⟩
theorem mine_c (sw : Int) (up : Bool) (s : ByteArray) (w : World) : Calls Try.prog 42 #[.agg #[.int .i64 sw, .bool up, .string s]] w fun e w' => e = .returned (.agg #[.int .i64 sw, .bool up, .string s]) ∧ Below w.heap.size w w' := by
  go_enter Try.func42, Try.ntmps42
  go_wp2
  refine bodyPost_ret (v := .agg #[.int .i64 sw, .bool up, .string s]) (by simp [results, Try.results42, go_sem]) rfl ⟨rfl, ?_⟩
  (repeat' (first | (with_reducible exact Below.refl _ _) | (with_reducible assumption) | (with_reducible refine Below.alloc ?_ ?_ _) | (with_reducible refine Below.drew ?_) | (with_reducible refine Below.setCell ?_ ?_ _) | (simp; done) | (simp; omega)))
section
variable {B q : Nat} {w : World} {v : Value} {n : Int} {l : List Fl}
theorem len_c (h : St 99 72 B w q v n l) : Calls Try.prog 35 #[.pointer (some ⟨q, 0, none⟩)] w fun e w' => e = .returned (.int .i64 (l.length : Int)) ∧ w = w' := by
  have c0 := h.c0
  obtain ⟨ao, c, rfl, _⟩ := h.form
  go_enter Try.func35, Try.ntmps35
  go_wp2
  go_ret
  exact ⟨rfl, rfl⟩
theorem lost_c (h : St 99 72 B w q v n l) : Calls Try.prog 36 #[.pointer (some ⟨q, 0, none⟩)] w fun e w' => e = .returned (.int .i64 n) ∧ w = w' := by
  have c1 := h.c1
  go_enter Try.func36, Try.ntmps36
  go_wp2
  go_ret
  exact ⟨rfl, rfl⟩

set_option maxRecDepth 100000 in
theorem look_c (k : Int) (h : St 99 72 B w q v n l) (_hl : l.length ≤ 256) :
    Calls Try.prog 41 #[.pointer (some ⟨q, 0, none⟩), .int .i64 k] w fun e w' => e = .returned (.tuple #[.agg #[.int .i64 (atK l k).1, .bool (atK l k).2.1, .string (atK l k).2.2], .int .i64 (lookE l k)]) ∧ Below w.heap.size w w' := by
  have c0 := h.c0
  have hq := h.lt
  obtain ⟨ao, c, rfl, hc1, hc2⟩ := h.form
  unfold maxLen at hc2
  by_cases h0 : 0 ≤ k
  · obtain ⟨j, rfl⟩ : ∃ j : Nat, k = j := ⟨k.toNat, by omega⟩
    by_cases h1 : j < l.length
    · obtain ⟨g, rfl, hg, hgq, e0, e1, e2⟩ := h.el j h1
      have hi : is l (j : Int) = true := is_iff.2 ⟨h0, by omega⟩
      have ha : atK l (j : Int) = l[j] := by
        unfold atK
        rw [if_pos hi, Int.toNat_natCast, List.getD_eq_getElem?_getD, List.getElem?_eq_getElem h1]
        rfl
      have he : lookE l (j : Int) = 0 := by unfold lookE; rw [if_pos hi]
      rw [ha, he]
      clear ha he hi h
      generalize l[j] = f at *
      obtain ⟨sw, up, s⟩ := f
      simp only at e0 e1 e2 ⊢
      have dj : decide ((l.length : Int) ≤ (j : Int)) = false := by simp; omega
      have dj2 : decide ((j : Int) < (l.length : Int)) = true := by simp; omega
      have dj3 : (j : Int) < (l.length : Int) := by omega
      go_enter Try.func41, Try.ntmps41
      go_wp2_with fail
      refine bodyPost_ret (v := .tuple #[.agg #[.int .i64 sw, .bool up, .string s], .int .i64 0]) (by simp [results, Try.results41, go_sem]) rfl ⟨rfl, ?_⟩
      (repeat' (first | (with_reducible exact Below.refl _ _) | (with_reducible assumption) | (with_reducible refine Below.alloc ?_ ?_ _) | (with_reducible refine Below.drew ?_) | (with_reducible refine Below.setCell ?_ ?_ _) | (simp; done) | (simp; omega)))
    · have hi : is l (j : Int) = false := is_no.2 (by omega)
      have ha : atK l (j : Int) = zero := by unfold atK; rw [hi]; rfl
      have he : lookE l (j : Int) = 7 := by unfold lookE; rw [hi]; rfl
      rw [ha, he]
      clear ha he hi h
      have dj : decide ((l.length : Int) ≤ (j : Int)) = true := by simp; omega
      have dj2 : decide ((j : Int) < (l.length : Int)) = false := by simp; omega
      go_enter Try.func41, Try.ntmps41
      go_wp2_with fail
      refine bodyPost_ret (v := .tuple #[.agg #[.int .i64 0, .bool false, .string ⟨#[]⟩], .int .i64 7]) (by simp [results, Try.results41, go_sem]) rfl ⟨rfl, ?_⟩
      (repeat' (first | (with_reducible exact Below.refl _ _) | (with_reducible assumption) | (with_reducible refine Below.alloc ?_ ?_ _) | (with_reducible refine Below.drew ?_) | (with_reducible refine Below.setCell ?_ ?_ _) | (simp; done) | (simp; omega)))
  · have hi : is l k = false := is_no.2 (by omega)
    have ha : atK l k = zero := by unfold atK; rw [hi]; rfl
    have he : lookE l k = 7 := by unfold lookE; rw [hi]; rfl
    rw [ha, he]
    clear ha he hi h
    go_enter Try.func41, Try.ntmps41
    go_wp2_with fail
    refine bodyPost_ret (v := .tuple #[.agg #[.int .i64 0, .bool false, .string ⟨#[]⟩], .int .i64 7]) (by simp [results, Try.results41, go_sem]) rfl ⟨rfl, ?_⟩
    (repeat' (first | (with_reducible exact Below.refl _ _) | (with_reducible assumption) | (with_reducible refine Below.alloc ?_ ?_ _) | (with_reducible refine Below.drew ?_) | (with_reducible refine Below.setCell ?_ ?_ _) | (simp; done) | (simp; omega)))


set_option maxRecDepth 100000 in
theorem rlook_c (k : Int) (h : St 63 65 B w q v n l) (_hl : l.length ≤ 256) :
    Calls Try.prog 78 #[.pointer (some ⟨q, 0, none⟩), .int .i64 k] w fun e w' => e = .returned (.tuple #[.agg #[.int .i64 (atK l k).1, .bool (atK l k).2.1, .string (atK l k).2.2], .int .i64 (lookE l k)]) ∧ Below w.heap.size w w' := by
  have c0 := h.c0
  have hq := h.lt
  obtain ⟨ao, c, rfl, hc1, hc2⟩ := h.form
  unfold maxLen at hc2
  by_cases h0 : 0 ≤ k
  · obtain ⟨j, rfl⟩ : ∃ j : Nat, k = j := ⟨k.toNat, by omega⟩
    by_cases h1 : j < l.length
    · obtain ⟨g, rfl, hg, hgq, e0, e1, e2⟩ := h.el j h1
      have hi : is l (j : Int) = true := is_iff.2 ⟨h0, by omega⟩
      have ha : atK l (j : Int) = l[j] := by
        unfold atK
        rw [if_pos hi, Int.toNat_natCast, List.getD_eq_getElem?_getD, List.getElem?_eq_getElem h1]
        rfl
      have he : lookE l (j : Int) = 0 := by unfold lookE; rw [if_pos hi]
      rw [ha, he]
      clear ha he hi h
      generalize l[j] = f at *
      obtain ⟨sw, up, s⟩ := f
      simp only at e0 e1 e2 ⊢
      have dj : decide ((l.length : Int) ≤ (j : Int)) = false := by simp; omega
      have dj2 : decide ((j : Int) < (l.length : Int)) = true := by simp; omega
      have dj3 : (j : Int) < (l.length : Int) := by omega
      go_enter Try.func78, Try.ntmps78
      go_wp2_with fail
      refine bodyPost_ret (v := .tuple #[.agg #[.int .i64 sw, .bool up, .string s], .int .i64 0]) (by simp [results, Try.results78, go_sem]) rfl ⟨rfl, ?_⟩
      (repeat' (first | (with_reducible exact Below.refl _ _) | (with_reducible assumption) | (with_reducible refine Below.alloc ?_ ?_ _) | (with_reducible refine Below.drew ?_) | (with_reducible refine Below.setCell ?_ ?_ _) | (simp; done) | (simp; omega)))
    · have hi : is l (j : Int) = false := is_no.2 (by omega)
      have ha : atK l (j : Int) = zero := by unfold atK; rw [hi]; rfl
      have he : lookE l (j : Int) = 7 := by unfold lookE; rw [hi]; rfl
      rw [ha, he]
      clear ha he hi h
      have dj : decide ((l.length : Int) ≤ (j : Int)) = true := by simp; omega
      have dj2 : decide ((j : Int) < (l.length : Int)) = false := by simp; omega
      go_enter Try.func78, Try.ntmps78
      go_wp2_with fail
      refine bodyPost_ret (v := .tuple #[.agg #[.int .i64 0, .bool false, .string ⟨#[]⟩], .int .i64 7]) (by simp [results, Try.results78, go_sem]) rfl ⟨rfl, ?_⟩
      (repeat' (first | (with_reducible exact Below.refl _ _) | (with_reducible assumption) | (with_reducible refine Below.alloc ?_ ?_ _) | (with_reducible refine Below.drew ?_) | (with_reducible refine Below.setCell ?_ ?_ _) | (simp; done) | (simp; omega)))
  · have hi : is l k = false := is_no.2 (by omega)
    have ha : atK l k = zero := by unfold atK; rw [hi]; rfl
    have he : lookE l k = 7 := by unfold lookE; rw [hi]; rfl
    rw [ha, he]
    clear ha he hi h
    go_enter Try.func78, Try.ntmps78
    go_wp2_with fail
    refine bodyPost_ret (v := .tuple #[.agg #[.int .i64 0, .bool false, .string ⟨#[]⟩], .int .i64 7]) (by simp [results, Try.results78, go_sem]) rfl ⟨rfl, ?_⟩
    (repeat' (first | (with_reducible exact Below.refl _ _) | (with_reducible assumption) | (with_reducible refine Below.alloc ?_ ?_ _) | (with_reducible refine Below.drew ?_) | (with_reducible refine Below.setCell ?_ ?_ _) | (simp; done) | (simp; omega)))

end
end Ch
end Go.Proofs.Ythmglahcampllaa
