/- What is proved here: slices that read as lists; Sum, list and the example of chapter 3. Condition: the words are of 64 bits. -/
import Derived.Test.YtijgopcddjnfdaaFc
namespace Go.Proofs.Ytijgopcddjnfdaa
open Go Go.RowKit
attribute [local go_sem ↓] run_frombits run_bits lfrombits_one lfrombits_inf lfrombits_ninf
attribute [local go_sem] op_neg

theorem bon {W w w' : World} (h : Below W.heap.size W w) (h2 : Below w.heap.size w w') : Below W.heap.size W w' := h.trans (h2.mono h.size)
theorem add_head (g n : Nat) : (⟨g, 0, none⟩ : Addr).add n = ⟨g, n, none⟩ := by
  unfold Addr.add
  split
  · subst_vars; rfl
  · simp
theorem add_block (a : Addr) (n : Nat) : (a.add n).block = a.block := by
  unfold Addr.add
  split <;> rfl
def FLT (x : Nat) : Value := .float .f64 x
def WRD (x : Nat) : Value := .int .u64 (x : Int)
def INT (x : Int) : Value := .int .i64 x
/-- The slice v reads as the list xs. -/
def Rd {α : Type} (f : α → Value) (v : Value) (xs : List α) (w : World) : Prop :=
  (v = .slice none 0 0 ∧ xs = []) ∨ ∃ (a : Addr) (cap : Nat), v = .slice (some a) xs.length cap ∧ (0 < xs.length → a.block < w.heap.size) ∧ xs.length ≤ cap ∧ cap ≤ maxLen ∧
    ∀ i (h : i < xs.length), w.cell? (a.add i) = some (f xs[i])
section
variable {α : Type} {f : α → Value} {v : Value} {xs : List α} {w w' : World}
theorem Rd.keep (h : Rd f v xs w) (hs : w.heap.size ≤ w'.heap.size) (hc : ∀ p : Addr, p.block < w.heap.size → w'.cell? p = w.cell? p) : Rd f v xs w' := by
  rcases h with h | ⟨a, cap, hv, hg, h1, h2, hx⟩
  · exact .inl h
  · refine .inr ⟨a, cap, hv, fun h0 => Nat.lt_of_lt_of_le (hg h0) hs, h1, h2, fun i hi => ?_⟩
    rw [hc (a.add i) (by rw [add_block]; exact hg (by omega))]
    exact hx i hi
theorem Rd.kept (h : Rd f v xs w) (hb : Below w.heap.size w w') : Rd f v xs w' := h.keep hb.size fun _ hp => hb.cell hp
theorem Rd.drewN (h : Rd f v xs w) (n : Nat) : Rd f v xs (w.drewN n) := h.keep (Nat.le_refl _) fun _ _ => rfl
theorem Rd.form (h : Rd f v xs w) : ∃ ao c, v = .slice ao xs.length c ∧ xs.length ≤ 9223372036854775807 := by
  rcases h with ⟨rfl, rfl⟩ | ⟨a, cap, rfl, _, h1, h2, _⟩
  · exact ⟨none, 0, rfl, by simp⟩
  · unfold maxLen at h2; exact ⟨_, _, rfl, by omega⟩
theorem Rd.at_ {ao : Option Addr} {n c : Nat} (h : Rd f (.slice ao n c) xs w) (k : Nat) (hk : k < xs.length) : ∃ a, ao = some a ∧ a.block < w.heap.size ∧ w.cell? (a.add k) = some (f xs[k]) := by
  rcases h with ⟨_, rfl⟩ | ⟨a, cap, hv, hg, _, _, hc⟩
  · simp at hk
  · cases hv
    exact ⟨a, rfl, hg (by omega), hc k hk⟩
theorem Rd.nil : Rd f (.slice none 0 0) [] w := .inl ⟨rfl, rfl⟩
theorem Rd.of_own {B e : Nat} (h : w.ownsRow B e 1 v xs.length (xs.map f)) : Rd f v xs w := by
  have h0 := h
  rcases h.2 with ⟨rfl, hz⟩ | ⟨g, cap, cur, rfl, hB, hg, h1, h2, _⟩
  · exact .inl ⟨rfl, List.eq_nil_of_length_eq_zero hz⟩
  · refine .inr ⟨⟨g, 0, none⟩, cap, rfl, fun _ => block_lt hg, h1, h2, fun i hi => ?_⟩
    rw [add_head, h0.cellAt i (by omega)]
    simp [hi]
end
theorem below_grown3 {B n e z : Nat} {w wx w1 w2 : World} {v : Value} {vs : List Value} (h : Below B w w1) (hB : B ≤ w1.heap.size) (hg : w1.grownBy w2 v.ownBlock) (hown : wx.ownsRow B e z v n vs) : Below B w w2 := by
  refine h.grown hg hB fun k hk => ?_
  rcases hown.2 with ⟨rfl, _⟩ | ⟨g, cap, cur, rfl, hg', _⟩
  · simp [Value.ownBlock] at hk
  · simp [Value.ownBlock] at hk
    omega
theorem own_mono {B B' e z n : Nat} {v : Value} {vs : List Value} {w : World} (h : w.ownsRow B e z v n vs) (hB : B' ≤ B) : w.ownsRow B' e z v n vs := by
  obtain ⟨h1, h2⟩ := h
  refine ⟨h1, ?_⟩
  rcases h2 with h2 | ⟨g, cap, cur, hv, hg, r⟩
  · exact .inl h2
  · exact .inr ⟨g, cap, cur, hv, Nat.le_trans hB hg, r⟩
theorem own_kept {B e z n : Nat} {v : Value} {vs : List Value} {w w' : World} (h : w.ownsRow B e z v n vs) (hb : Below w.heap.size w w') : w'.ownsRow B e z v n vs := by
  obtain ⟨h1, h2⟩ := h
  refine ⟨h1, ?_⟩
  rcases h2 with h2 | ⟨g, cap, cur, hv, hg, hh, r⟩
  · exact .inl h2
  · exact .inr ⟨g, cap, cur, hv, hg, (hb.block g (block_lt hh)).trans hh, r⟩
theorem Try.info23 : (Try.prog.info? 23).map (fun i => (i.zero, i.size, i.bytes)) = some (some (.float .f64 0), 1, 8) := by kernel_rfl

theorem Fl.csum_snoc (xs : List Nat) (k : Nat) (h : k < xs.length) : Fl.csum (xs.take (k + 1)) = Fl.cadd (Fl.csum (xs.take k)) xs[k] := by
  unfold Fl.csum
  rw [List.take_succ_eq_append_getElem h, List.foldl_append]
  rfl
set_option maxRecDepth 100000 in
theorem sum_c (v : Value) (xs : List Nat) (w : World) (h : Rd FLT v xs w) : Calls Try.prog 16 #[v] w fun e w' => e = .returned (.float .f64 (Fl.csum xs)) ∧ ∃ n, w' = w.drewN n := by
  obtain ⟨ao, c, rfl, hm⟩ := h.form
  have H := Lib.hid h
  clear h
  go_enter Try.func16, Try.ntmps16
  go_wp2_with fail
  go_loopw [3, 8] (fun s i wr => ∃ (k m : Nat), i = .int .i64 k ∧ k ≤ xs.length ∧ s = .float .f64 (Fl.csum (xs.take k)) ∧ wr = w.drewN m) (fun _ i _ => xs.length - (intOf i).toNat)
  case atStart => exact ⟨0, 0, rfl, Nat.zero_le _, rfl, rfl⟩
  case round =>
    obtain ⟨k, m, rfl, hk, rfl, rfl⟩ := hrel
    by_cases hlt : k < xs.length
    · have hd : decide ((k : Int) < (xs.length : Int)) = true := by simp; omega
      obtain ⟨a, rfl, _, hc⟩ := (H.out.drewN m).at_ k hlt
      unfold FLT at hc
      obtain ⟨r, n, hr, hw, hcl⟩ := run_fadd (Fl.csum (xs.take k)) xs[k] (w.drewN m)
      rw [← Fl.csum_snoc xs k hlt] at hcl
      have HC := Lib.hid (clean_w r hw)
      rw [hcl] at HC
      clear hcl
      generalize xs[k] = x at *
      generalize Fl.csum (xs.take k) = s at *
      go_wp2_with (go_at_call 26; refine (HC.out _).mono ?_; rintro e w' ⟨rfl, rfl⟩)
      go_roundw
      case rel => exact ⟨k + 1, m + n, by go_num, by omega, rfl, rfl⟩
      case measure => simp [intOf]; omega
    · obtain rfl : k = xs.length := by omega
      have hd : decide ((xs.length : Int) < (xs.length : Int)) = false := by simp
      rw [List.take_length]
      go_wp2_with fail
      go_ret
      exact ⟨rfl, m, rfl⟩
theorem take_map_snoc {α : Type} (f : α → Value) (xs : List α) (k : Nat) (h : k < xs.length) : (xs.take k).map f ++ [f xs[k]] = (xs.take (k + 1)).map f := by
  rw [List.take_succ_eq_append_getElem h, List.map_append]
  rfl
set_option maxRecDepth 100000 in
set_option maxHeartbeats 1000000 in
theorem list_c (v : Value) (xs : List Nat) (w : World) (h : Rd WRD v xs w) (hlen : xs.length ≤ 1000) : Calls Try.prog 17 #[v] w fun e w' => ∃ u, e = .returned u ∧ w'.ownsRow w.heap.size 23 1 u xs.length (xs.map FLT) ∧ Below w.heap.size w w' := by
  obtain ⟨i0, hi, hz0, hz1, hz2⟩ := info_parts Try.info23
  obtain ⟨ao, c, rfl, hm⟩ := h.form
  have H := Lib.hid h
  clear h
  go_enter Try.func17, Try.ntmps17
  go_wp2_with fail
  go_loopw [3, 4] (fun v i wr => ∃ (k : Nat), i = .int .i64 k ∧ k ≤ xs.length ∧ wr.ownsRow w.heap.size 23 1 v k ((xs.take k).map FLT) ∧ Below w.heap.size w wr) (fun _ i _ => xs.length - (intOf i).toNat)
  case atStart => exact ⟨0, rfl, Nat.zero_le _, ⟨rfl, .inl ⟨rfl, rfl⟩⟩, Below.refl _ _⟩
  case round =>
    obtain ⟨k, rfl, hk, hown, hb⟩ := hrel
    have hs := hb.size
    by_cases hlt : k < xs.length
    · have hd : decide ((k : Int) < (xs.length : Int)) = true := by simp; omega
      obtain ⟨a, rfl, _, hc⟩ := (H.out.kept hb).at_ k hlt
      unfold WRD at hc
      have hsn := take_map_snoc FLT xs k hlt
      have HS := Lib.hid hsn
      clear hsn
      generalize xs[k] = x at *
      unfold FLT at hown
      have hown1 := hown.alloc (Obj.cells #[.float .f64 x] 23)
      go_wp2_with (first | (go_at_call 12; refine (raw_c _ _).mono ?_; rintro e w' ⟨rfl, rfl⟩) | (at_builtin; refine wpList_append_lies _ rfl _ _ 31 rfl w.heap.size 23 i0 (.float .f64 0) 1 8 Try.underlying31 hi hz0 hz1 hz2 rfl (by decide) _ k _ rfl hown1 ⟨wr.heap.size, 0, none⟩ 1 1 [.float .f64 x] rfl rfl (by intro j u hj; rcases j with _ | j <;> simp at hj; subst hj; simp [go_sem, Addr.add]) (by simp [Value.oneCell']) (by decide) (by unfold maxLen; omega) (by omega) (by simp; omega) (wr.heap.size + 1) (by simp) ?_; intro g' cap' w1 hown2 hgrow hat1 hlt1; have hb1 := below_grown3 (hb.alloc hs (Obj.cells #[.float .f64 x] 23)) (by simp; omega) hgrow hown1; clear hgrow hat1))
      have hown3 : w1.ownsRow w.heap.size 23 1 (.slice (some ⟨g', 0, none⟩) (k + 1) cap') (k + 1) ((xs.take (k + 1)).map FLT) := by
        rw [← HS.out]; exact hown2
      go_roundw
      case rel => exact ⟨k + 1, by go_num, by omega, hown3, hb1⟩
      case measure => simp [intOf]; omega
    · obtain rfl : k = xs.length := by omega
      have hd : decide ((xs.length : Int) < (xs.length : Int)) = false := by simp
      rw [List.take_length] at hown
      go_wp2_with fail
      go_returns
      exact ⟨_, rfl, hown, hb⟩

namespace Fl
theorem aw1 : W64 9218868437227405312 := by unfold W64; decide
theorem aw2 : clean 9218868437227405312 = 9218868437227405312 := by decide
theorem aw3 : clean 18442240474082181120 = 18442240474082181120 := by decide
theorem aw4 : clean 9223372036854775808 = 9223372036854775808 := by decide
theorem aw5 : clean 0 = 0 := by decide
theorem aw6 : cmpW 9223372036854775808 0 = -1 := by decide
theorem aw7 : csum [9218868437227405312, 18442240474082181120] = 9221120237041090561 := by decide
theorem aw8 : clean 9221120237041090561 = 9221120237041090561 := by decide
theorem aw9 : cls 9218868437227405312 = 6 := by decide
end Fl
theorem rd_two (x y : Nat) (w : World) : Rd FLT (.slice (some ⟨w.heap.size, 0, none⟩) 2 2) [x, y] (w.alloc (.cells #[.float .f64 x, .float .f64 y] 23)) := by
  refine .inr ⟨⟨w.heap.size, 0, none⟩, 2, rfl, by simp, by simp, by decide, fun i hi => ?_⟩
  have hi' : i < 2 := by simpa using hi
  rw [add_head]
  match i, hi' with
  | 0, _ => exact block_cell (heap_alloc_new w _) 0
  | 1, _ => exact block_cell (heap_alloc_new w _) 1
set_option maxRecDepth 100000 in
set_option maxHeartbeats 1000000 in
theorem fawake_b {W w : World} (hb : Below W.heap.size W w) : Calls Try.prog 15 #[] w fun e w' => e = .returned (.bool true) ∧ Below W.heap.size W w' := by
  have A1 := Lib.hid (of_w 9218868437227405312 (by unfold Fl.W64; decide))
  have A2 := Lib.hid (of_w 18442240474082181120 (by unfold Fl.W64; decide))
  have A3 := Lib.hid (of_w 9223372036854775808 (by unfold Fl.W64; decide))
  have A4 := Lib.hid (of_w 0 (by unfold Fl.W64; decide))
  rw [Fl.aw2] at A1
  rw [Fl.aw3] at A2
  rw [Fl.aw4] at A3
  rw [Fl.aw5] at A4
  have A5 := Lib.hid (compare_w 9223372036854775808 0 (by unfold Fl.W64; decide) (by unfold Fl.W64; decide))
  rw [Fl.aw6] at A5
  have A6 := Lib.hid (fun w => sum_c _ _ _ (rd_two 9218868437227405312 18442240474082181120 w))
  rw [Fl.aw7] at A6
  have A7 := Lib.hid (bits_w 9221120237041090561 (by unfold Fl.W64; decide))
  rw [Fl.aw8] at A7
  have A8 := Lib.hid (class_w 9218868437227405312 (by unfold Fl.W64; decide))
  rw [Fl.aw9] at A8
  have hb1 := hb.alloc hb.size (.cells #[.float .f64 9218868437227405312, .float .f64 18442240474082181120] 23)
  clear hb
  go_enter Try.func15, Try.ntmps15
  go_wp2_with fail
  refine (A1.out _).mono ?_
  rintro e w' ⟨rfl, rfl⟩
  go_wp2_with fail
  refine (A2.out _).mono ?_
  rintro e w' ⟨rfl, rfl⟩
  go_wp2_with fail
  refine (A3.out _).mono ?_
  rintro e w' ⟨rfl, rfl⟩
  go_wp2_with fail
  refine (A4.out _).mono ?_
  rintro e w' ⟨rfl, rfl⟩
  go_wp2_with fail
  refine (A5.out _).mono ?_
  rintro e w' ⟨rfl, rfl⟩
  go_wp2_with fail
  refine (A6.out _).mono ?_
  rintro e w' ⟨rfl, n, rfl⟩
  have hb2 := below_drewN hb1 n
  clear hb1
  go_wp2_with fail
  refine (A7.out _).mono ?_
  rintro e w' ⟨rfl, rfl⟩
  go_wp2_with fail
  refine (A8.out _).mono ?_
  rintro e w' ⟨rfl, rfl⟩
  go_wp2_with fail
  go_ret
  exact ⟨rfl, hb2⟩
end Go.Proofs.Ytijgopcddjnfdaa
