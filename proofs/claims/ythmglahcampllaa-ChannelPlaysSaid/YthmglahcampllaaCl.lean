/- What is proved here: the example of channels. Condition: none. -/
import Derived.Test.YthmglahcampllaaCk
import Derived.Deep.DeepCutAuto
import Derived.Deep.CutBlock
namespace Go.Proofs.Ythmglahcampllaa
open Go Go.RowKit
attribute [local go_sem] KW.cell KW.frozen
namespace Ch
theorem send_s {B q : Nat} {w : World} {v : Value} {l : List Fl} (sw : Int) (up : Bool) (s : ByteArray) (h : St 99 72 B w q v 0 l) (hl : l.length < 100) :
    Calls Try.prog 72 #[.pointer (some ⟨q, 0, none⟩), .agg #[.int .i64 sw, .bool up, .string s]] w fun e w' => e = .returned (.int .i64 0) ∧ ∃ v', St 99 72 B w' q v' 0 (l ++ [(sw, up, s)]) ∧ Below B w w' := by
  have hf : full l = false := by unfold full; simp; omega
  have e1 : sendE l = 0 := by unfold sendE; rw [hf]; rfl
  have e2 : sendN l 0 = 0 := by unfold sendN; rw [hf]; rfl
  have e3 : sendL l (sw, up, s) = l ++ [(sw, up, s)] := by unfold sendL; rw [hf]; rfl
  refine (send_c sw up s h (by omega) (by omega) (by omega)).mono ?_
  rintro e w' ⟨he, ⟨v', hs⟩, hm⟩
  rw [e1] at he
  rw [e2, e3] at hs
  exact ⟨he, v', hs, hm.bl⟩
set_option maxRecDepth 100000 in
set_option maxHeartbeats 4000000 in
theorem cawake_c (w : World) : Calls Try.prog 33 #[] w fun e w' => e = .returned (.bool true) ∧ Below w.heap.size w w' := by
  go_enter Try.func33, Try.ntmps33
  go_wp2_with fail
  refine (new_c _).mono ?_
  rintro e w1 ⟨rfl, hw1⟩
  have s1 := St.new w
  have b1 : Below w.heap.size w (w.alloc (.cells #[.slice none 0 0, .int .i64 0] 99)) := (Below.refl _ _).alloc (Nat.le_refl _) _
  rw [← hw1] at s1 b1
  clear hw1
  go_wp2_with fail
  refine (send_s _ _ _ s1 (by decide)).mono ?_
  rintro e w2 ⟨rfl, v2, s2, c2⟩
  have b2 := b1.trans c2
  clear s1 b1 c2
  go_wp2_with fail
  refine (send_s _ _ _ s2 (by decide)).mono ?_
  rintro e w3 ⟨rfl, v3, s3, c3⟩
  have b3 := b2.trans c3
  clear s2 b2 c3
  go_wp2_with fail
  refine (send_s _ _ _ s3 (by decide)).mono ?_
  rintro e w4 ⟨rfl, v4, s4, c4⟩
  have b4 := b3.trans c4
  clear s3 b3 c4
  go_wp2_with fail
  refine (take_c 1 s4 (by decide)).mono ?_
  rintro e w5 ⟨rfl, ⟨v5, s5⟩, m5⟩
  have b5 := b4.trans m5.bl
  have hq5 : w.heap.size < w5.heap.size := s5.lt
  clear s4 b4 m5
  obtain ⟨L5, hL5⟩ : ∃ L, takeL ([] ++ [((0 : Int), false, (⟨#[97]⟩ : ByteArray))] ++ [((1 : Int), false, (⟨#[98]⟩ : ByteArray))] ++ [((0 : Int), false, (⟨#[99]⟩ : ByteArray))]) 1 = L := ⟨_, rfl⟩
  have hL : L5 = [((0 : Int), false, (⟨#[97]⟩ : ByteArray)), ((0 : Int), false, (⟨#[99]⟩ : ByteArray))] := by rw [← hL5]; rfl
  rw [hL5, hL] at s5
  clear hL5 hL L5
  have s6 := s5.kept ((Below.refl w5.heap.size w5).alloc (Nat.le_refl _) (.cells #[.int .i64 1, .bool false, .string ⟨#[98]⟩] 72))
  have b6 : Below w.heap.size w (w5.alloc (.cells #[.int .i64 1, .bool false, .string ⟨#[98]⟩] 72)) := b5.alloc b5.size _
  have h6 : (w5.alloc (.cells #[.int .i64 1, .bool false, .string ⟨#[98]⟩] 72)).heap[w5.heap.size]? = some (.cells #[.int .i64 1, .bool false, .string ⟨#[98]⟩] 72 (0, 0)) := heap_alloc_new w5 _
  clear s5 b5
  have S6 := Lib.hid s6
  have B6 := Lib.hid b6
  have H6 := Lib.hid h6
  clear s6 b6 h6
  go_wp2_with fail
  show Calls Try.prog 41 _ (w5.alloc (.cells #[.int .i64 1, .bool false, .string ⟨#[98]⟩] 72)) _
  generalize w5.alloc (.cells #[.int .i64 1, .bool false, .string ⟨#[98]⟩] 72) = w6 at *
  have X := look_c 1 S6.out (by decide)
  have ea : atK [((0 : Int), false, (⟨#[97]⟩ : ByteArray)), ((0 : Int), false, (⟨#[99]⟩ : ByteArray))] 1 = ((0 : Int), false, (⟨#[99]⟩ : ByteArray)) := by rfl
  have el : lookE [((0 : Int), false, (⟨#[97]⟩ : ByteArray)), ((0 : Int), false, (⟨#[99]⟩ : ByteArray))] 1 = 0 := by rfl
  rw [ea, el] at X
  clear ea el
  refine X.mono ?_
  rintro e w7 ⟨rfl, hb7⟩
  have hb8 : Below w6.heap.size w6 (w7.alloc (.cells #[.int .i64 0, .bool false, .string ⟨#[99]⟩] 72)) := hb7.alloc hb7.size _
  have S8 := Lib.hid (S6.out.kept hb8)
  have l6 := block_lt H6.out
  have B8 := Lib.hid (B6.out.trans (hb8.mono B6.out.size))
  have h8 : (w7.alloc (.cells #[.int .i64 0, .bool false, .string ⟨#[99]⟩] 72)).heap[w5.heap.size]? = some (.cells #[.int .i64 1, .bool false, .string ⟨#[98]⟩] 72 (0, 0)) := (hb8.block _ l6).trans H6.out
  have k8 : (w7.alloc (.cells #[.int .i64 0, .bool false, .string ⟨#[99]⟩] 72)).heap[w7.heap.size]? = some (.cells #[.int .i64 0, .bool false, .string ⟨#[99]⟩] 72 (0, 0)) := heap_alloc_new w7 _
  have c8 : (w7.alloc (.cells #[.int .i64 0, .bool false, .string ⟨#[99]⟩] 72)).cell? ⟨w5.heap.size, 2, none⟩ = some (.string ⟨#[98]⟩) := block_cell h8 2
  have d8 : (w7.alloc (.cells #[.int .i64 0, .bool false, .string ⟨#[99]⟩] 72)).cell? ⟨w7.heap.size, 2, none⟩ = some (.string ⟨#[99]⟩) := block_cell k8 2
  clear hb7 hb8 l6 h8 k8 H6 B6 S6 X
  go_upto_region 5 with fail
  generalize w7.alloc (.cells #[.int .i64 0, .bool false, .string ⟨#[99]⟩] 72) = w8 at *
  have o1 : ofN [((0 : Int), false, (⟨#[97]⟩ : ByteArray)), ((0 : Int), false, (⟨#[99]⟩ : ByteArray))] 0 = 2 := by rfl
  have o2 : nextN [((0 : Int), false, (⟨#[97]⟩ : ByteArray)), ((0 : Int), false, (⟨#[99]⟩ : ByteArray))] 1 false = -1 := by rfl
  have X1 := len_c S8.out
  have X2 := of_c 0 S8.out (by decide)
  have X3 := Lib.hid (fun (w : World) (h : Below w8.heap.size w8 w) => next_c 1 false (S8.out.kept h) (by decide))
  rw [o1] at X2
  rw [o2] at X3
  have X1 := Lib.hid X1
  have X2 := Lib.hid X2
  go_wp2_with (first | (go_at_call 35; refine X1.out.mono ?_; rintro e w9 ⟨rfl, rfl⟩) | (go_at_call 37; refine X2.out.mono ?_; rintro e w9 ⟨rfl, hb9⟩) | (go_at_call 39; refine (X3.out _ hb9).mono ?_; rintro e w10 ⟨rfl, hb10⟩))
  go_ret
  exact ⟨rfl, B8.out.trans ((hb9.trans (hb10.mono hb9.size)).mono B8.out.size)⟩
end Ch
end Go.Proofs.Ythmglahcampllaa
