/- What is proved here: what doubling and taking a flight does, of both channels. Condition: they lie in memory of the call's own. -/
import Derived.Test.YthmglahcampllaaCb
namespace Go.Proofs.Ythmglahcampllaa
open Go Go.RowKit
attribute [local go_sem] KW.cell KW.frozen
namespace Ch
section
variable {B q : Nat} {w : World} {v : Value} {n : Int} {l : List Fl}

set_option maxRecDepth 100000 in
set_option maxHeartbeats 1000000 in
theorem twice_c (k : Int) (h : St 99 72 B w q v n l) (hl : l.length ≤ 256) (hn0 : 0 ≤ n) (hn : n ≤ 100000) :
    Calls Try.prog 76 #[.pointer (some ⟨q, 0, none⟩), .int .i64 k] w fun e w' =>
      e = .returned (.int .i64 (twiceE l k)) ∧ (∃ v', St 99 72 B w' q v' (twiceN l k n) (twiceL l k)) ∧ TM 99 72 B w w' := by
  have hB : B ≤ w.heap.size := by have := h.hq; have := h.lt; omega
  have X := Lib.hid (look_c k h hl)
  have Y := Lib.hid (fun (sw : Int) (up : Bool) (s : ByteArray) (w1 : World) (hb : Below w.heap.size w w1) => send_c sw up s (h.kept hb) hl hn0 hn)
  have H := Lib.hid h
  clear h
  cases hi : is l k with
  | false =>
    have e0 : lookE l k = 7 := by unfold lookE; rw [hi]; rfl
    have e1 : twiceE l k = 7 := by unfold twiceE; rw [hi]; rfl
    have e2 : twiceN l k n = n := by unfold twiceN; rw [hi]; rfl
    have e3 : twiceL l k = l := by unfold twiceL; rw [hi]; rfl
    rw [e0] at X
    rw [e1, e2, e3]
    clear e0 e1 e2 e3 hi
    generalize atK l k = f at *
    generalize f.1 = x at *
    generalize f.2.1 = y at *
    generalize f.2.2 = z at *
    go_enter Try.func76, Try.ntmps76
    go_wp2_with fail
    refine X.out.mono ?_
    rintro e w1 ⟨rfl, hb⟩
    have hb1 : Below w.heap.size w (w1.alloc (.cells #[.int .i64 x, .bool y, .string z] 72)) := hb.alloc hb.size _
    go_wp2_with fail
    go_ret
    exact ⟨rfl, ⟨_, H.out.kept hb1⟩, TM.of_below hB hb1⟩
  | true =>
    have e0 : lookE l k = 0 := by unfold lookE; rw [hi]; rfl
    have e1 : twiceE l k = sendE l := by unfold twiceE; rw [hi]; rfl
    have e2 : twiceN l k n = sendN l n := by unfold twiceN; rw [hi]; rfl
    have e3 : twiceL l k = sendL l ((atK l k).1, (atK l k).2.1, (atK l k).2.2) := by unfold twiceL; rw [hi]; rfl
    rw [e0] at X
    rw [e1, e2, e3]
    clear e0 e1 e2 e3 hi
    generalize atK l k = f at *
    generalize f.1 = x at *
    generalize f.2.1 = y at *
    generalize f.2.2 = z at *
    go_enter Try.func76, Try.ntmps76
    go_wp2_with fail
    refine X.out.mono ?_
    rintro e w1 ⟨rfl, hb⟩
    have hb1 : Below w.heap.size w (w1.alloc (.cells #[.int .i64 x, .bool y, .string z] 72)) := hb.alloc hb.size _
    have Y1 := Lib.hid (Y.out x y z _ hb1)
    have M1 := Lib.hid (TM.of_below (T := 99) (E := 72) hB hb1)
    clear hb1
    go_wp2_with fail
    refine Y1.out.mono ?_
    rintro e w2 ⟨rfl, hs, hm⟩
    have HS := Lib.hid hs
    have HM := Lib.hid (M1.out.trans hm)
    clear hs hm
    go_wp2_with fail
    go_ret
    exact ⟨rfl, HS.out, HM.out⟩


set_option maxRecDepth 100000 in
set_option maxHeartbeats 1000000 in
theorem rtwice_c (k : Int) (h : St 63 65 B w q v n l) (hl : l.length ≤ 256) (hn0 : 0 ≤ n) (hn : n ≤ 100000) :
    Calls Try.prog 77 #[.pointer (some ⟨q, 0, none⟩), .int .i64 k] w fun e w' =>
      e = .returned (.int .i64 (twiceE l k)) ∧ (∃ v', St 63 65 B w' q v' (twiceN l k n) (twiceL l k)) ∧ TM 63 65 B w w' := by
  have hB : B ≤ w.heap.size := by have := h.hq; have := h.lt; omega
  have X := Lib.hid (rlook_c k h hl)
  have Y := Lib.hid (fun (sw : Int) (up : Bool) (s : ByteArray) (w1 : World) (hb : Below w.heap.size w w1) => rsend_c sw up s (h.kept hb) hl hn0 hn)
  have H := Lib.hid h
  clear h
  cases hi : is l k with
  | false =>
    have e0 : lookE l k = 7 := by unfold lookE; rw [hi]; rfl
    have e1 : twiceE l k = 7 := by unfold twiceE; rw [hi]; rfl
    have e2 : twiceN l k n = n := by unfold twiceN; rw [hi]; rfl
    have e3 : twiceL l k = l := by unfold twiceL; rw [hi]; rfl
    rw [e0] at X
    rw [e1, e2, e3]
    clear e0 e1 e2 e3 hi
    generalize atK l k = f at *
    generalize f.1 = x at *
    generalize f.2.1 = y at *
    generalize f.2.2 = z at *
    go_enter Try.func77, Try.ntmps77
    go_wp2_with fail
    refine X.out.mono ?_
    rintro e w1 ⟨rfl, hb⟩
    have hb1 : Below w.heap.size w (w1.alloc (.cells #[.int .i64 x, .bool y, .string z] 65)) := hb.alloc hb.size _
    go_wp2_with fail
    go_ret
    exact ⟨rfl, ⟨_, H.out.kept hb1⟩, TM.of_below hB hb1⟩
  | true =>
    have e0 : lookE l k = 0 := by unfold lookE; rw [hi]; rfl
    have e1 : twiceE l k = sendE l := by unfold twiceE; rw [hi]; rfl
    have e2 : twiceN l k n = sendN l n := by unfold twiceN; rw [hi]; rfl
    have e3 : twiceL l k = sendL l ((atK l k).1, (atK l k).2.1, (atK l k).2.2) := by unfold twiceL; rw [hi]; rfl
    rw [e0] at X
    rw [e1, e2, e3]
    clear e0 e1 e2 e3 hi
    generalize atK l k = f at *
    generalize f.1 = x at *
    generalize f.2.1 = y at *
    generalize f.2.2 = z at *
    go_enter Try.func77, Try.ntmps77
    go_wp2_with fail
    refine X.out.mono ?_
    rintro e w1 ⟨rfl, hb⟩
    have hb1 : Below w.heap.size w (w1.alloc (.cells #[.int .i64 x, .bool y, .string z] 65)) := hb.alloc hb.size _
    have Y1 := Lib.hid (Y.out x y z _ hb1)
    have M1 := Lib.hid (TM.of_below (T := 63) (E := 65) hB hb1)
    clear hb1
    go_wp2_with fail
    refine Y1.out.mono ?_
    rintro e w2 ⟨rfl, hs, hm⟩
    have HS := Lib.hid hs
    have HM := Lib.hid (M1.out.trans hm)
    clear hs hm
    go_wp2_with fail
    go_ret
    exact ⟨rfl, HS.out, HM.out⟩

end
end Ch
end Go.Proofs.Ythmglahcampllaa
