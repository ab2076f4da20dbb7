/- What is proved here: which token the lexer reads next. Condition: the lexer lies in memory of the call's own; a token begins here. -/
import Derived.Test.YtekfkieimdgfkaaGreatT36
namespace Go.Proofs.YtekfkieimdgfkaaGreat
open Go Go.RowKit
attribute [local go_sem] KW.cell KW.frozen
def Tok (k n : Int) (t : ByteArray) (a : Nat) : Value := .tuple #[.agg #[.int .i64 k, .int .i64 n, .string t, .int .i64 (a : Int)], .bool true]
/-- string([]byte{c}) at a new row. -/
theorem byte_str (W : World) (c : UInt8) (g : Nat) (hg : g = W.heap.size) :
    (convert 161 9 (.slice (some ⟨g, 0, none⟩) 1 1)).run Tryz.prog (W.alloc (.cells #[.int .u8 (c.toNat : Int)] 5)) = .ok (.string (bs [c])) (W.alloc (.cells #[.int .u8 (c.toNat : Int)] 5)) := by
  subst hg
  refine run_convert_bytes_back _ 161 9 5 ⟨W.heap.size, 0, none⟩ 1 [c] Tryz.underlying161 Tryz.underlying5 Tryz.underlying9 ?_
  intro j hj
  have hj0 : j = 0 := by simpa using hj
  subst hj0
  exact World.cell?_alloc_mark W _ 5 (0, 0) 0

set_option maxRecDepth 100000 in
set_option maxHeartbeats 4000000 in
theorem next_word (q : Nat) (s : ByteArray) (a : Nat) (w : World) (hq : w.heap[q]? = some (.cells #[.string s, .int .i64 a] 141 (0, 0))) (ha : a < s.size) (hs : s.size ≤ 5000) (c : UInt8) (hc : s[a] = c) (hl : letterP c = true) (wd : List UInt8) (hw : (s.data.toList.drop a).takeWhile letterP = wd) :
    Calls Tryz.prog 74 #[.pointer (some ⟨q, 0, none⟩)] w fun e w' => e = .returned (.tuple #[.agg #[.int .i64 1, .int .i64 0, .string (bs wd), .int .i64 a], .bool true]) ∧ LexTo q s (a + wd.length) w w' := by
  have hql0 := block_lt hq
  have hq0 : (w.alloc (.cells #[.int .i64 0, .int .i64 0, .string ⟨#[]⟩, .int .i64 0] 112)).heap[q]? = some (.cells #[.string s, .int .i64 a] 141 (0, 0)) := (Below.heap_alloc w _ q hql0).trans hq
  have hz0 : (w.alloc (.cells #[.int .i64 0, .int .i64 0, .string ⟨#[]⟩, .int .i64 0] 112)).heap[w.heap.size]? = some (.cells #[.int .i64 0, .int .i64 0, .string ⟨#[]⟩, .int .i64 0] 112 (0, 0)) := heap_alloc_new w _
  have hm0 : Qm q w (w.alloc (.cells #[.int .i64 0, .int .i64 0, .string ⟨#[]⟩, .int .i64 0] 112)) := Qm.of_below (grow1 w _)
  have hnq : w.heap.size ≠ q := by omega
  have hnp : q ≠ w.heap.size := by omega
  have n1 : (w.heap.size = q) = False := eq_false hnq
  have n2 : (q = w.heap.size) = False := eq_false hnp
  have HL0 := Lib.hid (⟨hq0, hm0⟩ : LexTo q s a w (w.alloc (.cells #[.int .i64 0, .int .i64 0, .string ⟨#[]⟩, .int .i64 0] 112)))
  have c0 := block_cell hq0 0
  have c1 := block_cell hq0 1
  have f1 := block_free hq0 1
  have z0 := block_cell hz0 0
  have z1 := block_cell hz0 1
  have z2 := block_cell hz0 2
  have z3 := block_cell hz0 3
  have y0 := block_free hz0 0
  have y1 := block_free hz0 1
  have y2 := block_free hz0 2
  have y3 := block_free hz0 3
  simp only [List.getElem?_toArray, List.getElem?_cons_zero, List.getElem?_cons_succ] at c0 c1 z0 z1 z2 z3
  have HZ := Lib.hid hz0
  have HM := Lib.hid hm0
  have LC := Lib.hid (fun w' => letter_c c w')
  have DC := Lib.hid (fun w' => digitB_c c w')
  have i1 : (a : Int) < (s.size : Int) := by omega
  have i2 : (a : Int) ≤ (s.size : Int) := by omega
  have X := Lib.hid (while94_c q s a _ hq0 (by omega) hs)
  rw [hw] at X
  rw [hl] at LC
  clear hw hl hq0
  clear hq hz0 hm0
  go_enter Tryz.func74, Tryz.ntmps74
  go_wp2_with (first | (go_at_call 94; refine (LC.out _).mono ?_; rintro e w' ⟨rfl, rfl⟩) | (go_at_call 91; refine X.out.mono ?_; rintro e w2 ⟨t, rfl, ht, hq2, hm2⟩; obtain rfl := bs_of ht; have hl : LexTo q s (a + wd.length) w w2 := ⟨hq2, HM.out.trans hm2⟩; have hz2 := (hm2.block w.heap.size (block_lt HZ.out) hnq).trans HZ.out; clear c0 c1 f1 z0 z1 z2 z3 y0 y1 y2 y3 ht; have c0 := block_cell hq2 0; have c1 := block_cell hq2 1; have f1 := block_free hq2 1; have z0 := block_cell hz2 0; have z1 := block_cell hz2 1; have z2 := block_cell hz2 2; have z3 := block_cell hz2 3; have y0 := block_free hz2 0; have y1 := block_free hz2 1; have y2 := block_free hz2 2; have y3 := block_free hz2 3; simp only [List.getElem?_toArray, List.getElem?_cons_zero, List.getElem?_cons_succ] at c0 c1 z0 z1 z2 z3; have HL := Lib.hid hl; clear hq2 hm2 hl hz2))
  refine bodyPost_ret (v := .tuple #[.agg #[.int .i64 1, .int .i64 0, .string (bs wd), .int .i64 a], .bool true]) (by simp [results, Tryz.results74, go_sem, z0, z1, z2, z3]) rfl ⟨rfl, ?_⟩
  repeat (first | exact HL.out | refine LexTo.set ?_ _ _ _ (Nat.le_refl _) hnp)

set_option maxRecDepth 100000 in
set_option maxHeartbeats 4000000 in
theorem next_num (q : Nat) (s : ByteArray) (a : Nat) (w : World) (hq : w.heap[q]? = some (.cells #[.string s, .int .i64 a] 141 (0, 0))) (ha : a < s.size) (hs : s.size ≤ 5000) (c : UInt8) (hc : s[a] = c) (hl : letterP c = false) (hg : digitP c = true) (hd : (s.data.toList.drop a).takeWhile digitP = [c]) (h1 : 48 ≤ c.toNat) (h2 : c.toNat ≤ 57) :
    Calls Tryz.prog 74 #[.pointer (some ⟨q, 0, none⟩)] w fun e w' => e = .returned (.tuple #[.agg #[.int .i64 2, .int .i64 ((c.toNat : Int) - 48), .string ⟨#[]⟩, .int .i64 a], .bool true]) ∧ LexTo q s (a + 1) w w' := by
  have hql0 := block_lt hq
  have hq0 : (w.alloc (.cells #[.int .i64 0, .int .i64 0, .string ⟨#[]⟩, .int .i64 0] 112)).heap[q]? = some (.cells #[.string s, .int .i64 a] 141 (0, 0)) := (Below.heap_alloc w _ q hql0).trans hq
  have hz0 : (w.alloc (.cells #[.int .i64 0, .int .i64 0, .string ⟨#[]⟩, .int .i64 0] 112)).heap[w.heap.size]? = some (.cells #[.int .i64 0, .int .i64 0, .string ⟨#[]⟩, .int .i64 0] 112 (0, 0)) := heap_alloc_new w _
  have hm0 : Qm q w (w.alloc (.cells #[.int .i64 0, .int .i64 0, .string ⟨#[]⟩, .int .i64 0] 112)) := Qm.of_below (grow1 w _)
  have hnq : w.heap.size ≠ q := by omega
  have hnp : q ≠ w.heap.size := by omega
  have n1 : (w.heap.size = q) = False := eq_false hnq
  have n2 : (q = w.heap.size) = False := eq_false hnp
  have HL0 := Lib.hid (⟨hq0, hm0⟩ : LexTo q s a w (w.alloc (.cells #[.int .i64 0, .int .i64 0, .string ⟨#[]⟩, .int .i64 0] 112)))
  have c0 := block_cell hq0 0
  have c1 := block_cell hq0 1
  have f1 := block_free hq0 1
  have z0 := block_cell hz0 0
  have z1 := block_cell hz0 1
  have z2 := block_cell hz0 2
  have z3 := block_cell hz0 3
  have y0 := block_free hz0 0
  have y1 := block_free hz0 1
  have y2 := block_free hz0 2
  have y3 := block_free hz0 3
  simp only [List.getElem?_toArray, List.getElem?_cons_zero, List.getElem?_cons_succ] at c0 c1 z0 z1 z2 z3
  have HZ := Lib.hid hz0
  have HM := Lib.hid hm0
  have LC := Lib.hid (fun w' => letter_c c w')
  have DC := Lib.hid (fun w' => digitB_c c w')
  have i1 : (a : Int) < (s.size : Int) := by omega
  have i2 : (a : Int) ≤ (s.size : Int) := by omega
  have X := Lib.hid (number_c q s a _ hq0 ha hs c hd h1 h2)
  rw [hl] at LC
  rw [hg] at DC
  clear hd hl hg hq0 h1 h2
  clear hq hz0 hm0
  go_enter Tryz.func74, Tryz.ntmps74
  go_wp2_with (first | (go_at_call 94; refine (LC.out _).mono ?_; rintro e w' ⟨rfl, rfl⟩) | (go_at_call 95; refine (DC.out _).mono ?_; rintro e w' ⟨rfl, rfl⟩) | (go_at_call 96; refine X.out.mono ?_; rintro e w2 ⟨rfl, hq2, hm2⟩; have hl : LexTo q s (a + 1) w w2 := ⟨hq2, HM.out.trans hm2⟩; have hz2 := (hm2.block w.heap.size (block_lt HZ.out) hnq).trans HZ.out; clear c0 c1 f1 z0 z1 z2 z3 y0 y1 y2 y3; have c0 := block_cell hq2 0; have c1 := block_cell hq2 1; have f1 := block_free hq2 1; have z0 := block_cell hz2 0; have z1 := block_cell hz2 1; have z2 := block_cell hz2 2; have z3 := block_cell hz2 3; have y0 := block_free hz2 0; have y1 := block_free hz2 1; have y2 := block_free hz2 2; have y3 := block_free hz2 3; simp only [List.getElem?_toArray, List.getElem?_cons_zero, List.getElem?_cons_succ] at c0 c1 z0 z1 z2 z3; have HL := Lib.hid hl; clear hq2 hm2 hl hz2))
  refine bodyPost_ret (v := .tuple #[.agg #[.int .i64 2, .int .i64 ((c.toNat : Int) - 48), .string ⟨#[]⟩, .int .i64 a], .bool true]) (by simp [results, Tryz.results74, go_sem, z0, z1, z2, z3]) rfl ⟨rfl, ?_⟩
  repeat (first | exact HL.out | refine LexTo.set ?_ _ _ _ (Nat.le_refl _) hnp)

set_option maxRecDepth 100000 in
set_option maxHeartbeats 4000000 in
theorem next_assign (q : Nat) (s : ByteArray) (a : Nat) (w : World) (hq : w.heap[q]? = some (.cells #[.string s, .int .i64 a] 141 (0, 0))) (ha : a < s.size) (hs : s.size ≤ 5000) (c : UInt8) (hc : s[a] = c) (hl : letterP c = false) (hg : digitP c = false) (hp : Lib.hasPrefix (s.data.toList.drop a) [58, 61] = true) :
    Calls Tryz.prog 74 #[.pointer (some ⟨q, 0, none⟩)] w fun e w' => e = .returned (.tuple #[.agg #[.int .i64 3, .int .i64 0, .string (bs [58, 61]), .int .i64 a], .bool true]) ∧ LexTo q s (a + 2) w w' := by
  have hql0 := block_lt hq
  have hq0 : (w.alloc (.cells #[.int .i64 0, .int .i64 0, .string ⟨#[]⟩, .int .i64 0] 112)).heap[q]? = some (.cells #[.string s, .int .i64 a] 141 (0, 0)) := (Below.heap_alloc w _ q hql0).trans hq
  have hz0 : (w.alloc (.cells #[.int .i64 0, .int .i64 0, .string ⟨#[]⟩, .int .i64 0] 112)).heap[w.heap.size]? = some (.cells #[.int .i64 0, .int .i64 0, .string ⟨#[]⟩, .int .i64 0] 112 (0, 0)) := heap_alloc_new w _
  have hm0 : Qm q w (w.alloc (.cells #[.int .i64 0, .int .i64 0, .string ⟨#[]⟩, .int .i64 0] 112)) := Qm.of_below (grow1 w _)
  have hnq : w.heap.size ≠ q := by omega
  have hnp : q ≠ w.heap.size := by omega
  have n1 : (w.heap.size = q) = False := eq_false hnq
  have n2 : (q = w.heap.size) = False := eq_false hnp
  have HL0 := Lib.hid (⟨hq0, hm0⟩ : LexTo q s a w (w.alloc (.cells #[.int .i64 0, .int .i64 0, .string ⟨#[]⟩, .int .i64 0] 112)))
  have c0 := block_cell hq0 0
  have c1 := block_cell hq0 1
  have f1 := block_free hq0 1
  have z0 := block_cell hz0 0
  have z1 := block_cell hz0 1
  have z2 := block_cell hz0 2
  have z3 := block_cell hz0 3
  have y0 := block_free hz0 0
  have y1 := block_free hz0 1
  have y2 := block_free hz0 2
  have y3 := block_free hz0 3
  simp only [List.getElem?_toArray, List.getElem?_cons_zero, List.getElem?_cons_succ] at c0 c1 z0 z1 z2 z3
  have HZ := Lib.hid hz0
  have HM := Lib.hid hm0
  have LC := Lib.hid (fun w' => letter_c c w')
  have DC := Lib.hid (fun w' => digitB_c c w')
  have i1 : (a : Int) < (s.size : Int) := by omega
  have i2 : (a : Int) ≤ (s.size : Int) := by omega
  have P := Lib.hid (fun w' => hasPrefix_c (s.extract a s.size) ⟨#[58, 61]⟩ w')
  have e9 : (s.extract a s.size).data.toList = s.data.toList.drop a := by rw [sub_bytes, ba_size, List.take_length]
  have e8 : (⟨#[58, 61]⟩ : ByteArray).data.toList = [58, 61] := rfl
  rw [e9, e8, hp] at P
  rw [hl] at LC
  rw [hg] at DC
  have HB2 : Hid (LexTo q s (a + 2) w (w.setCell ⟨q, 1, none⟩ (.int .i64 ((a + 2 : Nat) : Int)))) := Lib.hid ⟨blk_set2 hq, (Qm.refl q w).set 1 _⟩
  have hc2 : ((a + 2 : Nat) : Int) = (a : Int) + 2 := by omega
  rw [hc2] at HB2
  clear hl hg hp e9 e8 hq0 hc2
  clear hq hz0 hm0
  go_enter Tryz.func74, Tryz.ntmps74
  go_wp2_with (first | (go_at_call 94; refine (LC.out _).mono ?_; rintro e w' ⟨rfl, rfl⟩) | (go_at_call 95; refine (DC.out _).mono ?_; rintro e w' ⟨rfl, rfl⟩) | (go_at_call 97; refine (P.out _).mono ?_; rintro e w' ⟨rfl, rfl⟩))
  refine bodyPost_ret (v := .tuple #[.agg #[.int .i64 3, .int .i64 0, .string (bs [58, 61]), .int .i64 a], .bool true]) (by simp [results, Tryz.results74, go_sem]; rfl) rfl ⟨rfl, ?_⟩
  repeat (first | exact HB2.out | refine LexTo.set ?_ _ _ _ (Nat.le_refl _) hnp | refine LexTo.kept ?_ (grow1 _ _))

set_option maxRecDepth 100000 in
set_option maxHeartbeats 4000000 in
theorem next_sign (q : Nat) (s : ByteArray) (a : Nat) (w : World) (hq : w.heap[q]? = some (.cells #[.string s, .int .i64 a] 141 (0, 0))) (ha : a < s.size) (hs : s.size ≤ 5000) (c : UInt8) (hc : s[a] = c) (hl : letterP c = false) (hg : digitP c = false) (hp : Lib.hasPrefix (s.data.toList.drop a) [58, 61] = false) (hi : decide (0 ≤ Lib.indexByte [40, 41, 59, 124, 61] c) = true) :
    Calls Tryz.prog 74 #[.pointer (some ⟨q, 0, none⟩)] w fun e w' => e = .returned (.tuple #[.agg #[.int .i64 3, .int .i64 0, .string (bs [c]), .int .i64 a], .bool true]) ∧ LexTo q s (a + 1) w w' := by
  have hql0 := block_lt hq
  have hq0 : (w.alloc (.cells #[.int .i64 0, .int .i64 0, .string ⟨#[]⟩, .int .i64 0] 112)).heap[q]? = some (.cells #[.string s, .int .i64 a] 141 (0, 0)) := (Below.heap_alloc w _ q hql0).trans hq
  have hz0 : (w.alloc (.cells #[.int .i64 0, .int .i64 0, .string ⟨#[]⟩, .int .i64 0] 112)).heap[w.heap.size]? = some (.cells #[.int .i64 0, .int .i64 0, .string ⟨#[]⟩, .int .i64 0] 112 (0, 0)) := heap_alloc_new w _
  have hm0 : Qm q w (w.alloc (.cells #[.int .i64 0, .int .i64 0, .string ⟨#[]⟩, .int .i64 0] 112)) := Qm.of_below (grow1 w _)
  have hnq : w.heap.size ≠ q := by omega
  have hnp : q ≠ w.heap.size := by omega
  have n1 : (w.heap.size = q) = False := eq_false hnq
  have n2 : (q = w.heap.size) = False := eq_false hnp
  have HL0 := Lib.hid (⟨hq0, hm0⟩ : LexTo q s a w (w.alloc (.cells #[.int .i64 0, .int .i64 0, .string ⟨#[]⟩, .int .i64 0] 112)))
  have c0 := block_cell hq0 0
  have c1 := block_cell hq0 1
  have f1 := block_free hq0 1
  have z0 := block_cell hz0 0
  have z1 := block_cell hz0 1
  have z2 := block_cell hz0 2
  have z3 := block_cell hz0 3
  have y0 := block_free hz0 0
  have y1 := block_free hz0 1
  have y2 := block_free hz0 2
  have y3 := block_free hz0 3
  simp only [List.getElem?_toArray, List.getElem?_cons_zero, List.getElem?_cons_succ] at c0 c1 z0 z1 z2 z3
  have HZ := Lib.hid hz0
  have HM := Lib.hid hm0
  have LC := Lib.hid (fun w' => letter_c c w')
  have DC := Lib.hid (fun w' => digitB_c c w')
  have i1 : (a : Int) < (s.size : Int) := by omega
  have i2 : (a : Int) ≤ (s.size : Int) := by omega
  have P := Lib.hid (fun w' => hasPrefix_c (s.extract a s.size) ⟨#[58, 61]⟩ w')
  have e9 : (s.extract a s.size).data.toList = s.data.toList.drop a := by rw [sub_bytes, ba_size, List.take_length]
  have e8 : (⟨#[58, 61]⟩ : ByteArray).data.toList = [58, 61] := rfl
  rw [e9, e8, hp] at P
  have I := Lib.hid (fun w' => indexByte_c ⟨#[40, 41, 59, 124, 61]⟩ (c.toNat : Int) w')
  have e7 : (⟨#[40, 41, 59, 124, 61]⟩ : ByteArray).data.toList = [40, 41, 59, 124, 61] := rfl
  have e6 : ((c.toNat : Int)).toNat.toUInt8 = c := by simp
  rw [e7, e6] at I
  generalize Lib.indexByte [40, 41, 59, 124, 61] c = ib at *
  rw [hl] at LC
  rw [hg] at DC
  have HB2 : Hid (LexTo q s (a + 1) w (w.setCell ⟨q, 1, none⟩ (.int .i64 ((a + 1 : Nat) : Int)))) := Lib.hid ⟨blk_set2 hq, (Qm.refl q w).set 1 _⟩
  have hc2 : ((a + 1 : Nat) : Int) = (a : Int) + 1 := by omega
  rw [hc2] at HB2
  have KC := byte_str ((w.setCell ⟨q, 1, none⟩ (.int .i64 ((a : Int) + 1))).alloc (.cells #[.int .i64 0, .int .i64 0, .string ⟨#[]⟩, .int .i64 0] 112)) c (w.heap.size + 1) (by simp)
  clear hl hg hp e9 e8 e7 e6 hq0 hc2
  clear hq hz0 hm0
  go_enter Tryz.func74, Tryz.ntmps74
  go_wp2_with (first | (go_at_call 94; refine (LC.out _).mono ?_; rintro e w' ⟨rfl, rfl⟩) | (go_at_call 95; refine (DC.out _).mono ?_; rintro e w' ⟨rfl, rfl⟩) | (go_at_call 97; refine (P.out _).mono ?_; rintro e w' ⟨rfl, rfl⟩) | (go_at_call 98; refine (I.out _).mono ?_; rintro e w' ⟨rfl, rfl⟩))
  refine bodyPost_ret (v := .tuple #[.agg #[.int .i64 3, .int .i64 0, .string (bs [c]), .int .i64 a], .bool true]) (by simp [results, Tryz.results74, go_sem]) rfl ⟨rfl, ?_⟩
  repeat (first | exact HB2.out | refine LexTo.set ?_ _ _ _ (Nat.le_refl _) hnp | refine LexTo.kept ?_ (grow1 _ _))
end Go.Proofs.YtekfkieimdgfkaaGreat
