/- What is proved here: two functions of the library on strings; what the lexer's skip and number do. Condition: the lexer lies in memory of the call's own. -/
import Derived.Test.YtekfkieimdgfkaaGreatT35
import Derived.Lib.Strings
import Derived.Lib.Slices
import Derived.Lib.Walk
import Derived.Lib.Bytealg
namespace Go.Proofs.YtekfkieimdgfkaaGreat
open Go Go.RowKit
attribute [local go_sem] KW.cell KW.frozen
set_option maxHeartbeats 1000000 in
set_option maxRecDepth 100000 in
theorem liteIndexByte_c (s : ByteArray) (c : Int) (w : World) :
    Calls Tryz.prog 130 #[.string s, .int .u8 c] w fun e w' => e = .returned (.int .i64 (Lib.indexByte s.data.toList c.toNat.toUInt8)) ∧ w' = w := by
  go_enter Tryz.func130, Tryz.ntmps130
  go_wp2
  rw [run_callFunc_extern Tryz.func155 (by kernel_rfl) (by kernel_rfl) (by kernel_rfl) (e := Extern.BytealgIndexByte.indexByte) (by kernel_rfl), Lib.run_indexByteString]
  simp only [Result.andThen]
  rw [Oper.upon_value]
  go_wp2
  go_ret
  exact ⟨rfl, rfl⟩
set_option maxHeartbeats 1000000 in
theorem indexByte_c (s : ByteArray) (c : Int) (w : World) :
    Calls Tryz.prog 98 #[.string s, .int .u8 c] w fun e w' => e = .returned (.int .i64 (Lib.indexByte s.data.toList c.toNat.toUInt8)) ∧ w' = w := by
  go_enter Tryz.func98, Tryz.ntmps98
  go_wp2_with (go_at_call 130; refine (liteIndexByte_c _ _ _).mono ?_; rintro e w' ⟨rfl, rfl⟩)
  go_ret
  exact ⟨rfl, rfl⟩
set_option maxHeartbeats 1000000 in
theorem hasPrefix_c (s p : ByteArray) (w : World) :
    Calls Tryz.prog 97 #[.string s, .string p] w fun e w' => e = .returned (.bool (Lib.hasPrefix s.data.toList p.data.toList)) ∧ w' = w := by
  rw [← Lib.hasPrefix_of_take, ← Lib.size_eq, ← Lib.size_eq]
  go_enter Tryz.func97, Tryz.ntmps97
  go_wp2
  · rename_i h
    go_ret
    refine ⟨?_, rfl⟩
    show Ending.returned (Value.bool ((s.extract 0 p.size).toList == p.toList)) = _
    rw [Lib.extract_toList, Lib.toList_data]
    simp [h]
  · rename_i h
    go_ret
    refine ⟨?_, rfl⟩
    show Ending.returned (Value.bool false) = _
    simp [h]
/-- Where the blanks from a on end. -/
def afterSp (L : List UInt8) (a : Nat) : Nat := a + ((L.drop a).takeWhile spaceP).length
theorem tw_le {α : Type} (p : α → Bool) (l : List α) : (l.takeWhile p).length ≤ l.length := by
  induction l with
  | nil => simp
  | cons x l ih =>
    rw [List.takeWhile_cons]
    split
    · simp only [List.length_cons]; omega
    · simp
theorem afterSp_le (L : List UInt8) (a : Nat) (h : a ≤ L.length) : afterSp L a ≤ L.length := by
  unfold afterSp
  have := tw_le spaceP (L.drop a)
  rw [List.length_drop] at this
  omega
set_option maxRecDepth 100000 in
set_option maxHeartbeats 4000000 in
theorem skip_c (q : Nat) (s : ByteArray) (a : Nat) (w : World) (hq : w.heap[q]? = some (.cells #[.string s, .int .i64 a] 141 (0, 0))) (ha : a ≤ s.size) (hs : s.size ≤ 5000)
    (hh : ∀ h : afterSp s.data.toList a < s.data.toList.length, s.data.toList[afterSp s.data.toList a] ≠ 35) :
    Calls Tryz.prog 73 #[.pointer (some ⟨q, 0, none⟩)] w fun e w' => e = .returned (.tuple #[]) ∧ w'.heap[q]? = some (.cells #[.string s, .int .i64 ((afterSp s.data.toList a : Nat) : Int)] 141 (0, 0)) ∧ Qm q w w' := by
  have X := Lib.hid (while92_c q s a w hq ha hs)
  have hle := afterSp_le s.data.toList a (by rw [← ba_size]; exact ha)
  rw [← ba_size] at hle
  have hn2 : a + ((s.data.toList.drop a).takeWhile spaceP).length = afterSp s.data.toList a := rfl
  rw [hn2] at X
  clear hn2 hq
  generalize afterSp s.data.toList a = n at *
  have HH := Lib.hid hh
  clear hh
  go_enter Tryz.func73, Tryz.ntmps73
  go_wp2_with fail
  go_loopw [3] (fun _ wr => w = wr) (fun _ _ => 0)
  case atStart => exact rfl
  case round =>
    subst hrel
    go_wp2_with fail
    refine X.out.mono ?_
    rintro e w2 ⟨t, rfl, _, hq2, hm⟩
    have c0 := block_cell hq2 0
    have c1 := block_cell hq2 1
    have hql := block_lt hq2
    simp only [List.getElem?_toArray, List.getElem?_cons_zero, List.getElem?_cons_succ] at c0 c1
    have HQ2 := Lib.hid hq2
    clear hq2
    by_cases hlt : n < s.size
    · have hd : ((n : Int) == (s.size : Int)) = false := by rw [beq_eq_false_iff_ne]; omega
      have hd2 : (n == s.size) = false := by rw [beq_eq_false_iff_ne]; omega
      have hk2 : (n : Int) < (s.size : Int) := by omega
      have hkl : n < s.data.toList.length := by rw [← ba_size]; exact hlt
      have h35 : s[n] ≠ 35 := HH.out hkl
      have e35 := u8_eq s[n] 35 (by decide)
      have f35 : (s[n] == UInt8.ofNat 35) = false := by rw [beq_eq_false_iff_ne]; exact h35
      rw [f35] at e35
      have g35 : ((s[n].toNat : Int) != 35) = true := by
        have : ((s[n].toNat : Int) == 35) = false := e35
        simp [bne, this]
      clear e35 f35 h35
      go_wp2_with fail
      refine wp_region_kq (by kernel_rfl) (by kernel_rfl) ?_
      repeat (first | go_big_quiet_step (fail) | quiet_step (fail))
      refine wpQuiet_nil ?_
      intro kz
      have hb := (kz.kp.block q hql).trans HQ2.out
      have hmz := hm.trans (Qm.of_below kz.kp)
      go_wp2_with fail
      go_returns
      exact ⟨rfl, hb, hmz⟩
    · obtain rfl : n = s.size := by omega
      have hd : ((s.size : Int) == (s.size : Int)) = true := by simp
      go_wp2_with fail
      refine wp_region_kq (by kernel_rfl) (by kernel_rfl) ?_
      repeat (first | go_big_quiet_step (fail) | quiet_step (fail))
      refine wpQuiet_nil ?_
      intro kz
      have hb := (kz.kp.block q hql).trans HQ2.out
      have hmz := hm.trans (Qm.of_below kz.kp)
      go_wp2_with fail
      go_returns
      exact ⟨rfl, hb, hmz⟩
end Go.Proofs.YtekfkieimdgfkaaGreat
/- What is proved here: which token the lexer reads next. Condition: the lexer lies in memory of the call's own; a token begins here. -/
namespace Go.Proofs.YtekfkieimdgfkaaGreat
open Go Go.RowKit
attribute [local go_sem] KW.cell KW.frozen
theorem Qm.fresh {q : Nat} {w w' : World} (h : Qm q w w') (g i : Nat) (u : Value) (hg : w.heap.size ≤ g) : Qm q w (w'.setCell ⟨g, i, none⟩ u) :=
  ⟨h.os, h.tape, h.output, by simpa using h.size, fun k hk hn => (Below.heap_setCell w' ⟨g, i, none⟩ u k (by simp; omega)).trans (h.block k hk hn)⟩
theorem bs_of {t : ByteArray} {l : List UInt8} (h : t.data.toList = l) : t = bs l := by
  apply ByteArray.ext
  apply Array.ext'
  simpa [bs] using h
/-- The lexer lies at block q behind what was done, and nothing else that was there was turned. -/
def LexTo (q : Nat) (s : ByteArray) (a' : Nat) (w w' : World) : Prop := w'.heap[q]? = some (.cells #[.string s, .int .i64 (a' : Int)] 141 (0, 0)) ∧ Qm q w w'
theorem LexTo.set {q : Nat} {s : ByteArray} {a' : Nat} {w w' : World} (h : LexTo q s a' w w') (g i : Nat) (u : Value) (hg : w.heap.size ≤ g) (hne : q ≠ g) : LexTo q s a' w (w'.setCell ⟨g, i, none⟩ u) :=
  ⟨(Below.heap_setCell w' ⟨g, i, none⟩ u q hne).trans h.1, h.2.fresh g i u hg⟩
theorem LexTo.kept {q : Nat} {s : ByteArray} {a' : Nat} {w w' w2 : World} (h : LexTo q s a' w w') (hb : Below w'.heap.size w' w2) : LexTo q s a' w w2 :=
  ⟨(hb.block q (block_lt h.1)).trans h.1, h.2.trans (Qm.of_below hb)⟩
set_option maxRecDepth 100000 in
set_option maxHeartbeats 4000000 in
theorem number_c (q : Nat) (s : ByteArray) (a : Nat) (w : World) (hq : w.heap[q]? = some (.cells #[.string s, .int .i64 a] 141 (0, 0))) (ha : a < s.size) (hs : s.size ≤ 5000)
    (c : UInt8) (hd : (s.data.toList.drop a).takeWhile digitP = [c]) (h1 : 48 ≤ c.toNat) (h2 : c.toNat ≤ 57) :
    Calls Tryz.prog 96 #[.pointer (some ⟨q, 0, none⟩)] w fun e w' => e = .returned (.tuple #[.agg #[.int .i64 2, .int .i64 ((c.toNat : Int) - 48), .string ⟨#[]⟩, .int .i64 a], .bool true]) ∧ LexTo q s (a + 1) w w' := by
  have hql0 := block_lt hq
  have hq0 : (w.alloc (.cells #[.int .i64 0, .int .i64 0, .string ⟨#[]⟩, .int .i64 0] 112)).heap[q]? = some (.cells #[.string s, .int .i64 a] 141 (0, 0)) := (Below.heap_alloc w _ q hql0).trans hq
  have hz0 : (w.alloc (.cells #[.int .i64 0, .int .i64 0, .string ⟨#[]⟩, .int .i64 0] 112)).heap[w.heap.size]? = some (.cells #[.int .i64 0, .int .i64 0, .string ⟨#[]⟩, .int .i64 0] 112 (0, 0)) := heap_alloc_new w _
  have hm0 : Qm q w (w.alloc (.cells #[.int .i64 0, .int .i64 0, .string ⟨#[]⟩, .int .i64 0] 112)) := Qm.of_below (grow1 w _)
  have hnq : w.heap.size ≠ q := by omega
  have hnp : q ≠ w.heap.size := by omega
  have n1 : (w.heap.size = q) = False := eq_false hnq
  have n2 : (q = w.heap.size) = False := eq_false hnp
  have X := Lib.hid (while95_c q s a _ hq0 (by omega) hs)
  rw [hd] at X
  have c0 := block_cell hq0 0
  have c1 := block_cell hq0 1
  have f1 := block_free hq0 1
  have z0 := block_cell hz0 0
  have z1 := block_cell hz0 1
  have z2 := block_cell hz0 2
  have z3 := block_cell hz0 3
  have y0 := block_free hz0 0
  have y1 := block_free hz0 1
  have y2 := block_free hz0 2
  have y3 := block_free hz0 3
  simp only [List.getElem?_toArray, List.getElem?_cons_zero, List.getElem?_cons_succ] at c0 c1 z0 z1 z2 z3
  have HZ := Lib.hid hz0
  have HM := Lib.hid hm0
  clear hq hd hq0 hz0 hm0
  go_enter Tryz.func96, Tryz.ntmps96
  go_wp2_with fail
  refine X.out.mono ?_
  rintro e w2 ⟨t, rfl, ht, hq2, hm2⟩
  obtain rfl := bs_of ht
  have hl : LexTo q s (a + 1) w w2 := ⟨hq2, HM.out.trans hm2⟩
  have hz2 := (hm2.block w.heap.size (block_lt HZ.out) hnq).trans HZ.out
  clear c0 c1 f1 z0 z1 z2 z3 y0 y1 y2 y3 ht X
  have c0 := block_cell hq2 0
  have c1 := block_cell hq2 1
  have f1 := block_free hq2 1
  have z0 := block_cell hz2 0
  have z1 := block_cell hz2 1
  have z2 := block_cell hz2 2
  have z3 := block_cell hz2 3
  have y0 := block_free hz2 0
  have y1 := block_free hz2 1
  have y2 := block_free hz2 2
  have y3 := block_free hz2 3
  simp only [List.getElem?_toArray, List.getElem?_cons_zero, List.getElem?_cons_succ] at c0 c1 z0 z1 z2 z3
  have HL := Lib.hid hl
  have k1 : (bs [c]).size = 1 := rfl
  have k2 : (bs [c])[0]'(by show 0 < 1; omega) = c := rfl
  have k3 : (0 : Int) < ((bs [c]).size : Int) := by rw [k1]; omega
  clear hq2 hm2 hl hz2 HZ HM
  go_wp2_with fail
  go_loop [6, 31] (fun m i => (i = .int .i64 0 ∧ m = .int .i64 0) ∨ (i = .int .i64 1 ∧ m = .int .i64 ((c.toNat : Int) - 48))) (fun _ i => (1 - intOf i).toNat)
  case atStart => exact .inl ⟨rfl, rfl⟩
  case round =>
    have b1 : (48 : Int) ≤ (c.toNat : Int) := by omega
    have b2 : (c.toNat : Int) ≤ 57 := by omega
    rcases hrel with ⟨rfl, rfl⟩ | ⟨rfl, rfl⟩
    · go_wp2_with fail
      go_round
      case rel => exact .inr ⟨by go_num, by first | rfl | go_num⟩
      case measure => simp [intOf]
    · go_wp2_with fail
      refine bodyPost_ret (v := .tuple #[.agg #[.int .i64 2, .int .i64 ((c.toNat : Int) - 48), .string ⟨#[]⟩, .int .i64 a], .bool true]) (by simp [results, Tryz.results96, go_sem, z0, z1, z2, z3]) rfl ⟨rfl, ?_⟩
      repeat (first | exact HL.out | refine LexTo.set ?_ _ _ _ (Nat.le_refl _) hnp)
end Go.Proofs.YtekfkieimdgfkaaGreat
