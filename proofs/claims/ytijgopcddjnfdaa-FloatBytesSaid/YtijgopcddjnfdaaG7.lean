/- What is proved here: what Parse answers, and its reference; the walk of FloatBytes. Condition: none. -/
import Derived.Test.YtijgopcddjnfdaaH1
import Derived.Laws.BitsAllLaws
import Derived.Laws.BitsLemmas
namespace Go.Proofs.Ytijgopcddjnfdaa
open Go Go.RowKit
attribute [local go_sem ↓] run_frombits run_bits lfrombits_one lfrombits_inf lfrombits_ninf

namespace Fl
def val (l : List UInt8) : Nat := l.foldl (fun n c => 256 * n + c.toNat) 0
/-- The number of bytes, the error. -/
def parse (l : List UInt8) : Nat × Int := if l.length = 8 then (if clean (val l) = val l then (val l, 0) else (0, 5)) else (0, 3)
theorem val_snoc (l : List UInt8) (c : UInt8) : val (l ++ [c]) = 256 * val l + c.toNat := by unfold val; rw [List.foldl_append]; rfl
theorem val_lt (l : List UInt8) : val l < 256 ^ l.length := by
  rcases List.eq_nil_or_concat l with rfl | ⟨m, x, rfl⟩
  · decide
  · rw [List.concat_eq_append, val_snoc, List.length_append, List.length_singleton, Nat.pow_succ]
    have := val_lt m
    have := UInt8.toNat_lt x
    omega
termination_by l.length
decreasing_by subst_vars; simp
theorem val_code {n : Nat} (h : W64 n) : val (code n) = n := by
  have h' : n < 18446744073709551616 := h
  have e : code n = [UInt8.ofNat (byt n 0), UInt8.ofNat (byt n 1), UInt8.ofNat (byt n 2), UInt8.ofNat (byt n 3), UInt8.ofNat (byt n 4), UInt8.ofNat (byt n 5), UInt8.ofNat (byt n 6), UInt8.ofNat (byt n 7)] := rfl
  have t : ∀ k, (UInt8.ofNat (byt n k)).toNat = byt n k := fun k => by have := byt_lt n k; simp; omega
  rw [e]
  simp only [val, List.foldl_cons, List.foldl_nil, t]
  simp only [byt]
  have p0 : (2 : Nat) ^ (56 - 8 * 0) = 72057594037927936 := by decide
  have p1 : (2 : Nat) ^ (56 - 8 * 1) = 281474976710656 := by decide
  have p2 : (2 : Nat) ^ (56 - 8 * 2) = 1099511627776 := by decide
  have p3 : (2 : Nat) ^ (56 - 8 * 3) = 4294967296 := by decide
  have p4 : (2 : Nat) ^ (56 - 8 * 4) = 16777216 := by decide
  have p5 : (2 : Nat) ^ (56 - 8 * 5) = 65536 := by decide
  have p6 : (2 : Nat) ^ (56 - 8 * 6) = 256 := by decide
  have p7 : (2 : Nat) ^ (56 - 8 * 7) = 1 := by decide
  rw [p0, p1, p2, p3, p4, p5, p6, p7]
  omega
theorem parse_code {n : Nat} (h : W64 n) : parse (code (clean n)) = (clean n, 0) := by
  have hl : (code (clean n)).length = 8 := by simp [code]
  unfold parse
  rw [if_pos hl, val_code (clean_w h), clean_clean, if_pos rfl]
theorem parse_clean (l : List UInt8) : clean (parse l).1 = (parse l).1 := by
  unfold parse
  split
  · split
    · assumption
    · rfl
  · rfl
theorem parse_w (l : List UInt8) : W64 (parse l).1 := by
  unfold parse
  split
  · rename_i hl
    split
    · have := val_lt l
      rw [hl] at this
      have e : (256 : Nat) ^ 8 = 18446744073709551616 := by decide
      unfold W64
      show val l < _
      omega
    · exact w_zero
  · exact w_zero
end Fl
theorem or_u64 {n c : Nat} (hn : n < 72057594037927936) (hc : c < 256) : bits .or .u64 ((n : Int) * 256) (IntKind.u64.wrap (c : Int)) = ((256 * n + c : Nat) : Int) := by
  rw [u64_in (by omega) (by omega)]
  show IntKind.u64.wrap ((BitVec.ofInt 64 ((n : Int) * 256) ||| BitVec.ofInt 64 (c : Int)).toNat : Int) = _
  have o : ∀ a : Nat, a < 18446744073709551616 → (BitVec.ofInt 64 (a : Int)).toNat = a := by
    intro a ha
    rw [BitVec.ofInt_natCast, BitVec.toNat_ofNat]
    exact Nat.mod_eq_of_lt (by omega)
  have e1 : ((n : Int) * 256) = ((n * 256 : Nat) : Int) := by omega
  rw [BitVec.toNat_or, e1, o _ (by omega), o _ (by omega)]
  have e2 : n * 256 ||| c = 256 * n + c := by
    have h := Nat.shiftLeft_add_eq_or_of_lt (b := c) (i := 8) hc n
    rw [Nat.shiftLeft_eq] at h
    have h3 : n * 2 ^ 8 = n * 256 := rfl
    rw [h3] at h
    rw [← h, Nat.mul_comm]
  rw [e2]
  exact u64_in (by omega) (by omega)
theorem take_byte (s : ByteArray) (k : Nat) (h : k < s.size) : s.data.toList.take (k + 1) = s.data.toList.take k ++ [s[k]] := by
  rw [List.take_succ_eq_append_getElem (by simpa using h)]; rfl
set_option maxRecDepth 100000 in
theorem parse_no (s : ByteArray) (hs : s.size ≠ 8) (w : World) : Calls Try.prog 30 #[.string s] w fun e w' => e = .returned (.tuple #[.float .f64 0, .int .i64 3]) ∧ w = w' := by
  have q0 : ((s.size : Int) != 8) = true := by simp; omega
  clear hs
  go_enter Try.func30, Try.ntmps30
  go_wp2
  go_ret2
  exact ⟨rfl, rfl⟩
set_option maxRecDepth 100000 in
theorem rparse_no (s : ByteArray) (hs : s.size ≠ 8) (w : World) : Calls Try.prog 31 #[.string s] w fun e w' => e = .returned (.tuple #[.int .u64 0, .int .i64 3]) ∧ w = w' := by
  have q0 : ((s.size : Int) != 8) = true := by simp; omega
  clear hs
  go_enter Try.func31, Try.ntmps31
  go_wp2
  go_ret2
  exact ⟨rfl, rfl⟩
set_option maxRecDepth 100000 in
set_option maxHeartbeats 1000000 in
theorem parse_yes (s : ByteArray) (hs : s.size = 8) (w : World) : Calls Try.prog 30 #[.string s] w fun e w' => e = .returned (.tuple #[.float .f64 (if Fl.clean (Fl.val s.data.toList) = Fl.val s.data.toList then Fl.val s.data.toList else 0), .int .i64 (if Fl.clean (Fl.val s.data.toList) = Fl.val s.data.toList then 0 else 5)]) ∧ w = w' := by
  have hs1 : (s.size : Int) ≤ 8 := by omega
  have hs2 : 8 ≤ (s.size : Int) := by omega
  have q0 : ((s.size : Int) != 8) = false := by simp; omega
  have HL := Lib.hid (show s.data.toList.length = 8 by simpa using hs)
  clear hs
  generalize hV : Fl.val s.data.toList = V
  have HV0 := Lib.hid hV
  clear hV
  go_enter Try.func30, Try.ntmps30
  go_wp2_with fail
  go_loop [4, 12] (fun v i => ∃ (k n : Nat), k ≤ 8 ∧ i = .int .i64 k ∧ v = .int .u64 (n : Int) ∧ n = Fl.val (s.data.toList.take k)) (fun _ i => 8 - (intOf i).toNat)
  case atStart => exact ⟨0, 0, by omega, rfl, rfl, rfl⟩
  case round =>
    obtain ⟨k, n, hk, rfl, rfl, hv⟩ := hrel
    have hn := Fl.val_lt (s.data.toList.take k)
    rw [List.length_take, HL.out, ← hv] at hn
    by_cases hlt : k < s.size
    · have hd : decide (k < s.size) = true := by simp; omega
      have hn2 : n < 72057594037927936 := by
        have h1 : (256 : Nat) ^ min k 8 ≤ 256 ^ 7 := Nat.pow_le_pow_right (by omega) (by omega)
        have h2 : (256 : Nat) ^ 7 = 72057594037927936 := by decide
        omega
      have hor := or_u64 hn2 (UInt8.toNat_lt s[k])
      have HV := Lib.hid (show 256 * n + s[k].toNat = Fl.val (s.data.toList.take (k + 1)) by rw [take_byte s k hlt, Fl.val_snoc, hv])
      clear hv hn
      go_wp2_with fail
      go_round
      case rel => exact ⟨k + 1, 256 * n + s[k].toNat, by omega, by go_num, by simp, HV.out⟩
      case measure => simp [intOf]; omega
    · obtain rfl : k = 8 := by omega
      have hd : decide (8 < s.size) = false := by simp; omega
      have hn2 : Fl.W64 n := by
        have h2 : (256 : Nat) ^ min 8 8 = 18446744073709551616 := by decide
        unfold Fl.W64; omega
      rw [List.take_of_length_le (by rw [HL.out]; exact Nat.le_refl _)] at hv
      obtain rfl : n = V := hv.trans HV0.out
      have B := Lib.hid (bits_w n hn2)
      clear hv hn hn2
      by_cases hcl : Fl.clean n = n
      · have q1 : ((Fl.clean n : Int) != (n : Int)) = false := by rw [hcl]; simp
        have HC := Lib.hid hcl
        clear hcl
        go_wp2_with (go_at_call 18; refine (B.out _).mono ?_; rintro e w' ⟨rfl, rfl⟩)
        go_ret2
        exact ⟨by first | rfl | (rw [if_pos HC.out, if_pos HC.out]; rfl) | (have h := HC.out; simp [h]), rfl⟩
      · have q1 : ((Fl.clean n : Int) != (n : Int)) = true := by simp; omega
        have HC := Lib.hid hcl
        clear hcl
        go_wp2_with (go_at_call 18; refine (B.out _).mono ?_; rintro e w' ⟨rfl, rfl⟩)
        go_ret2
        exact ⟨by first | rfl | (rw [if_neg HC.out, if_neg HC.out]; rfl) | (have h := HC.out; simp [h]), rfl⟩
set_option maxRecDepth 100000 in
set_option maxHeartbeats 1000000 in
theorem rparse_yes (s : ByteArray) (hs : s.size = 8) (w : World) : Calls Try.prog 31 #[.string s] w fun e w' => e = .returned (.tuple #[.int .u64 ((if Fl.clean (Fl.val s.data.toList) = Fl.val s.data.toList then Fl.val s.data.toList else 0 : Nat) : Int), .int .i64 (if Fl.clean (Fl.val s.data.toList) = Fl.val s.data.toList then 0 else 5)]) ∧ w = w' := by
  have hs1 : (s.size : Int) ≤ 8 := by omega
  have hs2 : 8 ≤ (s.size : Int) := by omega
  have q0 : ((s.size : Int) != 8) = false := by simp; omega
  have HL := Lib.hid (show s.data.toList.length = 8 by simpa using hs)
  clear hs
  generalize hV : Fl.val s.data.toList = V
  have HV0 := Lib.hid hV
  clear hV
  go_enter Try.func31, Try.ntmps31
  go_wp2_with fail
  go_loop [4, 5] (fun v i => ∃ (k n : Nat), k ≤ 8 ∧ i = .int .i64 k ∧ v = .int .u64 (n : Int) ∧ n = Fl.val (s.data.toList.take k)) (fun _ i => 8 - (intOf i).toNat)
  case atStart => exact ⟨0, 0, by omega, rfl, rfl, rfl⟩
  case round =>
    obtain ⟨k, n, hk, rfl, rfl, hv⟩ := hrel
    have hn := Fl.val_lt (s.data.toList.take k)
    rw [List.length_take, HL.out, ← hv] at hn
    by_cases hlt : k < 8
    · have hd : decide ((k : Int) < 8) = true := by simp; omega
      have hks : k < s.size := by omega
      have hn2 : n < 72057594037927936 := by
        have h1 : (256 : Nat) ^ min k 8 ≤ 256 ^ 7 := Nat.pow_le_pow_right (by omega) (by omega)
        have h2 : (256 : Nat) ^ 7 = 72057594037927936 := by decide
        omega
      have hb := UInt8.toNat_lt s[k]
      have HV := Lib.hid (show 256 * n + s[k].toNat = Fl.val (s.data.toList.take (k + 1)) by rw [take_byte s k hks, Fl.val_snoc, hv])
      have x1 : IntKind.u64.wrap (256 * (n : Int)) = 256 * (n : Int) := u64_in (by omega) (by omega)
      have x2 : IntKind.u64.wrap (256 * (n : Int) + (s[k].toNat : Int)) = 256 * (n : Int) + (s[k].toNat : Int) := u64_in (by omega) (by omega)
      have x3 : IntKind.u64.wrap (s[k].toNat : Int) = (s[k].toNat : Int) := u64_in (by omega) (by omega)
      clear hv hn
      go_wp2_with fail
      go_round
      case rel => exact ⟨k + 1, 256 * n + s[k].toNat, by omega, by go_num, by simp, HV.out⟩
      case measure => simp [intOf]; omega
    · obtain rfl : k = 8 := by omega
      have hd : decide ((8 : Int) < 8) = false := by simp
      rw [List.take_of_length_le (by rw [HL.out]; exact Nat.le_refl _)] at hv
      obtain rfl : n = V := hv.trans HV0.out
      have B := Lib.hid (rclean_w n)
      clear hv hn
      by_cases hcl : Fl.clean n = n
      · have q1 : ((Fl.clean n : Int) != (n : Int)) = false := by rw [hcl]; simp
        have HC := Lib.hid hcl
        clear hcl
        go_wp2_with (go_at_call 14; refine (B.out _).mono ?_; rintro e w' ⟨rfl, rfl⟩)
        go_ret2
        exact ⟨by first | rfl | (rw [if_pos HC.out, if_pos HC.out]; rfl) | (have h := HC.out; simp [h]), rfl⟩
      · have q1 : ((Fl.clean n : Int) != (n : Int)) = true := by simp; omega
        have HC := Lib.hid hcl
        clear hcl
        go_wp2_with (go_at_call 14; refine (B.out _).mono ?_; rintro e w' ⟨rfl, rfl⟩)
        go_ret2
        exact ⟨by first | rfl | (rw [if_neg HC.out, if_neg HC.out]; rfl) | (have h := HC.out; simp [h]), rfl⟩
theorem parse_c (s : ByteArray) (w : World) : Calls Try.prog 30 #[.string s] w fun e w' => e = .returned (.tuple #[.float .f64 (Fl.parse s.data.toList).1, .int .i64 (Fl.parse s.data.toList).2]) ∧ w = w' := by
  by_cases hs : s.size = 8
  · have hl : s.data.toList.length = 8 := by simpa using hs
    have h := parse_yes s hs w
    unfold Fl.parse
    rw [if_pos hl]
    split
    · rename_i hc; rw [if_pos hc, if_pos hc] at h; exact h
    · rename_i hc; rw [if_neg hc, if_neg hc] at h; exact h
  · have hl : ¬ s.data.toList.length = 8 := by simpa using hs
    unfold Fl.parse
    rw [if_neg hl]
    exact parse_no s hs w
theorem rparse_c (s : ByteArray) (w : World) : Calls Try.prog 31 #[.string s] w fun e w' => e = .returned (.tuple #[.int .u64 (((Fl.parse s.data.toList).1 : Nat) : Int), .int .i64 (Fl.parse s.data.toList).2]) ∧ w = w' := by
  by_cases hs : s.size = 8
  · have hl : s.data.toList.length = 8 := by simpa using hs
    have h := rparse_yes s hs w
    unfold Fl.parse
    rw [if_pos hl]
    split
    · rename_i hc; rw [if_pos hc, if_pos hc] at h; exact h
    · rename_i hc; rw [if_neg hc, if_neg hc] at h; exact h
  · have hl : ¬ s.data.toList.length = 8 := by simpa using hs
    unfold Fl.parse
    rw [if_neg hl]
    exact rparse_no s hs w
set_option maxRecDepth 100000 in
set_option maxHeartbeats 2000000 in
theorem law7 (s : ByteArray) (n : Nat) (W : World) (hn : Fl.W64 n) : Calls Try.prog 7 #[.string s, .int .u64 (n : Int)] W fun e W' => e = .returned (.bool true) ∧ Below W.heap.size W W' := by
  by_cases hl : 20 < (s.size : Int)
  · have hd : decide (20 < (s.size : Int)) = true := by simpa using hl
    go_enter Try.func7, Try.ntmps7
    go_wp2_with (go_at_call 15; refine (fawake_b (Below.refl _ _)).mono ?_; rintro e w' ⟨rfl, hb1⟩)
    go_ret
    exact ⟨rfl, hb1⟩
  have hd : decide (20 < (s.size : Int)) = false := by simpa using hl
  have P := Lib.hid (parse_c s)
  have P' := Lib.hid (rparse_c s)
  have D := Lib.hid (code_c n hn)
  have Q := Lib.hid (parse_c ⟨(Fl.code (Fl.clean n)).toArray⟩)
  have e1 : (Fl.code (Fl.clean n)).toArray.toList = Fl.code (Fl.clean n) := by simp
  rw [e1, Fl.parse_code hn] at Q
  have B1 := Lib.hid (bits_w _ (Fl.parse_w s.data.toList))
  rw [Fl.parse_clean] at B1
  have B2 := Lib.hid (bits_w (Fl.clean n) (Fl.clean_w hn))
  rw [Fl.clean_clean] at B2
  have C := Lib.hid (rclean_w n)
  clear e1 hn
  generalize Fl.code (Fl.clean n) = cd at *
  generalize (Fl.parse s.data.toList).1 = x at *
  generalize (Fl.parse s.data.toList).2 = f at *
  generalize Fl.clean n = cn at *
  go_enter Try.func7, Try.ntmps7
  go_wp2_with (first | (go_at_call 12; refine (raw_c _ _).mono ?_; rintro e w' ⟨rfl, rfl⟩) | (go_at_call 30; ((with_reducible refine (P.out _).mono ?_)); rintro e w' ⟨rfl, rfl⟩) | (go_at_call 30; ((with_reducible refine (Q.out _).mono ?_)); rintro e w' ⟨rfl, rfl⟩) | (go_at_call 31; ((with_reducible refine (P'.out _).mono ?_)); rintro e w' ⟨rfl, rfl⟩) | (go_at_call 28; ((with_reducible refine (D.out _).mono ?_)); rintro e w3 ⟨rfl, hb3⟩) | (go_at_call 18; ((with_reducible refine (B1.out _).mono ?_)); rintro e w' ⟨rfl, rfl⟩) | (go_at_call 18; ((with_reducible refine (B2.out _).mono ?_)); rintro e w' ⟨rfl, rfl⟩) | (go_at_call 14; ((with_reducible refine (C.out _).mono ?_)); rintro e w' ⟨rfl, rfl⟩) | (go_at_call 15; refine (fawake_b hb3).mono ?_; rintro e w' ⟨rfl, hb9⟩))
  go_ret
  exact ⟨rfl, hb9⟩
end Go.Proofs.Ytijgopcddjnfdaa
