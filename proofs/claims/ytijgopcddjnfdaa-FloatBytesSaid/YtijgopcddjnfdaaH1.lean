/- What is proved here: what Code answers, and its reference. Condition: words of 64 bits. -/
import Derived.Test.YtijgopcddjnfdaaFd
import Derived.Laws.IdiomStrings
import Derived.Laws.OwnMore
namespace Go.Proofs.Ytijgopcddjnfdaa
open Go Go.RowKit

namespace Fl
/-- A word's byte. -/
def byt (n k : Nat) : Nat := n / 2 ^ (56 - 8 * k) % 256
def code (n : Nat) : List UInt8 := (List.range 8).map fun k => UInt8.ofNat (byt n k)
def cells8 (n k : Nat) : List Value := (List.range 8).map fun j => if j < k then .int .u8 ((byt n j : Nat) : Int) else .int .u8 0
theorem cells8_set (n k : Nat) (h : k < 8) : (cells8 n k).set k (.int .u8 ((byt n k : Nat) : Int)) = cells8 n (k + 1) := by
  apply List.ext_getElem?
  intro j
  rw [List.getElem?_set]
  unfold cells8
  by_cases hj : j < 8
  · simp only [List.length_map, List.length_range, List.getElem?_map, List.getElem?_range hj, Option.map_some]
    by_cases e : k = j
    · subst e; simp [h]
    · rw [if_neg e]
      by_cases h1 : j < k
      · rw [if_pos h1, if_pos (by omega)]
      · rw [if_neg h1, if_neg (by omega)]
  · have hr : (List.range 8)[j]? = none := List.getElem?_eq_none (by simp; omega)
    simp only [List.getElem?_map, hr, Option.map_none]
    rw [if_neg (by omega)]
theorem cells8_full (n j : Nat) (h : j < 8) : (cells8 n 8)[j]? = some (.int .u8 ((byt n j : Nat) : Int)) := by
  unfold cells8
  simp [h]
theorem byt_lt (n k : Nat) : byt n k < 256 := Nat.mod_lt _ (by decide)
end Fl
theorem Try.info5 : (Try.prog.info? 5).map (fun i => (i.zero, i.size, i.bytes)) = some (some (.int .u8 0), 1, 1) := by kernel_rfl
set_option maxRecDepth 100000 in
set_option maxHeartbeats 1000000 in
theorem code_c (x : Nat) (hx : Fl.W64 x) (w : World) : Calls Try.prog 28 #[.float .f64 x] w fun e w' => e = .returned (.string ⟨(Fl.code (Fl.clean x)).toArray⟩) ∧ Below w.heap.size w w' := by
  have HB := Lib.hid (bits_w x hx)
  generalize Fl.clean x = n at *
  have hmk : ∀ w, (Instr.makeSlice 67 (.int .i64 8) (.int .i64 8)).run Try.prog w = .ok (.slice (some ⟨w.heap.size, 0, none⟩) 8 8) (w.alloc (.cells (madeCells #[.int .u8 0] 8) 5)) := fun w => by
    obtain ⟨i0, hi, hz0, hz1, hz2⟩ := info_parts Try.info5
    have := run_make (P := Try.prog) w 67 5 i0 (.int .u8 0) Try.underlying67 hi hz0 .i64 .i64 8 8 (by decide) (by decide) (by rw [hz2]; decide) (by decide)
    rw [hz1] at this
    exact this
  have START : Hid ((w.alloc (.cells (madeCells #[.int .u8 0] 8) 5)).ownsRow w.heap.size 5 1 (.slice (some ⟨w.heap.size, 0, none⟩) 8 8) 8 (Fl.cells8 n 0)) := by
    have h := World.ownsRow_lit (base := w.heap.size) (e := 5) (size := 1) w (madeCells #[.int .u8 0] 8) 8 (Nat.le_refl _) (by decide) (by rw [size_madeCells])
    rw [toList_madeCells_one] at h
    have e : Fl.cells8 n 0 = List.replicate 8 (.int .u8 0) := by simp [Fl.cells8]; rfl
    rw [e]
    exact h
  go_enter Try.func28, Try.ntmps28
  go_wp2_with (go_at_call 18; refine (HB.out _).mono ?_; rintro e w' ⟨rfl, rfl⟩)
  go_loopw [11] (fun i wr => ∃ (k : Nat), i = .int .i64 k ∧ k ≤ 8 ∧ wr.ownsRow w.heap.size 5 1 (.slice (some ⟨w.heap.size, 0, none⟩) 8 8) 8 (Fl.cells8 n k) ∧ Below w.heap.size w wr) (fun i _ => 8 - (intOf i).toNat)
  case atStart => exact ⟨0, rfl, by omega, START.out, (Below.refl _ _).alloc (Nat.le_refl _) _⟩
  case round =>
    obtain ⟨k, rfl, hk, hown, hb⟩ := hrel
    by_cases hlt : k < 8
    · have hd : decide ((k : Int) < 8) = true := by simp; omega
      have c0 : ∃ u, wr.cell? ⟨w.heap.size, k, none⟩ = some u := by
        have h1 := hown.cellAt k (by omega)
        have h2 : k < (Fl.cells8 n k).length := by simp [Fl.cells8]; exact hlt
        rw [List.getElem?_eq_getElem h2] at h1
        exact ⟨_, h1⟩
      obtain ⟨u, c0⟩ := c0
      have f0 := hown.frozenAt k
      have H1 := Lib.hid (hown.stored k (.int .u8 ((Fl.byt n k : Nat) : Int))).1
      rw [Fl.cells8_set n k hlt] at H1
      have e : (((Fl.byt n k : Nat) : Int)) = (n : Int) / 2 ^ (56 - 8 * k) % 256 := by unfold Fl.byt; simp
      rw [e] at H1
      clear e hown
      go_wp2_with fail
      go_roundw
      case rel => exact ⟨k + 1, by go_num, by omega, H1.out, hb.setCell (Nat.le_refl _) _⟩
      case measure => simp [intOf]; omega
    · obtain rfl : k = 8 := by omega
      have hback : (convert 67 9 (.slice (some ⟨w.heap.size, 0, none⟩) 8 8)).run Try.prog wr = .ok (.string ⟨(Fl.code n).toArray⟩) wr := by
        have h := run_convert_bytes_back (P := Try.prog) wr 67 9 5 ⟨w.heap.size, 0, none⟩ 8 (Fl.code n) Try.underlying67 Try.underlying5 Try.underlying9 (fun j hj => by
          have hj' : j < 8 := by simpa [Fl.code] using hj
          rw [add_head, hown.cellAt j (by omega), Fl.cells8_full n j hj']
          have hb := Fl.byt_lt n j
          simp [Fl.code]
          omega)
        have hl : (Fl.code n).length = 8 := by simp [Fl.code]
        rw [hl] at h
        exact h
      clear hown
      go_wp2_with fail
      go_ret
      exact ⟨rfl, hb⟩

namespace Fl
theorem code_drop (n i : Nat) (h : i < 8) : UInt8.ofNat (n / 256 ^ i % 256) :: (code n).drop (8 - i) = (code n).drop (8 - (i + 1)) := by
  have hl : 8 - (i + 1) < (code n).length := by simp [code]; omega
  rw [List.drop_eq_getElem_cons hl]
  have e : 8 - (i + 1) + 1 = 8 - i := by omega
  rw [e]
  congr 1
  simp only [code, List.getElem_map, List.getElem_range, byt]
  have e2 : 2 ^ (56 - 8 * (8 - (i + 1))) = 256 ^ i := by
    rw [show (256 : Nat) = 2 ^ 8 by decide, ← Nat.pow_mul]
    congr 1
    omega
  rw [e2]
end Fl
set_option maxRecDepth 100000 in
set_option maxHeartbeats 1000000 in
theorem rcode_c (x : Nat) (hx : Fl.W64 x) (w : World) : Calls Try.prog 29 #[.int .u64 (x : Int)] w fun e w' => e = .returned (.string ⟨(Fl.code (Fl.clean x)).toArray⟩) ∧ Below w.heap.size w w' := by
  have HB := Lib.hid (rclean_w x)
  have hn : Fl.W64 (Fl.clean x) := Fl.clean_w hx
  generalize Fl.clean x = n at *
  go_enter Try.func29, Try.ntmps29
  go_wp2_with (go_at_call 14; refine (HB.out _).mono ?_; rintro e w' ⟨rfl, rfl⟩)
  go_loopw [0, 3, 4] (fun m s i wr => ∃ (k r : Nat) (l : List UInt8), i = .int .i64 k ∧ k ≤ 8 ∧ m = .int .u64 (r : Int) ∧ r = n / 256 ^ k ∧ s = .string ⟨l.toArray⟩ ∧ l = (Fl.code n).drop (8 - k) ∧ Below w.heap.size w wr) (fun _ _ i _ => 8 - (intOf i).toNat)
  case atStart => exact ⟨0, n, [], rfl, by omega, rfl, by simp, rfl, by simp [Fl.code], Below.refl _ _⟩
  case round =>
    obtain ⟨k, r, l, rfl, hk, rfl, hr, rfl, hl, hb⟩ := hrel
    by_cases hlt : k < 8
    · have hd : decide ((k : Int) < 8) = true := by simp; omega
      have hs := hb.size
      have hconv : (convert 67 9 (.slice (some ⟨wr.heap.size, 0, none⟩) 1 1)).run Try.prog (wr.alloc (.cells #[.int .u8 ((r : Int) % 256)] 5)) = .ok (.string ⟨#[UInt8.ofNat (r % 256)]⟩) (wr.alloc (.cells #[.int .u8 ((r : Int) % 256)] 5)) := by
        have h := run_convert_bytes_back (P := Try.prog) (wr.alloc (.cells #[.int .u8 ((r : Int) % 256)] 5)) 67 9 5 ⟨wr.heap.size, 0, none⟩ 1 [UInt8.ofNat (r % 256)] Try.underlying67 Try.underlying5 Try.underlying9 (fun j hj => by
          have : j = 0 := by simpa using hj
          subst this
          rw [add_head, block_cell (heap_alloc_new wr _) 0]
          simp)
        exact h
      have hlen : l.length = k := by rw [hl]; simp [Fl.code]; omega
      have HL := Lib.hid (show UInt8.ofNat (r % 256) :: l = (Fl.code n).drop (8 - (k + 1)) by rw [hl, hr]; exact Fl.code_drop n k hlt)
      have HR := Lib.hid (show r / 256 = n / 256 ^ (k + 1) by rw [hr, Nat.div_div_eq_div_mul, Nat.pow_succ])
      have hrn : r ≤ n := by rw [hr]; exact Nat.div_le_self _ _
      have hn' : n < 18446744073709551616 := hn
      have x1 : IntKind.u64.wrap ((r : Int) / 256) = ((r / 256 : Nat) : Int) := by rw [u64_in (by omega) (by omega)]; omega
      clear hr hl hrn hn'
      go_wp2_with fail
      go_roundw
      case rel => exact ⟨k + 1, r / 256, UInt8.ofNat (r % 256) :: l, by go_num, by omega, rfl, HR.out, by rw [show #[UInt8.ofNat (r % 256)] = [UInt8.ofNat (r % 256)].toArray from rfl, ByteArray.mk_append_mk]; rfl, HL.out, hb.alloc hs _⟩
      case measure => simp [intOf]; omega
    · obtain rfl : k = 8 := by omega
      have hl' : l = Fl.code n := by rw [hl]; rfl
      have HL := Lib.hid hl'
      clear hl hl' hr
      go_wp2_with fail
      go_ret
      exact ⟨by rw [← HL.out]; rfl, hb⟩
end Go.Proofs.Ytijgopcddjnfdaa
