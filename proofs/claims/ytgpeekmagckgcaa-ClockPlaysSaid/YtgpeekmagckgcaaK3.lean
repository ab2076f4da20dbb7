/- What is proved here: how real time goes on for clocks. Condition: they lie in memory of the call's own, their numbers are within bounds. -/
import Derived.Test.YtgpeekmagckgcaaK2
namespace Go.Proofs.Ytgpeekmagckgcaa
open Go Go.RowKit
attribute [local go_sem] KW.cell KW.frozen

namespace Pl
/-- How far real time goes on. -/
def step (real n : Int) : Int := if n < 0 then 0 else if 1099511627776 - real < n then 1099511627776 - real else n
def tk (n : Int) (c : Cl) : Cl := (c.1, c.2.1, c.2.2 + n * c.2.1)
def ticked (n : Int) (l : List Cl) : List Cl := l.map (tk n)
def part (n : Int) (k : Nat) (l : List Cl) : List Cl := (l.take k).map (tk n) ++ l.drop k
theorem part_len (n : Int) (k : Nat) (l : List Cl) (h : k ≤ l.length) : (part n k l).length = l.length := by simp [part]; omega
theorem part_get (n : Int) (k : Nat) (l : List Cl) (h : k < l.length) : (part n k l)[k]'(by rw [part_len n k l (by omega)]; exact h) = l[k] := by
  unfold part
  rw [List.getElem_append_right (by simp; omega)]
  simp [show k - min k l.length = 0 by omega]
theorem part_set (n : Int) (k : Nat) (l : List Cl) (h : k < l.length) : (part n k l).set k (tk n l[k]) = part n (k + 1) l := by
  unfold part
  rw [List.set_append_right _ _ (by simp; omega), List.drop_eq_getElem_cons h]
  simp only [List.length_map, List.length_take, show k - min k l.length = 0 by omega, List.set_cons_zero]
  rw [List.take_succ_eq_append_getElem h]
  simp only [List.map_append, List.map_cons, List.map_nil, List.append_assoc, List.cons_append, List.nil_append]
theorem tk_bd {r n c most real : Int} (h1 : -most ≤ r) (h2 : r ≤ most) (hm : most ≤ 500) (hn : 0 ≤ n) (hc1 : -(500 * real) ≤ c) (hc2 : c ≤ 500 * real) : -(500 * (real + n)) ≤ c + n * r ∧ c + n * r ≤ 500 * (real + n) := by
  have a1 : n * r ≤ n * 500 := Int.mul_le_mul_of_nonneg_left (by omega) hn
  have a2 : n * (-500) ≤ n * r := Int.mul_le_mul_of_nonneg_left (by omega) hn
  omega
theorem Ok.tick {real most n : Int} {l : List Cl} (h : Ok real most l) : Ok (real + step real n) most (ticked (step real n) l) := by
  have s0 : 0 ≤ step real n := by have := h.r1; unfold step; omega
  have s1 : real + step real n ≤ 1099511627776 := by have := h.r1; unfold step; omega
  refine ⟨by have := h.r0; omega, s1, h.m0, h.m1, by simpa [ticked] using h.len, fun c hc => ?_⟩
  obtain ⟨c0, h0, rfl⟩ := List.mem_map.1 hc
  obtain ⟨a1, a2, a3, a4, a5, a6⟩ := h.el c0 h0
  have := tk_bd a3 a4 h.m1 s0 a5 a6
  exact ⟨a1, a2, a3, a4, this.1, this.2⟩
end Pl

section
variable {B : Nat} {w : World} {p g cap : Nat} {real most : Int} {l : List Pl.Cl}
theorem tick_neg (n : Int) (hn : n < 0) (q : Nat) : Calls Try.prog 27 #[.pointer (some ⟨q, 0, none⟩), .int .i64 n] w fun e w' => e = .returned (.tuple #[]) ∧ w = w' := by
  go_enter Try.func27, Try.ntmps27
  go_wp2
  refine bodyPost_ret (results_none rfl _ _ _) rfl ?_
  exact ⟨rfl, rfl⟩
set_option maxHeartbeats 1000000 in
theorem tick_hi (n : Int) (hn : ¬ n < 0) (hc : 1099511627776 - real < n) (h : Ck B w p g cap real most l) (ok : Pl.Ok real most l) :
    Calls Try.prog 27 #[.pointer (some ⟨p, 0, none⟩), .int .i64 n] w fun e w' => e = .returned (.tuple #[]) ∧ Ck B w' p g cap (real + (1099511627776 - real)) most (Pl.ticked (1099511627776 - real) l) ∧ Mod w w' p g := by
  have c0 := h.c0
  have c1 := h.c1
  have c2 := h.c2
  have f0 := h.fp 0
  have npg : ¬ p = g := h.ne
  have ngp : ¬ g = p := Ne.symm h.ne
  obtain ⟨l1, l2⟩ := h.le
  have l3 := ok.len
  have r0 := ok.r0
  have r1 := ok.r1
  have m0 := ok.m0
  have m1 := ok.m1
  have OK := Lib.hid ok
  have H := Lib.hid (h.setReal (real + (1099511627776 - real)))
  clear ok h
  go_enter Try.func27, Try.ntmps27
  go_wp2_with fail
  go_loopw [31] (fun i wr => ∃ k : Nat, i = .int .i64 k ∧ k ≤ l.length ∧ Ck B wr p g cap (real + (1099511627776 - real)) most (Pl.part (1099511627776 - real) k l) ∧ Mod w wr p g) (fun i _ => l.length - (intOf i).toNat)
  case atStart => exact ⟨0, rfl, Nat.zero_le _, H.out, (Mod.refl w p g).set (.inl rfl) _ _⟩
  case round =>
    obtain ⟨k, rfl, hk, hck, hmod⟩ := hrel
    by_cases hlt : k < l.length
    · have hpl := Pl.part_len (1099511627776 - real) k l hk
      have hlt' : k < (Pl.part (1099511627776 - real) k l).length := by omega
      have c2 := hck.c2
      rw [hpl] at c2
      have e := hck.el k hlt'
      rw [Pl.part_get (1099511627776 - real) k l hlt] at e
      obtain ⟨e0, e1, e2⟩ := e
      have f2 := hck.fg (k * 3 + 2)
      have hb := OK.out.at_ k hlt
      have hbd := Pl.tk_bd hb.2.2.1 hb.2.2.2.1 m1 (show 0 ≤ (1099511627776 - real) by omega) hb.2.2.2.2.1 hb.2.2.2.2.2
      have hd : decide ((k : Int) < (l.length : Int)) = true := by simp; omega
      have H1 := Lib.hid (fun j => (hck.drewN j).setSum k hlt' ((l[k]).2.2 + (1099511627776 - real) * (l[k]).2.1))
      rw [Pl.part_get (1099511627776 - real) k l hlt] at H1
      have hs := Pl.part_set (1099511627776 - real) k l hlt
      unfold Pl.tk at hs
      rw [hs] at H1
      have nb : -(500 * real) ≤ (l[k]).2.2 ∧ (l[k]).2.2 ≤ 500 * real := ⟨hb.2.2.2.2.1, hb.2.2.2.2.2⟩
      have pb : -549755813888000 ≤ (1099511627776 - real) * (l[k]).2.1 ∧ (1099511627776 - real) * (l[k]).2.1 ≤ 549755813888000 := by
        have a1 := Pl.tk_bd (c := 0) (real := 0) hb.2.2.1 hb.2.2.2.1 m1 (show 0 ≤ (1099511627776 - real) by omega) (by omega) (by omega)
        omega
      clear hb hck hs hpl hlt'
      generalize (l[k]).1 = s at *
      generalize (l[k]).2.1 = r at *
      generalize (l[k]).2.2 = x at *
      obtain ⟨nb1, nb2⟩ := nb
      have x1 : IntKind.i64.wrap ((1099511627776 - real) * r) = (1099511627776 - real) * r := wrap_of (by omega) (by omega)
      have x2 : IntKind.i64.wrap (x + (1099511627776 - real) * r) = x + (1099511627776 - real) * r := wrap_of (by omega) (by omega)
      clear hbd pb
      go_wp2_with fail
      refine wp_region_dw 21 (by kernel_rfl) (by kernel_rfl) ?_
      simp only [List.take_succ_cons, List.take_zero, List.drop_succ_cons, List.drop_zero]
      repeat (quiet_step (fail))
      refine wpQuiet_nil ?_
      intro j
      go_wp2_with fail
      go_roundw
      case rel => exact ⟨k + 1, by go_num, by omega, H1.out j, (hmod.drewN j).set (.inr rfl) _ _⟩
      case measure => simp [intOf]; omega
    · obtain rfl : k = l.length := by omega
      have hd : decide ((l.length : Int) < (l.length : Int)) = false := by simp
      have hfin : Ck B wr p g cap (real + (1099511627776 - real)) most (Pl.ticked (1099511627776 - real) l) := by
        have e : Pl.part (1099511627776 - real) l.length l = Pl.ticked (1099511627776 - real) l := by simp [Pl.part, Pl.ticked]
        rw [e] at hck
        exact hck
      have HF := Lib.hid hfin
      clear hfin hck
      go_wp2_with fail
      go_end0
      exact ⟨rfl, HF.out, hmod⟩
set_option maxHeartbeats 1000000 in
theorem tick_lo (n : Int) (hn : ¬ n < 0) (hc : ¬ 1099511627776 - real < n) (h : Ck B w p g cap real most l) (ok : Pl.Ok real most l) :
    Calls Try.prog 27 #[.pointer (some ⟨p, 0, none⟩), .int .i64 n] w fun e w' => e = .returned (.tuple #[]) ∧ Ck B w' p g cap (real + n) most (Pl.ticked n l) ∧ Mod w w' p g := by
  have c0 := h.c0
  have c1 := h.c1
  have c2 := h.c2
  have f0 := h.fp 0
  have npg : ¬ p = g := h.ne
  have ngp : ¬ g = p := Ne.symm h.ne
  obtain ⟨l1, l2⟩ := h.le
  have l3 := ok.len
  have r0 := ok.r0
  have r1 := ok.r1
  have m0 := ok.m0
  have m1 := ok.m1
  have OK := Lib.hid ok
  have H := Lib.hid (h.setReal (real + n))
  clear ok h
  go_enter Try.func27, Try.ntmps27
  go_wp2_with fail
  go_loopw [31] (fun i wr => ∃ k : Nat, i = .int .i64 k ∧ k ≤ l.length ∧ Ck B wr p g cap (real + n) most (Pl.part n k l) ∧ Mod w wr p g) (fun i _ => l.length - (intOf i).toNat)
  case atStart => exact ⟨0, rfl, Nat.zero_le _, H.out, (Mod.refl w p g).set (.inl rfl) _ _⟩
  case round =>
    obtain ⟨k, rfl, hk, hck, hmod⟩ := hrel
    by_cases hlt : k < l.length
    · have hpl := Pl.part_len n k l hk
      have hlt' : k < (Pl.part n k l).length := by omega
      have c2 := hck.c2
      rw [hpl] at c2
      have e := hck.el k hlt'
      rw [Pl.part_get n k l hlt] at e
      obtain ⟨e0, e1, e2⟩ := e
      have f2 := hck.fg (k * 3 + 2)
      have hb := OK.out.at_ k hlt
      have hbd := Pl.tk_bd hb.2.2.1 hb.2.2.2.1 m1 (show 0 ≤ n by omega) hb.2.2.2.2.1 hb.2.2.2.2.2
      have hd : decide ((k : Int) < (l.length : Int)) = true := by simp; omega
      have H1 := Lib.hid (fun j => (hck.drewN j).setSum k hlt' ((l[k]).2.2 + n * (l[k]).2.1))
      rw [Pl.part_get n k l hlt] at H1
      have hs := Pl.part_set n k l hlt
      unfold Pl.tk at hs
      rw [hs] at H1
      have nb : -(500 * real) ≤ (l[k]).2.2 ∧ (l[k]).2.2 ≤ 500 * real := ⟨hb.2.2.2.2.1, hb.2.2.2.2.2⟩
      have pb : -549755813888000 ≤ n * (l[k]).2.1 ∧ n * (l[k]).2.1 ≤ 549755813888000 := by
        have a1 := Pl.tk_bd (c := 0) (real := 0) hb.2.2.1 hb.2.2.2.1 m1 (show 0 ≤ n by omega) (by omega) (by omega)
        omega
      clear hb hck hs hpl hlt'
      generalize (l[k]).1 = s at *
      generalize (l[k]).2.1 = r at *
      generalize (l[k]).2.2 = x at *
      obtain ⟨nb1, nb2⟩ := nb
      have x1 : IntKind.i64.wrap (n * r) = n * r := wrap_of (by omega) (by omega)
      have x2 : IntKind.i64.wrap (x + n * r) = x + n * r := wrap_of (by omega) (by omega)
      clear hbd pb
      go_wp2_with fail
      refine wp_region_dw 21 (by kernel_rfl) (by kernel_rfl) ?_
      simp only [List.take_succ_cons, List.take_zero, List.drop_succ_cons, List.drop_zero]
      repeat (quiet_step (fail))
      refine wpQuiet_nil ?_
      intro j
      go_wp2_with fail
      go_roundw
      case rel => exact ⟨k + 1, by go_num, by omega, H1.out j, (hmod.drewN j).set (.inr rfl) _ _⟩
      case measure => simp [intOf]; omega
    · obtain rfl : k = l.length := by omega
      have hd : decide ((l.length : Int) < (l.length : Int)) = false := by simp
      have hfin : Ck B wr p g cap (real + n) most (Pl.ticked n l) := by
        have e : Pl.part n l.length l = Pl.ticked n l := by simp [Pl.part, Pl.ticked]
        rw [e] at hck
        exact hck
      have HF := Lib.hid hfin
      clear hfin hck
      go_wp2_with fail
      go_end0
      exact ⟨rfl, HF.out, hmod⟩
theorem tick_run (n : Int) (hn : ¬ n < 0) (h : Ck B w p g cap real most l) (ok : Pl.Ok real most l) :
    Calls Try.prog 27 #[.pointer (some ⟨p, 0, none⟩), .int .i64 n] w fun e w' => e = .returned (.tuple #[]) ∧ Ck B w' p g cap (real + Pl.step real n) most (Pl.ticked (Pl.step real n) l) ∧ Mod w w' p g := by
  by_cases hc : 1099511627776 - real < n
  · have e : Pl.step real n = 1099511627776 - real := by unfold Pl.step; rw [if_neg hn, if_pos hc]
    rw [e]
    exact tick_hi n hn hc h ok
  · have e : Pl.step real n = n := by unfold Pl.step; rw [if_neg hn, if_neg hc]
    rw [e]
    exact tick_lo n hn hc h ok
theorem tick_c (n : Int) (h : Ck B w p g cap real most l) (ok : Pl.Ok real most l) :
    Calls Try.prog 27 #[.pointer (some ⟨p, 0, none⟩), .int .i64 n] w fun e w' => e = .returned (.tuple #[]) ∧ Ck B w' p g cap (real + Pl.step real n) most (Pl.ticked (Pl.step real n) l) ∧ Mod w w' p g := by
  by_cases hn : n < 0
  · have e : Pl.step real n = 0 := by unfold Pl.step; rw [if_pos hn]
    have e2 : Pl.ticked 0 l = l := by
      unfold Pl.ticked
      have : Pl.tk 0 = id := funext fun c => by simp [Pl.tk]
      rw [this, List.map_id]
    rw [e, e2, Int.add_zero]
    exact (tick_neg n hn p).mono fun _ _ ⟨he, hw⟩ => ⟨he, hw ▸ h, hw ▸ Mod.refl _ _ _⟩
  · exact tick_run n hn h ok
end
end Go.Proofs.Ytgpeekmagckgcaa
