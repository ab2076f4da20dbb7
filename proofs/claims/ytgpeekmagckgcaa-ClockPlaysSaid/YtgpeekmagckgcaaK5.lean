/- What is proved here: Rate of the program's clocks in one contract; the example of chapter 14. Condition: none. -/
import Derived.Test.YtgpeekmagckgcaaK4
namespace Go.Proofs.Ytgpeekmagckgcaa
open Go Go.RowKit
attribute [local go_sem] KW.cell KW.frozen

namespace Pl
def rateB (n : Nat) (most i r : Int) : Bool := thereB n i && (decide (-most ≤ r) && decide (r ≤ most))
def rateE (n : Nat) (most i r : Int) : Int := if thereB n i = true then (if rateB n most i r = true then 0 else 2) else 7
def rated (l : List Cl) (most i r : Int) : List Cl := if rateB l.length most i r = true then l.modify i.toNat fun c => (c.1, r, c.2.2) else l
theorem rated_len (l : List Cl) (most i r : Int) : (rated l most i r).length = l.length := by unfold rated; split <;> simp
theorem rateB_iff {n : Nat} {most i r : Int} : rateB n most i r = true ↔ (0 ≤ i ∧ i < (n : Int)) ∧ -most ≤ r ∧ r ≤ most := by
  unfold rateB
  rw [Bool.and_eq_true, thereB_iff]
  simp
theorem modify_at (l : List Cl) (k : Nat) (h : k < l.length) (f : Cl → Cl) : l.modify k f = l.set k (f l[k]) := by
  apply List.ext_getElem?
  intro j
  rw [List.getElem?_modify, List.getElem?_set]
  by_cases e : k = j
  · subst e; simp [h]
  · simp [e]
theorem Ok.rate {real most : Int} {l : List Cl} (h : Ok real most l) (i r : Int) : Ok real most (rated l most i r) := by
  refine ⟨h.r0, h.r1, h.m0, h.m1, by rw [rated_len]; exact h.len, fun c hc => ?_⟩
  unfold rated at hc
  split at hc
  · rename_i hb
    obtain ⟨⟨i0, i1⟩, r0, r1⟩ := rateB_iff.1 hb
    rw [modify_at l i.toNat (by omega)] at hc
    rcases List.mem_or_eq_of_mem_set hc with hc | rfl
    · exact h.el c hc
    · have := h.at_ i.toNat (by omega)
      exact ⟨this.1, this.2.1, r0, r1, this.2.2.2.2.1, this.2.2.2.2.2⟩
  · exact h.el c hc
end Pl
section
variable {B : Nat} {w : World} {p g cap : Nat} {real most : Int} {l : List Pl.Cl}
theorem rate_c (i r : Int) (h : Ck B w p g cap real most l) (ok : Pl.Ok real most l) :
    Calls Try.prog 29 #[.pointer (some ⟨p, 0, none⟩), .int .i64 i, .int .i64 r] w fun e w' => e = .returned (.int .i64 (Pl.rateE l.length most i r)) ∧ Ck B w' p g cap real most (Pl.rated l most i r) ∧ Mod w w' p g := by
  by_cases hi : 0 ≤ i ∧ i < (l.length : Int)
  · by_cases hr : -most ≤ r ∧ r ≤ most
    · have hb : Pl.rateB l.length most i r = true := Pl.rateB_iff.2 ⟨hi, hr⟩
      have e1 : Pl.rateE l.length most i r = 0 := by unfold Pl.rateE; rw [if_pos (thereB_iff.2 hi), if_pos hb]
      have e2 : Pl.rated l most i r = l.set i.toNat ((l[i.toNat]'(by omega)).1, r, (l[i.toNat]'(by omega)).2.2) := by
        unfold Pl.rated; rw [if_pos hb, Pl.modify_at l i.toNat (by omega)]
      rw [e1, e2]
      have c := rate_run i.toNat r h (by omega) (by omega) (by omega) ⟨ok.m0, ok.m1⟩
      rw [Int.toNat_of_nonneg hi.1] at c
      exact c.mono fun e w' ⟨he, hw⟩ => ⟨he, hw ▸ h.setRate i.toNat (by omega) r, hw ▸ (Mod.refl w p g).set (.inr rfl) _ _⟩
    · have hb : Pl.rateB l.length most i r = false := by
        cases e : Pl.rateB l.length most i r with
        | false => rfl
        | true => exact absurd (Pl.rateB_iff.1 e).2 hr
      have e1 : Pl.rateE l.length most i r = 2 := by unfold Pl.rateE; rw [if_pos (thereB_iff.2 hi), if_neg (by rw [hb]; simp)]
      have e2 : Pl.rated l most i r = l := by unfold Pl.rated; rw [if_neg (by rw [hb]; simp)]
      rw [e1, e2]
      exact (rate_bad i r h hi (by omega) ⟨ok.m0, ok.m1⟩).mono fun e w' ⟨he, hw⟩ => ⟨he, hw ▸ h, hw ▸ Mod.refl _ _ _⟩
  · have hb : Pl.rateB l.length most i r = false := by
      cases e : Pl.rateB l.length most i r with
      | false => rfl
      | true => exact absurd (Pl.rateB_iff.1 e).1 hi
    have e1 : Pl.rateE l.length most i r = 7 := by unfold Pl.rateE; rw [if_neg (by rw [thereB_no hi]; simp)]
    have e2 : Pl.rated l most i r = l := by unfold Pl.rated; rw [if_neg (by rw [hb]; simp)]
    rw [e1, e2]
    exact (rate_no i r h hi).mono fun e w' ⟨he, hw⟩ => ⟨he, hw ▸ h, hw ▸ Mod.refl _ _ _⟩
end
theorem rd_one (n : Int) (w : World) : RdI (.slice (some ⟨w.heap.size, 0, none⟩) 1 1) [n] (w.alloc (.cells #[.int .i64 n] 3)) := by
  refine .inr ⟨⟨w.heap.size, 0, none⟩, 1, rfl, by simp, by simp, by decide, fun i hi => ?_⟩
  have : i = 0 := by simpa using hi
  subst this
  rw [add_head]
  exact block_cell (heap_alloc_new w _) 0
theorem NewPost.some_ {xs : List Int} {most : Int} {B : Nat} {w w' : World} {e : Ending} (h : NewPost xs most B w e w') (hb : Pl.newB xs most = true) :
    Below w.heap.size w w' ∧ ∃ p g cap, e = .returned (.tuple #[.pointer (some ⟨p, 0, none⟩), .int .i64 0]) ∧ Ck B w' p g cap 0 most (Pl.fresh xs) ∧ w.heap.size ≤ p ∧ w.heap.size ≤ g := by
  obtain ⟨h1, h2⟩ := h
  rw [if_pos hb] at h2
  exact ⟨h1, h2⟩
theorem NewPost.none_ {xs : List Int} {most : Int} {B : Nat} {w w' : World} {e : Ending} (h : NewPost xs most B w e w') (hb : Pl.newB xs most = false) :
    Below w.heap.size w w' ∧ e = .returned (.tuple #[.pointer none, .int .i64 2]) := by
  obtain ⟨h1, h2⟩ := h
  rw [if_neg (by rw [hb]; simp)] at h2
  exact ⟨h1, h2⟩
theorem aw1 : Pl.newB [7] 500 = true := by decide
theorem aw2 : Pl.rateE (Pl.fresh [7]).length 500 0 (-500) = 0 := by decide
theorem aw3 : Pl.rated (Pl.fresh [7]) 500 0 (-500) = [(7, -500, 0)] := by decide
theorem aw4 : Pl.step 0 3 = 3 := by decide
theorem aw5 : Pl.ticked (Pl.step 0 3) (Pl.rated (Pl.fresh [7]) 500 0 (-500)) = [(7, -500, -1500)] := by decide
theorem aw6 : Pl.apartAt [(7, -500, -1500)] 0 = 5 := by decide
theorem aw7 : Pl.readAt 3 [(7, -500, -1500)] 0 = 8 := by decide
theorem aw8 : Pl.drift 3 500 = 2 := by decide
set_option maxRecDepth 100000 in
set_option maxHeartbeats 1000000 in
theorem cawake_b {W w : World} (hb : Below W.heap.size W w) : Calls Try.prog 26 #[] w fun e w' => e = .returned (.bool true) ∧ Below W.heap.size W w' := by
  have hz := hb.size
  have HN := Lib.hid (new_c _ [7] 500 W.heap.size _ (by simp; omega) (rd_one 7 w))
  have HB := Lib.hid (hb.alloc hz (.cells #[.int .i64 7] 3))
  clear hb
  go_enter Try.func26, Try.ntmps26
  go_wp2_with fail
  refine HN.out.mono ?_
  rintro e w1 hp
  obtain ⟨hb1, p, g, cap, rfl, hc, hp, hg⟩ := hp.some_ aw1
  have ok := Pl.ok_new aw1
  have HB1 := Lib.hid (bon HB.out hb1)
  have HC := Lib.hid hc
  have OK := Lib.hid ok
  simp at hp hg
  clear hb1 hc ok HB HN
  go_wp2_with fail
  refine (rate_c 0 (-500) HC.out OK.out).mono ?_
  rw [aw2]
  rintro e w2 ⟨rfl, hc, hm⟩
  have ok := OK.out.rate 0 (-500)
  have HB2 := Lib.hid (hm.below (by omega) (by omega) HB1.out HB1.out.size)
  clear HC OK
  have HC := Lib.hid hc
  have OK := Lib.hid ok
  clear hc hm ok HB1
  go_wp2_with fail
  refine (tick_c 3 HC.out OK.out).mono ?_
  rintro e w3 ⟨rfl, hc, hm⟩
  have ok := OK.out.tick (n := 3)
  rw [aw5, aw4] at hc ok
  have HB3 := Lib.hid (hm.below (by omega) (by omega) HB2.out HB2.out.size)
  clear HC OK
  have HC := Lib.hid hc
  have OK := Lib.hid ok
  clear hc hm ok HB2
  go_wp2_with fail
  refine (apart_c 0 HC.out OK.out).mono ?_
  rw [aw6]
  rintro e w4 ⟨rfl, hb4⟩
  go_wp2_with fail
  refine (read_c 0 (HC.out.kept hb4) OK.out).mono ?_
  rw [show (0 : Int) + 3 = 3 from rfl, aw7]
  rintro e w5 ⟨rfl, hb5⟩
  go_wp2_with fail
  refine (real_c ((HC.out.kept hb4).kept hb5)).mono ?_
  rintro e w6 ⟨rfl, rfl⟩
  go_wp2_with fail
  refine (drift_c 3 500 _).mono ?_
  rw [aw8]
  rintro e w7 ⟨rfl, rfl⟩
  have HB6 := Lib.hid (bon (bon HB3.out hb4) hb5)
  clear hb4 hb5
  go_wp2_with fail
  go_ret
  exact ⟨rfl, HB6.out⟩
end Go.Proofs.Ytgpeekmagckgcaa
