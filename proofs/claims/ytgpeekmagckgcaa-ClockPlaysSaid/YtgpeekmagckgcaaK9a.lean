/- What is proved here: two clocks side by side; the walk of ClockTicks. Condition: none. -/
import Derived.Test.YtgpeekmagckgcaaK7
import Derived.RegionCalls
import Derived.Deep.RegionWith
import Derived.Deep.DrawnRows
namespace Go.Proofs.Ytgpeekmagckgcaa
open Go Go.RowKit
attribute [local go_sem] KW.cell KW.frozen

/-- Two clocks of the law's own, apart. -/
structure C2 (W w : World) (p g cap q h cap' : Nat) (real : Int) (m : Int) (lx : List Pl.Cl) (real' : Int) (ly : List Pl.Cl) : Prop where
  x : CW W w p g cap real m lx
  y : CW W w q h cap' real' m ly
  n1 : p ≠ q
  n2 : p ≠ h
  n3 : g ≠ q
  n4 : g ≠ h
section
variable {W w : World} {p g cap q h cap' : Nat} {real real' m : Int} {lx ly : List Pl.Cl}
theorem C2.bl (H : C2 W w p g cap q h cap' real m lx real' ly) : Below W.heap.size W w := H.x.bl
theorem C2.drew (H : C2 W w p g cap q h cap' real m lx real' ly) : C2 W w.drew p g cap q h cap' real m lx real' ly := ⟨H.x.drewN 1, H.y.drewN 1, H.n1, H.n2, H.n3, H.n4⟩
theorem C2.kept {w' : World} (H : C2 W w p g cap q h cap' real m lx real' ly) (hb : Below w.heap.size w w') : C2 W w' p g cap q h cap' real m lx real' ly := ⟨H.x.kept hb, H.y.kept hb, H.n1, H.n2, H.n3, H.n4⟩
theorem C2.modx {w' : World} {r : Int} {l : List Pl.Cl} (H : C2 W w p g cap q h cap' real m lx real' ly) (hm : Mod w w' p g) (hx : CW W w' p g cap r m l) : C2 W w' p g cap q h cap' r m l real' ly :=
  ⟨hx, ⟨H.y.ck.mod hm (Ne.symm H.n1) (Ne.symm H.n3) (Ne.symm H.n2) (Ne.symm H.n4), hx.bl, H.y.ok⟩, H.n1, H.n2, H.n3, H.n4⟩
theorem C2.mody {w' : World} {r : Int} {l : List Pl.Cl} (H : C2 W w p g cap q h cap' real m lx real' ly) (hm : Mod w w' q h) (hy : CW W w' q h cap' r m l) : C2 W w' p g cap q h cap' real m lx r l :=
  ⟨⟨H.x.ck.mod hm H.n1 H.n2 H.n3 H.n4, hy.bl, H.x.ok⟩, hy, H.n1, H.n2, H.n3, H.n4⟩
theorem rate2x (i r : Int) (H : C2 W w p g cap q h cap' real m lx real' ly) : Calls Try.prog 29 #[.pointer (some ⟨p, 0, none⟩), .int .i64 i, .int .i64 r] w fun e w' => e = .returned (.int .i64 (Pl.rateE lx.length m i r)) ∧ C2 W w' p g cap q h cap' real m (Pl.rated lx m i r) real' ly :=
  (rate_c i r H.x.ck H.x.ok).mono fun _ _ ⟨he, hc, hm⟩ => ⟨he, H.modx hm ⟨hc, hm.below H.x.ck.hp H.x.ck.hg.1 H.x.bl H.x.bl.size, H.x.ok.rate i r⟩⟩
theorem rate2y (i r : Int) (H : C2 W w p g cap q h cap' real m lx real' ly) : Calls Try.prog 29 #[.pointer (some ⟨q, 0, none⟩), .int .i64 i, .int .i64 r] w fun e w' => e = .returned (.int .i64 (Pl.rateE ly.length m i r)) ∧ C2 W w' p g cap q h cap' real m lx real' (Pl.rated ly m i r) :=
  (rate_c i r H.y.ck H.y.ok).mono fun _ _ ⟨he, hc, hm⟩ => ⟨he, H.mody hm ⟨hc, hm.below H.y.ck.hp H.y.ck.hg.1 H.y.bl H.y.bl.size, H.y.ok.rate i r⟩⟩
theorem tick2x (n : Int) (H : C2 W w p g cap q h cap' real m lx real' ly) : Calls Try.prog 27 #[.pointer (some ⟨p, 0, none⟩), .int .i64 n] w fun e w' => e = .returned (.tuple #[]) ∧ C2 W w' p g cap q h cap' (real + Pl.step real n) m (Pl.ticked (Pl.step real n) lx) real' ly :=
  (tick_c n H.x.ck H.x.ok).mono fun _ _ ⟨he, hc, hm⟩ => ⟨he, H.modx hm ⟨hc, hm.below H.x.ck.hp H.x.ck.hg.1 H.x.bl H.x.bl.size, H.x.ok.tick⟩⟩
theorem tick2y (n : Int) (H : C2 W w p g cap q h cap' real m lx real' ly) : Calls Try.prog 27 #[.pointer (some ⟨q, 0, none⟩), .int .i64 n] w fun e w' => e = .returned (.tuple #[]) ∧ C2 W w' p g cap q h cap' real m lx (real' + Pl.step real' n) (Pl.ticked (Pl.step real' n) ly) :=
  (tick_c n H.y.ck H.y.ok).mono fun _ _ ⟨he, hc, hm⟩ => ⟨he, H.mody hm ⟨hc, hm.below H.y.ck.hp H.y.ck.hg.1 H.y.bl H.y.bl.size, H.y.ok.tick⟩⟩
theorem read2x (i : Int) (H : C2 W w p g cap q h cap' real m lx real' ly) : Calls Try.prog 31 #[.pointer (some ⟨p, 0, none⟩), .int .i64 i] w fun e w' => e = .returned (.int .i64 (Pl.readAt real lx i)) ∧ C2 W w' p g cap q h cap' real m lx real' ly :=
  (read_c i H.x.ck H.x.ok).mono fun _ _ ⟨he, hb⟩ => ⟨he, H.kept hb⟩
theorem read2y (i : Int) (H : C2 W w p g cap q h cap' real m lx real' ly) : Calls Try.prog 31 #[.pointer (some ⟨q, 0, none⟩), .int .i64 i] w fun e w' => e = .returned (.int .i64 (Pl.readAt real' ly i)) ∧ C2 W w' p g cap q h cap' real m lx real' ly :=
  (read_c i H.y.ck H.y.ok).mono fun _ _ ⟨he, hb⟩ => ⟨he, H.kept hb⟩
theorem apart2x (i : Int) (H : C2 W w p g cap q h cap' real m lx real' ly) : Calls Try.prog 35 #[.pointer (some ⟨p, 0, none⟩), .int .i64 i] w fun e w' => e = .returned (.int .i64 (Pl.apartAt lx i)) ∧ C2 W w' p g cap q h cap' real m lx real' ly :=
  (apart_c i H.x.ck H.x.ok).mono fun _ _ ⟨he, hb⟩ => ⟨he, H.kept hb⟩
theorem apart2y (i : Int) (H : C2 W w p g cap q h cap' real m lx real' ly) : Calls Try.prog 35 #[.pointer (some ⟨q, 0, none⟩), .int .i64 i] w fun e w' => e = .returned (.int .i64 (Pl.apartAt ly i)) ∧ C2 W w' p g cap q h cap' real m lx real' ly :=
  (apart_c i H.y.ck H.y.ok).mono fun _ _ ⟨he, hb⟩ => ⟨he, H.kept hb⟩
theorem real2x (H : C2 W w p g cap q h cap' real m lx real' ly) : Calls Try.prog 33 #[.pointer (some ⟨p, 0, none⟩)] w fun e w' => e = .returned (.int .i64 real) ∧ w = w' := real_c H.x.ck
theorem real2y (H : C2 W w p g cap q h cap' real m lx real' ly) : Calls Try.prog 33 #[.pointer (some ⟨q, 0, none⟩)] w fun e w' => e = .returned (.int .i64 real') ∧ w = w' := real_c H.y.ck
end

namespace Pl
/-- They show the same. -/
def Alike (lx ly : List Cl) : Prop := lx.length = ly.length ∧ ∀ i, (at0 lx i).1 = (at0 ly i).1 ∧ (at0 lx i).2.2 = (at0 ly i).2.2
theorem Alike.refl (l : List Cl) : Alike l l := ⟨rfl, fun _ => ⟨rfl, rfl⟩⟩
theorem Alike.apart {lx ly : List Cl} (h : Alike lx ly) (i : Int) : apartAt lx i = apartAt ly i := by
  rw [apartAt_eq, apartAt_eq, h.1, (h.2 i).1, (h.2 i).2]
theorem Alike.read {lx ly : List Cl} (h : Alike lx ly) (r i : Int) : readAt r lx i = readAt r ly i := by
  unfold readAt; rw [h.apart, h.1]
theorem Alike.rate {lx ly : List Cl} (h : Alike lx ly) (m i r : Int) : Alike (rated lx m i r) ly :=
  ⟨by rw [rated_len]; exact h.1, fun j => by rw [(rated_at lx m i r j).1, (rated_at lx m i r j).2]; exact h.2 j⟩
/-- The first k have a rate of 0. -/
def Still (k : Nat) (l : List Cl) : Prop := ∀ i : Int, 0 ≤ i → i < k → (at0 l i).2.1 = 0
theorem Still.next {k : Nat} {l : List Cl} {m : Int} (h : Still k l) (hk : k < l.length) (hm : 0 ≤ m) : Still (k + 1) (rated l m k 0) := by
  intro i h0 h1
  have hb : rateB l.length m k 0 = true := rateB_iff.2 ⟨⟨by omega, by omega⟩, by omega, by omega⟩
  unfold rated
  rw [if_pos hb]
  unfold at0
  rw [List.getD_eq_getElem?_getD, List.getElem?_modify, Int.toNat_natCast]
  by_cases e : k = i.toNat
  · subst e
    simp [hk]
  · have h2 := h i h0 (by omega)
    unfold at0 at h2
    rw [List.getD_eq_getElem?_getD] at h2
    cases hx : l[i.toNat]? with
    | none => simp
    | some c => rw [hx] at h2; simp [e]; simpa using h2
theorem Alike.still {lx ly : List Cl} {n : Int} (h : Alike lx ly) (hs : Still lx.length lx) : Alike (ticked n lx) ly := by
  refine ⟨by rw [ticked_len]; exact h.1, fun i => ?_⟩
  rw [ticked_at]
  refine ⟨(h.2 i).1, ?_⟩
  have hz : (at0 lx i).2.1 = 0 := by
    by_cases hi : 0 ≤ i ∧ i < (lx.length : Int)
    · exact hs i hi.1 hi.2
    · unfold at0
      by_cases h0 : 0 ≤ i
      · rw [List.getD_eq_getElem?_getD, List.getElem?_eq_none (by omega)]; rfl
      · have h1 : i.toNat = (0 : Int).toNat := by omega
        rw [h1]
        cases lx with
        | nil => rfl
        | cons c l => exact hs 0 (by omega) (by simp)
  unfold tk
  simp only [hz, Int.mul_zero, Int.add_zero]
  exact (h.2 i).2
theorem ticked_add (a b : Int) (l : List Cl) : ticked b (ticked a l) = ticked (a + b) l := by
  unfold ticked
  rw [List.map_map]
  congr 1
  funext c
  simp only [Function.comp, tk, Int.add_mul, Int.add_assoc]
theorem step_in {r n : Int} (h0 : 0 ≤ n) (h1 : r + n ≤ 1099511627776) : step r n = n := by unfold step; omega
theorem rateE_ok {n : Nat} {m : Int} {k : Nat} (hk : k < n) (hm : 0 ≤ m) : rateE n m k 0 = 0 := by
  have hb : rateB n m k 0 = true := rateB_iff.2 ⟨⟨by omega, by omega⟩, by omega, by omega⟩
  unfold rateE
  rw [if_pos (thereB_iff.2 ⟨by omega, by omega⟩), if_pos hb]
end Pl
end Go.Proofs.Ytgpeekmagckgcaa
