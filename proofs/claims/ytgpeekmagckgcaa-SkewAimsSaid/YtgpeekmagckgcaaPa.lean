/- The plain law of SkewAims: a clock shows the time that is aimed at less than Miss apart from it. -/
import Derived.Test.YtgpeekmagckgcaaPh
import Derived.Test.YtgpeekmagckgcaaD8
namespace Go.Proofs.Ytgpeekmagckgcaa.Pl
/-- What holds till the clock shows what is aimed at: of the interval at t the middle and the half. -/
structure Aims (R : Int) (l : List Cl) (m : Int) (a b z t md hf : Int) : Prop where
  ho : Holds R l m true a b z
  len : l.length = 1
  md_ : md = mid (wlo a b (drift (t - z) m)) (whi a b (drift (t - z) m))
  hf_ : hf = half (wlo a b (drift (t - z) m)) (whi a b (drift (t - z) m))
  at_ : t ≤ R → ∃ A, Near l 0 A t R m ∧ md - hf ≤ A
theorem in_mid {a b x : Int} (hx1 : -1125899906842624 ≤ x) (hx2 : x ≤ 1125899906842624) (h : has a b x = true) : x - mid a b ≤ half a b ∧ mid a b - x ≤ half a b := by
  have m := moves (y := 0) (z := 0) hx1 hx2 (by omega) (by omega) (by omega) (by omega) h
  exact ⟨m.1, m.2.1⟩
theorem Holds.upto {R : Int} {l : List Cl} {m a b z t : Int} (h : Holds R l m true a b z) (ok : Ok R m l) (ht : R ≤ t) :
    apartAt l 0 - mid (wlo a b (drift (t - z) m)) (whi a b (drift (t - z) m)) ≤ half (wlo a b (drift (t - z) m)) (whi a b (drift (t - z) m)) ∧
    mid (wlo a b (drift (t - z) m)) (whi a b (drift (t - z) m)) - apartAt l 0 ≤ half (wlo a b (drift (t - z) m)) (whi a b (drift (t - z) m)) := by
  obtain ⟨A0, h1, h2, h3, h4⟩ := h rfl
  have hb := h4.bd ok
  have hm := drift_mono m (show R - z ≤ t - z by omega)
  have hd := drift_bd (t - z) m
  have ab := apart_bd ok 0
  exact in_mid (by omega) (by omega) (has_near h1 h2 hd.1 hd.2 h3 (by omega) (by omega))
theorem Aims.start {R : Int} {l : List Cl} {m a b z t : Int} (h : Holds R l m true a b z) (ok : Ok R m l) (hl : l.length = 1) (ht : R ≤ t) :
    Aims R l m a b z t (mid (wlo a b (drift (t - z) m)) (whi a b (drift (t - z) m))) (half (wlo a b (drift (t - z) m)) (whi a b (drift (t - z) m))) := by
  refine ⟨h, hl, rfl, rfl, fun hR => ?_⟩
  have e : R = t := by omega
  subst e
  have := (h.upto ok (Int.le_refl _)).2
  exact ⟨apartAt l 0, Near.refl ok 0, by omega⟩
theorem Aims.rate {R : Int} {l : List Cl} {m a b z t md hf : Int} (h : Aims R l m a b z t md hf) (j r : Int) : Aims R (rated l m j r) m a b z t md hf :=
  ⟨h.ho.rate j r, by rw [rated_len]; exact h.len, h.md_, h.hf_, fun hR => by obtain ⟨A, h1, h2⟩ := h.at_ hR; exact ⟨A, h1.rate j r, h2⟩⟩
theorem Aims.tick {R : Int} {l : List Cl} {m a b z t md hf : Int} (h : Aims R l m a b z t md hf) (ok : Ok R m l) (hR : R + 1 ≤ 1099511627776) : Aims (R + 1) (ticked 1 l) m a b z t md hf := by
  have es : step R 1 = 1 := by unfold step; omega
  have ok1 : Ok (R + 1) m (ticked 1 l) := by have := ok.tick (n := 1); rwa [es] at this
  have ho1 : Holds (R + 1) (ticked 1 l) m true a b z := by have := h.ho.tick ok 1; rwa [es] at this
  refine ⟨ho1, by rw [ticked_len]; exact h.len, h.md_, h.hf_, fun ht => ?_⟩
  by_cases hle : t ≤ R
  · obtain ⟨A, h1, h2⟩ := h.at_ hle
    have := h1.tick ok 1
    rw [es] at this
    exact ⟨A, this, h2⟩
  · have e : R + 1 = t := by omega
    have := (ho1.upto ok1 (t := t) (by omega)).2
    rw [← h.md_, ← h.hf_] at this
    rw [← e]
    exact ⟨apartAt (ticked 1 l) 0, Near.refl ok1 0, by omega⟩
/-- Early it is not by more than the half. -/
theorem Aims.early {R : Int} {l : List Cl} {m a b z t md hf : Int} (h : Aims R l m a b z t md hf) (ok : Ok R m l) (hr : t + md ≤ readAt R l 0) : t - hf ≤ R ∨ t < R := by
  by_cases hle : R ≤ t
  · have h1 := (h.ho.upto ok hle).1
    rw [← h.md_, ← h.hf_] at h1
    have e : readAt R l 0 = R + apartAt l 0 := by unfold readAt; rw [h.len]; rfl
    omega
  · exact .inr (by omega)
/-- Late it is not by more than twice the half. -/
theorem Aims.late {R : Int} {l : List Cl} {m a b z t md hf : Int} (h : Aims R l m a b z t md hf) (ok : Ok R m l) (h0 : 0 ≤ hf) (hr : readAt R l 0 < t + md) : R < t + 2 * hf := by
  by_cases hle : t ≤ R
  · obtain ⟨A, h1, h2⟩ := h.at_ hle
    obtain ⟨_, _, h3⟩ := h1
    have ht : thereB l.length 0 = true := by rw [h.len]; rfl
    rw [if_pos ht] at h3
    obtain ⟨s0, e, b1, b2⟩ := h3
    have e1 : readAt R l 0 = R + apartAt l 0 := by unfold readAt; rw [if_pos ht]
    rw [e1, apartAt_eq, if_pos ht] at hr
    have hm : m * (R - t) ≤ 500 * (R - t) := Int.mul_le_mul_of_nonneg_right ok.m1 (by omega)
    generalize m * (R - t) = q at *
    omega
  · omega
end Go.Proofs.Ytgpeekmagckgcaa.Pl
