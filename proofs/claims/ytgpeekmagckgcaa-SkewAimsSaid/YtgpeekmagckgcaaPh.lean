/- The plain law of SkewHolds: a clock's distance lies in its estimate. -/
import Derived.Test.YtgpeekmagckgcaaPc2
import Derived.Test.YtgpeekmagckgcaaD7
import Derived.Test.YtgpeekmagckgcaaPm
namespace Go.Proofs.Ytgpeekmagckgcaa.Pl
/-- What is known of an estimate: at its time the distance lay in it. -/
def Holds (real : Int) (l : List Cl) (m : Int) (k : Bool) (a b z : Int) : Prop :=
  k = true → ∃ A0, -549756862464 ≤ A0 ∧ A0 ≤ 549756862464 ∧ has a b A0 = true ∧ Near l 0 A0 z real m
theorem Holds.no (real : Int) (l : List Cl) (m a b z : Int) : Holds real l m false a b z := fun h => by cases h
theorem Holds.tick {real : Int} {l : List Cl} {m : Int} {k : Bool} {a b z : Int} (h : Holds real l m k a b z) (ok : Ok real m l) (n : Int) : Holds (real + step real n) (ticked (step real n) l) m k a b z := by
  intro hk
  obtain ⟨A0, h1, h2, h3, h4⟩ := h hk
  exact ⟨A0, h1, h2, h3, h4.tick ok n⟩
theorem Holds.rate {real : Int} {l : List Cl} {m : Int} {k : Bool} {a b z : Int} (h : Holds real l m k a b z) (j r : Int) : Holds real (rated l m j r) m k a b z := by
  intro hk
  obtain ⟨A0, h1, h2, h3, h4⟩ := h hk
  exact ⟨A0, h1, h2, h3, h4.rate j r⟩
theorem has_near {a b x y d : Int} (hx1 : -549756862464 ≤ x) (hx2 : x ≤ 549756862464) (hd0 : 0 ≤ d) (hd1 : d ≤ 1099511627776) (h : has a b x = true) (h1 : y - x ≤ d) (h2 : x - y ≤ d) : has (wlo a b d) (whi a b d) y = true := by
  by_cases hle : x ≤ y
  · have m := moves (y := d) (z := y - x) (by omega) (by omega) (by omega) (by omega) (by omega) (by omega) h
    have e : x + (y - x) = y := by omega
    have := m.2.2.2.2.1
    rwa [e] at this
  · have m := moves (y := d) (z := x - y) (by omega) (by omega) (by omega) (by omega) (by omega) (by omega) h
    have e : x - (x - y) = y := by omega
    have := m.2.2.2.2.2.1
    rwa [e] at this
theorem Holds.on {real : Int} {l : List Cl} {m : Int} {a b z : Int} (h : Holds real l m true a b z) (ok : Ok real m l) : has (olo true a b z real m) (ohi true a b z real m) (apartAt l 0) = true ∧ z ≤ real ∧ 0 ≤ z := by
  obtain ⟨A0, h1, h2, h3, h4⟩ := h rfl
  have hb := h4.bd ok
  have hz := h4.1
  have hz0 := h4.2.1
  have e : ap real z = real - z := by unfold ap; rw [if_neg (by omega)]
  have e1 : olo true a b z real m = wlo a b (drift (real - z) m) := by unfold olo; rw [if_pos rfl, e]
  have e2 : ohi true a b z real m = whi a b (drift (real - z) m) := by unfold ohi; rw [if_pos rfl, e]
  have hd := drift_bd (real - z) m
  rw [e1, e2]
  exact ⟨has_near h1 h2 hd.1 hd.2 h3 hb.1 hb.2, hz, hz0⟩
theorem has_raw {a b x : Int} (ha : -4503599627370496 ≤ a) (hb : b ≤ 4503599627370496) (h1 : a ≤ x) (h2 : x ≤ b) : has a b x = true := by
  have e1 : nr a = a := nr_id (by omega)
  have e2 : nr b = b := nr_id (by omega)
  have e3 : nr x = x := nr_id (by omega)
  rw [has_iff]
  have := clean_or a b
  omega
theorem has_emp {a b x : Int} (h : has a b x = true) : emp a b = false := by
  rw [has_iff] at h
  rw [← emp2, emp_cl]
  simp
  omega
/-- An exchange with the clock meets, and the distance behind it lies in what is known then. -/
theorem Holds.meet {real : Int} {l : List Cl} {m : Int} {k : Bool} {a b z : Int} (h : Holds real l m k a b z) (ok : Ok real m l) (hl : l.length = 1) (n n' : Int) {r1 r2 : Int} {l1 l2 : List Cl}
    (e1 : r1 = real + step real n) (e2 : l1 = ticked (step real n) l) (e3 : r2 = r1 + step r1 n') (e4 : l2 = ticked (step r1 n') l1) :
    ∃ lo hi, sm k a b z real (readAt r1 l1 0) r2 m = ((true, lo, hi, r2), 0) ∧ Holds r2 l2 m true lo hi r2 := by
  have ok1 : Ok r1 m l1 := by rw [e1, e2]; exact ok.tick
  have ok2 : Ok r2 m l2 := by rw [e3, e4]; exact ok1.tick
  have H1 : Holds r1 l1 m k a b z := by rw [e1, e2]; exact h.tick ok n
  have H2 : Holds r2 l2 m k a b z := by rw [e3, e4]; exact H1.tick ok1 n'
  have len1 : l1.length = 1 := by rw [e2, ticked_len]; exact hl
  have b1 := apart_bd ok1 0
  have b2 := apart_bd ok2 0
  have s1 := step_bd (n := n) ok.r0 ok.r1
  have s2 := step_bd (n := n') ok1.r0 ok1.r1
  have er : readAt r1 l1 0 = r1 + apartAt l1 0 := by unfold readAt; rw [len1]; rfl
  have N : Near l2 0 (apartAt l1 0) r1 r2 m := by rw [e3, e4]; exact (Near.refl ok1 0).tick ok1 n'
  have hb := N.bd ok2
  have hmono := drift_mono m (show r2 - r1 ≤ r2 - real by omega)
  have hd := drift_bd (r2 - real) m
  have r0 := ok.r0
  have r20 := ok2.r1
  rw [er]
  have F : has (flo real (r1 + apartAt l1 0) r2 m) (fhi real (r1 + apartAt l1 0) r2 m) (apartAt l2 0) = true := by
    unfold flo fhi
    refine has_near b1.1 b1.2 hd.1 hd.2 (has_raw (by omega) (by omega) (by omega) (by omega)) (by omega) (by omega)
  have nb : ¬ bad k z real (r1 + apartAt l1 0) r2 := by
    unfold bad
    simp only [not_or, not_and]
    refine ⟨by omega, by omega, by omega, by omega, by omega, fun hk => ?_⟩
    subst hk
    have := (H2.on ok2).2.1
    omega
  have hn : has (nlo k a b z real (r1 + apartAt l1 0) r2 m) (nhi k a b z real (r1 + apartAt l1 0) r2 m) (apartAt l2 0) = true := by
    cases k with
    | false => rw [nlo_f, nhi_f]; exact F
    | true => rw [nlo_t, nhi_t, has_meet, F, (H2.on ok2).1]; rfl
  refine ⟨_, _, ?_, fun _ => ⟨apartAt l2 0, b2.1, b2.2, hn, Near.refl ok2 0⟩⟩
  unfold sm
  rw [if_neg nb, if_neg (by rw [has_emp hn]; simp)]
end Go.Proofs.Ytgpeekmagckgcaa.Pl
