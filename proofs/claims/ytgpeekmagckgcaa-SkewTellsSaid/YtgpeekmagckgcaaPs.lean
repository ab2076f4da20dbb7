/- The plain law of SkewAgain. -/
import Derived.Test.YtgpeekmagckgcaaD7
namespace Go.Proofs.Ytgpeekmagckgcaa.Pl
theorem drift0 (m : Int) : drift 0 m = 0 := by simp [drift, cs]
theorem ap_self (t : Int) : ap t t = 0 := by unfold ap; rw [if_neg (by omega)]; omega
theorem widen0 (a b : Int) : wlo a b 0 = clo a b ∧ whi a b 0 = chi a b := by
  have h := clean2 a b
  have e0 : gmax (nr 0) 0 = 0 := by decide
  unfold wlo whi
  rw [e0]
  constructor
  · split
    · rfl
    · rw [Int.sub_zero, Int.add_zero]; exact h.1
  · split
    · rfl
    · rw [Int.sub_zero, Int.add_zero]; exact h.2
theorem wide_clean (a b y : Int) : clo (wlo a b y) (whi a b y) = wlo a b y ∧ chi (wlo a b y) (whi a b y) = whi a b y := by
  unfold wlo whi
  split
  · exact clean2 _ _
  · exact clean2 _ _
theorem meet_self (a b : Int) : mlo a b a b = clo a b ∧ mhi a b a b = chi a b := by
  have e1 : ∀ x, gmax x x = x := fun x => by unfold gmax; split <;> rfl
  have e2 : ∀ x, gmin x x = x := fun x => by unfold gmin; split <;> rfl
  unfold mlo mhi
  rw [e1, e2]
  exact clean2 a b
theorem mlo_clean (a b c d : Int) : mlo a b (clo c d) (chi c d) = mlo a b c d ∧ mhi a b (clo c d) (chi c d) = mhi a b c d := by
  have h := clean2 c d
  unfold mlo mhi
  rw [h.1, h.2]
  exact ⟨rfl, rfl⟩
theorem mlo_clean' (a b c d : Int) : mlo (clo a b) (chi a b) c d = mlo a b c d ∧ mhi (clo a b) (chi a b) c d = mhi a b c d := by
  have h := clean2 a b
  unfold mlo mhi
  rw [h.1, h.2]
  exact ⟨rfl, rfl⟩
/-- Told twice. -/
theorem again (k : Bool) (a b z t1 t2 t4 m : Int) :
    nlo true (nlo k a b z t1 t2 t4 m) (nhi k a b z t1 t2 t4 m) t4 t1 t2 t4 m = nlo k a b z t1 t2 t4 m ∧ nhi true (nlo k a b z t1 t2 t4 m) (nhi k a b z t1 t2 t4 m) t4 t1 t2 t4 m = nhi k a b z t1 t2 t4 m := by
  rw [nlo_t, nhi_t]
  have o1 : ∀ x y, olo true x y t4 t4 m = clo x y := fun x y => by unfold olo; rw [if_pos rfl, ap_self, drift0]; exact (widen0 x y).1
  have o2 : ∀ x y, ohi true x y t4 t4 m = chi x y := fun x y => by unfold ohi; rw [if_pos rfl, ap_self, drift0]; exact (widen0 x y).2
  rw [o1, o2, (mlo_clean _ _ _ _).1, (mlo_clean _ _ _ _).2]
  cases k with
  | false =>
    rw [nlo_f, nhi_f]
    have h := meet_self (flo t1 t2 t4 m) (fhi t1 t2 t4 m)
    have hc := wide_clean (t2 - t4) (t2 - t1) (drift (t4 - t1) m)
    exact ⟨h.1.trans hc.1, h.2.trans hc.2⟩
  | true =>
    rw [nlo_t, nhi_t]
    generalize flo t1 t2 t4 m = F
    generalize fhi t1 t2 t4 m = G
    generalize olo true a b z t4 m = L
    generalize ohi true a b z t4 m = H
    have h := meet_assoc F G F G L H
    have hs := meet_self F G
    rw [hs.1, hs.2, (mlo_clean' F G L H).1, (mlo_clean' F G L H).2] at h
    exact ⟨h.1.symm, h.2.symm⟩
end Go.Proofs.Ytgpeekmagckgcaa.Pl
