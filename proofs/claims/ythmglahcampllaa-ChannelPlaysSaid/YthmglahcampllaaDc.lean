/- What is proved here: plainly, if times are pushed on for ever, a ring of wishes says why. -/
import Derived.Test.YthmglahcampllaaDb
namespace Go.Proofs.Ythmglahcampllaa
namespace Df
def it (f : Nat → Nat) : Nat → Nat → Nat
  | 0, v => v
  | p + 1, v => f (it f p v)
def sg (g : Nat → Int) : Nat → Int
  | 0 => 0
  | p + 1 => sg g p + g p
theorem it_add (f : Nat → Nat) (a b v : Nat) : it f (a + b) v = it f a (it f b v) := by
  induction a with
  | zero => rw [Nat.zero_add]; rfl
  | succ a ih => rw [Nat.succ_add]; show f (it f (a + b) v) = f (it f a (it f b v)); rw [ih]
theorem tele {u : Nat → Nat} {X g : Nat → Int} : ∀ p, (∀ t, t < p → X (u t) ≤ X (u (t + 1)) + g t) → X (u 0) ≤ X (u p) + sg g p := by
  intro p
  induction p with
  | zero => intro _; show X (u 0) ≤ X (u 0) + 0; omega
  | succ p ih =>
    intro h
    have h1 := ih fun t ht => h t (by omega)
    have h2 := h p (by omega)
    show X (u 0) ≤ X (u (p + 1)) + (sg g p + g p)
    omega
theorem tele_lt {u : Nat → Nat} {X g : Nat → Int} : ∀ p, (∀ t, t < p → X (u t) ≤ X (u (t + 1)) + g t) → (∃ t, t < p ∧ X (u t) < X (u (t + 1)) + g t) → X (u 0) < X (u p) + sg g p := by
  intro p
  induction p with
  | zero => rintro _ ⟨t, ht, _⟩; omega
  | succ p ih =>
    rintro h ⟨t, ht, h3⟩
    have h2 := h p (by omega)
    show X (u 0) < X (u (p + 1)) + (sg g p + g p)
    by_cases e : t = p
    · subst e
      have h1 := tele t fun q hq => h q (by omega)
      omega
    · have h1 := ih (fun q hq => h q (by omega)) ⟨t, by omega, h3⟩
      omega
theorem sg_congr {g g' : Nat → Int} : ∀ p, (∀ t, t < p → g t = g' t) → sg g p = sg g' p := by
  intro p
  induction p with
  | zero => intro _; rfl
  | succ p ih => intro h; show sg g p + g p = sg g' p + g' p; rw [ih fun t ht => h t (by omega), h p (by omega)]
theorem sg_front (g : Nat → Int) : ∀ p, sg g (p + 1) = g 0 + sg (fun t => g (t + 1)) p := by
  intro p
  induction p with
  | zero => show (0 : Int) + g 0 = g 0 + 0; omega
  | succ p ih =>
    show sg g (p + 1) + g (p + 1) = g 0 + (sg (fun t => g (t + 1)) p + g (p + 1))
    rw [ih]
    omega
theorem sg_rev : ∀ (p : Nat) (g : Nat → Int), sg (fun t => g (p - 1 - t)) p = sg g p := by
  intro p
  induction p with
  | zero => intro g; rfl
  | succ p ih =>
    intro g
    rw [sg_front]
    have := ih g
    show g (p + 1 - 1 - 0) + sg (fun t => g (p + 1 - 1 - (t + 1))) p = sg g p + g p
    have e : sg (fun t => g (p + 1 - 1 - (t + 1))) p = sg (fun t => g (p - 1 - t)) p := sg_congr p fun t _ => by
      show g (p + 1 - 1 - (t + 1)) = g (p - 1 - t)
      congr 1
      omega
    rw [e, this]
    show g p + _ = _
    omega
theorem pig : ∀ (n : Nat) (u : Nat → Nat), (∀ t, t ≤ n → u t < n) → ∃ s t, s < t ∧ t ≤ n ∧ u s = u t := by
  intro n
  induction n with
  | zero => intro u h; exact absurd (h 0 (Nat.le_refl _)) (Nat.not_lt_zero _)
  | succ n ih =>
    intro u h
    by_cases hex : ∃ s, s ≤ n ∧ u s = u (n + 1)
    · obtain ⟨s, hs, e⟩ := hex
      exact ⟨s, n + 1, by omega, Nat.le_refl _, e⟩
    · have hne : ∀ s, s ≤ n → u s ≠ u (n + 1) := fun s hs e => hex ⟨s, hs, e⟩
      have hl := h (n + 1) (Nat.le_refl _)
      obtain ⟨s, t, h1, h2, h3⟩ := ih (fun t => if u (n + 1) < u t then u t - 1 else u t) fun t ht => by
        have := hne t ht
        have := h t (by omega)
        show (if u (n + 1) < u t then u t - 1 else u t) < n
        split <;> omega
      refine ⟨s, t, h1, by omega, ?_⟩
      have a1 := hne s (by omega)
      have a2 := hne t (by omega)
      have h3 : (if u (n + 1) < u s then u s - 1 else u s) = (if u (n + 1) < u t then u t - 1 else u t) := h3
      split at h3 <;> split at h3 <;> omega
theorem least_per (f : Nat → Nat) (w : Nat) : ∀ p, 1 ≤ p → it f p w = w → ∃ q, 1 ≤ q ∧ q ≤ p ∧ it f q w = w ∧ ∀ t, 1 ≤ t → t < q → it f t w ≠ w := by
  intro p
  induction p using Nat.strongRecOn with
  | ind p ih =>
    intro hp he
    by_cases hex : ∃ t, 1 ≤ t ∧ t < p ∧ it f t w = w
    · obtain ⟨t, h1, h2, h3⟩ := hex
      obtain ⟨q, g1, g2, g3, g4⟩ := ih t h2 h1 h3
      exact ⟨q, g1, by omega, g3, g4⟩
    · exact ⟨p, hp, Nat.le_refl _, he, fun t h1 h2 h3 => hex ⟨t, h1, h2, h3⟩⟩
/-- Whence a thing was moved last; by how much. -/
def fr (l : List Af) (s : St) (v : Nat) : Nat := bI (elt l (at_ s.b v).toNat)
def gp (l : List Af) (s : St) (v : Nat) : Int := bG (elt l (at_ s.b v).toNat)
structure Inv (n : Nat) (l : List Af) (r k : Nat) (s : St) (R : Nat → Nat) : Prop where
  xl : s.x.length = n
  bl : s.b.length = n
  le : ∀ v, R v ≤ r
  mv : ∀ v, v < n → 1 ≤ R v → ∃ i : Nat, i < l.length ∧ at_ s.b v = i ∧ bJ (elt l i) = v ∧ at_ s.x v ≤ at_ s.x (bI (elt l i)) + bG (elt l i) ∧ R v ≤ R (bI (elt l i)) + 1
  cyc : ∀ v p, v < n → 1 ≤ p → (∀ t, t < p → 1 ≤ R (it (fr l s) t v)) → it (fr l s) p v = v → 0 < sg (fun t => gp l s (it (fr l s) t v)) p
  old : ∀ e, e < l.length → R (bI (elt l e)) + 1 < r → at_ s.x (bI (elt l e)) + bG (elt l e) ≤ at_ s.x (bJ (elt l e))
  new : ∀ e, e < k → R (bI (elt l e)) < r → at_ s.x (bI (elt l e)) + bG (elt l e) ≤ at_ s.x (bJ (elt l e))
  last : 0 ≤ s.last → ∃ v : Nat, v < n ∧ s.last = v ∧ R v = r
section
variable {n : Nat} {l : List Af}
theorem Inv.fr_of {r k : Nat} {s : St} {R : Nat → Nat} (h : Inv n l r k s R) (hf : ∀ a ∈ l, Fit n a) {v : Nat} (hv : v < n) (h1 : 1 ≤ R v) : fr l s v < n ∧ at_ s.x v ≤ at_ s.x (fr l s v) + gp l s v ∧ R v ≤ R (fr l s v) + 1 := by
  obtain ⟨i, hi, e, _, h2, h3⟩ := h.mv v hv h1
  have e1 : fr l s v = bI (elt l i) := by unfold fr; rw [e]; rfl
  have e2 : gp l s v = bG (elt l i) := by unfold gp; rw [e]; rfl
  rw [e1, e2]
  exact ⟨(fit_lt (hf _ (elt_mem hi))).1, h2, h3⟩
theorem Inv.start (n : Nat) (l : List Af) : Inv n l 0 l.length (rnd n l 0) (fun _ => 0) :=
  ⟨by simp [rnd], by simp [rnd], fun _ => Nat.le_refl _, fun _ _ h => absurd h (by omega), fun v p _ hp hm _ => absurd (hm 0 (by omega)) (by omega), fun _ _ h => absurd h (by omega), fun _ _ h => absurd h (by omega), fun h => absurd h (by show ¬ (0 : Int) ≤ -1; omega)⟩
theorem Inv.head {r : Nat} {s : St} {R : Nat → Nat} (h : Inv n l r l.length s R) : Inv n l (r + 1) 0 { s with last := -1 } R :=
  ⟨h.xl, h.bl, fun v => by have := h.le v; omega, h.mv, h.cyc, fun e he hr => h.new e he (by omega), fun e he _ => absurd he (by omega), fun hh => absurd hh (by show ¬ (0 : Int) ≤ -1; omega)⟩
theorem Inv.step {r k : Nat} {s : St} {R : Nat → Nat} (hf : ∀ a ∈ l, Fit n a) (_hr : 1 ≤ r) (hk : k < l.length) (h : Inv n l r k s R) : ∃ R', Inv n l r (k + 1) (relax s k (elt l k)) R' := by
  have hlt := fit_lt (hf _ (elt_mem hk))
  unfold relax
  split
  case isFalse hn =>
    refine ⟨R, h.xl, h.bl, h.le, h.mv, h.cyc, h.old, fun e he hR => ?_, h.last⟩
    by_cases e2 : e = k
    · subst e2; omega
    · exact h.new e (by omega) hR
  case isTrue ht =>
    have hRi : r ≤ R (bI (elt l k)) + 1 := by
      refine Classical.byContradiction fun hc => ?_
      have := h.old k hk (by omega)
      omega
    have hxs : ∀ j, at_ (s.x.set (bJ (elt l k)) (at_ s.x (bI (elt l k)) + bG (elt l k))) j = if bJ (elt l k) = j then at_ s.x (bI (elt l k)) + bG (elt l k) else at_ s.x j := fun j => at_set _ _ _ _ (by rw [h.xl]; exact hlt.2)
    have hbs : ∀ j, at_ (s.b.set (bJ (elt l k)) (k : Int)) j = if bJ (elt l k) = j then (k : Int) else at_ s.b j := fun j => at_set _ _ _ _ (by rw [h.bl]; exact hlt.2)
    have hge : ∀ j, at_ s.x j ≤ at_ (s.x.set (bJ (elt l k)) (at_ s.x (bI (elt l k)) + bG (elt l k))) j := by
      intro j
      rw [hxs]
      split
      · rename_i e; subst e; omega
      · exact Int.le_refl _
    let R' : Nat → Nat := fun v => if v = bJ (elt l k) then r else R v
    have hRge : ∀ v, R v ≤ R' v := by
      intro v
      show R v ≤ if v = bJ (elt l k) then r else R v
      split
      · exact h.le v
      · exact Nat.le_refl _
    have hRne : ∀ v, v ≠ bJ (elt l k) → R' v = R v := fun v hv => if_neg hv
    have hReq : R' (bJ (elt l k)) = r := if_pos rfl
    have hRlt : ∀ v, R' v < r → v ≠ bJ (elt l k) := by rintro v hv rfl; omega
    let s' : St := ⟨s.x.set (bJ (elt l k)) (at_ s.x (bI (elt l k)) + bG (elt l k)), s.b.set (bJ (elt l k)) k, bJ (elt l k)⟩
    have hfe : fr l s' (bJ (elt l k)) = bI (elt l k) := by
      show bI (elt l (at_ (s.b.set (bJ (elt l k)) (k : Int)) (bJ (elt l k))).toNat) = _
      rw [hbs, if_pos rfl]; rfl
    have hge' : gp l s' (bJ (elt l k)) = bG (elt l k) := by
      show bG (elt l (at_ (s.b.set (bJ (elt l k)) (k : Int)) (bJ (elt l k))).toNat) = _
      rw [hbs, if_pos rfl]; rfl
    have hfn : ∀ v, v ≠ bJ (elt l k) → fr l s' v = fr l s v := by
      intro v hv
      show bI (elt l (at_ (s.b.set (bJ (elt l k)) (k : Int)) v).toNat) = _
      rw [hbs, if_neg (Ne.symm hv)]; rfl
    have hgn : ∀ v, v ≠ bJ (elt l k) → gp l s' v = gp l s v := by
      intro v hv
      show bG (elt l (at_ (s.b.set (bJ (elt l k)) (k : Int)) v).toNat) = _
      rw [hbs, if_neg (Ne.symm hv)]; rfl
    refine ⟨R', by simp [h.xl], by simp [h.bl], fun v => ?_, fun v hv h1 => ?_, fun v p hv hp hm hc => ?_, fun e he hR => ?_, fun e he hR => ?_, fun _ => ⟨bJ (elt l k), hlt.2, rfl, hReq⟩⟩
    · show (if v = bJ (elt l k) then r else R v) ≤ r
      split
      · exact Nat.le_refl _
      · exact h.le v
    · by_cases e : v = bJ (elt l k)
      · subst e
        refine ⟨k, hk, by show at_ (s.b.set _ _) _ = _; rw [hbs, if_pos rfl], rfl, ?_, ?_⟩
        · show at_ (s.x.set _ _) _ ≤ at_ (s.x.set _ _) _ + _
          have := hge (bI (elt l k))
          rw [hxs (bJ (elt l k)), if_pos rfl]
          omega
        · rw [hReq]
          have := hRge (bI (elt l k))
          omega
      · rw [hRne v e] at h1 ⊢
        obtain ⟨i, hi, e1, e2, e3, e4⟩ := h.mv v hv h1
        refine ⟨i, hi, by show at_ (s.b.set _ _) _ = _; rw [hbs, if_neg (Ne.symm e)]; exact e1, e2, ?_, ?_⟩
        · show at_ (s.x.set _ _) _ ≤ at_ (s.x.set _ _) _ + _
          have := hge (bI (elt l i))
          rw [hxs v, if_neg (Ne.symm e)]
          omega
        · have := hRge (bI (elt l i))
          omega
    · by_cases hex : ∃ t, t < p ∧ it (fr l s') t v = bJ (elt l k)
      · have hub : ∀ t, t ≤ p → it (fr l s') t v < n := by
          intro t
          induction t with
          | zero => intro _; exact hv
          | succ t ih =>
            intro ht
            have hi := ih (by omega)
            show fr l s' (it (fr l s') t v) < n
            by_cases e : it (fr l s') t v = bJ (elt l k)
            · rw [e, hfe]; exact hlt.1
            · rw [hfn _ e]
              have := hm t (by omega)
              rw [hRne _ e] at this
              exact (h.fr_of hf hi this).1
        have hstep : ∀ t, t < p → at_ s.x (it (fr l s') t v) ≤ at_ s.x (it (fr l s') (t + 1) v) + gp l s' (it (fr l s') t v) := by
          intro t ht
          show at_ s.x (it (fr l s') t v) ≤ at_ s.x (fr l s' (it (fr l s') t v)) + gp l s' (it (fr l s') t v)
          by_cases e : it (fr l s') t v = bJ (elt l k)
          · rw [e, hfe, hge']; omega
          · rw [hfn _ e, hgn _ e]
            have := hm t ht
            rw [hRne _ e] at this
            exact (h.fr_of hf (hub t (by omega)) this).2.1
        have := tele_lt (u := fun t => it (fr l s') t v) (X := at_ s.x) (g := fun t => gp l s' (it (fr l s') t v)) p hstep (by
          obtain ⟨t, htp, e⟩ := hex
          refine ⟨t, htp, ?_⟩
          show at_ s.x (it (fr l s') t v) < at_ s.x (fr l s' (it (fr l s') t v)) + gp l s' (it (fr l s') t v)
          rw [e, hfe, hge']
          exact ht)
        have e0 : it (fr l s') p v = v := hc
        have this : at_ s.x v < at_ s.x (it (fr l s') p v) + sg (fun t => gp l s' (it (fr l s') t v)) p := this
        rw [e0] at this
        show 0 < sg (fun t => gp l s' (it (fr l s') t v)) p
        omega
      · have hno : ∀ t, t < p → it (fr l s') t v ≠ bJ (elt l k) := fun t ht e => hex ⟨t, ht, e⟩
        have hit : ∀ t, t ≤ p → it (fr l s') t v = it (fr l s) t v := by
          intro t
          induction t with
          | zero => intro _; rfl
          | succ t ih =>
            intro ht
            have hi := ih (by omega)
            have hn := hno t (by omega)
            show fr l s' (it (fr l s') t v) = fr l s (it (fr l s) t v)
            rw [hfn _ hn, hi]
        have := h.cyc v p hv hp (fun t ht => by
          have h2 := hm t ht
          have h3 : 1 ≤ R' (it (fr l s') t v) := h2
          rw [hRne _ (hno t ht), hit t (by omega)] at h3
          exact h3) (by rw [← hit p (Nat.le_refl _)]; exact hc)
        show 0 < sg (fun t => gp l s' (it (fr l s') t v)) p
        rw [sg_congr (g' := fun t => gp l s (it (fr l s) t v)) p fun t ht => by
          show gp l s' (it (fr l s') t v) = gp l s (it (fr l s) t v)
          rw [hgn _ (hno t ht), hit t (by omega)]]
        exact this
    · have hne := hRlt (bI (elt l e)) (by omega)
      show at_ (s.x.set _ _) _ + _ ≤ at_ (s.x.set _ _) _
      have h1 := hge (bJ (elt l e))
      have h2 := hxs (bI (elt l e))
      rw [if_neg (Ne.symm hne)] at h2
      have := h.old e he (by have := hRge (bI (elt l e)); omega)
      omega
    · have hne := hRlt (bI (elt l e)) hR
      show at_ (s.x.set _ _) _ + _ ≤ at_ (s.x.set _ _) _
      have h1 := hge (bJ (elt l e))
      have h2 := hxs (bI (elt l e))
      rw [if_neg (Ne.symm hne)] at h2
      by_cases e2 : e = k
      · subst e2
        have h3 := hxs (bJ (elt l e))
        rw [if_pos rfl] at h3
        omega
      · have := h.new e (by omega) (by have := hRge (bI (elt l e)); omega)
        omega
theorem Inv.upto_ {r : Nat} {s : St} (hf : ∀ a ∈ l, Fit n a) (hr : 1 ≤ r) (h : ∃ R, Inv n l r 0 s R) : ∀ k, k ≤ l.length → ∃ R, Inv n l r k (upto l s k) R := by
  intro k
  induction k with
  | zero => intro _; exact h
  | succ k ih =>
    intro hk
    obtain ⟨R, hR⟩ := ih (by omega)
    exact hR.step hf hr (by omega)
theorem Inv.rnd_ (hf : ∀ a ∈ l, Fit n a) : ∀ r, ∃ R, Inv n l r l.length (rnd n l r) R := by
  intro r
  induction r with
  | zero => exact ⟨_, Inv.start n l⟩
  | succ r ih =>
    obtain ⟨R, hR⟩ := ih
    exact Inv.upto_ hf (by omega) ⟨R, hR.head⟩ l.length (Nat.le_refl _)
/-- What is found behind a pushing that did not end: whence each was moved, on and on, is well known, and is a ring in the end. -/
structure Ringed (n : Nat) (l : List Af) (s : St) (v q : Nat) : Prop where
  lst : s.last = v
  v0 : v < n
  ok : ∀ m, it (fr l s) m v < n ∧ ∃ i : Nat, i < l.length ∧ at_ s.b (it (fr l s) m v) = i ∧ bJ (elt l i) = it (fr l s) m v
  q1 : 1 ≤ q
  q2 : q ≤ n
  per : it (fr l s) q (it (fr l s) n v) = it (fr l s) n v
  min : ∀ t, 1 ≤ t → t < q → it (fr l s) t (it (fr l s) n v) ≠ it (fr l s) n v
  pos : 0 < sg (fun t => gp l s (it (fr l s) t (it (fr l s) n v))) q
theorem Pushed.ring {s : St} (hf : ∀ a ∈ l, Fit n a) (h : Pushed n l s) (hl : ¬ s.last < 0) : ∃ v q, Ringed n l s v q := by
  obtain ⟨r, h1, h2, rfl, h3, _⟩ := h.ex
  obtain rfl : r = n + 1 := by
    rcases h3 with h3 | h3
    · exact absurd h3 hl
    · exact h3
  clear h3 h1 h2
  obtain ⟨R, hI⟩ := Inv.rnd_ hf (n + 1)
  generalize rnd n l (n + 1) = s at *
  obtain ⟨v, hv, hlv, hRv⟩ := hI.last (by omega)
  have hstep : ∀ t, t ≤ n → it (fr l s) t v < n ∧ n + 1 ≤ R (it (fr l s) t v) + t := by
    intro t
    induction t with
    | zero => intro _; exact ⟨hv, by show n + 1 ≤ R v + 0; omega⟩
    | succ t ih =>
      intro ht
      obtain ⟨i1, i2⟩ := ih (by omega)
      obtain ⟨f1, _, f3⟩ := hI.fr_of hf i1 (by omega)
      exact ⟨f1, by show n + 1 ≤ R (fr l s (it (fr l s) t v)) + (t + 1); omega⟩
  obtain ⟨a, b, hab, hbn, he⟩ := pig n (fun t => it (fr l s) t v) fun t ht => (hstep t ht).1
  have he : it (fr l s) a v = it (fr l s) b v := he
  have hper : ∀ m, it (fr l s) (m + b) v = it (fr l s) (m + a) v := fun m => by rw [it_add, it_add, he]
  have hall : ∀ m, it (fr l s) m v < n ∧ 1 ≤ R (it (fr l s) m v) := by
    intro m
    induction m using Nat.strongRecOn with
    | ind m ih =>
      by_cases hm : m ≤ n
      · have := hstep m hm
        exact ⟨this.1, by omega⟩
      · have e := hper (m - b)
        rw [show m - b + b = m by omega] at e
        rw [e]
        exact ih (m - b + a) (by omega)
  have hw : it (fr l s) (b - a) (it (fr l s) n v) = it (fr l s) n v := by
    rw [← it_add]
    have e := hper (n - a)
    rw [show n - a + b = b - a + n by omega, show n - a + a = n by omega] at e
    exact e
  obtain ⟨q, q1, q2, q3, q4⟩ := least_per (fr l s) _ (b - a) (by omega) hw
  refine ⟨v, q, hlv, hv, fun m => ?_, q1, by omega, q3, q4, ?_⟩
  · obtain ⟨m1, m2⟩ := hall m
    obtain ⟨i, hi, e1, e2, _⟩ := hI.mv _ m1 m2
    exact ⟨m1, i, hi, e1, e2⟩
  · refine hI.cyc _ q (hall n).1 q1 (fun t _ => ?_) q3
    rw [← it_add]
    exact (hall _).2
/-- The ring, as the program hands it back. -/
def ringL (l : List Af) (s : St) (w q : Nat) : List Int := ((List.range q).map fun t => at_ s.b (it (fr l s) t w)).reverse
structure RingOk (n : Nat) (l : List Af) (g : List Int) : Prop where
  q1 : 1 ≤ g.length
  q2 : g.length ≤ n
  inl : ∀ i, i < g.length → 0 ≤ at_ g i ∧ at_ g i < l.length
  nxt : ∀ i, i < g.length → bJ (elt l (at_ g i).toNat) = bI (elt l (at_ g ((i + 1) % g.length)).toNat)
  dif : ∀ i k, i < g.length → k < i → bJ (elt l (at_ g k).toNat) ≠ bJ (elt l (at_ g i).toNat)
  pos : 0 < sg (fun i => bG (elt l (at_ g i).toNat)) g.length
theorem ringL_len (l : List Af) (s : St) (w q : Nat) : (ringL l s w q).length = q := by simp [ringL]
theorem ringL_at (l : List Af) (s : St) (w q i : Nat) (h : i < q) : at_ (ringL l s w q) i = at_ s.b (it (fr l s) (q - 1 - i) w) := by
  unfold at_ ringL
  simp only [List.getD_eq_getElem?_getD]
  rw [List.getElem?_reverse (by simpa using h)]
  simp only [List.length_map, List.length_range]
  rw [List.getElem?_map, List.getElem?_range (by omega)]
  rfl
theorem Ringed.list {s : St} {v q : Nat} (h : Ringed n l s v q) : RingOk n l (ringL l s (it (fr l s) n v) q) := by
  have q1 := h.q1
  have ok : ∀ t, ∃ i : Nat, i < l.length ∧ at_ s.b (it (fr l s) t (it (fr l s) n v)) = i ∧ bJ (elt l i) = it (fr l s) t (it (fr l s) n v) := fun t => by
    rw [← it_add]
    exact (h.ok (t + n)).2
  have hJ : ∀ t, bJ (elt l (at_ s.b (it (fr l s) t (it (fr l s) n v))).toNat) = it (fr l s) t (it (fr l s) n v) := fun t => by
    obtain ⟨i, _, e1, e2⟩ := ok t
    rw [e1]
    exact e2
  have hI : ∀ t, bI (elt l (at_ s.b (it (fr l s) t (it (fr l s) n v))).toNat) = it (fr l s) (t + 1) (it (fr l s) n v) := fun t => rfl
  have len := ringL_len l s (it (fr l s) n v) q
  have hat := fun i hi => ringL_at l s (it (fr l s) n v) q i hi
  have hdis : ∀ a b, a < b → b < q → it (fr l s) a (it (fr l s) n v) ≠ it (fr l s) b (it (fr l s) n v) := by
    intro a b hab hb e
    refine h.min (q - b + a) (by omega) (by omega) ?_
    rw [it_add, e, ← it_add, show q - b + b = q by omega]
    exact h.per
  refine ⟨by omega, by have := h.q2; omega, fun i hi => ?_, fun i hi => ?_, fun i k hi hk => ?_, ?_⟩
  · rw [hat i (by omega)]
    obtain ⟨j, hj, e1, _⟩ := ok (q - 1 - i)
    rw [e1]
    omega
  · rw [len] at hi ⊢
    rw [hat i hi, hJ]
    by_cases e : i + 1 = q
    · rw [e, Nat.mod_self, hat 0 (by omega), hI, show q - 1 - i = 0 by omega, show q - 1 - 0 + 1 = q by omega, h.per]
      rfl
    · rw [Nat.mod_eq_of_lt (by omega), hat (i + 1) (by omega), hI, show q - 1 - (i + 1) + 1 = q - 1 - i by omega]
  · rw [len] at hi
    rw [hat i hi, hat k (by omega), hJ, hJ]
    exact Ne.symm (hdis (q - 1 - i) (q - 1 - k) (by omega) (by omega))
  · rw [len]
    have := h.pos
    rw [← sg_rev q (fun t => gp l s (it (fr l s) t (it (fr l s) n v)))] at this
    rw [sg_congr (g' := fun t => gp l s (it (fr l s) (q - 1 - t) (it (fr l s) n v))) q fun t ht => by
      show bG (elt l (at_ (ringL l s (it (fr l s) n v) q) t).toNat) = _
      rw [hat t ht]
      rfl]
    exact this
end
end Df
end Go.Proofs.Ythmglahcampllaa
