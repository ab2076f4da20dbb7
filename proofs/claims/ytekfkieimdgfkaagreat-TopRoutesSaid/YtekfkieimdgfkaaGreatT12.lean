/- What is proved here: which numbers of a field a policy knows of, rising. Condition: it can be read. -/
import Derived.Test.YtekfkieimdgfkaaGreatT09
import Derived.Test.YtekfkieimdgfkaaGreatT11
namespace Go.Proofs.YtekfkieimdgfkaaGreat
open Go Go.RowKit
attribute [local go_sem] KW.cell KW.frozen
/-- What a policy has by its kind, also where it is cut. -/
def ShapeV (x : Pol) : Prop := (x.k = 1 ∧ x.l = []) ∨ (x.k = 2 ∧ x.pk = 0 ∧ x.pf = 0 ∧ x.pn = 0 ∧ x.l = []) ∨ ((x.k = 3 ∨ x.k = 4) ∧ x.pk = 0 ∧ x.pf = 0 ∧ x.pn = 0 ∧ x.l.length ≤ 8)
def OkV : Nat → Pol → Prop
  | 0, x => ShapeV x
  | d + 1, x => ShapeV x ∧ ∀ y ∈ x.l, OkV d y
theorem ShapeOk.v {x : Pol} (h : ShapeOk x) : ShapeV x := by
  rcases h with ⟨h, _, _, _, hl⟩ | ⟨h, h1, h2, h3, _, _, _, _, hl⟩ | ⟨h, h1, h2, h3, _, _, _, hl⟩
  · exact .inl ⟨h, hl⟩
  · exact .inr (.inl ⟨h, h1, h2, h3, hl⟩)
  · exact .inr (.inr ⟨h, h1, h2, h3, hl⟩)
theorem OkP.v : ∀ {d : Nat} {x : Pol}, OkP d x → OkV d x := by
  intro d
  induction d with
  | zero => intro x h; exact h.shape.v
  | succ d ih => intro x h; exact ⟨h.shape.v, fun y hy => ih (h.2 y hy)⟩
theorem OkV.shape {d : Nat} {x : Pol} (h : OkV d x) : ShapeV x := by
  cases d
  · exact h
  · exact h.1
theorem ShapeV.at_ {sw : Int} {x : Pol} {l : List Pol} (h : ShapeV x) (hl : l.length = x.l.length ∨ l = []) : ShapeV (atX sw x l) := by
  have h0 : x.l = [] → l = [] := fun e => by
    rcases hl with h | h
    · rw [e] at h; exact List.eq_nil_of_length_eq_zero h
    · exact h
  have h8 : x.l.length ≤ 8 → l.length ≤ 8 := fun e => by
    rcases hl with h | h
    · omega
    · rw [h]; simp
  rcases h with ⟨h, hl⟩ | ⟨h, h1, h2, h3, hl⟩ | ⟨h, h1, h2, h3, hl⟩
  · exact .inl ⟨h, h0 hl⟩
  · have e : cutX sw x = (0, 0, 0) := by unfold cutX; rw [if_neg (by omega)]
    exact .inr (.inl ⟨h, by show (cutX sw x).1 = 0; rw [e], by show (cutX sw x).2.1 = 0; rw [e], by show (cutX sw x).2.2 = 0; rw [e], h0 hl⟩)
  · have e : cutX sw x = (0, 0, 0) := by unfold cutX; rw [if_neg (by omega)]
    exact .inr (.inr ⟨h, by show (cutX sw x).1 = 0; rw [e], by show (cutX sw x).2.1 = 0; rw [e], by show (cutX sw x).2.2 = 0; rw [e], h8 hl⟩)
theorem OkV.at_ {sw : Int} : ∀ {d : Nat} {x : Pol}, OkV d x → DepP d x → OkV d (atF sw d x) ∧ DepP d (atF sw d x) := by
  intro d
  induction d with
  | zero => intro x h _; exact ⟨ShapeV.at_ h (.inr rfl), rfl⟩
  | succ d ih =>
    intro x h hd
    have key : ∀ y ∈ x.l.map (atF sw d), OkV d y ∧ DepP d y := fun y hy => by
      obtain ⟨z, hz, rfl⟩ := List.mem_map.1 hy
      exact ih (h.2 z hz) (hd z hz)
    exact ⟨⟨ShapeV.at_ h.1 (.inl (by simp)), fun y hy => (key y hy).1⟩, fun y hy => (key y hy).2⟩
def valsF (fl : Int) : Nat → Pol → List Int
  | 0, x => ownV x fl
  | d + 1, x => ownV x fl ++ x.l.flatMap (valsF fl d)
theorem val_any (fl : Int) (x : Pol) (d : Nat) (G : Pol → List Int) (hs : ShapeV x) (IH : ∀ y ∈ x.l, ValC fl d y (G y)) : ValC fl (d + 1) x (ownV x fl ++ x.l.flatMap G) := by
  obtain ⟨k, pk, pf, pn, f, v, l⟩ := x
  rcases hs with ⟨h, hl⟩ | ⟨h, h1, h2, h3, hl⟩ | ⟨h, h1, h2, h3, _⟩
  · simp only [Pol.k, Pol.l] at h hl
    subst h hl
    have e : ownV (.mk 1 pk pf pn f v []) fl ++ (Pol.mk 1 pk pf pn f v []).l.flatMap G = ownV (.mk 1 pk pf pn f v []) fl := by simp [Pol.l]
    rw [e]
    exact val_leaf1 fl pk pf pn f v d
  · simp only [Pol.k, Pol.pk, Pol.pf, Pol.pn, Pol.l] at h h1 h2 h3 hl
    subst h h1 h2 h3 hl
    have e : ownV (.mk 2 0 0 0 f v []) fl ++ (Pol.mk 2 0 0 0 f v []).l.flatMap G = ownV (.mk 2 0 0 0 f v []) fl := by simp [Pol.l]
    rw [e]
    exact val_leaf2 fl f v d
  · simp only [Pol.k, Pol.pk, Pol.pf, Pol.pn] at h h1 h2 h3
    subst h1 h2 h3
    have e : ownV (.mk k 0 0 0 f v l) fl ++ (Pol.mk k 0 0 0 f v l).l.flatMap G = l.flatMap G := by
      have hk : (k == 2) = false := by rw [beq_eq_false_iff_ne]; omega
      simp [ownV, Pol.k, Pol.pk, Pol.pf, Pol.pn, Pol.l, pvals_no, hk]
    rw [e]
    exact val_step fl k f v l d G h IH
theorem vals_c (fl : Int) : ∀ (d : Nat) (x : Pol), OkV d x → DepP d x → ValC fl (d + 1) x (valsF fl d x) := by
  intro d
  induction d with
  | zero =>
    intro x ho hd
    have hl : x.l = [] := hd
    have h := val_any fl x 0 (fun _ => []) ho (fun y hy => by rw [hl] at hy; cases hy)
    have e : ownV x fl ++ x.l.flatMap (fun _ => ([] : List Int)) = valsF fl 0 x := by rw [hl]; simp [valsF]
    rw [e] at h
    exact h
  | succ d ih =>
    intro x ho hd
    exact val_any fl x (d + 1) (valsF fl d) ho.1 (fun y hy => ih y (ho.2 y hy) (hd y hy))
set_option maxRecDepth 100000 in
set_option maxHeartbeats 8000000 in
theorem values_c (fl : Int) (d : Nat) (x : Pol) (u : Value) (w : World) (ho : OkV d x) (hd : DepP d x) (hr : RdP AnyP (d + 1) u x.l w) (hn : (valsF fl d x).length ≤ 1000) :
    Calls Tryz.prog 31 #[polV x u, .int .i64 fl] w fun e w' => ∃ v, e = .returned v ∧ w'.ownsRow w.heap.size 3 1 v (sv (valsF fl d x)).length (IV (sv (valsF fl d x))) ∧ Below w.heap.size w w' := by
  obtain ⟨uo, uc, rfl, _, huc⟩ := hr.form
  have HV := Lib.hid (vals_c fl d x ho hd)
  obtain ⟨zs, hzs⟩ : ∃ l, l = valsF fl d x := ⟨_, rfl⟩
  rw [← hzs] at hn HV ⊢
  have HR := Lib.hid ((hr.mono (P' := fun g => g < w.heap.size + 1) fun g _ hg => by omega).kept (grow1 w (.cells (polL x (.slice uo x.l.length uc)).toArray 55)))
  have HB := Lib.hid (grow1 w (.cells (polL x (.slice uo x.l.length uc)).toArray 55))
  have HG := Lib.hid (heap_alloc_new w (.cells (polL x (.slice uo x.l.length uc)).toArray 55))
  obtain ⟨ys, hys⟩ : ∃ l, l = sv zs := ⟨_, rfl⟩
  have HY := Lib.hid hys
  rw [← hys]
  clear hr ho hd hzs hys
  unfold polV
  go_enter Tryz.func31, Tryz.ntmps31
  go_wp2_with (refine stop_load 55 _ rfl ?_)
  obtain ⟨fs, hu55⟩ := und55
  refine Stop.go (wpList_load_row rfl 55 _ rfl w.heap.size rfl 55 _ (0, 0) _ HG.out hu55 rfl inf55 ?_)
  clear hu55
  go_wp2_with fail
  refine (HV.out (.slice uo x.l.length uc) (w.heap.size + 1) (.slice none 0 0) [] _ (own_nil _ _ _ _) (by simp) HR.out (by simpa using hn)).mono ?_
  rintro e w1 ⟨v1, rfl, hown, hb⟩
  have HO := Lib.hid (own_mono (B' := w.heap.size) hown (by omega))
  have HB1 := Lib.hid (HB.out.trans (hb.mono (by omega)))
  have hO : w1.ownsRow w.heap.size 3 1 v1 zs.length (IV zs) := by simpa using HO.out
  have HO1 := Lib.hid hO
  clear hown hb HO hO HB HG HR HV
  go_wp2_with fail
  refine (sort_own w.heap.size v1 zs w1 HO1.out hn).mono ?_
  rintro e w2 ⟨rfl, hown, hg⟩
  rw [← sortI_len] at hown
  have HO2 := Lib.hid hown
  have HB2 := Lib.hid (HB1.out.grown hg HB1.out.size fun j hj => (HO1.out.lt j hj).1)
  clear hown hg HO1 HB1
  go_wp2_with fail
  refine (compact_own w.heap.size v1 (sortI zs) w2 HO2.out (by rw [sortI_len]; exact hn)).mono ?_
  rintro e w3 ⟨v', rfl, hown, hvb, hg⟩
  have HO3 : Hid (w3.ownsRow w.heap.size 3 1 v' ys.length (IV ys)) := Lib.hid (by rw [HY.out]; exact hown)
  have HB3 := Lib.hid (HB2.out.grown hg HB2.out.size fun j hj => (HO2.out.lt j hj).1)
  clear hown hg HO2 HB2 hvb
  go_wp2_with fail
  go_ret
  exact ⟨_, rfl, HO3.out, HB3.out⟩
end Go.Proofs.YtekfkieimdgfkaaGreat
/- What is proved here: how many cells there are of all numbers that a policy knows of. Condition: it can be read. -/
namespace Go.Proofs.YtekfkieimdgfkaaGreat
open Go Go.RowKit
attribute [local go_sem] KW.cell KW.frozen
def cellsN (L : Int → Nat) : Nat → Int
  | 0 => 1
  | k + 1 => min (cellsN L k * ((L k : Int) + 1)) 100000
theorem cellsN_bd (L : Int → Nat) (k : Nat) : 0 ≤ cellsN L k ∧ cellsN L k ≤ 100000 := by
  induction k with
  | zero => simp [cellsN]
  | succ k ih =>
    unfold cellsN
    have := Int.mul_nonneg ih.1 (show (0 : Int) ≤ (L k : Int) + 1 by omega)
    omega
theorem mul_le_big {a b : Int} (h0 : 0 ≤ a) (h1 : a ≤ 100000) (h2 : 0 ≤ b) (h3 : b ≤ 1001) : 0 ≤ a * b ∧ a * b ≤ 100100000 := by
  refine ⟨Int.mul_nonneg h0 h2, ?_⟩
  have h4 : a * b ≤ 100000 * b := Int.mul_le_mul_of_nonneg_right h1 h2
  omega
set_option maxRecDepth 100000 in
set_option maxHeartbeats 8000000 in
theorem cells_c (d : Nat) (x : Pol) (u : Value) (w : World) (ho : OkV d x) (hd : DepP d x) (hr : RdP AnyP (d + 1) u x.l w) (hn : ∀ fl, (valsF fl d x).length ≤ 1000) :
    Ret 35 #[polV x u] (.int .i64 (cellsN (fun fl => (sv (valsF fl d x)).length) 5)) w := by
  obtain ⟨uo, uc, rfl, _, huc⟩ := hr.form
  have HX := Lib.hid (fun fl w' h => values_c fl d x (.slice uo x.l.length uc) w' ho hd h (hn fl))
  have HL := Lib.hid (show ∀ fl, (sv (valsF fl d x)).length ≤ 1000 from fun fl => Nat.le_trans (sv_len _) (hn fl))
  have HR := Lib.hid (hr.kept (grow1 w (.cells (polL x (.slice uo x.l.length uc)).toArray 55)))
  have HB := Lib.hid (grow1 w (.cells (polL x (.slice uo x.l.length uc)).toArray 55))
  have HG := Lib.hid (heap_alloc_new w (.cells (polL x (.slice uo x.l.length uc)).toArray 55))
  obtain ⟨L, hL⟩ : ∃ L : Int → Nat, L = fun fl => (sv (valsF fl d x)).length := ⟨_, rfl⟩
  have HLe := Lib.hid (show ∀ fl, (sv (valsF fl d x)).length = L fl from fun fl => by rw [hL])
  rw [← hL]
  clear hr ho hd hn hL
  unfold Ret polV
  go_enter Tryz.func35, Tryz.ntmps35
  go_wp2_with fail
  refine abs_wp ?_
  intro W hW
  have HR1 : Hid (RdP AnyP (d + 1) (.slice uo x.l.length uc) x.l W) := by rw [hW]; exact HR
  have HB1 : Hid (Below w.heap.size w W) := by rw [hW]; exact HB
  have HG1 : Hid (W.heap[w.heap.size]? = some (.cells (polL x (.slice uo x.l.length uc)).toArray 55 (0, 0))) := by rw [hW]; exact HG
  have hWs : w.heap.size < W.heap.size := by rw [hW]; simp
  clear hW HR HB HG
  go_loopw [3, 4] (fun m i wr => ∃ (k : Nat) (a : Int), i = .int .i64 k ∧ k ≤ 5 ∧ m = .int .i64 a ∧ Hid (a = cellsN L k) ∧ Hid (Below W.heap.size W wr)) (fun _ i _ => 5 - (intOf i).toNat)
  case atStart => exact ⟨0, 1, rfl, by omega, rfl, Lib.hid rfl, Lib.hid (Below.refl _ _)⟩
  case round =>
    obtain ⟨k, a, rfl, hk, rfl, HE, HB2⟩ := hrel
    by_cases hlt : k < 5
    · have hd : decide ((k : Int) ≤ 4) = true := by simp; omega
      have HG2 := Lib.hid ((HB2.out.block w.heap.size hWs).trans HG1.out)
      go_wp2_with (refine stop_load 55 _ rfl ?_)
      obtain ⟨fs, hu55⟩ := und55
      refine Stop.go (wpList_load_row rfl 55 _ rfl w.heap.size rfl 55 _ (0, 0) _ HG2.out hu55 rfl inf55 ?_)
      clear hu55
      go_wp2_with fail
      refine (HX.out k _ (HR1.out.kept HB2.out)).mono ?_
      rintro e w4 ⟨v, rfl, hown, hb4⟩
      rw [HLe.out] at hown
      obtain ⟨vo, vc, rfl, _, _⟩ := own_form hown
      have HB4 : Hid (Below W.heap.size W w4) := Lib.hid (HB2.out.trans (hb4.mono HB2.out.size))
      have hbd := cellsN_bd L k
      have hl := HL.out k
      rw [HLe.out] at hl
      rw [← HE.out] at hbd
      have HN : Hid (cellsN L (k + 1) = min (a * ((L k : Int) + 1)) 100000) := Lib.hid (by rw [HE.out]; rfl)
      generalize L k = ll at *
      obtain ⟨m1, m2⟩ := mul_le_big hbd.1 hbd.2 (show (0 : Int) ≤ (ll : Int) + 1 by omega) (by omega)
      clear hb4 hown HG2
      go_wp2_with fail
      go_roundw
      case rel => exact ⟨k + 1, _, by go_num, by omega, rfl, Lib.hid HN.out.symm, HB4⟩
      case measure => simp [intOf]; omega
    · obtain rfl : k = 5 := by omega
      have HF := Lib.hid (HB1.out.trans (HB2.out.mono (Nat.le_of_lt hWs)))
      go_wp2_with fail
      go_ret
      exact ⟨by rw [← HE.out]; rfl, HF.out⟩
end Go.Proofs.YtekfkieimdgfkaaGreat
