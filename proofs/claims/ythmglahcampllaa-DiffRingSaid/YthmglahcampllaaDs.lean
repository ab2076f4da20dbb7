/- What is proved here: the reference's Right and Times; the law's mine; Same of equal numbers. Condition: they can be read. -/
import Derived.Test.YthmglahcampllaaDr
namespace Go.Proofs.Ythmglahcampllaa
open Go Go.RowKit
namespace Df
attribute [local go_sem] KW.cell KW.frozen
set_option maxRecDepth 100000 in
set_option maxHeartbeats 2000000 in
theorem rright_c (n : Int) (v : Value) (l : List Af) (w : World) (hv : AfR v l w) : Calls Try.prog 12 #[.int .i64 n, v] w fun e w' => e = .returned (.bool (rightB n l)) ∧ Below w.heap.size w w' := by
  obtain ⟨ao, c, rfl, hl, hc⟩ := hv.form
  unfold maxLen at hc
  have hm : l.length ≤ 9223372036854775807 := by omega
  clear hl hc
  have HV := Lib.hid hv
  clear hv
  go_enter Try.func12, Try.ntmps12
  go_wp2_with fail
  go_loopg [5] l.length (fun gg s5 wr => ∃ k : Nat, gg = l.length - k ∧ k ≤ l.length ∧ s5 = .int .i64 k ∧ Below w.heap.size w wr ∧ Hid (∀ i (_ : i < k) (h : i < l.length), FitZ n l[i]))
  case atStart => exact ⟨0, rfl, Nat.zero_le _, rfl, Below.refl _ _, Lib.hid fun i h => absurd h (Nat.not_lt_zero _)⟩
  case round =>
    obtain ⟨k, rfl, hk, rfl, hb, HO⟩ := hrel
    by_cases hlt : k < l.length
    · have hd : decide ((k : Int) < (l.length : Int)) = true := by simp; omega
      obtain ⟨a, rfl, hg, e0, e1, e2⟩ := (HV.out.kept hb).at_ k hlt
      have HN : Hid (¬ FitZ n ((l[k]).1, (l[k]).2.1, (l[k]).2.2) → rightB n l = false) := by
        refine Lib.hid fun h => ?_
        cases e : rightB n l with
        | false => rfl
        | true => exact absurd ((rightB_iff.1 e).2 _ (List.getElem_mem hlt)) h
      have HY : Hid (FitZ n ((l[k]).1, (l[k]).2.1, (l[k]).2.2) → Hid (∀ i (_ : i < k + 1) (h : i < l.length), FitZ n l[i])) := by
        refine Lib.hid fun hf => Lib.hid fun i hi h => ?_
        by_cases e : i = k
        · subst e; exact hf
        · exact HO.out i (by omega) h
      clear HO
      generalize (l[k]).1 = I at *
      generalize (l[k]).2.1 = J at *
      generalize (l[k]).2.2 = G at *
      by_cases c1 : I < 0
      · have hE : rightB n l = false := HN.out (by rw [FitZ_mk]; omega)
        have HE := Lib.hid hE
        clear hE
        go_wp2_with fail
        go_ret
        exact ⟨by rw [HE.out]; (first | done | rfl), hb⟩
      by_cases c2 : n ≤ I
      · have hE : rightB n l = false := HN.out (by rw [FitZ_mk]; omega)
        have HE := Lib.hid hE
        clear hE
        go_wp2_with fail
        go_ret
        exact ⟨by rw [HE.out]; (first | done | rfl), hb⟩
      by_cases c3 : J < 0
      · have hE : rightB n l = false := HN.out (by rw [FitZ_mk]; omega)
        have HE := Lib.hid hE
        clear hE
        go_wp2_with fail
        go_ret
        exact ⟨by rw [HE.out]; (first | done | rfl), hb⟩
      by_cases c4 : n ≤ J
      · have hE : rightB n l = false := HN.out (by rw [FitZ_mk]; omega)
        have HE := Lib.hid hE
        clear hE
        go_wp2_with fail
        go_ret
        exact ⟨by rw [HE.out]; (first | done | rfl), hb⟩
      by_cases c5 : G < -1073741824
      · have hE : rightB n l = false := HN.out (by rw [FitZ_mk]; omega)
        have HE := Lib.hid hE
        clear hE
        go_wp2_with fail
        go_ret
        exact ⟨by rw [HE.out]; (first | done | rfl), hb⟩
      by_cases c6 : 1073741824 < G
      · have hE : rightB n l = false := HN.out (by rw [FitZ_mk]; omega)
        have HE := Lib.hid hE
        clear hE
        go_wp2_with fail
        go_ret
        exact ⟨by rw [HE.out]; (first | done | rfl), hb⟩
      have HO' := Lib.hid (HY.out (by rw [FitZ_mk]; omega))
      go_wp2_with fail
      go_roundg (l.length - (k + 1))
      case measure => omega
      case rel => exact ⟨k + 1, rfl, by omega, by go_num, hb, HO'.out⟩
    · obtain rfl : k = l.length := by omega
      have hd : decide ((l.length : Int) < (l.length : Int)) = false := by simp
      have HA : ∀ a ∈ l, FitZ n a := fun a ha => by
        obtain ⟨i, hi, rfl⟩ := List.getElem_of_mem ha
        exact HO.out i hi hi
      have hR : rightB n l = decide (0 ≤ n ∧ n ≤ 64 ∧ l.length ≤ 256) := by
        rw [Bool.eq_iff_iff, rightB_iff, decide_eq_true_eq]
        exact ⟨fun h => h.1, fun h => ⟨h, HA⟩⟩
      have HR := Lib.hid hR
      clear hR HA HO
      by_cases h1 : n < 0
      · go_wp2_with fail
        go_ret
        exact ⟨by rw [HR.out, decide_eq_false (by omega)]; (first | done | rfl), hb⟩
      by_cases h2 : 64 < n
      · go_wp2_with fail
        go_ret
        exact ⟨by rw [HR.out, decide_eq_false (by omega)]; (first | done | rfl), hb⟩
      by_cases h3 : 256 < (l.length : Int)
      · have d3 : decide ((l.length : Int) ≤ 256) = false := by simp; omega
        have d4 : decide (l.length ≤ 256) = false := by simp; omega
        go_wp2_with fail
        go_ret
        exact ⟨by rw [HR.out, decide_eq_false (by omega)]; (first | done | rfl), hb⟩
      have d3 : decide ((l.length : Int) ≤ 256) = true := by simp; omega
      have d4 : decide (l.length ≤ 256) = true := by simp; omega
      go_wp2_with fail
      go_ret
      exact ⟨by rw [HR.out, decide_eq_true (by omega)]; (first | done | rfl), hb⟩
/-- May times be looked at? -/
def timesB (n : Int) (x : List Int) : Bool := (x.all fun t => decide (-1125899906842624 ≤ t ∧ t ≤ 1125899906842624)) && decide ((x.length : Int) = n)
theorem timesB_iff {n : Int} {x : List Int} : timesB n x = true ↔ (∀ t ∈ x, -1125899906842624 ≤ t ∧ t ≤ 1125899906842624) ∧ (x.length : Int) = n := by
  unfold timesB
  rw [Bool.and_eq_true, decide_eq_true_eq, List.all_eq_true]
  simp
set_option maxRecDepth 100000 in
set_option maxHeartbeats 1000000 in
theorem times_c (n : Int) (v : Value) (x : List Int) (w : World) (hv : RI v x w) : Calls Try.prog 26 #[.int .i64 n, v] w fun e w' => e = .returned (.bool (timesB n x)) ∧ Below w.heap.size w w' := by
  obtain ⟨ao, c, rfl, hl, hc⟩ := hv.form
  unfold maxLen at hc
  have hm : x.length ≤ 9223372036854775807 := by omega
  clear hl hc
  have HV := Lib.hid hv
  clear hv
  go_enter Try.func26, Try.ntmps26
  go_wp2_with fail
  go_loopg [5] x.length (fun gg s5 wr => ∃ k : Nat, gg = x.length - k ∧ k ≤ x.length ∧ s5 = .int .i64 k ∧ Below w.heap.size w wr ∧ Hid (∀ i (_ : i < k) (h : i < x.length), -1125899906842624 ≤ x[i] ∧ x[i] ≤ 1125899906842624))
  case atStart => exact ⟨0, rfl, Nat.zero_le _, rfl, Below.refl _ _, Lib.hid fun i h => absurd h (Nat.not_lt_zero _)⟩
  case round =>
    obtain ⟨k, rfl, hk, rfl, hb, HO⟩ := hrel
    by_cases hlt : k < x.length
    · have hd : decide ((k : Int) < (x.length : Int)) = true := by simp; omega
      obtain ⟨a, rfl, hg, e0⟩ := (HV.out.kept hb).at_ k hlt
      have HN : Hid (¬ (-1125899906842624 ≤ x[k] ∧ x[k] ≤ 1125899906842624) → timesB n x = false) := by
        refine Lib.hid fun h => ?_
        cases e : timesB n x with
        | false => rfl
        | true => exact absurd ((timesB_iff.1 e).1 _ (List.getElem_mem hlt)) h
      have HY : Hid ((-1125899906842624 ≤ x[k] ∧ x[k] ≤ 1125899906842624) → Hid (∀ i (_ : i < k + 1) (h : i < x.length), -1125899906842624 ≤ x[i] ∧ x[i] ≤ 1125899906842624)) := by
        refine Lib.hid fun hf => Lib.hid fun i hi h => ?_
        by_cases e : i = k
        · subst e; exact hf
        · exact HO.out i (by omega) h
      clear HO
      generalize x[k] = t at *
      by_cases c1 : t < -1125899906842624
      · have HE := Lib.hid (HN.out (by omega))
        go_wp2_with fail
        go_ret
        exact ⟨by rw [HE.out]; (first | done | rfl), hb⟩
      by_cases c2 : 1125899906842624 < t
      · have HE := Lib.hid (HN.out (by omega))
        go_wp2_with fail
        go_ret
        exact ⟨by rw [HE.out]; (first | done | rfl), hb⟩
      have HO' := Lib.hid (HY.out (by omega))
      go_wp2_with fail
      go_roundg (x.length - (k + 1))
      case measure => omega
      case rel => exact ⟨k + 1, rfl, by omega, by go_num, hb, HO'.out⟩
    · obtain rfl : k = x.length := by omega
      have hd : decide ((x.length : Int) < (x.length : Int)) = false := by simp
      have HA : ∀ t ∈ x, -1125899906842624 ≤ t ∧ t ≤ 1125899906842624 := fun a ha => by
        obtain ⟨i, hi, rfl⟩ := List.getElem_of_mem ha
        exact HO.out i hi hi
      have hR : timesB n x = decide ((x.length : Int) = n) := by
        rw [Bool.eq_iff_iff, timesB_iff, decide_eq_true_eq]
        exact ⟨fun h => h.2, fun h => ⟨HA, h⟩⟩
      have HR := Lib.hid hR
      clear hR HA HO
      by_cases h1 : (x.length : Int) = n
      · have hq : ((x.length : Int) == n) = true := by simpa using h1
        have HE := Lib.hid h1
        clear h1
        go_wp2_with fail
        go_ret
        exact ⟨by rw [HR.out, decide_eq_true HE.out]; (first | done | rfl), hb⟩
      · have hq : ((x.length : Int) == n) = false := by simpa using h1
        have HE := Lib.hid h1
        clear h1
        go_wp2_with fail
        go_ret
        exact ⟨by rw [HR.out, decide_eq_false HE.out]; (first | done | rfl), hb⟩
/-! mine -/
theorem belowG {B n e z : Nat} {w wx w1 w2 : World} {v : Value} {vs : List Value} (h : Below B w w1) (hB : B ≤ w1.heap.size) (hg : w1.grownBy w2 v.ownBlock) (hown : wx.ownsRow B e z v n vs) : Below B w w2 := by
  refine h.grown hg hB fun k hk => ?_
  rcases hown.2 with ⟨rfl, _⟩ | ⟨g, cap, cur, rfl, hg', _⟩
  · simp [Value.ownBlock] at hk
  · simp [Value.ownBlock] at hk
    omega
def flat3 (l : List Af) : List Value := l.flatMap fun a => [.int .i64 a.1, .int .i64 a.2.1, .int .i64 a.2.2]
theorem flat3_len (l : List Af) : (flat3 l).length = l.length * 3 := by
  induction l with
  | nil => rfl
  | cons o l ih => simp only [flat3, List.flatMap_cons, List.length_append, List.length_cons, List.length_nil] at *; omega
theorem flat3_get (l : List Af) : ∀ (i : Nat) (h : i < l.length), (flat3 l)[i * 3]? = some (.int .i64 (l[i]).1) ∧ (flat3 l)[i * 3 + 1]? = some (.int .i64 (l[i]).2.1) ∧ (flat3 l)[i * 3 + 2]? = some (.int .i64 (l[i]).2.2) := by
  induction l with
  | nil => intro i h; cases h
  | cons o l ih =>
    intro i h
    cases i with
    | zero => exact ⟨rfl, rfl, rfl⟩
    | succ i =>
      have := ih i (by simpa using h)
      have e1 : (i + 1) * 3 = i * 3 + 1 + 1 + 1 := by omega
      rw [e1]
      exact ⟨by simpa [flat3] using this.1, by simpa [flat3] using this.2.1, by simpa [flat3] using this.2.2⟩
theorem flat3_snoc (l : List Af) (k : Nat) (h : k < l.length) : flat3 (l.take k) ++ [.int .i64 (l[k]).1, .int .i64 (l[k]).2.1, .int .i64 (l[k]).2.2] = flat3 (l.take (k + 1)) := by
  rw [List.take_succ_eq_append_getElem h]
  simp only [flat3, List.flatMap_append]
  rfl
theorem AfP.own {B n : Nat} {v : Value} {l : List Af} {w : World} (h : w.ownsRow B 80 3 v n (flat3 l)) (hn : n = l.length) : AfP v l w := by
  subst hn
  rcases h.2 with ⟨rfl, h0⟩ | ⟨g, cap, cur, rfl, hB, hg, h1, h2, _⟩
  · exact ⟨⟨none, 0, by rw [h0], by omega, by decide⟩, fun k hk => absurd hk (by omega)⟩
  · refine ⟨⟨_, cap, rfl, h1, h2⟩, fun k hk => ?_⟩
    have e := flat3_get l k hk
    have a := h.cells rfl _ _ e.1
    have b := h.cells rfl _ _ e.2.1
    have c := h.cells rfl _ _ e.2.2
    rw [adh] at a b c
    exact ⟨g, cap, rfl, block_lt hg, a, b, c⟩
theorem info80 : (Try.prog.info? 80).map (fun i => (i.zero, i.size, i.bytes)) = some (some (.agg #[.int .i64 0, .int .i64 0, .int .i64 0]), 3, 24) := by kernel_rfl
set_option maxRecDepth 100000 in
set_option maxHeartbeats 4000000 in
theorem mine_c (v : Value) (l : List Af) (w : World) (hl : l.length ≤ 1000) (hv : AfR v l w) : Calls Try.prog 15 #[v] w fun e w' => ∃ u, e = .returned u ∧ AfP u l w' ∧ Below w.heap.size w w' := by
  obtain ⟨ao, c, rfl, _, _⟩ := hv.form
  obtain ⟨i0, hi, hz0, hz1, hz2⟩ := info_parts info80
  have HV := Lib.hid hv
  clear hv
  go_enter Try.func15, Try.ntmps15
  go_wp2_with fail
  go_loopg [3, 4] l.length (fun gg s3 s4 wr => ∃ (k : Nat) (vv : Value), gg = l.length - k ∧ k ≤ l.length ∧ s4 = .int .i64 k ∧ vv = s3 ∧ wr.ownsRow w.heap.size 80 3 vv k (flat3 (l.take k)) ∧ Below w.heap.size w wr)
  case atStart => exact ⟨0, _, rfl, Nat.zero_le _, rfl, rfl, ⟨rfl, .inl ⟨rfl, rfl⟩⟩, Below.refl _ _⟩
  case round =>
    obtain ⟨k, vv, rfl, hk, rfl, rfl, hown, hb⟩ := hrel
    by_cases hlt : k < l.length
    · have hd : decide ((k : Int) < (l.length : Int)) = true := by simp; omega
      obtain ⟨a, rfl, hg, e0, e1, e2⟩ := (HV.out.kept hb).at_ k hlt
      have HF := Lib.hid (flat3_snoc l k hlt)
      have hs := hb.size
      have HW := Lib.hid (fun (j : Nat) (w1 : World) (hg : ((wr.drewN j).alloc (Obj.cells #[.int .i64 (l[k]).1, .int .i64 (l[k]).2.1, .int .i64 (l[k]).2.2] 80)).grownBy w1 vv.ownBlock) => belowG (((below_drewN hb j).alloc hs (Obj.cells #[.int .i64 (l[k]).1, .int .i64 (l[k]).2.1, .int .i64 (l[k]).2.2] 80))) (by simp; omega) hg hown)
      have HE := Lib.hid (fun (w1 : World) (hw : Below w.heap.size w w1) => (HV.out.kept hw).at_ k hlt)
      have HE2 : Hid (∀ w1, Below w.heap.size w w1 → w1.cell? (a.add (k * 3)) = some (.int .i64 (l[k]).1) ∧ w1.cell? ⟨(a.add (k * 3)).block, (a.add (k * 3)).off + 1, none⟩ = some (.int .i64 (l[k]).2.1) ∧ w1.cell? ⟨(a.add (k * 3)).block, (a.add (k * 3)).off + 2, none⟩ = some (.int .i64 (l[k]).2.2)) := by
        refine Lib.hid fun w1 hw => ?_
        obtain ⟨a', ha, _, f⟩ := HE.out w1 hw
        cases ha
        exact f
      clear HE
      have hown1 := Lib.hid (fun j => World.ownsRow.alloc (w := wr.drewN j) hown (Obj.cells #[.int .i64 (l[k]).1, .int .i64 (l[k]).2.1, .int .i64 (l[k]).2.2] 80))
      clear hown
      generalize (l[k]).1 = I at *
      generalize (l[k]).2.1 = J at *
      generalize (l[k]).2.2 = G at *
      go_wp2_with fail
      go_region_held3 (fun w' => w'.cell? (a.add (k * 3)) = some (.int .i64 I) ∧ w'.cell? ⟨(a.add (k * 3)).block, (a.add (k * 3)).off + 1, none⟩ = some (.int .i64 J) ∧ w'.cell? ⟨(a.add (k * 3)).block, (a.add (k * 3)).off + 2, none⟩ = some (.int .i64 G))
        (first | (refine ⟨?_, ?_, ?_⟩ <;> go_simp; done) | (refine ⟨?_, ?_, ?_⟩ <;> (first | assumption | (simp [*, World.cell?_alloc_some]; done))) | (exact HE2.out _ hbw))
        (first | (refine step_append_lies _ rfl (.tmp 11) (.tmp 28) 28 rfl w.heap.size 80 i0 (.agg #[.int .i64 0, .int .i64 0, .int .i64 0]) 3 24 Try.underlying28 hi hz0 hz1 hz2 rfl (by decide) vv k (flat3 (l.take k)) rfl (hown1.out 1) ⟨wr.heap.size, 0, none⟩ 1 1 [.int .i64 I, .int .i64 J, .int .i64 G] rfl rfl (by intro j u hj; rcases j with _ | _ | _ | j <;> simp at hj <;> subst hj <;> simp [go_sem, Addr.add]) (by simp [Value.oneCell']) (by decide) (by unfold maxLen; omega) (by omega) (by simp; omega) (wr.heap.size + 1) (by simp) ?_; intro g' cap' w1 hown2 hgrow hat1 hlt1; have hbw := HW.out 1 w1 hgrow; have H2 := Lib.hid hown2; clear hgrow hown2 hat1))
      go_wp2_with fail
      go_roundg (l.length - (k + 1))
      case measure => omega
      case rel => exact ⟨k + 1, _, rfl, by omega, by go_num, rfl, by rw [← HF.out]; exact H2.out, hbw⟩
    · obtain rfl : k = l.length := by omega
      have hd : decide ((l.length : Int) < (l.length : Int)) = false := by simp
      rw [List.take_length] at hown
      have HO := Lib.hid hown
      clear hown
      go_wp2_with fail
      go_ret
      exact ⟨_, rfl, AfP.own HO.out rfl, hb⟩
/-! Same -/
set_option maxRecDepth 100000 in
set_option maxHeartbeats 1000000 in
theorem same_c (va vb : Value) (x : List Int) (w : World) (ha : RI va x w) (hb : RI vb x w) : Calls Try.prog 23 #[va, vb] w fun e w' => e = .returned (.bool true) ∧ Below w.heap.size w w' := by
  obtain ⟨ao, c, rfl, hl, hc⟩ := ha.form
  obtain ⟨bo, c', rfl, _, _⟩ := hb.form
  unfold maxLen at hc
  have hm : x.length ≤ 9223372036854775807 := by omega
  clear hl hc
  have HA := Lib.hid ha
  have HB := Lib.hid hb
  clear ha hb
  go_enter Try.func23, Try.ntmps23
  go_wp2_with fail
  go_loopg [5] x.length (fun gg s5 wr => ∃ k : Nat, gg = x.length - k ∧ k ≤ x.length ∧ s5 = .int .i64 k ∧ Below w.heap.size w wr)
  case atStart => exact ⟨0, rfl, Nat.zero_le _, rfl, Below.refl _ _⟩
  case round =>
    obtain ⟨k, rfl, hk, rfl, hb⟩ := hrel
    by_cases hlt : k < x.length
    · have hd : decide ((k : Int) < (x.length : Int)) = true := by simp; omega
      obtain ⟨a, rfl, hg, e0⟩ := (HA.out.kept hb).at_ k hlt
      obtain ⟨b, rfl, hg', e1⟩ := (HB.out.kept hb).at_ k hlt
      generalize x[k] = t at *
      have hk2 : (k : Int) < (x.length : Int) := by omega
      go_wp2_with fail
      go_quiet (fail)
      go_wp2_with fail
      go_roundg (x.length - (k + 1))
      case measure => omega
      case rel => exact ⟨k + 1, rfl, by omega, by go_num, below_drewN hb _⟩
    · obtain rfl : k = x.length := by omega
      have hd : decide ((x.length : Int) < (x.length : Int)) = false := by simp
      go_wp2_with fail
      go_ret
      exact ⟨rfl, hb⟩
end Df
end Go.Proofs.Ythmglahcampllaa
