/- What is proved here: the walk of DiffLeast. Condition: what it is given can be read. -/
import Derived.Test.YthmglahcampllaaDz
namespace Go.Proofs.Ythmglahcampllaa
open Go Go.RowKit
namespace Df
attribute [local go_sem] KW.cell KW.frozen
theorem Pushed.sz {n : Nat} {l : List Af} {s : St} (hf : ∀ a ∈ l, Fit n a) (hn : n ≤ 64) (hl : l.length ≤ 256) (h : Pushed n l s) (hs : s.last < 0) : timesB n s.x = true := by
  refine timesB_iff.2 ⟨fun t ht => ?_, by rw [h.len.1]⟩
  obtain ⟨i, hi, rfl⟩ := List.getElem_of_mem ht
  have hx := h.len.1
  have h0 := (h.yes hf hs).1.1 i (by omega)
  obtain ⟨r, h1, h2, rfl, _, _⟩ := h.ex
  have hb := rnd_bd hf hl r i
  rw [at_of hi] at h0 hb
  omega
theorem sol_of {n : Nat} {l : List Af} {y : List Int} (ht : timesB n y = true) (hy : ∀ t ∈ y, 0 ≤ t) : sol n l (at_ y) ↔ holds l (at_ y) := by
  have hl := (timesB_iff.1 ht).2
  refine ⟨fun h => h.2, fun h => ⟨fun j hj => ?_, h⟩⟩
  rw [at_of (by omega : j < y.length)]
  exact hy _ (List.getElem_mem _)
def isNil (x : List Int) : Bool := decide (x = [])
set_option maxRecDepth 100000 in
set_option maxHeartbeats 4000000 in
theorem law7 (n0 : Int) (v : Value) (l : List Af) (u : Value) (y : List Int) (W : World) (hv : AfR v l W) (hu : RI u y W) : Calls Try.prog 7 #[.int .i64 n0, v, u] W fun e W' => e = .returned (.bool true) ∧ Below W.heap.size W W' := by
  have hb0 := Below.refl W.heap.size W
  obtain ⟨ao, c, rfl, hl1, hl2⟩ := hv.form
  obtain ⟨bo, d, rfl, hx1, hx2⟩ := hu.form
  unfold maxLen at hl2 hx2
  have hlen : l.length ≤ 9223372036854775807 := by omega
  have hyl : y.length ≤ 9223372036854775807 := by omega
  have HV := Lib.hid hv
  have HU := Lib.hid hu
  clear hv hu hl1 hl2 hx1 hx2
  by_cases h1 : 256 < (l.length : Int)
  · have d1 : decide (256 < l.length) = true := by simp; omega
    generalize l.length = m at *
    go_enter Try.func7, Try.ntmps7
    go_wp2_with (go_at_call 13; refine (awake_b (by assumption)).mono ?_; rintro e w9 ⟨rfl, hb9⟩)
    go_ret
    exact ⟨rfl, hb9⟩
  have d1 : decide (256 < l.length) = false := by simp; omega
  have HR := Lib.hid (rright_c n0 (.slice ao l.length c) l W HV.out)
  have HT := Lib.hid (fun (w1 : World) (hb : Below W.heap.size W w1) => times_c n0 (.slice bo y.length d) y w1 (HU.out.kept hb))
  cases hR : rightB n0 l with
  | false =>
    rw [hR] at HR
    clear hR
    go_enter Try.func7, Try.ntmps7
    go_wp2_with (first | (go_at_call 12; refine HR.out.mono ?_; rintro e w1 ⟨rfl, hb1⟩) | (go_at_call 13; refine (awake_b (by assumption)).mono ?_; rintro e w9 ⟨rfl, hb9⟩))
    go_ret
    exact ⟨rfl, hb9⟩
  | true =>
    rw [hR] at HR
    cases hT : timesB n0 y with
    | false =>
      rw [hT] at HT
      clear hR hT
      go_enter Try.func7, Try.ntmps7
      go_wp2_with (first | (go_at_call 12; refine HR.out.mono ?_; rintro e w1 ⟨rfl, hb1⟩) | (go_at_call 26; refine (HT.out _ hb1).mono ?_; rintro e w2 ⟨rfl, hk2⟩; have hb2 := bon hb1 hk2) | (go_at_call 13; refine (awake_b (by assumption)).mono ?_; rintro e w9 ⟨rfl, hb9⟩))
      go_ret
      exact ⟨rfl, hb9⟩
    | true =>
      rw [hT] at HT
      obtain ⟨n, rfl⟩ : ∃ n : Nat, n0 = n := ⟨n0.toNat, by have := (rightB_iff.1 hR).1.1; omega⟩
      obtain ⟨hn, hl, hf⟩ := rightB_nat hR
      have hyn : y.length = n := by have := (timesB_iff.1 hT).2; omega
      have HF := Lib.hid hf
      have HRB := Lib.hid hR
      have HTB := Lib.hid hT
      have HYN := Lib.hid hyn
      clear hR hT hf hyn
      go_enter Try.func7, Try.ntmps7
      go_wp2_with (first | (go_at_call 12; refine HR.out.mono ?_; rintro e w1 ⟨rfl, hb1⟩) | (go_at_call 26; refine (HT.out _ hb1).mono ?_; rintro e w2 ⟨rfl, hk2⟩; have hb2 := bon hb1 hk2))
      clear HR HT hb1 hk2
      go_loopg [7] y.length (fun gg s7 wr => ∃ k : Nat, gg = y.length - k ∧ k ≤ y.length ∧ s7 = .int .i64 k ∧ Hid (∀ i (_ : i < k) (h : i < y.length), 0 ≤ y[i]) ∧ Below W.heap.size W wr)
      case atStart => exact ⟨0, rfl, Nat.zero_le _, rfl, Lib.hid fun i h => absurd h (Nat.not_lt_zero _), hb2⟩
      case round =>
        clear hb2 hb0
        obtain ⟨k, rfl, hk, rfl, HO, hb⟩ := hrel
        by_cases hlt : k < y.length
        · have hd : decide ((k : Int) < (y.length : Int)) = true := by simp; omega
          obtain ⟨a, rfl, hg, e0⟩ := (HU.out.kept hb).at_ k hlt
          have HY : Hid (0 ≤ y[k] → ∀ i (_ : i < k + 1) (h : i < y.length), 0 ≤ y[i]) := by
            refine Lib.hid fun hf i hi h => ?_
            by_cases e : i = k
            · subst e; exact hf
            · exact HO.out i (by omega) h
          clear HO
          generalize y[k] = t at *
          by_cases ht : t < 0
          · go_wp2_with (go_at_call 13; refine (awake_b (by assumption)).mono ?_; rintro e w9 ⟨rfl, hb9⟩)
            go_ret
            exact ⟨rfl, hb9⟩
          · have HO' := Lib.hid (HY.out (by omega))
            go_wp2_with fail
            go_roundg (y.length - (k + 1))
            case measure => omega
            case rel => exact ⟨k + 1, rfl, by omega, by go_num, HO'.out, hb⟩
        · obtain rfl : k = y.length := by omega
          have hd : decide ((y.length : Int) < (y.length : Int)) = false := by simp
          have HY : Hid (∀ t ∈ y, 0 ≤ t) := Lib.hid fun t ht => by
            obtain ⟨i, hi, rfl⟩ := List.getElem_of_mem ht
            exact HO.out i hi hi
          clear HO
          go_wp2_with fail
          refine (mine_b (by omega) HV hb).mono ?_
          rintro e w3 ⟨p, rfl, hp, hb3⟩
          clear hb
          go_wp2_with fail
          refine (earl_b (n : Int) hp (Below.refl _ _)).mono ?_
          rintro e w4 ⟨o, hbo, hk4, hans⟩
          have hb4 := bon hb3 hk4
          have HP := Lib.hid (hp.kept hk4)
          clear hp hk4 hb3
          have hs : ∃ s, Pushed n l s ∧ ((s.last < 0 ∧ o = some s.x) ∨ (¬ s.last < 0 ∧ o = none)) := by
            rcases hbo with ⟨h, _⟩ | ⟨k, hk, _, h⟩
            · rw [HRB.out] at h; cases h
            · obtain rfl : k = n := by omega
              exact h
          clear hbo
          obtain ⟨s, hps, hs⟩ := hs
          rcases hans with ⟨rfl, rfl⟩ | ⟨x, z, rfl, rfl, hr⟩
          · -- there are no times
            have hno : wrongR (n : Int) l y ≠ [] := by
              intro e
              have h1 : ¬ s.last < 0 := by
                rcases hs with ⟨_, h⟩ | ⟨h, _⟩
                · cases h
                · exact h
              exact hps.no HF.out h1 _ ((sol_of HTB.out HY.out).2 ((wrongR_nil HRB.out HTB.out).1 e))
            have HNO := Lib.hid hno
            clear hno hs hps
            go_wp2_with fail
            refine (rwrong_c (n : Int) _ _ l y w4 (by omega) (HV.out.kept hb4) (HU.out.kept hb4)).mono ?_
            rintro e w5 ⟨q, rfl, hq, hk5⟩
            have hb5 := bon hb4 hk5
            obtain ⟨qo, qc, rfl, hq1, hq2⟩ := hq.form
            have hz : 1 ≤ (wrongR (n : Int) l y).length := by
              rcases Nat.eq_zero_or_pos (wrongR (n : Int) l y).length with h0 | h0
              · exact absurd (List.eq_nil_of_length_eq_zero h0) HNO.out
              · exact h0
            clear hq
            generalize (wrongR (n : Int) l y).length = z at *
            have j1 : ((z : Int) == 0) = false := by simp; omega
            have j2 : (z == 0) = false := by simp; omega
            clear hk5 hb4
            go_wp2_with (go_at_call 13; refine (awake_b (by assumption)).mono ?_; rintro e w9 ⟨rfl, hb9⟩)
            go_ret
            exact ⟨rfl, hb9⟩
          · -- there are: the least ones
            have hx : s.last < 0 ∧ s.x = x := by
              rcases hs with ⟨h, h2⟩ | ⟨_, h⟩
              · exact ⟨h, (Option.some.inj h2).symm⟩
              · cases h
            obtain ⟨hsl, rfl⟩ := hx
            obtain ⟨hsol, hleast⟩ := hps.yes HF.out hsl
            have htx := hps.sz HF.out hn hl hsl
            have hwx : wrongR (n : Int) l s.x = [] := (wrongR_nil HRB.out htx).2 hsol.2
            have hxn := hps.len.1
            have HWX := Lib.hid hwx
            have HNN := Lib.hid hsol.1
            have HLE : Hid (wrongR (n : Int) l y = [] → ∀ j, j < n → at_ s.x j ≤ at_ y j) := Lib.hid fun e => hleast _ ((sol_of HTB.out HY.out).2 ((wrongR_nil HRB.out HTB.out).1 e))
            clear hs hps hsl hsol hleast htx hwx
            generalize s.x = x at *
            have HXN := Lib.hid hxn
            go_wp2_with fail
            refine (rwrong_c (n : Int) _ _ l y w4 (by omega) (HV.out.kept hb4) (HU.out.kept hb4)).mono ?_
            rintro e w5 ⟨q, rfl, hq, hk5⟩
            have hb5 := bon hb4 hk5
            obtain ⟨qo, qc, rfl, hq1, hq2⟩ := hq.form
            have hr5 := hr.kept hk5
            have HP5 := Lib.hid (HP.out.kept hk5)
            obtain ⟨ro, rc, hrz, _, _⟩ := hr5.form
            subst hrz
            have HX5 := Lib.hid hr5
            clear hq hk5 hb4 HP hr hr5
            have hcase : Hid (((wrongR (n : Int) l y).length == 0) = true → ∀ j, j < n → at_ x j ≤ at_ y j) := Lib.hid fun e => HLE.out (List.eq_nil_of_length_eq_zero (by simpa using e))
            clear HLE
            generalize (wrongR (n : Int) l y).length = z at *
            have hj1 : ((z : Int) == 0) = (z == 0) := by rw [Bool.eq_iff_iff]; simp
            obtain ⟨hold, hho⟩ : ∃ b, (z == 0) = b := ⟨_, rfl⟩
            rw [hho] at hcase hj1
            have jx : ((x.length : Int) == (n : Int)) = true := by rw [hxn]; simp
            have jx2 : ((x.length : Int) != (n : Int)) = false := by rw [hxn]; simp
            clear hxn
            cases hold
            · go_wp2_with fail
              refine (wrong_c (n : Int) p _ l x w5 HP5.out HX5.out).mono ?_
              rintro e w6 ⟨q', rfl, hq', hk6⟩
              rw [HWX.out] at hq'
              have hb6 := bon hb5 hk6
              have HX6 := Lib.hid (HX5.out.kept hk6)
              obtain ⟨qo', qc', rfl, _, _⟩ := hq'.form
              clear hq' hk6 hb5 HX5
              go_wp2_with fail
              go_loopg [12] n (fun gg s12 wr => ∃ k : Nat, gg = n - k ∧ k ≤ n ∧ s12 = .int .i64 k ∧ Below w6.heap.size w6 wr)
              case atStart => exact ⟨0, rfl, Nat.zero_le _, rfl, Below.refl _ _⟩
              case round =>
                obtain ⟨k, rfl, hk, rfl, hb⟩ := hrel
                have hbW := bon hb6 hb
                by_cases hlt : k < n
                · have hdk : decide ((k : Int) < (n : Int)) = true := by simp; omega
                  have hxl : k < x.length := by have := HXN.out; omega
                  have hyl2 : k < y.length := by have := HYN.out; omega
                  obtain ⟨a, rfl, hga, ea⟩ := (HX6.out.kept hb).at_ k hxl
                  obtain ⟨b, rfl, hgb, eb⟩ := (HU.out.kept hbW).at_ k hyl2
                  have hnn := HNN.out k hlt
                  have hle := hcase.out
                  rw [at_of hxl] at hnn
                  have hle := fun e => hle e k hlt
                  rw [at_of hxl, at_of hyl2] at hle
                  have zk1 : (k : Int) < (x.length : Int) := by omega
                  have zk2 : (k : Int) < (y.length : Int) := by omega
                  generalize x[k] = xk at *
                  generalize y[k] = yk at *
                  have dd : decide (xk < 0) = false := by simp; omega
                  clear hle
                  go_wp2_with fail
                  go_quiet (fail)
                  go_wp2_with fail
                  go_roundg (n - (k + 1))
                  case measure => omega
                  case rel => exact ⟨k + 1, rfl, by omega, by go_num, below_drewN hb _⟩
                · obtain rfl : k = n := by omega
                  have hdk : decide ((k : Int) < (k : Int)) = false := by simp
                  clear hb hb6
                  go_wp2_with (go_at_call 13; refine (awake_b (by assumption)).mono ?_; rintro e w9 ⟨rfl, hb9⟩)
                  go_ret
                  exact ⟨rfl, hb9⟩
            · go_wp2_with fail
              refine (wrong_c (n : Int) p _ l x w5 HP5.out HX5.out).mono ?_
              rintro e w6 ⟨q', rfl, hq', hk6⟩
              rw [HWX.out] at hq'
              have hb6 := bon hb5 hk6
              have HX6 := Lib.hid (HX5.out.kept hk6)
              obtain ⟨qo', qc', rfl, _, _⟩ := hq'.form
              clear hq' hk6 hb5 HX5
              go_wp2_with fail
              go_loopg [12] n (fun gg s12 wr => ∃ k : Nat, gg = n - k ∧ k ≤ n ∧ s12 = .int .i64 k ∧ Below w6.heap.size w6 wr)
              case atStart => exact ⟨0, rfl, Nat.zero_le _, rfl, Below.refl _ _⟩
              case round =>
                obtain ⟨k, rfl, hk, rfl, hb⟩ := hrel
                have hbW := bon hb6 hb
                by_cases hlt : k < n
                · have hdk : decide ((k : Int) < (n : Int)) = true := by simp; omega
                  have hxl : k < x.length := by have := HXN.out; omega
                  have hyl2 : k < y.length := by have := HYN.out; omega
                  obtain ⟨a, rfl, hga, ea⟩ := (HX6.out.kept hb).at_ k hxl
                  obtain ⟨b, rfl, hgb, eb⟩ := (HU.out.kept hbW).at_ k hyl2
                  have hnn := HNN.out k hlt
                  have hle := hcase.out
                  rw [at_of hxl] at hnn
                  have hle := fun e => hle e k hlt
                  rw [at_of hxl, at_of hyl2] at hle
                  have zk1 : (k : Int) < (x.length : Int) := by omega
                  have zk2 : (k : Int) < (y.length : Int) := by omega
                  generalize x[k] = xk at *
                  generalize y[k] = yk at *
                  have dd : decide (xk < 0) = false := by simp; omega
                  have hle2 := hle (by simp)
                  have dd2 : decide (yk < xk) = false := by simp; omega
                  clear hle
                  go_wp2_with fail
                  go_quiet (fail)
                  go_wp2_with fail
                  go_roundg (n - (k + 1))
                  case measure => omega
                  case rel => exact ⟨k + 1, rfl, by omega, by go_num, below_drewN hb _⟩
                · obtain rfl : k = n := by omega
                  have hdk : decide ((k : Int) < (k : Int)) = false := by simp
                  clear hb hb6
                  go_wp2_with (go_at_call 13; refine (awake_b (by assumption)).mono ?_; rintro e w9 ⟨rfl, hb9⟩)
                  go_ret
                  exact ⟨rfl, hb9⟩
end Df
end Go.Proofs.Ythmglahcampllaa
