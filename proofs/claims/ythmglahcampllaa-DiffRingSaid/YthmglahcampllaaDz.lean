/- What is proved here: the walk of DiffTells. Condition: what it is given can be read. -/
import Derived.Test.YthmglahcampllaaDy
namespace Go.Proofs.Ythmglahcampllaa
open Go Go.RowKit
namespace Df
attribute [local go_sem] KW.cell KW.frozen
set_option maxRecDepth 100000 in
set_option maxHeartbeats 2000000 in
theorem law6 (n : Int) (v : Value) (l : List Af) (u : Value) (x : List Int) (W : World) (hv : AfR v l W) (hu : RI u x W) : Calls Try.prog 6 #[.int .i64 n, v, u] W fun e W' => e = .returned (.bool true) ∧ Below W.heap.size W W' := by
  have hb0 := Below.refl W.heap.size W
  obtain ⟨ao, c, rfl, hl1, hl2⟩ := hv.form
  obtain ⟨bo, d, rfl, hx1, hx2⟩ := hu.form
  unfold maxLen at hl2 hx2
  have HV := Lib.hid hv
  have HU := Lib.hid hu
  clear hv hu
  by_cases h1 : 300 < (l.length : Int)
  · have d1 : decide (300 < l.length) = true := by simp; omega
    generalize l.length = m at *
    go_enter Try.func6, Try.ntmps6
    go_wp2_with (go_at_call 13; refine (awake_b (by assumption)).mono ?_; rintro e w1 ⟨rfl, hb1⟩)
    go_ret
    exact ⟨rfl, hb1⟩
  by_cases h2 : 100 < (x.length : Int)
  · have d1 : decide (300 < l.length) = false := by simp; omega
    have d2 : decide (100 < x.length) = true := by simp; omega
    generalize l.length = m at *
    generalize x.length = m' at *
    go_enter Try.func6, Try.ntmps6
    go_wp2_with (go_at_call 13; refine (awake_b (by assumption)).mono ?_; rintro e w1 ⟨rfl, hb1⟩)
    go_ret
    exact ⟨rfl, hb1⟩
  have d1 : decide (300 < l.length) = false := by simp; omega
  have d2 : decide (100 < x.length) = false := by simp; omega
  have hm : l.length ≤ 1000 := by omega
  clear hl1 hl2 hx1 hx2
  go_enter Try.func6, Try.ntmps6
  go_wp2_with fail
  refine (mine_b hm HV hb0).mono ?_
  rintro e w1 ⟨p, rfl, hp, hb1⟩
  go_wp2_with fail
  refine (earl_b n hp (Below.refl _ _)).mono ?_
  rintro e w2 ⟨o, hbo, hk2, ha⟩
  have hb2 := bon hb1 hk2
  have HP := Lib.hid (hp.kept hk2)
  have HO := Lib.hid hbo
  clear hp hk2 hb1 hbo
  rcases ha with ⟨rfl, rfl⟩ | ⟨y, z, rfl, rfl, hr⟩
  · go_wp2_with fail
    refine (rearl_b (v := .slice ao l.length c) n none HO (Lib.hid (HV.out.kept hb2)) (Below.refl _ _)).mono ?_
    rintro e w3 ⟨hk3, ⟨_, rfl⟩ | ⟨y, z, h0, _⟩⟩
    · have hb3 := bon hb2 hk3
      have HP3 := Lib.hid (HP.out.kept hk3)
      have hn : RI (.slice none 0 0) [] w3 := .inl ⟨rfl, rfl⟩
      clear hb2 hk3 HP HO
      have HY := Lib.hid hn
      have HY' := Lib.hid hn
      clear hn
      go_wp2_with fail
      refine (right_c n p l w3 HP3.out).mono ?_
      rintro e w4 ⟨rfl, hk4⟩
      have hb4 := bon hb3 hk4
      have HP4 := Lib.hid (HP3.out.kept hk4)
      go_wp2_with fail
      refine (rright_c n _ l w4 (HV.out.kept hb4)).mono ?_
      rintro e w5 ⟨rfl, hk5⟩
      have hb5 := bon hb4 hk5
      have HP5 := Lib.hid (HP4.out.kept hk5)
      have hk35 := bon hk4 hk5
      clear HP3 HP4 hb4 hb3 hk4 hk5
      generalize rightB n l = rb at *
      cases rb
      all_goals
        go_wp2_with fail
        refine (wrong_c n p _ l x w5 HP5.out (HU.out.kept hb5)).mono ?_
        rintro e w6 ⟨q, rfl, hq, hk6⟩
        have hb6 := bon hb5 hk6
        go_wp2_with fail
        refine (rwrong_c n _ _ l x w6 hm (HV.out.kept hb6) (HU.out.kept hb6)).mono ?_
        rintro e w7 ⟨q', rfl, hq', hk7⟩
        have hb7 := bon hb6 hk7
        go_wp2_with fail
        refine (same_c _ _ _ w7 (hq.kept hk7) hq').mono ?_
        rintro e w8 ⟨rfl, hk8⟩
        have hb8 := bon hb7 hk8
        have hk38 := bon (bon (bon hk35 hk6) hk7) hk8
        clear hq hq' hk6 hk7 hk8 hb5 hb6 hb7
        go_wp2_with fail
        refine (same_c _ _ [] w8 (HY.out.kept hk38) (HY'.out.kept hk38)).mono ?_
        rintro e w9 ⟨rfl, hk9⟩
        have hb9 := bon hb8 hk9
        clear hk38 hk9 hb8
        go_wp2_with (go_at_call 13; refine (awake_b (by assumption)).mono ?_; rintro e w10 ⟨rfl, hb10⟩)
        go_ret
        exact ⟨rfl, hb10⟩
    · cases h0
  · go_wp2_with fail
    refine (rearl_b (v := .slice ao l.length c) n (some y) HO (Lib.hid (HV.out.kept hb2)) (Below.refl _ _)).mono ?_
    rintro e w3 ⟨hk3, ⟨h0, _⟩ | ⟨y', z', h0, rfl, hr'⟩⟩
    · cases h0
    · obtain rfl := Option.some.inj h0
      have hb3 := bon hb2 hk3
      have HP3 := Lib.hid (HP.out.kept hk3)
      have hr3 := hr.kept hk3
      clear hb2 hk3 HP HO hr
      have HY := Lib.hid hr3
      have HY' := Lib.hid hr'
      clear hr' hr3
      go_wp2_with fail
      refine (right_c n p l w3 HP3.out).mono ?_
      rintro e w4 ⟨rfl, hk4⟩
      have hb4 := bon hb3 hk4
      have HP4 := Lib.hid (HP3.out.kept hk4)
      go_wp2_with fail
      refine (rright_c n _ l w4 (HV.out.kept hb4)).mono ?_
      rintro e w5 ⟨rfl, hk5⟩
      have hb5 := bon hb4 hk5
      have HP5 := Lib.hid (HP4.out.kept hk5)
      have hk35 := bon hk4 hk5
      clear HP3 HP4 hb4 hb3 hk4 hk5
      generalize rightB n l = rb at *
      cases rb
      all_goals
        go_wp2_with fail
        refine (wrong_c n p _ l x w5 HP5.out (HU.out.kept hb5)).mono ?_
        rintro e w6 ⟨q, rfl, hq, hk6⟩
        have hb6 := bon hb5 hk6
        go_wp2_with fail
        refine (rwrong_c n _ _ l x w6 hm (HV.out.kept hb6) (HU.out.kept hb6)).mono ?_
        rintro e w7 ⟨q', rfl, hq', hk7⟩
        have hb7 := bon hb6 hk7
        go_wp2_with fail
        refine (same_c _ _ _ w7 (hq.kept hk7) hq').mono ?_
        rintro e w8 ⟨rfl, hk8⟩
        have hb8 := bon hb7 hk8
        have hk38 := bon (bon (bon hk35 hk6) hk7) hk8
        clear hq hq' hk6 hk7 hk8 hb5 hb6 hb7
        go_wp2_with fail
        refine (same_c _ _ y w8 (HY.out.kept hk38) (HY'.out.kept hk38)).mono ?_
        rintro e w9 ⟨rfl, hk9⟩
        have hb9 := bon hb8 hk9
        clear hk38 hk9 hb8
        go_wp2_with (go_at_call 13; refine (awake_b (by assumption)).mono ?_; rintro e w10 ⟨rfl, hb10⟩)
        go_ret
        exact ⟨rfl, hb10⟩
end Df
end Go.Proofs.Ythmglahcampllaa
