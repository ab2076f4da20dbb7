/- What is proved here: the walk of ClockDrifts. Condition: none. -/
import Derived.Test.YtgpeekmagckgcaaK7
namespace Go.Proofs.Ytgpeekmagckgcaa
open Go Go.RowKit
attribute [local go_sem] KW.cell KW.frozen

set_option maxRecDepth 100000 in
set_option maxHeartbeats 2000000 in
theorem law6_no (v0 v2 : Value) (xs : List Int) (m i from_ : Int) (W : World) (h0 : RdI v0 xs W) (hn : Pl.newB xs m = false) :
    Calls Try.prog 6 #[v0, .int .i64 m, v2, .int .i64 i, .int .i64 from_] W fun e W' => e = .returned (.bool true) ∧ Below W.heap.size W W' := by
  have HN := Lib.hid (new_n v0 xs m h0 (Below.refl _ _) hn)
  clear h0 hn
  go_enter Try.func6, Try.ntmps6
  go_wp2_with (first | (go_at_call 24; refine HN.out.mono ?_; rintro e w1 ⟨rfl, hb1⟩) | (go_at_call 26; refine (cawake_b (by assumption)).mono ?_; rintro e w2 ⟨rfl, hb2⟩))
  go_ret
  exact ⟨rfl, by assumption⟩

/-- What holds at a round's head. -/
structure DriftAt (W : World) (p g cap : Nat) (i m : Int) (n k : Nat) (real A0 R0 S0 : Int) (l : List Pl.Cl) (wr : World) : Prop where
  hk : k ≤ n
  cw : CW W wr p g cap real m l
  near : Pl.Near l i A0 R0 real m
  said : S0 = Pl.readAt real l i
  a0 : -549756862464 ≤ A0 ∧ A0 ≤ 549756862464

set_option maxRecDepth 100000 in
set_option maxHeartbeats 4000000 in
theorem law6_yes (v0 : Value) (ao : Option Addr) (c : Nat) (xs : List Int) (ds : List (Int × Int × Int)) (m i from_ : Int) (W : World) (h0 : RdI v0 xs W) (h2 : RdD (.slice ao ds.length c) ds W) (_hlen : ds.length ≤ 9223372036854775807) (hn : Pl.newB xs m = true) :
    Calls Try.prog 6 #[v0, .int .i64 m, .slice ao ds.length c, .int .i64 i, .int .i64 from_] W fun e W' => e = .returned (.bool true) ∧ Below W.heap.size W W' := by
  have HN := Lib.hid (new_w v0 xs m h0 (Below.refl _ _) hn)
  have H2 := Lib.hid h2
  clear h0 hn h2
  go_enter Try.func6, Try.ntmps6
  go_wp2_with fail
  refine HN.out.mono ?_
  rintro e w1 ⟨p, g, cap, rfl, hw, _, _, _⟩
  clear HN
  generalize Pl.fresh xs = l at *
  have A0 := Pl.apart_bd hw.ok i
  have N0 := Pl.Near.refl hw.ok i
  go_wp2_with (first | (go_at_call 35; refine (apart_w _ (by assumption)).mono ?_; rintro e w2 ⟨rfl, hw2⟩) | (go_at_call 31; refine (read_w _ (by assumption)).mono ?_; rintro e w3 ⟨rfl, hw3⟩))
  go_loopw [13, 14, 15, 16] (fun r0 a0 s0 k' wr => ∃ (k : Nat) (real R0 A0 S0 : Int) (l : List Pl.Cl), r0 = .int .i64 R0 ∧ a0 = .int .i64 A0 ∧ s0 = .int .i64 S0 ∧ k' = .int .i64 k ∧ DriftAt W p g cap i m ds.length k real A0 R0 S0 l wr) (fun _ _ _ k' _ => ds.length - (intOf k').toNat)
  case atStart => exact ⟨0, 0, 0, _, _, l, rfl, rfl, rfl, rfl, Nat.zero_le _, hw3, N0, rfl, A0⟩
  case round =>
    clear A0 N0 hw hw2 hw3
    obtain ⟨k, real, R0, A0, S0, L, rfl, rfl, rfl, rfl, hD⟩ := hrel
    by_cases hlt : k < ds.length
    · by_cases h40 : k < 40
      · have hd : decide ((k : Int) < (ds.length : Int)) = true := by simp; omega
        have hd2 : decide ((k : Int) < 40) = true := by simp; omega
        have near := hD.near
        have ab := hD.a0
        have hw := hD.cw
        have hsd := hD.said
        subst hsd
        clear hD
        by_cases hf : (k : Int) = from_
        · have hde : ((k : Int) == from_) = true := by simpa using hf
          clear hf
          go_wp2_with fail
          refine (real_w hw).mono ?_
          rintro e w2 ⟨rfl, rfl⟩
          go_wp2_with fail
          refine (apart_w i hw).mono ?_
          rintro e w2 ⟨rfl, hw2⟩
          clear near ab hw
          have near := Pl.Near.refl hw2.ok i
          have ab := Pl.apart_bd hw2.ok i
          have hw := hw2
          clear hw2
          obtain ⟨a, rfl, hab, e0, e1, e2⟩ := (H2.out.kept hw.bl).at_ k hlt
          have ok := hw.ok
          generalize (ds[k]).1 = kd at *
          generalize (ds[k]).2.1 = I at *
          generalize (ds[k]).2.2 = M at *
          by_cases k3 : kd = 3
          · subst k3
            obtain ⟨R', L', HT, hRR, hN', hS', ok'⟩ : ∃ R' L', Hid (∀ j, Calls Try.prog 29 #[.pointer (some ⟨p, 0, none⟩), .int .i64 I, .int .i64 M] (w2.drewN j) fun e w' => (∃ v, e = .returned (.int .i64 v)) ∧ CW W w' p g cap R' m L') ∧ real ≤ R' ∧ Pl.Near L' i (Pl.apartAt L i) real R' m ∧ Pl.readAt real L i ≤ Pl.readAt R' L' i ∧ Pl.Ok R' m L' :=
              ⟨real, Pl.rated L m I M, Lib.hid fun j => (rate_w I M (hw.drewN j)).mono fun _ _ ⟨he, hc⟩ => ⟨⟨_, he⟩, hc⟩, by omega, near.rate I M, by rw [Pl.read_rate]; exact Int.le_refl _, ok.rate I M⟩
            clear near ok
            have r0 := ok'.r0
            have r1 := ok'.r1
            have q0 := hN'.2.1
            have q1 := hN'.1
            have ap := Pl.apart_bd ok' i
            have d3 := (hN'.bd ok').1
            have d4 := (hN'.bd ok').2
            have h1 : ¬ R' < real := by omega
            have h2 : ¬ Pl.readAt R' L' i < Pl.readAt real L i := by omega
            have h3 : ¬ Pl.drift (R' - real) m < Pl.apartAt L' i - (Pl.apartAt L i) := by omega
            have h4 : ¬ Pl.drift (R' - real) m < (Pl.apartAt L i) - Pl.apartAt L' i := by omega
            have x1 : IntKind.i64.wrap (Pl.apartAt L' i - (Pl.apartAt L i)) = Pl.apartAt L' i - (Pl.apartAt L i) := wrap_of (by omega) (by omega)
            have x2 : IntKind.i64.wrap ((Pl.apartAt L i) - Pl.apartAt L' i) = (Pl.apartAt L i) - Pl.apartAt L' i := wrap_of (by omega) (by omega)
            have x3 : IntKind.i64.wrap (R' - real) = R' - real := wrap_of (by omega) (by omega)
            have N' := Lib.hid hN'
            clear hN' d3 d4 ok' hS' hRR
            go_wp2_with (first | (go_at_call 33; refine (real_w (by assumption)).mono ?_; rintro e w5 ⟨rfl, rfl⟩) | (go_at_call 37; refine (drift_c _ _ _).mono ?_; rintro e w5 ⟨rfl, rfl⟩) | (go_at_call 31; refine (read_w _ (by assumption)).mono ?_; rintro e w5 ⟨rfl, hw5⟩) | (go_at_call 35; refine (apart_w _ (by assumption)).mono ?_; rintro e w5 ⟨rfl, hw5⟩))
            refine wp_region_dw 11 (by kernel_rfl) (by kernel_rfl) ?_
            simp only [List.take_succ_cons, List.take_zero, List.drop_succ_cons, List.drop_zero]
            repeat (quiet_step (fail))
            refine wpQuiet_nil ?_
            intro j
            clear hw
            go_wp2_with (first | (go_at_call 29; refine (HT.out _).mono ?_; rintro e w4 ⟨⟨_, rfl⟩, hw4⟩) | (go_at_call 33; refine (real_w (by assumption)).mono ?_; rintro e w5 ⟨rfl, rfl⟩) | (go_at_call 37; refine (drift_c _ _ _).mono ?_; rintro e w5 ⟨rfl, rfl⟩) | (go_at_call 31; refine (read_w _ (by assumption)).mono ?_; rintro e w5 ⟨rfl, hw5⟩) | (go_at_call 35; refine (apart_w _ (by assumption)).mono ?_; rintro e w5 ⟨rfl, hw5⟩))
            go_roundw
            case rel => exact ⟨k + 1, R', _, _, _, L', rfl, rfl, rfl, by go_num, by omega, by assumption, N'.out, rfl, ab⟩
            case measure => simp [intOf]; omega
          by_cases k0 : kd = 0 ∨ kd = 1 ∨ kd = 2
          · obtain ⟨R', L', HT, hRR, hN', hS', ok'⟩ : ∃ R' L', Hid (Calls Try.prog 27 #[.pointer (some ⟨p, 0, none⟩), .int .i64 M] w2 fun e w' => e = .returned (.tuple #[]) ∧ CW W w' p g cap R' m L') ∧ real ≤ R' ∧ Pl.Near L' i (Pl.apartAt L i) real R' m ∧ Pl.readAt real L i ≤ Pl.readAt R' L' i ∧ Pl.Ok R' m L' :=
              ⟨real + Pl.step real M, Pl.ticked (Pl.step real M) L, Lib.hid (tick_w M hw), by have := Pl.step_bd (n := M) ok.r0 ok.r1; omega, near.tick ok M, Pl.read_tick ok M i, ok.tick⟩
            clear near ok
            have r0 := ok'.r0
            have r1 := ok'.r1
            have q0 := hN'.2.1
            have q1 := hN'.1
            have ap := Pl.apart_bd ok' i
            have d3 := (hN'.bd ok').1
            have d4 := (hN'.bd ok').2
            have h1 : ¬ R' < real := by omega
            have h2 : ¬ Pl.readAt R' L' i < Pl.readAt real L i := by omega
            have h3 : ¬ Pl.drift (R' - real) m < Pl.apartAt L' i - (Pl.apartAt L i) := by omega
            have h4 : ¬ Pl.drift (R' - real) m < (Pl.apartAt L i) - Pl.apartAt L' i := by omega
            have x1 : IntKind.i64.wrap (Pl.apartAt L' i - (Pl.apartAt L i)) = Pl.apartAt L' i - (Pl.apartAt L i) := wrap_of (by omega) (by omega)
            have x2 : IntKind.i64.wrap ((Pl.apartAt L i) - Pl.apartAt L' i) = (Pl.apartAt L i) - Pl.apartAt L' i := wrap_of (by omega) (by omega)
            have x3 : IntKind.i64.wrap (R' - real) = R' - real := wrap_of (by omega) (by omega)
            have N' := Lib.hid hN'
            clear hN' d3 d4 ok' hS' hRR
            rcases k0 with rfl | rfl | rfl
            all_goals
              go_wp2_with (first | (go_at_call 27; refine HT.out.mono ?_; rintro e w4 ⟨rfl, hw4⟩; clear hw) | (go_at_call 33; refine (real_w (by assumption)).mono ?_; rintro e w5 ⟨rfl, rfl⟩) | (go_at_call 37; refine (drift_c _ _ _).mono ?_; rintro e w5 ⟨rfl, rfl⟩) | (go_at_call 31; refine (read_w _ (by assumption)).mono ?_; rintro e w5 ⟨rfl, hw5⟩) | (go_at_call 35; refine (apart_w _ (by assumption)).mono ?_; rintro e w5 ⟨rfl, hw5⟩))
              go_roundw
              case rel => exact ⟨k + 1, R', _, _, _, L', rfl, rfl, rfl, by go_num, by omega, by assumption, N'.out, rfl, ab⟩
              case measure => simp [intOf]; omega
          · have hN' := near
            have ok' := ok
            have hS' := Int.le_refl (Pl.readAt real L i)
            have hRR := Int.le_refl real
            have z0 : ¬ Pl.drift 0 m < 0 := by have := (Pl.drift_bd 0 m).1; omega
            have j0 : (kd == 0) = false := by simp; omega
            have j1 : (kd == 1) = false := by simp; omega
            have j2 : (kd == 2) = false := by simp; omega
            have j3 : (kd == 3) = false := by simp; omega
            clear near ok k0 k3
            have r0 := ok'.r0
            have r1 := ok'.r1
            have q0 := hN'.2.1
            have q1 := hN'.1
            have ap := Pl.apart_bd ok' i
            have d3 := (hN'.bd ok').1
            have d4 := (hN'.bd ok').2
            have h1 : ¬ real < real := by omega
            have h2 : ¬ Pl.readAt real L i < Pl.readAt real L i := by omega
            have h3 : ¬ Pl.drift (real - real) m < Pl.apartAt L i - (Pl.apartAt L i) := by omega
            have h4 : ¬ Pl.drift (real - real) m < (Pl.apartAt L i) - Pl.apartAt L i := by omega
            have x1 : IntKind.i64.wrap (Pl.apartAt L i - (Pl.apartAt L i)) = Pl.apartAt L i - (Pl.apartAt L i) := wrap_of (by omega) (by omega)
            have x2 : IntKind.i64.wrap ((Pl.apartAt L i) - Pl.apartAt L i) = (Pl.apartAt L i) - Pl.apartAt L i := wrap_of (by omega) (by omega)
            have x3 : IntKind.i64.wrap (real - real) = real - real := wrap_of (by omega) (by omega)
            have N' := Lib.hid hN'
            clear hN' d3 d4 ok' hS' hRR
            go_wp2_with (first | (go_at_call 33; refine (real_w (by assumption)).mono ?_; rintro e w5 ⟨rfl, rfl⟩) | (go_at_call 37; refine (drift_c _ _ _).mono ?_; rintro e w5 ⟨rfl, rfl⟩) | (go_at_call 31; refine (read_w _ (by assumption)).mono ?_; rintro e w5 ⟨rfl, hw5⟩) | (go_at_call 35; refine (apart_w _ (by assumption)).mono ?_; rintro e w5 ⟨rfl, hw5⟩))
            go_roundw
            case rel => exact ⟨k + 1, real, _, _, _, L, rfl, rfl, rfl, by go_num, by omega, by assumption, N'.out, rfl, ab⟩
            case measure => simp [intOf]; omega
        · have hde : ((k : Int) == from_) = false := by simpa using hf
          clear hf
          obtain ⟨a, rfl, hab, e0, e1, e2⟩ := (H2.out.kept hw.bl).at_ k hlt
          have ok := hw.ok
          generalize (ds[k]).1 = kd at *
          generalize (ds[k]).2.1 = I at *
          generalize (ds[k]).2.2 = M at *
          by_cases k3 : kd = 3
          · subst k3
            obtain ⟨R', L', HT, hRR, hN', hS', ok'⟩ : ∃ R' L', Hid (∀ j, Calls Try.prog 29 #[.pointer (some ⟨p, 0, none⟩), .int .i64 I, .int .i64 M] (wr.drewN j) fun e w' => (∃ v, e = .returned (.int .i64 v)) ∧ CW W w' p g cap R' m L') ∧ real ≤ R' ∧ Pl.Near L' i A0 R0 R' m ∧ Pl.readAt real L i ≤ Pl.readAt R' L' i ∧ Pl.Ok R' m L' :=
              ⟨real, Pl.rated L m I M, Lib.hid fun j => (rate_w I M (hw.drewN j)).mono fun _ _ ⟨he, hc⟩ => ⟨⟨_, he⟩, hc⟩, by omega, near.rate I M, by rw [Pl.read_rate]; exact Int.le_refl _, ok.rate I M⟩
            clear near ok
            have r0 := ok'.r0
            have r1 := ok'.r1
            have q0 := hN'.2.1
            have q1 := hN'.1
            have ap := Pl.apart_bd ok' i
            have d3 := (hN'.bd ok').1
            have d4 := (hN'.bd ok').2
            have h1 : ¬ R' < real := by omega
            have h2 : ¬ Pl.readAt R' L' i < Pl.readAt real L i := by omega
            have h3 : ¬ Pl.drift (R' - R0) m < Pl.apartAt L' i - A0 := by omega
            have h4 : ¬ Pl.drift (R' - R0) m < A0 - Pl.apartAt L' i := by omega
            have x1 : IntKind.i64.wrap (Pl.apartAt L' i - A0) = Pl.apartAt L' i - A0 := wrap_of (by omega) (by omega)
            have x2 : IntKind.i64.wrap (A0 - Pl.apartAt L' i) = A0 - Pl.apartAt L' i := wrap_of (by omega) (by omega)
            have x3 : IntKind.i64.wrap (R' - R0) = R' - R0 := wrap_of (by omega) (by omega)
            have N' := Lib.hid hN'
            clear hN' d3 d4 ok' hS' hRR
            go_wp2_with (first | (go_at_call 33; refine (real_w (by assumption)).mono ?_; rintro e w5 ⟨rfl, rfl⟩) | (go_at_call 37; refine (drift_c _ _ _).mono ?_; rintro e w5 ⟨rfl, rfl⟩) | (go_at_call 31; refine (read_w _ (by assumption)).mono ?_; rintro e w5 ⟨rfl, hw5⟩) | (go_at_call 35; refine (apart_w _ (by assumption)).mono ?_; rintro e w5 ⟨rfl, hw5⟩))
            refine wp_region_dw 11 (by kernel_rfl) (by kernel_rfl) ?_
            simp only [List.take_succ_cons, List.take_zero, List.drop_succ_cons, List.drop_zero]
            repeat (quiet_step (fail))
            refine wpQuiet_nil ?_
            intro j
            clear hw
            go_wp2_with (first | (go_at_call 29; refine (HT.out _).mono ?_; rintro e w4 ⟨⟨_, rfl⟩, hw4⟩) | (go_at_call 33; refine (real_w (by assumption)).mono ?_; rintro e w5 ⟨rfl, rfl⟩) | (go_at_call 37; refine (drift_c _ _ _).mono ?_; rintro e w5 ⟨rfl, rfl⟩) | (go_at_call 31; refine (read_w _ (by assumption)).mono ?_; rintro e w5 ⟨rfl, hw5⟩) | (go_at_call 35; refine (apart_w _ (by assumption)).mono ?_; rintro e w5 ⟨rfl, hw5⟩))
            go_roundw
            case rel => exact ⟨k + 1, R', _, _, _, L', rfl, rfl, rfl, by go_num, by omega, by assumption, N'.out, rfl, ab⟩
            case measure => simp [intOf]; omega
          by_cases k0 : kd = 0 ∨ kd = 1 ∨ kd = 2
          · obtain ⟨R', L', HT, hRR, hN', hS', ok'⟩ : ∃ R' L', Hid (Calls Try.prog 27 #[.pointer (some ⟨p, 0, none⟩), .int .i64 M] wr fun e w' => e = .returned (.tuple #[]) ∧ CW W w' p g cap R' m L') ∧ real ≤ R' ∧ Pl.Near L' i A0 R0 R' m ∧ Pl.readAt real L i ≤ Pl.readAt R' L' i ∧ Pl.Ok R' m L' :=
              ⟨real + Pl.step real M, Pl.ticked (Pl.step real M) L, Lib.hid (tick_w M hw), by have := Pl.step_bd (n := M) ok.r0 ok.r1; omega, near.tick ok M, Pl.read_tick ok M i, ok.tick⟩
            clear near ok
            have r0 := ok'.r0
            have r1 := ok'.r1
            have q0 := hN'.2.1
            have q1 := hN'.1
            have ap := Pl.apart_bd ok' i
            have d3 := (hN'.bd ok').1
            have d4 := (hN'.bd ok').2
            have h1 : ¬ R' < real := by omega
            have h2 : ¬ Pl.readAt R' L' i < Pl.readAt real L i := by omega
            have h3 : ¬ Pl.drift (R' - R0) m < Pl.apartAt L' i - A0 := by omega
            have h4 : ¬ Pl.drift (R' - R0) m < A0 - Pl.apartAt L' i := by omega
            have x1 : IntKind.i64.wrap (Pl.apartAt L' i - A0) = Pl.apartAt L' i - A0 := wrap_of (by omega) (by omega)
            have x2 : IntKind.i64.wrap (A0 - Pl.apartAt L' i) = A0 - Pl.apartAt L' i := wrap_of (by omega) (by omega)
            have x3 : IntKind.i64.wrap (R' - R0) = R' - R0 := wrap_of (by omega) (by omega)
            have N' := Lib.hid hN'
            clear hN' d3 d4 ok' hS' hRR
            rcases k0 with rfl | rfl | rfl
            all_goals
              go_wp2_with (first | (go_at_call 27; refine HT.out.mono ?_; rintro e w4 ⟨rfl, hw4⟩; clear hw) | (go_at_call 33; refine (real_w (by assumption)).mono ?_; rintro e w5 ⟨rfl, rfl⟩) | (go_at_call 37; refine (drift_c _ _ _).mono ?_; rintro e w5 ⟨rfl, rfl⟩) | (go_at_call 31; refine (read_w _ (by assumption)).mono ?_; rintro e w5 ⟨rfl, hw5⟩) | (go_at_call 35; refine (apart_w _ (by assumption)).mono ?_; rintro e w5 ⟨rfl, hw5⟩))
              go_roundw
              case rel => exact ⟨k + 1, R', _, _, _, L', rfl, rfl, rfl, by go_num, by omega, by assumption, N'.out, rfl, ab⟩
              case measure => simp [intOf]; omega
          · have hN' := near
            have ok' := ok
            have hS' := Int.le_refl (Pl.readAt real L i)
            have hRR := Int.le_refl real
            have z0 : ¬ Pl.drift 0 m < 0 := by have := (Pl.drift_bd 0 m).1; omega
            have j0 : (kd == 0) = false := by simp; omega
            have j1 : (kd == 1) = false := by simp; omega
            have j2 : (kd == 2) = false := by simp; omega
            have j3 : (kd == 3) = false := by simp; omega
            clear near ok k0 k3
            have r0 := ok'.r0
            have r1 := ok'.r1
            have q0 := hN'.2.1
            have q1 := hN'.1
            have ap := Pl.apart_bd ok' i
            have d3 := (hN'.bd ok').1
            have d4 := (hN'.bd ok').2
            have h1 : ¬ real < real := by omega
            have h2 : ¬ Pl.readAt real L i < Pl.readAt real L i := by omega
            have h3 : ¬ Pl.drift (real - R0) m < Pl.apartAt L i - A0 := by omega
            have h4 : ¬ Pl.drift (real - R0) m < A0 - Pl.apartAt L i := by omega
            have x1 : IntKind.i64.wrap (Pl.apartAt L i - A0) = Pl.apartAt L i - A0 := wrap_of (by omega) (by omega)
            have x2 : IntKind.i64.wrap (A0 - Pl.apartAt L i) = A0 - Pl.apartAt L i := wrap_of (by omega) (by omega)
            have x3 : IntKind.i64.wrap (real - R0) = real - R0 := wrap_of (by omega) (by omega)
            have N' := Lib.hid hN'
            clear hN' d3 d4 ok' hS' hRR
            go_wp2_with (first | (go_at_call 33; refine (real_w (by assumption)).mono ?_; rintro e w5 ⟨rfl, rfl⟩) | (go_at_call 37; refine (drift_c _ _ _).mono ?_; rintro e w5 ⟨rfl, rfl⟩) | (go_at_call 31; refine (read_w _ (by assumption)).mono ?_; rintro e w5 ⟨rfl, hw5⟩) | (go_at_call 35; refine (apart_w _ (by assumption)).mono ?_; rintro e w5 ⟨rfl, hw5⟩))
            go_roundw
            case rel => exact ⟨k + 1, real, _, _, _, L, rfl, rfl, rfl, by go_num, by omega, by assumption, N'.out, rfl, ab⟩
            case measure => simp [intOf]; omega
      · have hd : decide ((k : Int) < (ds.length : Int)) = true := by simp; omega
        have hd2 : decide ((k : Int) < 40) = false := by simp; omega
        have hw := hD.cw
        clear hD
        go_wp2_with (go_at_call 26; refine (awake_w (by assumption)).mono ?_; rintro e w2 ⟨rfl, hb2⟩)
        go_ret
        exact ⟨rfl, by assumption⟩
    · have hd : decide ((k : Int) < (ds.length : Int)) = false := by simp; omega
      have hw := hD.cw
      clear hD
      go_wp2_with (go_at_call 26; refine (awake_w (by assumption)).mono ?_; rintro e w2 ⟨rfl, hb2⟩)
      go_ret
      exact ⟨rfl, by assumption⟩
end Go.Proofs.Ytgpeekmagckgcaa
