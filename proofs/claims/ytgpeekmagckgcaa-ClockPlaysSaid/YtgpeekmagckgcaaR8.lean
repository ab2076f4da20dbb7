/- What is proved here: the walk of ClockPlays. Condition: none. -/
import Derived.Test.YtgpeekmagckgcaaR7
import Derived.Test.YtgpeekmagckgcaaRd
import Derived.Deep.RegionHeld3
import Derived.Deep.DeepCutAuto
import Derived.Deep.CutBlock
import Derived.Deep.LoopGhost
namespace Go.Proofs.Ytgpeekmagckgcaa
open Go Go.RowKit
attribute [local go_sem] KW.cell KW.frozen

set_option maxRecDepth 100000 in
set_option maxHeartbeats 2000000 in
theorem law5_no (v0 v2 : Value) (xs : List Int) (m : Int) (W : World) (h0 : RdI v0 xs W) (hn : Pl.newB xs m = false) :
    Calls Try.prog 5 #[v0, .int .i64 m, v2] W fun e W' => e = .returned (.bool true) ∧ Below W.heap.size W W' := by
  have HN := Lib.hid (new_n v0 xs m h0 (Below.refl _ _) hn)
  have H0 := Lib.hid h0
  have HB := Lib.hid hn
  clear h0 hn
  go_enter Try.func5, Try.ntmps5
  go_wp2_with (first | (go_at_call 24; refine HN.out.mono ?_; rintro e w1 ⟨rfl, hb1⟩) | (go_at_call 25; refine (tw_new0 v0 xs m (H0.out.keptB hb1) hb1 HB.out).mono ?_; rintro e w1 ⟨rfl, hb1⟩) | (go_at_call 26; refine (cawake_b (by assumption)).mono ?_; rintro e w2 ⟨rfl, hb2⟩))
  go_ret
  exact ⟨rfl, by assumption⟩

set_option maxRecDepth 100000 in
set_option maxHeartbeats 8000000 in
theorem law5_yes (v0 : Value) (ao : Option Addr) (c0 : Nat) (xs : List Int) (ds : List (Int × Int × Int)) (m : Int) (W : World) (h0 : RdI v0 xs W) (h2 : RdD (.slice ao ds.length c0) ds W) (_hlen : ds.length ≤ 9223372036854775807) (hn : Pl.newB xs m = true) :
    Calls Try.prog 5 #[v0, .int .i64 m, .slice ao ds.length c0] W fun e W' => e = .returned (.bool true) ∧ Below W.heap.size W W' := by
  have HN := Lib.hid (new_w v0 xs m h0 (Below.refl _ _) hn)
  have H0 := Lib.hid h0
  have H2 := Lib.hid h2
  have HB := Lib.hid hn
  clear h0 hn h2
  go_enter Try.func5, Try.ntmps5
  go_wp2_with fail
  refine HN.out.mono ?_
  rintro e w1 ⟨p, g, cap, rfl, hw, _, _, hb1⟩
  clear HN
  go_wp2_with fail
  refine (tw_new v0 xs m (H0.out.keptB hb1) hw HB.out).mono ?_
  rintro e w2 ⟨q, h, c, rfl, t2⟩
  clear hw hb1
  generalize rfresh xs = L0 at t2
  generalize xs.length = N at t2
  go_wp2_with fail
  go_loopg [10] ds.length (fun gg k' wr => ∃ (k : Nat) (R : Int) (L : List Rr), gg = ds.length - k ∧ k' = .int .i64 k ∧ k ≤ ds.length ∧ k ≤ 60 ∧ Tw W wr p g cap q h c m R (Pl.view L) R L k N)
  case atStart => exact ⟨0, 0, L0, rfl, rfl, Nat.zero_le _, Nat.zero_le _, t2⟩
  case round =>
    clear t2
    obtain ⟨k, R, L, rfl, rfl, hk, hk6, ht⟩ := hrel
    by_cases hlt : k < ds.length
    · by_cases h60 : k < 60
      · have hd : decide ((k : Int) < (ds.length : Int)) = true := by simp; omega
        have hd2 : decide ((k : Int) < 60) = true := by simp; omega
        obtain ⟨a, rfl, hab, e0, e1, e2⟩ := (H2.out.kept ht.bl).at_ k hlt
        have E12 : Hid (∀ {w' : World}, Below W.heap.size W w' → w'.cell? ⟨(a.add (k * 3)).block, (a.add (k * 3)).off + 1, none⟩ = some (.int .i64 (ds[k]).2.1) ∧ w'.cell? ⟨(a.add (k * 3)).block, (a.add (k * 3)).off + 2, none⟩ = some (.int .i64 (ds[k]).2.2)) := by
          refine Lib.hid fun hb => ?_
          obtain ⟨a', ha, _, _, f1, f2⟩ := (H2.out.kept hb).at_ k hlt
          cases ha
          exact ⟨f1, f2⟩
        generalize (ds[k]).1 = kd at *
        generalize (ds[k]).2.1 = I at *
        generalize (ds[k]).2.2 = M at *
        go_upto_block 2 with fail
        go_cut [] (fun wx => ∃ (R' : Int) (L' : List Rr), Tw W wx p g cap q h c m R' (Pl.view L') R' L' (k + 1) N)
        case first =>
          by_cases k3 : kd = 3
          · subst k3
            go_wp2_with fail
            go_region_held3 (fun w' => w'.cell? ⟨(a.add (k * 3)).block, (a.add (k * 3)).off + 1, none⟩ = some (.int .i64 I) ∧ w'.cell? ⟨(a.add (k * 3)).block, (a.add (k * 3)).off + 2, none⟩ = some (.int .i64 M))
              (first | (refine ⟨?_, ?_⟩ <;> first | assumption | (go_simp; done)) | (exact E12.out (Tw.bl (by assumption))))
              (first | (go_at_call 29; refine (tw_rate _ _ (Tw.drewN ht 1)).mono ?_; rintro e w3 ⟨rfl, t3⟩) | (go_at_call 30; refine (tw_rrate _ _ (by assumption)).mono ?_; rintro e w4 ⟨rfl, L', HV, t4⟩; rw [← HV.out] at t4))
            go_wp2_with fail
            go_meet
            exact ⟨_, _, t4.more⟩
          by_cases k0 : kd = 0 ∨ kd = 1 ∨ kd = 2
          · clear k3
            rcases k0 with rfl | rfl | rfl
            all_goals
              go_wp2_with (first | (go_at_call 27; refine (tw_tick _ (by assumption)).mono ?_; rintro e w3 ⟨rfl, t3⟩; obtain ⟨x1, x2⟩ := E12.out t3.bl) | (go_at_call 28; refine (tw_rtick _ (by assumption) (by omega)).mono ?_; rintro e w4 ⟨rfl, L', HV, t4⟩; rw [← HV.out] at t4; generalize R + Pl.step R M = R' at t4))
              go_meet
              exact ⟨_, _, t4⟩
          · have j0 : (kd == 0) = false := by simp; omega
            have j1 : (kd == 1) = false := by simp; omega
            have j2 : (kd == 2) = false := by simp; omega
            have j3 : (kd == 3) = false := by simp; omega
            clear k0 k3
            go_wp2_with fail
            go_meet
            exact ⟨_, _, ht.more⟩
        case rest =>
          clear e0 e1 e2 ht
          obtain ⟨R', L', tc⟩ := hcut
          cases hi : thereB N I with
          | true =>
            have HI := Lib.hid hi
            clear hi
            go_wp2_with fail
            obtain ⟨f1, f2⟩ := E12.out (Tw.bl tc)
            have cq := tw_cell tc
            have zq := cell_block cq
            have za := cell_block f1
            simp only at zq za
            refine wp_region_kq (by kernel_rfl) (by kernel_rfl) ?_
            simp only [List.append]
            repeat (first | go_big_quiet_step ((first | (go_at_call 31; exact tq_read _ (by assumption) _) | (go_at_call 32; exact tq_rread _ (by assumption) (by omega) _) | (go_at_call 33; exact tq_real (by assumption) _) | (go_at_call 34; exact tq_is _ (by assumption) (by assumption) _) | (go_at_call 35; first | exact tq_apart _ (by assumption) (by assumption) _ | exact tq_apart0 _ (by assumption) (by assumption) _) | (go_at_call 36; exact tq_rapart _ (by assumption) (by omega) (by assumption) _))) | quiet_step ((first | (go_at_call 31; exact tq_read _ (by assumption) _) | (go_at_call 32; exact tq_rread _ (by assumption) (by omega) _) | (go_at_call 33; exact tq_real (by assumption) _) | (go_at_call 34; exact tq_is _ (by assumption) (by assumption) _) | (go_at_call 35; first | exact tq_apart _ (by assumption) (by assumption) _ | exact tq_apart0 _ (by assumption) (by assumption) _) | (go_at_call 36; exact tq_rapart _ (by assumption) (by omega) (by assumption) _))))
            refine wpQuiet_nil ?_
            intro kz
            have tz := tc.kept kz.kp
            go_wp2_with fail
            go_roundg (ds.length - (k + 1))
            case measure => omega
            case rel => exact ⟨k + 1, _, _, rfl, by go_num, by omega, by omega, tz⟩
          | false =>
            have HI := Lib.hid hi
            clear hi
            go_wp2_with fail
            obtain ⟨f1, f2⟩ := E12.out (Tw.bl tc)
            have cq := tw_cell tc
            have zq := cell_block cq
            have za := cell_block f1
            simp only at zq za
            refine wp_region_kq (by kernel_rfl) (by kernel_rfl) ?_
            simp only [List.append]
            repeat (first | go_big_quiet_step ((first | (go_at_call 31; exact tq_read _ (by assumption) _) | (go_at_call 32; exact tq_rread _ (by assumption) (by omega) _) | (go_at_call 33; exact tq_real (by assumption) _) | (go_at_call 34; exact tq_is _ (by assumption) (by assumption) _) | (go_at_call 35; first | exact tq_apart _ (by assumption) (by assumption) _ | exact tq_apart0 _ (by assumption) (by assumption) _) | (go_at_call 36; exact tq_rapart _ (by assumption) (by omega) (by assumption) _))) | quiet_step ((first | (go_at_call 31; exact tq_read _ (by assumption) _) | (go_at_call 32; exact tq_rread _ (by assumption) (by omega) _) | (go_at_call 33; exact tq_real (by assumption) _) | (go_at_call 34; exact tq_is _ (by assumption) (by assumption) _) | (go_at_call 35; first | exact tq_apart _ (by assumption) (by assumption) _ | exact tq_apart0 _ (by assumption) (by assumption) _) | (go_at_call 36; exact tq_rapart _ (by assumption) (by omega) (by assumption) _))))
            refine wpQuiet_nil ?_
            intro kz
            have tz := tc.kept kz.kp
            go_wp2_with fail
            go_roundg (ds.length - (k + 1))
            case measure => omega
            case rel => exact ⟨k + 1, _, _, rfl, by go_num, by omega, by omega, tz⟩
      · have hd : decide ((k : Int) < (ds.length : Int)) = true := by simp; omega
        have hd2 : decide ((k : Int) < 60) = false := by simp; omega
        have hb := ht.bl
        clear ht
        go_wp2_with (first | (go_at_call 26; refine (cawake_b (by assumption)).mono ?_; rintro e w3 ⟨rfl, hb3⟩) | (go_at_call 37; refine (drift_c _ _ _).mono ?_; rintro e w5 ⟨rfl, rfl⟩) | (go_at_call 38; refine (rdrift_c _ _ _).mono ?_; rintro e w5 ⟨rfl, rfl⟩))
        go_ret
        exact ⟨rfl, by assumption⟩
    · have hd : decide ((k : Int) < (ds.length : Int)) = false := by simp; omega
      have hb := ht.bl
      clear ht
      go_wp2_with (first | (go_at_call 26; refine (cawake_b (by assumption)).mono ?_; rintro e w3 ⟨rfl, hb3⟩) | (go_at_call 37; refine (drift_c _ _ _).mono ?_; rintro e w5 ⟨rfl, rfl⟩) | (go_at_call 38; refine (rdrift_c _ _ _).mono ?_; rintro e w5 ⟨rfl, rfl⟩))
      go_ret
      exact ⟨rfl, by assumption⟩
theorem law5 (v0 v2 : Value) (xs : List Int) (ds : List (Int × Int × Int)) (m : Int) (W : World) (h0 : RdI v0 xs W) (h2 : RdD v2 ds W) :
    Calls Try.prog 5 #[v0, .int .i64 m, v2] W fun e W' => e = .returned (.bool true) ∧ Below W.heap.size W W' := by
  cases hn : Pl.newB xs m with
  | false => exact law5_no v0 v2 xs m W h0 hn
  | true =>
    obtain ⟨ao, c, rfl, h3, h4⟩ := h2.form
    unfold maxLen at h4
    exact law5_yes v0 ao c xs ds m W h0 h2 (by omega) hn
end Go.Proofs.Ytgpeekmagckgcaa
