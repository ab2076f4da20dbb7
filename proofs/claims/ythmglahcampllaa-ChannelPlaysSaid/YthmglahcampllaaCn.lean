/- What is proved here: the walk of ChannelPlays. Condition: the deeds can be read. -/
import Derived.Test.YthmglahcampllaaCl
import Derived.Test.YthmglahcampllaaCq
import Derived.Deep.RegionWith
import Derived.Deep.DrawnRows
namespace Go.Proofs.Ythmglahcampllaa
open Go Go.RowKit
attribute [local go_sem] KW.cell KW.frozen
attribute [local go_sem ↓] Go.wp_at_zero Go.wp_at_succ Ch.eql72 Ch.neq72
namespace Ch
theorem cawake_b {W w : World} (h : Below W.heap.size W w) : Calls Try.prog 33 #[] w fun e w' => e = .returned (.bool true) ∧ Below W.heap.size W w' := (cawake_c w).mono fun _ _ ⟨he, hb⟩ => ⟨he, bon h hb⟩
set_option maxRecDepth 100000 in
set_option maxHeartbeats 3000000 in
/-- The second loop, from its start on: what is left is looked at. -/
theorem law10 (v0 : Value) (ds : List De) (sw : Int) (up : Bool) (W : World) (h0 : RdDe v0 ds W) :
    Calls Try.prog 10 #[v0, .int .i64 sw, .bool up] W fun e W' => e = .returned (.bool true) ∧ Below W.heap.size W W' := by
  obtain ⟨ao, c, rfl, hc1, hc2⟩ := h0.form
  unfold maxLen at hc2
  have H0 := Lib.hid h0
  clear h0
  go_enter Try.func10, Try.ntmps10
  go_wp2_with fail
  refine (new_c _).mono ?_
  rintro e w1 ⟨rfl, hw1⟩
  have t2 : Tw' W.heap.size W (w1.alloc (.cells #[.slice none 0 0, .int .i64 0] 63)) W.heap.size (.slice none 0 0) 0 [] w1.heap.size (.slice none 0 0) 0 [] := by
    have s1 := St.new W
    rw [← hw1] at s1
    have b1 : Below W.heap.size W w1 := by rw [hw1]; exact (Below.refl _ _).alloc (Nat.le_refl _) _
    have hb : Below w1.heap.size w1 (w1.alloc (.cells #[.slice none 0 0, .int .i64 0] 63)) := (Below.refl _ _).alloc (Nat.le_refl _) _
    exact ⟨s1.kept hb, St.newR w1 W.heap.size b1.size, b1.alloc b1.size _, fun b cs t h _ _ _ _ => (b1.alloc b1.size _).block b (block_lt h)⟩
  clear hw1
  go_wp2_with fail
  go_loopg [9] ds.length (fun gg s9 wr => ∃ (k : Nat) (n : Int) (l : List Fl) (v u : Value), gg = ds.length - k ∧ s9 = .int .i64 k ∧ k ≤ ds.length ∧ k ≤ 300 ∧ l.length ≤ 256 ∧ 0 ≤ n ∧ n ≤ k ∧ Tw' W.heap.size W wr W.heap.size v n l w1.heap.size u n l)
  case atStart => exact ⟨0, 0, [], _, _, rfl, rfl, Nat.zero_le _, Nat.zero_le _, by decide, by decide, by decide, t2⟩
  case round =>
    clear t2
    obtain ⟨k, n, l, v, u, rfl, rfl, hk, hk3, hl, hn0, hn, ht⟩ := hrel
    by_cases hlt : k < ds.length ∧ k < 300
    · obtain ⟨hlt, h3⟩ := hlt
      have hd : decide ((k : Int) < (ds.length : Int)) = true := by simp; omega
      have hd2 : decide ((k : Int) < 300) = true := by simp; omega
      have hk2 : (k : Int) < (ds.length : Int) := by omega
      obtain ⟨a, rfl, hab, e0, e1, e2, e3, e4⟩ := (H0.out.keptB ht.bl).at_ k hlt
      generalize (ds[k]).1 = kd at *
      generalize (ds[k]).2.1 = kk at *
      generalize (ds[k]).2.2.1 = x at *
      generalize (ds[k]).2.2.2.1 = y at *
      generalize (ds[k]).2.2.2.2 = z at *
      obtain ⟨d, hd4⟩ : ∃ d, decide (200 < (z.size : Int)) = d := ⟨_, rfl⟩
      cases d with
      | true =>
        have hb := ht.bl
        clear ht
        go_wp2_with (go_at_call 33; refine (cawake_b hb).mono ?_; rintro e w' ⟨rfl, hb1⟩)
        go_ret
        exact ⟨rfl, hb1⟩
      | false =>
        have X := Lib.hid (fun (w' : World) (t : Tw' W.heap.size W w' W.heap.size v n l w1.heap.size u n l) => does_c kd kk x y z t hl hn0 (by omega))
        have hbd := Lib.hid (after_bd (kd := kd) (k := kk) (sw := x) (up := y) (s := z) hl hn0 hn)
        generalize (after kd kk x y z l n).1 = l2 at *
        generalize (after kd kk x y z l n).2 = n2 at *
        obtain ⟨hl2, hn20, hn2⟩ := hbd.out
        go_wp2_with fail
        have z1 : (a.add (k * 5)).block < wr.heap.size := by rw [adc]; exact hab
        refine wp_region_mid 6 (by kernel_rfl) (by kernel_rfl) ?_
        simp only [List.take_succ_cons, List.take_zero, List.drop_succ_cons, List.drop_zero]
        repeat (first | go_big_quiet_step (fail) | quiet_step (fail))
        refine wpQuiet_nil ?_
        intro kw
        refine ⟨34, #[.pointer (some ⟨W.heap.size, 0, none⟩), .pointer (some ⟨w1.heap.size, 0, none⟩), .agg #[.int .i64 kd, .int .i64 kk, .int .i64 x, .bool y, .string z]], _, rfl, rfl, ?_, ?_⟩
        · go_simp
        refine (X.out _ (ht.kept kw.kp)).mono ?_
        rintro e w4 ⟨rfl, v4, u4, t4⟩
        obtain ⟨uo, uc, rfl, _⟩ := t4.R.form
        have c0 := t4.R.c0
        have c1 := t4.R.c1
        have lr := t4.R.lt
        have A35 := Lib.hid (fun kk : KW w4 => len_c (t4.P.kept kk.kp))
        have A36 := Lib.hid (fun kk : KW w4 => lost_c (t4.P.kept kk.kp))
        have A37 := Lib.hid (fun kk : KW w4 => of_c sw (t4.P.kept kk.kp) hl2)
        have A38 := Lib.hid (fun kk : KW w4 => rof_c sw (t4.R.kept kk.kp) hl2)
        have A39 := Lib.hid (fun kk : KW w4 => next_c sw up (t4.P.kept kk.kp) hl2)
        have A40 := Lib.hid (fun kk : KW w4 => rnext_c sw up (t4.R.kept kk.kp) hl2)
        generalize ofN l2 sw = on at *
        generalize nextN l2 sw up = nn at *
        refine ⟨_, rfl, ?_⟩
        repeat (first | go_big_quiet_step ((first | (go_at_call 35; exact KW.same (A35.out _)) | (go_at_call 36; exact KW.same (A36.out _)) | (go_at_call 37; exact KW.call (A37.out _)) | (go_at_call 38; exact KW.same (A38.out _)) | (go_at_call 39; exact KW.call (A39.out _)) | (go_at_call 40; exact KW.same (A40.out _)))) | quiet_step ((first | (go_at_call 35; exact KW.same (A35.out _)) | (go_at_call 36; exact KW.same (A36.out _)) | (go_at_call 37; exact KW.call (A37.out _)) | (go_at_call 38; exact KW.same (A38.out _)) | (go_at_call 39; exact KW.call (A39.out _)) | (go_at_call 40; exact KW.same (A40.out _)))))
        refine wpQuiet_nil ?_
        intro kz
        have tz := t4.kept kz.kp
        go_wp2_with fail
        go_roundg (ds.length - (k + 1))
        case measure => omega
        case rel => exact ⟨k + 1, n2, l2, v4, _, rfl, by go_num, by omega, by omega, hl2, hn20, by omega, tz⟩
    · have hex : (decide ((k : Int) < (ds.length : Int)) = false ∧ decide (k < ds.length) = false ∧ ¬ k < ds.length ∧ ds.length ≤ k) ∨ (decide ((k : Int) < (ds.length : Int)) = true ∧ decide (k < ds.length) = true ∧ k < ds.length ∧ decide ((k : Int) < 300) = false ∧ ¬ ((k : Int) < 300) ∧ (300 : Int) ≤ (k : Int) ∧ 300 ≤ k ∧ ¬ k < 300) := by
        by_cases h : k < ds.length
        · exact .inr ⟨by simp; omega, by simp; omega, h, by simp; omega, by omega, by omega, by omega, by omega⟩
        · exact .inl ⟨by simp; omega, by simp; omega, h, by omega⟩
      obtain ⟨uo, uc, rfl, huc1, huc2⟩ := ht.R.form
      unfold maxLen at huc2
      clear hlt
      have HT := Lib.hid ht
      clear ht
      rcases hex with ⟨hd, hd2, hp2, hp3⟩ | ⟨hd, hdn, hlt, hd2, hp2, hp3, hp4, hp5⟩
      all_goals
        obtain ⟨wo, rfl⟩ : ∃ wo : World, wo = wr := ⟨_, rfl⟩
        go_wp2_with fail
        go_loopg [10] l.length (fun gg s10 wr => ∃ (j : Nat), gg = l.length - j ∧ s10 = .int .i64 j ∧ j ≤ l.length ∧ Tw' W.heap.size W wr W.heap.size v n l w1.heap.size (.slice uo l.length uc) n l)
        case atStart => exact ⟨0, rfl, rfl, Nat.zero_le _, HT.out⟩
        case round =>
          clear HT
          obtain ⟨j, rfl, rfl, hj, t⟩ := hrel
          have c0 := t.R.c0
          have lr := t.R.lt
          by_cases hjl : j < l.length
          · have hd3 : decide ((j : Int) < (l.length : Int)) = true := by simp; omega
            have hj2 : (j : Int) < (l.length : Int) := by omega
            have X := look_c (j : Int) t.P hl
            have hi : is l (j : Int) = true := is_iff.2 ⟨by omega, hj2⟩
            have ea : atK l (j : Int) = l[j] := by
              unfold atK
              rw [if_pos hi, Int.toNat_natCast, List.getD_eq_getElem?_getD, List.getElem?_eq_getElem hjl]
              rfl
            have ee : lookE l (j : Int) = 0 := by unfold lookE; rw [if_pos hi]
            rw [ea, ee] at X
            obtain ⟨g, hug, hg, hgq, e0, e1, e2⟩ := t.R.el j hjl
            subst hug
            generalize (l[j]).1 = x at *
            generalize (l[j]).2.1 = y at *
            generalize (l[j]).2.2 = z at *
            have X := Lib.hid X
            clear ea ee hi
            have E : Hid (∀ w', Below wr.heap.size wr w' → (w'.cell? ⟨w1.heap.size, 0, none⟩ = some (.slice (some ⟨g, 0, none⟩) l.length uc)) ∧ w'.cell? ⟨g, j * 3, none⟩ = some (.int .i64 x) ∧ w'.cell? ⟨g, j * 3 + 1, none⟩ = some (.bool y) ∧ w'.cell? ⟨g, j * 3 + 2, none⟩ = some (.string z)) := Lib.hid fun w' hb => ⟨(hb.cell (p := ⟨w1.heap.size, 0, none⟩) lr).trans c0, (hb.cell (p := ⟨g, j * 3, none⟩) hg).trans e0, (hb.cell (p := ⟨g, j * 3 + 1, none⟩) hg).trans e1, (hb.cell (p := ⟨g, j * 3 + 2, none⟩) hg).trans e2⟩
            have T := Lib.hid t
            clear t e0 e1 e2
            go_wp2_with fail
            refine X.out.mono ?_
            rintro e w3 ⟨rfl, hb3⟩
            have hbA : Below wr.heap.size wr (w3.alloc (.cells #[.int .i64 x, .bool y, .string z] 72)) := hb3.alloc hb3.size _
            have tA := T.out.kept hbA
            clear c0
            obtain ⟨c0, e0, e1, e2⟩ := E.out _ hbA
            have a0 : (w3.alloc (.cells #[.int .i64 x, .bool y, .string z] 72)).cell? ⟨w3.heap.size, 0, none⟩ = some (.int .i64 x) := block_cell (heap_alloc_new w3 _) 0
            have a1 : (w3.alloc (.cells #[.int .i64 x, .bool y, .string z] 72)).cell? ⟨w3.heap.size, 1, none⟩ = some (.bool y) := block_cell (heap_alloc_new w3 _) 1
            have a2 : (w3.alloc (.cells #[.int .i64 x, .bool y, .string z] 72)).cell? ⟨w3.heap.size, 2, none⟩ = some (.string z) := block_cell (heap_alloc_new w3 _) 2
            have s3 : (w3.alloc (.cells #[.int .i64 x, .bool y, .string z] 72)).heap.size = w3.heap.size + 1 := by simp
            have z0 := hb3.size
            have z1 : w3.heap.size < (w3.alloc (.cells #[.int .i64 x, .bool y, .string z] 72)).heap.size := by omega
            have z2 : w1.heap.size < (w3.alloc (.cells #[.int .i64 x, .bool y, .string z] 72)).heap.size := by omega
            have z3 : g < (w3.alloc (.cells #[.int .i64 x, .bool y, .string z] 72)).heap.size := by omega
            clear hb3 hbA s3 z0 E T X
            go_upto_region 13 with fail
            generalize w3.alloc (.cells #[.int .i64 x, .bool y, .string z] 72) = wA at *
            refine wp_region_kq (by kernel_rfl) (by kernel_rfl) ?_
            repeat (first | go_big_quiet_step ((go_at_call 42; exact KW.call (mine_c _ _ _ _))) | quiet_step ((go_at_call 42; exact KW.call (mine_c _ _ _ _))))
            refine wpQuiet_nil ?_
            intro kz
            have tz := tA.kept kz.kp
            go_wp2_with fail
            go_roundg (l.length - (j + 1))
            case measure => omega
            case rel => exact ⟨j + 1, rfl, by go_num, by omega, tz⟩
          · obtain rfl : j = l.length := by omega
            have hd3 : decide ((l.length : Int) < (l.length : Int)) = false := by simp
            have hb := t.bl
            clear t
            go_wp2_with (go_at_call 33; refine (cawake_b hb).mono ?_; rintro e w' ⟨rfl, hb1⟩)
            go_ret
            exact ⟨rfl, hb1⟩
end Ch
end Go.Proofs.Ythmglahcampllaa
