/- What is proved here: what the reference's clocks answer: Apart, Read. Condition: they lie in memory of the call's own. -/
import Derived.Test.YtgpeekmagckgcaaR1
namespace Go.Proofs.Ytgpeekmagckgcaa
open Go Go.RowKit
attribute [local go_sem] KW.cell KW.frozen

section
variable {B : Nat} {w : World} {q g cap T : Nat} {real most : Int} {l : List Rr}
theorem take_psum (ps : List (Int × Int)) (k : Nat) (h : k < ps.length) : Pl.psum (ps.take (k + 1)) = Pl.psum (ps.take k) + (ps[k]).1 * (ps[k]).2 := by
  rw [List.take_succ_eq_append_getElem h, Pl.psum_snoc]
set_option maxRecDepth 100000 in
set_option maxHeartbeats 2000000 in
theorem rapart_run (i : Nat) (h : Rc B w q g cap real most l T) (hi : i < l.length) (hs : -1048576 ≤ (l[i]).s ∧ (l[i]).s ≤ 1048576) (hr : real ≤ 1099511627776) (hT : T ≤ 1000) :
    Calls Try.prog 36 #[.pointer (some ⟨q, 0, none⟩), .int .i64 i] w fun e w' => e = .returned (.int .i64 ((l[i]).s + Pl.psum (l[i]).ps / 1000)) ∧ Below w.heap.size w w' := by
  have c2 := h.c2
  have hq := block_lt h.at_
  obtain ⟨l1, l2⟩ := h.le
  obtain ⟨e0, e1, e2⟩ := h.el i hi
  have hin := h.inn i hi
  obtain ⟨g0, g1, g2⟩ := h.good _ (List.getElem_mem hi)
  have hd : decide ((i : Int) < (l.length : Int)) = true := by simp; omega
  obtain ⟨ao, c, hv⟩ := own_form hin
  have hg : g < w.heap.size := by obtain ⟨cur, h1, _⟩ := own_block h.own; exact block_lt h1
  rw [hv] at e2 hin
  clear h hv
  generalize (l[i]).s = s at *
  generalize (l[i]).ps = ps at *
  clear e1
  generalize l.length = n at *
  have HI := Lib.hid hin
  have BD := Lib.hid (fun k => Pl.psum_bd (ps.take k) (Pl.pgood_take g0 k))
  have TT := Lib.hid (fun k => Pl.ptime_take g0 k)
  have GG := Lib.hid g0
  clear hin g0
  go_enter Try.func36, Try.ntmps36
  go_wp2_with fail
  go_loopw [5, 6] (fun s i wr => ∃ (k : Nat), s = .int .i64 (Pl.psum (ps.take k)) ∧ i = .int .i64 k ∧ k ≤ ps.length ∧ Below w.heap.size w wr) (fun _ i _ => ps.length - (intOf i).toNat)
  case atStart => exact ⟨0, rfl, rfl, Nat.zero_le _, Below.refl _ _⟩
  case round =>
    obtain ⟨k, rfl, rfl, hk, hwr⟩ := hrel
    have c2 := (hwr.cell (p := ⟨q, 2, none⟩) hq).trans c2
    have e0 := (hwr.cell (p := ⟨g, i * 3, none⟩) hg).trans e0
    have e2 := (hwr.cell (p := ⟨g, i * 3 + 2, none⟩) hg).trans e2
    have hq := Nat.lt_of_lt_of_le hq hwr.size
    have hg := Nat.lt_of_lt_of_le hg hwr.size
    by_cases hlt : k < ps.length
    · have hd2 : decide ((k : Int) < (ps.length : Int)) = true := by simp; omega
      obtain ⟨b, rfl, hb, p0, p1⟩ := piece_at HI.out k hlt
      have p0 := (hwr.cell (p := ⟨b, k * 2, none⟩) hb).trans p0
      have p1 := (hwr.cell (p := ⟨b, k * 2 + 1, none⟩) hb).trans p1
      have hb := Nat.lt_of_lt_of_le hb hwr.size
      have b1 := BD.out k
      have b2 := BD.out (k + 1)
      have t1 := TT.out k
      have t2 := TT.out (k + 1)
      have es := take_psum ps k hlt
      have gp := GG.out _ (List.getElem_mem hlt)
      rw [es] at b2
      generalize Pl.psum (ps.take k) = S at *
      generalize (ps[k]).1 = N at *
      generalize (ps[k]).2 = R at *
      have x1 : IntKind.i64.wrap (N * R) = N * R := wrap_of (by omega) (by omega)
      have x2 : IntKind.i64.wrap (S + N * R) = S + N * R := wrap_of (by omega) (by omega)
      have ES := Lib.hid es
      clear b1 b2 t1 t2 es gp
      go_wp2_with fail
      refine wp_region_kq (by kernel_rfl) (by kernel_rfl) ?_
      repeat (quiet_step (fail))
      refine wpQuiet_nil ?_
      intro kz
      have hz := bon hwr kz.kp
      go_wp2_with fail
      go_roundw
      case rel => exact ⟨k + 1, by rw [ES.out], by go_num, by omega, hz⟩
      case measure => simp [intOf]; omega
    · obtain rfl : k = ps.length := by omega
      have hd2 : decide ((ps.length : Int) < (ps.length : Int)) = false := by simp
      have b1 := BD.out ps.length
      rw [List.take_length] at b1
      have FL := Lib.hid (fun w => floor_c (Pl.psum ps) w (by omega) (by omega))
      have x1 : IntKind.i64.wrap (s + Pl.psum ps / 1000) = s + Pl.psum ps / 1000 := wrap_of (by omega) (by omega)
      rw [List.take_length]
      have EE : Hid (Pl.psum ps / 1000 = Pl.psum ps / 1000) := Lib.hid rfl
      obtain ⟨S1, hS⟩ : ∃ S1, Hid (Pl.psum ps / 1000 = S1) := ⟨_, Lib.hid rfl⟩
      rw [hS.out] at FL x1
      obtain ⟨S, hP⟩ : ∃ S, Hid (Pl.psum ps = S) := ⟨_, Lib.hid rfl⟩
      rw [hP.out] at FL ⊢
      clear b1 EE
      go_wp2_with fail
      refine wp_region_kq (by kernel_rfl) (by kernel_rfl) ?_
      repeat (quiet_step ((go_at_call 69; exact KW.same (FL.out _))))
      refine wpQuiet_nil ?_
      intro kz
      have hz := bon hwr kz.kp
      go_wp2_with fail
      go_ret
      exact ⟨by rw [hS.out]; rfl, hz⟩
theorem rapart_c (i : Int) (h : Rc B w q g cap real most l T) (ok : Pl.Ok real most (Pl.view l)) (hi : thereB l.length i = true) (hT : T ≤ 1000) :
    Calls Try.prog 36 #[.pointer (some ⟨q, 0, none⟩), .int .i64 i] w fun e w' => e = .returned (.int .i64 (Pl.apartAt (Pl.view l) i)) ∧ Below w.heap.size w w' := by
  obtain ⟨h0, h1⟩ := thereB_iff.1 hi
  have hk : i.toNat < l.length := by omega
  have hk' : i.toNat < (Pl.view l).length := by rw [view_len]; exact hk
  have b := ok.at_ i.toNat hk'
  have e : (Pl.view l)[i.toNat] = ((l[i.toNat]).s, (l[i.toNat]).r, Pl.psum (l[i.toNat]).ps) := by simp [Pl.view]
  rw [e] at b
  have ea : Pl.apartAt (Pl.view l) i = (l[i.toNat]).s + Pl.psum (l[i.toNat]).ps / 1000 := by
    unfold Pl.apartAt
    rw [dif_pos ⟨h0, by rw [view_len]; exact h1⟩, e]
    rfl
  have c := rapart_run i.toNat h hk ⟨b.1, b.2.1⟩ ok.r1 hT
  rw [Int.toNat_of_nonneg h0] at c
  rw [ea]
  exact c
set_option maxRecDepth 100000 in
theorem rread_c (i : Int) (h : Rc B w q g cap real most l T) (ok : Pl.Ok real most (Pl.view l)) (hT : T ≤ 1000) : Calls Try.prog 32 #[.pointer (some ⟨q, 0, none⟩), .int .i64 i] w fun e w' => e = .returned (.int .i64 (Pl.readAt real (Pl.view l) i)) ∧ Below w.heap.size w w' := by
  have HI := Lib.hid (ris_c i h)
  have HC := Lib.hid h
  have c0 := h.c0
  have hz := block_lt h.at_
  clear h
  by_cases hi : thereB l.length i = true
  · have e : Pl.readAt real (Pl.view l) i = real + Pl.apartAt (Pl.view l) i := by unfold Pl.readAt; rw [view_len, if_pos hi]
    have b := Pl.apart_bd ok i
    have r0 := ok.r0
    have r1 := ok.r1
    have HA := Lib.hid (fun (k : KW w) => rapart_c i (HC.out.kept k.kp) ok hi hT)
    rw [hi] at HI
    rw [e]
    clear e hi ok
    have x1 : IntKind.i64.wrap (real + Pl.apartAt (Pl.view l) i) = real + Pl.apartAt (Pl.view l) i := wrap_of (by omega) (by omega)
    generalize Pl.apartAt (Pl.view l) i = A at *
    go_enter Try.func32, Try.ntmps32
    go_wp2_with (go_at_call 34; refine HI.out.mono ?_; rintro e w' ⟨rfl, rfl⟩)
    refine wp_region_kq (by kernel_rfl) (by kernel_rfl) ?_
    repeat (quiet_step ((go_at_call 36; exact KW.call (HA.out _))))
    refine wpQuiet_nil ?_
    intro k1
    have hk1 := k1.kp
    go_wp2
    go_ret
    exact ⟨rfl, hk1⟩
  · have hi' : thereB l.length i = false := by simpa using hi
    rw [hi'] at HI
    have e : Pl.readAt real (Pl.view l) i = 0 := by unfold Pl.readAt; rw [view_len, if_neg hi]
    rw [e]
    clear e hi hi' ok
    go_enter Try.func32, Try.ntmps32
    go_wp2_with (go_at_call 34; refine HI.out.mono ?_; rintro e w' ⟨rfl, rfl⟩)
    go_ret
    exact ⟨rfl, Below.refl _ _⟩
end
end Go.Proofs.Ytgpeekmagckgcaa
