/- What is proved here: the contracts of both clocks side by side; the walk of ClockPlays. Condition: none. -/
import Derived.Test.YtgpeekmagckgcaaR6
import Derived.Test.YtgpeekmagckgcaaK9
namespace Go.Proofs.Ytgpeekmagckgcaa
open Go Go.RowKit
attribute [local go_sem] KW.cell KW.frozen

/-- The program's clocks (real time R, clocks l) and the reference's (real time S, clocks L), both of the law's own. -/
structure Tw (W w : World) (p g cap q h c : Nat) (most : Int) (R : Int) (l : List Pl.Cl) (S : Int) (L : List Rr) (T N : Nat) : Prop where
  cw : CW W w p g cap R most l
  rc : Rc W.heap.size w q h c S most L T
  ok : Pl.Ok S most (Pl.view L)
  len : (Pl.view L).length = N
section
variable {W w : World} {p g cap q h c : Nat} {most R S : Int} {l : List Pl.Cl} {L : List Rr} {T N : Nat}
theorem Tw.bl (t : Tw W w p g cap q h c most R l S L T N) : Below W.heap.size W w := t.cw.bl
theorem Tw.kept {w' : World} (t : Tw W w p g cap q h c most R l S L T N) (hb : Below w.heap.size w w') : Tw W w' p g cap q h c most R l S L T N := ⟨t.cw.kept hb, t.rc.kept hb, t.ok, t.len⟩
theorem Tw.drewN (t : Tw W w p g cap q h c most R l S L T N) (n : Nat) : Tw W (w.drewN n) p g cap q h c most R l S L T N := ⟨t.cw.drewN n, t.rc.drewN n, t.ok, t.len⟩
theorem Rc.mod {w' : World} (hr : Rc W.heap.size w q h c S most L T) (ck : Ck W.heap.size w p g cap R most l) (hm : Mod w w' p g) : Rc W.heap.size w' q h c S most L T := by
  refine hr.far fun b cs t hb ht => hm.block b (block_lt hb) ?_ ?_
  · rintro rfl
    have e := ck.at_.symm.trans hb
    injection e with e
    injection e with _ e
    subst e
    rcases ht with h0 | h0 | h0 <;> cases h0
  · rintro rfl
    obtain ⟨cur, h1, _⟩ := own_block ck.own
    have e := h1.symm.trans hb
    injection e with e
    injection e with _ e
    subst e
    rcases ht with h0 | h0 | h0 <;> cases h0
theorem Ck.rm {w' : World} (ck : Ck W.heap.size w p g cap R most l) (hm : RM W.heap.size w w') : Ck W.heap.size w' p g cap R most l := by
  obtain ⟨cur, h1, _⟩ := own_block ck.own
  exact ck.far (hm.tag p _ _ ck.at_ (by decide) (by decide) (by decide)) (hm.tag g _ _ h1 (by decide) (by decide) (by decide))
theorem Tw.mod {w' : World} {R' : Int} {l' : List Pl.Cl} (t : Tw W w p g cap q h c most R l S L T N) (hm : Mod w w' p g) (cw' : CW W w' p g cap R' most l') : Tw W w' p g cap q h c most R' l' S L T N := ⟨cw', t.rc.mod t.cw.ck hm, t.ok, t.len⟩
theorem Tw.rm {w' : World} {S' : Int} {L' : List Rr} {T' : Nat} (t : Tw W w p g cap q h c most R l S L T N) (hm : RM W.heap.size w w') (rc' : Rc W.heap.size w' q h c S' most L' T') (ok' : Pl.Ok S' most (Pl.view L')) (len' : (Pl.view L').length = N) : Tw W w' p g cap q h c most R l S' L' T' N :=
  ⟨⟨t.cw.ck.rm hm, t.cw.bl.trans hm.bl, t.cw.ok⟩, rc', ok', len'⟩
theorem tw_tick (n : Int) (t : Tw W w p g cap q h c most R l S L T N) : Calls Try.prog 27 #[.pointer (some ⟨p, 0, none⟩), .int .i64 n] w fun e w' => e = .returned (.tuple #[]) ∧ Tw W w' p g cap q h c most (R + Pl.step R n) (Pl.ticked (Pl.step R n) l) S L T N :=
  (tick_c n t.cw.ck t.cw.ok).mono fun _ _ ⟨he, hc, hm⟩ => ⟨he, t.mod hm ⟨hc, hm.below t.cw.ck.hp t.cw.ck.hg.1 t.cw.bl t.cw.bl.size, t.cw.ok.tick⟩⟩
theorem tw_rtick (n : Int) (t : Tw W w p g cap q h c most R l S L T N) (hT : T ≤ 1000) : Calls Try.prog 28 #[.pointer (some ⟨q, 0, none⟩), .int .i64 n] w fun e w' => e = .returned (.tuple #[]) ∧ ∃ L', Hid (Pl.view L' = Pl.ticked (Pl.step S n) (Pl.view L)) ∧ Tw W w' p g cap q h c most R l (S + Pl.step S n) L' (T + 1) N :=
  (rtick_c n t.rc t.ok hT t.cw.bl.size).mono fun _ _ ⟨he, L', hv, hc, hm⟩ => ⟨he, L', Lib.hid hv, t.rm hm hc (by rw [hv]; exact t.ok.tick) (by rw [hv, Pl.ticked_len]; exact t.len)⟩
theorem tw_rate (i r : Int) (t : Tw W w p g cap q h c most R l S L T N) : Calls Try.prog 29 #[.pointer (some ⟨p, 0, none⟩), .int .i64 i, .int .i64 r] w fun e w' => e = .returned (.int .i64 (Pl.rateE l.length most i r)) ∧ Tw W w' p g cap q h c most R (Pl.rated l most i r) S L T N :=
  (rate_c i r t.cw.ck t.cw.ok).mono fun _ _ ⟨he, hc, hm⟩ => ⟨he, t.mod hm ⟨hc, hm.below t.cw.ck.hp t.cw.ck.hg.1 t.cw.bl t.cw.bl.size, t.cw.ok.rate i r⟩⟩
theorem tw_rrate (i r : Int) (t : Tw W w p g cap q h c most R l S L T N) : Calls Try.prog 30 #[.pointer (some ⟨q, 0, none⟩), .int .i64 i, .int .i64 r] w fun e w' => e = .returned (.int .i64 (Pl.rateE (Pl.view L).length most i r)) ∧ ∃ L', Hid (Pl.view L' = Pl.rated (Pl.view L) most i r) ∧ Tw W w' p g cap q h c most R l S L' T N :=
  (rrate_c i r t.rc t.ok).mono fun _ _ ⟨he, L', hv, hc, hm⟩ => ⟨he, L', Lib.hid hv, t.rm hm hc (by rw [hv]; exact t.ok.rate i r) (by rw [hv, Pl.rated_len]; exact t.len)⟩
theorem tw_read (i : Int) (t : Tw W w p g cap q h c most R l S L T N) : Calls Try.prog 31 #[.pointer (some ⟨p, 0, none⟩), .int .i64 i] w fun e w' => e = .returned (.int .i64 (Pl.readAt R l i)) ∧ Tw W w' p g cap q h c most R l S L T N :=
  (read_c i t.cw.ck t.cw.ok).mono fun _ _ ⟨he, hb⟩ => ⟨he, t.kept hb⟩
theorem tw_rread (i : Int) (t : Tw W w p g cap q h c most R l S L T N) (hT : T ≤ 1000) : Calls Try.prog 32 #[.pointer (some ⟨q, 0, none⟩), .int .i64 i] w fun e w' => e = .returned (.int .i64 (Pl.readAt S (Pl.view L) i)) ∧ Tw W w' p g cap q h c most R l S L T N :=
  (rread_c i t.rc t.ok hT).mono fun _ _ ⟨he, hb⟩ => ⟨he, t.kept hb⟩
theorem tw_real (t : Tw W w p g cap q h c most R l S L T N) : Calls Try.prog 33 #[.pointer (some ⟨p, 0, none⟩)] w fun e w' => e = .returned (.int .i64 R) ∧ w = w' := real_c t.cw.ck
theorem tw_is {b : Bool} (i : Int) (t : Tw W w p g cap q h c most R l S L T N) (hb : Hid (thereB N i = b)) : Calls Try.prog 34 #[.pointer (some ⟨q, 0, none⟩), .int .i64 i] w fun e w' => e = .returned (.bool b) ∧ w = w' := by
  have := ris_c i t.rc
  rw [← view_len, t.len, hb.out] at this
  exact this
theorem tw_apart (i : Int) (t : Tw W w p g cap q h c most R l S L T N) : Calls Try.prog 35 #[.pointer (some ⟨p, 0, none⟩), .int .i64 i] w fun e w' => e = .returned (.int .i64 (Pl.apartAt l i)) ∧ Tw W w' p g cap q h c most R l S L T N :=
  (apart_c i t.cw.ck t.cw.ok).mono fun _ _ ⟨he, hb⟩ => ⟨he, t.kept hb⟩
theorem tw_rapart (i : Int) (t : Tw W w p g cap q h c most R l S L T N) (hT : T ≤ 1000) (hi : Hid (thereB N i = true)) : Calls Try.prog 36 #[.pointer (some ⟨q, 0, none⟩), .int .i64 i] w fun e w' => e = .returned (.int .i64 (Pl.apartAt (Pl.view L) i)) ∧ Tw W w' p g cap q h c most R l S L T N :=
  (rapart_c i t.rc t.ok (by rw [← view_len, t.len]; exact hi.out) hT).mono fun _ _ ⟨he, hb⟩ => ⟨he, t.kept hb⟩
theorem tw_cell (t : Tw W w p g cap q h c most R l S L T N) : w.cell? ⟨q, 0, none⟩ = some (.int .i64 S) := t.rc.c0
theorem tw_apart0 (i : Int) (t : Tw W w p g cap q h c most R (Pl.view L) S L T N) (hi : Hid (thereB N i = false)) : Calls Try.prog 35 #[.pointer (some ⟨p, 0, none⟩), .int .i64 i] w fun e w' => e = .returned (.int .i64 0) ∧ Tw W w' p g cap q h c most R (Pl.view L) S L T N :=
  (tw_apart i t).mono fun _ _ ⟨he, ht⟩ => ⟨by rw [he, Pl.apartAt_eq, if_neg (by rw [t.len, hi.out]; simp)], ht⟩
/-! The same in the worlds that have kept all of w. -/
theorem tq_read (i : Int) (t : Tw W w p g cap q h c most R l S L T N) (k : KW w) : Calls Try.prog 31 #[.pointer (some ⟨p, 0, none⟩), .int .i64 i] k.val fun e w' => e = .returned (.int .i64 (Pl.readAt R l i)) ∧ ∃ k' : KW w, w' = k'.val :=
  KW.call (read_c i (t.kept k.kp).cw.ck t.cw.ok)
theorem tq_rread (i : Int) (t : Tw W w p g cap q h c most R l S L T N) (hT : T ≤ 1000) (k : KW w) : Calls Try.prog 32 #[.pointer (some ⟨q, 0, none⟩), .int .i64 i] k.val fun e w' => e = .returned (.int .i64 (Pl.readAt S (Pl.view L) i)) ∧ ∃ k' : KW w, w' = k'.val :=
  KW.call (rread_c i (t.kept k.kp).rc t.ok hT)
theorem tq_real (t : Tw W w p g cap q h c most R l S L T N) (k : KW w) : Calls Try.prog 33 #[.pointer (some ⟨p, 0, none⟩)] k.val fun e w' => e = .returned (.int .i64 R) ∧ ∃ k' : KW w, w' = k'.val :=
  KW.same (tw_real (t.kept k.kp))
theorem tq_is {b : Bool} (i : Int) (t : Tw W w p g cap q h c most R l S L T N) (hb : Hid (thereB N i = b)) (k : KW w) : Calls Try.prog 34 #[.pointer (some ⟨q, 0, none⟩), .int .i64 i] k.val fun e w' => e = .returned (.bool b) ∧ ∃ k' : KW w, w' = k'.val :=
  KW.same (tw_is i (t.kept k.kp) hb)
theorem tq_apart (i : Int) (t : Tw W w p g cap q h c most R l S L T N) (_hi : Hid (thereB N i = true)) (k : KW w) : Calls Try.prog 35 #[.pointer (some ⟨p, 0, none⟩), .int .i64 i] k.val fun e w' => e = .returned (.int .i64 (Pl.apartAt l i)) ∧ ∃ k' : KW w, w' = k'.val :=
  KW.call (apart_c i (t.kept k.kp).cw.ck t.cw.ok)
theorem tq_rapart (i : Int) (t : Tw W w p g cap q h c most R l S L T N) (hT : T ≤ 1000) (hi : Hid (thereB N i = true)) (k : KW w) : Calls Try.prog 36 #[.pointer (some ⟨q, 0, none⟩), .int .i64 i] k.val fun e w' => e = .returned (.int .i64 (Pl.apartAt (Pl.view L) i)) ∧ ∃ k' : KW w, w' = k'.val :=
  KW.call (rapart_c i (t.kept k.kp).rc t.ok (by rw [← view_len, t.len]; exact hi.out) hT)
theorem tq_apart0 (i : Int) (t : Tw W w p g cap q h c most R (Pl.view L) S L T N) (hi : Hid (thereB N i = false)) (k : KW w) : Calls Try.prog 35 #[.pointer (some ⟨p, 0, none⟩), .int .i64 i] k.val fun e w' => e = .returned (.int .i64 0) ∧ ∃ k' : KW w, w' = k'.val :=
  KW.call ((apart_c i (t.kept k.kp).cw.ck t.cw.ok).mono fun _ _ ⟨he, hb⟩ => ⟨by rw [he, Pl.apartAt_eq, if_neg (by rw [t.len, hi.out]; simp)], hb⟩)
theorem Tw.more (t : Tw W w p g cap q h c most R l S L T N) : Tw W w p g cap q h c most R l S L (T + 1) N := ⟨t.cw, t.rc.more, t.ok, t.len⟩
theorem apart_zero (l : List Pl.Cl) (i : Int) (h : thereB l.length i = false) : Pl.apartAt l i = 0 := by rw [Pl.apartAt_eq, if_neg (by rw [h]; simp)]
theorem own_lower {B B' e z n : Nat} {v : Value} {vs : List Value} (h : w.ownsRow B e z v n vs) (hB : B' ≤ B) : w.ownsRow B' e z v n vs := by
  refine ⟨h.1, ?_⟩
  rcases h.2 with h0 | ⟨g', c', cur', hv, hb', r⟩
  · exact .inl h0
  · exact .inr ⟨g', c', cur', hv, Nat.le_trans hB hb', r⟩
theorem tw_new (v : Value) (xs : List Int) (most : Int) (h : RdI v xs w) (cw : CW W w p g cap 0 most (Pl.fresh xs)) (hn : Pl.newB xs most = true) :
    Calls Try.prog 25 #[v, .int .i64 most] w fun e w' => ∃ q h c, e = .returned (.pointer (some ⟨q, 0, none⟩)) ∧ Tw W w' p g cap q h c most 0 (Pl.view (rfresh xs)) 0 (rfresh xs) 0 xs.length :=
  (rnew_c v xs most w h).mono fun _ w' hp => by
    obtain ⟨h1, h2⟩ := hp
    rw [if_pos hn] at h2
    obtain ⟨q, g', c', he, hr⟩ := h2
    have hB := cw.bl.size
    refine ⟨q, g', c', he, by rw [rfresh_view]; exact cw.kept h1, ⟨Nat.le_trans hB hr.hq, hr.at_, ?_, fun i hi => ?_, hr.sep, hr.good⟩, by rw [rfresh_view]; exact Pl.ok_new hn, by simp [view_len, rfresh]⟩
    · exact own_lower hr.own hB
    · exact own_lower (hr.inn i hi) hB
theorem tw_new0 (v : Value) (xs : List Int) (most : Int) (h : RdI v xs w) (hb : Below W.heap.size W w) (hn : Pl.newB xs most = false) :
    Calls Try.prog 25 #[v, .int .i64 most] w fun e w' => e = .returned (.pointer none) ∧ Below W.heap.size W w' :=
  (rnew_c v xs most w h).mono fun _ w' hp => by
    obtain ⟨h1, h2⟩ := hp
    rw [if_neg (by rw [hn]; simp)] at h2
    exact ⟨h2, bon hb h1⟩
end
end Go.Proofs.Ytgpeekmagckgcaa
