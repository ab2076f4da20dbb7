/- What is proved here: how the reference's clocks are turned: Rate. Condition: they lie in memory of the call's own. -/
import Derived.Test.YtgpeekmagckgcaaR2
namespace Go.Proofs.Ytgpeekmagckgcaa
open Go Go.RowKit
attribute [local go_sem] KW.cell KW.frozen

/-- Only blocks from B on have turned, and of them only the reference's clocks, and what is new. -/
structure RM (B : Nat) (w w' : World) : Prop where
  bl : Below B w w'
  tag : ∀ (b : Nat) (cs : Array Value) (t : TypeId), w.heap[b]? = some (Obj.cells cs t (0, 0)) → t ≠ 51 → t ≠ 100 → t ≠ 102 → w'.heap[b]? = w.heap[b]?
section
variable {B : Nat} {w w' : World} {q g cap T : Nat} {real most : Int} {l : List Rr}
theorem RM.refl (B : Nat) (w : World) : RM B w w := ⟨Below.refl _ _, fun _ _ _ _ _ _ _ => rfl⟩
theorem RM.trans {a b c : World} (h : RM B a b) (k : RM B b c) : RM B a c :=
  ⟨h.bl.trans k.bl, fun i cs t hi h1 h2 h3 => by
    have e := h.tag i cs t hi h1 h2 h3
    exact (k.tag i cs t (e.trans hi) h1 h2 h3).trans e⟩
theorem RM.drewN {a b : World} (h : RM B a b) (n : Nat) : RM B a (b.drewN n) := ⟨below_drewN h.bl n, h.tag⟩
theorem RM.of_below (h : Below w.heap.size w w') (hB : B ≤ w.heap.size) : RM B w w' := ⟨h.mono hB, fun _ _ _ hi _ _ _ => h.block _ (block_lt hi)⟩
theorem RM.set {a b : World} (h : RM B a b) {x : Nat} (hx : B ≤ x) (hb : ∃ cs t, a.heap[x]? = some (Obj.cells cs t (0, 0)) ∧ (t = 51 ∨ t = 100 ∨ t = 102)) (i : Nat) (u : Value) : RM B a (b.setCell ⟨x, i, none⟩ u) := by
  refine ⟨h.bl.setCell hx _, fun j cs t hj h1 h2 h3 => ?_⟩
  have hne : j ≠ x := by
    rintro rfl
    obtain ⟨cs', t', e, ht⟩ := hb
    rw [e] at hj
    injection hj with hj
    injection hj with _ ht'
    subst ht'
    rcases ht with ht | ht | ht
    · exact h1 ht
    · exact h2 ht
    · exact h3 ht
  exact (Below.heap_setCell b ⟨x, i, none⟩ u j hne).trans (h.tag j cs t hj h1 h2 h3)
theorem Rc.gblk (h : Rc B w q g cap real most l T) : ∃ cs t, w.heap[g]? = some (Obj.cells cs t (0, 0)) ∧ (t = 51 ∨ t = 100 ∨ t = 102) := by
  obtain ⟨cur, h1, _⟩ := own_block h.own
  exact ⟨cur, 100, h1, .inr (.inl rfl)⟩
theorem Rc.qblk (h : Rc B w q g cap real most l T) : ∃ cs t, w.heap[q]? = some (Obj.cells cs t (0, 0)) ∧ (t = 51 ∨ t = 100 ∨ t = 102) := ⟨_, 51, h.at_, .inl rfl⟩
theorem Rc.hgB (h : Rc B w q g cap real most l T) : B ≤ g ∧ g < w.heap.size := by
  obtain ⟨cur, h1, h2⟩ := own_block h.own
  exact ⟨h2, block_lt h1⟩
theorem Rc.ne (h : Rc B w q g cap real most l T) : q ≠ g := by
  rintro rfl
  obtain ⟨cur, h1, h2⟩ := own_block h.own
  have := h.at_.symm.trans h1
  injection this with this
  injection this with _ this
  cases this
/-- The pieces' blocks are neither of the two. -/
theorem Rc.vne (h : Rc B w q g cap real most l T) (i : Nat) (hi : i < l.length) : (l[i]).v.ownBlock ≠ some q ∧ (l[i]).v.ownBlock ≠ some g := by
  obtain ⟨cur, h1, _⟩ := own_block h.own
  exact ⟨own_ne (h.inn i hi) h.at_ (by decide), own_ne (h.inn i hi) h1 (by decide)⟩
theorem rflat_set (l : List Rr) : ∀ (k : Nat) (_h : k < l.length) (c : Rr), rflat (l.set k c) = (((rflat l).set (k * 3) (.int .i64 c.s)).set (k * 3 + 1) (.int .i64 c.r)).set (k * 3 + 2) c.v := by
  induction l with
  | nil => intro k h; cases h
  | cons o l ih =>
    intro k h c
    cases k with
    | zero => rfl
    | succ k =>
      have := ih k (by simpa using h) c
      have e1 : (k + 1) * 3 = k * 3 + 1 + 1 + 1 := by omega
      rw [e1]
      simp only [rflat, List.set_cons_succ, List.flatMap_cons] at *
      rw [this]
      rfl
theorem Rc.setRate (h : Rc B w q g cap real most l T) (k : Nat) (hk : k < l.length) (r : Int) : Rc B (w.setCell ⟨g, k * 3 + 1, none⟩ (.int .i64 r)) q g cap real most (l.set k { l[k] with r := r }) T := by
  have e := rflat_get l k hk
  have hs := (h.own.stored (k * 3 + 1) (.int .i64 r)).1
  have hv : ∀ i (hi : i < (l.set k { l[k] with r := r }).length), ((l.set k { l[k] with r := r })[i]).v = (l[i]'(by simpa using hi)).v ∧ ((l.set k { l[k] with r := r })[i]).ps = (l[i]'(by simpa using hi)).ps := by
    intro i hi
    rw [List.getElem_set]
    split
    · rename_i e; subst e; exact ⟨rfl, rfl⟩
    · exact ⟨rfl, rfl⟩
  refine ⟨h.hq, ?_, ?_, fun i hi => ?_, fun i j hi hj hne => ?_, fun c hc => ?_⟩
  · rw [List.length_set]
    exact (Below.heap_setCell w ⟨g, k * 3 + 1, none⟩ _ q h.ne).trans h.at_
  · rw [List.length_set, rflat_set l k hk, set_same e.1, List.set_comm _ _ (by omega), set_same e.2.2]
    exact hs
  · rw [(hv i hi).1, (hv i hi).2]
    have hi' : i < l.length := by simpa using hi
    refine own_blk (h.inn i hi') fun b hb => Below.heap_setCell w ⟨g, k * 3 + 1, none⟩ _ b ?_
    rintro rfl
    exact (h.vne i hi').2 hb
  · rw [(hv i hi).1, (hv j hj).1]
    exact h.sep i j (by simpa using hi) (by simpa using hj) hne
  · rcases List.mem_or_eq_of_mem_set hc with hc | rfl
    · exact h.good c hc
    · have := h.good _ (List.getElem_mem hk)
      exact this
theorem view_set (l : List Rr) (k : Nat) (hk : k < l.length) (r : Int) : Pl.view (l.set k { l[k] with r := r }) = (Pl.view l).modify k fun c => (c.1, r, c.2.2) := by
  have hk' : k < (Pl.view l).length := by rw [view_len]; exact hk
  rw [Pl.modify_at _ k hk']
  simp [Pl.view, List.map_set]
set_option maxRecDepth 100000 in
theorem rrate_no (i r : Int) (h : Rc B w q g cap real most l T) (hi : thereB l.length i = false) : Calls Try.prog 30 #[.pointer (some ⟨q, 0, none⟩), .int .i64 i, .int .i64 r] w fun e w' => e = .returned (.int .i64 7) ∧ w = w' := by
  have HI := Lib.hid (ris_c i h)
  rw [hi] at HI
  clear h hi
  go_enter Try.func30, Try.ntmps30
  go_wp2_with (go_at_call 34; refine HI.out.mono ?_; rintro e w' ⟨rfl, rfl⟩)
  go_ret
  exact ⟨rfl, rfl⟩
set_option maxRecDepth 100000 in
theorem rrate_bad (i r : Int) (h : Rc B w q g cap real most l T) (hi : thereB l.length i = true) (hr : most < r ∨ most < IntKind.i64.wrap (0 - r) ∨ r < -500) : Calls Try.prog 30 #[.pointer (some ⟨q, 0, none⟩), .int .i64 i, .int .i64 r] w fun e w' => e = .returned (.int .i64 2) ∧ w = w' := by
  have HI := Lib.hid (ris_c i h)
  rw [hi] at HI
  have c1 := h.c1
  clear h hi
  by_cases h1 : most < r
  · clear hr
    go_enter Try.func30, Try.ntmps30
    go_wp2_with (go_at_call 34; refine HI.out.mono ?_; rintro e w' ⟨rfl, rfl⟩)
    go_ret
    exact ⟨rfl, rfl⟩
  obtain ⟨x, hx⟩ : ∃ x, IntKind.i64.wrap (0 - r) = x := ⟨_, rfl⟩
  rw [hx] at hr
  have hx' : IntKind.i64.wrap (-r) = x := by rw [← hx]; simp
  by_cases h2 : most < x
  · clear hr
    go_enter Try.func30, Try.ntmps30
    go_wp2_with (go_at_call 34; refine HI.out.mono ?_; rintro e w' ⟨rfl, rfl⟩)
    go_ret
    exact ⟨rfl, rfl⟩
  have h3 : r < -500 := by omega
  clear hr
  go_enter Try.func30, Try.ntmps30
  go_wp2_with (go_at_call 34; refine HI.out.mono ?_; rintro e w' ⟨rfl, rfl⟩)
  go_ret
  exact ⟨rfl, rfl⟩
set_option maxRecDepth 100000 in
theorem rrate_run (k : Nat) (r : Int) (h : Rc B w q g cap real most l T) (hk : k < l.length) (hr1 : -most ≤ r) (hr2 : r ≤ most) (hm : 0 ≤ most ∧ most ≤ 500) :
    Calls Try.prog 30 #[.pointer (some ⟨q, 0, none⟩), .int .i64 (k : Int), .int .i64 r] w fun e w' => e = .returned (.int .i64 0) ∧ w' = w.setCell ⟨g, k * 3 + 1, none⟩ (.int .i64 r) := by
  have HI := Lib.hid (ris_c (k : Int) h)
  rw [thereB_iff.2 ⟨by omega, by omega⟩] at HI
  have c1 := h.c1
  have c2 := h.c2
  obtain ⟨_, e1, _⟩ := h.el k hk
  obtain ⟨l1, l2⟩ := h.le
  have f1 := h.fg (k * 3 + 1)
  clear h
  have h1 : ¬ most < r := by omega
  have hx : IntKind.i64.wrap (-r) = -r := wrap_of (by omega) (by omega)
  have hx2 : IntKind.i64.wrap (0 - r) = -r := by rw [Int.zero_sub]; exact hx
  have h2 : ¬ most < -r := by omega
  have h3 : ¬ r < -500 := by omega
  generalize (l[k]).r = x at *
  go_enter Try.func30, Try.ntmps30
  go_wp2_with (go_at_call 34; refine HI.out.mono ?_; rintro e w' ⟨rfl, rfl⟩)
  go_ret
  exact ⟨rfl, rfl⟩
theorem rrate_c (i r : Int) (h : Rc B w q g cap real most l T) (ok : Pl.Ok real most (Pl.view l)) :
    Calls Try.prog 30 #[.pointer (some ⟨q, 0, none⟩), .int .i64 i, .int .i64 r] w fun e w' => e = .returned (.int .i64 (Pl.rateE (Pl.view l).length most i r)) ∧ ∃ l', Pl.view l' = Pl.rated (Pl.view l) most i r ∧ Rc B w' q g cap real most l' T ∧ RM B w w' := by
  have m0 := ok.m0
  have m1 := ok.m1
  cases hi : thereB l.length i with
  | false =>
    have hb : ¬ Pl.rateB (Pl.view l).length most i r = true := by unfold Pl.rateB; rw [view_len, hi]; simp
    have e1 : Pl.rateE (Pl.view l).length most i r = 7 := by unfold Pl.rateE; rw [view_len, if_neg (by rw [hi]; simp)]
    have e2 : Pl.rated (Pl.view l) most i r = Pl.view l := by unfold Pl.rated; rw [if_neg hb]
    rw [e1, e2]
    exact (rrate_no i r h hi).mono fun e w' ⟨he, hw⟩ => ⟨he, l, rfl, hw ▸ h, hw ▸ RM.refl _ _⟩
  | true =>
    obtain ⟨i0, i1⟩ := thereB_iff.1 hi
    by_cases hr : -most ≤ r ∧ r ≤ most
    · have hb : Pl.rateB (Pl.view l).length most i r = true := Pl.rateB_iff.2 ⟨⟨i0, by rw [view_len]; exact i1⟩, hr⟩
      have e1 : Pl.rateE (Pl.view l).length most i r = 0 := by unfold Pl.rateE; rw [if_pos (by rw [view_len]; exact hi), if_pos hb]
      have e2 : Pl.rated (Pl.view l) most i r = Pl.view (l.set i.toNat { l[i.toNat]'(by omega) with r := r }) := by
        unfold Pl.rated; rw [if_pos hb, view_set l i.toNat (by omega)]
      rw [e1, e2]
      have c := rrate_run i.toNat r h (by omega) hr.1 hr.2 ⟨m0, m1⟩
      rw [Int.toNat_of_nonneg i0] at c
      exact c.mono fun e w' ⟨he, hw⟩ => ⟨he, _, rfl, hw ▸ h.setRate i.toNat (by omega) r, hw ▸ (RM.refl B w).set h.hgB.1 h.gblk _ _⟩
    · have hb : ¬ Pl.rateB (Pl.view l).length most i r = true := fun e => hr (Pl.rateB_iff.1 e).2
      have e1 : Pl.rateE (Pl.view l).length most i r = 2 := by unfold Pl.rateE; rw [if_pos (by rw [view_len]; exact hi), if_neg hb]
      have e2 : Pl.rated (Pl.view l) most i r = Pl.view l := by unfold Pl.rated; rw [if_neg hb]
      have hbad : most < r ∨ most < IntKind.i64.wrap (0 - r) ∨ r < -500 := by
        by_cases h1 : most < r
        · exact .inl h1
        by_cases h3 : r < -500
        · exact .inr (.inr h3)
        have hx2 : IntKind.i64.wrap (0 - r) = 0 - r := wrap_of (by omega) (by omega)
        rw [hx2]
        omega
      rw [e1, e2]
      exact (rrate_bad i r h hi hbad).mono fun e w' ⟨he, hw⟩ => ⟨he, l, rfl, hw ▸ h, hw ▸ RM.refl _ _⟩
end
end Go.Proofs.Ytgpeekmagckgcaa
