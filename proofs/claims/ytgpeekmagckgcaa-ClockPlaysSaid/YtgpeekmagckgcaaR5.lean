/- What is proved here: how real time goes on for the reference's clocks: the walk. Condition: they lie in memory of the call's own. -/
import Derived.Test.YtgpeekmagckgcaaR4
import Derived.Deep.RegionHeld3
namespace Go.Proofs.Ytgpeekmagckgcaa
open Go Go.RowKit
attribute [local go_sem] KW.cell KW.frozen

/-- What holds at a round's head. -/
structure TickAt (B : Nat) (w : World) (q g cap : Nat) (real n most : Int) (l : List Rr) (T k : Nat) (l' : List Rr) (wr : World) : Prop where
  hk : k ≤ l.length
  rc : Rc B wr q g cap (real + n) most l' (T + 1)
  rm : RM B w wr
  len : l'.length = l.length
  view : Pl.view l' = Pl.part n k (Pl.view l)
  rest : ∀ i (h : i < l.length) (h' : i < l'.length), k ≤ i → l'[i] = l[i]
section
variable {B : Nat} {w : World} {q g cap T : Nat} {real most : Int} {l : List Rr}
theorem TickAt.start (h : Rc B w q g cap real most l T) (n : Int) (hn : 0 ≤ n) : TickAt B w q g cap real n most l T 0 l (w.setCell ⟨q, 0, none⟩ (.int .i64 (real + n))) :=
  ⟨Nat.zero_le _, (h.setReal (real + n) (by omega)).more, (RM.refl B w).set h.hq h.qblk _ _, rfl, by simp [Pl.part], fun i _ _ _ => rfl⟩
theorem TickAt.drewN {n : Int} {k : Nat} {l' : List Rr} {wr : World} (h : TickAt B w q g cap real n most l T k l' wr) (j : Nat) : TickAt B w q g cap real n most l T k l' (wr.drewN j) :=
  ⟨h.hk, h.rc.drewN j, h.rm.drewN j, h.len, h.view, h.rest⟩
theorem push_good (h : Rc B w q g cap real most l T) (ok : Pl.Ok real most (Pl.view l)) (n : Int) (hn : 0 ≤ n) (k : Nat) (hk : k < l.length) :
    Pl.pgood ((l[k]).ps ++ [(n, (l[k]).r)]) ∧ Pl.ptime ((l[k]).ps ++ [(n, (l[k]).r)]) ≤ real + n ∧ ((l[k]).ps ++ [(n, (l[k]).r)]).length ≤ T + 1 := by
  obtain ⟨g0, g1, g2⟩ := h.good _ (List.getElem_mem hk)
  have b := ok.at_ k (by rw [view_len]; exact hk)
  have e : (Pl.view l)[k]'(by rw [view_len]; exact hk) = ((l[k]).s, (l[k]).r, Pl.psum (l[k]).ps) := by simp [Pl.view]
  rw [e] at b
  have m1 := ok.m1
  refine ⟨fun p hp => ?_, by rw [Pl.ptime_snoc]; simp only; omega, by simp; omega⟩
  rcases List.mem_append.1 hp with hp | hp
  · exact g0 p hp
  · have := List.mem_singleton.1 hp
    subst this
    have b3 := b.2.2.1
    have b4 := b.2.2.2.1
    simp only at b3 b4
    exact ⟨hn, by simp only; omega, by simp only; omega⟩
theorem TickAt.next {n : Int} {k : Nat} {l' : List Rr} {wr w1 : World} {o : Obj} {b' cap' : Nat} (h : TickAt B w q g cap real n most l T k l' wr) (h0 : Rc B w q g cap real most l T) (ok : Pl.Ok real most (Pl.view l)) (hn : 0 ≤ n) (hB : B ≤ wr.heap.size) (hk : k < l.length)
    (hg : (wr.alloc o).grownBy w1 (l[k]).v.ownBlock)
    (hown : w1.ownsRow B 102 2 (.slice (some ⟨b', 0, none⟩) ((l[k]).ps.length + 1) cap') ((l[k]).ps.length + 1) (pflat (l[k]).ps ++ [.int .i64 n, .int .i64 (l[k]).r]))
    (hb : (l[k]).v.ownBlock = some b' ∨ b' = wr.heap.size + 1) :
    TickAt B w q g cap real n most l T (k + 1) (l'.set k ((l[k]).push n (.slice (some ⟨b', 0, none⟩) ((l[k]).ps.length + 1) cap'))) (w1.setCell ⟨g, k * 3 + 2, none⟩ (.slice (some ⟨b', 0, none⟩) ((l[k]).ps.length + 1) cap')) := by
  have hk' : k < l'.length := by rw [h.len]; exact hk
  have e := h.rest k hk hk' (Nat.le_refl _)
  have hgd := push_good h0 ok n hn k hk
  rw [← e] at hg hown hb hgd
  have hp := h.rc.pushed k hk' n hg hown hb hgd
  have hm := h.rm.grown h.rc hB k hk' hg
  rw [← e]
  refine ⟨by omega, hp, hm.trans ((RM.refl B w1).set h.rc.hgB.1 ?_ _ _), by rw [List.length_set]; exact h.len, ?_, fun i hi hi' hki => ?_⟩
  · obtain ⟨cs, t, e1, e2⟩ := h.rc.gblk
    exact ⟨cs, t, ((h.rc.grown k hk' hg).2.1).trans e1, e2⟩
  · have hkv : k < (Pl.view l).length := by rw [view_len]; exact hk
    rw [← Pl.part_set n k (Pl.view l) hkv, ← h.view]
    have ev : (Pl.view l)[k] = ((l'[k]).s, (l'[k]).r, Pl.psum (l'[k]).ps) := by rw [e]; simp [Pl.view]
    rw [ev]
    simp [Pl.view, List.map_set, Rr.push, Pl.psum_snoc, Pl.tk]
  · rw [List.getElem_set_ne (by omega)]
    exact h.rest i hi _ (by omega)
/-- What the rest of the region reads behind the append. -/
theorem TickAt.after {n : Int} {k : Nat} {l' : List Rr} {wr w1 : World} {o : Obj} (h : TickAt B w q g cap real n most l T k l' wr) (hk : k < l.length) (hg : (wr.alloc o).grownBy w1 (l[k]).v.ownBlock) :
    w1.cell? ⟨q, 2, none⟩ = some (.slice (some ⟨g, 0, none⟩) l.length cap) ∧ w1.cell? ⟨g, k * 3 + 2, none⟩ = some (l[k]).v ∧ w1.frozen? ⟨g, k * 3 + 2, none⟩ = false ∧ w1.cell? ⟨g, k * 3 + 1, none⟩ = some (.int .i64 (l[k]).r) := by
  have hk' : k < l'.length := by rw [h.len]; exact hk
  have e := h.rest k hk hk' (Nat.le_refl _)
  rw [← e] at hg
  obtain ⟨h1, h2, _⟩ := h.rc.grown k hk' hg
  have c2 := h.rc.c2
  rw [h.len] at c2
  obtain ⟨_, e1, e2⟩ := h.rc.el k hk'
  rw [e] at e1 e2
  exact ⟨(World.cell?_of_block (a := ⟨q, 2, none⟩) h1).trans c2, (World.cell?_of_block (a := ⟨g, k * 3 + 2, none⟩) h2).trans e2, (World.frozen?_of_block (a := ⟨g, k * 3 + 2, none⟩) h2).trans (h.rc.fg _), (World.cell?_of_block (a := ⟨g, k * 3 + 1, none⟩) h2).trans e1⟩
set_option maxRecDepth 100000 in
set_option maxHeartbeats 8000000 in
theorem rtick_hi (n : Int) (hn : ¬ n < 0) (hc : 1099511627776 - real < n) (h : Rc B w q g cap real most l T) (ok : Pl.Ok real most (Pl.view l)) (hT : T ≤ 1000) (_hB : B ≤ w.heap.size) :
    Calls Try.prog 28 #[.pointer (some ⟨q, 0, none⟩), .int .i64 n] w fun e w' => e = .returned (.tuple #[]) ∧ ∃ l', TickAt B w q g cap real (1099511627776 - real) most l T l.length l' w' := by
  obtain ⟨i0, hi, hz0, hz1, hz2⟩ := info_parts Try.info102
  have c0 := h.c0
  have c2 := h.c2
  have f0 := h.fq 0
  obtain ⟨l1, l2⟩ := h.le
  have l3 := ok.len
  rw [view_len] at l3
  have r0 := ok.r0
  have r1 := ok.r1
  have OK := Lib.hid ok
  have H0 := Lib.hid h
  have TS := Lib.hid (TickAt.start h (1099511627776 - real) (by omega))
  have nqg : ¬ q = g := h.ne
  have ngq : ¬ g = q := Ne.symm h.ne
  clear ok h
  go_enter Try.func28, Try.ntmps28
  go_wp2_with fail
  go_loopw [4] (fun i wr => ∃ (k : Nat) (l' : List Rr), i = .int .i64 k ∧ TickAt B w q g cap real (1099511627776 - real) most l T k l' wr) (fun i _ => l.length - (intOf i).toNat)
  case atStart => exact ⟨0, l, rfl, TS.out⟩
  case round =>
    clear c0 c2 f0 TS
    obtain ⟨k, l', rfl, ht⟩ := hrel
    have hk := ht.hk
    by_cases hlt : k < l.length
    · have hd : decide ((k : Int) < (l.length : Int)) = true := by simp; omega
      have hk' : k < l'.length := by rw [ht.len]; exact hlt
      have e := ht.rest k hlt hk' (Nat.le_refl _)
      have c2 := ht.rc.c2
      rw [ht.len] at c2
      have hq := block_lt ht.rc.at_
      have hgl := ht.rc.hgB.2
      obtain ⟨e0, e1, e2⟩ := ht.rc.el k hk'
      have f2 := ht.rc.fg (k * 3 + 2)
      have hin := ht.rc.inn k hk'
      have hgd := H0.out.good _ (List.getElem_mem hlt)
      have hBr : B ≤ wr.heap.size := Nat.le_trans ht.rc.hq (Nat.le_of_lt hq)
      rw [e] at e0 e1 e2 hin
      have hbg : (l[k]).v.ownBlock ≠ some g ∧ (l[k]).v.ownBlock ≠ some q := by have := ht.rc.vne k hk'; rw [e] at this; exact ⟨this.2, this.1⟩
      have TN := Lib.hid (fun j w1 o b' cap' hg hown hb => TickAt.next (ht.drewN j) H0.out OK.out (by omega) hBr hlt (w1 := w1) (o := o) (b' := b') (cap' := cap') hg hown hb)
      have TA := Lib.hid (fun j w1 o hg => TickAt.after (ht.drewN j) hlt (w1 := w1) (o := o) hg)
      obtain ⟨ao, cc, hv⟩ := own_form hin
      have hps := hgd.2.2
      clear e e0 hgd ht
      have hown1 := Lib.hid (fun j => World.ownsRow.alloc (w := wr.drewN j) hin (Obj.cells #[.int .i64 (1099511627776 - real), .int .i64 (l[k]).r] 102))
      generalize hr' : (l[k]).r = r at *
      generalize hv' : (l[k]).v = v at *
      generalize hp' : (l[k]).ps = ps at *
      clear hin hr' hp'
      subst hv
      clear hv'
      go_wp2_with fail
      refine wp_region_held_drew (S := (fun w' => w'.cell? ⟨q, 2, none⟩ = some (.slice (some ⟨g, 0, none⟩) l.length cap) ∧ w'.cell? ⟨g, k * 3 + 1, none⟩ = some (.int .i64 r))) (by kernel_rfl) ?_ (fun hHeld => ?_)
      · (try dsimp only)
        (first | (refine ⟨?_, ?_⟩ <;> go_simp; done) | (refine ⟨?_, ?_⟩ <;> (first | assumption | (simp [*, World.cell?_alloc_some, World.cell?_setCell_far]; done))))
      refine wpAnyH_take (i := 0) (v := ?v1) rfl (by kernel_rfl) (by kernel_rfl) (by kernel_rfl) (fun _ _ _ h => h) (Or.inl ⟨by rfl, ?hy1⟩) (by assumption) ?rest1
      case hy1 => (intro w hSw; (try dsimp only at hSw); go_simp; try (with_reducible rfl))
      try simp only [Act.put, List.setIfInBounds_toArray]
      refine wpAnyH_take (i := 1) (v := ?v2) rfl (by kernel_rfl) (by kernel_rfl) (by kernel_rfl) (fun _ _ _ h => h) (Or.inl ⟨by rfl, ?hy2⟩) (by assumption) ?rest2
      case hy2 => (intro w hSw; (try dsimp only at hSw); go_simp; try (with_reducible rfl))
      try simp only [Act.put]
      refine wpAnyH_take (i := 2) (v := ?v3) rfl (by kernel_rfl) (by kernel_rfl) (by kernel_rfl) (fun _ _ _ h => h) (Or.inl ⟨by rfl, ?hy3⟩) (by assumption) ?rest3
      case hy3 => (intro w hSw; (try dsimp only at hSw); go_simp; try (with_reducible rfl))
      try simp only [Act.put]
      refine wpAnyH_take (i := 3) (v := ?v4) rfl (by kernel_rfl) (by kernel_rfl) (by kernel_rfl) (fun _ _ _ h => h) (Or.inl ⟨by rfl, ?hy4⟩) (by assumption) ?rest4
      case hy4 => (intro w hSw; (try dsimp only at hSw); go_simp; try (with_reducible rfl))
      try simp only [Act.put]
      refine wpAnyH_take (i := 4) (v := ?v5) rfl (by kernel_rfl) (by kernel_rfl) (by kernel_rfl) (fun _ _ _ h => h) (Or.inl ⟨by rfl, ?hy5⟩) (by assumption) ?rest5
      case hy5 => (intro w hSw; (try dsimp only at hSw); go_simp; try (with_reducible rfl))
      try simp only [Act.put]
      refine wpAnyH_take (i := 5) (v := ?v6) rfl (by kernel_rfl) (by kernel_rfl) (by kernel_rfl) (fun _ _ _ h => h) (Or.inl ⟨by rfl, ?hy6⟩) (by assumption) ?rest6
      case hy6 => (intro w hSw; (try dsimp only at hSw); go_simp; try (with_reducible rfl))
      try simp only [Act.put]
      refine wpAnyH_take (i := 6) (v := ?v7) rfl (by kernel_rfl) (by kernel_rfl) (by kernel_rfl) (fun _ _ _ h => h) (Or.inl ⟨by rfl, ?hy7⟩) (by assumption) ?rest7
      case hy7 => (intro w hSw; (try dsimp only at hSw); go_simp; try (with_reducible rfl))
      try simp only [Act.put]
      refine wpAnyH_take (i := 7) (v := ?v8) rfl (by kernel_rfl) (by kernel_rfl) (by kernel_rfl) (fun _ _ _ h => h) (Or.inl ⟨by rfl, ?hy8⟩) (by assumption) ?rest8
      case hy8 => (intro w hSw; (try dsimp only at hSw); go_simp; try (with_reducible rfl))
      try simp only [Act.put]
      refine wpAnyH_take (i := 8) (v := ?v9) rfl (by kernel_rfl) (by kernel_rfl) (by kernel_rfl) (fun _ _ _ h => h) (Or.inl ⟨by rfl, ?hy9⟩) (by assumption) ?rest9
      case hy9 => (intro w hSw; (try dsimp only at hSw); go_simp; try (with_reducible rfl))
      try simp only [Act.put]
      refine wpAnyH_take (i := 9) (v := ?v10) rfl (by kernel_rfl) (by kernel_rfl) (by kernel_rfl) (fun _ _ _ h => h) (Or.inl ⟨by rfl, ?hy10⟩) (by assumption) ?rest10
      case hy10 => (intro w hSw; (try dsimp only at hSw); go_simp; try (with_reducible rfl))
      try simp only [Act.put]
      refine wpAnyH_take (i := 10) (v := ?v11) rfl (by kernel_rfl) (by kernel_rfl) (by kernel_rfl) (fun _ _ _ h => h) (Or.inl ⟨by rfl, ?hy11⟩) (by assumption) ?rest11
      case hy11 => (intro w hSw; (try dsimp only at hSw); go_simp; try (with_reducible rfl))
      try simp only [Act.put]
      refine wpAnyH_take (i := 11) (v := ?v12) rfl (by kernel_rfl) (by kernel_rfl) (by kernel_rfl) (fun _ _ _ h => h) (Or.inl ⟨by rfl, ?hy12⟩) (by assumption) ?rest12
      case hy12 => (intro w hSw; (try dsimp only at hSw); go_simp; try (with_reducible rfl))
      try simp only [Act.put]
      refine wpAnyH_take (i := 13) (v := ?v13) rfl (by kernel_rfl) (by kernel_rfl) (by kernel_rfl) (fun _ _ _ h => h) (Or.inl ⟨by rfl, ?hy13⟩) (by assumption) ?rest13
      case hy13 => (intro w hSw; (try dsimp only at hSw); go_simp; try (with_reducible rfl))
      try simp only [Act.put]
      refine wpAnyH_take (i := 14) (v := ?v14) rfl (by kernel_rfl) (by kernel_rfl) (by kernel_rfl) (fun _ _ _ h => h) (Or.inl ⟨by rfl, ?hy14⟩) (by assumption) ?rest14
      case hy14 => (intro w hSw; (try dsimp only at hSw); go_simp; try (with_reducible rfl))
      try simp only [Act.put]
      refine wpAnyH_take (i := 15) (v := ?v15) rfl (by kernel_rfl) (by kernel_rfl) (by kernel_rfl) (fun _ _ _ h => h) (Or.inl ⟨by rfl, ?hy15⟩) (by assumption) ?rest15
      case hy15 => (intro w hSw; (try dsimp only at hSw); go_simp; try (with_reducible rfl))
      try simp only [Act.put]
      refine wpAnyH_take (i := 16) (v := ?v16) rfl (by kernel_rfl) (by kernel_rfl) (by kernel_rfl) (fun _ _ _ h => h) (Or.inl ⟨by rfl, ?hy16⟩) (by assumption) ?rest16
      case hy16 => (intro w hSw; (try dsimp only at hSw); go_simp; try (with_reducible rfl))
      try simp only [Act.put]
      refine wpAnyH_take (i := 17) (v := ?v17) rfl (by kernel_rfl) (by kernel_rfl) (by kernel_rfl) (fun _ _ _ h => h) (Or.inl ⟨by rfl, ?hy17⟩) (by assumption) ?rest17
      case hy17 => (intro w hSw; (try dsimp only at hSw); go_simp; try (with_reducible rfl))
      try simp only [Act.put]
      refine wpAnyH_take (i := 18) (v := ?v18) rfl (by kernel_rfl) (by kernel_rfl) (by kernel_rfl) (fun _ _ _ h => h) (Or.inl ⟨by rfl, ?hy18⟩) (by assumption) ?rest18
      case hy18 => (intro w hSw; (try dsimp only at hSw); go_simp; try (with_reducible rfl))
      try simp only [Act.put]
      refine wpAnyH_take (i := 19) (v := ?v19) rfl (by kernel_rfl) (by kernel_rfl) (by kernel_rfl) (fun _ _ _ h => h) (Or.inl ⟨by rfl, ?hy19⟩) (by assumption) ?rest19
      case hy19 => (intro w hSw; (try dsimp only at hSw); go_simp; try (with_reducible rfl))
      try simp only [Act.put]
      refine wpAnyH_take (i := 20) (v := ?v20) rfl (by kernel_rfl) (by kernel_rfl) (by kernel_rfl) (fun _ _ _ h => h) (Or.inl ⟨by rfl, ?hy20⟩) (by assumption) ?rest20
      case hy20 => (intro w hSw; (try dsimp only at hSw); go_simp; try (with_reducible rfl))
      try simp only [Act.put]
      refine wpAnyH_take (i := 21) (v := ?v21) rfl (by kernel_rfl) (by kernel_rfl) (by kernel_rfl) (fun _ _ _ h => h) (Or.inl ⟨by rfl, ?hy21⟩) (by assumption) ?rest21
      case hy21 => (intro w hSw; (try dsimp only at hSw); go_simp; try (with_reducible rfl))
      try simp only [Act.put]
      refine wpAnyH_take (i := 22) (v := ?v22) rfl (by kernel_rfl) (by kernel_rfl) (by kernel_rfl) (fun _ _ _ h => h) (Or.inl ⟨by rfl, ?hy22⟩) (by assumption) ?rest22
      case hy22 => (intro w hSw; (try dsimp only at hSw); go_simp; try (with_reducible rfl))
      try simp only [Act.put]
      refine wpAnyH_ready (rs := [12, 23]) (by kernel_rfl) (by simp) ?_
      refine AllReadyH.cons rfl (fun K hK => ?_) ?_
      · go_simp
        refine hK.out _ _ ?_ (fun hHeld => ?_)
        · (try dsimp only)
          (first | (refine ⟨?_, ?_⟩ <;> go_simp; done) | (refine ⟨?_, ?_⟩ <;> (first | assumption | (simp [*, World.cell?_alloc_some, World.cell?_setCell_far]; done))))
        clear hK K
        try simp only [Act.put, List.setIfInBounds_toArray, List.set_cons_zero, List.set_cons_succ]
        refine wpAnyH_ready (rs := [23]) (by kernel_rfl) (by simp) ?_
        refine AllReadyH.cons rfl (fun K hK => ?_) ?_
        · go_simp
          refine hK.out _ _ ?_ (fun hHeld => ?_)
          · (try dsimp only)
            (first | (refine ⟨?_, ?_⟩ <;> go_simp; done) | (refine ⟨?_, ?_⟩ <;> (first | assumption | (simp [*, World.cell?_alloc_some, World.cell?_setCell_far]; done))))
          clear hK K
          try simp only [Act.put, List.setIfInBounds_toArray, List.set_cons_zero, List.set_cons_succ]
          refine wpAnyH_ready (rs := [24]) (by kernel_rfl) (by simp) ?_
          refine AllReadyH.cons rfl (fun K hK => ?_) ?_
          · (refine step_append_lies _ rfl (.tmp 49) (.tmp 60) 98 rfl B 102 i0 (.agg #[.int .i64 0, .int .i64 0]) 2 16 Try.underlying98 hi hz0 hz1 hz2 rfl (by decide) (.slice ao ps.length cc) ps.length (pflat ps) rfl (hown1.out 1) ⟨wr.heap.size, 0, none⟩ 1 1 [.int .i64 (1099511627776 - real), .int .i64 r] rfl rfl (by intro j u hj; rcases j with _ | _ | j <;> simp at hj <;> subst hj <;> simp [go_sem, Addr.add]) (by simp [Value.oneCell']) (by decide) (by unfold maxLen; omega) (by omega) (by simp; omega) (wr.heap.size + 1) (by simp) ?_; intro g' cap' w1 hown2 hgrow hat1 hlt1; obtain ⟨a1, a2, a3, a4⟩ := TA.out 1 _ _ hgrow; have N1 := Lib.hid (TN.out 1 _ _ _ _ hgrow hown2 hat1); clear hgrow hown2 hat1)
            refine hK.out _ _ ?_ (fun hHeld => ?_)
            · (try dsimp only)
              (first | (refine ⟨?_, ?_⟩ <;> go_simp; done) | (refine ⟨?_, ?_⟩ <;> (first | assumption | (simp [*, World.cell?_alloc_some, World.cell?_setCell_far]; done))))
            clear hK K
            try simp only [Act.put, List.setIfInBounds_toArray]
            refine wpAnyH_take (i := 25) (v := ?v23) rfl (by kernel_rfl) (by kernel_rfl) (by kernel_rfl) (fun _ _ _ h => h) (Or.inl ⟨by rfl, ?hy23⟩) (by assumption) ?rest23
            case hy23 => (intro w hSw; (try dsimp only at hSw); go_simp; try (with_reducible rfl))
            try simp only [Act.put]
            refine wpAnyH_take (i := 26) (v := ?v24) rfl (by kernel_rfl) (by kernel_rfl) (by kernel_rfl) (fun _ _ _ h => h) (Or.inl ⟨by rfl, ?hy24⟩) (by assumption) ?rest24
            case hy24 => (intro w hSw; (try dsimp only at hSw); go_simp; try (with_reducible rfl))
            try simp only [Act.put]
            refine wpAnyH_ready (rs := [27]) (by kernel_rfl) (by simp) ?_
            refine AllReadyH.cons rfl (fun K hK => ?_) ?_
            · go_simp
              refine hK.out _ _ ?_ (fun hHeld => ?_)
              · (try dsimp only)
                (first | (refine ⟨?_, ?_⟩ <;> go_simp; done) | (refine ⟨?_, ?_⟩ <;> (first | assumption | (simp [*, World.cell?_alloc_some, World.cell?_setCell_far]; done))))
              clear hK K
              try simp only [Act.put, List.setIfInBounds_toArray, List.set_cons_zero, List.set_cons_succ]
              refine wpAnyH_done (by kernel_rfl) ?_ _
              go_wp2_with fail
              go_roundw
              case rel => exact ⟨k + 1, _, by go_num, N1.out⟩
              case measure => simp [intOf]; omega
            exact AllReadyH.nil
          exact AllReadyH.nil
        exact AllReadyH.nil
      refine AllReadyH.cons rfl (fun K hK => ?_) ?_
      · go_simp
        refine hK.out _ _ ?_ (fun hHeld => ?_)
        · (try dsimp only)
          (first | (refine ⟨?_, ?_⟩ <;> go_simp; done) | (refine ⟨?_, ?_⟩ <;> (first | assumption | (simp [*, World.cell?_alloc_some, World.cell?_setCell_far]; done))))
        clear hK K
        try simp only [Act.put, List.setIfInBounds_toArray, List.set_cons_zero, List.set_cons_succ]
        refine wpAnyH_ready (rs := [12]) (by kernel_rfl) (by simp) ?_
        refine AllReadyH.cons rfl (fun K hK => ?_) ?_
        · go_simp
          refine hK.out _ _ ?_ (fun hHeld => ?_)
          · (try dsimp only)
            (first | (refine ⟨?_, ?_⟩ <;> go_simp; done) | (refine ⟨?_, ?_⟩ <;> (first | assumption | (simp [*, World.cell?_alloc_some, World.cell?_setCell_far]; done))))
          clear hK K
          try simp only [Act.put, List.setIfInBounds_toArray, List.set_cons_zero, List.set_cons_succ]
          refine wpAnyH_ready (rs := [24]) (by kernel_rfl) (by simp) ?_
          refine AllReadyH.cons rfl (fun K hK => ?_) ?_
          · (refine step_append_lies _ rfl (.tmp 49) (.tmp 60) 98 rfl B 102 i0 (.agg #[.int .i64 0, .int .i64 0]) 2 16 Try.underlying98 hi hz0 hz1 hz2 rfl (by decide) (.slice ao ps.length cc) ps.length (pflat ps) rfl (hown1.out 1) ⟨wr.heap.size, 0, none⟩ 1 1 [.int .i64 (1099511627776 - real), .int .i64 r] rfl rfl (by intro j u hj; rcases j with _ | _ | j <;> simp at hj <;> subst hj <;> simp [go_sem, Addr.add]) (by simp [Value.oneCell']) (by decide) (by unfold maxLen; omega) (by omega) (by simp; omega) (wr.heap.size + 1) (by simp) ?_; intro g' cap' w1 hown2 hgrow hat1 hlt1; obtain ⟨a1, a2, a3, a4⟩ := TA.out 1 _ _ hgrow; have N1 := Lib.hid (TN.out 1 _ _ _ _ hgrow hown2 hat1); clear hgrow hown2 hat1)
            refine hK.out _ _ ?_ (fun hHeld => ?_)
            · (try dsimp only)
              (first | (refine ⟨?_, ?_⟩ <;> go_simp; done) | (refine ⟨?_, ?_⟩ <;> (first | assumption | (simp [*, World.cell?_alloc_some, World.cell?_setCell_far]; done))))
            clear hK K
            try simp only [Act.put, List.setIfInBounds_toArray]
            refine wpAnyH_take (i := 25) (v := ?v25) rfl (by kernel_rfl) (by kernel_rfl) (by kernel_rfl) (fun _ _ _ h => h) (Or.inl ⟨by rfl, ?hy25⟩) (by assumption) ?rest25
            case hy25 => (intro w hSw; (try dsimp only at hSw); go_simp; try (with_reducible rfl))
            try simp only [Act.put]
            refine wpAnyH_take (i := 26) (v := ?v26) rfl (by kernel_rfl) (by kernel_rfl) (by kernel_rfl) (fun _ _ _ h => h) (Or.inl ⟨by rfl, ?hy26⟩) (by assumption) ?rest26
            case hy26 => (intro w hSw; (try dsimp only at hSw); go_simp; try (with_reducible rfl))
            try simp only [Act.put]
            refine wpAnyH_ready (rs := [27]) (by kernel_rfl) (by simp) ?_
            refine AllReadyH.cons rfl (fun K hK => ?_) ?_
            · go_simp
              refine hK.out _ _ ?_ (fun hHeld => ?_)
              · (try dsimp only)
                (first | (refine ⟨?_, ?_⟩ <;> go_simp; done) | (refine ⟨?_, ?_⟩ <;> (first | assumption | (simp [*, World.cell?_alloc_some, World.cell?_setCell_far]; done))))
              clear hK K
              try simp only [Act.put, List.setIfInBounds_toArray, List.set_cons_zero, List.set_cons_succ]
              refine wpAnyH_done (by kernel_rfl) ?_ _
              go_wp2_with fail
              go_roundw
              case rel => exact ⟨k + 1, _, by go_num, N1.out⟩
              case measure => simp [intOf]; omega
            exact AllReadyH.nil
          exact AllReadyH.nil
        exact AllReadyH.nil
      exact AllReadyH.nil
    · obtain rfl : k = l.length := by omega
      have hd : decide ((l.length : Int) < (l.length : Int)) = false := by simp
      have c2 := ht.rc.c2
      rw [ht.len] at c2
      have HT := Lib.hid ht
      clear ht
      go_wp2_with fail
      go_end0
      exact ⟨rfl, _, HT.out⟩
set_option maxRecDepth 100000 in
set_option maxHeartbeats 8000000 in
theorem rtick_lo (n : Int) (hn : ¬ n < 0) (hc : ¬ 1099511627776 - real < n) (h : Rc B w q g cap real most l T) (ok : Pl.Ok real most (Pl.view l)) (hT : T ≤ 1000) (_hB : B ≤ w.heap.size) :
    Calls Try.prog 28 #[.pointer (some ⟨q, 0, none⟩), .int .i64 n] w fun e w' => e = .returned (.tuple #[]) ∧ ∃ l', TickAt B w q g cap real (n) most l T l.length l' w' := by
  obtain ⟨i0, hi, hz0, hz1, hz2⟩ := info_parts Try.info102
  have c0 := h.c0
  have c2 := h.c2
  have f0 := h.fq 0
  obtain ⟨l1, l2⟩ := h.le
  have l3 := ok.len
  rw [view_len] at l3
  have r0 := ok.r0
  have r1 := ok.r1
  have OK := Lib.hid ok
  have H0 := Lib.hid h
  have TS := Lib.hid (TickAt.start h (n) (by omega))
  have nqg : ¬ q = g := h.ne
  have ngq : ¬ g = q := Ne.symm h.ne
  clear ok h
  go_enter Try.func28, Try.ntmps28
  go_wp2_with fail
  go_loopw [4] (fun i wr => ∃ (k : Nat) (l' : List Rr), i = .int .i64 k ∧ TickAt B w q g cap real (n) most l T k l' wr) (fun i _ => l.length - (intOf i).toNat)
  case atStart => exact ⟨0, l, rfl, TS.out⟩
  case round =>
    clear c0 c2 f0 TS
    obtain ⟨k, l', rfl, ht⟩ := hrel
    have hk := ht.hk
    by_cases hlt : k < l.length
    · have hd : decide ((k : Int) < (l.length : Int)) = true := by simp; omega
      have hk' : k < l'.length := by rw [ht.len]; exact hlt
      have e := ht.rest k hlt hk' (Nat.le_refl _)
      have c2 := ht.rc.c2
      rw [ht.len] at c2
      have hq := block_lt ht.rc.at_
      have hgl := ht.rc.hgB.2
      obtain ⟨e0, e1, e2⟩ := ht.rc.el k hk'
      have f2 := ht.rc.fg (k * 3 + 2)
      have hin := ht.rc.inn k hk'
      have hgd := H0.out.good _ (List.getElem_mem hlt)
      have hBr : B ≤ wr.heap.size := Nat.le_trans ht.rc.hq (Nat.le_of_lt hq)
      rw [e] at e0 e1 e2 hin
      have hbg : (l[k]).v.ownBlock ≠ some g ∧ (l[k]).v.ownBlock ≠ some q := by have := ht.rc.vne k hk'; rw [e] at this; exact ⟨this.2, this.1⟩
      have TN := Lib.hid (fun j w1 o b' cap' hg hown hb => TickAt.next (ht.drewN j) H0.out OK.out (by omega) hBr hlt (w1 := w1) (o := o) (b' := b') (cap' := cap') hg hown hb)
      have TA := Lib.hid (fun j w1 o hg => TickAt.after (ht.drewN j) hlt (w1 := w1) (o := o) hg)
      obtain ⟨ao, cc, hv⟩ := own_form hin
      have hps := hgd.2.2
      clear e e0 hgd ht
      have hown1 := Lib.hid (fun j => World.ownsRow.alloc (w := wr.drewN j) hin (Obj.cells #[.int .i64 (n), .int .i64 (l[k]).r] 102))
      generalize hr' : (l[k]).r = r at *
      generalize hv' : (l[k]).v = v at *
      generalize hp' : (l[k]).ps = ps at *
      clear hin hr' hp'
      subst hv
      clear hv'
      go_wp2_with fail
      refine wp_region_held_drew (S := (fun w' => w'.cell? ⟨q, 2, none⟩ = some (.slice (some ⟨g, 0, none⟩) l.length cap) ∧ w'.cell? ⟨g, k * 3 + 1, none⟩ = some (.int .i64 r))) (by kernel_rfl) ?_ (fun hHeld => ?_)
      · (try dsimp only)
        (first | (refine ⟨?_, ?_⟩ <;> go_simp; done) | (refine ⟨?_, ?_⟩ <;> (first | assumption | (simp [*, World.cell?_alloc_some, World.cell?_setCell_far]; done))))
      refine wpAnyH_take (i := 0) (v := ?v27) rfl (by kernel_rfl) (by kernel_rfl) (by kernel_rfl) (fun _ _ _ h => h) (Or.inl ⟨by rfl, ?hy27⟩) (by assumption) ?rest27
      case hy27 => (intro w hSw; (try dsimp only at hSw); go_simp; try (with_reducible rfl))
      try simp only [Act.put, List.setIfInBounds_toArray]
      refine wpAnyH_take (i := 1) (v := ?v28) rfl (by kernel_rfl) (by kernel_rfl) (by kernel_rfl) (fun _ _ _ h => h) (Or.inl ⟨by rfl, ?hy28⟩) (by assumption) ?rest28
      case hy28 => (intro w hSw; (try dsimp only at hSw); go_simp; try (with_reducible rfl))
      try simp only [Act.put]
      refine wpAnyH_take (i := 2) (v := ?v29) rfl (by kernel_rfl) (by kernel_rfl) (by kernel_rfl) (fun _ _ _ h => h) (Or.inl ⟨by rfl, ?hy29⟩) (by assumption) ?rest29
      case hy29 => (intro w hSw; (try dsimp only at hSw); go_simp; try (with_reducible rfl))
      try simp only [Act.put]
      refine wpAnyH_take (i := 3) (v := ?v30) rfl (by kernel_rfl) (by kernel_rfl) (by kernel_rfl) (fun _ _ _ h => h) (Or.inl ⟨by rfl, ?hy30⟩) (by assumption) ?rest30
      case hy30 => (intro w hSw; (try dsimp only at hSw); go_simp; try (with_reducible rfl))
      try simp only [Act.put]
      refine wpAnyH_take (i := 4) (v := ?v31) rfl (by kernel_rfl) (by kernel_rfl) (by kernel_rfl) (fun _ _ _ h => h) (Or.inl ⟨by rfl, ?hy31⟩) (by assumption) ?rest31
      case hy31 => (intro w hSw; (try dsimp only at hSw); go_simp; try (with_reducible rfl))
      try simp only [Act.put]
      refine wpAnyH_take (i := 5) (v := ?v32) rfl (by kernel_rfl) (by kernel_rfl) (by kernel_rfl) (fun _ _ _ h => h) (Or.inl ⟨by rfl, ?hy32⟩) (by assumption) ?rest32
      case hy32 => (intro w hSw; (try dsimp only at hSw); go_simp; try (with_reducible rfl))
      try simp only [Act.put]
      refine wpAnyH_take (i := 6) (v := ?v33) rfl (by kernel_rfl) (by kernel_rfl) (by kernel_rfl) (fun _ _ _ h => h) (Or.inl ⟨by rfl, ?hy33⟩) (by assumption) ?rest33
      case hy33 => (intro w hSw; (try dsimp only at hSw); go_simp; try (with_reducible rfl))
      try simp only [Act.put]
      refine wpAnyH_take (i := 7) (v := ?v34) rfl (by kernel_rfl) (by kernel_rfl) (by kernel_rfl) (fun _ _ _ h => h) (Or.inl ⟨by rfl, ?hy34⟩) (by assumption) ?rest34
      case hy34 => (intro w hSw; (try dsimp only at hSw); go_simp; try (with_reducible rfl))
      try simp only [Act.put]
      refine wpAnyH_take (i := 8) (v := ?v35) rfl (by kernel_rfl) (by kernel_rfl) (by kernel_rfl) (fun _ _ _ h => h) (Or.inl ⟨by rfl, ?hy35⟩) (by assumption) ?rest35
      case hy35 => (intro w hSw; (try dsimp only at hSw); go_simp; try (with_reducible rfl))
      try simp only [Act.put]
      refine wpAnyH_take (i := 9) (v := ?v36) rfl (by kernel_rfl) (by kernel_rfl) (by kernel_rfl) (fun _ _ _ h => h) (Or.inl ⟨by rfl, ?hy36⟩) (by assumption) ?rest36
      case hy36 => (intro w hSw; (try dsimp only at hSw); go_simp; try (with_reducible rfl))
      try simp only [Act.put]
      refine wpAnyH_take (i := 10) (v := ?v37) rfl (by kernel_rfl) (by kernel_rfl) (by kernel_rfl) (fun _ _ _ h => h) (Or.inl ⟨by rfl, ?hy37⟩) (by assumption) ?rest37
      case hy37 => (intro w hSw; (try dsimp only at hSw); go_simp; try (with_reducible rfl))
      try simp only [Act.put]
      refine wpAnyH_take (i := 11) (v := ?v38) rfl (by kernel_rfl) (by kernel_rfl) (by kernel_rfl) (fun _ _ _ h => h) (Or.inl ⟨by rfl, ?hy38⟩) (by assumption) ?rest38
      case hy38 => (intro w hSw; (try dsimp only at hSw); go_simp; try (with_reducible rfl))
      try simp only [Act.put]
      refine wpAnyH_take (i := 13) (v := ?v39) rfl (by kernel_rfl) (by kernel_rfl) (by kernel_rfl) (fun _ _ _ h => h) (Or.inl ⟨by rfl, ?hy39⟩) (by assumption) ?rest39
      case hy39 => (intro w hSw; (try dsimp only at hSw); go_simp; try (with_reducible rfl))
      try simp only [Act.put]
      refine wpAnyH_take (i := 14) (v := ?v40) rfl (by kernel_rfl) (by kernel_rfl) (by kernel_rfl) (fun _ _ _ h => h) (Or.inl ⟨by rfl, ?hy40⟩) (by assumption) ?rest40
      case hy40 => (intro w hSw; (try dsimp only at hSw); go_simp; try (with_reducible rfl))
      try simp only [Act.put]
      refine wpAnyH_take (i := 15) (v := ?v41) rfl (by kernel_rfl) (by kernel_rfl) (by kernel_rfl) (fun _ _ _ h => h) (Or.inl ⟨by rfl, ?hy41⟩) (by assumption) ?rest41
      case hy41 => (intro w hSw; (try dsimp only at hSw); go_simp; try (with_reducible rfl))
      try simp only [Act.put]
      refine wpAnyH_take (i := 16) (v := ?v42) rfl (by kernel_rfl) (by kernel_rfl) (by kernel_rfl) (fun _ _ _ h => h) (Or.inl ⟨by rfl, ?hy42⟩) (by assumption) ?rest42
      case hy42 => (intro w hSw; (try dsimp only at hSw); go_simp; try (with_reducible rfl))
      try simp only [Act.put]
      refine wpAnyH_take (i := 17) (v := ?v43) rfl (by kernel_rfl) (by kernel_rfl) (by kernel_rfl) (fun _ _ _ h => h) (Or.inl ⟨by rfl, ?hy43⟩) (by assumption) ?rest43
      case hy43 => (intro w hSw; (try dsimp only at hSw); go_simp; try (with_reducible rfl))
      try simp only [Act.put]
      refine wpAnyH_take (i := 18) (v := ?v44) rfl (by kernel_rfl) (by kernel_rfl) (by kernel_rfl) (fun _ _ _ h => h) (Or.inl ⟨by rfl, ?hy44⟩) (by assumption) ?rest44
      case hy44 => (intro w hSw; (try dsimp only at hSw); go_simp; try (with_reducible rfl))
      try simp only [Act.put]
      refine wpAnyH_take (i := 19) (v := ?v45) rfl (by kernel_rfl) (by kernel_rfl) (by kernel_rfl) (fun _ _ _ h => h) (Or.inl ⟨by rfl, ?hy45⟩) (by assumption) ?rest45
      case hy45 => (intro w hSw; (try dsimp only at hSw); go_simp; try (with_reducible rfl))
      try simp only [Act.put]
      refine wpAnyH_take (i := 20) (v := ?v46) rfl (by kernel_rfl) (by kernel_rfl) (by kernel_rfl) (fun _ _ _ h => h) (Or.inl ⟨by rfl, ?hy46⟩) (by assumption) ?rest46
      case hy46 => (intro w hSw; (try dsimp only at hSw); go_simp; try (with_reducible rfl))
      try simp only [Act.put]
      refine wpAnyH_take (i := 21) (v := ?v47) rfl (by kernel_rfl) (by kernel_rfl) (by kernel_rfl) (fun _ _ _ h => h) (Or.inl ⟨by rfl, ?hy47⟩) (by assumption) ?rest47
      case hy47 => (intro w hSw; (try dsimp only at hSw); go_simp; try (with_reducible rfl))
      try simp only [Act.put]
      refine wpAnyH_take (i := 22) (v := ?v48) rfl (by kernel_rfl) (by kernel_rfl) (by kernel_rfl) (fun _ _ _ h => h) (Or.inl ⟨by rfl, ?hy48⟩) (by assumption) ?rest48
      case hy48 => (intro w hSw; (try dsimp only at hSw); go_simp; try (with_reducible rfl))
      try simp only [Act.put]
      refine wpAnyH_ready (rs := [12, 23]) (by kernel_rfl) (by simp) ?_
      refine AllReadyH.cons rfl (fun K hK => ?_) ?_
      · go_simp
        refine hK.out _ _ ?_ (fun hHeld => ?_)
        · (try dsimp only)
          (first | (refine ⟨?_, ?_⟩ <;> go_simp; done) | (refine ⟨?_, ?_⟩ <;> (first | assumption | (simp [*, World.cell?_alloc_some, World.cell?_setCell_far]; done))))
        clear hK K
        try simp only [Act.put, List.setIfInBounds_toArray, List.set_cons_zero, List.set_cons_succ]
        refine wpAnyH_ready (rs := [23]) (by kernel_rfl) (by simp) ?_
        refine AllReadyH.cons rfl (fun K hK => ?_) ?_
        · go_simp
          refine hK.out _ _ ?_ (fun hHeld => ?_)
          · (try dsimp only)
            (first | (refine ⟨?_, ?_⟩ <;> go_simp; done) | (refine ⟨?_, ?_⟩ <;> (first | assumption | (simp [*, World.cell?_alloc_some, World.cell?_setCell_far]; done))))
          clear hK K
          try simp only [Act.put, List.setIfInBounds_toArray, List.set_cons_zero, List.set_cons_succ]
          refine wpAnyH_ready (rs := [24]) (by kernel_rfl) (by simp) ?_
          refine AllReadyH.cons rfl (fun K hK => ?_) ?_
          · (refine step_append_lies _ rfl (.tmp 49) (.tmp 60) 98 rfl B 102 i0 (.agg #[.int .i64 0, .int .i64 0]) 2 16 Try.underlying98 hi hz0 hz1 hz2 rfl (by decide) (.slice ao ps.length cc) ps.length (pflat ps) rfl (hown1.out 1) ⟨wr.heap.size, 0, none⟩ 1 1 [.int .i64 (n), .int .i64 r] rfl rfl (by intro j u hj; rcases j with _ | _ | j <;> simp at hj <;> subst hj <;> simp [go_sem, Addr.add]) (by simp [Value.oneCell']) (by decide) (by unfold maxLen; omega) (by omega) (by simp; omega) (wr.heap.size + 1) (by simp) ?_; intro g' cap' w1 hown2 hgrow hat1 hlt1; obtain ⟨a1, a2, a3, a4⟩ := TA.out 1 _ _ hgrow; have N1 := Lib.hid (TN.out 1 _ _ _ _ hgrow hown2 hat1); clear hgrow hown2 hat1)
            refine hK.out _ _ ?_ (fun hHeld => ?_)
            · (try dsimp only)
              (first | (refine ⟨?_, ?_⟩ <;> go_simp; done) | (refine ⟨?_, ?_⟩ <;> (first | assumption | (simp [*, World.cell?_alloc_some, World.cell?_setCell_far]; done))))
            clear hK K
            try simp only [Act.put, List.setIfInBounds_toArray]
            refine wpAnyH_take (i := 25) (v := ?v49) rfl (by kernel_rfl) (by kernel_rfl) (by kernel_rfl) (fun _ _ _ h => h) (Or.inl ⟨by rfl, ?hy49⟩) (by assumption) ?rest49
            case hy49 => (intro w hSw; (try dsimp only at hSw); go_simp; try (with_reducible rfl))
            try simp only [Act.put]
            refine wpAnyH_take (i := 26) (v := ?v50) rfl (by kernel_rfl) (by kernel_rfl) (by kernel_rfl) (fun _ _ _ h => h) (Or.inl ⟨by rfl, ?hy50⟩) (by assumption) ?rest50
            case hy50 => (intro w hSw; (try dsimp only at hSw); go_simp; try (with_reducible rfl))
            try simp only [Act.put]
            refine wpAnyH_ready (rs := [27]) (by kernel_rfl) (by simp) ?_
            refine AllReadyH.cons rfl (fun K hK => ?_) ?_
            · go_simp
              refine hK.out _ _ ?_ (fun hHeld => ?_)
              · (try dsimp only)
                (first | (refine ⟨?_, ?_⟩ <;> go_simp; done) | (refine ⟨?_, ?_⟩ <;> (first | assumption | (simp [*, World.cell?_alloc_some, World.cell?_setCell_far]; done))))
              clear hK K
              try simp only [Act.put, List.setIfInBounds_toArray, List.set_cons_zero, List.set_cons_succ]
              refine wpAnyH_done (by kernel_rfl) ?_ _
              go_wp2_with fail
              go_roundw
              case rel => exact ⟨k + 1, _, by go_num, N1.out⟩
              case measure => simp [intOf]; omega
            exact AllReadyH.nil
          exact AllReadyH.nil
        exact AllReadyH.nil
      refine AllReadyH.cons rfl (fun K hK => ?_) ?_
      · go_simp
        refine hK.out _ _ ?_ (fun hHeld => ?_)
        · (try dsimp only)
          (first | (refine ⟨?_, ?_⟩ <;> go_simp; done) | (refine ⟨?_, ?_⟩ <;> (first | assumption | (simp [*, World.cell?_alloc_some, World.cell?_setCell_far]; done))))
        clear hK K
        try simp only [Act.put, List.setIfInBounds_toArray, List.set_cons_zero, List.set_cons_succ]
        refine wpAnyH_ready (rs := [12]) (by kernel_rfl) (by simp) ?_
        refine AllReadyH.cons rfl (fun K hK => ?_) ?_
        · go_simp
          refine hK.out _ _ ?_ (fun hHeld => ?_)
          · (try dsimp only)
            (first | (refine ⟨?_, ?_⟩ <;> go_simp; done) | (refine ⟨?_, ?_⟩ <;> (first | assumption | (simp [*, World.cell?_alloc_some, World.cell?_setCell_far]; done))))
          clear hK K
          try simp only [Act.put, List.setIfInBounds_toArray, List.set_cons_zero, List.set_cons_succ]
          refine wpAnyH_ready (rs := [24]) (by kernel_rfl) (by simp) ?_
          refine AllReadyH.cons rfl (fun K hK => ?_) ?_
          · (refine step_append_lies _ rfl (.tmp 49) (.tmp 60) 98 rfl B 102 i0 (.agg #[.int .i64 0, .int .i64 0]) 2 16 Try.underlying98 hi hz0 hz1 hz2 rfl (by decide) (.slice ao ps.length cc) ps.length (pflat ps) rfl (hown1.out 1) ⟨wr.heap.size, 0, none⟩ 1 1 [.int .i64 (n), .int .i64 r] rfl rfl (by intro j u hj; rcases j with _ | _ | j <;> simp at hj <;> subst hj <;> simp [go_sem, Addr.add]) (by simp [Value.oneCell']) (by decide) (by unfold maxLen; omega) (by omega) (by simp; omega) (wr.heap.size + 1) (by simp) ?_; intro g' cap' w1 hown2 hgrow hat1 hlt1; obtain ⟨a1, a2, a3, a4⟩ := TA.out 1 _ _ hgrow; have N1 := Lib.hid (TN.out 1 _ _ _ _ hgrow hown2 hat1); clear hgrow hown2 hat1)
            refine hK.out _ _ ?_ (fun hHeld => ?_)
            · (try dsimp only)
              (first | (refine ⟨?_, ?_⟩ <;> go_simp; done) | (refine ⟨?_, ?_⟩ <;> (first | assumption | (simp [*, World.cell?_alloc_some, World.cell?_setCell_far]; done))))
            clear hK K
            try simp only [Act.put, List.setIfInBounds_toArray]
            refine wpAnyH_take (i := 25) (v := ?v51) rfl (by kernel_rfl) (by kernel_rfl) (by kernel_rfl) (fun _ _ _ h => h) (Or.inl ⟨by rfl, ?hy51⟩) (by assumption) ?rest51
            case hy51 => (intro w hSw; (try dsimp only at hSw); go_simp; try (with_reducible rfl))
            try simp only [Act.put]
            refine wpAnyH_take (i := 26) (v := ?v52) rfl (by kernel_rfl) (by kernel_rfl) (by kernel_rfl) (fun _ _ _ h => h) (Or.inl ⟨by rfl, ?hy52⟩) (by assumption) ?rest52
            case hy52 => (intro w hSw; (try dsimp only at hSw); go_simp; try (with_reducible rfl))
            try simp only [Act.put]
            refine wpAnyH_ready (rs := [27]) (by kernel_rfl) (by simp) ?_
            refine AllReadyH.cons rfl (fun K hK => ?_) ?_
            · go_simp
              refine hK.out _ _ ?_ (fun hHeld => ?_)
              · (try dsimp only)
                (first | (refine ⟨?_, ?_⟩ <;> go_simp; done) | (refine ⟨?_, ?_⟩ <;> (first | assumption | (simp [*, World.cell?_alloc_some, World.cell?_setCell_far]; done))))
              clear hK K
              try simp only [Act.put, List.setIfInBounds_toArray, List.set_cons_zero, List.set_cons_succ]
              refine wpAnyH_done (by kernel_rfl) ?_ _
              go_wp2_with fail
              go_roundw
              case rel => exact ⟨k + 1, _, by go_num, N1.out⟩
              case measure => simp [intOf]; omega
            exact AllReadyH.nil
          exact AllReadyH.nil
        exact AllReadyH.nil
      exact AllReadyH.nil
    · obtain rfl : k = l.length := by omega
      have hd : decide ((l.length : Int) < (l.length : Int)) = false := by simp
      have c2 := ht.rc.c2
      rw [ht.len] at c2
      have HT := Lib.hid ht
      clear ht
      go_wp2_with fail
      go_end0
      exact ⟨rfl, _, HT.out⟩
theorem part_all (n : Int) (l : List Pl.Cl) (k : Nat) (h : k = l.length) : Pl.part n k l = Pl.ticked n l := by
  subst h
  simp [Pl.part, Pl.ticked]
theorem ticked_zero (l : List Pl.Cl) : Pl.ticked 0 l = l := by
  unfold Pl.ticked
  have e : Pl.tk 0 = id := by
    funext c
    simp [Pl.tk]
  rw [e, List.map_id]
set_option maxRecDepth 100000 in
theorem rtick_no (n : Int) (hn : n < 0) (w : World) (q : Nat) : Calls Try.prog 28 #[.pointer (some ⟨q, 0, none⟩), .int .i64 n] w fun e w' => e = .returned (.tuple #[]) ∧ w = w' := by
  go_enter Try.func28, Try.ntmps28
  go_wp2_with fail
  refine bodyPost_ret (results_none rfl _ _ _) rfl ?_
  exact ⟨rfl, rfl⟩
theorem rtick_c (n : Int) (h : Rc B w q g cap real most l T) (ok : Pl.Ok real most (Pl.view l)) (hT : T ≤ 1000) (hB : B ≤ w.heap.size) :
    Calls Try.prog 28 #[.pointer (some ⟨q, 0, none⟩), .int .i64 n] w fun e w' => e = .returned (.tuple #[]) ∧ ∃ l', Pl.view l' = Pl.ticked (Pl.step real n) (Pl.view l) ∧ Rc B w' q g cap (real + Pl.step real n) most l' (T + 1) ∧ RM B w w' := by
  by_cases hn : n < 0
  · have e : Pl.step real n = 0 := if_pos hn
    rw [e, ticked_zero, Int.add_zero]
    exact (rtick_no n hn w q).mono fun e w' ⟨he, hw⟩ => ⟨he, l, rfl, hw ▸ h.more, hw ▸ RM.refl _ _⟩
  · by_cases hc : 1099511627776 - real < n
    · have e : Pl.step real n = 1099511627776 - real := by unfold Pl.step; rw [if_neg hn, if_pos hc]
      rw [e]
      exact (rtick_hi n hn hc h ok hT hB).mono fun e w' ⟨he, l', ht⟩ => ⟨he, l', by rw [ht.view, part_all _ _ _ (view_len l).symm], ht.rc, ht.rm⟩
    · have e : Pl.step real n = n := by unfold Pl.step; rw [if_neg hn, if_neg hc]
      rw [e]
      exact (rtick_lo n hn hc h ok hT hB).mono fun e w' ⟨he, l', ht⟩ => ⟨he, l', by rw [ht.view, part_all _ _ _ (view_len l).symm], ht.rc, ht.rm⟩
end
end Go.Proofs.Ytgpeekmagckgcaa
