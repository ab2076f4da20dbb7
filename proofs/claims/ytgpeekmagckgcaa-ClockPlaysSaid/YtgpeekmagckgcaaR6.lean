/- What is proved here: how the reference's clocks are made. Condition: none. -/
import Derived.Test.YtgpeekmagckgcaaR5
namespace Go.Proofs.Ytgpeekmagckgcaa
open Go Go.RowKit
attribute [local go_sem] KW.cell KW.frozen

theorem Try.info100 : (Try.prog.info? 100).map (fun i => (i.zero, i.size, i.bytes)) = some (some (.agg #[.int .i64 0, .int .i64 0, .slice none 0 0]), 3, 40) := by kernel_rfl
def Rr.new (s : Int) : Rr := ⟨s, 0, .slice none 0 0, []⟩
def rfresh (xs : List Int) : List Rr := xs.map Rr.new
theorem rfresh_view (xs : List Int) : Pl.view (rfresh xs) = Pl.fresh xs := by simp [Pl.view, rfresh, Pl.fresh, Rr.new, Pl.psum]
theorem rfresh_snoc (xs : List Int) (k : Nat) (h : k < xs.length) : rflat (rfresh (xs.take k)) ++ [.int .i64 xs[k], .int .i64 0, .slice none 0 0] = rflat (rfresh (xs.take (k + 1))) := by
  rw [List.take_succ_eq_append_getElem h]
  simp only [rfresh, List.map_append, List.map_cons, List.map_nil, rflat_append]
  rfl
/-- What New answers. -/
def RNew (xs : List Int) (most : Int) (w : World) (e : Ending) (w' : World) : Prop :=
  Below w.heap.size w w' ∧ if Pl.newB xs most = true then ∃ q g cap, e = .returned (.pointer (some ⟨q, 0, none⟩)) ∧ Rc w.heap.size w' q g cap 0 most (rfresh xs) 0 else e = .returned (.pointer none)
theorem RNew.bad {xs : List Int} {most : Int} {w w' : World} (h : Pl.newB xs most = false) (hb : Below w.heap.size w w') : RNew xs most w (.returned (.pointer none)) w' := by
  refine ⟨hb, ?_⟩
  rw [if_neg (by rw [h]; simp)]
theorem RNew.good {xs : List Int} {most : Int} {q g cap : Nat} {w w' : World} (h : Pl.newB xs most = true) (hb : Below w.heap.size w w') (hc : Rc w.heap.size w' q g cap 0 most (rfresh xs) 0) : RNew xs most w (.returned (.pointer (some ⟨q, 0, none⟩))) w' := by
  refine ⟨hb, ?_⟩
  rw [if_pos h]
  exact ⟨q, g, cap, rfl, hc⟩
theorem rnew_bad0 (v : Value) (xs : List Int) (most : Int) (w : World) (h : RdI v xs w) (hb : ¬ (1 ≤ xs.length ∧ xs.length ≤ 8 ∧ 0 ≤ most ∧ most ≤ 500)) :
    Calls Try.prog 25 #[v, .int .i64 most] w fun e w' => e = .returned (.pointer none) ∧ w = w' := by
  obtain ⟨ao, c, rfl⟩ := h.form
  clear h
  generalize xs.length = n at *
  by_cases h1 : (n : Int) < 1
  · clear hb
    go_enter Try.func25, Try.ntmps25
    go_wp2
    go_ret
    exact ⟨rfl, rfl⟩
  by_cases h2 : 8 < (n : Int)
  · clear hb
    go_enter Try.func25, Try.ntmps25
    go_wp2
    go_ret
    exact ⟨rfl, rfl⟩
  by_cases h3 : most < 0
  · clear hb
    go_enter Try.func25, Try.ntmps25
    go_wp2
    go_ret
    exact ⟨rfl, rfl⟩
  have h4 : 500 < most := by omega
  clear hb
  go_enter Try.func25, Try.ntmps25
  go_wp2
  go_ret
  exact ⟨rfl, rfl⟩
/-- What holds at a round's head. -/
structure RNewAt (w : World) (xs : List Int) (most : Int) (k : Nat) (v : Value) (wr : World) : Prop where
  hk : k ≤ xs.length
  at_ : wr.heap[w.heap.size]? = some (.cells #[.int .i64 0, .int .i64 most, v] 51 (0, 0))
  own : wr.ownsRow w.heap.size 100 3 v k (rflat (rfresh (xs.take k)))
  bl : Below w.heap.size w wr
  ok : ∀ i (_ : i < k) (h : i < xs.length), -1048576 ≤ xs[i] ∧ xs[i] ≤ 1048576
theorem RNewAt.drewN {w wr : World} {xs : List Int} {most : Int} {k : Nat} {v : Value} (h : RNewAt w xs most k v wr) (j : Nat) : RNewAt w xs most k v (wr.drewN j) :=
  ⟨h.hk, h.at_, h.own, below_drewN h.bl j, h.ok⟩
theorem RNewAt.next {w wr w1 : World} {xs : List Int} {most : Int} {k g cap : Nat} {v : Value} {o : Obj} (h : RNewAt w xs most k v wr) (hlt : k < xs.length) (hok : -1048576 ≤ xs[k] ∧ xs[k] ≤ 1048576)
    (hg : (wr.alloc o).grownBy w1 v.ownBlock) (hown : w1.ownsRow w.heap.size 100 3 (.slice (some ⟨g, 0, none⟩) (k + 1) cap) (k + 1) (rflat (rfresh (xs.take k)) ++ [.int .i64 xs[k], .int .i64 0, .slice none 0 0])) :
    RNewAt w xs most (k + 1) (.slice (some ⟨g, 0, none⟩) (k + 1) cap) (w1.setCell ⟨w.heap.size, 2, none⟩ (.slice (some ⟨g, 0, none⟩) (k + 1) cap)) := by
  have hp := block_lt h.at_
  have h1 : w1.heap[w.heap.size]? = some (.cells #[.int .i64 0, .int .i64 most, v] 51 (0, 0)) := by
    rw [hg.block _ (by simp; omega) (Ne.symm (own_ne h.own h.at_ (by decide)))]
    exact (Below.heap_alloc wr o _ hp).trans h.at_
  have hne : w.heap.size ≠ g := by
    rintro e
    have := own_ne hown h1 (by decide)
    exact this (by rw [e]; rfl)
  refine ⟨by omega, ?_, ?_, ?_, fun i hi hx => ?_⟩
  · simp [World.setCell, Array.getElem?_modify, h1]
  · rw [← rfresh_snoc xs k hlt]
    refine own_blk hown fun g' hg' => ?_
    have : g = g' := by simpa [Value.ownBlock] using hg'
    subst this
    exact Below.heap_setCell w1 ⟨w.heap.size, 2, none⟩ _ g (Ne.symm hne)
  · exact (below_grown3 (h.bl.alloc (Nat.le_trans (Nat.le_refl _) (Nat.le_of_lt hp)) o) (by simp; omega) hg h.own).setCell (by simp) _
  · by_cases e : i = k
    · subst e; exact hok
    · exact h.ok i (by omega) hx
theorem RNewAt.after {w wr w1 : World} {xs : List Int} {most : Int} {k : Nat} {v : Value} {o : Obj} (h : RNewAt w xs most k v wr) (hg : (wr.alloc o).grownBy w1 v.ownBlock) :
    w1.cell? ⟨w.heap.size, 2, none⟩ = some v ∧ w1.frozen? ⟨w.heap.size, 2, none⟩ = false ∧ Below w.heap.size w w1 :=
  have ⟨a, b⟩ := after_grow h.at_ (own_ne h.own h.at_ (by decide)) hg
  ⟨a, b, below_grown3 (h.bl.alloc (Nat.le_of_lt (block_lt h.at_)) o) (by have := block_lt h.at_; simp; omega) hg h.own⟩
theorem RNewAt.done {w wr : World} {xs : List Int} {most : Int} {v : Value} (h : RNewAt w xs most xs.length v wr) (h1 : 1 ≤ xs.length) : ∃ g cap, Rc w.heap.size wr w.heap.size g cap 0 most (rfresh xs) 0 := by
  have ho := h.own
  have e : (rfresh xs).length = xs.length := by simp [rfresh]
  rw [List.take_length] at ho
  have hat := h.at_
  rcases ho.2 with ⟨_, h0⟩ | ⟨g, cap', cur, rfl, hg, r⟩
  · omega
  · refine ⟨g, cap', Nat.le_refl _, by rw [e]; exact hat, by rw [e]; exact ho, fun i hi => ?_, fun i j hi hj hne => .inl ?_, fun c hc => ?_⟩
    · simp only [rfresh, List.getElem_map, Rr.new]
      exact ⟨rfl, .inl ⟨rfl, rfl⟩⟩
    · simp only [rfresh, List.getElem_map, Rr.new]
      rfl
    · obtain ⟨s, _, rfl⟩ := List.mem_map.1 hc
      exact ⟨fun p hp => (by cases hp), Int.le_refl _, Nat.le_refl _⟩
set_option maxRecDepth 100000 in
set_option maxHeartbeats 4000000 in
theorem rnew_run (a : Addr) (cap : Nat) (xs : List Int) (most : Int) (w : World) (hg0 : a.block < w.heap.size) (_hcl : xs.length ≤ cap) (_hcm : cap ≤ maxLen) (hc : ∀ i (h : i < xs.length), w.cell? (a.add i) = some (.int .i64 xs[i]))
    (h1 : 1 ≤ xs.length ∧ xs.length ≤ 8 ∧ 0 ≤ most ∧ most ≤ 500) : Calls Try.prog 25 #[.slice (some a) xs.length cap, .int .i64 most] w fun e w' => RNew xs most w e w' := by
  obtain ⟨i0, hi, hz0, hz1, hz2⟩ := info_parts Try.info100
  obtain ⟨a1, a2, a3, a4⟩ := h1
  have HC := Lib.hid hc
  clear hc
  go_enter Try.func25, Try.ntmps25
  go_wp2_with fail
  go_loopw [6] (fun i wr => ∃ (k : Nat) (v : Value), i = .int .i64 k ∧ RNewAt w xs most k v wr) (fun i _ => xs.length - (intOf i).toNat)
  case atStart => exact ⟨0, .slice none 0 0, rfl, Nat.zero_le _, heap_alloc_new w _, ⟨rfl, .inl ⟨rfl, rfl⟩⟩, (Below.refl _ _).alloc (Nat.le_refl _) _, fun i hi => by omega⟩
  case round =>
    obtain ⟨k, v, rfl, hn⟩ := hrel
    have hk := hn.hk
    by_cases hlt : k < xs.length
    · have hd : decide ((k : Int) < (xs.length : Int)) = true := by simp; omega
      have hbad : (xs[k] < -1048576 ∨ 1048576 < xs[k]) → Pl.newB xs most = false := by
        intro hx
        cases e : Pl.newB xs most with
        | false => rfl
        | true =>
          simp only [Pl.newB, Bool.and_eq_true, decide_eq_true_eq, List.all_eq_true] at e
          have := e.2 _ (List.getElem_mem hlt)
          omega
      have HB := Lib.hid hbad
      clear hbad
      have ca : wr.cell? (a.add k) = some (.int .i64 xs[k]) := (hn.bl.cell (p := a.add k) (by rw [add_block]; exact hg0)).trans (HC.out k hlt)
      have haB : a.block < w.heap.size := hg0
      have cp := block_cell hn.at_ 2
      have fp := block_free hn.at_ 2
      have hbl := hn.bl
      have hown := hn.own
      have hs := block_lt hn.at_
      have HN := Lib.hid hn
      clear hn
      simp at cp
      by_cases hlo : xs[k] < -1048576
      · have HB2 := Lib.hid (HB.out (.inl hlo))
        generalize xs[k] = s at *
        go_wp2_with fail
        go_ret
        exact RNew.bad HB2.out hbl
      by_cases hhi : 1048576 < xs[k]
      · have HB2 := Lib.hid (HB.out (.inr hhi))
        generalize xs[k] = s at *
        go_wp2_with fail
        go_ret
        exact RNew.bad HB2.out hbl
      have TN := Lib.hid (fun j (w1 : World) (g cap : Nat) (o : Obj) hg ho => RNewAt.next (w1 := w1) (g := g) (cap := cap) (o := o) (HN.out.drewN j) hlt ⟨by omega, by omega⟩ hg ho)
      have TA := Lib.hid (fun j (w1 : World) (o : Obj) hg => RNewAt.after (w1 := w1) (o := o) (HN.out.drewN j) hg)
      have HCa := Lib.hid (HC.out k hlt)
      have hNA : ∀ i, ¬ ((⟨w.heap.size, i, none⟩ : Addr) = a.add k) := by
        intro i e
        have : w.heap.size = (a.add k).block := by rw [← e]
        rw [add_block] at this
        omega
      clear HB
      generalize xs[k] = s at *
      have hown1 := Lib.hid (fun j => World.ownsRow.alloc (w := wr.drewN j) hown (Obj.cells #[.int .i64 s, .int .i64 0, .slice none 0 0] 100))
      obtain ⟨ao, cc, hv⟩ := own_form hown
      clear hown
      subst hv
      go_wp2_with fail
      refine wp_region_held_drew (S := (fun w' => w'.cell? (a.add k) = some (.int .i64 s))) (by kernel_rfl) ?_ (fun hHeld => ?_)
      · (try dsimp only)
        (first | assumption | (go_simp; done) | (simp [*, World.cell?_alloc_some, World.cell?_setCell_far]; done) | (exact (TB.out).trans HCa.out) | (exact (World.cell?_setCell_other _ _ _ _ (hNA _)).trans ((TB.out).trans HCa.out)))
      refine wpAnyH_take (i := 0) (v := ?v1) rfl (by kernel_rfl) (by kernel_rfl) (by kernel_rfl) (fun _ _ _ h => h) (Or.inl ⟨by rfl, ?hy1⟩) (by assumption) ?rest1
      case hy1 => (intro w hSw; (try dsimp only at hSw); go_simp; try (with_reducible rfl))
      try simp only [Act.put, List.setIfInBounds_toArray]
      refine wpAnyH_take (i := 1) (v := ?v2) rfl (by kernel_rfl) (by kernel_rfl) (by kernel_rfl) (fun _ _ _ h => h) (Or.inl ⟨by rfl, ?hy2⟩) (by assumption) ?rest2
      case hy2 => (intro w hSw; (try dsimp only at hSw); go_simp; try (with_reducible rfl))
      try simp only [Act.put]
      refine wpAnyH_take (i := 2) (v := ?v3) rfl (by kernel_rfl) (by kernel_rfl) (by kernel_rfl) (fun _ _ _ h => h) (Or.inl ⟨by rfl, ?hy3⟩) (by assumption) ?rest3
      case hy3 => (intro w hSw; (try dsimp only at hSw); go_simp; try (with_reducible rfl))
      try simp only [Act.put]
      refine wpAnyH_take (i := 3) (v := ?v4) rfl (by kernel_rfl) (by kernel_rfl) (by kernel_rfl) (fun _ _ _ h => h) (Or.inl ⟨by rfl, ?hy4⟩) (by assumption) ?rest4
      case hy4 => (intro w hSw; (try dsimp only at hSw); go_simp; try (with_reducible rfl))
      try simp only [Act.put]
      refine wpAnyH_take (i := 5) (v := ?v5) rfl (by kernel_rfl) (by kernel_rfl) (by kernel_rfl) (fun _ _ _ h => h) (Or.inl ⟨by rfl, ?hy5⟩) (by assumption) ?rest5
      case hy5 => (intro w hSw; (try dsimp only at hSw); go_simp; try (with_reducible rfl))
      try simp only [Act.put]
      refine wpAnyH_take (i := 6) (v := ?v6) rfl (by kernel_rfl) (by kernel_rfl) (by kernel_rfl) (fun _ _ _ h => h) (Or.inl ⟨by rfl, ?hy6⟩) (by assumption) ?rest6
      case hy6 => (intro w hSw; (try dsimp only at hSw); go_simp; try (with_reducible rfl))
      try simp only [Act.put]
      refine wpAnyH_take (i := 7) (v := ?v7) rfl (by kernel_rfl) (by kernel_rfl) (by kernel_rfl) (fun _ _ _ h => h) (Or.inl ⟨by rfl, ?hy7⟩) (by assumption) ?rest7
      case hy7 => (intro w hSw; (try dsimp only at hSw); go_simp; try (with_reducible rfl))
      try simp only [Act.put]
      refine wpAnyH_take (i := 8) (v := ?v8) rfl (by kernel_rfl) (by kernel_rfl) (by kernel_rfl) (fun _ _ _ h => h) (Or.inl ⟨by rfl, ?hy8⟩) (by assumption) ?rest8
      case hy8 => (intro w hSw; (try dsimp only at hSw); go_simp; try (with_reducible rfl))
      try simp only [Act.put]
      refine wpAnyH_take (i := 9) (v := ?v9) rfl (by kernel_rfl) (by kernel_rfl) (by kernel_rfl) (fun _ _ _ h => h) (Or.inl ⟨by rfl, ?hy9⟩) (by assumption) ?rest9
      case hy9 => (intro w hSw; (try dsimp only at hSw); go_simp; try (with_reducible rfl))
      try simp only [Act.put]
      refine wpAnyH_ready (rs := [4, 10]) (by kernel_rfl) (by simp) ?_
      refine AllReadyH.cons rfl (fun K hK => ?_) ?_
      · go_simp
        refine hK.out _ _ ?_ (fun hHeld => ?_)
        · (try dsimp only)
          (first | assumption | (go_simp; done) | (simp [*, World.cell?_alloc_some, World.cell?_setCell_far]; done) | (exact (TB.out).trans HCa.out) | (exact (World.cell?_setCell_other _ _ _ _ (hNA _)).trans ((TB.out).trans HCa.out)))
        clear hK K
        try simp only [Act.put, List.setIfInBounds_toArray, List.set_cons_zero, List.set_cons_succ]
        refine wpAnyH_ready (rs := [10]) (by kernel_rfl) (by simp) ?_
        refine AllReadyH.cons rfl (fun K hK => ?_) ?_
        · go_simp
          refine hK.out _ _ ?_ (fun hHeld => ?_)
          · (try dsimp only)
            (first | assumption | (go_simp; done) | (simp [*, World.cell?_alloc_some]; done) | (exact (TB.out).trans HCa.out) | (exact (World.cell?_setCell_other _ _ _ _ (hNA _)).trans ((TB.out).trans HCa.out)))
          clear hK K
          try simp only [Act.put, List.setIfInBounds_toArray, List.set_cons_zero, List.set_cons_succ]
          refine wpAnyH_ready (rs := [11]) (by kernel_rfl) (by simp) ?_
          refine AllReadyH.cons rfl (fun K hK => ?_) ?_
          · (refine step_append_lies _ rfl (.tmp 48) (.tmp 54) 49 rfl w.heap.size 100 i0 (.agg #[.int .i64 0, .int .i64 0, .slice none 0 0]) 3 40 Try.underlying49 hi hz0 hz1 hz2 rfl (by decide) (.slice ao k cc) k (rflat (rfresh (xs.take k))) rfl (hown1.out 1) ⟨wr.heap.size, 0, none⟩ 1 1 [.int .i64 s, .int .i64 0, .slice none 0 0] rfl rfl (by intro j u hj; rcases j with _ | _ | _ | j <;> simp at hj <;> subst hj <;> simp [go_sem, Addr.add]) (by simp [Value.oneCell']) (by decide) (by unfold maxLen; omega) (by omega) (by simp; omega) (wr.heap.size + 1) (by simp) ?_; intro g' cap' w1 hown2 hgrow hat1 hlt1; obtain ⟨q1, q2, q3⟩ := TA.out 1 _ _ hgrow; have N1 := Lib.hid (TN.out 1 _ _ _ _ hgrow hown2); have TB := Lib.hid (q3.cell (p := a.add k) (by rw [add_block]; exact haB)); clear hgrow hown2 hat1)
            refine hK.out _ _ ?_ (fun hHeld => ?_)
            · (try dsimp only)
              (first | assumption | (go_simp; done) | (simp [*, World.cell?_alloc_some, World.cell?_setCell_far]; done) | (exact (TB.out).trans HCa.out) | (exact (World.cell?_setCell_other _ _ _ _ (hNA _)).trans ((TB.out).trans HCa.out)))
            clear hK K
            try simp only [Act.put, List.setIfInBounds_toArray]
            refine wpAnyH_take (i := 12) (v := ?v10) rfl (by kernel_rfl) (by kernel_rfl) (by kernel_rfl) (fun _ _ _ h => h) (Or.inl ⟨by rfl, ?hy10⟩) (by assumption) ?rest10
            case hy10 => (intro w hSw; (try dsimp only at hSw); go_simp; try (with_reducible rfl))
            try simp only [Act.put]
            refine wpAnyH_take (i := 13) (v := ?v11) rfl (by kernel_rfl) (by kernel_rfl) (by kernel_rfl) (fun _ _ _ h => h) (Or.inl ⟨by rfl, ?hy11⟩) (by assumption) ?rest11
            case hy11 => (intro w hSw; (try dsimp only at hSw); go_simp; try (with_reducible rfl))
            try simp only [Act.put]
            refine wpAnyH_ready (rs := [14]) (by kernel_rfl) (by simp) ?_
            refine AllReadyH.cons rfl (fun K hK => ?_) ?_
            · go_simp
              refine hK.out _ _ ?_ (fun hHeld => ?_)
              · (try dsimp only)
                (first | assumption | (go_simp; done) | (simp [*, World.cell?_alloc_some, World.cell?_setCell_far]; done) | (exact (TB.out).trans HCa.out) | (exact (World.cell?_setCell_other _ _ _ _ (hNA _)).trans ((TB.out).trans HCa.out)))
              clear hK K
              try simp only [Act.put, List.setIfInBounds_toArray, List.set_cons_zero, List.set_cons_succ]
              refine wpAnyH_done (by kernel_rfl) ?_ _
              go_wp2_with fail
              go_roundw
              case rel => exact ⟨k + 1, _, by go_num, N1.out⟩
              case measure => simp [intOf]; omega
            exact AllReadyH.nil
          exact AllReadyH.nil
        exact AllReadyH.nil
      refine AllReadyH.cons rfl (fun K hK => ?_) ?_
      · go_simp
        refine hK.out _ _ ?_ (fun hHeld => ?_)
        · (try dsimp only)
          (first | assumption | (go_simp; done) | (simp [*, World.cell?_alloc_some]; done) | (exact (TB.out).trans HCa.out) | (exact (World.cell?_setCell_other _ _ _ _ (hNA _)).trans ((TB.out).trans HCa.out)))
        clear hK K
        try simp only [Act.put, List.setIfInBounds_toArray, List.set_cons_zero, List.set_cons_succ]
        refine wpAnyH_ready (rs := [4]) (by kernel_rfl) (by simp) ?_
        refine AllReadyH.cons rfl (fun K hK => ?_) ?_
        · go_simp
          refine hK.out _ _ ?_ (fun hHeld => ?_)
          · (try dsimp only)
            (first | assumption | (go_simp; done) | (simp [*, World.cell?_alloc_some, World.cell?_setCell_far]; done) | (exact (TB.out).trans HCa.out) | (exact (World.cell?_setCell_other _ _ _ _ (hNA _)).trans ((TB.out).trans HCa.out)))
          clear hK K
          try simp only [Act.put, List.setIfInBounds_toArray, List.set_cons_zero, List.set_cons_succ]
          refine wpAnyH_ready (rs := [11]) (by kernel_rfl) (by simp) ?_
          refine AllReadyH.cons rfl (fun K hK => ?_) ?_
          · (refine step_append_lies _ rfl (.tmp 48) (.tmp 54) 49 rfl w.heap.size 100 i0 (.agg #[.int .i64 0, .int .i64 0, .slice none 0 0]) 3 40 Try.underlying49 hi hz0 hz1 hz2 rfl (by decide) (.slice ao k cc) k (rflat (rfresh (xs.take k))) rfl (hown1.out 1) ⟨wr.heap.size, 0, none⟩ 1 1 [.int .i64 s, .int .i64 0, .slice none 0 0] rfl rfl (by intro j u hj; rcases j with _ | _ | _ | j <;> simp at hj <;> subst hj <;> simp [go_sem, Addr.add]) (by simp [Value.oneCell']) (by decide) (by unfold maxLen; omega) (by omega) (by simp; omega) (wr.heap.size + 1) (by simp) ?_; intro g' cap' w1 hown2 hgrow hat1 hlt1; obtain ⟨q1, q2, q3⟩ := TA.out 1 _ _ hgrow; have N1 := Lib.hid (TN.out 1 _ _ _ _ hgrow hown2); have TB := Lib.hid (q3.cell (p := a.add k) (by rw [add_block]; exact haB)); clear hgrow hown2 hat1)
            refine hK.out _ _ ?_ (fun hHeld => ?_)
            · (try dsimp only)
              (first | assumption | (go_simp; done) | (simp [*, World.cell?_alloc_some, World.cell?_setCell_far]; done) | (exact (TB.out).trans HCa.out) | (exact (World.cell?_setCell_other _ _ _ _ (hNA _)).trans ((TB.out).trans HCa.out)))
            clear hK K
            try simp only [Act.put, List.setIfInBounds_toArray]
            refine wpAnyH_take (i := 12) (v := ?v12) rfl (by kernel_rfl) (by kernel_rfl) (by kernel_rfl) (fun _ _ _ h => h) (Or.inl ⟨by rfl, ?hy12⟩) (by assumption) ?rest12
            case hy12 => (intro w hSw; (try dsimp only at hSw); go_simp; try (with_reducible rfl))
            try simp only [Act.put]
            refine wpAnyH_take (i := 13) (v := ?v13) rfl (by kernel_rfl) (by kernel_rfl) (by kernel_rfl) (fun _ _ _ h => h) (Or.inl ⟨by rfl, ?hy13⟩) (by assumption) ?rest13
            case hy13 => (intro w hSw; (try dsimp only at hSw); go_simp; try (with_reducible rfl))
            try simp only [Act.put]
            refine wpAnyH_ready (rs := [14]) (by kernel_rfl) (by simp) ?_
            refine AllReadyH.cons rfl (fun K hK => ?_) ?_
            · go_simp
              refine hK.out _ _ ?_ (fun hHeld => ?_)
              · (try dsimp only)
                (first | assumption | (go_simp; done) | (simp [*, World.cell?_alloc_some, World.cell?_setCell_far]; done) | (exact (TB.out).trans HCa.out) | (exact (World.cell?_setCell_other _ _ _ _ (hNA _)).trans ((TB.out).trans HCa.out)))
              clear hK K
              try simp only [Act.put, List.setIfInBounds_toArray, List.set_cons_zero, List.set_cons_succ]
              refine wpAnyH_done (by kernel_rfl) ?_ _
              go_wp2_with fail
              go_roundw
              case rel => exact ⟨k + 1, _, by go_num, N1.out⟩
              case measure => simp [intOf]; omega
            exact AllReadyH.nil
          exact AllReadyH.nil
        exact AllReadyH.nil
      exact AllReadyH.nil
    · obtain rfl : k = xs.length := by omega
      have hd : decide ((xs.length : Int) < (xs.length : Int)) = false := by simp
      have hok : Pl.newB xs most = true := by
        simp only [Pl.newB, Bool.and_eq_true, decide_eq_true_eq, List.all_eq_true]
        refine ⟨⟨a1, a2, a3, a4⟩, fun x hx => ?_⟩
        obtain ⟨i, hi, rfl⟩ := List.getElem_of_mem hx
        exact hn.ok i hi hi
      have HK := Lib.hid hok
      have HN := Lib.hid hn
      clear hok hn
      go_wp2_with fail
      go_ret
      obtain ⟨g, cap', hr⟩ := HN.out.done a1
      exact RNew.good HK.out HN.out.bl hr
theorem rnew_c (v : Value) (xs : List Int) (most : Int) (w : World) (h : RdI v xs w) : Calls Try.prog 25 #[v, .int .i64 most] w fun e w' => RNew xs most w e w' := by
  by_cases h1 : 1 ≤ xs.length ∧ xs.length ≤ 8 ∧ 0 ≤ most ∧ most ≤ 500
  · rcases h with ⟨rfl, rfl⟩ | ⟨a, cap, rfl, hg, hl, hm, hc⟩
    · simp at h1
    · exact rnew_run a cap xs most w (hg (by omega)) hl hm hc h1
  · refine (rnew_bad0 v xs most w h h1).mono ?_
    rintro e w' ⟨rfl, rfl⟩
    have : Pl.newB xs most = false := by unfold Pl.newB; rw [decide_eq_false h1]; rfl
    exact RNew.bad this (Below.refl _ _)
end Go.Proofs.Ytgpeekmagckgcaa
