/- What is proved here: how clocks are made. Condition: the starts can be read. -/
import Derived.Test.YtgpeekmagckgcaaK3
import Derived.Laws.AppendOwnNone
import Derived.Deep.AppendLies
namespace Go.Proofs.Ytgpeekmagckgcaa
open Go Go.RowKit
attribute [local go_sem] KW.cell KW.frozen

theorem bon {W w w' : World} (h : Below W.heap.size W w) (h2 : Below w.heap.size w w') : Below W.heap.size W w' := h.trans (h2.mono h.size)
theorem add_head (g n : Nat) : (⟨g, 0, none⟩ : Addr).add n = ⟨g, n, none⟩ := by
  unfold Addr.add
  split
  · subst_vars; rfl
  · simp
theorem add_block (a : Addr) (n : Nat) : (a.add n).block = a.block := by
  unfold Addr.add
  split <;> rfl
/-- The slice v reads as the numbers xs. -/
def RdI (v : Value) (xs : List Int) (w : World) : Prop :=
  (v = .slice none 0 0 ∧ xs = []) ∨ ∃ (a : Addr) (cap : Nat), v = .slice (some a) xs.length cap ∧ (0 < xs.length → a.block < w.heap.size) ∧ xs.length ≤ cap ∧ cap ≤ maxLen ∧
    ∀ i (h : i < xs.length), w.cell? (a.add i) = some (.int .i64 xs[i])
theorem RdI.kept {v : Value} {xs : List Int} {w w' : World} (h : RdI v xs w) (hb : Below w.heap.size w w') : RdI v xs w' := by
  rcases h with h | ⟨a, cap, hv, hg, h1, h2, hc⟩
  · exact .inl h
  · refine .inr ⟨a, cap, hv, fun h0 => Nat.lt_of_lt_of_le (hg h0) hb.size, h1, h2, fun i hi => ?_⟩
    rw [hb.cell (p := a.add i) (by rw [add_block]; exact hg (by omega))]
    exact hc i hi
theorem RdI.keptB {v : Value} {xs : List Int} {W w : World} (h : RdI v xs W) (hb : Below W.heap.size W w) : RdI v xs w := h.kept hb
theorem RdI.form {v : Value} {xs : List Int} {w : World} (h : RdI v xs w) : ∃ ao c, v = .slice ao xs.length c := by
  rcases h with ⟨rfl, rfl⟩ | ⟨a, cap, rfl, _⟩
  · exact ⟨none, 0, rfl⟩
  · exact ⟨_, _, rfl⟩
theorem below_grown3 {B n e z : Nat} {w wx w1 w2 : World} {v : Value} {vs : List Value} (h : Below B w w1) (hB : B ≤ w1.heap.size) (hg : w1.grownBy w2 v.ownBlock) (hown : wx.ownsRow B e z v n vs) : Below B w w2 := by
  refine h.grown hg hB fun k hk => ?_
  rcases hown.2 with ⟨rfl, _⟩ | ⟨g, cap, cur, rfl, hg', _⟩
  · simp [Value.ownBlock] at hk
  · simp [Value.ownBlock] at hk
    omega
theorem Try.info97 : (Try.prog.info? 97).map (fun i => (i.zero, i.size, i.bytes)) = some (some (.agg #[.int .i64 0, .int .i64 0, .int .i64 0]), 3, 24) := by kernel_rfl

/-- May clocks be made? -/
def Pl.newB (xs : List Int) (most : Int) : Bool := decide (1 ≤ xs.length ∧ xs.length ≤ 8 ∧ 0 ≤ most ∧ most ≤ 500) && xs.all fun s => decide (-1048576 ≤ s) && decide (s ≤ 1048576)
def Pl.fresh (xs : List Int) : List Pl.Cl := xs.map fun s => (s, 0, 0)
theorem Pl.ok_new {xs : List Int} {most : Int} (h : Pl.newB xs most = true) : Pl.Ok 0 most (Pl.fresh xs) := by
  simp only [Pl.newB, Bool.and_eq_true, decide_eq_true_eq, List.all_eq_true] at h
  obtain ⟨⟨h1, h2, h3, h4⟩, h5⟩ := h
  refine ⟨by omega, by omega, h3, h4, by simpa [Pl.fresh] using h2, fun c hc => ?_⟩
  obtain ⟨s, hs, rfl⟩ := List.mem_map.1 hc
  have := h5 s hs
  exact ⟨this.1, this.2, by simp; omega, by simp; omega, by simp, by simp⟩

theorem new_bad0 (v : Value) (xs : List Int) (most : Int) (w : World) (h : RdI v xs w) (hb : ¬ (1 ≤ xs.length ∧ xs.length ≤ 8 ∧ 0 ≤ most ∧ most ≤ 500)) :
    Calls Try.prog 24 #[v, .int .i64 most] w fun e w' => e = .returned (.tuple #[.pointer none, .int .i64 2]) ∧ w = w' := by
  obtain ⟨ao, c, rfl⟩ := h.form
  clear h
  generalize xs.length = n at *
  by_cases h1 : (n : Int) < 1
  · clear hb
    go_enter Try.func24, Try.ntmps24
    go_wp2
    go_ret2
    exact ⟨rfl, rfl⟩
  by_cases h2 : 8 < (n : Int)
  · clear hb
    go_enter Try.func24, Try.ntmps24
    go_wp2
    go_ret2
    exact ⟨rfl, rfl⟩
  by_cases h3 : most < 0
  · clear hb
    go_enter Try.func24, Try.ntmps24
    go_wp2
    go_ret2
    exact ⟨rfl, rfl⟩
  have h4 : 500 < most := by omega
  clear hb
  go_enter Try.func24, Try.ntmps24
  go_wp2
  go_ret2
  exact ⟨rfl, rfl⟩
/-- What New answers. -/
def NewPost (xs : List Int) (most : Int) (B : Nat) (w : World) (e : Ending) (w' : World) : Prop :=
  Below w.heap.size w w' ∧ if Pl.newB xs most = true then ∃ p g cap, e = .returned (.tuple #[.pointer (some ⟨p, 0, none⟩), .int .i64 0]) ∧ Ck B w' p g cap 0 most (Pl.fresh xs) ∧ w.heap.size ≤ p ∧ w.heap.size ≤ g else e = .returned (.tuple #[.pointer none, .int .i64 2])
theorem own_ne {B e z n g t : Nat} {v : Value} {cs : Array Value} {vs : List Value} {w : World} (h : w.ownsRow B e z v n vs) (hg : w.heap[g]? = some (.cells cs t (0, 0))) (hne : e ≠ t) : v.ownBlock ≠ some g := by
  rcases h.2 with ⟨rfl, _⟩ | ⟨g', cap, cur, rfl, _, hh, _⟩
  · simp [Value.ownBlock]
  · intro he
    have : g' = g := by simpa [Value.ownBlock] using he
    subst this
    rw [hh] at hg
    injection hg with hg
    injection hg with _ ht
    exact hne ht
theorem own_blk {B e z n : Nat} {v : Value} {vs : List Value} {w w' : World} (h : w.ownsRow B e z v n vs) (hk : ∀ g, v.ownBlock = some g → w'.heap[g]? = w.heap[g]?) : w'.ownsRow B e z v n vs := by
  refine ⟨h.1, ?_⟩
  rcases h.2 with h0 | ⟨g', cap', cur, hv, hB, hg, r⟩
  · exact .inl h0
  · exact .inr ⟨g', cap', cur, hv, hB, (hk g' (by rw [hv]; rfl)).trans hg, r⟩
theorem fresh_snoc (xs : List Int) (k : Nat) (h : k < xs.length) : cflat (Pl.fresh (xs.take k)) ++ [.int .i64 xs[k], .int .i64 0, .int .i64 0] = cflat (Pl.fresh (xs.take (k + 1))) := by
  rw [List.take_succ_eq_append_getElem h]
  simp only [Pl.fresh, List.map_append, List.map_cons, List.map_nil, cflat_append]
  rfl
theorem NewPost.bad {xs : List Int} {most : Int} {B : Nat} {w w' : World} (h : Pl.newB xs most = false) (hb : Below w.heap.size w w') : NewPost xs most B w (.returned (.tuple #[.pointer none, .int .i64 2])) w' := by
  refine ⟨hb, ?_⟩
  rw [if_neg (by rw [h]; simp)]
theorem NewPost.good {xs : List Int} {most : Int} {B p g cap : Nat} {w w' : World} (h : Pl.newB xs most = true) (hb : Below w.heap.size w w') (hc : Ck B w' p g cap 0 most (Pl.fresh xs)) (hp : w.heap.size ≤ p) (hg : w.heap.size ≤ g) : NewPost xs most B w (.returned (.tuple #[.pointer (some ⟨p, 0, none⟩), .int .i64 0])) w' := by
  refine ⟨hb, ?_⟩
  rw [if_pos h]
  exact ⟨p, g, cap, rfl, hc, hp, hg⟩
theorem after_grow {wr w1 : World} {p t : Nat} {c0 c1 v v' : Value} {o : Obj} (hat : wr.heap[p]? = some (.cells #[c0, c1, v] t (0, 0))) (hne : v'.ownBlock ≠ some p) (hg : (wr.alloc o).grownBy w1 v'.ownBlock) :
    w1.cell? ⟨p, 2, none⟩ = some v ∧ w1.frozen? ⟨p, 2, none⟩ = false := by
  have hs := block_lt hat
  have hp1 : w1.heap[p]? = some (.cells #[c0, c1, v] t (0, 0)) := by
    rw [hg.block _ (by simp; omega) (Ne.symm hne)]
    exact (Below.heap_alloc wr _ _ hs).trans hat
  exact ⟨block_cell hp1 2, block_free hp1 2⟩
/-- What holds at a round's head. -/
structure NewAt (w : World) (B : Nat) (xs : List Int) (most : Int) (k : Nat) (v : Value) (wr : World) : Prop where
  hk : k ≤ xs.length
  at_ : wr.heap[w.heap.size]? = some (.cells #[.int .i64 0, .int .i64 most, v] 95 (0, 0))
  own : wr.ownsRow w.heap.size 97 3 v k (cflat (Pl.fresh (xs.take k)))
  bl : Below w.heap.size w wr
  ok : ∀ i (_ : i < k) (h : i < xs.length), -1048576 ≤ xs[i] ∧ xs[i] ≤ 1048576
theorem NewAt.next {w wr w1 w2 : World} {B : Nat} {xs : List Int} {most : Int} {k g cap : Nat} {v : Value} (h : NewAt w B xs most k v wr) (hlt : k < xs.length) (hok : -1048576 ≤ xs[k] ∧ xs[k] ≤ 1048576) (o : Obj)
    (hw2 : w2 = w1.setCell ⟨w.heap.size, 2, none⟩ (.slice (some ⟨g, 0, none⟩) (k + 1) cap))
    (hg : (wr.alloc o).grownBy w1 v.ownBlock) (hown : w1.ownsRow w.heap.size 97 3 (.slice (some ⟨g, 0, none⟩) (k + 1) cap) (k + 1) (cflat (Pl.fresh (xs.take k)) ++ [.int .i64 xs[k], .int .i64 0, .int .i64 0])) :
    NewAt w B xs most (k + 1) (.slice (some ⟨g, 0, none⟩) (k + 1) cap) w2 := by
  subst hw2
  have hp := block_lt h.at_
  have h1 : w1.heap[w.heap.size]? = some (.cells #[.int .i64 0, .int .i64 most, v] 95 (0, 0)) := by
    rw [hg.block _ (by simp; omega) (Ne.symm (own_ne h.own h.at_ (by decide)))]
    exact (Below.heap_alloc wr o _ hp).trans h.at_
  have hne : w.heap.size ≠ g := by
    rintro e
    have := own_ne hown h1 (by decide)
    exact this (by rw [e]; rfl)
  refine ⟨by omega, ?_, ?_, ?_, fun i hi hx => ?_⟩
  · simp [World.setCell, Array.getElem?_modify, h1]
  · rw [← fresh_snoc xs k hlt]
    refine own_blk hown fun g' hg' => ?_
    have : g = g' := by simpa [Value.ownBlock] using hg'
    subst this
    exact Below.heap_setCell w1 ⟨w.heap.size, 2, none⟩ _ g (Ne.symm hne)
  · exact (below_grown3 (h.bl.alloc (Nat.le_trans (Nat.le_refl _) (Nat.le_of_lt hp)) o) (by simp; omega) hg h.own).setCell (by simp) _
  · by_cases e : i = k
    · subst e; exact hok
    · exact h.ok i (by omega) hx
set_option maxRecDepth 100000 in
set_option maxHeartbeats 1000000 in
theorem new_run (a : Addr) (cap : Nat) (xs : List Int) (most : Int) (B : Nat) (w : World) (hB : B ≤ w.heap.size) (hg0 : a.block < w.heap.size) (_hcl : xs.length ≤ cap) (_hcm : cap ≤ maxLen) (hc : ∀ i (h : i < xs.length), w.cell? (a.add i) = some (.int .i64 xs[i]))
    (h1 : 1 ≤ xs.length ∧ xs.length ≤ 8 ∧ 0 ≤ most ∧ most ≤ 500) : Calls Try.prog 24 #[.slice (some a) xs.length cap, .int .i64 most] w fun e w' => NewPost xs most B w e w' := by
  obtain ⟨i0, hi, hz0, hz1, hz2⟩ := info_parts Try.info97
  obtain ⟨a1, a2, a3, a4⟩ := h1
  have HC := Lib.hid hc
  clear hc
  go_enter Try.func24, Try.ntmps24
  go_wp2_with fail
  go_loopw [30] (fun i wr => ∃ (k : Nat) (v : Value), i = .int .i64 k ∧ NewAt w B xs most k v wr) (fun i _ => xs.length - (intOf i).toNat)
  case atStart => exact ⟨0, .slice none 0 0, rfl, Nat.zero_le _, heap_alloc_new w _, ⟨rfl, .inl ⟨rfl, rfl⟩⟩, (Below.refl _ _).alloc (Nat.le_refl _) _, fun i hi => by omega⟩
  case round =>
    obtain ⟨k, v, rfl, hn⟩ := hrel
    have hk := hn.hk
    by_cases hlt : k < xs.length
    · have hd : decide ((k : Int) < (xs.length : Int)) = true := by simp; omega
      have ca : wr.cell? (a.add k) = some (.int .i64 xs[k]) := (hn.bl.cell (p := a.add k) (by rw [add_block]; exact hg0)).trans (HC.out k hlt)
      have cp := block_cell hn.at_ 2
      have fp := block_free hn.at_ 2
      have hbl := hn.bl
      have hown := hn.own
      have hs := block_lt hn.at_
      have hnne := own_ne hn.own hn.at_ (by decide)
      have hat := hn.at_
      have HN := Lib.hid hn
      clear hn
      simp at cp
      by_cases hlo : xs[k] < -1048576
      · have hbad : Pl.newB xs most = false := by
          cases e : Pl.newB xs most with
          | false => rfl
          | true =>
            simp only [Pl.newB, Bool.and_eq_true, decide_eq_true_eq, List.all_eq_true] at e
            have := e.2 _ (List.getElem_mem hlt)
            omega
        have HB := Lib.hid hbad
        clear hbad
        generalize xs[k] = s at *
        go_wp2_with fail
        go_ret2
        exact NewPost.bad HB.out hbl
      by_cases hhi : 1048576 < xs[k]
      · have hbad : Pl.newB xs most = false := by
          cases e : Pl.newB xs most with
          | false => rfl
          | true =>
            simp only [Pl.newB, Bool.and_eq_true, decide_eq_true_eq, List.all_eq_true] at e
            have := e.2 _ (List.getElem_mem hlt)
            omega
        have HB := Lib.hid hbad
        clear hbad
        generalize xs[k] = s at *
        go_wp2_with fail
        go_ret2
        exact NewPost.bad HB.out hbl
      have HX := Lib.hid (fun (w1 w2 : World) (g cap : Nat) (o : Obj) h1 h2 h3 => NewAt.next (w1 := w1) (w2 := w2) (g := g) (cap := cap) HN.out hlt ⟨by omega, by omega⟩ o h1 h2 h3)
      generalize xs[k] = s at *
      have hown1 := hown.alloc (Obj.cells #[.int .i64 s, .int .i64 0, .int .i64 0] 97)
      go_wp2_with (at_builtin; refine wpList_append_lies _ rfl _ _ 93 rfl w.heap.size 97 i0 (.agg #[.int .i64 0, .int .i64 0, .int .i64 0]) 3 24 Try.underlying93 hi hz0 hz1 hz2 rfl (by decide) v k (cflat (Pl.fresh (xs.take k))) rfl hown1 ⟨wr.heap.size, 0, none⟩ 1 1 [.int .i64 s, .int .i64 0, .int .i64 0] rfl rfl (by intro j u hj; rcases j with _ | _ | _ | j <;> simp at hj <;> subst hj <;> simp [go_sem, Addr.add]) (by simp [Value.oneCell']) (by decide) (by unfold maxLen; omega) (by omega) (by simp; omega) (wr.heap.size + 1) (by simp) ?_; intro g' cap' w1 hown2 hgrow hat1 hlt1; have H1 := Lib.hid hgrow; have H2 := Lib.hid hown2; obtain ⟨cp1, fp1⟩ := after_grow hat hnne hgrow; clear hgrow hown2 hat1)
      go_roundw
      case rel => exact ⟨k + 1, _, by go_num, HX.out _ _ _ _ _ rfl H1.out H2.out⟩
      case measure => simp [intOf]; omega
    · obtain rfl : k = xs.length := by omega
      have hd : decide ((xs.length : Int) < (xs.length : Int)) = false := by simp
      have hok : Pl.newB xs most = true := by
        simp only [Pl.newB, Bool.and_eq_true, decide_eq_true_eq, List.all_eq_true]
        refine ⟨⟨a1, a2, a3, a4⟩, fun x hx => ?_⟩
        obtain ⟨i, hi, rfl⟩ := List.getElem_of_mem hx
        exact hn.ok i hi hi
      have HK := Lib.hid hok
      have HN := Lib.hid hn
      clear hok hn
      go_wp2_with fail
      go_ret2
      have ho := HN.out.own
      rw [List.take_length] at ho
      rcases ho.2 with ⟨_, h0⟩ | ⟨g, cap', cur, rfl, hg, _⟩
      · omega
      · refine NewPost.good (g := g) (cap := cap') HK.out HN.out.bl ⟨hB, ?_, ?_⟩ (Nat.le_refl _) hg
        · have := HN.out.at_
          simpa [Pl.fresh] using this
        · have e : (Pl.fresh xs).length = xs.length := by simp [Pl.fresh]
          rw [e]
          refine ⟨ho.1, ?_⟩
          rcases ho.2 with h0 | ⟨g', c', cur', hv, hb', r⟩
          · exact .inl h0
          · exact .inr ⟨g', c', cur', hv, Nat.le_trans hB hb', r⟩
theorem new_c (v : Value) (xs : List Int) (most : Int) (B : Nat) (w : World) (hB : B ≤ w.heap.size) (h : RdI v xs w) : Calls Try.prog 24 #[v, .int .i64 most] w fun e w' => NewPost xs most B w e w' := by
  by_cases h1 : 1 ≤ xs.length ∧ xs.length ≤ 8 ∧ 0 ≤ most ∧ most ≤ 500
  · rcases h with ⟨rfl, rfl⟩ | ⟨a, cap, rfl, hg, hl, hm, hc⟩
    · simp at h1
    · exact new_run a cap xs most B w hB (hg (by omega)) hl hm hc h1
  · refine (new_bad0 v xs most w h h1).mono ?_
    rintro e w' ⟨rfl, rfl⟩
    have : Pl.newB xs most = false := by unfold Pl.newB; rw [decide_eq_false h1]; rfl
    exact NewPost.bad this (Below.refl _ _)
end Go.Proofs.Ytgpeekmagckgcaa
