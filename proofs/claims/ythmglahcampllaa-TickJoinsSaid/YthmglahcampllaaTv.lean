/- What is proved here: Eval of package tick does what the plain reckoning does. Condition: the operations lie at a block's head. -/
import Derived.Test.YthmglahcampllaaTt
namespace Go.Proofs.Ythmglahcampllaa
open Go Go.RowKit
attribute [local go_sem] assert34

/-- The slice v reads as the operations os. -/
def Ops (v : Value) (os : List (Int × Int)) (w : World) : Prop :=
  (v = .slice none 0 0 ∧ os = []) ∨ ∃ g cap, v = .slice (some ⟨g, 0, none⟩) os.length cap ∧ g < w.heap.size ∧ os.length ≤ cap ∧ cap ≤ maxLen ∧
    ∀ i (h : i < os.length), w.cell? ⟨g, i * 2, none⟩ = some (.int .i64 (os[i]).1) ∧ w.cell? ⟨g, i * 2 + 1, none⟩ = some (.int .i64 (os[i]).2)

theorem Ops.kept {v : Value} {os : List (Int × Int)} {w w' : World} (h : Ops v os w) (hb : Below w.heap.size w w') : Ops v os w' := by
  rcases h with h | ⟨g, cap, hv, hg, h1, h2, hc⟩
  · exact .inl h
  · refine .inr ⟨g, cap, hv, Nat.lt_of_lt_of_le hg hb.size, h1, h2, fun i hi => ?_⟩
    rw [hb.cell (p := ⟨g, i * 2, none⟩) hg, hb.cell (p := ⟨g, i * 2 + 1, none⟩) hg]
    exact hc i hi

/-- What holds at the head of each round: k operations are done. -/
def EvRel (os : List (Int × Int)) (B : Nat) (W0 : World) (i : Value) (wr : World) : Prop :=
  ∃ (k : Nat) (st : List Int), i = .int .i64 k ∧ k ≤ os.length ∧ Pl.run (os.take k) [] = .ok st ∧ st.length ≤ k ∧ Pl.allTm st ∧ Pile B B st.reverse wr ∧ Below B W0 wr

theorem pile_len {B b : Nat} {xs : List Int} {w : World} (h : Pile B b xs w) : ∃ v, w.cell? ⟨b, 0, none⟩ = some v ∧ ((v = .slice none 0 0 ∧ xs = []) ∨ ∃ g cap, v = .slice (some g) xs.length cap) := by
  obtain ⟨v, hv, hBb, hvb, hown⟩ := h
  refine ⟨v, block_cell hv 0, ?_⟩
  rcases hown.2 with ⟨rfl, h0⟩ | ⟨g, cap, cur, rfl, _⟩
  · exact .inl ⟨rfl, List.eq_nil_of_length_eq_zero h0⟩
  · exact .inr ⟨_, _, rfl⟩

theorem caught_cells (w : World) (b B : Nat) (x y c : Int) (W : World) (h0 : w.cell? ⟨b, 0, none⟩ = some (.int .i64 x)) (h1 : w.cell? ⟨b + 1, 0, none⟩ = some (.int .i64 y)) (hb : Below B W w) (hB : B ≤ b) :
    (((w.setCell ⟨b, 0, none⟩ (.int .i64 0)).setCell ⟨b + 1, 0, none⟩ (.int .i64 2)).setCell ⟨b + 1, 0, none⟩ (.int .i64 c)).cell? ⟨b, 0, none⟩ = some (.int .i64 0) ∧
    (((w.setCell ⟨b, 0, none⟩ (.int .i64 0)).setCell ⟨b + 1, 0, none⟩ (.int .i64 2)).setCell ⟨b + 1, 0, none⟩ (.int .i64 c)).cell? ⟨b + 1, 0, none⟩ = some (.int .i64 c) ∧
    Below B W (((w.setCell ⟨b, 0, none⟩ (.int .i64 0)).setCell ⟨b + 1, 0, none⟩ (.int .i64 2)).setCell ⟨b + 1, 0, none⟩ (.int .i64 c)) := by
  refine ⟨?_, ?_, ((hb.setCell (by simpa using hB) _).setCell (by show B ≤ b + 1; omega) _).setCell (by show B ≤ b + 1; omega) _⟩
  · rw [World.cell?_setCell_other _ _ _ _ (by simp), World.cell?_setCell_other _ _ _ _ (by simp), World.cell?_setCell_same _ _ _ h0]
  · exact World.cell?_setCell_same _ _ _ (World.cell?_setCell_same _ _ _ (by rw [World.cell?_setCell_other _ _ _ _ (by simp)]; exact h1))

theorem nil_cells (w : World) (b B : Nat) (x y n : Int) (W : World) (h0 : w.cell? ⟨b, 0, none⟩ = some (.int .i64 x)) (h1 : w.cell? ⟨b + 1, 0, none⟩ = some (.int .i64 y)) (hb : Below B W w) (hB : B ≤ b) :
    (((w.setCell ⟨b, 0, none⟩ (.int .i64 n)).setCell ⟨b, 0, none⟩ (.int .i64 n)).setCell ⟨b + 1, 0, none⟩ (.int .i64 0)).cell? ⟨b, 0, none⟩ = some (.int .i64 n) ∧
    (((w.setCell ⟨b, 0, none⟩ (.int .i64 n)).setCell ⟨b, 0, none⟩ (.int .i64 n)).setCell ⟨b + 1, 0, none⟩ (.int .i64 0)).cell? ⟨b + 1, 0, none⟩ = some (.int .i64 0) ∧
    Below B W (((w.setCell ⟨b, 0, none⟩ (.int .i64 n)).setCell ⟨b, 0, none⟩ (.int .i64 n)).setCell ⟨b + 1, 0, none⟩ (.int .i64 0)) := by
  refine ⟨?_, ?_, ((hb.setCell (by simpa using hB) _).setCell (by simpa using hB) _).setCell (by show B ≤ b + 1; omega) _⟩
  · rw [World.cell?_setCell_other _ _ _ _ (by simp)]
    exact World.cell?_setCell_same _ _ _ (World.cell?_setCell_same _ _ _ h0)
  · exact World.cell?_setCell_same _ _ _ (by rw [World.cell?_setCell_other _ _ _ _ (by simp), World.cell?_setCell_other _ _ _ _ (by simp)]; exact h1)

theorem take_snoc {α : Type} (l : List α) (k : Nat) (h : k < l.length) : l.take (k + 1) = l.take k ++ [l[k]] := by
  rw [List.take_succ_eq_append_getElem h]

set_option maxRecDepth 20000 in
set_option maxHeartbeats 2000000 in
theorem eval_run (g cap : Nat) (os : List (Int × Int)) (w : World) (hlen : os.length ≤ 64) (hpos : 0 < os.length) (hg : g < w.heap.size) (_hcap : os.length ≤ cap) (_hmax : cap ≤ maxLen)
    (hc : ∀ i (h : i < os.length), w.cell? ⟨g, i * 2, none⟩ = some (.int .i64 (os[i]).1) ∧ w.cell? ⟨g, i * 2 + 1, none⟩ = some (.int .i64 (os[i]).2)) :
    Calls Try.prog 18 #[.slice (some ⟨g, 0, none⟩) os.length cap] w fun e w' => e = .returned (.tuple #[.int .i64 (Pl.eval os).1, .int .i64 (Pl.eval os).2]) ∧ Below w.heap.size w w' := by
  have hmf : ∀ (fn : Fn) (first cap : Array Value) (w : World), (Instr.makeFunc fn first cap).run Try.prog w = .ok (.func fn first cap) w := fun _ _ _ _ => rfl
  have HC := Lib.hid hc
  have hd : decide (64 < (os.length : Int)) = false := by simp; omega
  clear hc
  go_enter_defers Try.func18, Try.ntmps18
  go_wp2_with fail
  obtain ⟨W0, hW0⟩ : ∃ W0 : World, W0 = (((w.alloc (Obj.cells #[Value.int IntKind.i64 0] 3)).alloc (Obj.cells #[Value.int IntKind.i64 0] 34)).alloc (Obj.cells #[Value.slice none 0 0] 89)) := ⟨_, rfl⟩
  rw [← hW0]
  have hs0 : w.heap.size + 1 + 1 < W0.heap.size := by rw [hW0]; simp
  have hb0 : Below w.heap.size w W0 := by rw [hW0]; exact (((Below.refl _ _).alloc (Nat.le_refl _) _).alloc (by go_size) _).alloc (by go_size) _
  have hp0 : Pile (w.heap.size + 1 + 1) (w.heap.size + 1 + 1) [] W0 := by
    rw [hW0]
    exact ⟨.slice none 0 0, by show (((w.heap.push _).push _).push _)[w.heap.size + 1 + 1]? = _; rw [Array.getElem?_push, if_pos (by simp)], Nat.le_refl _, by simp [Value.ownBlock], by simp, .inl ⟨rfl, rfl⟩⟩
  have r0 : W0.cell? ⟨w.heap.size, 0, none⟩ = some (.int .i64 0) := by rw [hW0]; go_simp
  have r1 : W0.cell? ⟨w.heap.size + 1, 0, none⟩ = some (.int .i64 0) := by rw [hW0]; go_simp
  have f0 : W0.frozen? ⟨w.heap.size, 0, none⟩ = false := by rw [hW0]; go_simp
  have f1 : W0.frozen? ⟨w.heap.size + 1, 0, none⟩ = false := by rw [hW0]; go_simp
  clear hW0
  go_loopw [15] (fun i wr => EvRel os (w.heap.size + 1 + 1) W0 i wr) (fun i _ => os.length - (intOf i).toNat)
  case atStart => exact ⟨0, [], rfl, Nat.zero_le _, rfl, Nat.le_refl _, fun x hx => (by cases hx), hp0, Below.refl _ _⟩
  case round =>
    obtain ⟨k, st, rfl, hk, hrun, hst, htm, hp, hb⟩ := hrel
    have hs := hb.size
    by_cases hlt : k < os.length
    · have hcs := HC.out k hlt
      have c0 : wr.cell? ⟨g, k * 2, none⟩ = some (.int .i64 (os[k]).1) := ((hb0.trans (hb.mono (by omega))).cell (p := ⟨g, k * 2, none⟩) hg).trans hcs.1
      have c1 : wr.cell? ⟨g, k * 2 + 1, none⟩ = some (.int .i64 (os[k]).2) := ((hb0.trans (hb.mono (by omega))).cell (p := ⟨g, k * 2 + 1, none⟩) hg).trans hcs.2
      clear hcs
      have hstep := step_any (w.heap.size + 1 + 1) (w.heap.size + 1 + 1) st (os[k]).1 (os[k]).2 (wr.alloc (.cells #[.int .i64 (os[k]).1, .int .i64 (os[k]).2] 43)) (by simp; omega) (by omega) (hp.alloc _) htm
      have HS := Lib.hid hstep
      clear hstep
      go_wp2_with fail
      refine HS.out.mono ?_
      intro e w1 hq
      obtain ⟨hb1, hq⟩ := hq
      have hbb : Below (w.heap.size + 1 + 1) W0 w1 := (hb.alloc (by omega) _).trans hb1
      cases hst1 : Pl.step st (os[k]).1 (os[k]).2 with
      | ok st' =>
        rw [hst1] at hq
        obtain ⟨rfl, hp1⟩ := hq
        have hlen1 := Pl.step_len hst1
        have htm1 := Pl.step_tm htm hst1
        have hrun1 : Pl.run (os.take (k + 1)) [] = .ok st' := by
          rw [take_snoc os k hlt, Pl.run_snoc, hrun]
          exact hst1
        have HQ := Lib.hid hst1
        have HR := Lib.hid hrun1
        clear hst1 hrun1 hrun
        go_wp2
        go_roundw
        case rel => exact ⟨k + 1, st', by go_num, by omega, HR.out, by omega, htm1, hp1, hbb⟩
        case measure => simp [intOf]; omega
      | error c =>
        rw [hst1] at hq
        subst hq
        have q0 : w1.cell? ⟨w.heap.size, 0, none⟩ = some (.int .i64 0) := (hbb.cell (p := ⟨w.heap.size, 0, none⟩) (by go_size)).trans r0
        have q1 : w1.cell? ⟨w.heap.size + 1, 0, none⟩ = some (.int .i64 0) := (hbb.cell (p := ⟨w.heap.size + 1, 0, none⟩) (by go_size)).trans r1
        have k0 : w1.frozen? ⟨w.heap.size, 0, none⟩ = false := (hbb.frozen (p := ⟨w.heap.size, 0, none⟩) (by go_size)).trans f0
        have k1 : w1.frozen? ⟨w.heap.size + 1, 0, none⟩ = false := (hbb.frozen (p := ⟨w.heap.size + 1, 0, none⟩) (by go_size)).trans f1
        have hbw : Below w.heap.size w w1 := hb0.trans (hbb.mono (by omega))
        have hev : Pl.eval os = (0, c) := by
          have h1 : Pl.run (os.take (k + 1)) [] = .error c := by
            rw [take_snoc os k hlt, Pl.run_snoc, hrun]
            exact hst1
          have h2 := Pl.run_err _ (os.drop (k + 1)) c _ h1
          rw [List.take_append_drop] at h2
          unfold Pl.eval
          rw [if_neg (by omega), h2]
        go_big_unhide
        rw [hev]
        simp only [Exit.inBlock, Exit.then, bodyPostD]
        refine leaves_cons (f := 52) (args := #[.pointer (some ⟨w.heap.size, 0, none⟩), .pointer (some ⟨w.heap.size + 1, 0, none⟩)]) (by simp) (by simp [go_sem]) ?_
        refine (catch_err52 _ 0 0 c [] _ q0 q1 k0 k1).mono ?_
        rintro e u' w' ⟨rfl, rfl, hw'⟩
        obtain ⟨z0, z1, zb⟩ := caught_cells _ w.heap.size w.heap.size 0 0 c w q0 q1 hbw (Nat.le_refl _)
        rw [← hw'] at z0 z1 zb
        clear hw'
        have q2 := q0
        simp [Leaves, settle, results, Try.results18, go_sem, z0, z1]
        exact zb
    · have hkl : k = os.length := by omega
      subst hkl
      rw [List.take_length] at hrun
      have t0 : wr.cell? ⟨w.heap.size, 0, none⟩ = some (.int .i64 0) := (hb.cell (p := ⟨w.heap.size, 0, none⟩) (by go_size)).trans r0
      have t1 : wr.cell? ⟨w.heap.size + 1, 0, none⟩ = some (.int .i64 0) := (hb.cell (p := ⟨w.heap.size + 1, 0, none⟩) (by go_size)).trans r1
      have l0 : wr.frozen? ⟨w.heap.size, 0, none⟩ = false := (hb.frozen (p := ⟨w.heap.size, 0, none⟩) (by go_size)).trans f0
      have l1 : wr.frozen? ⟨w.heap.size + 1, 0, none⟩ = false := (hb.frozen (p := ⟨w.heap.size + 1, 0, none⟩) (by go_size)).trans f1
      have hbw : Below w.heap.size w wr := hb0.trans (hb.mono (by omega))
      have hev0 : Pl.eval os = match Pl.run os [] with | .ok [v] => (v, 0) | .ok _ => (0, 2) | .error c => (0, c) := by
        unfold Pl.eval
        rw [if_neg (by omega)]
        rfl
      rw [hrun] at hev0
      have HN := Lib.hid hrun
      clear hrun r0 r1 f0 f1
      cases st with
      | nil =>
        have hev : Pl.eval os = (0, 2) := hev0
        clear hev0
        have hpop := pop_empty _ _ _ hp
        have HP := Lib.hid hpop
        clear hpop
        go_wp2_with fail
        refine HP.out.mono ?_
        rintro e w1 ⟨rfl, rfl⟩
        go_big_unhide
        rw [hev]
        simp only [bodyPostD]
        refine leaves_cons (f := 52) (args := #[.pointer (some ⟨w.heap.size, 0, none⟩), .pointer (some ⟨w.heap.size + 1, 0, none⟩)]) (by simp) (by simp [go_sem]) ?_
        refine (catch_err52 _ 0 0 2 [] _ t0 t1 l0 l1).mono ?_
        rintro e u' w' ⟨rfl, rfl, hw'⟩
        obtain ⟨z0, z1, zb⟩ := caught_cells _ w.heap.size w.heap.size 0 0 2 w t0 t1 hbw (Nat.le_refl _)
        rw [← hw'] at z0 z1 zb
        clear hw'
        simp [Leaves, settle, results, Try.results18, go_sem, z0, z1]
        exact zb
      | cons n st =>
        have hpop := pop_ok _ _ st.reverse n wr (by simpa using hp) (by omega) (by simp; simp at hst; omega)
        have HP := Lib.hid hpop
        clear hpop
        go_wp2_with fail
        refine HP.out.mono ?_
        rintro e w1 ⟨rfl, hp1, hb1, _⟩
        have t0' : w1.cell? ⟨w.heap.size, 0, none⟩ = some (.int .i64 0) := (hb1.cell (p := ⟨w.heap.size, 0, none⟩) (by go_size)).trans t0
        have t1' : w1.cell? ⟨w.heap.size + 1, 0, none⟩ = some (.int .i64 0) := (hb1.cell (p := ⟨w.heap.size + 1, 0, none⟩) (by go_size)).trans t1
        have l0' : w1.frozen? ⟨w.heap.size, 0, none⟩ = false := (hb1.frozen (p := ⟨w.heap.size, 0, none⟩) (by go_size)).trans l0
        have l1' : w1.frozen? ⟨w.heap.size + 1, 0, none⟩ = false := (hb1.frozen (p := ⟨w.heap.size + 1, 0, none⟩) (by go_size)).trans l1
        have hbw1 : Below w.heap.size w w1 := hbw.trans (hb1.mono (by omega))
        clear hbw hb hb1 hb0 t0 t1 l0 l1
        obtain ⟨v, hv, hcase⟩ := pile_len hp1
        cases st with
        | nil =>
          have hev : Pl.eval os = (n, 0) := hev0
          clear hev0
          rcases hcase with ⟨rfl, _⟩ | ⟨g', cap', rfl⟩
          all_goals
            go_wp2
            try go_big_unhide
            rw [hev]
            simp only [bodyPostD]
            refine leaves_cons (f := 52) (args := #[.pointer (some ⟨w.heap.size, 0, none⟩), .pointer (some ⟨w.heap.size + 1, 0, none⟩)]) (by simp) (by simp [go_sem]) ?_
            refine (catch_nil52 _ _ _).mono ?_
            rintro e u' w' ⟨rfl, rfl, hw'⟩
            obtain ⟨z0, z1, zb⟩ := nil_cells _ w.heap.size w.heap.size 0 0 n w t0' t1' hbw1 (Nat.le_refl _)
            rw [← hw'] at z0 z1 zb
            clear hw'
            simp [Leaves, settle, results, Try.results18, go_sem, z0, z1]
            exact zb
        | cons m st =>
          have hev : Pl.eval os = (0, 2) := hev0
          clear hev0
          rcases hcase with ⟨rfl, h0⟩ | ⟨g', cap', rfl⟩
          · simp at h0
          have hdl : decide (0 < (((m :: st).reverse.length : Nat) : Int)) = true := by simp
          go_wp2
          try go_big_unhide
          rw [hev]
          simp only [bodyPostD]
          refine leaves_cons (f := 52) (args := #[.pointer (some ⟨w.heap.size, 0, none⟩), .pointer (some ⟨w.heap.size + 1, 0, none⟩)]) (by simp) (by simp [go_sem]) ?_
          have u0 : (w1.setCell ⟨w.heap.size, 0, none⟩ (.int .i64 n)).cell? ⟨w.heap.size, 0, none⟩ = some (.int .i64 n) := World.cell?_setCell_same _ _ _ t0'
          have u1 : (w1.setCell ⟨w.heap.size, 0, none⟩ (.int .i64 n)).cell? ⟨w.heap.size + 1, 0, none⟩ = some (.int .i64 0) := by rw [World.cell?_setCell_other _ _ _ _ (by simp)]; exact t1'
          have hbw2 : Below w.heap.size w (w1.setCell ⟨w.heap.size, 0, none⟩ (.int .i64 n)) := hbw1.setCell (Nat.le_refl _) _
          refine (catch_err52 _ n 0 2 [] _ u0 u1 (by simp [go_sem, l0']) (by simp [go_sem, l1'])).mono ?_
          rintro e u' w' ⟨rfl, rfl, hw'⟩
          obtain ⟨z0, z1, zb⟩ := caught_cells _ w.heap.size w.heap.size n 0 2 w u0 u1 hbw2 (Nat.le_refl _)
          rw [← hw'] at z0 z1 zb
          clear hw'
          simp [Leaves, settle, results, Try.results18, go_sem, z0, z1]
          exact zb
end Go.Proofs.Ythmglahcampllaa
