/- What is proved here: a clock, played, and its estimate. Condition: none. -/
import Derived.Test.YtgpeekmagckgcaaPh
import Derived.Test.YtgpeekmagckgcaaD9
import Derived.Test.YtgpeekmagckgcaaK7
import Derived.RegionTactic
import Derived.BigRegion
import Derived.RegionCalls
import Derived.Deep.RegionWith
import Derived.Deep.DrawnRows
namespace Go.Proofs.Ytgpeekmagckgcaa
open Go Go.RowKit
attribute [local go_sem] KW.cell KW.frozen
attribute [local go_sem ↓] eql24 eql23 Go.wp_at_zero Go.wp_at_succ

/-- The estimate's cells. -/
def ec (k : Bool) (a b z : Int) : Array Value := #[.bool k, .int .i64 a, .int .i64 b, .int .i64 z]
/-- The clock and two estimates of the law's own. -/
structure PW (W w : World) (p g cap : Nat) (real m : Int) (l : List Pl.Cl) (X R : Nat) (k : Bool) (a b z : Int) : Prop where
  cw : CW W w p g cap real m l
  hx : w.heap[X]? = some (.cells (ec k a b z) 73 (0, 0))
  hr : w.heap[R]? = some (.cells (ec false 0 0 0) 73 (0, 0))
  ne : X ≠ R
  bx : W.heap.size ≤ X
  br : W.heap.size ≤ R
section
variable {W w : World} {p g cap : Nat} {real m : Int} {l : List Pl.Cl} {X R : Nat} {k : Bool} {a b z : Int}
theorem blk_ne {w : World} {g g' t t' : Nat} {cs cs' : Array Value} (h : w.heap[g]? = some (.cells cs t (0, 0))) (h' : w.heap[g']? = some (.cells cs' t' (0, 0))) (hne : t ≠ t') : g ≠ g' := by
  rintro rfl
  rw [h] at h'
  injection h' with h'
  injection h' with _ ht
  exact hne ht
theorem PW.kept {w' : World} (h : PW W w p g cap real m l X R k a b z) (hb : Below w.heap.size w w') : PW W w' p g cap real m l X R k a b z :=
  ⟨h.cw.kept hb, (hb.block X (block_lt h.hx)).trans h.hx, (hb.block R (block_lt h.hr)).trans h.hr, h.ne, h.bx, h.br⟩
theorem PW.mod {w' : World} {real' : Int} {l' : List Pl.Cl} (h : PW W w p g cap real m l X R k a b z) (hm : Mod w w' p g) (hc : CW W w' p g cap real' m l') : PW W w' p g cap real' m l' X R k a b z := by
  obtain ⟨cur, hg, _⟩ := own_block h.cw.ck.own
  have hp := h.cw.ck.at_
  exact ⟨hc, (hm.block X (block_lt h.hx) (blk_ne h.hx hp (by decide)) (blk_ne h.hx hg (by decide))).trans h.hx, (hm.block R (block_lt h.hr) (blk_ne h.hr hp (by decide)) (blk_ne h.hr hg (by decide))).trans h.hr, h.ne, h.bx, h.br⟩
theorem real_p (h : PW W w p g cap real m l X R k a b z) : Calls Try.prog 33 #[.pointer (some ⟨p, 0, none⟩)] w fun e w' => e = .returned (.int .i64 real) ∧ w = w' := real_c h.cw.ck
theorem read_p (i : Int) (h : PW W w p g cap real m l X R k a b z) : Calls Try.prog 31 #[.pointer (some ⟨p, 0, none⟩), .int .i64 i] w fun e w' => e = .returned (.int .i64 (Pl.readAt real l i)) ∧ PW W w' p g cap real m l X R k a b z :=
  (read_c i h.cw.ck h.cw.ok).mono fun _ _ ⟨he, hb⟩ => ⟨he, h.kept hb⟩
theorem rate_p (i r : Int) (h : PW W w p g cap real m l X R k a b z) : Calls Try.prog 29 #[.pointer (some ⟨p, 0, none⟩), .int .i64 i, .int .i64 r] w fun e w' => (∃ v, e = .returned (.int .i64 v)) ∧ PW W w' p g cap real m (Pl.rated l m i r) X R k a b z :=
  (rate_c i r h.cw.ck h.cw.ok).mono fun _ _ ⟨he, hc, hm⟩ => ⟨⟨_, he⟩, h.mod hm ⟨hc, hm.below h.cw.ck.hp h.cw.ck.hg.1 h.cw.bl h.cw.bl.size, h.cw.ok.rate i r⟩⟩
theorem tick_p (n : Int) (h : PW W w p g cap real m l X R k a b z) : Calls Try.prog 27 #[.pointer (some ⟨p, 0, none⟩), .int .i64 n] w fun e w' => e = .returned (.tuple #[]) ∧ PW W w' p g cap (real + Pl.step real n) m (Pl.ticked (Pl.step real n) l) X R k a b z :=
  (tick_c n h.cw.ck h.cw.ok).mono fun _ _ ⟨he, hc, hm⟩ => ⟨he, h.mod hm ⟨hc, hm.below h.cw.ck.hp h.cw.ck.hg.1 h.cw.bl h.cw.bl.size, h.cw.ok.tick⟩⟩
theorem PW.cells (h : PW W w p g cap real m l X R k a b z) : w.cell? ⟨X, 0, none⟩ = some (.bool k) ∧ w.cell? ⟨X, 1, none⟩ = some (.int .i64 a) ∧ w.cell? ⟨X, 2, none⟩ = some (.int .i64 b) ∧ w.cell? ⟨X, 3, none⟩ = some (.int .i64 z) :=
  ⟨block_cell h.hx 0, block_cell h.hx 1, block_cell h.hx 2, block_cell h.hx 3⟩
theorem PW.free (h : PW W w p g cap real m l X R k a b z) (i : Nat) : w.frozen? ⟨X, i, none⟩ = false := block_free h.hx i
end
theorem rd_one' (n : Int) (w : World) (o : Obj) : RdI (.slice (some ⟨w.heap.size + 1, 0, none⟩) 1 1) [n] ((w.alloc o).alloc (.cells #[.int .i64 n] 3)) := by
  have h := rd_one n (w.alloc o)
  have e : (w.alloc o).heap.size = w.heap.size + 1 := by simp
  rwa [e] at h
theorem new_n' {w : World} (v : Value) (xs : List Int) (most : Int) (h : RdI v xs w) (hn : Pl.newB xs most = false) :
    Calls Try.prog 24 #[v, .int .i64 most] w fun e w' => e = .returned (.tuple #[.pointer none, .int .i64 2]) ∧ Below w.heap.size w w' :=
  (new_c v xs most 0 w (Nat.zero_le _) h).mono fun _ _ hp => ⟨(hp.none_ hn).2, (hp.none_ hn).1⟩
theorem ec_of {w w1 : World} {o : Obj} (hb : Below ((w.alloc (.cells (ec false 0 0 0) 73)).alloc o).heap.size ((w.alloc (.cells (ec false 0 0 0) 73)).alloc o) w1) : w1.heap[w.heap.size]? = some (.cells (ec false 0 0 0) 73 (0, 0)) := by
  rw [hb.block w.heap.size (by simp; omega)]
  exact (Below.heap_alloc _ _ w.heap.size (by simp)).trans (heap_alloc_new w _)
set_option maxRecDepth 100000 in
/-- What played answers where there is no clock. -/
theorem played_no (start m : Int) (v2 : Value) (W : World) (hn : Pl.newB [start] m = false) :
    Calls Try.prog 66 #[.int .i64 start, .int .i64 m, v2] W fun e w' => e = .returned (.tuple #[.pointer none, .agg (ec false 0 0 0), .bool true]) ∧ Below W.heap.size W w' := by
  have hb0 : Below W.heap.size W (W.alloc (.cells (ec false 0 0 0) 73)) := (Below.refl _ _).alloc (Nat.le_refl _) _
  have hb1 := Lib.hid (hb0.alloc (by simp) (.cells #[.int .i64 start] 3))
  have HN := Lib.hid (new_n' _ [start] m (rd_one' start W (.cells (ec false 0 0 0) 73)) hn)
  have EC := Lib.hid (fun (w1 : World) (o : Obj) h => ec_of (w := W) (w1 := w1) (o := o) h)
  unfold ec at HN EC hb1
  unfold ec
  clear hn hb0
  go_enter Try.func66, Try.ntmps66
  go_wp2_with fail
  refine HN.out.mono ?_
  rintro e w1 ⟨rfl, hb⟩
  have hbW : Below W.heap.size W w1 := hb1.out.trans (hb.mono (by simp; omega))
  have he := EC.out _ _ hb
  have hs := block_lt he
  have c0 := block_cell he 0
  have c1 := block_cell he 1
  have c2 := block_cell he 2
  have c3 := block_cell he 3
  have f0 := block_free he 0
  have f1 := block_free he 1
  have f2 := block_free he 2
  have f3 := block_free he 3
  simp at c0 c1 c2 c3
  clear he hb HN EC
  go_wp2_with fail
  refine bodyPost_ret (v := .tuple #[.pointer none, .agg #[.bool false, .int .i64 0, .int .i64 0, .int .i64 0], .bool true]) (by simp [results, Try.results66, go_sem, c0, c1, c2, c3]) rfl ⟨rfl, ?_⟩
  exact (((hbW.setCell (Nat.le_refl _) _).setCell (Nat.le_refl _) _).setCell (Nat.le_refl _) _).setCell (Nat.le_refl _) _

theorem PW.store {W w : World} {p g cap : Nat} {real m : Int} {l : List Pl.Cl} {X R : Nat} {k : Bool} {a b z : Int} (h : PW W w p g cap real m l X R k a b z) (k' : Bool) (a' b' z' : Int) :
    PW W ((((w.setCell ⟨X, 0, none⟩ (.bool k')).setCell ⟨X, 1, none⟩ (.int .i64 a')).setCell ⟨X, 2, none⟩ (.int .i64 b')).setCell ⟨X, 3, none⟩ (.int .i64 z')) p g cap real m l X R k' a' b' z' := by
  obtain ⟨cur, hg, _⟩ := own_block h.cw.ck.own
  have np := blk_ne h.cw.ck.at_ h.hx (by decide)
  have ng := blk_ne hg h.hx (by decide)
  have far : ∀ i, i ≠ X → ((((w.setCell ⟨X, 0, none⟩ (.bool k')).setCell ⟨X, 1, none⟩ (.int .i64 a')).setCell ⟨X, 2, none⟩ (.int .i64 b')).setCell ⟨X, 3, none⟩ (.int .i64 z')).heap[i]? = w.heap[i]? := by
    intro i hi
    rw [Below.heap_setCell _ _ _ i hi, Below.heap_setCell _ _ _ i hi, Below.heap_setCell _ _ _ i hi, Below.heap_setCell _ _ _ i hi]
  refine ⟨⟨h.cw.ck.far (far p np) (far g ng), (((h.cw.bl.setCell h.bx _).setCell h.bx _).setCell h.bx _).setCell h.bx _, h.cw.ok⟩, ?_, (far R (Ne.symm h.ne)).trans h.hr, h.ne, h.bx, h.br⟩
  have h0 := h.hx
  simp only [World.setCell, Array.getElem?_modify, h0]
  simp [ec]
theorem smeet_k (k : Bool) (a b z t1 t2 t4 m : Int) (w : World) (hz : k = true → 0 ≤ z ∧ z ≤ 1099511627776) :
    Calls Try.prog 54 #[.agg #[.bool k, .int .i64 a, .int .i64 b, .int .i64 z], .int .i64 t1, .int .i64 t2, .int .i64 t4, .int .i64 m] w fun e w' => e = .returned (.tuple #[est (Pl.sm k a b z t1 t2 t4 m).1, .int .i64 (Pl.sm k a b z t1 t2 t4 m).2]) ∧ Below w.heap.size w w' := by
  cases k with
  | true => exact smeet_c true a b z t1 t2 t4 m w ⟨by have := hz rfl; omega, by have := hz rfl; omega⟩
  | false =>
    by_cases hb : Pl.bad false z t1 t2 t4
    · have hr : Pl.sm false a b z t1 t2 t4 m = ((false, a, b, z), 2) := by unfold Pl.sm; rw [if_pos hb]
      rw [hr]
      unfold Pl.bad at hb
      by_cases g0 : t1 < 0
      · exact smeet_bad0 false a b z t1 t2 t4 m w g0
      by_cases g1 : t4 < t1
      · exact smeet_bad1 false a b z t1 t2 t4 m w g0 g1
      by_cases g2 : 1099511627776 < t4
      · exact smeet_bad2 false a b z t1 t2 t4 m w g0 g1 g2
      by_cases g3 : t2 < -1125899906842624
      · exact smeet_bad3 false a b z t1 t2 t4 m w g0 g1 g2 g3
      by_cases g4 : 1125899906842624 < t2
      · exact smeet_bad4 false a b z t1 t2 t4 m w g0 g1 g2 g3 g4
      simp [g0, g1, g2, g3, g4] at hb
    · have hb' := hb
      unfold Pl.bad at hb'
      have g0 : ¬ t1 < 0 := fun h => hb' (by simp [h])
      have g1 : ¬ t4 < t1 := fun h => hb' (by simp [h])
      have g2 : ¬ 1099511627776 < t4 := fun h => hb' (by simp [h])
      have g3 : ¬ t2 < -1125899906842624 := fun h => hb' (by simp [h])
      have g4 : ¬ 1125899906842624 < t2 := fun h => hb' (by simp [h])
      cases he : Pl.emp (Pl.nlo false a b z t1 t2 t4 m) (Pl.nhi false a b z t1 t2 t4 m) with
      | true =>
        have hr : Pl.sm false a b z t1 t2 t4 m = ((false, a, b, z), 16) := by unfold Pl.sm; rw [if_neg hb, if_pos he]
        rw [hr]
        rw [Pl.nlo_f, Pl.nhi_f] at he
        exact smeet_ok01 a b z t1 t2 t4 m w g0 g1 g2 g3 g4 he
      | false =>
        have hr : Pl.sm false a b z t1 t2 t4 m = ((true, Pl.nlo false a b z t1 t2 t4 m, Pl.nhi false a b z t1 t2 t4 m, t4), 0) := by unfold Pl.sm; rw [if_neg hb, if_neg (by rw [he]; simp)]
        rw [hr]
        rw [Pl.nlo_f, Pl.nhi_f] at he ⊢
        exact smeet_ok00 a b z t1 t2 t4 m w g0 g1 g2 g3 g4 he
theorem PW.drew {W w : World} {p g cap : Nat} {real m : Int} {l : List Pl.Cl} {X R : Nat} {k : Bool} {a b z : Int} (h : PW W w p g cap real m l X R k a b z) : PW W w.drew p g cap real m l X R k a b z :=
  ⟨h.cw.drewN 1, h.hx, h.hr, h.ne, h.bx, h.br⟩
theorem PW.facts {W w : World} {p g cap : Nat} {real m : Int} {l : List Pl.Cl} {X R : Nat} {k : Bool} {a b z : Int} (h : PW W w p g cap real m l X R k a b z) :
    w.cell? ⟨X, 0, none⟩ = some (.bool k) ∧ w.cell? ⟨X, 1, none⟩ = some (.int .i64 a) ∧ w.cell? ⟨X, 2, none⟩ = some (.int .i64 b) ∧ w.cell? ⟨X, 3, none⟩ = some (.int .i64 z) ∧
    w.frozen? ⟨X, 0, none⟩ = false ∧ w.frozen? ⟨X, 1, none⟩ = false ∧ w.frozen? ⟨X, 2, none⟩ = false ∧ w.frozen? ⟨X, 3, none⟩ = false ∧ X < w.heap.size :=
  ⟨h.cells.1, h.cells.2.1, h.cells.2.2.1, h.cells.2.2.2, h.free 0, h.free 1, h.free 2, h.free 3, block_lt h.hx⟩
theorem PW.ret {W w : World} {p g cap : Nat} {real m : Int} {l : List Pl.Cl} {X R : Nat} {k : Bool} {a b z : Int} (h : PW W w p g cap real m l X R k a b z) (k' : Bool) (a' b' z' : Int) :
    CW W (((((w.setCell ⟨R, 0, none⟩ (.bool k')).setCell ⟨R, 1, none⟩ (.int .i64 a')).setCell ⟨R, 2, none⟩ (.int .i64 b')).setCell ⟨R, 3, none⟩ (.int .i64 z')).drew) p g cap real m l := by
  obtain ⟨cur, hg, _⟩ := own_block h.cw.ck.own
  have np := blk_ne h.cw.ck.at_ h.hr (by decide)
  have ng := blk_ne hg h.hr (by decide)
  have far : ∀ i, i ≠ R → (((((w.setCell ⟨R, 0, none⟩ (.bool k')).setCell ⟨R, 1, none⟩ (.int .i64 a')).setCell ⟨R, 2, none⟩ (.int .i64 b')).setCell ⟨R, 3, none⟩ (.int .i64 z')).drew).heap[i]? = w.heap[i]? := by
    intro i hi
    show ((((w.setCell ⟨R, 0, none⟩ (.bool k')).setCell ⟨R, 1, none⟩ (.int .i64 a')).setCell ⟨R, 2, none⟩ (.int .i64 b')).setCell ⟨R, 3, none⟩ (.int .i64 z')).heap[i]? = _
    rw [Below.heap_setCell _ _ _ i hi, Below.heap_setCell _ _ _ i hi, Below.heap_setCell _ _ _ i hi, Below.heap_setCell _ _ _ i hi]
  exact ⟨h.cw.ck.far (far p np) (far g ng), ((((h.cw.bl.setCell h.br _).setCell h.br _).setCell h.br _).setCell h.br _).drew, h.cw.ok⟩
set_option maxRecDepth 100000 in
set_option maxHeartbeats 4000000 in
theorem played_yes (start m : Int) (ao : Option Addr) (c : Nat) (ds : List (Int × Int × Int)) (W : World) (h2 : RdD (.slice ao ds.length c) ds W) (_hlen : ds.length ≤ 9223372036854775807) (hn : Pl.newB [start] m = true) :
    Calls Try.prog 66 #[.int .i64 start, .int .i64 m, .slice ao ds.length c] W fun e w' => ∃ p g cap real l k a b z, e = .returned (.tuple #[.pointer (some ⟨p, 0, none⟩), .agg (ec k a b z), .bool true]) ∧ CW W w' p g cap real m l ∧ l.length = 1 ∧ Pl.Holds real l m k a b z := by
  have hb0 : Below W.heap.size W (W.alloc (.cells (ec false 0 0 0) 73)) := (Below.refl _ _).alloc (Nat.le_refl _) _
  have HN := Lib.hid (new_w _ [start] m (rd_one' start W _) (hb0.alloc (by simp) (.cells #[.int .i64 start] 3)) hn)
  have H2 := Lib.hid h2
  have PW1 : ∀ w1 p g cap, CW W w1 p g cap 0 m (Pl.fresh [start]) → Below ((W.alloc (.cells (ec false 0 0 0) 73)).alloc (.cells #[.int .i64 start] 3)).heap.size ((W.alloc (.cells (ec false 0 0 0) 73)).alloc (.cells #[.int .i64 start] 3)) w1 → PW W (w1.alloc (.cells (ec false 0 0 0) 73)) p g cap 0 m (Pl.fresh [start]) w1.heap.size W.heap.size false 0 0 0 := by
    intro w1 p g cap hc hb
    have hs := hc.bl.size
    have hR : w1.heap[W.heap.size]? = some (.cells (ec false 0 0 0) 73 (0, 0)) := by
      rw [hb.block W.heap.size (by simp; omega)]
      exact (Below.heap_alloc _ _ W.heap.size (by simp)).trans (heap_alloc_new W _)
    have hlt := block_lt hR
    have hbw : Below w1.heap.size w1 (w1.alloc (.cells (ec false 0 0 0) 73)) := (Below.refl _ _).alloc (Nat.le_refl _) _
    exact ⟨hc.kept hbw, heap_alloc_new w1 _, (hbw.block _ hlt).trans hR, by omega, by omega, Nat.le_refl _⟩
  have P1 := Lib.hid PW1
  clear h2 hn hb0 PW1
  unfold ec at HN P1
  go_enter Try.func66, Try.ntmps66
  go_wp2_with fail
  refine HN.out.mono ?_
  rintro e w1 ⟨p, g, cap, rfl, hc, _, _, hb⟩
  have hp := Lib.hid (P1.out w1 p g cap hc hb)
  clear HN P1 hb hc
  go_wp2_with fail
  go_loopw [12] (fun i wr => ∃ (n : Nat) (real : Int) (l : List Pl.Cl) (k : Bool) (a b z : Int), i = .int .i64 n ∧ n ≤ ds.length ∧ l.length = 1 ∧ Pl.Holds real l m k a b z ∧ PW W wr p g cap real m l w1.heap.size W.heap.size k a b z) (fun i _ => ds.length - (intOf i).toNat)
  case atStart => exact ⟨0, 0, _, false, 0, 0, 0, rfl, Nat.zero_le _, rfl, Pl.Holds.no _ _ _ _ _ _, hp.out⟩
  case round =>
    clear hp
    obtain ⟨n, real, l, k, a, b, z, rfl, hn, hl1, hH, hp⟩ := hrel
    by_cases hlt : n < ds.length ∧ n < 30
    · obtain ⟨hlt, h30⟩ := hlt
      have hd : decide ((n : Int) < (ds.length : Int)) = true := by simp; omega
      have hd2 : decide ((n : Int) < 30) = true := by simp; omega
      obtain ⟨ad, rfl, hab, e0, e1, e2⟩ := (H2.out.kept hp.cw.bl).at_ n hlt
      have hRD := Lib.hid (fun (w' : World) (hb : Below W.heap.size W w') => (H2.out.kept hb).at_ n hlt)
      generalize (ds[n]).1 = kd at *
      generalize (ds[n]).2.1 = N at *
      generalize (ds[n]).2.2 = M at *
      have ok := hp.cw.ok
      by_cases k0 : kd = 0 ∨ kd = 1
      · have T := Lib.hid (tick_p N hp)
        have HT := Lib.hid (hH.tick ok N)
        have HL := Lib.hid (show (Pl.ticked (Pl.step real N) l).length = 1 by rw [Pl.ticked_len]; exact hl1)
        generalize real + Pl.step real N = R' at *
        generalize Pl.ticked (Pl.step real N) l = L' at *
        clear hH ok hRD hl1
        rcases k0 with rfl | rfl
        all_goals
          go_wp2_with (go_at_call 27; refine T.out.mono ?_; rintro e w3 ⟨rfl, hp3⟩; clear hp)
          go_roundw
          case rel => exact ⟨n + 1, _, _, _, _, _, _, by go_num, by omega, HL.out, HT.out, hp3⟩
          case measure => simp [intOf]; omega
      by_cases k2 : kd = 2
      · subst k2
        have T := Lib.hid (rate_p 0 N hp)
        have HT := Lib.hid (hH.rate 0 N)
        have HL := Lib.hid (show (Pl.rated l m 0 N).length = 1 by rw [Pl.rated_len]; exact hl1)
        generalize Pl.rated l m 0 N = L' at *
        clear hH ok hRD hl1 k0
        go_wp2_with (go_at_call 29; refine T.out.mono ?_; rintro e w3 ⟨⟨_, rfl⟩, hp3⟩; clear hp)
        go_roundw
        case rel => exact ⟨n + 1, _, _, _, _, _, _, by go_num, by omega, HL.out, HT.out, hp3⟩
        case measure => simp [intOf]; omega
      by_cases k3 : kd = 3 ∨ kd = 4
      · obtain ⟨lo, hi, hsm, hHH⟩ := hH.meet ok hl1 N M rfl rfl rfl rfl
        have TN := Lib.hid (fun w (h : PW W w p g cap real m l w1.heap.size W.heap.size k a b z) => tick_p N h)
        have HL1 : (Pl.ticked (Pl.step real N) l).length = 1 := by rw [Pl.ticked_len]; exact hl1
        generalize real + Pl.step real N = R1 at *
        generalize Pl.ticked (Pl.step real N) l = L1 at *
        have TM := Lib.hid (fun w (h : PW W w p g cap R1 m L1 w1.heap.size W.heap.size k a b z) => tick_p M h)
        have HL := Lib.hid (show (Pl.ticked (Pl.step R1 M) L1).length = 1 by rw [Pl.ticked_len]; exact HL1)
        generalize R1 + Pl.step R1 M = R2 at *
        generalize Pl.ticked (Pl.step R1 M) L1 = L2 at *
        have hzz : k = true → 0 ≤ z ∧ z ≤ 1099511627776 := fun hk => by subst hk; have h1 := (hH.on ok).2; have := ok.r1; omega
        have SM : Hid (∀ w : World, Calls Try.prog 54 #[.agg #[.bool k, .int .i64 a, .int .i64 b, .int .i64 z], .int .i64 real, .int .i64 (Pl.readAt R1 L1 0), .int .i64 R2, .int .i64 m] w fun e w' => e = .returned (.tuple #[.agg #[.bool true, .int .i64 lo, .int .i64 hi, .int .i64 R2], .int .i64 0]) ∧ Below w.heap.size w w') := Lib.hid (fun w => by
          have h := smeet_k k a b z real (Pl.readAt R1 L1 0) R2 m w hzz
          rw [hsm] at h
          exact h)
        have HT := Lib.hid hHH
        clear hsm hHH hzz hH ok hl1 HL1 k0 k2

        rcases k3 with rfl | rfl
        all_goals
          go_wp2_with fail
          refine (real_p hp).mono ?_
          rintro e w2 ⟨rfl, rfl⟩
          go_wp2_with fail
          refine (TN.out _ hp).mono ?_
          rintro e w3 ⟨rfl, hp3⟩
          clear hp e0 e1 e2
          go_wp2_with fail
          refine (read_p 0 hp3).mono ?_
          rintro e w4 ⟨rfl, hp4⟩
          clear hp3
          obtain ⟨ad', had, _, e0, e1, e2⟩ := hRD.out _ hp4.cw.bl
          injection had with had
          subst had
          go_wp2_with fail
          refine (TM.out _ hp4).mono ?_
          rintro e w5 ⟨rfl, hp⟩
          clear hp4 e0 e1 e2
          have zX := block_lt hp.hx
          obtain ⟨x0, x1, x2, x3⟩ := hp.cells
          have y0 := hp.free 0
          have y1 := hp.free 1
          have y2 := hp.free 2
          have y3 := hp.free 3
          go_wp2_with fail
          have hp6 := hp.drew
          clear hp x0 x1 x2 x3 y0 y1 y2 y3 zX
          have hp := hp6
          clear hp6
          have zX := block_lt hp.hx
          obtain ⟨x0, x1, x2, x3⟩ := hp.cells
          have y0 := hp.free 0
          have y1 := hp.free 1
          have y2 := hp.free 2
          have y3 := hp.free 3
          have FX := Lib.hid (fun w6 (hb6 : Below w5.drew.heap.size w5.drew w6) => (hp.kept hb6).facts)
          have FP := Lib.hid (fun w6 (hb6 : Below w5.drew.heap.size w5.drew w6) => hp.kept hb6)
          go_region_with (first | (go_at_call 33; refine (real_p hp).mono ?_; rintro e w7 ⟨rfl, rfl⟩) | (go_at_call 54; refine (SM.out _).mono ?_; rintro e w6 ⟨rfl, hb6⟩; obtain ⟨p0, p1, p2, p3, q0, q1, q2, q3, zY⟩ := FX.out _ hb6))
          all_goals
            have hp8 := FP.out _ hb6
            clear hb6 FX FP hp x0 x1 x2 x3 y0 y1 y2 y3 zX p0 p1 p2 p3 q0 q1 q2 q3 zY
            go_wp2_with fail
            go_roundw
            case rel => exact ⟨n + 1, _, _, _, _, _, _, by go_num, by omega, HL.out, HT.out, hp8.store true lo hi _⟩
            case measure => simp [intOf]; omega
      have j0 : (kd == 0) = false := by simp; omega
      have j1 : (kd == 1) = false := by simp; omega
      have j2 : (kd == 2) = false := by simp; omega
      have j3 : (kd == 3) = false := by simp; omega
      have j4 : (kd == 4) = false := by simp; omega
      have HT := Lib.hid hH
      clear hH ok hRD k0 k2 k3
      go_wp2_with fail
      go_roundw
      case rel => exact ⟨n + 1, _, _, _, _, _, _, by go_num, by omega, hl1, HT.out, hp⟩
      case measure => simp [intOf]; omega
    · have hex : ¬ (n : Int) < (ds.length : Int) ∨ ((n : Int) < (ds.length : Int) ∧ ¬ (n : Int) < 30) := by omega
      have HT := Lib.hid hH
      clear hlt hH
      have zX := block_lt hp.hx
      obtain ⟨x0, x1, x2, x3⟩ := hp.cells
      have y0 := hp.free 0
      have y1 := hp.free 1
      have y2 := hp.free 2
      have y3 := hp.free 3
      have hr := hp.hr
      have hx := hp.hx
      have z0 := block_cell hr 0
      have z1 := block_cell hr 1
      have z2 := block_cell hr 2
      have z3 := block_cell hr 3
      have v0 := block_free hr 0
      have v1 := block_free hr 1
      have v2 := block_free hr 2
      have v3 := block_free hr 3
      have ne1 : ¬ w1.heap.size = W.heap.size := hp.ne
      have ne2 : ¬ W.heap.size = w1.heap.size := Ne.symm hp.ne
      simp [ec] at z0 z1 z2 z3
      clear hr hx
      rcases hex with hd | ⟨hd, hd2⟩
      all_goals
        go_wp2_with fail
        go_region
        all_goals
          go_wp2_with fail
          refine bodyPost_ret (v := .tuple #[.pointer (some ⟨p, 0, none⟩), .agg #[.bool k, .int .i64 a, .int .i64 b, .int .i64 z], .bool true]) (by simp [results, Try.results66, go_sem, z0, z1, z2, z3]) rfl ?_
          exact ⟨p, g, cap, real, l, k, a, b, z, rfl, hp.ret k a b z, hl1, HT.out⟩
end Go.Proofs.Ytgpeekmagckgcaa
