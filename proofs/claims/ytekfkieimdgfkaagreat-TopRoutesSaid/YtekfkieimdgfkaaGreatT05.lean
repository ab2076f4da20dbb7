/- What is proved here: which packets may be. Condition: none. -/
import Derived.Test.YtekfkieimdgfkaaGreatT02
namespace Go.Proofs.YtekfkieimdgfkaaGreat
open Go Go.RowKit
attribute [local go_sem] KW.cell KW.frozen
def pkAt (p : Pk) : Nat → Int
  | 0 => p.1
  | 1 => p.2.1
  | 2 => p.2.2.1
  | _ => p.2.2.2
theorem pk_right {p : Pk} (h : ∀ k, k < 4 → 0 ≤ pkAt p k ∧ pkAt p k ≤ topF (k : Int)) : RightF p := by
  have h0 := h 0 (by omega)
  have h1 := h 1 (by omega)
  have h2 := h 2 (by omega)
  have h3 := h 3 (by omega)
  simp [pkAt, topF] at h0 h1 h2 h3
  exact ⟨h0, h1, h2, h3⟩
set_option maxRecDepth 100000 in
set_option maxHeartbeats 2000000 in
theorem pright_c (p0 p1 p2 p3 : Int) (w : World) : Calls Tryz.prog 6 #[.agg #[.int .i64 p0, .int .i64 p1, .int .i64 p2, .int .i64 p3]] w (BoolIf (RightF (p0, p1, p2, p3)) w) := by
  have hb0 := grow1 w (.cells #[.int .i64 p0, .int .i64 p1, .int .i64 p2, .int .i64 p3] 29)
  have HB := Lib.hid hb0
  clear hb0
  go_enter Tryz.func6, Tryz.ntmps6
  go_wp2_with fail
  refine abs_wp ?_
  intro wb hwb
  have hb0 : Below w.heap.size w wb := by rw [hwb]; exact HB.out
  have E : Hid (∀ k : Nat, k < 4 → wb.cell? ⟨w.heap.size, k, none⟩ = some (.int .i64 (pkAt (p0, p1, p2, p3) k))) := Lib.hid (fun k hk => by
    rw [hwb]
    have : k = 0 ∨ k = 1 ∨ k = 2 ∨ k = 3 := by omega
    rcases this with rfl | rfl | rfl | rfl <;> simp [go_sem, pkAt])
  have hg : w.heap.size < wb.heap.size := by rw [hwb]; simp
  clear hwb HB
  go_loopw [3] (fun i wr => ∃ k : Nat, i = .int .i64 k ∧ k ≤ 4 ∧ Hid (∀ j, j < k → 0 ≤ pkAt (p0, p1, p2, p3) j ∧ pkAt (p0, p1, p2, p3) j ≤ topF (j : Int)) ∧ Below wb.heap.size wb wr) (fun i _ => 4 - (intOf i).toNat)
  case atStart => exact ⟨0, rfl, Nat.zero_le _, Lib.hid (fun j h => absurd h (by omega)), Below.refl _ _⟩
  case round =>
    obtain ⟨k, rfl, hk, hall, hb⟩ := hrel
    have hs := hb.size
    by_cases hlt : k < 4
    · have hd : decide ((k : Int) < 4) = true := by simp; omega
      have hk1 : (k : Int) < 4 := by omega
      have hk0 : (0 : Int) ≤ (k : Int) := by omega
      have c : wr.cell? ⟨w.heap.size, k, none⟩ = some (.int .i64 (pkAt (p0, p1, p2, p3) k)) := by rw [hb.cell (by exact hg)]; exact E.out k hlt
      have z1 : w.heap.size < wr.heap.size := by omega
      have X := Lib.hid (fun kk : KW wr => rtop_c (k : Int) kk.val)
      obtain ⟨d0, hd0⟩ : ∃ d, decide (pkAt (p0, p1, p2, p3) k < 0) = d := ⟨_, rfl⟩
      obtain ⟨d1, hd1⟩ : ∃ d, decide (topF (k : Int) < pkAt (p0, p1, p2, p3) k) = d := ⟨_, rfl⟩
      have HA : Hid (d0 = false → d1 = false → ∀ j, j < k + 1 → 0 ≤ pkAt (p0, p1, p2, p3) j ∧ pkAt (p0, p1, p2, p3) j ≤ topF (j : Int)) := Lib.hid (fun h0 h1 j hj => by
        subst h0 h1
        simp only [decide_eq_false_iff_not] at hd0 hd1
        by_cases hjk : j = k
        · subst hjk; omega
        · exact hall.out j (by omega))
      have hbW := hb0.trans (hb.mono (by omega))
      generalize pkAt (p0, p1, p2, p3) k = x at *
      generalize topF (k : Int) = tp at *
      cases d0 with
      | true =>
        go_wp2_with fail
        refine wp_region_kq (by kernel_rfl) (by kernel_rfl) ?_
        repeat (first | go_big_quiet_step ((go_at_call 15; exact KW.same (X.out _))) | quiet_step ((go_at_call 15; exact KW.same (X.out _))))
        refine wpQuiet_nil ?_
        intro kz
        have hz := hbW.trans (kz.kp.mono (by omega))
        go_wp2_with fail
        go_ret
        exact BoolIf.no hz
      | false =>
      cases d1 with
      | true =>
        go_wp2_with fail
        refine wp_region_kq (by kernel_rfl) (by kernel_rfl) ?_
        repeat (first | go_big_quiet_step ((go_at_call 15; exact KW.same (X.out _))) | quiet_step ((go_at_call 15; exact KW.same (X.out _))))
        refine wpQuiet_nil ?_
        intro kz
        have hz := hbW.trans (kz.kp.mono (by omega))
        go_wp2_with fail
        go_ret
        exact BoolIf.no hz
      | false =>
        have HA2 := Lib.hid (HA.out rfl rfl)
        clear HA
        go_wp2_with fail
        refine wp_region_kq (by kernel_rfl) (by kernel_rfl) ?_
        repeat (first | go_big_quiet_step ((go_at_call 15; exact KW.same (X.out _))) | quiet_step ((go_at_call 15; exact KW.same (X.out _))))
        refine wpQuiet_nil ?_
        intro kz
        have hz := hb.trans (kz.kp.mono hs)
        go_wp2_with fail
        go_roundw
        case rel => exact ⟨k + 1, by go_num, by omega, HA2, hz⟩
        case measure => simp [intOf]; omega
    · obtain rfl : k = 4 := by omega
      have HR : Hid (RightF (p0, p1, p2, p3)) := Lib.hid (pk_right hall.out)
      have hbW := hb0.trans (hb.mono (by omega))
      clear hall
      go_wp2_with fail
      go_ret
      exact BoolIf.yes HR.out hbW _
end Go.Proofs.YtekfkieimdgfkaaGreat
/- What is proved here: how often a port is named, the document's way. Condition: the topology can be read. -/
namespace Go.Proofs.YtekfkieimdgfkaaGreat
open Go Go.RowKit
attribute [local go_sem] KW.cell KW.frozen
theorem lk_at {ao : Option Addr} {n c : Nat} {xs : List Lk} {w : World} (h : Rz 6 lkE (.slice ao n c) xs w) (k : Nat) (hk : k < xs.length) :
    ∃ a, ao = some a ∧ (a.add (k * 6)).block < w.heap.size ∧ w.cell? (a.add (k * 6)) = some (.int .i64 (xs[k]).1) ∧ w.cell? ⟨(a.add (k * 6)).block, (a.add (k * 6)).off + 1, none⟩ = some (.int .i64 (xs[k]).2.1) ∧
      w.cell? ⟨(a.add (k * 6)).block, (a.add (k * 6)).off + 2, none⟩ = some (.int .i64 (xs[k]).2.2.1) ∧ w.cell? ⟨(a.add (k * 6)).block, (a.add (k * 6)).off + 3, none⟩ = some (.int .i64 (xs[k]).2.2.2.1) ∧
      w.cell? ⟨(a.add (k * 6)).block, (a.add (k * 6)).off + 4, none⟩ = some (.int .i64 (xs[k]).2.2.2.2.1) ∧ w.cell? ⟨(a.add (k * 6)).block, (a.add (k * 6)).off + 5, none⟩ = some (.int .i64 (xs[k]).2.2.2.2.2) := by
  obtain ⟨a, ha, hg, hc, hc2⟩ := h.at_ k hk
  exact ⟨a, ha, by rw [adb]; exact hg, hc _ rfl, hc2 0 _ rfl, hc2 1 _ rfl, hc2 2 _ rfl, hc2 3 _ rfl, hc2 4 _ rfl⟩
theorem ho_at {ao : Option Addr} {n c : Nat} {xs : List Ho} {w : World} (h : Rz 2 hoE (.slice ao n c) xs w) (k : Nat) (hk : k < xs.length) :
    ∃ a, ao = some a ∧ (a.add (k * 2)).block < w.heap.size ∧ w.cell? (a.add (k * 2)) = some (.int .i64 (xs[k]).1) ∧ w.cell? ⟨(a.add (k * 2)).block, (a.add (k * 2)).off + 1, none⟩ = some (.int .i64 (xs[k]).2) := by
  obtain ⟨a, ha, hg, hc, hc2⟩ := h.at_ k hk
  exact ⟨a, ha, by rw [adb]; exact hg, hc _ rfl, hc2 0 _ rfl⟩
def plA (sw p : Int) (l : Lk) : Bool := (l.1 == sw) && (l.2.1 == p)
def plB (sw p : Int) (l : Lk) : Bool := (l.2.2.1 == sw) && (l.2.2.2.1 == p)
def plH (sw p : Int) (h : Ho) : Bool := (h.1 == sw) && (h.2 == p)
def one (b : Bool) : Nat := if b = true then 1 else 0
def cntL (sw p : Int) (ls : List Lk) : Nat := (ls.map fun l => one (plA sw p l) + one (plB sw p l)).sum
def cntH (sw p : Int) (hs : List Ho) : Nat := (hs.map fun h => one (plH sw p h)).sum
theorem one_le (b : Bool) : one b ≤ 1 := by cases b <;> decide
theorem cntL_take (sw p : Int) (ls : List Lk) (k : Nat) (h : k < ls.length) : cntL sw p (ls.take (k + 1)) = cntL sw p (ls.take k) + (one (plA sw p ls[k]) + one (plB sw p ls[k])) := by
  unfold cntL
  rw [List.take_succ_eq_append_getElem h, List.map_append, List.sum_append]
  simp only [List.map_cons, List.map_nil, List.sum_cons, List.sum_nil, Nat.add_zero]
theorem cntH_take (sw p : Int) (hs : List Ho) (k : Nat) (h : k < hs.length) : cntH sw p (hs.take (k + 1)) = cntH sw p (hs.take k) + one (plH sw p hs[k]) := by
  unfold cntH
  rw [List.take_succ_eq_append_getElem h, List.map_append, List.sum_append]
  simp only [List.map_cons, List.map_nil, List.sum_cons, List.sum_nil, Nat.add_zero]
theorem cntL_le (sw p : Int) (ls : List Lk) : cntL sw p ls ≤ 2 * ls.length := by
  induction ls with
  | nil => exact Nat.le_refl _
  | cons l ls ih =>
    have e : cntL sw p (l :: ls) = one (plA sw p l) + one (plB sw p l) + cntL sw p ls := rfl
    have h1 := one_le (plA sw p l)
    have h2 := one_le (plB sw p l)
    rw [e, List.length_cons]; omega
theorem cntH_le (sw p : Int) (hs : List Ho) : cntH sw p hs ≤ hs.length := by
  induction hs with
  | nil => exact Nat.le_refl _
  | cons l ls ih =>
    have e : cntH sw p (l :: ls) = one (plH sw p l) + cntH sw p ls := rfl
    have h1 := one_le (plH sw p l)
    rw [e, List.length_cons]; omega
def PortF (n : Int) (ls : List Lk) (hs : List Ho) (sw p : Int) : Prop := 0 ≤ sw ∧ sw < n ∧ 0 ≤ p ∧ p ≤ 7 ∧ cntL sw p ls + cntH sw p hs = 1
set_option maxRecDepth 100000 in
set_option maxHeartbeats 8000000 in
theorem port_c (n sw p : Int) (lo ho : Option Addr) (lc hc : Nat) (ls : List Lk) (hs : List Ho) (w : World) (h1 : Rz 6 lkE (.slice lo ls.length lc) ls w) (h2 : Rz 2 hoE (.slice ho hs.length hc) hs w) (hl : ls.length ≤ 30) (hh : hs.length ≤ 12) :
    Calls Tryz.prog 44 #[.agg #[.int .i64 n, .slice lo ls.length lc, .slice ho hs.length hc], .int .i64 sw, .int .i64 p] w (BoolIf (PortF n ls hs sw p) w) := by
  obtain ⟨_, _, e1, l1, l2⟩ := h1.form
  obtain ⟨_, _, e2, l3, l4⟩ := h2.form
  cases e1
  cases e2
  have hb0 := grow1 w (.cells #[.int .i64 n, .slice lo ls.length lc, .slice ho hs.length hc] 25)
  have HB := Lib.hid hb0
  have H1 := Lib.hid h1
  have H2 := Lib.hid h2
  clear hb0 h1 h2
  go_enter Tryz.func44, Tryz.ntmps44
  go_wp2_with fail
  refine abs_wp ?_
  intro wb hwb
  have hb0 : Below w.heap.size w wb := by rw [hwb]; exact HB.out
  have c0 : wb.cell? ⟨w.heap.size, 0, none⟩ = some (.int .i64 n) := by rw [hwb]; simp [go_sem]
  have c1 : wb.cell? ⟨w.heap.size, 1, none⟩ = some (.slice lo ls.length lc) := by rw [hwb]; simp [go_sem]
  have c2 : wb.cell? ⟨w.heap.size, 2, none⟩ = some (.slice ho hs.length hc) := by rw [hwb]; simp [go_sem]
  have hg : w.heap.size < wb.heap.size := by rw [hwb]; simp
  have K1 := Lib.hid (H1.out.kept hb0)
  have K2 := Lib.hid (H2.out.kept hb0)
  have E := Lib.hid (fun (wr : World) (hb : Below wb.heap.size wb wr) => (⟨(hb.cell (p := ⟨w.heap.size, 0, none⟩) hg).trans c0, (hb.cell (p := ⟨w.heap.size, 1, none⟩) hg).trans c1, (hb.cell (p := ⟨w.heap.size, 2, none⟩) hg).trans c2⟩ : wr.cell? ⟨w.heap.size, 0, none⟩ = some (.int .i64 n) ∧ wr.cell? ⟨w.heap.size, 1, none⟩ = some (.slice lo ls.length lc) ∧ wr.cell? ⟨w.heap.size, 2, none⟩ = some (.slice ho hs.length hc)))
  clear hwb HB H1 H2 c0 c1 c2
  go_loopw [7, 8] (fun m i wr => ∃ k : Nat, i = .int .i64 k ∧ k ≤ ls.length ∧ m = .int .i64 (cntL sw p (ls.take k) : Nat) ∧ Below wb.heap.size wb wr) (fun _ i _ => ls.length - (intOf i).toNat)
  case atStart => exact ⟨0, rfl, Nat.zero_le _, rfl, Below.refl _ _⟩
  case round =>
    obtain ⟨k, rfl, hk, rfl, hb⟩ := hrel
    have hs0 := hb.size
    obtain ⟨c0, c1, c2⟩ := E.out wr hb
    by_cases hlt : k < ls.length
    · have hd : decide ((k : Int) < (ls.length : Int)) = true := by simp; omega
      have hk2 : (k : Int) < (ls.length : Int) := by omega
      obtain ⟨a, rfl, z1, e0, e1, e2, e3, e4, e5⟩ := lk_at (K1.out.kept hb) k hlt
      have hx := cntL_take sw p ls k hlt
      have hbd := cntL_le sw p (ls.take k)
      have hbt : (ls.take k).length ≤ 30 := by rw [List.length_take]; omega
      obtain ⟨d0, hd0⟩ : ∃ d, ((ls[k]).1 == sw) = d := ⟨_, rfl⟩
      obtain ⟨d1, hd1⟩ : ∃ d, ((ls[k]).2.1 == p) = d := ⟨_, rfl⟩
      obtain ⟨d2, hd2⟩ : ∃ d, ((ls[k]).2.2.1 == sw) = d := ⟨_, rfl⟩
      obtain ⟨d3, hd3⟩ : ∃ d, ((ls[k]).2.2.2.1 == p) = d := ⟨_, rfl⟩
      have eA : plA sw p ls[k] = (d0 && d1) := by unfold plA; rw [hd0, hd1]
      have eB : plB sw p ls[k] = (d2 && d3) := by unfold plB; rw [hd2, hd3]
      rw [eA, eB] at hx
      have HX := Lib.hid hx
      clear hx eA eB
      have hbz : Below wb.heap.size wb (wr.alloc (.cells #[.int .i64 (ls[k]).1, .int .i64 (ls[k]).2.1, .int .i64 (ls[k]).2.2.1, .int .i64 (ls[k]).2.2.2.1, .int .i64 (ls[k]).2.2.2.2.1, .int .i64 (ls[k]).2.2.2.2.2] 101)) := hb.alloc hs0 _
      generalize (ls[k]).1 = x0 at *
      generalize (ls[k]).2.1 = x1 at *
      generalize (ls[k]).2.2.1 = x2 at *
      generalize (ls[k]).2.2.2.1 = x3 at *
      generalize (ls[k]).2.2.2.2.1 = x4 at *
      generalize (ls[k]).2.2.2.2.2 = x5 at *
      cases d0 <;> cases d1 <;> cases d2 <;> cases d3
      all_goals
        go_wp2_with fail
        go_roundw
        case rel => exact ⟨k + 1, by go_num, by omega, by rw [HX.out]; simp [one]; first | done | omega, hbz⟩
        case measure => simp [intOf]; omega
    · obtain rfl : k = ls.length := by omega
      have hd : decide ((ls.length : Int) < (ls.length : Int)) = false := by simp
      have hbL := cntL_le sw p ls
      have HT : Hid (cntL sw p (ls.take ls.length) = cntL sw p ls) := Lib.hid (by rw [List.take_length])
      obtain ⟨wo, rfl⟩ : ∃ wo : World, wo = wr := ⟨_, rfl⟩
      rw [HT.out]
      go_wp2_with fail
      go_loop [7, 10] (fun m i => ∃ k : Nat, i = .int .i64 k ∧ k ≤ hs.length ∧ m = .int .i64 ((cntL sw p ls + cntH sw p (hs.take k) : Nat) : Int)) (fun _ i => hs.length - (intOf i).toNat)
      case atStart => exact ⟨0, rfl, Nat.zero_le _, rfl⟩
      case round =>
        obtain ⟨k, rfl, hk, rfl⟩ := hrel
        by_cases hlt : k < hs.length
        · have hd : decide ((k : Int) < (hs.length : Int)) = true := by simp; omega
          have hk2 : (k : Int) < (hs.length : Int) := by omega
          obtain ⟨a, rfl, z1, e0, e1⟩ := ho_at (K2.out.kept hb) k hlt
          have hx := cntH_take sw p hs k hlt
          have hbd := cntH_le sw p (hs.take k)
          have hbt : (hs.take k).length ≤ 12 := by rw [List.length_take]; omega
          obtain ⟨d0, hd0⟩ : ∃ d, ((hs[k]).1 == sw) = d := ⟨_, rfl⟩
          obtain ⟨d1, hd1⟩ : ∃ d, ((hs[k]).2 == p) = d := ⟨_, rfl⟩
          have eA : plH sw p hs[k] = (d0 && d1) := by unfold plH; rw [hd0, hd1]
          rw [eA] at hx
          have HX := Lib.hid hx
          clear hx eA
          generalize (hs[k]).1 = x0 at *
          generalize (hs[k]).2 = x1 at *
          generalize cntL sw p ls = cl at *
          cases d0 <;> cases d1
          all_goals
            go_wp2_with fail
            go_round
            case rel => exact ⟨k + 1, by go_num, by omega, by rw [HX.out]; simp [one]; first | done | omega⟩
            case measure => simp [intOf]; omega
        · obtain rfl : k = hs.length := by omega
          have hd : decide ((hs.length : Int) < (hs.length : Int)) = false := by simp
          have hbH := cntH_le sw p hs
          have HT2 : Hid (cntH sw p (hs.take hs.length) = cntH sw p hs) := Lib.hid (by rw [List.take_length])
          rw [HT2.out]
          have hbW := hb0.trans (hb.mono (by omega))
          obtain ⟨d0, hd0⟩ : ∃ d, decide (0 ≤ sw) = d := ⟨_, rfl⟩
          obtain ⟨d1, hd1⟩ : ∃ d, decide (sw < n) = d := ⟨_, rfl⟩
          obtain ⟨d2, hd2⟩ : ∃ d, decide (0 ≤ p) = d := ⟨_, rfl⟩
          obtain ⟨d3, hd3⟩ : ∃ d, decide (p ≤ 7) = d := ⟨_, rfl⟩
          obtain ⟨d4, hd4⟩ : ∃ d, (((cntL sw p ls + cntH sw p hs : Nat) : Int) == 1) = d := ⟨_, rfl⟩
          have HP : Hid (d0 = true → d1 = true → d2 = true → d3 = true → d4 = true → PortF n ls hs sw p) := Lib.hid (fun q0 q1 q2 q3 q4 => by
            subst q0 q1 q2 q3 q4
            simp only [decide_eq_true_eq, beq_iff_eq] at hd0 hd1 hd2 hd3 hd4
            exact ⟨hd0, hd1, hd2, hd3, by omega⟩)
          have hd5 : ((((cntL sw p ls : Nat) : Int) + ((cntH sw p hs : Nat) : Int)) == 1) = d4 := by rw [← hd4]; congr 1
          clear HT HT2
          generalize cntL sw p ls = cl at *
          generalize cntH sw p hs = ch at *
          cases d0 with
          | false => go_wp2_with fail; go_ret; exact BoolIf.no hbW
          | true =>
          cases d1 with
          | false => go_wp2_with fail; go_ret; exact BoolIf.no hbW
          | true =>
          cases d2 with
          | false => go_wp2_with fail; go_ret; exact BoolIf.no hbW
          | true =>
          cases d3 with
          | false => go_wp2_with fail; go_ret; exact BoolIf.no hbW
          | true =>
          cases d4 with
          | false => go_wp2_with fail; go_ret; exact BoolIf.no hbW
          | true =>
            have hp := Lib.hid (HP.out rfl rfl rfl rfl rfl)
            clear HP
            go_wp2_with fail
            go_ret
            exact BoolIf.yes hp.out hbW _
end Go.Proofs.YtekfkieimdgfkaaGreat
