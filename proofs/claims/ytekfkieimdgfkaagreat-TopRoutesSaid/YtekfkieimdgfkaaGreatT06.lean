/- What is proved here: which topologies may be, the document's way. Condition: they can be read. -/
import Derived.Test.YtekfkieimdgfkaaGreatT05
namespace Go.Proofs.YtekfkieimdgfkaaGreat
open Go Go.RowKit
attribute [local go_sem] KW.cell KW.frozen
def LinkF (n : Int) (ls : List Lk) (hs : List Ho) (l : Lk) : Prop := l.1 ≠ l.2.2.1 ∧ 1 ≤ l.2.2.2.2.1 ∧ l.2.2.2.2.1 ≤ l.2.2.2.2.2 ∧ l.2.2.2.2.2 ≤ 1000 ∧ PortF n ls hs l.1 l.2.1 ∧ PortF n ls hs l.2.2.1 l.2.2.2.1
def TopoF (n : Int) (ls : List Lk) (hs : List Ho) : Prop := 1 ≤ n ∧ n ≤ 8 ∧ ls.length ≤ 24 ∧ hs.length ≤ 8 ∧ (∀ l ∈ ls, LinkF n ls hs l) ∧ ∀ h ∈ hs, PortF n ls hs h.1 h.2
set_option maxRecDepth 100000 in
set_option maxHeartbeats 8000000 in
theorem tright_c (n : Int) (lo ho : Option Addr) (lc hc : Nat) (ls : List Lk) (hs : List Ho) (w : World) (h1 : Rz 6 lkE (.slice lo ls.length lc) ls w) (h2 : Rz 2 hoE (.slice ho hs.length hc) hs w) :
    Calls Tryz.prog 23 #[.agg #[.int .i64 n, .slice lo ls.length lc, .slice ho hs.length hc]] w (BoolIf (TopoF n ls hs) w) := by
  obtain ⟨_, _, e1, l1, l2⟩ := h1.form
  obtain ⟨_, _, e2, l3, l4⟩ := h2.form
  cases e1
  cases e2
  have hb0 := grow1 w (.cells #[.int .i64 n, .slice lo ls.length lc, .slice ho hs.length hc] 25)
  have HB := Lib.hid hb0
  have H1 := Lib.hid h1
  have H2 := Lib.hid h2
  clear hb0 h1 h2
  go_enter Tryz.func23, Tryz.ntmps23
  go_upto_region 1 with fail
  refine abs_wp ?_
  intro wb hwb
  have hb0 : Below w.heap.size w wb := by rw [hwb]; exact HB.out
  have c0 : wb.cell? ⟨w.heap.size, 0, none⟩ = some (.int .i64 n) := by rw [hwb]; simp [go_sem]
  have c1 : wb.cell? ⟨w.heap.size, 1, none⟩ = some (.slice lo ls.length lc) := by rw [hwb]; simp [go_sem]
  have c2 : wb.cell? ⟨w.heap.size, 2, none⟩ = some (.slice ho hs.length hc) := by rw [hwb]; simp [go_sem]
  have hg : w.heap.size < wb.heap.size := by rw [hwb]; simp
  have K1 := Lib.hid (H1.out.kept hb0)
  have K2 := Lib.hid (H2.out.kept hb0)
  clear hwb HB H1 H2
  obtain ⟨d0, hd0⟩ : ∃ d, decide (n < 1) = d := ⟨_, rfl⟩
  obtain ⟨d1, hd1⟩ : ∃ d, decide (8 < n) = d := ⟨_, rfl⟩
  obtain ⟨d2, hd2⟩ : ∃ d, decide (24 < (ls.length : Int)) = d := ⟨_, rfl⟩
  obtain ⟨d3, hd3⟩ : ∃ d, decide (8 < (hs.length : Int)) = d := ⟨_, rfl⟩
  cases d0 with
  | true => go_wp2_with fail; go_ret; exact BoolIf.no hb0
  | false =>
  cases d1 with
  | true => go_wp2_with fail; go_ret; exact BoolIf.no hb0
  | false =>
  cases d2 with
  | true => go_wp2_with fail; go_ret; exact BoolIf.no hb0
  | false =>
  cases d3 with
  | true => go_wp2_with fail; go_ret; exact BoolIf.no hb0
  | false =>
  have n0 : 1 ≤ n := by simp at hd0; omega
  have n1 : n ≤ 8 := by simp at hd1; omega
  have n2 : ls.length ≤ 24 := by simp at hd2; omega
  have n3 : hs.length ≤ 8 := by simp at hd3; omega
  have NN := Lib.hid (⟨n0, n1, n2, n3⟩ : 1 ≤ n ∧ n ≤ 8 ∧ ls.length ≤ 24 ∧ hs.length ≤ 8)
  have X := Lib.hid (fun (wr : World) (sw p : Int) (hb : Below wb.heap.size wb wr) => port_c n sw p lo ho lc hc ls hs wr (K1.out.kept hb) (K2.out.kept hb) (by omega) (by omega))
  have E := Lib.hid (fun (wr : World) (hb : Below wb.heap.size wb wr) => (⟨(hb.cell (p := ⟨w.heap.size, 0, none⟩) hg).trans c0, (hb.cell (p := ⟨w.heap.size, 1, none⟩) hg).trans c1, (hb.cell (p := ⟨w.heap.size, 2, none⟩) hg).trans c2⟩ : wr.cell? ⟨w.heap.size, 0, none⟩ = some (.int .i64 n) ∧ wr.cell? ⟨w.heap.size, 1, none⟩ = some (.slice lo ls.length lc) ∧ wr.cell? ⟨w.heap.size, 2, none⟩ = some (.slice ho hs.length hc)))
  go_wp2_with fail
  clear c0 c1 c2
  go_loopw [3] (fun i wr => ∃ k : Nat, i = .int .i64 k ∧ k ≤ ls.length ∧ Hid (∀ j (h : j < ls.length), j < k → LinkF n ls hs ls[j]) ∧ Below wb.heap.size wb wr) (fun i _ => ls.length - (intOf i).toNat)
  case atStart => exact ⟨0, rfl, Nat.zero_le _, Lib.hid (fun j _ h => absurd h (by omega)), Below.refl _ _⟩
  case round =>
    obtain ⟨k, rfl, hk, hall, hb⟩ := hrel
    have hs0 := hb.size
    obtain ⟨c0, c1, c2⟩ := E.out wr hb
    by_cases hlt : k < ls.length
    · have hd : decide ((k : Int) < (ls.length : Int)) = true := by simp; omega
      have hk2 : (k : Int) < (ls.length : Int) := by omega
      obtain ⟨a, rfl, z1, e0, e1, e2, e3, e4, e5⟩ := lk_at (K1.out.kept hb) k hlt
      have hbz : Below wb.heap.size wb (wr.alloc (.cells #[.int .i64 (ls[k]).1, .int .i64 (ls[k]).2.1, .int .i64 (ls[k]).2.2.1, .int .i64 (ls[k]).2.2.2.1, .int .i64 (ls[k]).2.2.2.2.1, .int .i64 (ls[k]).2.2.2.2.2] 101)) := hb.alloc hs0 _
      obtain ⟨y0, hy0⟩ : ∃ d, ((ls[k]).1 == (ls[k]).2.2.1) = d := ⟨_, rfl⟩
      obtain ⟨y1, hy1⟩ : ∃ d, decide ((ls[k]).2.2.2.2.1 < 1) = d := ⟨_, rfl⟩
      obtain ⟨y2, hy2⟩ : ∃ d, decide ((ls[k]).2.2.2.2.2 < (ls[k]).2.2.2.2.1) = d := ⟨_, rfl⟩
      obtain ⟨y3, hy3⟩ : ∃ d, decide (1000 < (ls[k]).2.2.2.2.2) = d := ⟨_, rfl⟩
      have HA : Hid (y0 = false → y1 = false → y2 = false → y3 = false → PortF n ls hs (ls[k]).1 (ls[k]).2.1 → PortF n ls hs (ls[k]).2.2.1 (ls[k]).2.2.2.1 → ∀ j (h : j < ls.length), j < k + 1 → LinkF n ls hs ls[j]) := Lib.hid (fun q0 q1 q2 q3 hp1 hp2 j hj h => by
        subst q0 q1 q2 q3
        simp only [decide_eq_false_iff_not, beq_eq_false_iff_ne] at hy0 hy1 hy2 hy3
        by_cases hjk : j = k
        · subst hjk
          exact ⟨hy0, by omega, by omega, by omega, hp1, hp2⟩
        · exact hall.out j hj (by omega))
      have hbW0 := hb0.trans (hbz.mono (by omega))
      have q0 : (wr.alloc (.cells #[.int .i64 (ls[k]).1, .int .i64 (ls[k]).2.1, .int .i64 (ls[k]).2.2.1, .int .i64 (ls[k]).2.2.2.1, .int .i64 (ls[k]).2.2.2.2.1, .int .i64 (ls[k]).2.2.2.2.2] 101)).cell? ⟨wr.heap.size, 0, none⟩ = some (.int .i64 (ls[k]).1) := by simp [go_sem]
      have q1 : (wr.alloc (.cells #[.int .i64 (ls[k]).1, .int .i64 (ls[k]).2.1, .int .i64 (ls[k]).2.2.1, .int .i64 (ls[k]).2.2.2.1, .int .i64 (ls[k]).2.2.2.2.1, .int .i64 (ls[k]).2.2.2.2.2] 101)).cell? ⟨wr.heap.size, 1, none⟩ = some (.int .i64 (ls[k]).2.1) := by simp [go_sem]
      have q2 : (wr.alloc (.cells #[.int .i64 (ls[k]).1, .int .i64 (ls[k]).2.1, .int .i64 (ls[k]).2.2.1, .int .i64 (ls[k]).2.2.2.1, .int .i64 (ls[k]).2.2.2.2.1, .int .i64 (ls[k]).2.2.2.2.2] 101)).cell? ⟨wr.heap.size, 2, none⟩ = some (.int .i64 (ls[k]).2.2.1) := by simp [go_sem]
      have q3 : (wr.alloc (.cells #[.int .i64 (ls[k]).1, .int .i64 (ls[k]).2.1, .int .i64 (ls[k]).2.2.1, .int .i64 (ls[k]).2.2.2.1, .int .i64 (ls[k]).2.2.2.2.1, .int .i64 (ls[k]).2.2.2.2.2] 101)).cell? ⟨wr.heap.size, 3, none⟩ = some (.int .i64 (ls[k]).2.2.2.1) := by simp [go_sem]
      have q4 : (wr.alloc (.cells #[.int .i64 (ls[k]).1, .int .i64 (ls[k]).2.1, .int .i64 (ls[k]).2.2.1, .int .i64 (ls[k]).2.2.2.1, .int .i64 (ls[k]).2.2.2.2.1, .int .i64 (ls[k]).2.2.2.2.2] 101)).cell? ⟨wr.heap.size, 4, none⟩ = some (.int .i64 (ls[k]).2.2.2.2.1) := by simp [go_sem]
      have q5 : (wr.alloc (.cells #[.int .i64 (ls[k]).1, .int .i64 (ls[k]).2.1, .int .i64 (ls[k]).2.2.1, .int .i64 (ls[k]).2.2.2.1, .int .i64 (ls[k]).2.2.2.2.1, .int .i64 (ls[k]).2.2.2.2.2] 101)).cell? ⟨wr.heap.size, 5, none⟩ = some (.int .i64 (ls[k]).2.2.2.2.2) := by simp [go_sem]
      have qz : wr.heap.size < (wr.alloc (.cells #[.int .i64 (ls[k]).1, .int .i64 (ls[k]).2.1, .int .i64 (ls[k]).2.2.1, .int .i64 (ls[k]).2.2.2.1, .int .i64 (ls[k]).2.2.2.2.1, .int .i64 (ls[k]).2.2.2.2.2] 101)).heap.size := by simp
      generalize (ls[k]).1 = x0 at *
      generalize (ls[k]).2.1 = x1 at *
      generalize (ls[k]).2.2.1 = x2 at *
      generalize (ls[k]).2.2.2.1 = x3 at *
      generalize (ls[k]).2.2.2.2.1 = x4 at *
      generalize (ls[k]).2.2.2.2.2 = x5 at *
      go_upto_region 7 with fail
      generalize wr.alloc (.cells #[.int .i64 x0, .int .i64 x1, .int .i64 x2, .int .i64 x3, .int .i64 x4, .int .i64 x5] 101) = wz at *
      clear c0 c1 c2 e0 e1 e2 e3 e4 e5
      have EZ := Lib.hid (fun (w' : World) (hb : Below wz.heap.size wz w') => (⟨(hb.cell (p := ⟨wr.heap.size, 2, none⟩) qz).trans q2, (hb.cell (p := ⟨wr.heap.size, 3, none⟩) qz).trans q3⟩ : w'.cell? ⟨wr.heap.size, 2, none⟩ = some (.int .i64 x2) ∧ w'.cell? ⟨wr.heap.size, 3, none⟩ = some (.int .i64 x3)))
      obtain ⟨c0, c1, c2⟩ := E.out wz hbz
      cases y0 with
      | true => go_wp2_with fail; go_ret; exact BoolIf.no hbW0
      | false =>
      cases y1 with
      | true => go_wp2_with fail; go_ret; exact BoolIf.no hbW0
      | false =>
      cases y2 with
      | true => go_wp2_with fail; go_ret; exact BoolIf.no hbW0
      | false =>
      cases y3 with
      | true => go_wp2_with fail; go_ret; exact BoolIf.no hbW0
      | false =>
      have HA2 := Lib.hid (HA.out rfl rfl rfl rfl)
      clear HA
      go_wp2_with fail
      refine (X.out wz x0 x1 hbz).mono ?_
      rintro e w3 ⟨b1, rfl, hp1, hb3⟩
      have hbW3 := bon hbW0 hb3
      have HP1 := Lib.hid hp1
      clear hp1
      cases b1 with
      | false => go_wp2_with fail; go_ret; exact BoolIf.no hbW3
      | true =>
      have HQ1 := Lib.hid (HP1.out rfl)
      clear c0 c1 c2 q2 q3 HP1
      have hbz3 := bon hbz hb3
      obtain ⟨c0, c1, c2⟩ := E.out w3 hbz3
      obtain ⟨q2, q3⟩ := EZ.out w3 hb3
      go_wp2_with fail
      refine (X.out w3 x2 x3 hbz3).mono ?_
      rintro e w4 ⟨b2, rfl, hp2, hb4⟩
      have hbW4 := bon hbW3 hb4
      have HP2 := Lib.hid hp2
      clear hp2
      cases b2 with
      | false => go_wp2_with fail; go_ret; exact BoolIf.no hbW4
      | true =>
      have hbz4 := bon hbz3 hb4
      have HA3 := Lib.hid (HA2.out HQ1.out (HP2.out rfl))
      clear HQ1 HP2 HA2
      go_wp2_with fail
      go_roundw
      case rel => exact ⟨k + 1, by go_num, by omega, HA3, hbz4⟩
      case measure => simp [intOf]; omega
    · obtain rfl : k = ls.length := by omega
      have hd : decide ((ls.length : Int) < (ls.length : Int)) = false := by simp
      have HL : Hid (∀ l ∈ ls, LinkF n ls hs l) := Lib.hid (fun l hl => by
        obtain ⟨j, hj, rfl⟩ := List.mem_iff_getElem.1 hl
        exact hall.out j hj hj)
      clear hall
      obtain ⟨wo, rfl⟩ : ∃ wo : World, wo = wr := ⟨_, rfl⟩
      go_wp2_with fail
      clear c0 c1 c2
      go_loopw [5] (fun i wr => ∃ k : Nat, i = .int .i64 k ∧ k ≤ hs.length ∧ Hid (∀ j (h : j < hs.length), j < k → PortF n ls hs (hs[j]).1 (hs[j]).2) ∧ Below wb.heap.size wb wr) (fun i _ => hs.length - (intOf i).toNat)
      case atStart => exact ⟨0, rfl, Nat.zero_le _, Lib.hid (fun j _ h => absurd h (by omega)), hb⟩
      case round =>
        clear hb
        obtain ⟨k, rfl, hk, hall, hb⟩ := hrel
        have hs0 := hb.size
        obtain ⟨c0, c1, c2⟩ := E.out wr hb
        have hgr : w.heap.size < wr.heap.size := by omega
        by_cases hlt : k < hs.length
        · have hd : decide ((k : Int) < (hs.length : Int)) = true := by simp; omega
          have hk2 : (k : Int) < (hs.length : Int) := by omega
          obtain ⟨a, rfl, z1, e0, e1⟩ := ho_at (K2.out.kept hb) k hlt
          have HA : Hid (PortF n ls hs (hs[k]).1 (hs[k]).2 → ∀ j (h : j < hs.length), j < k + 1 → PortF n ls hs (hs[j]).1 (hs[j]).2) := Lib.hid (fun hp j hj h => by
            by_cases hjk : j = k
            · subst hjk; exact hp
            · exact hall.out j hj (by omega))
          generalize (hs[k]).1 = x0 at *
          generalize (hs[k]).2 = x1 at *
          go_wp2_with fail
          refine wp_region_kw 13 (by kernel_rfl) (by kernel_rfl) ?_
          simp only [List.take_succ_cons, List.take_zero, List.drop_succ_cons, List.drop_zero]
          repeat (first | go_big_quiet_step (fail) | quiet_step (fail))
          refine wpQuiet_nil ?_
          intro kz
          have hbk := bon hb kz.kp
          go_wp2_with fail
          refine (X.out kz.val x0 x1 hbk).mono ?_
          rintro e w3 ⟨b1, rfl, hp1, hb3⟩
          have hbz := bon hbk hb3
          have hbW := hb0.trans (hbz.mono (by omega))
          have HP1 := Lib.hid hp1
          clear hp1
          cases b1 with
          | false => go_wp2_with fail; go_ret; exact BoolIf.no hbW
          | true =>
          have HA2 := Lib.hid (HA.out (HP1.out rfl))
          clear HA HP1
          go_wp2_with fail
          go_roundw
          case rel => exact ⟨k + 1, by go_num, by omega, HA2, hbz⟩
          case measure => simp [intOf]; omega
        · obtain rfl : k = hs.length := by omega
          have hd : decide ((hs.length : Int) < (hs.length : Int)) = false := by simp
          have HH : Hid (TopoF n ls hs) := Lib.hid ⟨NN.out.1, NN.out.2.1, NN.out.2.2.1, NN.out.2.2.2, HL.out, fun h hh => by
            obtain ⟨j, hj, rfl⟩ := List.mem_iff_getElem.1 hh
            exact hall.out j hj hj⟩
          have hbW := hb0.trans (hb.mono (by omega))
          clear hall
          go_wp2_with fail
          go_ret
          exact BoolIf.yes HH.out hbW _
end Go.Proofs.YtekfkieimdgfkaaGreat
/- What is proved here: which routes may be, and where a port leads, the document's way. Condition: they can be read. -/
namespace Go.Proofs.YtekfkieimdgfkaaGreat
open Go Go.RowKit
attribute [local go_sem] KW.cell KW.frozen
def RoutesF (n : Int) (ls : List Lk) (hs : List Ho) (rows : List (List Int)) : Prop := TopoF n ls hs ∧ (rows.length : Int) = n ∧ ∀ r ∈ rows, r.length = hs.length ∧ ∀ x ∈ r, 0 ≤ x ∧ x ≤ 7
set_option maxRecDepth 100000 in
set_option maxHeartbeats 8000000 in
theorem rright_c (n : Int) (lo ho : Option Addr) (lc hc : Nat) (ls : List Lk) (hs : List Ho) (rv : Value) (rows : List (List Int)) (w : World) (h1 : Rz 6 lkE (.slice lo ls.length lc) ls w) (h2 : Rz 2 hoE (.slice ho hs.length hc) hs w) (hr : RdW rv rows w) :
    Calls Tryz.prog 13 #[.agg #[.int .i64 n, .slice lo ls.length lc, .slice ho hs.length hc], rv] w (BoolIf (RoutesF n ls hs rows) w) := by
  obtain ⟨ro, rc, rfl, hrc1, hrc2⟩ := hr.form
  have HR := Lib.hid hr
  clear hr
  obtain ⟨_, _, e1, l1, l2⟩ := h1.form
  obtain ⟨_, _, e2, l3, l4⟩ := h2.form
  cases e1
  cases e2
  have hb0 := grow1 w (.cells #[.int .i64 n, .slice lo ls.length lc, .slice ho hs.length hc] 25)
  have HB := Lib.hid hb0
  have H1 := Lib.hid h1
  have H2 := Lib.hid h2
  clear hb0 h1 h2
  go_enter Tryz.func13, Tryz.ntmps13
  go_upto_region 1 with fail
  refine abs_wp ?_
  intro wb hwb
  have hb0 : Below w.heap.size w wb := by rw [hwb]; exact HB.out
  have c0 : wb.cell? ⟨w.heap.size, 0, none⟩ = some (.int .i64 n) := by rw [hwb]; simp [go_sem]
  have c1 : wb.cell? ⟨w.heap.size, 1, none⟩ = some (.slice lo ls.length lc) := by rw [hwb]; simp [go_sem]
  have c2 : wb.cell? ⟨w.heap.size, 2, none⟩ = some (.slice ho hs.length hc) := by rw [hwb]; simp [go_sem]
  have hg : w.heap.size < wb.heap.size := by rw [hwb]; simp
  have K1 := Lib.hid (H1.out.kept hb0)
  have K2 := Lib.hid (H2.out.kept hb0)
  have E := Lib.hid (fun (wr : World) (hb : Below wb.heap.size wb wr) => (⟨(hb.cell (p := ⟨w.heap.size, 0, none⟩) hg).trans c0, (hb.cell (p := ⟨w.heap.size, 1, none⟩) hg).trans c1, (hb.cell (p := ⟨w.heap.size, 2, none⟩) hg).trans c2⟩ : wr.cell? ⟨w.heap.size, 0, none⟩ = some (.int .i64 n) ∧ wr.cell? ⟨w.heap.size, 1, none⟩ = some (.slice lo ls.length lc) ∧ wr.cell? ⟨w.heap.size, 2, none⟩ = some (.slice ho hs.length hc)))
  clear hwb HB H1 H2
  have KR := Lib.hid (HR.out.kept hb0)
  have X := Lib.hid (tright_c n lo ho lc hc ls hs wb K1.out K2.out)
  clear HR
  go_wp2_with fail
  refine X.out.mono ?_
  rintro e w1 ⟨b, rfl, ht, hb1⟩
  have hbW1 := bon hb0 hb1
  have HT := Lib.hid ht
  clear ht c0 c1 c2 X
  cases b with
  | false => go_wp2_with fail; go_ret; exact BoolIf.no hbW1
  | true =>
  have HT2 := Lib.hid (HT.out rfl)
  clear HT
  obtain ⟨c0, c1, c2⟩ := E.out w1 hb1
  obtain ⟨d, hd⟩ : ∃ d, ((rows.length : Int) == n) = d := ⟨_, rfl⟩
  have hdn : ((rows.length : Int) != n) = !d := by rw [← hd]; rfl
  cases d with
  | false => go_wp2_with fail; go_ret; exact BoolIf.no hbW1
  | true =>
  have HN : Hid ((rows.length : Int) = n) := Lib.hid (by simpa using hd)
  go_wp2_with fail
  clear hd hdn
  go_loopw [5] (fun i wr => ∃ k : Nat, i = .int .i64 k ∧ k ≤ rows.length ∧ Hid (∀ j (h : j < rows.length), j < k → rows[j].length = hs.length ∧ ∀ x ∈ rows[j], 0 ≤ x ∧ x ≤ 7) ∧ Below wb.heap.size wb wr) (fun i _ => rows.length - (intOf i).toNat)
  case atStart => exact ⟨0, rfl, Nat.zero_le _, Lib.hid (fun j _ h => absurd h (by omega)), hb1⟩
  case round =>
    clear hb1 c0 c1 c2 hbW1
    obtain ⟨k, rfl, hk, hall, hb⟩ := hrel
    have hs0 := hb.size
    have hbW := bon hb0 hb
    by_cases hlt : k < rows.length
    · have hd : decide ((k : Int) < (rows.length : Int)) = true := by simp; omega
      have hk2 : (k : Int) < (rows.length : Int) := by omega
      obtain ⟨a, sok, sck, rfl, zk, ck0, rsk⟩ := (KR.out.kept hb).at_ k hlt
      obtain ⟨c0, c1, c2⟩ := E.out wr hb
      have z1 : w.heap.size < wr.heap.size := by omega
      have HA : Hid ((rows[k].length = hs.length ∧ ∀ x ∈ rows[k], 0 ≤ x ∧ x ≤ 7) → ∀ j (h : j < rows.length), j < k + 1 → rows[j].length = hs.length ∧ ∀ x ∈ rows[j], 0 ≤ x ∧ x ≤ 7) := Lib.hid (fun h20 j hj h => by
        by_cases hjk : j = k
        · subst hjk; exact h20
        · exact hall.out j hj (by omega))
      have RS := Lib.hid rsk
      have CK := Lib.hid (fun (w' : World) (hb : Below wr.heap.size wr w') => (hb.cell (p := a.add k) zk).trans ck0)
      clear rsk
      generalize rows[k] = row at *
      obtain ⟨d, hd0⟩ : ∃ d, ((row.length : Int) == (hs.length : Int)) = d := ⟨_, rfl⟩
      have hdn : ((row.length : Int) != (hs.length : Int)) = !d := by rw [← hd0]; rfl
      have hdm : (row.length == hs.length) = d := by rw [← hd0, Bool.eq_iff_iff, beq_iff_eq, beq_iff_eq]; omega
      have hdk : (row.length != hs.length) = !d := by rw [← hdm]; rfl
      cases d with
      | false =>
        go_wp2_with fail
        refine wp_region_kq (by kernel_rfl) (by kernel_rfl) ?_
        repeat (first | go_big_quiet_step (fail) | quiet_step (fail))
        refine wpQuiet_nil ?_
        intro kz
        have hz := bon hbW kz.kp
        go_wp2_with fail
        go_ret
        exact BoolIf.no hz
      | true =>
        have HL : Hid (row.length = hs.length) := Lib.hid (by simpa using hdm)
        go_wp2_with fail
        refine wp_region_kq (by kernel_rfl) (by kernel_rfl) ?_
        repeat (first | go_big_quiet_step (fail) | quiet_step (fail))
        refine wpQuiet_nil ?_
        intro kz
        have hz := bon hb kz.kp
        have ck1 := CK.out kz.val kz.kp
        have hkr := Lib.hid (RS.out.kept kz.kp)
        clear c0 c1 c2 ck0 hd0 hdn hdm hdk
        have hbzW := bon hbW kz.kp
        have hlr : row.length ≤ 9223372036854775807 := by
          obtain ⟨_, _, e, h3, h4⟩ := hkr.out.form
          omega
        go_wp2_with fail
        generalize kz.val = wk at *
        go_loop [6] (fun i => ∃ h : Nat, i = .int .i64 h ∧ h ≤ row.length ∧ Hid (∀ j (hj : j < row.length), j < h → 0 ≤ row[j] ∧ row[j] ≤ 7)) (fun i => row.length - (intOf i).toNat)
        case atStart => exact ⟨0, rfl, Nat.zero_le _, Lib.hid (fun j _ h => absurd h (by omega))⟩
        case round =>
          obtain ⟨h, rfl, hh, hin⟩ := hrel
          by_cases hlt2 : h < row.length
          · have hd : decide ((h : Int) < (row.length : Int)) = true := by simp; omega
            have hk3 : (h : Int) < (row.length : Int) := by omega
            obtain ⟨a2, rfl, z2, e0⟩ := int_at hkr.out h hlt2
            obtain ⟨y0, hy0⟩ : ∃ d, decide (row[h] < 0) = d := ⟨_, rfl⟩
            obtain ⟨y1, hy1⟩ : ∃ d, decide (7 < row[h]) = d := ⟨_, rfl⟩
            have HA3 : Hid (y0 = false → y1 = false → ∀ j (hj : j < row.length), j < h + 1 → 0 ≤ row[j] ∧ row[j] ≤ 7) := Lib.hid (fun q0 q1 j hj h' => by
              subst q0 q1
              simp only [decide_eq_false_iff_not] at hy0 hy1
              by_cases hjk : j = h
              · subst hjk; omega
              · exact hin.out j hj (by omega))
            generalize row[h] = x at *
            cases y0 with
            | true => go_wp2_with fail; go_ret; exact BoolIf.no hbzW
            | false =>
            cases y1 with
            | true => go_wp2_with fail; go_ret; exact BoolIf.no hbzW
            | false =>
            have HA4 := Lib.hid (HA3.out rfl rfl)
            clear HA3
            go_wp2_with fail
            go_round
            case rel => exact ⟨h + 1, by go_num, by omega, HA4⟩
            case measure => simp [intOf]; omega
          · obtain rfl : h = row.length := by omega
            have hd : decide ((row.length : Int) < (row.length : Int)) = false := by simp
            have HX := Lib.hid (HA.out ⟨HL.out, fun x hx => by
              obtain ⟨j, hj, rfl⟩ := List.mem_iff_getElem.1 hx
              exact hin.out j hj hj⟩)
            clear hin HA
            go_wp2_with fail
            go_roundw
            case rel => exact ⟨k + 1, by go_num, by omega, HX, hz⟩
            case measure => simp [intOf]; omega
    · obtain rfl : k = rows.length := by omega
      have hd : decide ((rows.length : Int) < (rows.length : Int)) = false := by simp
      have HH : Hid (RoutesF n ls hs rows) := Lib.hid ⟨HT2.out, HN.out, fun r hr => by
        obtain ⟨j, hj, rfl⟩ := List.mem_iff_getElem.1 hr
        exact hall.out j hj hj⟩
      clear hall HT2
      go_wp2_with fail
      go_ret
      exact BoolIf.yes HH.out hbW _
def PeerR (ls : List Lk) (sw p : Int) (w : World) (e : Ending) (w' : World) : Prop :=
  ∃ (a b c : Int) (d : Bool), e = .returned (.tuple #[.int .i64 a, .int .i64 b, .int .i64 c, .bool d]) ∧ (d = true → ∃ l ∈ ls, (plA sw p l = true ∧ a = l.2.2.1) ∨ (plB sw p l = true ∧ a = l.1)) ∧ Below w.heap.size w w'
theorem PeerR.mk' {ls : List Lk} {sw p : Int} {w w' : World} (a b c : Int) (d : Bool) (h : d = true → ∃ l ∈ ls, (plA sw p l = true ∧ a = l.2.2.1) ∨ (plB sw p l = true ∧ a = l.1)) (hb : Below w.heap.size w w') :
    PeerR ls sw p w (.returned (.tuple #[.int .i64 a, .int .i64 b, .int .i64 c, .bool d])) w' := ⟨a, b, c, d, rfl, h, hb⟩
set_option maxRecDepth 100000 in
set_option maxHeartbeats 8000000 in
theorem peer_c (n sw p : Int) (lo ho : Option Addr) (lc hc : Nat) (ls : List Lk) (hs : List Ho) (w : World) (h1 : Rz 6 lkE (.slice lo ls.length lc) ls w) (h2 : Rz 2 hoE (.slice ho hs.length hc) hs w) :
    Calls Tryz.prog 72 #[.agg #[.int .i64 n, .slice lo ls.length lc, .slice ho hs.length hc], .int .i64 sw, .int .i64 p] w (PeerR ls sw p w) := by
  obtain ⟨_, _, e1, l1, l2⟩ := h1.form
  obtain ⟨_, _, e2, l3, l4⟩ := h2.form
  cases e1
  cases e2
  have hb0 := grow1 w (.cells #[.int .i64 n, .slice lo ls.length lc, .slice ho hs.length hc] 25)
  have HB := Lib.hid hb0
  have H1 := Lib.hid h1
  have H2 := Lib.hid h2
  clear hb0 h1 h2
  go_enter Tryz.func72, Tryz.ntmps72
  go_upto_region 1 with fail
  refine abs_wp ?_
  intro wb hwb
  have hb0 : Below w.heap.size w wb := by rw [hwb]; exact HB.out
  have c0 : wb.cell? ⟨w.heap.size, 0, none⟩ = some (.int .i64 n) := by rw [hwb]; simp [go_sem]
  have c1 : wb.cell? ⟨w.heap.size, 1, none⟩ = some (.slice lo ls.length lc) := by rw [hwb]; simp [go_sem]
  have c2 : wb.cell? ⟨w.heap.size, 2, none⟩ = some (.slice ho hs.length hc) := by rw [hwb]; simp [go_sem]
  have hg : w.heap.size < wb.heap.size := by rw [hwb]; simp
  have K1 := Lib.hid (H1.out.kept hb0)
  have K2 := Lib.hid (H2.out.kept hb0)
  have E := Lib.hid (fun (wr : World) (hb : Below wb.heap.size wb wr) => (⟨(hb.cell (p := ⟨w.heap.size, 0, none⟩) hg).trans c0, (hb.cell (p := ⟨w.heap.size, 1, none⟩) hg).trans c1, (hb.cell (p := ⟨w.heap.size, 2, none⟩) hg).trans c2⟩ : wr.cell? ⟨w.heap.size, 0, none⟩ = some (.int .i64 n) ∧ wr.cell? ⟨w.heap.size, 1, none⟩ = some (.slice lo ls.length lc) ∧ wr.cell? ⟨w.heap.size, 2, none⟩ = some (.slice ho hs.length hc)))
  clear hwb HB H1 H2
  go_wp2_with fail
  clear c0 c1 c2
  go_loopw [10] (fun i wr => ∃ k : Nat, i = .int .i64 k ∧ k ≤ ls.length ∧ Below wb.heap.size wb wr) (fun i _ => ls.length - (intOf i).toNat)
  case atStart => exact ⟨0, rfl, Nat.zero_le _, Below.refl _ _⟩
  case round =>
    obtain ⟨k, rfl, hk, hb⟩ := hrel
    have hs0 := hb.size
    obtain ⟨c0, c1, c2⟩ := E.out wr hb
    by_cases hlt : k < ls.length
    · have hd : decide ((k : Int) < (ls.length : Int)) = true := by simp; omega
      have hk2 : (k : Int) < (ls.length : Int) := by omega
      obtain ⟨a, rfl, z1, e0, e1, e2, e3, e4, e5⟩ := lk_at (K1.out.kept hb) k hlt
      obtain ⟨d0, hd0⟩ : ∃ d, ((ls[k]).1 == sw) = d := ⟨_, rfl⟩
      obtain ⟨d1, hd1⟩ : ∃ d, ((ls[k]).2.1 == p) = d := ⟨_, rfl⟩
      obtain ⟨d2, hd2⟩ : ∃ d, ((ls[k]).2.2.1 == sw) = d := ⟨_, rfl⟩
      obtain ⟨d3, hd3⟩ : ∃ d, ((ls[k]).2.2.2.1 == p) = d := ⟨_, rfl⟩
      have HX : Hid ((d0 = true → d1 = true → ∃ l ∈ ls, (plA sw p l = true ∧ (ls[k]).2.2.1 = l.2.2.1) ∨ (plB sw p l = true ∧ (ls[k]).2.2.1 = l.1)) ∧ (d2 = true → d3 = true → ∃ l ∈ ls, (plA sw p l = true ∧ (ls[k]).1 = l.2.2.1) ∨ (plB sw p l = true ∧ (ls[k]).1 = l.1))) := Lib.hid (⟨fun q0 q1 => ⟨ls[k], List.getElem_mem hlt, .inl ⟨by unfold plA; rw [hd0, hd1, q0, q1]; rfl, rfl⟩⟩, fun q0 q1 => ⟨ls[k], List.getElem_mem hlt, .inr ⟨by unfold plB; rw [hd2, hd3, q0, q1]; rfl, rfl⟩⟩⟩)
      have hbz : Below wb.heap.size wb (wr.alloc (.cells #[.int .i64 (ls[k]).1, .int .i64 (ls[k]).2.1, .int .i64 (ls[k]).2.2.1, .int .i64 (ls[k]).2.2.2.1, .int .i64 (ls[k]).2.2.2.2.1, .int .i64 (ls[k]).2.2.2.2.2] 101)) := hb.alloc hs0 _
      have hbW := bon hb0 hbz
      have qz : wr.heap.size < (wr.alloc (.cells #[.int .i64 (ls[k]).1, .int .i64 (ls[k]).2.1, .int .i64 (ls[k]).2.2.1, .int .i64 (ls[k]).2.2.2.1, .int .i64 (ls[k]).2.2.2.2.1, .int .i64 (ls[k]).2.2.2.2.2] 101)).heap.size := by simp
      have q0 : (wr.alloc (.cells #[.int .i64 (ls[k]).1, .int .i64 (ls[k]).2.1, .int .i64 (ls[k]).2.2.1, .int .i64 (ls[k]).2.2.2.1, .int .i64 (ls[k]).2.2.2.2.1, .int .i64 (ls[k]).2.2.2.2.2] 101)).cell? ⟨wr.heap.size, 0, none⟩ = some (.int .i64 (ls[k]).1) := by simp [go_sem]
      have q1 : (wr.alloc (.cells #[.int .i64 (ls[k]).1, .int .i64 (ls[k]).2.1, .int .i64 (ls[k]).2.2.1, .int .i64 (ls[k]).2.2.2.1, .int .i64 (ls[k]).2.2.2.2.1, .int .i64 (ls[k]).2.2.2.2.2] 101)).cell? ⟨wr.heap.size, 1, none⟩ = some (.int .i64 (ls[k]).2.1) := by simp [go_sem]
      have q2 : (wr.alloc (.cells #[.int .i64 (ls[k]).1, .int .i64 (ls[k]).2.1, .int .i64 (ls[k]).2.2.1, .int .i64 (ls[k]).2.2.2.1, .int .i64 (ls[k]).2.2.2.2.1, .int .i64 (ls[k]).2.2.2.2.2] 101)).cell? ⟨wr.heap.size, 2, none⟩ = some (.int .i64 (ls[k]).2.2.1) := by simp [go_sem]
      have q3 : (wr.alloc (.cells #[.int .i64 (ls[k]).1, .int .i64 (ls[k]).2.1, .int .i64 (ls[k]).2.2.1, .int .i64 (ls[k]).2.2.2.1, .int .i64 (ls[k]).2.2.2.2.1, .int .i64 (ls[k]).2.2.2.2.2] 101)).cell? ⟨wr.heap.size, 3, none⟩ = some (.int .i64 (ls[k]).2.2.2.1) := by simp [go_sem]
      generalize (ls[k]).1 = x0 at *
      generalize (ls[k]).2.1 = x1 at *
      generalize (ls[k]).2.2.1 = x2 at *
      generalize (ls[k]).2.2.2.1 = x3 at *
      generalize (ls[k]).2.2.2.2.1 = x4 at *
      generalize (ls[k]).2.2.2.2.2 = x5 at *
      go_upto_region 5 with fail
      generalize wr.alloc (.cells #[.int .i64 x0, .int .i64 x1, .int .i64 x2, .int .i64 x3, .int .i64 x4, .int .i64 x5] 101) = wz at *
      clear c0 c1 c2 e0 e1 e2 e3 e4 e5
      by_cases hA : d0 = true ∧ d1 = true
      · obtain ⟨rfl, rfl⟩ := hA
        have HY := Lib.hid (HX.out.1 rfl rfl)
        clear HX
        go_wp2_with fail
        refine wp_region_kq (by kernel_rfl) (by kernel_rfl) ?_
        repeat (first | go_big_quiet_step (fail) | quiet_step (fail))
        refine wpQuiet_nil ?_
        intro kz
        have hz := bon hbW kz.kp
        go_wp2_with fail
        exact bodyPost_ret (v := .tuple #[.int .i64 x2, .int .i64 x3, .int .i64 (k : Int), .bool true]) (by simp [results, Tryz.results72, go_sem]) rfl (PeerR.mk' _ _ _ _ (fun _ => HY.out) hz)
      · by_cases hB : d2 = true ∧ d3 = true
        · obtain ⟨rfl, rfl⟩ := hB
          have HY := Lib.hid (HX.out.2 rfl rfl)
          clear HX
          cases d0 <;> cases d1 <;> first | exact absurd ⟨rfl, rfl⟩ hA | skip
          all_goals
            clear hA
            go_wp2_with fail
            refine wp_region_kq (by kernel_rfl) (by kernel_rfl) ?_
            repeat (first | go_big_quiet_step (fail) | quiet_step (fail))
            refine wpQuiet_nil ?_
            intro kz
            have hz := bon hbW kz.kp
            go_wp2_with fail
            exact bodyPost_ret (v := .tuple #[.int .i64 x0, .int .i64 x1, .int .i64 (k : Int), .bool true]) (by simp [results, Tryz.results72, go_sem]) rfl (PeerR.mk' _ _ _ _ (fun _ => HY.out) hz)
        · clear HX
          cases d0 <;> cases d1 <;> first | exact absurd ⟨rfl, rfl⟩ hA | skip
          all_goals
            cases d2 <;> cases d3 <;> first | exact absurd ⟨rfl, rfl⟩ hB | skip
          all_goals
            clear hA hB
            go_wp2_with fail
            go_roundw
            case rel => exact ⟨k + 1, by go_num, by omega, hbz⟩
            case measure => simp [intOf]; omega
    · obtain rfl : k = ls.length := by omega
      have hd : decide ((ls.length : Int) < (ls.length : Int)) = false := by simp
      have hbW := bon hb0 hb
      go_wp2_with fail
      exact bodyPost_ret (v := .tuple #[.int .i64 0, .int .i64 0, .int .i64 0, .bool false]) (by simp [results, Tryz.results72, go_sem]) rfl (PeerR.mk' _ _ _ _ (fun h => (by cases h)) hbW)
end Go.Proofs.YtekfkieimdgfkaaGreat
