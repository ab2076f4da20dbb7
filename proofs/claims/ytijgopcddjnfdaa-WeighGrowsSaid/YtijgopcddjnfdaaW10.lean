/- What is proved here: the walk of WeighGrows. Condition: what it is given can be read. -/
import Derived.Test.YtijgopcddjnfdaaWk
import Derived.Test.YtijgopcddjnfdaaW11
import Derived.Laws.AppendOwn
import Derived.Laws.AppendOwnNone
namespace Go.Proofs.Ytijgopcddjnfdaa
open Go Go.RowKit
attribute [local go_sem ↓] op_lss op_gtr op_geq op_leq op_eql op_neq op_neg wop_eql wop_neq wop_lss run_frombits run_bits lfrombits_one lfrombits_inf lfrombits_ninf lop_eql_sign
attribute [local go_sem] KW.cell KW.frozen
theorem Try.info3w : (Try.prog.info? 3).map (fun i => (i.zero, i.size, i.bytes)) = some (some (.int .i64 0), 1, 8) := by kernel_rfl
theorem wpList_addI {ops : Array Oper} {rest : List Oper} {o : Oper} {a' : Act} {Q : Exit → Act → World → Prop} (W w : World) (hgd : o.guard = none) (s x : Operand)
    (ho : o.op = .call { callee := .builtin .append, args := #[s, x], argTypes := #[54, 54] }) (B : Nat) (u1 u2 : Value) (a b : List Int) (hs : a'.eval s = u1) (hx : a'.eval x = u2)
    (h1 : w.ownsRow B 3 1 u1 a.length (a.map INT)) (h2 : Rd INT u2 b w) (ha : a.length ≤ 100) (hb : b.length ≤ 100) (hB : B ≤ w.heap.size) (hW : Below B W w)
    (h : ∀ u w', w'.ownsRow B 3 1 u (a ++ b).length ((a ++ b).map INT) → Below B W w' → wpList Try.prog ops Q rest (a'.put o.dst u) w') : wpList Try.prog ops Q (o :: rest) a' w := by
  obtain ⟨i0, hi, hz0, hz1, hz2⟩ := info_parts Try.info3w
  rcases h2 with ⟨rfl, rfl⟩ | ⟨g, cap, rfl, _, hc1, hc2, hc⟩
  · refine wpList_append_own_none hgd s x 54 ho B 3 i0 1 Try.underlying54 hi u1 a.length (a.map INT) hs h1 hx ?_
    exact h _ _ (by rw [List.append_nil]; exact h1) hW
  · refine wpList_append_own w hgd s x 54 ho B 3 i0 (.int .i64 0) 1 8 Try.underlying54 hi hz0 hz1 hz2 rfl (by decide) u1 a.length (a.map INT) hs h1 g b.length cap (b.map INT) hx (by simp)
      (fun j u hj => ?_) (fun u hu => ?_) (by unfold maxLen; omega) (by omega) hB ?_
    · rw [List.getElem?_map] at hj
      cases hjj : b[j]? with
      | none => rw [hjj] at hj; cases hj
      | some y =>
        rw [hjj] at hj
        obtain ⟨hjl, e⟩ := List.getElem?_eq_some_iff.1 hjj
        rw [hc j hjl, e]
        exact hj
    · obtain ⟨p, _, rfl⟩ := List.mem_map.1 hu
      rfl
    · intro v' w' hown1 hgrow _
      refine h v' w' ?_ (below_grown3 hW hB hgrow h1)
      rw [List.length_append, List.map_append]
      exact hown1

set_option maxRecDepth 100000 in
set_option maxHeartbeats 1000000 in
theorem law10 (v : Value) (bs : List Nat) (v1 : Value) (a : List Int) (v2 : Value) (b : List Int) (W : World) (h : Rd WRD v bs W) (hw : ∀ x ∈ bs, Fl.W64 x) (h1 : Rd INT v1 a W) (h2 : Rd INT v2 b W) :
    Calls Try.prog 10 #[v, v1, v2] W fun e W' => e = .returned (.bool true) ∧ Below W.heap.size W W' := by
  obtain ⟨ao, c, rfl, hm⟩ := h.form
  obtain ⟨ao1, c1, rfl, hm1⟩ := h1.form
  obtain ⟨ao2, c2, rfl, hm2⟩ := h2.form
  have H := Lib.hid h
  have H1 := Lib.hid h1
  have H2 := Lib.hid h2
  clear h h1 h2
  obtain ⟨d0, hd0⟩ : ∃ d, decide (20 < (bs.length : Int)) = d := ⟨_, rfl⟩
  obtain ⟨d1, hd1⟩ : ∃ d, decide (20 < (a.length : Int)) = d := ⟨_, rfl⟩
  obtain ⟨d2, hd2⟩ : ∃ d, decide (20 < (b.length : Int)) = d := ⟨_, rfl⟩
  have XR := Lib.hid (wrright_c _ bs (bs.length : Int) W H.out)
  obtain ⟨r, hr⟩ : ∃ r, Fl.rightW bs (bs.length : Int) = r := ⟨_, rfl⟩
  rw [hr] at XR
  cases d0 with
  | true =>
    go_enter Try.func10, Try.ntmps10
    go_wp2_with (go_at_call 36; refine (wawake_b (Below.refl _ _)).mono ?_; rintro e w' ⟨rfl, hb1⟩)
    go_ret
    exact ⟨rfl, hb1⟩
  | false =>
  cases d1 with
  | true =>
    go_enter Try.func10, Try.ntmps10
    go_wp2_with (go_at_call 36; refine (wawake_b (Below.refl _ _)).mono ?_; rintro e w' ⟨rfl, hb1⟩)
    go_ret
    exact ⟨rfl, hb1⟩
  | false =>
  cases d2 with
  | true =>
    go_enter Try.func10, Try.ntmps10
    go_wp2_with (go_at_call 36; refine (wawake_b (Below.refl _ _)).mono ?_; rintro e w' ⟨rfl, hb1⟩)
    go_ret
    exact ⟨rfl, hb1⟩
  | false =>
  cases r with
  | false =>
    go_enter Try.func10, Try.ntmps10
    go_wp2_with (first | (go_at_call 40; refine XR.out.mono ?_; rintro e w' ⟨rfl, rfl⟩) | (go_at_call 36; refine (wawake_b (Below.refl _ _)).mono ?_; rintro e w' ⟨rfl, hb1⟩))
    go_ret
    exact ⟨rfl, hb1⟩
  | true =>
  have n0 : bs.length ≤ 20 := by simp at hd0; omega
  have n1 : a.length ≤ 20 := by simp at hd1; omega
  have n2 : b.length ≤ 20 := by simp at hd2; omega
  have hall : bs.all Fl.cost = true := by
    unfold Fl.rightW at hr
    rw [Bool.and_eq_true] at hr
    exact hr.1
  have X0 := Lib.hid (wof_c _ bs W H.out hw (by omega))
  have hle1 := Fl.rwalkP_le hall (a ++ b)
  have hle2 := Fl.rwalkP_le hall b
  have NL := Fl.not_lt hall a b
  have C1 := Lib.hid (cost_w (Fl.rwalkP bs (a ++ b)) (Fl.rwalkP_w _ _))
  have C2 := Lib.hid (cost_w (Fl.rwalkP bs b) (Fl.rwalkP_w _ _))
  rw [Fl.cost_of_le hle1] at C1
  rw [Fl.cost_of_le hle2] at C2
  have K1 := Lib.hid (class_w (Fl.rwalkP bs (a ++ b)) (Fl.rwalkP_w _ _))
  have hlen : (a ++ b).length ≤ 40 := by rw [List.length_append]; omega
  have DN : Hid (∀ x ∈ a ++ b, Fl.upB bs x = false → Fl.cls (Fl.rwalkP bs (a ++ b)) = 6) := Lib.hid (fun x hx => Fl.down hall hx)
  have X4 := Lib.hid (fun u w1 link (hr : Rd FLT u (bs.map Fl.clean) w1) => wup_c u bs link w1 hr hw)
  have X6 := Lib.hid (fun u w1 (hr : Rd FLT u (bs.map Fl.clean) w1) u2 (hr2 : Rd INT u2 (a ++ b) w1) => walk_c u (bs.map Fl.clean) (a ++ b) u2 w1 (by rw [List.length_map]; omega) (by omega) hr hr2)
  have X7 := Lib.hid (fun u w1 (hr : Rd FLT u (bs.map Fl.clean) w1) u2 (hr2 : Rd INT u2 b w1) => walk_c u (bs.map Fl.clean) b u2 w1 (by rw [List.length_map]; omega) (by omega) hr hr2)
  simp only [Fl.walk_eq] at X6 X7
  obtain ⟨l, hl⟩ : ∃ l, a ++ b = l := ⟨_, rfl⟩
  have AP2 := Lib.hid hl
  simp only [hl] at hlen DN X6 NL C1 K1
  clear hl
  clear hle1 hle2 hall hr
  have AP1 := Lib.hid (by rw [List.nil_append] : [] ++ a = a)
  generalize Fl.rwalkP bs l = cc at *
  generalize Fl.rwalkP bs b = ce at *
  go_enter Try.func10, Try.ntmps10
  go_wp2_with (go_at_call 40; refine XR.out.mono ?_; rintro e w' ⟨rfl, rfl⟩)
  refine X0.out.mono ?_
  rintro e w1 ⟨u, rfl, hr, hb1⟩
  obtain ⟨uo, uc, rfl, _⟩ := hr.form
  simp only [List.length_map] at hr ⊢
  have R1 := Lib.hid hr
  clear hr
  have hnil : w1.ownsRow w1.heap.size 3 1 (.slice none 0 0) ([] : List Int).length (([] : List Int).map INT) := ⟨rfl, .inl ⟨rfl, rfl⟩⟩
  have hb11 := Below.refl w1.heap.size w1
  go_wp2_with (first | (at_builtin; refine wpList_addI w1 _ rfl _ _ rfl w1.heap.size _ _ [] a (by rfl) (by rfl) hnil (H1.out.kept hb1) (by simp) (by omega) (Nat.le_refl _) hb11 ?_; intro u2 w2 hown hb2; rw [AP1.out] at hown; clear hnil hb11) | (at_builtin; refine wpList_addI w1 _ rfl _ _ rfl w1.heap.size _ _ a b (by rfl) (by rfl) (by assumption) (H2.out.kept (bon hb1 (by assumption))) (by omega) (by omega) (Below.size (by assumption)) (by assumption) ?_; intro u3 w3 hown3 hb3))
  rw [AP2.out] at hown3
  have L3 := Lib.hid (Rd.of_own hown3)
  have R3 := Lib.hid (R1.out.kept hb3)
  have hb4 := bon hb1 hb3
  obtain ⟨lo, lc, rfl, _⟩ := L3.out.form
  clear hown hown3 hb1 hb2 hb3 R1
  refine (X6.out _ _ R3.out _ L3.out).mono ?_
  rintro e w4 ⟨rfl, hb5⟩
  have R4 := Lib.hid (R3.out.kept hb5)
  have L4 := Lib.hid (L3.out.kept hb5)
  have hb6 := bon hb4 hb5
  clear hb4 hb5 R3 L3
  go_wp2_with fail
  refine (X7.out _ _ R4.out _ (H2.out.kept hb6)).mono ?_
  rintro e w5 ⟨rfl, hb7⟩
  have R5 := Lib.hid (R4.out.kept hb7)
  have L5 := Lib.hid (L4.out.kept hb7)
  have hb8 := bon hb6 hb7
  clear hb6 hb7 R4 L4
  go_wp2_with fail
  refine (C1.out _).mono ?_
  rintro e w' ⟨rfl, rfl⟩
  go_wp2_with fail
  refine (C2.out _).mono ?_
  rintro e w' ⟨rfl, rfl⟩
  go_wp2_with fail
  go_loopw [11] (fun i wr => ∃ k : Nat, i = .int .i64 k ∧ k ≤ l.length ∧ Below W.heap.size W wr ∧ Hid (Rd INT (.slice lo l.length lc) l wr) ∧ Hid (Rd FLT (.slice uo bs.length uc) (bs.map Fl.clean) wr)) (fun i _ => l.length - (intOf i).toNat)
  case atStart => exact ⟨0, rfl, Nat.zero_le _, hb8, L5, R5⟩
  case round =>
    obtain ⟨k, rfl, hk, hb, hp, hq⟩ := hrel
    by_cases hlt : k < l.length
    · have hd : decide ((k : Int) < (l.length : Int)) = true := by simp; omega
      obtain ⟨ad, rfl, za, ca⟩ := hp.out.at_ k hlt
      have z1 : (ad.add k).block < wr.heap.size := by rw [add_block]; exact za
      unfold INT at ca
      have X := Lib.hid (X4.out _ wr l[k] hq.out)
      have Y := Lib.hid K1.out
      have D := DN.out l[k] (List.getElem_mem hlt)
      generalize l[k] = x at *
      obtain ⟨up, hup⟩ : ∃ up, Fl.upB bs x = up := ⟨_, rfl⟩
      rw [hup] at X D
      clear hup
      have hsz := hb.size
      cases up with
      | true =>
        clear D
        go_wp2_with fail
        refine X.out.mono ?_
        rintro e w' ⟨rfl, hb1⟩
        have hz := bon hb hb1
        have hpz := Lib.hid (hp.out.kept hb1)
        have hqz := Lib.hid (hq.out.kept hb1)
        go_wp2_with fail
        go_roundw
        case rel => exact ⟨k + 1, by go_num, by omega, hz, hpz, hqz⟩
        case measure => simp [intOf]; omega
      | false =>
        have D := D rfl
        rw [D] at Y
        clear D
        go_wp2_with fail
        refine X.out.mono ?_
        rintro e w' ⟨rfl, hb1⟩
        have hz := bon hb hb1
        have hpz := Lib.hid (hp.out.kept hb1)
        have hqz := Lib.hid (hq.out.kept hb1)
        go_wp2_with fail
        refine (Y.out _).mono ?_
        rintro e w2 ⟨rfl, rfl⟩
        go_wp2_with fail
        go_roundw
        case rel => exact ⟨k + 1, by go_num, by omega, hz, hpz, hqz⟩
        case measure => simp [intOf]; omega
    · obtain rfl : k = l.length := by omega
      have hd : decide ((l.length : Int) < (l.length : Int)) = false := by simp
      go_wp2_with (go_at_call 36; refine (wawake_b hb).mono ?_; rintro e w' ⟨rfl, hb1⟩)
      go_ret
      exact ⟨rfl, hb1⟩
end Go.Proofs.Ytijgopcddjnfdaa
