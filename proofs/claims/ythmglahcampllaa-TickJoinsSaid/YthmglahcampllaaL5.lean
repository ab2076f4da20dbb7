/- What is proved here: the walk of TickJoins. Condition: none. -/
import Derived.Test.YthmglahcampllaaRo
import Derived.Test.YthmglahcampllaaPj
namespace Go.Proofs.Ythmglahcampllaa
open Go Go.RowKit

theorem own_mono {B B' e z n : Nat} {v : Value} {vs : List Value} {w : World} (h : w.ownsRow B e z v n vs) (hB : B' ≤ B) : w.ownsRow B' e z v n vs := by
  obtain ⟨h1, h2⟩ := h
  refine ⟨h1, ?_⟩
  rcases h2 with h2 | ⟨g, cap, cur, hv, hg, r⟩
  · exact .inl h2
  · exact .inr ⟨g, cap, cur, hv, Nat.le_trans hB hg, r⟩
theorem own_kept {B e z n : Nat} {v : Value} {vs : List Value} {w w' : World} (h : w.ownsRow B e z v n vs) (hb : Below w.heap.size w w') : w'.ownsRow B e z v n vs := by
  obtain ⟨h1, h2⟩ := h
  refine ⟨h1, ?_⟩
  rcases h2 with h2 | ⟨g, cap, cur, hv, hg, hh, r⟩
  · exact .inl h2
  · exact .inr ⟨g, cap, cur, hv, hg, (hb.block g (block_lt hh)).trans hh, r⟩

theorem wpList_join37 {ops : Array Oper} {rest : List Oper} {o : Oper} {a' : Act} {Q : Exit → Act → World → Prop} (W w : World) (hgd : o.guard = none) (s x : Operand)
    (ho : o.op = .call { callee := .builtin .append, args := #[s, x], argTypes := #[37, 37] }) (B : Nat) (u1 u2 : Value) (a b : List (Int × Int)) (hs : a'.eval s = u1) (hx : a'.eval x = u2)
    (h1 : w.ownsRow B 43 2 u1 a.length (flat a)) (h2 : w.ownsRow B 43 2 u2 b.length (flat b)) (ha : a.length ≤ 100) (hb : b.length ≤ 100) (hB : B ≤ w.heap.size) (hW : Below B W w)
    (h : ∀ u w', Ops u (a ++ b) w' → Below B W w' → wpList Try.prog ops Q rest (a'.put o.dst u) w') : wpList Try.prog ops Q (o :: rest) a' w := by
  obtain ⟨i0, hi, hz0, hz1, hz2⟩ := info_parts Try.info43
  have h2' := h2
  rcases h2'.2 with ⟨rfl, h0⟩ | ⟨g, cap, cur, rfl, _⟩
  · have hb0 : b = [] := List.eq_nil_of_length_eq_zero h0
    subst hb0
    refine wpList_append_own_none hgd s x 37 ho B 43 i0 2 Try.underlying37 hi u1 a.length (flat a) hs h1 hx ?_
    exact h _ _ (by rw [List.append_nil]; exact ops_of_own h1) hW
  · refine wpList_append_own w hgd s x 37 ho B 43 i0 (.agg #[.int .i64 0, .int .i64 0]) 2 16 Try.underlying37 hi hz0 hz1 hz2 rfl (by decide) u1 a.length (flat a) hs h1 ⟨g, 0, none⟩ b.length cap (flat b) hx (flat_len b)
      (fun j u hj => h2.cells rfl j u hj) (fun u hu => ?_) (by unfold maxLen; omega) (by omega) hB ?_
    · obtain ⟨p, _, hp⟩ := List.mem_flatMap.1 hu
      simp at hp
      rcases hp with rfl | rfl <;> rfl
    · intro v' w' hown1 hgrow _
      refine h v' w' (ops_of_own (B := B) ?_) (below_grown3 hW hB hgrow h1)
      rw [List.length_append, flat_append]
      exact hown1

theorem own_one (n : Int) {B : Nat} {w : World} (hB : B ≤ w.heap.size) : (w.alloc (Obj.cells #[.int .i64 1, .int .i64 n] 43)).ownsRow B 43 2 (.slice (some ⟨w.heap.size, 0, none⟩) 1 1) [((1 : Int), n)].length (flat [(1, n)]) := by
  refine ⟨rfl, .inr ⟨w.heap.size, 1, #[.int .i64 1, .int .i64 n], rfl, hB, ?_, Nat.le_refl _, by decide, rfl, rfl⟩⟩
  show (w.heap.push _)[w.heap.size]? = _
  simp

theorem slice_form {v : Value} {os : List (Int × Int)} {W : World} (h : Reads v os W) : ∃ ao c, v = .slice ao os.length c := by
  rcases h with ⟨rfl, rfl⟩ | ⟨a, cap, rfl, _⟩
  · exact ⟨none, 0, rfl⟩
  · exact ⟨_, _, rfl⟩

set_option maxRecDepth 20000 in
set_option maxHeartbeats 2000000 in
theorem law5_long (v v' : Value) (os ms : List (Int × Int)) (W : World) (h : Reads v os W) (h' : Reads v' ms W) (hl : 30 < os.length ∨ 30 < ms.length) : Calls Try.prog 5 #[v, v'] W fun e W' => e = .returned (.bool true) ∧ Below W.heap.size W W' := by
  have hb0 := Below.refl W.heap.size W
  obtain ⟨ao, c, rfl⟩ := slice_form h
  obtain ⟨ao', c', rfl⟩ := slice_form h'
  clear h h'
  by_cases h1 : 30 < os.length
  · have hd : decide (30 < (os.length : Int)) = true := by simp; omega
    go_enter Try.func5, Try.ntmps5
    go_wp2_with (go_at_call 17; refine (awake_b (by assumption)).mono ?_; rintro e w' ⟨rfl, _⟩)
    go_ret
    exact ⟨rfl, by assumption⟩
  · have hd : decide (30 < (os.length : Int)) = false := by simp; omega
    have hd' : decide (30 < (ms.length : Int)) = true := by simp; omega
    go_enter Try.func5, Try.ntmps5
    go_wp2_with (go_at_call 17; refine (awake_b (by assumption)).mono ?_; rintro e w' ⟨rfl, _⟩)
    go_ret
    exact ⟨rfl, by assumption⟩

set_option maxRecDepth 20000 in
set_option maxHeartbeats 4000000 in
theorem law5_err (v v' : Value) (os ms : List (Int × Int)) (c0 : Int) (W : World) (h : Reads v os W) (h' : Reads v' ms W) (h1 : os.length ≤ 30) (h2 : ms.length ≤ 30) (he : Pl.eval os = (0, c0)) (hc : (c0 == 0) = false) :
    Calls Try.prog 5 #[v, v'] W fun e W' => e = .returned (.bool true) ∧ Below W.heap.size W W' := by
  have hb0 := Below.refl W.heap.size W
  obtain ⟨ao, c, rfl⟩ := slice_form h
  obtain ⟨ao', c', rfl⟩ := slice_form h'
  have H := Lib.hid h
  clear h h'
  have hd : decide (30 < (os.length : Int)) = false := by simp; omega
  have hd' : decide (30 < (ms.length : Int)) = false := by simp; omega
  go_enter Try.func5, Try.ntmps5
  go_wp2_with fail
  refine (mine_b _ os H.out (by omega) hb0).mono ?_
  rintro e w1 ⟨u, rfl, hb1, _, hown⟩
  have HO := Lib.hid (ops_of_own hown)
  clear hown
  go_wp2_with fail
  refine (eval_b _ os HO.out hb1).mono ?_
  rw [he]
  rintro e w2 ⟨rfl, hb2⟩
  go_wp2_with (go_at_call 17; refine (awake_b (by assumption)).mono ?_; rintro e w' ⟨rfl, _⟩)
  go_ret
  exact ⟨rfl, by assumption⟩

set_option maxRecDepth 20000 in
set_option maxHeartbeats 4000000 in
theorem law5_ok (v v' : Value) (os ms : List (Int × Int)) (n : Int) (W : World) (h : Reads v os W) (h' : Reads v' ms W) (h1 : os.length ≤ 30) (h2 : ms.length ≤ 30) (he : Pl.eval os = (n, 0)) (hj : Pl.eval (os ++ ms) = Pl.eval ((1, n) :: ms)) :
    Calls Try.prog 5 #[v, v'] W fun e W' => e = .returned (.bool true) ∧ Below W.heap.size W W' := by
  have hb0 := Below.refl W.heap.size W
  obtain ⟨ao, c, rfl⟩ := slice_form h
  obtain ⟨ao', c', rfl⟩ := slice_form h'
  have H := Lib.hid h
  have H' := Lib.hid h'
  have HJ := Lib.hid hj
  clear h h' hj
  have hd : decide (30 < (os.length : Int)) = false := by simp; omega
  have hd' : decide (30 < (ms.length : Int)) = false := by simp; omega
  go_enter Try.func5, Try.ntmps5
  go_wp2_with fail
  refine (mine_b _ os H.out (by omega) hb0).mono ?_
  rintro e w1 ⟨u, rfl, hb1, _, hown⟩
  have HO := Lib.hid (ops_of_own hown)
  clear hown
  go_wp2_with fail
  refine (eval_b _ os HO.out hb1).mono ?_
  rw [he]
  rintro e w2 ⟨rfl, hb2⟩
  clear hb1
  go_wp2_with fail
  refine (mine_b _ os (H.out.kept hb2) (by omega) hb2).mono ?_
  rintro e w3 ⟨u3, rfl, hb3, _, ho3⟩
  go_wp2_with fail
  refine (mine_b _ ms (H'.out.kept hb3) (by omega) hb3).mono ?_
  rintro e w4 ⟨u4, rfl, hb4, hk4, ho4⟩
  have HA := Lib.hid (own_mono (own_kept ho3 hk4) hb2.size)
  have HB := Lib.hid (own_mono ho4 hb3.size)
  clear ho3 ho4 hb2 hb3 hk4
  go_wp2_with (at_builtin; refine wpList_join37 W w4 rfl _ _ rfl W.heap.size u3 u4 os ms (by rfl) (by rfl) HA.out HB.out (by omega) (by omega) hb4.size hb4 ?_)
  intro u5 w5 ho5 hb5
  have HO5 := Lib.hid ho5
  clear ho5 hb4
  go_wp2_with fail
  refine (eval_b _ (os ++ ms) HO5.out hb5).mono ?_
  rw [HJ.out]
  rintro e w6 ⟨rfl, hb6⟩
  clear hb5
  have hb7 := hb6.alloc hb6.size (Obj.cells #[.int .i64 1, .int .i64 n] 43)
  have H7 := Lib.hid (own_one n hb6.size)
  go_wp2_with fail
  refine (mine_b _ ms (H'.out.kept hb7) (by omega) hb7).mono ?_
  rintro e w8 ⟨u8, rfl, hb8, hk8, ho8⟩
  have HC := Lib.hid (own_kept H7.out hk8)
  have HD := Lib.hid (own_mono ho8 hb7.size)
  clear ho8 hb7 hk8
  go_wp2_with (at_builtin; refine wpList_join37 W w8 rfl _ _ rfl W.heap.size _ u8 [(1, n)] ms (by rfl) (by rfl) HC.out HD.out (by simp) (by omega) hb8.size hb8 ?_)
  intro u9 w9 ho9 hb9
  have HO9 := Lib.hid ho9
  clear ho9 hb8
  go_wp2_with fail
  refine (eval_b _ ((1, n) :: ms) HO9.out hb9).mono ?_
  rintro e w10 ⟨rfl, hb10⟩
  go_wp2_with (go_at_call 17; refine (awake_b (by assumption)).mono ?_; rintro e w' ⟨rfl, _⟩)
  go_ret
  exact ⟨rfl, by assumption⟩

theorem law5 (v : Value) (os : List (Int × Int)) (v' : Value) (ms : List (Int × Int)) (W : World) (h : Reads v os W) (h' : Reads v' ms W) :
    Calls Try.prog 5 #[v, v'] W fun e W' => e = .returned (.bool true) ∧ Below W.heap.size W W' := by
  by_cases hl : 30 < os.length ∨ 30 < ms.length
  · exact law5_long v v' os ms W h h' hl
  by_cases he : (Pl.eval os).2 = 0
  · exact law5_ok v v' os ms (Pl.eval os).1 W h h' (by omega) (by omega) (by rw [← he]) (Pl.joins (by omega) (by omega) he)
  · exact law5_err v v' os ms (Pl.eval os).2 W h h' (by omega) (by omega) (by rw [← Pl.eval_err he]) (by simpa using he)
end Go.Proofs.Ythmglahcampllaa
