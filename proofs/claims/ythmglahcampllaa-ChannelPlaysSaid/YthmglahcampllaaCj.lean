/- What is proved here: what the other deeds do in both channels. Condition: they lie in memory of the call's own, and are alike. -/
import Derived.Test.YthmglahcampllaaCi
namespace Go.Proofs.Ythmglahcampllaa
open Go Go.RowKit
attribute [local go_sem] KW.cell KW.frozen
attribute [local go_sem ↓] Go.wp_at_zero Go.wp_at_succ Ch.eql72 Ch.neq72
namespace Ch
theorem cell_lt {w : World} {a : Addr} {v : Value} (h : w.cell? a = some v) : a.block < w.heap.size := by
  rcases Nat.lt_or_ge a.block w.heap.size with hl | hl
  · exact hl
  · have : w.heap[a.block]? = none := Array.getElem?_eq_none hl
    unfold World.cell? at h
    simp [this] at h
section
variable {B q r : Nat} {w0 w w1 : World} {v u : Value} {n m : Int} {l l' : List Fl}
theorem tw_rtake2 (k : Int) (t : Tw' B w0 w q v n l r u m l') (hl : l'.length ≤ 256) :
    Calls Try.prog 75 #[.pointer (some ⟨r, 0, none⟩), .int .i64 k] w fun e w' => e = .returned (.tuple #[.agg #[.int .i64 (atK l' k).1, .bool (atK l' k).2.1, .string (atK l' k).2.2], .int .i64 (lookE l' k)]) ∧ ∃ v', Tw' B w0 w' q v n l r v' m (takeL l' k) ∧
      ∀ (b : Nat) (cs : Array Value), w.heap[b]? = some (.cells cs 72 (0, 0)) → w'.heap[b]? = some (.cells cs 72 (0, 0)) := by
  refine (rtake_c k t.R hl).mono ?_
  rintro e w' ⟨he, ⟨v', hs⟩, hm⟩
  refine ⟨he, v', ⟨t.P.other hm (by decide) (by decide) (by decide) (by decide), hs, t.bl.trans (hm.bl.mono (Nat.le_refl _)), fun b cs x hb h1 h2 h3 h4 => (hm.kp b cs x ((t.kp b cs x hb h1 h2 h3 h4).trans hb) h3 h4).trans (t.kp b cs x hb h1 h2 h3 h4)⟩, fun b cs h => (hm.kp b cs 72 h (by decide) (by decide)).trans h⟩

set_option maxRecDepth 100000 in
set_option maxHeartbeats 4000000 in
theorem does_twice (k sw : Int) (up : Bool) (s : ByteArray) (t : Tw' B w0 w q v n l r u n l) (hl : l.length ≤ 256) (h0 : 0 ≤ n) (h1 : n ≤ 100000) :
    Calls Try.prog 34 #[.pointer (some ⟨q, 0, none⟩), .pointer (some ⟨r, 0, none⟩), .agg #[.int .i64 4, .int .i64 k, .int .i64 sw, .bool up, .string s]] w fun e w' =>
      e = .returned (.bool true) ∧ ∃ v' u', Tw' B w0 w' q v' (twiceN l k n) (twiceL l k) r u' (twiceN l k n) (twiceL l k) := by
  have hb : Below w.heap.size w (w.alloc (.cells #[.int .i64 4, .int .i64 k, .int .i64 sw, .bool up, .string s] 67)) := (Below.refl _ _).alloc (Nat.le_refl _) _
  have HT := Lib.hid t
  have ht0 := t.at0 hb
  have hbx : (w.alloc (.cells #[.int .i64 4, .int .i64 k, .int .i64 sw, .bool up, .string s] 67)).heap[w.heap.size]? = some (.cells #[.int .i64 4, .int .i64 k, .int .i64 sw, .bool up, .string s] 67 (0, 0)) := heap_alloc_new w _
  have HB := Lib.hid hb
  clear t hb
  generalize hg : twiceE l k = se
  have HS := Lib.hid hg
  clear hg
  go_enter Try.func34, Try.ntmps34
  go_wp2_with fail
  generalize w.alloc (.cells #[.int .i64 4, .int .i64 k, .int .i64 sw, .bool up, .string s] 67) = wb at *
  have t1 := ht0.drew
  have E : Hid (∀ {w' : World} {v u : Value} {n m : Int} {l l' : List Fl}, Tw' B wb w' q v n l r u m l' → w'.cell? ⟨w.heap.size, 1, none⟩ = some (.int .i64 k)) := Lib.hid fun t => block_cell (t.box hbx) 1
  have c1 := E.out ht0
  clear hbx
  go_region_held3 (fun w' => w'.cell? ⟨w.heap.size, 1, none⟩ = some (.int .i64 k))
    (first | exact E.out (by assumption) | assumption | (go_simp; done))
    (first | (go_at_call 76; refine (tw_twice k t1 hl h0 h1).mono ?_; rintro e w4 ⟨rfl, v4, t4⟩; rw [HS.out]) | (go_at_call 77; refine (tw_rtwice k t4 hl h0 h1).mono ?_; rintro e w5 ⟨rfl, u5, t5⟩; rw [HS.out]))
  go_wp2_with fail
  go_ret
  exact ⟨rfl, _, _, HT.out.back HB.out t5⟩
set_option maxRecDepth 100000 in
set_option maxHeartbeats 4000000 in
theorem does_take (k sw : Int) (up : Bool) (s : ByteArray) (t : Tw' B w0 w q v n l r u n l) (hl : l.length ≤ 256) :
    Calls Try.prog 34 #[.pointer (some ⟨q, 0, none⟩), .pointer (some ⟨r, 0, none⟩), .agg #[.int .i64 3, .int .i64 k, .int .i64 sw, .bool up, .string s]] w fun e w' =>
      e = .returned (.bool true) ∧ ∃ v' u', Tw' B w0 w' q v' n (takeL l k) r u' n (takeL l k) := by
  have hb : Below w.heap.size w (w.alloc (.cells #[.int .i64 3, .int .i64 k, .int .i64 sw, .bool up, .string s] 67)) := (Below.refl _ _).alloc (Nat.le_refl _) _
  have HT := Lib.hid t
  have ht0 := t.at0 hb
  have hbx : (w.alloc (.cells #[.int .i64 3, .int .i64 k, .int .i64 sw, .bool up, .string s] 67)).heap[w.heap.size]? = some (.cells #[.int .i64 3, .int .i64 k, .int .i64 sw, .bool up, .string s] 67 (0, 0)) := heap_alloc_new w _
  have HB := Lib.hid hb
  clear t hb
  go_enter Try.func34, Try.ntmps34
  go_wp2_with fail
  generalize w.alloc (.cells #[.int .i64 3, .int .i64 k, .int .i64 sw, .bool up, .string s] 67) = wb at *
  have E : Hid (∀ {w' : World} {v u : Value} {n m : Int} {l l' : List Fl}, Tw' B wb w' q v n l r u m l' → w'.cell? ⟨w.heap.size, 1, none⟩ = some (.int .i64 k)) := Lib.hid fun t => block_cell (t.box hbx) 1
  clear hbx
  have X := Lib.hid (tw_take k ht0 hl)
  have Y := Lib.hid (fun (w1 : World) (v1 : Value) (t : Tw' B wb w1 q v1 n (takeL l k) r u n l) => tw_rtake2 k t hl)
  generalize lookE l k = ee at *
  generalize atK l k = f at *
  generalize f.1 = x at *
  generalize f.2.1 = y at *
  generalize f.2.2 = z at *
  refine X.out.mono ?_
  rintro e w3 ⟨rfl, v3, t3⟩
  have tA := t3.kept ((Below.refl w3.heap.size w3).alloc (Nat.le_refl _) (.cells #[.int .i64 x, .bool y, .string z] 72))
  have hA : (w3.alloc (.cells #[.int .i64 x, .bool y, .string z] 72)).heap[w3.heap.size]? = some (.cells #[.int .i64 x, .bool y, .string z] 72 (0, 0)) := heap_alloc_new w3 _
  have cA := E.out tA
  have c3 := E.out t3
  have b3 : w.heap.size < w3.heap.size := cell_lt c3
  have nA : (w.heap.size = w3.heap.size) = False := eq_false (by omega)
  clear X
  go_wp2_with fail
  generalize w3.alloc (.cells #[.int .i64 x, .bool y, .string z] 72) = wA at *
  refine (Y.out wA v3 tA).mono ?_
  rintro e w4 ⟨rfl, u4, t4, hk⟩
  have h4 := hk _ _ hA
  have l4 := block_lt h4
  have tB := t4.kept ((Below.refl w4.heap.size w4).alloc (Nat.le_refl _) (.cells #[.int .i64 x, .bool y, .string z] 65))
  have a0 : (w4.alloc (.cells #[.int .i64 x, .bool y, .string z] 65)).cell? ⟨w3.heap.size, 0, none⟩ = some (.int .i64 x) := block_cell ((Below.heap_alloc w4 _ _ l4).trans h4) 0
  have a1 : (w4.alloc (.cells #[.int .i64 x, .bool y, .string z] 65)).cell? ⟨w3.heap.size, 1, none⟩ = some (.bool y) := block_cell ((Below.heap_alloc w4 _ _ l4).trans h4) 1
  have a2 : (w4.alloc (.cells #[.int .i64 x, .bool y, .string z] 65)).cell? ⟨w3.heap.size, 2, none⟩ = some (.string z) := block_cell ((Below.heap_alloc w4 _ _ l4).trans h4) 2
  have d0 : (w4.alloc (.cells #[.int .i64 x, .bool y, .string z] 65)).cell? ⟨w4.heap.size, 0, none⟩ = some (.int .i64 x) := block_cell (heap_alloc_new w4 _) 0
  have d1 : (w4.alloc (.cells #[.int .i64 x, .bool y, .string z] 65)).cell? ⟨w4.heap.size, 1, none⟩ = some (.bool y) := block_cell (heap_alloc_new w4 _) 1
  have d2 : (w4.alloc (.cells #[.int .i64 x, .bool y, .string z] 65)).cell? ⟨w4.heap.size, 2, none⟩ = some (.string z) := block_cell (heap_alloc_new w4 _) 2
  have s4 : (w4.alloc (.cells #[.int .i64 x, .bool y, .string z] 65)).heap.size = w4.heap.size + 1 := by simp
  have z1 : w3.heap.size < (w4.alloc (.cells #[.int .i64 x, .bool y, .string z] 65)).heap.size := by omega
  have z2 : w4.heap.size < (w4.alloc (.cells #[.int .i64 x, .bool y, .string z] 65)).heap.size := by omega
  clear hk h4 s4 cA c3 nA hA Y tA t3 t4
  go_wp2_with fail
  generalize w4.alloc (.cells #[.int .i64 x, .bool y, .string z] 65) = wB at *
  refine wp_region_kq (by kernel_rfl) (by kernel_rfl) ?_
  repeat (first | go_big_quiet_step ((go_at_call 42; exact KW.call (mine_c _ _ _ _))) | quiet_step ((go_at_call 42; exact KW.call (mine_c _ _ _ _))))
  refine wpQuiet_nil ?_
  intro kz
  have tz := tB.kept kz.kp
  go_wp2_with fail
  go_ret
  exact ⟨rfl, _, _, HT.out.back HB.out tz⟩
set_option maxRecDepth 100000 in
set_option maxHeartbeats 4000000 in
theorem does_look (k sw : Int) (up : Bool) (s : ByteArray) (t : Tw' B w0 w q v n l r u n l) (hl : l.length ≤ 256) :
    Calls Try.prog 34 #[.pointer (some ⟨q, 0, none⟩), .pointer (some ⟨r, 0, none⟩), .agg #[.int .i64 5, .int .i64 k, .int .i64 sw, .bool up, .string s]] w fun e w' =>
      e = .returned (.bool true) ∧ ∃ v' u', Tw' B w0 w' q v' n l r u' n l := by
  have hb : Below w.heap.size w (w.alloc (.cells #[.int .i64 5, .int .i64 k, .int .i64 sw, .bool up, .string s] 67)) := (Below.refl _ _).alloc (Nat.le_refl _) _
  have HT := Lib.hid t
  have ht0 := t.at0 hb
  have hbx : (w.alloc (.cells #[.int .i64 5, .int .i64 k, .int .i64 sw, .bool up, .string s] 67)).heap[w.heap.size]? = some (.cells #[.int .i64 5, .int .i64 k, .int .i64 sw, .bool up, .string s] 67 (0, 0)) := heap_alloc_new w _
  have HB := Lib.hid hb
  clear t hb
  go_enter Try.func34, Try.ntmps34
  go_wp2_with fail
  generalize w.alloc (.cells #[.int .i64 5, .int .i64 k, .int .i64 sw, .bool up, .string s] 67) = wb at *
  have E : Hid (∀ {w' : World} {v u : Value} {n m : Int} {l l' : List Fl}, Tw' B wb w' q v n l r u m l' → w'.cell? ⟨w.heap.size, 1, none⟩ = some (.int .i64 k)) := Lib.hid fun t => block_cell (t.box hbx) 1
  clear hbx
  have X := Lib.hid (look_c k ht0.P hl)
  have Y := Lib.hid (fun (w1 : World) (t : Tw' B wb w1 q v n l r u n l) => rlook_c k t.R hl)
  generalize lookE l k = ee at *
  generalize atK l k = f at *
  generalize f.1 = x at *
  generalize f.2.1 = y at *
  generalize f.2.2 = z at *
  refine X.out.mono ?_
  rintro e w3 ⟨rfl, hb3⟩
  have t3 := ht0.kept hb3
  have tA := t3.kept ((Below.refl w3.heap.size w3).alloc (Nat.le_refl _) (.cells #[.int .i64 x, .bool y, .string z] 72))
  have hA : (w3.alloc (.cells #[.int .i64 x, .bool y, .string z] 72)).heap[w3.heap.size]? = some (.cells #[.int .i64 x, .bool y, .string z] 72 (0, 0)) := heap_alloc_new w3 _
  have cA := E.out tA
  have c3 := E.out t3
  have b3 : w.heap.size < w3.heap.size := cell_lt c3
  have nA : (w.heap.size = w3.heap.size) = False := eq_false (by omega)
  clear X
  go_wp2_with fail
  generalize w3.alloc (.cells #[.int .i64 x, .bool y, .string z] 72) = wA at *
  refine (Y.out wA tA).mono ?_
  rintro e w4 ⟨rfl, hb4⟩
  have h4 := (hb4.block _ (block_lt hA)).trans hA
  have l4 := block_lt h4
  have t4 := tA.kept hb4
  have tB := t4.kept ((Below.refl w4.heap.size w4).alloc (Nat.le_refl _) (.cells #[.int .i64 x, .bool y, .string z] 65))
  have a0 : (w4.alloc (.cells #[.int .i64 x, .bool y, .string z] 65)).cell? ⟨w3.heap.size, 0, none⟩ = some (.int .i64 x) := block_cell ((Below.heap_alloc w4 _ _ l4).trans h4) 0
  have a1 : (w4.alloc (.cells #[.int .i64 x, .bool y, .string z] 65)).cell? ⟨w3.heap.size, 1, none⟩ = some (.bool y) := block_cell ((Below.heap_alloc w4 _ _ l4).trans h4) 1
  have a2 : (w4.alloc (.cells #[.int .i64 x, .bool y, .string z] 65)).cell? ⟨w3.heap.size, 2, none⟩ = some (.string z) := block_cell ((Below.heap_alloc w4 _ _ l4).trans h4) 2
  have d0 : (w4.alloc (.cells #[.int .i64 x, .bool y, .string z] 65)).cell? ⟨w4.heap.size, 0, none⟩ = some (.int .i64 x) := block_cell (heap_alloc_new w4 _) 0
  have d1 : (w4.alloc (.cells #[.int .i64 x, .bool y, .string z] 65)).cell? ⟨w4.heap.size, 1, none⟩ = some (.bool y) := block_cell (heap_alloc_new w4 _) 1
  have d2 : (w4.alloc (.cells #[.int .i64 x, .bool y, .string z] 65)).cell? ⟨w4.heap.size, 2, none⟩ = some (.string z) := block_cell (heap_alloc_new w4 _) 2
  have s4 : (w4.alloc (.cells #[.int .i64 x, .bool y, .string z] 65)).heap.size = w4.heap.size + 1 := by simp
  have z1 : w3.heap.size < (w4.alloc (.cells #[.int .i64 x, .bool y, .string z] 65)).heap.size := by omega
  have z2 : w4.heap.size < (w4.alloc (.cells #[.int .i64 x, .bool y, .string z] 65)).heap.size := by omega
  clear h4 s4 cA c3 nA hA Y tA t3 t4 hb3 hb4
  go_wp2_with fail
  generalize w4.alloc (.cells #[.int .i64 x, .bool y, .string z] 65) = wB at *
  refine wp_region_kq (by kernel_rfl) (by kernel_rfl) ?_
  repeat (first | go_big_quiet_step ((go_at_call 42; exact KW.call (mine_c _ _ _ _))) | quiet_step ((go_at_call 42; exact KW.call (mine_c _ _ _ _))))
  refine wpQuiet_nil ?_
  intro kz
  have tz := tB.kept kz.kp
  go_wp2_with fail
  go_ret
  exact ⟨rfl, _, _, HT.out.back HB.out tz⟩
set_option maxRecDepth 100000 in
theorem does_none (kd k sw : Int) (up : Bool) (s : ByteArray) (t : Tw' B w0 w q v n l r u n l) (h0 : (kd == 0) = false) (h1 : (kd == 1) = false) (h2 : (kd == 2) = false) (h3 : (kd == 3) = false) (h4 : (kd == 4) = false) (h5 : (kd == 5) = false) :
    Calls Try.prog 34 #[.pointer (some ⟨q, 0, none⟩), .pointer (some ⟨r, 0, none⟩), .agg #[.int .i64 kd, .int .i64 k, .int .i64 sw, .bool up, .string s]] w fun e w' =>
      e = .returned (.bool true) ∧ ∃ v' u', Tw' B w0 w' q v' n l r u' n l := by
  have hb : Below w.heap.size w (w.alloc (.cells #[.int .i64 kd, .int .i64 k, .int .i64 sw, .bool up, .string s] 67)) := (Below.refl _ _).alloc (Nat.le_refl _) _
  have HT := Lib.hid (t.kept hb)
  clear t hb
  go_enter Try.func34, Try.ntmps34
  go_wp2_with fail
  go_ret
  exact ⟨rfl, _, _, HT.out⟩
/-- A deed of both: they stay alike. -/
def after (kd k sw : Int) (up : Bool) (s : ByteArray) (l : List Fl) (n : Int) : List Fl × Int :=
  if kd = 0 ∨ kd = 1 ∨ kd = 2 then (sendL l (sw, up, s), sendN l n) else if kd = 3 then (takeL l k, n) else if kd = 4 then (twiceL l k, twiceN l k n) else (l, n)
theorem after_bd {kd k sw : Int} {up : Bool} {s : ByteArray} {l : List Fl} {n c : Int} (hl : l.length ≤ 256) (h0 : 0 ≤ n) (h1 : n ≤ c) : (after kd k sw up s l n).1.length ≤ 256 ∧ 0 ≤ (after kd k sw up s l n).2 ∧ (after kd k sw up s l n).2 ≤ c + 1 := by
  unfold after
  split
  · exact ⟨sendL_len hl _, sendN_bd h0 h1⟩
  · split
    · exact ⟨takeL_len hl _, h0, by omega⟩
    · split
      · exact ⟨twiceL_len hl _, twiceN_bd h0 h1⟩
      · exact ⟨hl, h0, by omega⟩
theorem does_c (kd k sw : Int) (up : Bool) (s : ByteArray) (t : Tw' B w0 w q v n l r u n l) (hl : l.length ≤ 256) (h0 : 0 ≤ n) (h1 : n ≤ 100000) :
    Calls Try.prog 34 #[.pointer (some ⟨q, 0, none⟩), .pointer (some ⟨r, 0, none⟩), .agg #[.int .i64 kd, .int .i64 k, .int .i64 sw, .bool up, .string s]] w fun e w' =>
      e = .returned (.bool true) ∧ ∃ v' u', Tw' B w0 w' q v' (after kd k sw up s l n).2 (after kd k sw up s l n).1 r u' (after kd k sw up s l n).2 (after kd k sw up s l n).1 := by
  unfold after
  by_cases g0 : kd = 0 ∨ kd = 1 ∨ kd = 2
  · rw [if_pos g0]
    exact does_send kd k sw up s t hl h0 h1 g0
  rw [if_neg g0]
  by_cases g3 : kd = 3
  · subst g3
    rw [if_pos rfl]
    exact does_take k sw up s t hl
  rw [if_neg g3]
  by_cases g4 : kd = 4
  · subst g4
    rw [if_pos rfl]
    exact does_twice k sw up s t hl h0 h1
  rw [if_neg g4]
  by_cases g5 : kd = 5
  · subst g5
    exact does_look k sw up s t hl
  refine does_none kd k sw up s t ?_ ?_ ?_ ?_ ?_ ?_ <;> rw [beq_eq_false_iff_ne] <;> omega
end
end Ch
end Go.Proofs.Ythmglahcampllaa
