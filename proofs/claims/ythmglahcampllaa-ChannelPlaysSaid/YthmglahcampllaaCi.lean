/- What is proved here: what a deed does in both channels. Condition: they lie in memory of the call's own, and are alike. -/
import Derived.Test.YthmglahcampllaaCc
import Derived.Test.YthmglahcampllaaCg
import Derived.Deep.RegionHeld3
import Derived.Deep.RegionWith
import Derived.Deep.DrawnRows
namespace Go.Proofs.Ythmglahcampllaa
open Go Go.RowKit
attribute [local go_sem] KW.cell KW.frozen
attribute [local go_sem ↓] Go.wp_at_zero Go.wp_at_succ
namespace Ch
theorem eql72 (x : Int) (y : Bool) (z : ByteArray) (w : World) : (binOp .eql 72 (.agg #[.int .i64 x, .bool y, .string z]) (.agg #[.int .i64 x, .bool y, .string z])).run Try.prog w = .ok (.bool true) w := by simp [go_sem]
theorem neq72 (x : Int) (y : Bool) (z : ByteArray) (w : World) : (binOp .neq 72 (.agg #[.int .i64 x, .bool y, .string z]) (.agg #[.int .i64 x, .bool y, .string z])).run Try.prog w = .ok (.bool false) w := by simp [go_sem]
/-- Two channels, the program's and the document's, apart; since w0 nothing else was written. -/
structure Tw' (B : Nat) (w0 w : World) (q : Nat) (v : Value) (n : Int) (l : List Fl) (r : Nat) (u : Value) (m : Int) (l' : List Fl) : Prop where
  P : St 99 72 B w q v n l
  R : St 63 65 B w r u m l'
  bl : Below B w0 w
  kp : ∀ (b : Nat) (cs : Array Value) (t : TypeId), w0.heap[b]? = some (.cells cs t (0, 0)) → t ≠ 99 → t ≠ 72 → t ≠ 63 → t ≠ 65 → w.heap[b]? = w0.heap[b]?
section
variable {B q r : Nat} {w0 w w1 : World} {v u : Value} {n m : Int} {l l' : List Fl}
theorem Tw'.kept (t : Tw' B w0 w q v n l r u m l') (hb : Below w.heap.size w w1) : Tw' B w0 w1 q v n l r u m l' := by
  have hB : B ≤ w.heap.size := by have := t.P.hq; have := t.P.lt; omega
  exact ⟨t.P.kept hb, t.R.kept hb, t.bl.trans (hb.mono hB), fun b cs x h h1 h2 h3 h4 => (hb.block b (by have := block_lt ((t.kp b cs x h h1 h2 h3 h4).trans h); omega)).trans (t.kp b cs x h h1 h2 h3 h4)⟩
theorem Tw'.drewN (t : Tw' B w0 w q v n l r u m l') (k : Nat) : Tw' B w0 (w.drewN k) q v n l r u m l' := t.kept (below_drewN (Below.refl _ _) k)
theorem Tw'.drew (t : Tw' B w0 w q v n l r u m l') : Tw' B w0 w.drew q v n l r u m l' := t.kept ((Below.refl _ _).drew)
theorem Tw'.box (t : Tw' B w0 w q v n l r u m l') {b : Nat} {cs : Array Value} (h : w0.heap[b]? = some (.cells cs 67 (0, 0))) : w.heap[b]? = some (.cells cs 67 (0, 0)) := (t.kp b cs 67 h (by decide) (by decide) (by decide) (by decide)).trans h
theorem Tw'.at0 (t : Tw' B w0 w q v n l r u m l') (hb : Below w.heap.size w w1) : Tw' B w1 w1 q v n l r u m l' := ⟨t.P.kept hb, t.R.kept hb, Below.refl _ _, fun _ _ _ _ _ _ _ _ => rfl⟩
/-- Seen from further back. -/
theorem Tw'.back {w2 : World} {v2 u2 : Value} {n2 m2 : Int} {l2 l2' : List Fl} (t : Tw' B w0 w q v n l r u m l') (hb : Below w.heap.size w w1) (t2 : Tw' B w1 w2 q v2 n2 l2 r u2 m2 l2') : Tw' B w0 w2 q v2 n2 l2 r u2 m2 l2' := by
  have hB : B ≤ w.heap.size := by have := t.P.hq; have := t.P.lt; omega
  refine ⟨t2.P, t2.R, (t.bl.trans (hb.mono hB)).trans t2.bl, fun b cs x h h1 h2 h3 h4 => ?_⟩
  have e1 := t.kp b cs x h h1 h2 h3 h4
  have e2 := hb.block b (block_lt (e1.trans h))
  exact (t2.kp b cs x (e2.trans (e1.trans h)) h1 h2 h3 h4).trans (e2.trans e1)
theorem tw_mine (sw : Int) (up : Bool) (s : ByteArray) (t : Tw' B w0 w q v n l r u m l') : Calls Try.prog 42 #[.agg #[.int .i64 sw, .bool up, .string s]] w fun e w' => e = .returned (.agg #[.int .i64 sw, .bool up, .string s]) ∧ Tw' B w0 w' q v n l r u m l' :=
  (mine_c sw up s w).mono fun _ _ ⟨he, hb⟩ => ⟨he, t.kept hb⟩

theorem tw_look (k : Int) (t : Tw' B w0 w q v n l r u m l') (hl : l.length ≤ 256) : Calls Try.prog 41 #[.pointer (some ⟨q, 0, none⟩), .int .i64 k] w fun e w' => e = .returned ((.tuple #[.agg #[.int .i64 (atK l k).1, .bool (atK l k).2.1, .string (atK l k).2.2], .int .i64 (lookE l k)])) ∧ Tw' B w0 w' q v n l r u m l' :=
  (look_c k t.P hl).mono fun _ _ ⟨he, hb⟩ => ⟨he, t.kept hb⟩


theorem tw_rlook (k : Int) (t : Tw' B w0 w q v n l r u m l') (hl : l'.length ≤ 256) : Calls Try.prog 78 #[.pointer (some ⟨r, 0, none⟩), .int .i64 k] w fun e w' => e = .returned ((.tuple #[.agg #[.int .i64 (atK l' k).1, .bool (atK l' k).2.1, .string (atK l' k).2.2], .int .i64 (lookE l' k)])) ∧ Tw' B w0 w' q v n l r u m l' :=
  (rlook_c k t.R hl).mono fun _ _ ⟨he, hb⟩ => ⟨he, t.kept hb⟩


theorem tw_len (t : Tw' B w0 w q v n l r u m l') : Calls Try.prog 35 #[.pointer (some ⟨q, 0, none⟩)] w fun e w' => e = .returned (.int .i64 (l.length : Int)) ∧ Tw' B w0 w' q v n l r u m l' :=
  (len_c t.P).mono fun _ _ ⟨he, hb⟩ => ⟨he, hb ▸ t⟩


theorem tw_lost (t : Tw' B w0 w q v n l r u m l') : Calls Try.prog 36 #[.pointer (some ⟨q, 0, none⟩)] w fun e w' => e = .returned (.int .i64 n) ∧ Tw' B w0 w' q v n l r u m l' :=
  (lost_c t.P).mono fun _ _ ⟨he, hb⟩ => ⟨he, hb ▸ t⟩


theorem tw_of (sw : Int) (t : Tw' B w0 w q v n l r u m l') (hl : l.length ≤ 256) : Calls Try.prog 37 #[.pointer (some ⟨q, 0, none⟩), .int .i64 sw] w fun e w' => e = .returned (.int .i64 (ofN l sw : Nat)) ∧ Tw' B w0 w' q v n l r u m l' :=
  (of_c sw t.P hl).mono fun _ _ ⟨he, hb⟩ => ⟨he, t.kept hb⟩


theorem tw_rof (sw : Int) (t : Tw' B w0 w q v n l r u m l') (hl : l'.length ≤ 256) : Calls Try.prog 38 #[.pointer (some ⟨r, 0, none⟩), .int .i64 sw] w fun e w' => e = .returned (.int .i64 (ofN l' sw : Nat)) ∧ Tw' B w0 w' q v n l r u m l' :=
  (rof_c sw t.R hl).mono fun _ _ ⟨he, hb⟩ => ⟨he, hb ▸ t⟩


theorem tw_next (sw : Int) (up : Bool) (t : Tw' B w0 w q v n l r u m l') (hl : l.length ≤ 256) : Calls Try.prog 39 #[.pointer (some ⟨q, 0, none⟩), .int .i64 sw, .bool up] w fun e w' => e = .returned (.int .i64 (nextN l sw up)) ∧ Tw' B w0 w' q v n l r u m l' :=
  (next_c sw up t.P hl).mono fun _ _ ⟨he, hb⟩ => ⟨he, t.kept hb⟩


theorem tw_rnext (sw : Int) (up : Bool) (t : Tw' B w0 w q v n l r u m l') (hl : l'.length ≤ 256) : Calls Try.prog 40 #[.pointer (some ⟨r, 0, none⟩), .int .i64 sw, .bool up] w fun e w' => e = .returned (.int .i64 (nextN l' sw up)) ∧ Tw' B w0 w' q v n l r u m l' :=
  (rnext_c sw up t.R hl).mono fun _ _ ⟨he, hb⟩ => ⟨he, hb ▸ t⟩


theorem tw_send (sw : Int) (up : Bool) (s : ByteArray) (t : Tw' B w0 w q v n l r u m l') (hl : l.length ≤ 256) (h0 : 0 ≤ n) (h1 : n ≤ 100000) :
    Calls Try.prog 72 #[.pointer (some ⟨q, 0, none⟩), .agg #[.int .i64 sw, .bool up, .string s]] w fun e w' => e = .returned ((.int .i64 (sendE l))) ∧ ∃ v', Tw' B w0 w' q v' (sendN l n) (sendL l (sw, up, s)) r u m l' := by
  refine (send_c sw up s t.P hl h0 h1).mono ?_
  rintro e w' ⟨he, ⟨v', hs⟩, hm⟩
  refine ⟨he, v', ?_⟩
  exact ⟨hs, t.R.other hm (by decide) (by decide) (by decide) (by decide), t.bl.trans (hm.bl.mono (Nat.le_refl _)), fun b cs x hb h1 h2 h3 h4 => (hm.kp b cs x ((t.kp b cs x hb h1 h2 h3 h4).trans hb) h1 h2).trans (t.kp b cs x hb h1 h2 h3 h4)⟩

theorem tw_rsend (sw : Int) (up : Bool) (s : ByteArray) (t : Tw' B w0 w q v n l r u m l') (hl : l'.length ≤ 256) (h0 : 0 ≤ m) (h1 : m ≤ 100000) :
    Calls Try.prog 74 #[.pointer (some ⟨r, 0, none⟩), .agg #[.int .i64 sw, .bool up, .string s]] w fun e w' => e = .returned ((.int .i64 (sendE l'))) ∧ ∃ v', Tw' B w0 w' q v n l r v' (sendN l' m) (sendL l' (sw, up, s)) := by
  refine (rsend_c sw up s t.R hl h0 h1).mono ?_
  rintro e w' ⟨he, ⟨v', hs⟩, hm⟩
  refine ⟨he, v', ?_⟩
  exact ⟨t.P.other hm (by decide) (by decide) (by decide) (by decide), hs, t.bl.trans (hm.bl.mono (Nat.le_refl _)), fun b cs x hb h1 h2 h3 h4 => (hm.kp b cs x ((t.kp b cs x hb h1 h2 h3 h4).trans hb) h3 h4).trans (t.kp b cs x hb h1 h2 h3 h4)⟩


theorem tw_twice (k : Int) (t : Tw' B w0 w q v n l r u m l') (hl : l.length ≤ 256) (h0 : 0 ≤ n) (h1 : n ≤ 100000) :
    Calls Try.prog 76 #[.pointer (some ⟨q, 0, none⟩), .int .i64 k] w fun e w' => e = .returned ((.int .i64 (twiceE l k))) ∧ ∃ v', Tw' B w0 w' q v' (twiceN l k n) (twiceL l k) r u m l' := by
  refine (twice_c k t.P hl h0 h1).mono ?_
  rintro e w' ⟨he, ⟨v', hs⟩, hm⟩
  refine ⟨he, v', ?_⟩
  exact ⟨hs, t.R.other hm (by decide) (by decide) (by decide) (by decide), t.bl.trans (hm.bl.mono (Nat.le_refl _)), fun b cs x hb h1 h2 h3 h4 => (hm.kp b cs x ((t.kp b cs x hb h1 h2 h3 h4).trans hb) h1 h2).trans (t.kp b cs x hb h1 h2 h3 h4)⟩

theorem tw_rtwice (k : Int) (t : Tw' B w0 w q v n l r u m l') (hl : l'.length ≤ 256) (h0 : 0 ≤ m) (h1 : m ≤ 100000) :
    Calls Try.prog 77 #[.pointer (some ⟨r, 0, none⟩), .int .i64 k] w fun e w' => e = .returned ((.int .i64 (twiceE l' k))) ∧ ∃ v', Tw' B w0 w' q v n l r v' (twiceN l' k m) (twiceL l' k) := by
  refine (rtwice_c k t.R hl h0 h1).mono ?_
  rintro e w' ⟨he, ⟨v', hs⟩, hm⟩
  refine ⟨he, v', ?_⟩
  exact ⟨t.P.other hm (by decide) (by decide) (by decide) (by decide), hs, t.bl.trans (hm.bl.mono (Nat.le_refl _)), fun b cs x hb h1 h2 h3 h4 => (hm.kp b cs x ((t.kp b cs x hb h1 h2 h3 h4).trans hb) h3 h4).trans (t.kp b cs x hb h1 h2 h3 h4)⟩


theorem tw_take (k : Int) (t : Tw' B w0 w q v n l r u m l') (hl : l.length ≤ 256) :
    Calls Try.prog 73 #[.pointer (some ⟨q, 0, none⟩), .int .i64 k] w fun e w' => e = .returned ((.tuple #[.agg #[.int .i64 (atK l k).1, .bool (atK l k).2.1, .string (atK l k).2.2], .int .i64 (lookE l k)])) ∧ ∃ v', Tw' B w0 w' q v' (n) (takeL l k) r u m l' := by
  refine (take_c k t.P hl).mono ?_
  rintro e w' ⟨he, ⟨v', hs⟩, hm⟩
  refine ⟨he, v', ?_⟩
  exact ⟨hs, t.R.other hm (by decide) (by decide) (by decide) (by decide), t.bl.trans (hm.bl.mono (Nat.le_refl _)), fun b cs x hb h1 h2 h3 h4 => (hm.kp b cs x ((t.kp b cs x hb h1 h2 h3 h4).trans hb) h1 h2).trans (t.kp b cs x hb h1 h2 h3 h4)⟩

theorem tw_rtake (k : Int) (t : Tw' B w0 w q v n l r u m l') (hl : l'.length ≤ 256) :
    Calls Try.prog 75 #[.pointer (some ⟨r, 0, none⟩), .int .i64 k] w fun e w' => e = .returned ((.tuple #[.agg #[.int .i64 (atK l' k).1, .bool (atK l' k).2.1, .string (atK l' k).2.2], .int .i64 (lookE l' k)])) ∧ ∃ v', Tw' B w0 w' q v n l r v' (m) (takeL l' k) := by
  refine (rtake_c k t.R hl).mono ?_
  rintro e w' ⟨he, ⟨v', hs⟩, hm⟩
  refine ⟨he, v', ?_⟩
  exact ⟨t.P.other hm (by decide) (by decide) (by decide) (by decide), hs, t.bl.trans (hm.bl.mono (Nat.le_refl _)), fun b cs x hb h1 h2 h3 h4 => (hm.kp b cs x ((t.kp b cs x hb h1 h2 h3 h4).trans hb) h3 h4).trans (t.kp b cs x hb h1 h2 h3 h4)⟩

set_option maxRecDepth 100000 in
set_option maxHeartbeats 4000000 in
theorem does_send (kd k sw : Int) (up : Bool) (s : ByteArray) (t : Tw' B w0 w q v n l r u n l) (hl : l.length ≤ 256) (h0 : 0 ≤ n) (h1 : n ≤ 100000) (hk : kd = 0 ∨ kd = 1 ∨ kd = 2) :
    Calls Try.prog 34 #[.pointer (some ⟨q, 0, none⟩), .pointer (some ⟨r, 0, none⟩), .agg #[.int .i64 kd, .int .i64 k, .int .i64 sw, .bool up, .string s]] w fun e w' =>
      e = .returned (.bool true) ∧ ∃ v' u', Tw' B w0 w' q v' (sendN l n) (sendL l (sw, up, s)) r u' (sendN l n) (sendL l (sw, up, s)) := by
  have hb : Below w.heap.size w (w.alloc (.cells #[.int .i64 kd, .int .i64 k, .int .i64 sw, .bool up, .string s] 67)) := (Below.refl _ _).alloc (Nat.le_refl _) _
  have HT := Lib.hid t
  have ht0 := t.at0 hb
  have hbx : (w.alloc (.cells #[.int .i64 kd, .int .i64 k, .int .i64 sw, .bool up, .string s] 67)).heap[w.heap.size]? = some (.cells #[.int .i64 kd, .int .i64 k, .int .i64 sw, .bool up, .string s] 67 (0, 0)) := heap_alloc_new w _
  have HB := Lib.hid hb
  clear t hb
  generalize hg : sendE l = se
  have HS := Lib.hid hg
  clear hg
  rcases hk with rfl | rfl | rfl
  all_goals
    go_enter Try.func34, Try.ntmps34
    go_wp2_with fail
    refine abs_wp ?_
    intro wb hwb
    obtain rfl := hwb
    generalize w.alloc (.cells #[_, .int .i64 k, .int .i64 sw, .bool up, .string s] 67) = wb at *
    have t1 := ht0.drew
    have E : Hid (∀ {w' : World} {v u : Value} {n m : Int} {l l' : List Fl}, Tw' B wb w' q v n l r u m l' → w'.cell? ⟨w.heap.size, 2, none⟩ = some (.int .i64 sw) ∧ w'.cell? ⟨w.heap.size, 3, none⟩ = some (.bool up) ∧ w'.cell? ⟨w.heap.size, 4, none⟩ = some (.string s)) := Lib.hid fun t => ⟨block_cell (t.box hbx) 2, block_cell (t.box hbx) 3, block_cell (t.box hbx) 4⟩
    obtain ⟨c2, c3, c4⟩ := E.out ht0
    clear hbx
    go_region_held3 (fun w' => w'.cell? ⟨w.heap.size, 2, none⟩ = some (.int .i64 sw) ∧ w'.cell? ⟨w.heap.size, 3, none⟩ = some (.bool up) ∧ w'.cell? ⟨w.heap.size, 4, none⟩ = some (.string s))
      (first | exact E.out (by assumption) | (refine ⟨?_, ?_, ?_⟩ <;> first | assumption | (go_simp; done)))
      (first | (go_at_call 42; refine (tw_mine sw up s t1).mono ?_; rintro e w3 ⟨rfl, t3⟩) | (go_at_call 72; refine (tw_send sw up s t3 hl h0 h1).mono ?_; rintro e w4 ⟨rfl, v4, t4⟩; rw [HS.out]) | (go_at_call 74; refine (tw_rsend sw up s t4 hl h0 h1).mono ?_; rintro e w5 ⟨rfl, u5, t5⟩; rw [HS.out]))
    go_wp2_with fail
    go_ret
    exact ⟨rfl, _, _, HT.out.back HB.out t5⟩
end
end Ch
end Go.Proofs.Ythmglahcampllaa
