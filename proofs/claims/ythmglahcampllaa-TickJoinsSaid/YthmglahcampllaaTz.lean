/- What is proved here: the document's Eval answers what the plain reckoning does. Condition: the operations can be read. -/
import Derived.Test.YthmglahcampllaaTn
import Derived.Laws.AppendOwnNone
import Derived.Deep.Slices
import Derived.Maps.AppendAt
namespace Go.Proofs.Ythmglahcampllaa
open Go Go.RowKit

theorem add_head (g n : Nat) : (⟨g, 0, none⟩ : Addr).add n = ⟨g, n, none⟩ := by
  unfold Addr.add
  split
  · subst_vars; rfl
  · simp

theorem add_block (a : Addr) (n : Nat) : (a.add n).block = a.block := by
  unfold Addr.add
  split <;> rfl

/-- The slice v reads as the operations os. -/
def Reads (v : Value) (os : List (Int × Int)) (w : World) : Prop :=
  (v = .slice none 0 0 ∧ os = []) ∨ ∃ (a : Addr) (cap : Nat), v = .slice (some a) os.length cap ∧ (0 < os.length → a.block < w.heap.size) ∧ os.length ≤ cap ∧ cap ≤ maxLen ∧
    ∀ i (h : i < os.length), w.cell? (a.add (i * 2)) = some (.int .i64 (os[i]).1) ∧ w.cell? (a.add (i * 2 + 1)) = some (.int .i64 (os[i]).2)
theorem Reads.kept {v : Value} {os : List (Int × Int)} {w w' : World} (h : Reads v os w) (hb : Below w.heap.size w w') : Reads v os w' := by
  rcases h with h | ⟨a, cap, hv, hg, h1, h2, hc⟩
  · exact .inl h
  · refine .inr ⟨a, cap, hv, fun h0 => Nat.lt_of_lt_of_le (hg h0) hb.size, h1, h2, fun i hi => ?_⟩
    have hg := hg (by omega)
    rw [hb.cell (p := a.add (i * 2)) (by rw [add_block]; exact hg), hb.cell (p := a.add (i * 2 + 1)) (by rw [add_block]; exact hg)]
    exact hc i hi

def cutTo (m : Nat) : Value → Value
  | .slice (some a) _ c => .slice (some a) m c
  | v => v

theorem wpList_copy25 {ops : Array Oper} {rest : List Oper} {o : Oper} {a : Act} {Q : Exit → Act → World → Prop} (w : World) (hgd : o.guard = none) (s x : Operand)
    (ho : o.op = .call { callee := .builtin .append, args := #[s, x], argTypes := #[25, 25] }) (B : Nat) (v : Value) (n m : Nat) (xs : List Value) (hs : a.eval s = .slice none 0 0)
    (hown : w.ownsRow B 3 1 v n xs) (hm : m ≤ n) (hx : a.eval x = cutTo m v) (h1 : ∀ u ∈ xs, u.oneCell' = true) (hn : n ≤ 1000) (hB : B ≤ w.heap.size)
    (h : ∀ v' w', w'.ownsRow B 3 1 v' m (xs.take m) → w.grownBy w' none → wpList Try.prog ops Q rest (a.put o.dst v') w') : wpList Try.prog ops Q (o :: rest) a w := by
  obtain ⟨i0, hi, hz0, hz1, hz2⟩ := info_parts Try.info3
  have hnil : w.ownsRow B 3 1 (.slice none 0 0) 0 [] := ⟨rfl, .inl ⟨rfl, rfl⟩⟩
  have hxl : xs.length = n := by simpa using hown.1
  have hown' := hown
  rcases hown'.2 with ⟨rfl, h0⟩ | ⟨g, cap, cur, rfl, _⟩
  · have hm0 : m = 0 := by omega
    subst hm0
    refine wpList_append_own_none hgd s x 25 ho B 3 i0 1 Try.underlying25 hi (.slice none 0 0) 0 [] hs hnil hx ?_
    exact h _ _ (by simpa using hnil) (World.grownBy.refl _ _)
  · refine wpList_append_own w hgd s x 25 ho B 3 i0 (.int .i64 0) 1 8 Try.underlying25 hi hz0 hz1 hz2 rfl (by decide) (.slice none 0 0) 0 [] hs hnil ⟨g, 0, none⟩ m cap (xs.take m) hx (by simp; omega)
      (fun j u hj => hown.cells rfl j u ?_) (fun u hu => h1 u (List.mem_of_mem_take hu)) (by unfold maxLen; omega) (by omega) hB ?_
    · rw [List.getElem?_take] at hj
      split at hj
      · exact hj
      · cases hj
    · intro v' w' hown1 hgrow _
      refine h v' w' ?_ hgrow
      have : 0 + m = m := by omega
      rw [this] at hown1
      exact hown1

theorem below_grown' {B n : Nat} {w wx w1 w2 : World} {v : Value} {vs : List Value} (h : Below B w w1) (hB : B ≤ w1.heap.size) (hg : w1.grownBy w2 v.ownBlock) (hown : wx.ownsRow B 3 1 v n vs) : Below B w w2 := by
  refine h.grown hg hB fun k hk => ?_
  rcases hown.2 with ⟨rfl, _⟩ | ⟨g, cap, cur, rfl, hg', _⟩
  · simp [Value.ownBlock] at hk
  · simp [Value.ownBlock] at hk
    omega

theorem below_none {B : Nat} {w w1 w2 : World} (h : Below B w w1) (hB : B ≤ w1.heap.size) (hg : w1.grownBy w2 none) : Below B w w2 := h.grown hg hB fun k hk => by cases hk

set_option maxRecDepth 100000 in
set_option maxHeartbeats 8000000 in
theorem reval_run (ad : Addr) (cap : Nat) (os : List (Int × Int)) (w : World) (hlen : os.length ≤ 64) (hg0 : 0 < os.length → ad.block < w.heap.size)
    (hc : ∀ i (h : i < os.length), w.cell? (ad.add (i * 2)) = some (.int .i64 (os[i]).1) ∧ w.cell? (ad.add (i * 2 + 1)) = some (.int .i64 (os[i]).2)) :
    Calls Try.prog 20 #[.slice (some ad) os.length cap] w fun e w' => e = .returned (.tuple #[.int .i64 (Pl.eval os).1, .int .i64 (Pl.eval os).2]) ∧ Below w.heap.size w w' := by
  have HC := Lib.hid hc
  have hd : decide (64 < (os.length : Int)) = false := by simp; omega
  clear hc
  go_enter Try.func20, Try.ntmps20
  go_wp2_with fail
  go_loopw [4, 5] (fun p i wr => ∃ (k : Nat) (st : List Int), i = .int .i64 k ∧ k ≤ os.length ∧ Pl.run (os.take k) [] = .ok st ∧ st.length ≤ k ∧ Pl.allTm st ∧ wr.ownsRow w.heap.size 3 1 p st.length (st.reverse.map (Value.int .i64)) ∧ Below w.heap.size w wr) (fun _ i _ => os.length - (intOf i).toNat)
  case atStart => exact ⟨0, [], rfl, Nat.zero_le _, rfl, Nat.le_refl _, fun x hx => (by cases hx), ⟨rfl, .inl ⟨rfl, rfl⟩⟩, Below.refl _ _⟩
  case round =>
    obtain ⟨k, st, rfl, hk, hrun, hst, htm, hown, hb⟩ := hrel
    have hs := hb.size
    have hone : ∀ u ∈ st.reverse.map (Value.int .i64), u.oneCell' = true := by
      intro u hu
      obtain ⟨x, _, rfl⟩ := List.mem_map.1 hu
      rfl
    by_cases hlt : k < os.length
    · have hg := hg0 (by omega)
      have hcs := HC.out k hlt
      have c0 : wr.cell? (ad.add (k * 2)) = some (.int .i64 (os[k]).1) := (hb.cell (p := ad.add (k * 2)) (by rw [add_block]; exact hg)).trans hcs.1
      have c1 : wr.cell? (ad.add (k * 2 + 1)) = some (.int .i64 (os[k]).2) := (hb.cell (p := ad.add (k * 2 + 1)) (by rw [add_block]; exact hg)).trans hcs.2
      have c2 : wr.cell? ⟨(ad.add (k * 2)).block, (ad.add (k * 2)).off + 1, none⟩ = some (.int .i64 (os[k]).2) := (by rw [Go.Deep.add_add]; exact c1 : wr.cell? ((ad.add (k * 2)).add 1) = some (.int .i64 (os[k]).2))
      have hdk : decide ((k : Int) < (os.length : Int)) = true := by simp; omega
      clear hcs
      have EV : ∀ {c : Int}, Pl.step st (os[k]).1 (os[k]).2 = .error c → Pl.eval os = (0, c) := by
        intro c hstep
        have h1 : Pl.run (os.take (k + 1)) [] = .error c := by
          rw [take_snoc os k hlt, Pl.run_snoc, hrun]
          exact hstep
        have h2 := Pl.run_err _ (os.drop (k + 1)) c _ h1
        rw [List.take_append_drop] at h2
        unfold Pl.eval
        rw [if_neg (by omega), h2]
      have NX : ∀ {st' : List Int}, Pl.step st (os[k]).1 (os[k]).2 = .ok st' → Pl.run (os.take (k + 1)) [] = .ok st' := by
        intro st' hstep
        rw [take_snoc os k hlt, Pl.run_snoc, hrun]
        exact hstep
      generalize (os[k]).1 = kk at *
      generalize (os[k]).2 = nn at *
      clear hrun
      by_cases k1 : kk = 1
      · subst k1
        cases ht : Pl.tm nn with
        | false =>
          rcases hown.2 with ⟨rfl, h0⟩ | ⟨g, rcap, cur, rfl, hBg, hgg, hnc, _⟩
          all_goals
            have hst1 : Pl.step st 1 nn = .error 11 := by simp [Pl.step, ht]
            have hev := EV hst1
            clear EV NX HC
            go_wp2_with (first | (go_at_call 57; refine (rtime _ _).mono ?_; rintro e w' ⟨rfl, rfl⟩) | (go_at_call 46; refine (rneg _ _).mono ?_; rw [hneg]; rintro e w' ⟨rfl, rfl⟩))
            all_goals (go_returns; exact ⟨by first | rfl | (rw [hev]; rfl), by assumption⟩)
        | true =>
          have hst1 : Pl.step st 1 nn = .ok (nn :: st) := by simp [Pl.step, ht]
          rcases hown.2 with ⟨rfl, h0⟩ | ⟨g, rcap, cur, rfl, hBg, hgg, hnc, _⟩
          · have hl0 : st = [] := by simpa using h0
            subst hl0
            go_wp2_with (first | (at_builtin; refine wpList_copy25 _ rfl _ _ rfl w.heap.size _ 0 0 (_) (by rfl) hown (by omega) (by rfl) hone (by omega) (by go_size) ?_) | (go_at_call 57; refine (rtime _ _).mono ?_; rintro e w' ⟨rfl, rfl⟩) | (go_at_call 46; refine (rneg _ _).mono ?_; rw [hneg]; rintro e w' ⟨rfl, rfl⟩))
            intro q1 v1 hq1 hg1
            have hbq := below_none hb (by go_size) hg1
            have hzq := hbq.size
            obtain ⟨i0, hi0, hz0, hz1, hz2⟩ := info_parts Try.info3
            go_wp2_with (at_builtin; refine wpList_append_own _ rfl _ _ 25 rfl w.heap.size 3 i0 (.int .i64 0) 1 8 Try.underlying25 hi0 hz0 hz1 hz2 rfl (by decide) q1 (0) _ (by rfl) (hq1.alloc _) ⟨v1.heap.size, 0, none⟩ 1 1 [.int .i64 (nn)] (by rfl) (by rfl) (cell_one_new _ _ _) (by simp [Value.oneCell']) (by unfold maxLen; omega) (by omega) (by go_size) ?_)
            intro q2 v2 hq2 hg2 _
            have hbq2 := below_grown' (hbq.alloc (by go_size) _) (by go_size) hg2 hq1
            clear hone
            go_wp2_with fail
            go_roundw
            case rel => exact ⟨k + 1, [nn], by go_num, by omega, NX hst1, by (simp at hst ⊢; try omega), Pl.step_tm htm hst1, by simpa using hq2, hbq2⟩
            case measure => simp [intOf]; omega

          · go_wp2_with (first | (at_builtin; refine wpList_copy25 _ rfl _ _ rfl w.heap.size _ st.length st.length (_) (by rfl) hown (by omega) (by rfl) hone (by omega) (by go_size) ?_) | (go_at_call 57; refine (rtime _ _).mono ?_; rintro e w' ⟨rfl, rfl⟩) | (go_at_call 46; refine (rneg _ _).mono ?_; rw [hneg]; rintro e w' ⟨rfl, rfl⟩))
            intro q1 v1 hq1 hg1
            have hbq := below_none hb (by go_size) hg1
            have hzq := hbq.size
            obtain ⟨i0, hi0, hz0, hz1, hz2⟩ := info_parts Try.info3
            go_wp2_with (at_builtin; refine wpList_append_own _ rfl _ _ 25 rfl w.heap.size 3 i0 (.int .i64 0) 1 8 Try.underlying25 hi0 hz0 hz1 hz2 rfl (by decide) q1 (st.length) _ (by rfl) (hq1.alloc _) ⟨v1.heap.size, 0, none⟩ 1 1 [.int .i64 (nn)] (by rfl) (by rfl) (cell_one_new _ _ _) (by simp [Value.oneCell']) (by unfold maxLen; omega) (by omega) (by go_size) ?_)
            intro q2 v2 hq2 hg2 _
            have hbq2 := below_grown' (hbq.alloc (by go_size) _) (by go_size) hg2 hq1
            clear hone
            go_wp2_with fail
            go_roundw
            case rel => exact ⟨k + 1, (nn :: st), by go_num, by omega, NX hst1, by (simp at hst ⊢; try omega), Pl.step_tm htm hst1, by (rw [List.take_of_length_le (by simp)] at hq2; simpa using hq2), hbq2⟩
            case measure => simp [intOf]; omega
      by_cases k7 : kk = 7
      · subst k7
        cases st with
        | nil =>
          rcases hown.2 with ⟨rfl, h0⟩ | ⟨g, rcap, cur, rfl, hBg, hgg, hnc, _⟩
          all_goals
            have hst1 : Pl.step [] 7 nn = .error 2 := by simp [Pl.step]
            have hev := EV hst1
            clear EV NX HC
            go_wp2_with (first | (go_at_call 57; refine (rtime _ _).mono ?_; rintro e w' ⟨rfl, rfl⟩) | (go_at_call 46; refine (rneg _ _).mono ?_; rw [hneg]; rintro e w' ⟨rfl, rfl⟩))
            all_goals (go_returns; exact ⟨by first | rfl | (rw [hev]; rfl), by assumption⟩)

        | cons x r =>
          have hx : Pl.tm x = true := htm x (by simp)
          have bx := Pl.tm_true.1 hx
          have hnx : Pl.tm (-x) = true := Pl.tm_true.2 (by omega)
          have hneg : Pl.negR x = (-x, 0) := by simp [Pl.negR, hx]
          have hst1 : Pl.step (x :: r) 7 nn = .ok (-x :: r) := by simp [Pl.step]
          simp only [List.length_cons] at hown hst
          rcases hown.2 with ⟨_, h0⟩ | ⟨g, rcap, cur, rfl, hBg, hgg, hnc, _⟩
          · omega
          have hcx : wr.cell? ⟨g, r.length, none⟩ = some (.int .i64 x) := by
            have := hown.cells rfl r.length (.int .i64 x) (by simp)
            rw [add_head] at this; exact this
          have e3 : IntKind.i64.wrap ((r.length : Int) + 1 - 1) = (r.length : Int) := by rw [IntWalk.i64_in _ (by omega)]; omega
          have htk : ((x :: r).reverse.map (Value.int .i64)).take r.length = r.reverse.map (Value.int .i64) := by simp
          go_wp2_with (first | (at_builtin; refine wpList_copy25 _ rfl _ _ rfl w.heap.size _ (r.length + 1) r.length (_) (by rfl) hown (by omega) (by rfl) hone (by omega) (by go_size) ?_) | (go_at_call 57; refine (rtime _ _).mono ?_; rintro e w' ⟨rfl, rfl⟩) | (go_at_call 46; refine (rneg _ _).mono ?_; rw [hneg]; rintro e w' ⟨rfl, rfl⟩))
          intro q1 v1 hq1 hg1
          have hbq := below_none hb (by go_size) hg1
          have hzq := hbq.size
          obtain ⟨i0, hi0, hz0, hz1, hz2⟩ := info_parts Try.info3
          go_wp2_with (at_builtin; refine wpList_append_own _ rfl _ _ 25 rfl w.heap.size 3 i0 (.int .i64 0) 1 8 Try.underlying25 hi0 hz0 hz1 hz2 rfl (by decide) q1 (r.length) _ (by rfl) (hq1.alloc _) ⟨v1.heap.size, 0, none⟩ 1 1 [.int .i64 (-x)] (by rfl) (by rfl) (cell_one_new _ _ _) (by simp [Value.oneCell']) (by unfold maxLen; omega) (by omega) (by go_size) ?_)
          intro q2 v2 hq2 hg2 _
          have hbq2 := below_grown' (hbq.alloc (by go_size) _) (by go_size) hg2 hq1
          clear hone
          go_wp2_with fail
          go_roundw
          case rel => exact ⟨k + 1, (-x :: r), by go_num, by omega, NX hst1, by (simp at hst ⊢; try omega), Pl.step_tm htm hst1, by (first | simpa using hq2 | (rw [htk] at hq2; simpa using hq2)), hbq2⟩
          case measure => simp [intOf]; omega
      by_cases k26 : 2 ≤ kk ∧ kk ≤ 6
      · have q1 : (kk == 1) = false := by simpa using k1
        have q7 : (kk == 7) = false := by simpa using k7
        have d1 : decide (kk < 1) = false := by simp; omega
        have d7 : decide (7 < kk) = false := by simp; omega
        have K1 := Lib.hid k1
        have K7 := Lib.hid k7
        have K26 := Lib.hid k26
        clear k1 k7 k26
        cases st with
        | nil =>
          rcases hown.2 with ⟨rfl, h0⟩ | ⟨g, rcap, cur, rfl, hBg, hgg, hnc, _⟩
          all_goals
            have hst1 : Pl.step [] kk nn = .error 2 := by simp [Pl.step, K1.out, K7.out, K26.out]
            have hev := EV hst1
            clear EV NX HC
            go_wp2_with (first | (go_at_call 57; refine (rtime _ _).mono ?_; rintro e w' ⟨rfl, rfl⟩) | (go_at_call 46; refine (rneg _ _).mono ?_; rw [hneg]; rintro e w' ⟨rfl, rfl⟩))
            all_goals (go_returns; exact ⟨by first | rfl | (rw [hev]; rfl), by assumption⟩)

        | cons y st =>
          cases st with
          | nil =>
            simp only [List.length_cons, List.length_nil] at hown
            rcases hown.2 with ⟨_, h0⟩ | ⟨g, rcap, cur, rfl, hBg, hgg, hnc, _⟩
            · omega
            have hst1 : Pl.step [y] kk nn = .error 2 := by simp [Pl.step, K1.out, K7.out, K26.out]
            have hev := EV hst1
            clear EV NX HC
            go_wp2_with (first | (go_at_call 57; refine (rtime _ _).mono ?_; rintro e w' ⟨rfl, rfl⟩) | (go_at_call 46; refine (rneg _ _).mono ?_; rw [hneg]; rintro e w' ⟨rfl, rfl⟩))
            all_goals (go_returns; exact ⟨by first | rfl | (rw [hev]; rfl), by assumption⟩)

          | cons x r =>
            have hx : Pl.tm x = true := htm x (by simp)
            have hy : Pl.tm y = true := htm y (by simp)
            simp only [List.length_cons] at hown hst
            rcases hown.2 with ⟨_, h0⟩ | ⟨g, rcap, cur, rfl, hBg, hgg, hnc, _⟩
            · omega
            have hcx : wr.cell? ⟨g, r.length, none⟩ = some (.int .i64 x) := by
              have := hown.cells rfl r.length (.int .i64 x) (by simp)
              rw [add_head] at this; exact this
            have hcy : wr.cell? ⟨g, r.length + 1, none⟩ = some (.int .i64 y) := by
              have := hown.cells rfl (r.length + 1) (.int .i64 y) (by simp)
              rw [add_head] at this; exact this
            have e3 : IntKind.i64.wrap ((r.length : Int) + 1 + 1 - 1) = (r.length : Int) + 1 := by rw [IntWalk.i64_in _ (by omega)]; omega
            have e4 : IntKind.i64.wrap ((r.length : Int) + 1 + 1 - 2) = (r.length : Int) := by rw [IntWalk.i64_in _ (by omega)]; omega
            have htk : ((y :: x :: r).reverse.map (Value.int .i64)).take r.length = r.reverse.map (Value.int .i64) := by simp
            have dn : decide ((r.length : Int) + 1 + 1 < 2) = false := by simp; omega
            have ht0 := rtwo kk x y
            cases ht : Pl.tm (Pl.two kk x y) with
            | false =>
              have htr : Pl.twoR kk x y = (0, 11) := by simp [Pl.twoR, ht]
              rw [htr] at ht0
              have HT := Lib.hid (fun w => ht0 w hx hy)
              clear ht0
              have hst1 : Pl.step (y :: x :: r) kk nn = .error 11 := by simp [Pl.step, K1.out, K7.out, K26.out, ht]
              have hev := EV hst1
              clear EV NX HC
              go_wp2_with fail
              refine wp_region_dw 18 (by kernel_rfl) (by kernel_rfl) ?_
              simp only [List.take_succ_cons, List.take_zero, List.drop_succ_cons, List.drop_zero]
              repeat (first | go_big_quiet_step ((go_at_call 56; exact quiet_eq (HT.out _))) | quiet_step ((go_at_call 56; exact quiet_eq (HT.out _))))
              refine wpQuiet_nil ?_
              intro j
              have hbj := below_drewN hb j
              have hownj : (wr.drewN j).ownsRow w.heap.size 3 1 (.slice (some ⟨g, 0, none⟩) (r.length + 1 + 1) rcap) (r.length + 1 + 1) ((y :: x :: r).reverse.map (Value.int .i64)) := hown
              have hsj : w.heap.size ≤ (wr.drewN j).heap.size := hs
              go_wp2_with (first | (go_at_call 57; refine (rtime _ _).mono ?_; rintro e w' ⟨rfl, rfl⟩) | (go_at_call 46; refine (rneg _ _).mono ?_; rw [hneg]; rintro e w' ⟨rfl, rfl⟩))
              all_goals (go_returns; exact ⟨by first | rfl | (rw [hev]; rfl), by assumption⟩)

            | true =>
              have htr : Pl.twoR kk x y = (Pl.two kk x y, 0) := by simp [Pl.twoR, ht]
              rw [htr] at ht0
              have HT := Lib.hid (fun w => ht0 w hx hy)
              clear ht0
              have hst1 : Pl.step (y :: x :: r) kk nn = .ok (Pl.two kk x y :: r) := by simp [Pl.step, K1.out, K7.out, K26.out, ht]
              generalize Pl.two kk x y = tt at *
              go_wp2_with fail
              refine wp_region_dw 18 (by kernel_rfl) (by kernel_rfl) ?_
              simp only [List.take_succ_cons, List.take_zero, List.drop_succ_cons, List.drop_zero]
              repeat (first | go_big_quiet_step ((go_at_call 56; exact quiet_eq (HT.out _))) | quiet_step ((go_at_call 56; exact quiet_eq (HT.out _))))
              refine wpQuiet_nil ?_
              intro j
              have hbj := below_drewN hb j
              have hownj : (wr.drewN j).ownsRow w.heap.size 3 1 (.slice (some ⟨g, 0, none⟩) (r.length + 1 + 1) rcap) (r.length + 1 + 1) ((y :: x :: r).reverse.map (Value.int .i64)) := hown
              have hsj : w.heap.size ≤ (wr.drewN j).heap.size := hs
              go_wp2_with (first | (at_builtin; refine wpList_copy25 _ rfl _ _ rfl w.heap.size _ (r.length + 1 + 1) r.length (_) (by rfl) hownj (by omega) (by rfl) hone (by omega) (by go_size) ?_) | (go_at_call 57; refine (rtime _ _).mono ?_; rintro e w' ⟨rfl, rfl⟩) | (go_at_call 46; refine (rneg _ _).mono ?_; rw [hneg]; rintro e w' ⟨rfl, rfl⟩))
              intro q1 v1 hq1 hg1
              have hbq := below_none hbj (by go_size) hg1
              have hzq := hbq.size
              obtain ⟨i0, hi0, hz0, hz1, hz2⟩ := info_parts Try.info3
              go_wp2_with (at_builtin; refine wpList_append_own _ rfl _ _ 25 rfl w.heap.size 3 i0 (.int .i64 0) 1 8 Try.underlying25 hi0 hz0 hz1 hz2 rfl (by decide) q1 (r.length) _ (by rfl) (hq1.alloc _) ⟨v1.heap.size, 0, none⟩ 1 1 [.int .i64 (tt)] (by rfl) (by rfl) (cell_one_new _ _ _) (by simp [Value.oneCell']) (by unfold maxLen; omega) (by omega) (by go_size) ?_)
              intro q2 v2 hq2 hg2 _
              have hbq2 := below_grown' (hbq.alloc (by go_size) _) (by go_size) hg2 hq1
              clear hone
              go_wp2_with fail
              go_roundw
              case rel => exact ⟨k + 1, (tt :: r), by go_num, by omega, NX hst1, by (simp at hst ⊢; try omega), Pl.step_tm htm hst1, by (first | simpa using hq2 | (rw [htk] at hq2; simpa using hq2)), hbq2⟩
              case measure => simp [intOf]; omega

      · have q1 : (kk == 1) = false := by simpa using k1
        have q7 : (kk == 7) = false := by simpa using k7
        have hst1 : Pl.step st kk nn = .error 2 := by simp [Pl.step, k1, k7, k26]
        have hev := EV hst1
        clear EV NX HC
        by_cases d1 : kk < 1
        · clear k26 k1 k7
          rcases hown.2 with ⟨rfl, h0⟩ | ⟨g, rcap, cur, rfl, hBg, hgg, hnc, _⟩
          all_goals
            go_wp2_with fail
            all_goals (go_returns; exact ⟨by first | rfl | (rw [hev]; rfl), by assumption⟩)
        have d7 : 7 < kk := by omega
        clear k26 k1 k7
        rcases hown.2 with ⟨rfl, h0⟩ | ⟨g, rcap, cur, rfl, hBg, hgg, hnc, _⟩
        all_goals
          go_wp2_with fail
          all_goals (go_returns; exact ⟨by first | rfl | (rw [hev]; rfl), by assumption⟩)
    · have hkl : k = os.length := by omega
      subst hkl
      rw [List.take_length] at hrun
      have hdk : decide ((os.length : Int) < (os.length : Int)) = false := by simp
      have hev0 : Pl.eval os = match Pl.run os [] with | .ok [v] => (v, 0) | .ok _ => (0, 2) | .error c => (0, c) := by
        unfold Pl.eval
        rw [if_neg (by omega)]
        rfl
      rw [hrun] at hev0
      clear hrun HC
      cases st with
      | nil =>
        have hev : Pl.eval os = (0, 2) := hev0
        clear hev0
        rcases hown.2 with ⟨rfl, h0⟩ | ⟨g, rcap, cur, rfl, hBg, hgg, hnc, _⟩
        all_goals
          go_wp2_with fail
          all_goals (go_returns; exact ⟨by first | rfl | (rw [hev]; rfl), by assumption⟩)
      | cons n st =>
        rcases hown.2 with ⟨_, h0⟩ | ⟨g, rcap, cur, rfl, hBg, hgg, hnc, _⟩
        · simp at h0
        cases st with
        | nil =>
          have hev : Pl.eval os = (n, 0) := hev0
          clear hev0
          have hcx : wr.cell? ⟨g, 0, none⟩ = some (.int .i64 n) := by
            have := hown.cells rfl 0 (.int .i64 n) (by simp)
            rw [add_head] at this; exact this
          go_wp2_with fail
          all_goals (go_returns; exact ⟨by first | rfl | (rw [hev]; rfl), by assumption⟩)
        | cons m st =>
          have hev : Pl.eval os = (0, 2) := hev0
          clear hev0
          have dn : (((m :: n :: st).length : Int) == 1) = false := by rw [beq_eq_false_iff_ne]; simp; omega
          simp only [List.length_cons] at hown hst dn
          have dn2 : ((st.length : Int) + 1 + 1 == 1) = false := by rw [beq_eq_false_iff_ne]; omega
          go_wp2_with fail
          all_goals (go_returns; exact ⟨by first | rfl | (rw [hev]; rfl), by assumption⟩)
end Go.Proofs.Ythmglahcampllaa
