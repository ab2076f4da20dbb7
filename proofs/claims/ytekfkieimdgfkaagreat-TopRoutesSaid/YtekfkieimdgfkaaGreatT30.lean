/- What is proved here: tables in memory; what Compile tells of a text. Condition: what Parse, Check and Table tell is known. -/
import Derived.Test.YtekfkieimdgfkaaGreatT26
namespace Go.Proofs.YtekfkieimdgfkaaGreat
open Go Go.RowKit
attribute [local go_sem] KW.cell KW.frozen
theorem inf25 : (Tryz.prog.info? 25).map (·.size) = some 3 := by kernel_rfl
theorem und25 : ∃ fs, Tryz.prog.underlying 25 = some (.struct fs) := by
  have h : (match Tryz.prog.underlying 25 with | some (.struct _) => true | _ => false) = true := by kernel_rfl
  cases hu : Tryz.prog.underlying 25 with
  | none => rw [hu] at h; cases h
  | some d => cases d <;> (rw [hu] at h; first | exact ⟨_, rfl⟩ | cases h)
theorem el33 : Elem Tryz.prog 33 41 1 := elem_of (by kernel_rfl)
/-- The row v, of one's own from block B on, is these tables. -/
def RdT (B : Nat) (v : Value) (l : List (List Ru)) (w : World) : Prop :=
  ∃ us : List Value, us.length = l.length ∧ w.ownsRow B 41 1 v l.length us ∧ ∀ i (h : i < us.length) (h' : i < l.length), RdU B us[i] l[i] w
theorem RdT.nil (w : World) (B : Nat) : RdT B (.slice none 0 0) [] w := ⟨[], rfl, own_nil _ _ _ _, fun i hi => by cases hi⟩
theorem RdT.kept {B : Nat} {v : Value} {l : List (List Ru)} {w w' : World} (h : RdT B v l w) (hb : Below w.heap.size w w') : RdT B v l w' := by
  obtain ⟨us, h1, h2, h3⟩ := h
  exact ⟨us, h1, own_kept h2 hb, fun i hi hj => (h3 i hi hj).kept hb⟩
theorem RdT.mono {B B' : Nat} {v : Value} {l : List (List Ru)} {w : World} (h : RdT B v l w) (hB : B' ≤ B) : RdT B' v l w := by
  obtain ⟨us, h1, h2, h3⟩ := h
  exact ⟨us, h1, own_mono h2 hB, fun i hi hj => (h3 i hi hj).mono hB⟩
theorem RdT.form {B : Nat} {v : Value} {l : List (List Ru)} {w : World} (h : RdT B v l w) : ∃ ao c, v = .slice ao l.length c ∧ l.length ≤ c ∧ c ≤ maxLen := by
  obtain ⟨us, _, h2, _⟩ := h
  exact own_form h2
theorem RdU.grown {B B' n : Nat} {v u : Value} {us : List Value} {l : List Ru} {w w' : World} (h : w.ownsRow B 41 1 v n us) (hu : RdU B' u l w) (hg : w.grownBy w' v.ownBlock) : RdU B' u l w' := by
  obtain ⟨xs, h1, h2, h3⟩ := hu
  have key : ∀ {B2 e z m : Nat} {o : Value} {os : List Value}, e ≠ 41 → w.ownsRow B2 e z o m os → w'.ownsRow B2 e z o m os := fun hne ho =>
    own_blk ho fun g hog => hg.block g (ho.lt g hog).2 (fun e => by
      obtain ⟨c1, h1⟩ := own_type h e.symm
      obtain ⟨c2, h2⟩ := own_type ho hog
      rw [h1] at h2
      cases h2
      exact hne rfl)
  exact ⟨xs, h1, key (by decide) h2, fun i hi hj => key (by decide) (h3 i hi hj)⟩
/-- One table, alone in a row of its own at block g0, is appended. -/
theorem push_table {ops : Array Oper} {rest : List Oper} {o : Oper} {a : Act} {w : World} {Q : Exit → Act → World → Prop} (hgd : o.guard = none) (s x : Operand) (ho : o.op = .call { callee := .builtin .append, args := #[s, x], argTypes := #[33, 33] })
    (B : Nat) (v : Value) (l : List (List Ru)) (r : List Ru) (u : Value) (g0 : Nat) (hs : a.eval s = v) (hx : a.eval x = .slice (some ⟨g0, 0, none⟩) 1 1) (h1 : RdT B v l w) (hb : w.heap[g0]? = some (.cells #[u] 41 (0, 0))) (h2 : RdU B u r w) (hB2 : B ≤ w.heap.size) (hal : l.length ≤ 2000)
    (h : ∀ v' w', RdT B v' (l ++ [r]) w' → (∀ w0, Below B w0 w → Below B w0 w') → v'.oneCell' = true → wpList Tryz.prog ops Q rest (a.put o.dst v') w') : wpList Tryz.prog ops Q (o :: rest) a w := by
  obtain ⟨us, x1, x3, x4⟩ := h1
  refine wpList_push1 el33 hgd s x ho B v l.length us hs x3 g0 hx #[u] hb rfl (by obtain ⟨_, _, rfl, _, _⟩ := h2.form; rfl) (by omega) hB2 ?_
  intro g cap w' hown hg _ hlt
  refine h _ w' ⟨us ++ [u], by simp [x1], ?_, fun i hi hj => ?_⟩ (fun w0 hb => below_grown hb hB2 hg x3) rfl
  · rw [List.length_append]
    exact hown
  · by_cases hi2 : i < l.length
    · rw [List.getElem_append_left (by omega), List.getElem_append_left hi2]
      exact RdU.grown x3 (x4 i (by omega) hi2) hg
    · have h0 : i = l.length := by simp at hj; omega
      subst h0
      have e1 : (us ++ [u])[l.length] = u := by simp [← x1]
      have e2 : (l ++ [r])[l.length] = r := by simp
      rw [e1, e2]
      exact RdU.grown x3 h2 hg
set_option maxRecDepth 100000 in
set_option maxHeartbeats 8000000 in
theorem compile_no (s : ByteArray) (n : Int) (lv hv : Value) (room at_ : Int) (w : World) (h1 : ∃ a b c, lv = .slice a b c) (h2 : ∃ a b c, hv = .slice a b c)
    (X : ∀ w', Below w.heap.size w w' → Ret 16 #[.string s] (.tuple #[.agg zero55, .int .i64 at_, .int .i64 10]) w') :
    Ret 8 #[.string s, .agg #[.int .i64 n, lv, hv], .int .i64 room] (.tuple #[.slice none 0 0, .int .i64 at_, .int .i64 10]) w := by
  obtain ⟨la, lb, lc, rfl⟩ := h1
  obtain ⟨ha, hb, hc, rfl⟩ := h2
  have X16 := Lib.hid (X _ (grow1 w (.cells #[.int .i64 n, .slice la lb lc, .slice ha hb hc] 25)))
  have HB := Lib.hid (grow1 w (.cells #[.int .i64 n, .slice la lb lc, .slice ha hb hc] 25))
  clear X
  unfold Ret at X16 ⊢
  go_enter Tryz.func8, Tryz.ntmps8
  go_wp2_with fail
  refine X16.out.mono ?_
  rintro e w2 ⟨rfl, hb2⟩
  have HB2 := Lib.hid (HB.out.trans (hb2.mono HB.out.size))
  clear hb2 HB X16
  go_wp2_with (refine stop_store 55 _ _ rfl ?_)
  refine Stop.go (abs_list ?_)
  intro w3 e3
  have HB3 : Hid (Below w.heap.size w w3) := by rw [e3]; exact Lib.hid (HB2.out.alloc HB2.out.size _)
  have HG3 : Hid (w3.heap[w2.heap.size]? = some (.cells zero55 55 (0, 0))) := by rw [e3]; exact Lib.hid (heap_alloc_new w2 _)
  have hs2 := HB2.out.size
  clear e3 HB2
  refine wpList_store_o rfl 55 _ _ rfl w2.heap.size zero55 rfl rfl 55 _ HG3.out inf55 rfl rfl ?_
  intro w4 hg4 ho4
  have HB4 := Lib.hid (ho4.belowT HB3.out hs2)
  clear hg4 ho4 HB3 HG3
  go_wp2_with fail
  go_ret3
  exact ⟨rfl, HB4.out⟩
set_option maxRecDepth 100000 in
set_option maxHeartbeats 8000000 in
theorem compile_ok (s : ByteArray) (m : Nat) (lv hv : Value) (room : Int) (d : Nat) (x : Pol) (ts : Nat → List Ru) (w : World) (h1 : ∃ a b c, lv = .slice a b c) (h2 : ∃ a b c, hv = .slice a b c) (hm : m ≤ 100)
    (Y16 : ∀ w', Below w.heap.size w w' → Calls Tryz.prog 16 #[.string s] w' fun e w'' => ∃ u, e = .returned (.tuple #[polV x u, .int .i64 0, .int .i64 0]) ∧ RdP (fun g => w'.heap.size ≤ g) d u x.l w'' ∧ Below w'.heap.size w' w'')
    (Y17 : ∀ u w', Below w.heap.size w w' → RdP AnyP d u x.l w' → Ret 17 #[.agg #[.int .i64 m, lv, hv], polV x u] (.int .i64 0) w')
    (Y18 : ∀ (sw : Nat) u w', sw < m → RdP AnyP d u x.l w' → Calls Tryz.prog 18 #[polV x u, .int .i64 sw, .int .i64 room] w' fun e w'' => ∃ v, e = .returned (.tuple #[v, .int .i64 0]) ∧ RdU w'.heap.size v (ts sw) w'' ∧ Below w'.heap.size w' w'') :
    Calls Tryz.prog 8 #[.string s, .agg #[.int .i64 m, lv, hv], .int .i64 room] w fun e w' => ∃ v, e = .returned (.tuple #[v, .int .i64 0, .int .i64 0]) ∧ RdT w.heap.size v ((List.range m).map ts) w' ∧ Below w.heap.size w w' := by
  obtain ⟨la, lb, lc, rfl⟩ := h1
  obtain ⟨ha, hb, hc, rfl⟩ := h2
  have X16 := Lib.hid (Y16 _ (grow1 w (.cells #[.int .i64 m, .slice la lb lc, .slice ha hb hc] 25)))
  have X17 := Lib.hid Y17
  have X18 := Lib.hid Y18
  have HB := Lib.hid (grow1 w (.cells #[.int .i64 m, .slice la lb lc, .slice ha hb hc] 25))
  have HT := Lib.hid (heap_alloc_new w (.cells #[.int .i64 m, .slice la lb lc, .slice ha hb hc] 25))
  obtain ⟨RL, hRL⟩ : ∃ R, R = (List.range m).map ts := ⟨_, rfl⟩
  have HRL := Lib.hid hRL
  rw [← hRL]
  have HRN := Lib.hid (show RL.length = m by rw [hRL]; simp)
  clear Y16 Y17 Y18 hRL
  unfold polV at X16 X17 X18
  unfold Ret at X17
  go_enter Tryz.func8, Tryz.ntmps8
  go_wp2_with fail
  refine X16.out.mono ?_
  rintro e w2 ⟨u2, rfl, hr2, hb2⟩
  obtain ⟨uo, uc, rfl, _, _⟩ := hr2.form
  have HB2 := Lib.hid (HB.out.trans (hb2.mono HB.out.size))
  have HT2 := Lib.hid ((hb2.block _ (block_lt HT.out)).trans HT.out)
  have HP2 := Lib.hid (hr2.mono (P' := fun g => g < w2.heap.size) fun g _ hg => hg)
  clear hr2 hb2 HB HT X16
  go_wp2_with (refine stop_store 55 _ _ rfl ?_)
  refine Stop.go (abs_list ?_)
  intro w3 e3
  have HB3 : Hid (Below w.heap.size w w3) := by rw [e3]; exact Lib.hid (HB2.out.alloc HB2.out.size _)
  have HG3 : Hid (w3.heap[w2.heap.size]? = some (.cells zero55 55 (0, 0))) := by rw [e3]; exact Lib.hid (heap_alloc_new w2 _)
  have HT3 : Hid (w3.heap[w.heap.size]? = some (.cells #[.int .i64 m, .slice la lb lc, .slice ha hb hc] 25 (0, 0))) := by rw [e3]; exact Lib.hid ((Below.heap_alloc _ _ _ (block_lt HT2.out)).trans HT2.out)
  have HP3 : Hid (RdP (fun g => g < w2.heap.size) d (.slice uo x.l.length uc) x.l w3) := by rw [e3]; exact Lib.hid (HP2.out.kept (grow1 _ _))
  have hs2 := HB2.out.size
  have hlt := block_lt HT2.out
  clear e3 HB2 HT2 HP2
  obtain ⟨pb, hpb⟩ : ∃ p, p = w2.heap.size := ⟨_, rfl⟩
  rw [← hpb] at HG3 HP3 hs2 hlt ⊢
  clear hpb
  refine wpList_store_o rfl 55 _ _ rfl pb (polL x (.slice uo x.l.length uc)).toArray rfl rfl 55 _ HG3.out inf55 rfl rfl ?_
  intro w4 hg4 ho4
  have HB4 := Lib.hid (ho4.belowT HB3.out hs2)
  have HG4 := Lib.hid hg4
  have HT4 := Lib.hid ((ho4.block w.heap.size (by omega)).trans HT3.out)
  have HP4 := Lib.hid ((HP3.out.blk fun g hg _ => ho4.block g (by omega)).mono (P' := AnyP) fun _ _ _ => trivial)
  clear hg4 ho4 HB3 HG3 HT3 HP3
  go_wp2_with (refine stop_load 25 _ rfl ?_)
  obtain ⟨f25, hu25⟩ := und25
  obtain ⟨f55, hu55⟩ := und55
  have HU55 := Lib.hid hu55
  refine Stop.go (wpList_load_row rfl 25 _ rfl w.heap.size rfl 25 _ (0, 0) _ HT4.out hu25 rfl inf25 ?_)
  refine wpList_load_row rfl 55 _ rfl pb rfl 55 _ (0, 0) _ HG4.out hu55 rfl inf55 ?_
  clear hu25 hu55
  go_wp2_with fail
  refine (X17.out _ w4 HB4.out HP4.out).mono ?_
  rintro e w5 ⟨rfl, hb5⟩
  have HB5 := Lib.hid (HB4.out.trans (hb5.mono HB4.out.size))
  have HG5 := Lib.hid ((hb5.block _ (block_lt HG4.out)).trans HG4.out)
  have HP5 := Lib.hid (HP4.out.kept hb5)
  have HT5 := Lib.hid ((hb5.block _ (block_lt HT4.out)).trans HT4.out)
  clear hb5 HB4 HG4 HP4 HT4 X17
  have hlt5 := block_lt HT5.out
  have c0 := block_cell HT5.out 0
  simp only [List.getElem?_toArray, List.getElem?_cons_zero] at c0
  go_wp2_with fail
  clear c0 hlt5
  have hs5 := HB5.out.size
  go_loopw [35, 13] (fun i o wr => ∃ j : Nat, i = .int .i64 j ∧ j ≤ m ∧ Hid (RdT w5.heap.size o (RL.take j) wr) ∧ Hid (Below w5.heap.size w5 wr)) (fun i _ _ => m - (intOf i).toNat)
  case atStart => exact ⟨0, rfl, Nat.zero_le _, Lib.hid (RdT.nil _ _), Lib.hid (Below.refl _ _)⟩
  case round =>
    obtain ⟨j, rfl, hj, HA, HBr⟩ := hrel
    have hsr := HBr.out.size
    by_cases hlt : j < m
    · have hd : decide ((j : Int) < (m : Int)) = true := by simp; omega
      have HGr := Lib.hid ((HBr.out.block _ (block_lt HG5.out)).trans HG5.out)
      have HPr := Lib.hid (HP5.out.kept HBr.out)
      have HRG := Lib.hid (show RL.take (j + 1) = RL.take j ++ [ts j] by
        have hjr : j < RL.length := by rw [HRN.out]; exact hlt
        rw [List.take_succ_eq_append_getElem hjr]
        congr 2
        have h4 : ((List.range m).map ts)[j]? = some (ts j) := by simp [hlt]
        rw [← HRL.out, List.getElem?_eq_getElem hjr] at h4
        exact Option.some.inj h4)
      obtain ⟨tj, htj⟩ : ∃ t, t = ts j := ⟨_, rfl⟩
      have Y := Lib.hid (X18.out j (.slice uo x.l.length uc) wr hlt HPr.out)
      rw [← htj] at Y HRG
      clear htj HPr
      go_wp2_with (refine stop_load 55 _ rfl ?_)
      refine Stop.go (wpList_load_row rfl 55 _ rfl pb rfl 55 _ (0, 0) _ HGr.out HU55.out rfl inf55 ?_)
      go_wp2_with (first | (go_at_call 18; refine Y.out.mono ?_; rintro e w7 ⟨v7, rfl, hr7, hb7⟩; obtain ⟨vo, vc, rfl, _, _⟩ := hr7.form; have HB7 := Lib.hid (HBr.out.trans (hb7.mono hsr)); have HA7 := Lib.hid (HA.out.kept hb7); have HR7 := Lib.hid (hr7.mono (B' := w5.heap.size) hsr); clear hr7 hb7 HBr HA Y HGr) | (at_builtin; refine stop_list ?_))
      refine Stop.go (push_table rfl (.tmp 49) (.tmp 51) rfl w5.heap.size u13 (RL.take j) tj (.slice vo tj.length vc) w7.heap.size rfl rfl (HA7.out.kept (grow1 _ _)) (heap_alloc_new _ _) (HR7.out.kept (grow1 _ _)) (HB7.out.alloc HB7.out.size _).size (by rw [List.length_take]; omega) ?_)
      intro v8 w8 hr8 hb8 h18
      have HR8 := Lib.hid hr8
      have HB8 := Lib.hid (hb8 _ (HB7.out.alloc HB7.out.size _))
      clear hr8 hb8 HB7 HA7 HR7
      go_wp2_with fail
      go_roundw
      case rel => exact ⟨j + 1, by go_num, hlt, by rw [HRG.out]; exact HR8, HB8⟩
      case measure => simp [intOf]; omega
    · obtain rfl : j = m := by omega
      have hd : decide ((j : Int) < (j : Int)) = false := by simp
      have HE := Lib.hid (show RL.take j = RL by rw [← HRN.out, List.take_length])
      rw [HE.out] at HA
      go_wp2_with fail
      go_ret3
      exact ⟨_, rfl, HA.out.mono hs5, HB5.out.trans (HBr.out.mono hs5)⟩
end Go.Proofs.YtekfkieimdgfkaaGreat
