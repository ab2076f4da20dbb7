/- What is proved here: what the reference's Earliest computes. Condition: the wishes can be read, and may be. -/
import Derived.Test.YthmglahcampllaaDs
import Derived.Laws.AppendOwnNone
namespace Go.Proofs.Ythmglahcampllaa
open Go Go.RowKit
namespace Df
attribute [local go_sem] KW.cell KW.frozen
def vals (x : List Int) : List Value := x.map (Value.int .i64)
theorem vals_len (x : List Int) : (vals x).length = x.length := by simp [vals]
theorem vals_get (x : List Int) (i : Nat) (h : i < x.length) : (vals x)[i]? = some (.int .i64 (at_ x i)) := by
  unfold vals at_
  simp [h]
theorem vals_one (x : List Int) : ∀ u ∈ vals x, u.oneCell' = true := by
  intro u hu
  obtain ⟨x, _, rfl⟩ := List.mem_map.1 hu
  rfl
theorem vals_set (x : List Int) (i : Nat) (t : Int) : (vals x).set i (.int .i64 t) = vals (x.set i t) := by simp [vals, List.map_set]
theorem own_blkD {B e z n : Nat} {v : Value} {vs : List Value} {w w' : World} (h : w.ownsRow B e z v n vs) (hk : ∀ g, v.ownBlock = some g → w'.heap[g]? = w.heap[g]?) : w'.ownsRow B e z v n vs := by
  refine ⟨h.1, ?_⟩
  rcases h.2 with h0 | ⟨g', cap', cur, hv, hB, hg, r⟩
  · exact .inl h0
  · exact .inr ⟨g', cap', cur, hv, hB, (hk g' (by rw [hv]; rfl)).trans hg, r⟩
theorem own_lowerD {B B' e z n : Nat} {v : Value} {vs : List Value} {w : World} (h : w.ownsRow B e z v n vs) (hB : B' ≤ B) : w.ownsRow B' e z v n vs := by
  refine ⟨h.1, ?_⟩
  rcases h.2 with h0 | ⟨g', c', cur', hv, hb', r⟩
  · exact .inl h0
  · exact .inr ⟨g', c', cur', hv, Nat.le_trans hB hb', r⟩
theorem belowN {B : Nat} {w w1 w2 : World} (h : Below B w w1) (hB : B ≤ w1.heap.size) (hg : w1.grownBy w2 none) : Below B w w2 := h.grown hg hB fun k hk => by cases hk
/-- 'append(nil, v...)': a copy, in a new block. -/
theorem wpList_copyOf {ops : Array Oper} {rest : List Oper} {o : Oper} {a : Act} {Q : Exit → Act → World → Prop} (w : World) (hgd : o.guard = none) (s x : Operand)
    (ho : o.op = .call { callee := .builtin .append, args := #[s, x], argTypes := #[25, 25] }) (B : Nat) (v : Value) (n : Nat) (xs : List Value) (hs : a.eval s = .slice none 0 0)
    (hown : w.ownsRow B 3 1 v n xs) (hx : a.eval x = v) (h1 : ∀ u ∈ xs, u.oneCell' = true) (hn : n ≤ 1000)
    (h : ∀ v' w', w'.ownsRow w.heap.size 3 1 v' n xs → w.grownBy w' none → wpList Try.prog ops Q rest (a.put o.dst v') w') : wpList Try.prog ops Q (o :: rest) a w := by
  obtain ⟨i0, hi, hz0, hz1, hz2⟩ := info_parts info3
  have hnil : w.ownsRow w.heap.size 3 1 (.slice none 0 0) 0 [] := ⟨rfl, .inl ⟨rfl, rfl⟩⟩
  have hxl : xs.length = n := by simpa using hown.1
  have hown' := hown
  rcases hown'.2 with ⟨rfl, h0⟩ | ⟨g, cap, cur, rfl, _⟩
  · subst h0
    have : xs = [] := List.eq_nil_of_length_eq_zero hxl
    subst this
    refine wpList_append_own_none hgd s x 25 ho w.heap.size 3 i0 1 Try.underlying25 hi (.slice none 0 0) 0 [] hs hnil hx ?_
    exact h _ _ hnil (World.grownBy.refl _ _)
  · refine wpList_append_own w hgd s x 25 ho w.heap.size 3 i0 (.int .i64 0) 1 8 Try.underlying25 hi hz0 hz1 hz2 rfl (by decide) (.slice none 0 0) 0 [] hs hnil ⟨g, 0, none⟩ n cap xs hx (by simpa using hxl)
      (fun j u hj => hown.cells rfl j u hj) h1 (by unfold maxLen; omega) (by omega) (Nat.le_refl _) ?_
    intro v' w' hown1 hgrow _
    refine h v' w' ?_ hgrow
    rw [Nat.zero_add] at hown1
    exact hown1
/-- The reference's memory: the times x, the next ones y. -/
structure JM (B : Nat) (w0 w : World) (vx vn : Value) (n : Nat) (x y : List Int) : Prop where
  xl : x.length = n
  yl : y.length = n
  ox : w.ownsRow B 3 1 vx n (vals x)
  oy : w.ownsRow B 3 1 vn n (vals y)
  ne : ∀ g, vx.ownBlock = some g → vn.ownBlock ≠ some g
  bl : Below B w0 w
section
variable {B n : Nat} {w0 w : World} {vx vn : Value} {x y : List Int}
theorem JM.drewN (h : JM B w0 w vx vn n x y) (k : Nat) : JM B w0 (w.drewN k) vx vn n x y := ⟨h.xl, h.yl, h.ox, h.oy, h.ne, below_drewN h.bl k⟩
theorem JM.set_ {gx gn cx cn : Nat} (h : JM B w0 w (.slice (some ⟨gx, 0, none⟩) n cx) (.slice (some ⟨gn, 0, none⟩) n cn) n x y) (hB : B ≤ gn) (j : Nat) (t : Int) :
    JM B w0 (w.setCell ⟨gn, j, none⟩ (.int .i64 t)) (.slice (some ⟨gx, 0, none⟩) n cx) (.slice (some ⟨gn, 0, none⟩) n cn) n x (y.set j t) := by
  have hne : gx ≠ gn := fun e => h.ne gx rfl (by rw [e]; rfl)
  refine ⟨h.xl, by rw [List.length_set]; exact h.yl, own_blkD h.ox fun g hg => ?_, ?_, h.ne, h.bl.setCell hB _⟩
  · have : gx = g := by simpa [Value.ownBlock] using hg
    subst this
    exact Below.heap_setCell w ⟨gn, j, none⟩ _ gx hne
  · rw [← vals_set]
    exact (h.oy.stored j (.int .i64 t)).1
end
theorem jup_pos {l : List Af} {x : List Int} {k i j : Nat} {t : Int} {a : Af} (ha : elt l k = a) (h1 : bI a = i) (h2 : bJ a = j) (ht : at_ x i + bG a = t) (h : at_ (jup l x k).1 j < t) : jup l x (k + 1) = ((jup l x k).1.set j t, true) := by
  subst ha h1 h2 ht
  show (if _ then _ else _ : List Int × Bool) = _
  rw [if_pos h]
theorem jup_neg {l : List Af} {x : List Int} {k i j : Nat} {a : Af} (ha : elt l k = a) (h1 : bI a = i) (h2 : bJ a = j) (h : ¬ at_ (jup l x k).1 j < at_ x i + bG a) : jup l x (k + 1) = jup l x k := by
  subst ha h1 h2
  show (if _ then _ else _ : List Int × Bool) = _
  rw [if_neg h]
/-- What the reference's Earliest answers. -/
def JPost (n : Nat) (l : List Af) (w : World) (e : Ending) (w' : World) : Prop :=
  Below w.heap.size w w' ∧ ((∃ x v, JEnd n l (some x) ∧ e = .returned (.tuple #[v, .bool true]) ∧ RI v x w') ∨ (JEnd n l none ∧ e = .returned (.tuple #[.slice none 0 0, .bool false])))
set_option maxRecDepth 100000 in
set_option maxHeartbeats 8000000 in
theorem rearl_run (n : Nat) (ao : Option Addr) (c : Nat) (l : List Af) (w : World) (hR : rightB n l = true) (hv : AfR (.slice ao l.length c) l w) : Calls Try.prog 21 #[.int .i64 n, .slice ao l.length c] w fun e w' => JPost n l w e w' := by
  obtain ⟨hn, hl, hf⟩ := rightB_nat hR
  have HV := Lib.hid hv
  have HF := Lib.hid hf
  have HR := Lib.hid (rright_c n (.slice ao l.length c) l w hv)
  rw [hR] at HR
  obtain ⟨i0, hi, hz0, hz1, hz2⟩ := info_parts info3
  clear hv hf hR
  go_enter Try.func21, Try.ntmps21
  go_wp2_with (go_at_call 12; refine HR.out.mono ?_; rintro e w1 ⟨rfl, hb1⟩)
  go_loopg [6, 7] n (fun gg s6 s7 wr => ∃ (k : Nat) (vv : Value), gg = n - k ∧ k ≤ n ∧ s7 = .int .i64 k ∧ vv = s6 ∧ wr.ownsRow w.heap.size 3 1 vv k (vals (List.replicate k 0)) ∧ Below w.heap.size w wr)
  case atStart => exact ⟨0, _, rfl, Nat.zero_le _, rfl, rfl, ⟨rfl, .inl ⟨rfl, rfl⟩⟩, hb1⟩
  case round =>
    clear hb1 HR
    obtain ⟨k, vv, rfl, hk, rfl, rfl, hown, hb⟩ := hrel
    have hs := hb.size
    by_cases hlt : k < n
    · have hd : decide ((k : Int) < (n : Int)) = true := by simp; omega
      go_wp2_with (at_builtin; refine wpList_append_own _ rfl _ _ 25 rfl w.heap.size 3 i0 (.int .i64 0) 1 8 Try.underlying25 hi hz0 hz1 hz2 rfl (by decide) vv k _ (by rfl) (hown.alloc _) ⟨wr.heap.size, 0, none⟩ 1 1 [.int .i64 0] (by rfl) (by rfl) (by intro j u hj; rcases j with _ | j <;> simp at hj; subst hj; simp [go_sem, Addr.add]) (by simp [Value.oneCell']) (by unfold maxLen; omega) (by omega) (by simp; omega) ?_)
      intro v1 w1 hown1 hg1 _
      have hb1 := belowG (hb.alloc hs _) (by simp; omega) hg1 hown
      have e : vals (List.replicate k 0) ++ [.int .i64 0] = vals (List.replicate (k + 1) 0) := by simp [vals, List.replicate_succ']
      rw [e] at hown1
      have HO := Lib.hid hown1
      clear hown1 hown e hg1
      go_wp2_with fail
      go_roundg (n - (k + 1))
      case measure => omega
      case rel => exact ⟨k + 1, _, rfl, by omega, by go_num, rfl, HO.out, hb1⟩
    · obtain rfl : k = n := by omega
      have hd : decide ((k : Int) < (k : Int)) = false := by simp
      have hown0 : wr.ownsRow w.heap.size 3 1 vv k (vals (jx k l 0)) := hown
      clear hown
      obtain ⟨wo, rfl⟩ : ∃ wo : World, wo = wr := ⟨_, rfl⟩
      go_wp2_with fail
      go_loopg [6, 8] (k + 1) (fun gg s6 s8 wr => ∃ (r : Nat) (vx : Value), gg = k + 1 - r ∧ r ≤ k + 1 ∧ s8 = .int .i64 r ∧ vx = s6 ∧ wr.ownsRow w.heap.size 3 1 vx k (vals (jx k l r)) ∧ Hid (∀ q, q < r → (jup l (jx k l q) l.length).2 = true) ∧ Below w.heap.size w wr)
      case atStart => exact ⟨0, _, rfl, Nat.zero_le _, rfl, rfl, hown0, Lib.hid fun q h => absurd h (Nat.not_lt_zero _), hb⟩
      case round =>
        clear hown0 hb hs hd
        obtain ⟨r, vx, rfl, hr, rfl, rfl, hown, HQ, hb⟩ := hrel
        have hs := hb.size
        by_cases hrl : r ≤ k
        · have hd : decide ((r : Int) ≤ (k : Int)) = true := by simp; omega
          have hone := vals_one (jx k l r)
          have hnx : ∀ g, vx.ownBlock = some g → g < wr.heap.size := fun g hg => (hown.lt g hg).2
          have HN := Lib.hid hnx
          clear hnx
          go_wp2_with (at_builtin; refine wpList_copyOf _ rfl (.tmp 30) (.tmp 31) (by rfl) w.heap.size _ k _ (by rfl) hown (by rfl) hone (by omega) ?_)
          intro vn w2 hown2 hg2
          have hjm : JM w.heap.size w w2 vx vn k (jx k l r) (jup l (jx k l r) 0).1 := by
            refine ⟨jx_len r, jx_len r, own_blkD hown fun g hg => hg2.block g (HN.out g hg) (by simp), own_lowerD hown2 hs, fun g hg e => ?_, belowN hb hs hg2⟩
            have h1 := HN.out g hg
            have h2 := (hown2.lt g e).1
            omega
          have HB2 : ∀ g, vn.ownBlock = some g → w.heap.size ≤ g := fun g e => Nat.le_trans hs (hown2.lt g e).1
          have HB2 := Lib.hid HB2
          have HJ := Lib.hid hjm
          clear hown hown2 hg2 hone hjm HN hb
          obtain ⟨wp, rfl⟩ : ∃ wp : World, wp = w2 := ⟨_, rfl⟩
          go_wp2_with fail
          go_loopg [10, 11] l.length (fun gg s10 s11 wr => ∃ (i : Nat), gg = l.length - i ∧ i ≤ l.length ∧ s11 = .int .i64 i ∧ s10 = .bool (jup l (jx k l r) i).2 ∧ JM w.heap.size w wr vx vn k (jx k l r) (jup l (jx k l r) i).1)
          case atStart => exact ⟨0, rfl, Nat.zero_le _, rfl, rfl, HJ.out⟩
          case round =>
            clear HJ
            obtain ⟨m, rfl, hm, rfl, rfl, hj⟩ := hrel
            by_cases hml : m < l.length
            · have hdm : decide ((m : Int) < (l.length : Int)) = true := by simp; omega
              obtain ⟨a, rfl, hg, e0, e1, e2⟩ := (HV.out.kept hj.bl).at_ m hml
              obtain ⟨f1, f2, f3, f4, f5, f6⟩ := HF.out _ (List.getElem_mem hml)
              have hel := elt_get hml
              have sx := jx_bd HF.out r
              have nx := jup_nn HF.out r 0 (Nat.zero_le _)
              have sy := jup_bd HF.out (jx_len r) (M := 1073741824 * r) sx m (by omega)
              have ny := jup_nn HF.out r m (by omega)
              have hk0 : 0 < k := by omega
              obtain ⟨i, hi⟩ : ∃ i : Nat, (l[m]).1 = i := ⟨(l[m]).1.toNat, by omega⟩
              obtain ⟨j, hj'⟩ : ∃ j : Nat, (l[m]).2.1 = j := ⟨(l[m]).2.1.toNat, by omega⟩
              have h1 : bI l[m] = i := by unfold bI; rw [hi]; rfl
              have h2 : bJ l[m] = j := by unfold bJ; rw [hj']; rfl
              have h3 : (l[m]).2.2 = bG l[m] := rfl
              have RP := Lib.hid (fun t => jup_pos (x := jx k l r) (k := m) (t := t) hel h1 h2)
              have RN := Lib.hid (jup_neg (x := jx k l r) (k := m) hel h1 h2)
              rw [hi] at e0 f1 f2
              rw [hj'] at e1 f3 f4
              rw [h3] at e2 f5 f6
              have HB2' := HB2.out
              rcases hj.ox.2 with ⟨_, h0⟩ | ⟨gx, cx, cur, rfl, hBx, hgx, hr1⟩
              · omega
              rcases hj.oy.2 with ⟨_, h0⟩ | ⟨gn, cn, cur', rfl, hBn, hgn, hr2⟩
              · omega
              have ci := (hj.ox.cellAt i (by omega)).trans (vals_get _ i (by rw [hj.xl]; omega))
              have cj := (hj.oy.cellAt j (by omega)).trans (vals_get _ j (by rw [hj.yl]; omega))
              have fn := hj.oy.frozenAt j
              have nxn : gx ≠ gn := fun e => hj.ne gx rfl (by rw [e]; rfl)
              have nnx := Ne.symm nxn
              have zx := block_lt hgx
              have zn := block_lt hgn
              have si := sx i
              have ni : 0 ≤ at_ (jx k l r) i := nx i
              have sj := sy j
              have nj := ny j
              have HJ := Lib.hid hj
              clear hi hj' h1 h2 h3 sx nx sy ny hj hel hr1 hr2 hgx hgn HB2' HB2 hBx cur cur'
              generalize bG l[m] = G at *
              generalize at_ (jx k l r) i = xi at *
              generalize at_ (jup l (jx k l r) m).1 j = xj at *
              have x1 : IntKind.i64.wrap (xi + G) = xi + G := wrap_of (by omega) (by omega)
              by_cases ht : xj < xi + G
              · have hdt : decide (xj < xi + G) = true := by simpa using ht
                have HS := Lib.hid (RP.out (xi + G) rfl ht)
                clear ht RP RN
                go_wp2_with fail
                go_quiet (fail)
                go_wp2_with fail
                go_roundg (l.length - (m + 1))
                case measure => omega
                case rel => exact ⟨m + 1, rfl, by omega, by go_num, by rw [HS.out], by rw [HS.out]; exact ((HJ.out.drewN _).set_ hBn _ _)⟩
              · have hdt : decide (xj < xi + G) = false := by simpa using ht
                have HS := Lib.hid (RN.out ht)
                clear ht RP RN
                go_wp2_with fail
                go_quiet (fail)
                go_wp2_with fail
                go_roundg (l.length - (m + 1))
                case measure => omega
                case rel => exact ⟨m + 1, rfl, by omega, by go_num, by rw [HS.out], by rw [HS.out]; exact (HJ.out.drewN _)⟩
            · obtain rfl : m = l.length := by omega
              have hdm : decide ((l.length : Int) < (l.length : Int)) = false := by simp
              have HJ := Lib.hid hj
              clear hj
              cases hq : (jup l (jx k l r) l.length).2 with
              | false =>
                have HE : Hid (JEnd k l (some (jx k l r))) := Lib.hid (.inl ⟨r, hrl, hq, rfl⟩)
                clear hq
                go_wp2_with fail
                go_ret2
                exact ⟨HJ.out.bl, .inl ⟨_, _, HE.out, rfl, RI.own HJ.out.ox HJ.out.xl.symm⟩⟩
              | true =>
                have HQ' : Hid (∀ q, q < r + 1 → (jup l (jx k l q) l.length).2 = true) := Lib.hid fun q h => by
                  by_cases e : q = r
                  · subst e; exact hq
                  · exact HQ.out q (by omega)
                clear hq HQ
                go_wp2_with fail
                go_roundg (k + 1 - (r + 1))
                case measure => omega
                case rel => exact ⟨r + 1, _, rfl, by omega, by go_num, rfl, HJ.out.oy, HQ'.out, HJ.out.bl⟩
        · obtain rfl : r = k + 1 := by omega
          have hd : decide (((k + 1 : Nat) : Int) ≤ (k : Int)) = false := by simp; omega
          have HE : Hid (JEnd k l none) := Lib.hid (.inr ⟨rfl, fun q hq => HQ.out q (by omega)⟩)
          clear HQ hown
          go_wp2_with fail
          go_ret2
          exact ⟨hb, .inr ⟨HE.out, rfl⟩⟩
end Df
end Go.Proofs.Ythmglahcampllaa
