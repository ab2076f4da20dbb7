/- What is proved here: how slices, policies and packets lie in memory. Condition: none. -/
import Derived.Test.YtekfkieimdgfkaaGreatT01
import Derived.Test.YtekfkieimdgfkaaGreatChecked
import Derived.Lib.Hide
import Derived.WalkSpells
import Derived.WalkLawsBesides
import Derived.Deep.AppendLies
import Derived.Deep.LoopGhost
import Derived.Deep.DeepCutAuto
import Derived.Deep.CutBlock
import Derived.Deep.RegionHeld3
import Derived.Deep.RegionLaw
import Derived.Deep.RegionWith
import Derived.Laws.MakeOwn
import Derived.Laws.AppendOwn
import Derived.Laws.AppendOwnNone
import Derived.Laws.OwnMore
import Derived.BigRegion
import Derived.Outline
namespace Go.Proofs.YtekfkieimdgfkaaGreat
open Go Go.RowKit
theorem adb (a : Addr) (n : Nat) : (a.add n).block = a.block := by
  unfold Addr.add
  split <;> rfl
theorem adh (g n : Nat) : (⟨g, 0, none⟩ : Addr).add n = ⟨g, n, none⟩ := by
  unfold Addr.add
  split
  · subst_vars; rfl
  · simp
theorem bon {W w w' : World} (h : Below W.heap.size W w) (h2 : Below w.heap.size w w') : Below W.heap.size W w' := h.trans (h2.mono h.size)
theorem cell_lt {w : World} {a : Addr} {v : Value} (h : w.cell? a = some v) : a.block < w.heap.size := by
  rcases Nat.lt_or_ge a.block w.heap.size with hl | hl
  · exact hl
  · have : w.heap[a.block]? = none := Array.getElem?_eq_none hl
    unfold World.cell? at h
    simp [this] at h
theorem grow1 (w : World) (o : Obj) : Below w.heap.size w (w.alloc o) := (Below.refl _ _).alloc (Nat.le_refl _) _
theorem below_grown {B n e z : Nat} {w wx w1 w2 : World} {v : Value} {vs : List Value} (h : Below B w w1) (hB : B ≤ w1.heap.size) (hg : w1.grownBy w2 v.ownBlock) (hown : wx.ownsRow B e z v n vs) : Below B w w2 := by
  refine h.grown hg hB fun k hk => ?_
  rcases hown.2 with ⟨rfl, _⟩ | ⟨g, cap, cur, rfl, hg', _⟩
  · simp [Value.ownBlock] at hk
  · simp [Value.ownBlock] at hk
    omega
section
variable {B e z n : Nat} {v : Value} {vs : List Value} {w w' : World}
theorem own_blk (h : w.ownsRow B e z v n vs) (hk : ∀ g, v.ownBlock = some g → w'.heap[g]? = w.heap[g]?) : w'.ownsRow B e z v n vs := by
  refine ⟨h.1, ?_⟩
  rcases h.2 with hn | ⟨g, cap, cur, rfl, hB, hg, r⟩
  · exact .inl hn
  · exact .inr ⟨g, cap, cur, rfl, hB, (hk g rfl).trans hg, r⟩
theorem own_kept (h : w.ownsRow B e z v n vs) (hb : Below w.heap.size w w') : w'.ownsRow B e z v n vs := own_blk h fun g hg => hb.block g (h.lt g hg).2
theorem own_mono {B' : Nat} (h : w.ownsRow B e z v n vs) (hB : B' ≤ B) : w.ownsRow B' e z v n vs := by
  refine ⟨h.1, ?_⟩
  rcases h.2 with hn | ⟨g, cap, cur, hv, hb, r⟩
  · exact .inl hn
  · exact .inr ⟨g, cap, cur, hv, Nat.le_trans hB hb, r⟩
theorem own_form (h : w.ownsRow B e z v n vs) : ∃ ao c, v = .slice ao n c ∧ n ≤ c ∧ c ≤ maxLen := by
  rcases h.2 with ⟨rfl, rfl⟩ | ⟨g', cap', cur, rfl, _, _, h1, h2, _⟩
  · exact ⟨none, 0, rfl, Nat.le_refl _, by decide⟩
  · exact ⟨_, _, rfl, h1, h2⟩
theorem own_nil (w : World) (B e z : Nat) : w.ownsRow B e z (.slice none 0 0) 0 [] := ⟨by simp, .inl ⟨rfl, rfl⟩⟩
end
/-! Rows of z cells an element -/
def flatR {α : Type} (enc : α → List Value) (xs : List α) : List Value := xs.flatMap enc
section
variable {α : Type} {enc : α → List Value} {z : Nat}
theorem flatR_len (hz : ∀ x, (enc x).length = z) (xs : List α) : (flatR enc xs).length = xs.length * z := by
  induction xs with
  | nil => simp [flatR]
  | cons x xs ih =>
    show (enc x ++ flatR enc xs).length = _
    rw [List.length_append, hz, ih, List.length_cons, Nat.add_mul, Nat.one_mul, Nat.add_comm]
theorem flatR_get (hz : ∀ x, (enc x).length = z) : ∀ (xs : List α) (i : Nat) (h : i < xs.length) (j : Nat) (u : Value), (enc xs[i])[j]? = some u → (flatR enc xs)[i * z + j]? = some u := by
  intro xs
  induction xs with
  | nil => intro i h; cases h
  | cons x xs ih =>
    intro i h j u hu
    show (enc x ++ flatR enc xs)[i * z + j]? = _
    have hj : j < z := by
      cases i with
      | zero => have := (List.getElem?_eq_some_iff.1 hu).1; rwa [hz] at this
      | succ i => have := (List.getElem?_eq_some_iff.1 hu).1; rwa [hz] at this
    cases i with
    | zero =>
      rw [List.getElem?_append_left (by rw [hz]; omega), Nat.zero_mul, Nat.zero_add]
      exact hu
    | succ i =>
      rw [Nat.succ_mul, List.getElem?_append_right (by rw [hz]; omega), hz]
      have e : i * z + z + j - z = i * z + j := by omega
      rw [e]
      exact ih i (by simpa using h) j u hu
theorem flatR_append (a b : List α) : flatR enc (a ++ b) = flatR enc a ++ flatR enc b := by simp [flatR]
/-- The slice v reads as the list xs, z cells an element. -/
def Rz (z : Nat) (enc : α → List Value) (v : Value) (xs : List α) (w : World) : Prop :=
  (v = .slice none 0 0 ∧ xs = []) ∨ ∃ (a : Addr) (cap : Nat), v = .slice (some a) xs.length cap ∧ (0 < xs.length → a.block < w.heap.size) ∧ xs.length ≤ cap ∧ cap ≤ maxLen ∧
    ∀ i (h : i < xs.length) j u, (enc xs[i])[j]? = some u → w.cell? (a.add (i * z + j)) = some u
variable {v : Value} {xs : List α} {w w' : World}
theorem Rz.kept (h : Rz z enc v xs w) (hb : Below w.heap.size w w') : Rz z enc v xs w' := by
  rcases h with h | ⟨a, cap, hv, hg, h1, h2, hx⟩
  · exact .inl h
  · refine .inr ⟨a, cap, hv, fun h0 => Nat.lt_of_lt_of_le (hg h0) hb.size, h1, h2, fun i hi j u hu => ?_⟩
    rw [hb.cell (p := a.add (i * z + j)) (by rw [adb]; exact hg (by omega))]
    exact hx i hi j u hu
theorem Rz.form (h : Rz z enc v xs w) : ∃ ao c, v = .slice ao xs.length c ∧ xs.length ≤ c ∧ c ≤ 9223372036854775807 := by
  rcases h with ⟨rfl, rfl⟩ | ⟨a, cap, rfl, _, h1, h2, _⟩
  · exact ⟨none, 0, rfl, by simp, by simp⟩
  · unfold maxLen at h2; exact ⟨_, _, rfl, h1, by omega⟩
theorem Rz.at_ {ao : Option Addr} {n c : Nat} (h : Rz z enc (.slice ao n c) xs w) (k : Nat) (hk : k < xs.length) :
    ∃ a, ao = some a ∧ a.block < w.heap.size ∧ (∀ u, (enc xs[k])[0]? = some u → w.cell? (a.add (k * z)) = some u) ∧ ∀ j u, (enc xs[k])[j + 1]? = some u → w.cell? ⟨(a.add (k * z)).block, (a.add (k * z)).off + (j + 1), none⟩ = some u := by
  rcases h with ⟨_, rfl⟩ | ⟨a, cap, hv, hg, _, _, hc⟩
  · simp at hk
  · cases hv
    refine ⟨a, rfl, hg (by omega), fun u hu => hc k hk 0 u hu, fun j u hu => ?_⟩
    have h0 := hc k hk (j + 1) u hu
    have e : a.add (k * z + (j + 1)) = ⟨(a.add (k * z)).block, (a.add (k * z)).off + (j + 1), none⟩ := by
      unfold Addr.add
      by_cases h1 : k * z = 0
      · simp [h1]
      · simp [h1]; omega
    rwa [e] at h0
theorem Rz.of_own {B e : Nat} (hz : ∀ x, (enc x).length = z) (h : w.ownsRow B e z v xs.length (flatR enc xs)) : Rz z enc v xs w := by
  rcases h.2 with ⟨rfl, h0⟩ | ⟨g, cap, cur, rfl, hB, hg, h1, h2, _⟩
  · exact .inl ⟨rfl, List.eq_nil_of_length_eq_zero h0⟩
  · refine .inr ⟨⟨g, 0, none⟩, cap, rfl, fun _ => block_lt hg, h1, h2, fun i hi j u hu => ?_⟩
    exact h.cells rfl _ _ (flatR_get hz xs i hi j u hu)
end
end Go.Proofs.YtekfkieimdgfkaaGreat
/- What is proved here: what the looks at routes' sizes and at packets answer. Condition: they can be read. -/
namespace Go.Proofs.YtekfkieimdgfkaaGreat
open Go Go.RowKit
attribute [local go_sem] KW.cell KW.frozen
def INT (x : Int) : List Value := [.int .i64 x]
abbrev Lk := Int × Int × Int × Int × Int × Int
def lkE (l : Lk) : List Value := [.int .i64 l.1, .int .i64 l.2.1, .int .i64 l.2.2.1, .int .i64 l.2.2.2.1, .int .i64 l.2.2.2.2.1, .int .i64 l.2.2.2.2.2]
abbrev Ho := Int × Int
def hoE (h : Ho) : List Value := [.int .i64 h.1, .int .i64 h.2]
/-- The slice v reads as the rows. -/
def RdW (v : Value) (rows : List (List Int)) (w : World) : Prop :=
  ∃ vs : List Value, Rz 1 (fun x : Value => [x]) v vs w ∧ vs.length = rows.length ∧ ∀ i (h : i < vs.length) (h' : i < rows.length), Rz 1 INT vs[i] rows[i] w
theorem RdW.kept {v : Value} {rows : List (List Int)} {w w' : World} (h : RdW v rows w) (hb : Below w.heap.size w w') : RdW v rows w' := by
  obtain ⟨vs, h1, h2, h3⟩ := h
  exact ⟨vs, h1.kept hb, h2, fun i a b => (h3 i a b).kept hb⟩
theorem RdW.form {v : Value} {rows : List (List Int)} {w : World} (h : RdW v rows w) : ∃ ao c, v = .slice ao rows.length c ∧ rows.length ≤ c ∧ c ≤ 9223372036854775807 := by
  obtain ⟨vs, h1, h2, _⟩ := h
  obtain ⟨ao, c, rfl, h3, h4⟩ := h1.form
  exact ⟨ao, c, by rw [h2], by omega, h4⟩
theorem RdW.at_ {ao : Option Addr} {n c : Nat} {rows : List (List Int)} {w : World} (h : RdW (.slice ao n c) rows w) (k : Nat) (hk : k < rows.length) :
    ∃ a so sc, ao = some a ∧ (a.add k).block < w.heap.size ∧ w.cell? (a.add k) = some (.slice so rows[k].length sc) ∧ Rz 1 INT (.slice so rows[k].length sc) rows[k] w := by
  obtain ⟨vs, h1, h2, h3⟩ := h
  obtain ⟨a, ha, hg, hc, _⟩ := h1.at_ k (by omega)
  have hr := h3 k (by omega) hk
  obtain ⟨so, sc, hs, _⟩ := hr.form
  have hc : w.cell? (a.add (k * 1)) = some vs[k] := hc _ rfl
  rw [Nat.mul_one] at hc
  rw [hs] at hc hr
  exact ⟨a, so, sc, ha, by rw [adb]; exact hg, hc, hr⟩
theorem int_at {ao : Option Addr} {n c : Nat} {xs : List Int} {w : World} (h : Rz 1 INT (.slice ao n c) xs w) (k : Nat) (hk : k < xs.length) :
    ∃ a, ao = some a ∧ (a.add k).block < w.heap.size ∧ w.cell? (a.add k) = some (.int .i64 xs[k]) := by
  obtain ⟨a, ha, hg, hc, _⟩ := h.at_ k hk
  have hc : w.cell? (a.add (k * 1)) = some (.int .i64 xs[k]) := hc _ rfl
  rw [Nat.mul_one] at hc
  exact ⟨a, ha, by rw [adb]; exact hg, hc⟩
def SmallF (ls : Nat) (hs : Nat) (rows : List (List Int)) : Prop := ls ≤ 30 ∧ hs ≤ 12 ∧ rows.length ≤ 12 ∧ ∀ r ∈ rows, r.length ≤ 12
def BoolIf (p : Prop) (w : World) (e : Ending) (w' : World) : Prop := ∃ b, e = .returned (.bool b) ∧ (b = true → p) ∧ Below w.heap.size w w'
theorem BoolIf.no {p : Prop} {w w' : World} (hb : Below w.heap.size w w') : BoolIf p w (.returned (.bool false)) w' := ⟨false, rfl, fun h => (by cases h), hb⟩
theorem BoolIf.yes {p : Prop} {w w' : World} (hp : p) (hb : Below w.heap.size w w') (b : Bool) : BoolIf p w (.returned (.bool b)) w' := ⟨b, rfl, fun _ => hp, hb⟩
set_option maxRecDepth 100000 in
set_option maxHeartbeats 1000000 in
theorem small_c (n : Int) (lo ho : Option Addr) (ln lc hn hc : Nat) (rv : Value) (rows : List (List Int)) (w : World) (hr : RdW rv rows w) :
    Calls Tryz.prog 4 #[.agg #[.int .i64 n, .slice lo ln lc, .slice ho hn hc], rv] w (BoolIf (SmallF ln hn rows) w) := by
  obtain ⟨ao, c, rfl, hc1, hc2⟩ := hr.form
  have H := Lib.hid hr
  clear hr
  have hb0 := grow1 w (.cells #[.int .i64 n, .slice lo ln lc, .slice ho hn hc] 25)
  have HB := Lib.hid hb0
  clear hb0
  go_enter Tryz.func4, Tryz.ntmps4
  go_wp2_with fail
  refine abs_wp ?_
  intro wb hwb
  have hb0 : Below w.heap.size w wb := by rw [hwb]; exact HB.out
  have c0 : wb.cell? ⟨w.heap.size, 1, none⟩ = some (.slice lo ln lc) := by rw [hwb]; simp [go_sem]
  have c1 : wb.cell? ⟨w.heap.size, 2, none⟩ = some (.slice ho hn hc) := by rw [hwb]; simp [go_sem]
  have hk := H.out.kept hb0
  have HK := Lib.hid hk
  clear hwb HB H hk
  go_loop [5] (fun i => ∃ k : Nat, i = .int .i64 k ∧ k ≤ rows.length ∧ Hid (∀ j (h : j < rows.length), j < k → rows[j].length ≤ 12)) (fun i => rows.length - (intOf i).toNat)
  case atStart => exact ⟨0, rfl, Nat.zero_le _, Lib.hid (fun j _ h => absurd h (by omega))⟩
  case round =>
    obtain ⟨k, rfl, hk, hall⟩ := hrel
    by_cases hlt : k < rows.length
    · have hd : decide ((k : Int) < (rows.length : Int)) = true := by simp; omega
      obtain ⟨a, sok, sck, rfl, zk, ck0, rsk⟩ := HK.out.at_ k hlt
      have HA : Hid (rows[k].length ≤ 12 → ∀ j (h : j < rows.length), j < k + 1 → rows[j].length ≤ 12) := Lib.hid (fun h20 j hj h => by
        by_cases hjk : j = k
        · subst hjk; exact h20
        · exact hall.out j hj (by omega))
      clear rsk
      generalize rows[k].length = m at *
      obtain ⟨d2, hd2⟩ : ∃ d, decide (12 < (m : Int)) = d := ⟨_, rfl⟩
      cases d2 with
      | true =>
        go_wp2_with fail
        go_ret
        exact BoolIf.no hb0
      | false =>
        have h20 : m ≤ 12 := by simp at hd2; omega
        have HA2 := Lib.hid (HA.out h20)
        clear HA
        go_wp2_with fail
        go_round
        case rel => exact ⟨k + 1, by go_num, by omega, HA2⟩
        case measure => simp [intOf]; omega
    · obtain rfl : k = rows.length := by omega
      have hd : decide ((rows.length : Int) < (rows.length : Int)) = false := by simp
      have HW : Hid (∀ r ∈ rows, r.length ≤ 12) := Lib.hid (fun r hr => by
        obtain ⟨j, hj, rfl⟩ := List.mem_iff_getElem.1 hr
        exact hall.out j hj hj)
      clear hall
      obtain ⟨d0, hd0⟩ : ∃ d, decide ((ln : Int) ≤ 30) = d := ⟨_, rfl⟩
      obtain ⟨d1, hd1⟩ : ∃ d, decide ((hn : Int) ≤ 12) = d := ⟨_, rfl⟩
      obtain ⟨d2, hd2⟩ : ∃ d, decide ((rows.length : Int) ≤ 12) = d := ⟨_, rfl⟩
      have HD : Hid (d0 = true → d1 = true → d2 = true → SmallF ln hn rows) := Lib.hid (fun x y z => by
        subst x y z
        simp only [decide_eq_true_eq] at hd0 hd1 hd2
        exact ⟨by omega, by omega, by omega, HW.out⟩)
      cases d0 with
      | false =>
        go_wp2_with fail
        go_ret
        exact BoolIf.no hb0
      | true =>
      cases d1 with
      | false =>
        go_wp2_with fail
        go_ret
        exact BoolIf.no hb0
      | true =>
      cases d2 with
      | false =>
        go_wp2_with fail
        go_ret
        exact BoolIf.no hb0
      | true =>
        have hp := Lib.hid (HD.out rfl rfl rfl)
        clear HD
        go_wp2_with fail
        go_ret
        exact BoolIf.yes hp.out hb0 _
/-! Packets -/
def topF (f : Int) : Int := if f = 2 then 15 else if f = 0 ∨ f = 1 ∨ f = 3 then 255 else 0
theorem rtop_c (f : Int) (w : World) : Calls Tryz.prog 15 #[.int .i64 f] w fun e w' => e = .returned (.int .i64 (topF f)) ∧ w = w' := by
  unfold topF
  by_cases h2 : f = 2
  · subst h2
    go_enter Tryz.func15, Tryz.ntmps15
    go_wp2
    go_ret
    exact ⟨rfl, rfl⟩
  · have e2 : (f == 2) = false := by rw [beq_eq_false_iff_ne]; exact h2
    rw [if_neg h2]
    by_cases h0 : f = 0
    · subst h0
      go_enter Tryz.func15, Tryz.ntmps15
      go_wp2
      go_ret
      exact ⟨rfl, rfl⟩
    · have e0 : (f == 0) = false := by rw [beq_eq_false_iff_ne]; exact h0
      by_cases h1 : f = 1
      · subst h1
        go_enter Tryz.func15, Tryz.ntmps15
        go_wp2
        go_ret
        exact ⟨rfl, rfl⟩
      · have e1 : (f == 1) = false := by rw [beq_eq_false_iff_ne]; exact h1
        by_cases h3 : f = 3
        · subst h3
          go_enter Tryz.func15, Tryz.ntmps15
          go_wp2
          go_ret
          exact ⟨rfl, rfl⟩
        · have e3 : (f == 3) = false := by rw [beq_eq_false_iff_ne]; exact h3
          rw [if_neg (by omega)]
          clear h0 h1 h2 h3
          go_enter Tryz.func15, Tryz.ntmps15
          go_wp2
          go_ret
          exact ⟨rfl, rfl⟩
abbrev Pk := Int × Int × Int × Int
def RightF (p : Pk) : Prop := (0 ≤ p.1 ∧ p.1 ≤ 255) ∧ (0 ≤ p.2.1 ∧ p.2.1 ≤ 255) ∧ (0 ≤ p.2.2.1 ∧ p.2.2.1 ≤ 15) ∧ (0 ≤ p.2.2.2 ∧ p.2.2.2 ≤ 255)
end Go.Proofs.YtekfkieimdgfkaaGreat
