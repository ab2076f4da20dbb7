/- What is proved here: what Wrong answers, the program's and the reference's. Condition: what they are given can be read. -/
import Derived.Test.YthmglahcampllaaDu
namespace Go.Proofs.Ythmglahcampllaa
open Go Go.RowKit
namespace Df
attribute [local go_sem] KW.cell KW.frozen
def wrongTo (l : List Af) (x : List Int) : Nat → List Int
  | 0 => []
  | k + 1 => if at_ x (bJ (elt l k)) < at_ x (bI (elt l k)) + bG (elt l k) then wrongTo l x k ++ [(k : Int)] else wrongTo l x k
theorem wrongTo_len (l : List Af) (x : List Int) : ∀ k, (wrongTo l x k).length ≤ k := by
  intro k
  induction k with
  | zero => exact Nat.le_refl _
  | succ k ih =>
    unfold wrongTo
    split
    · simp; omega
    · omega
theorem wrongTo_yes {l : List Af} {x : List Int} {k i j : Nat} {a : Af} (ha : elt l k = a) (h1 : bI a = i) (h2 : bJ a = j) (h : at_ x j < at_ x i + bG a) : wrongTo l x (k + 1) = wrongTo l x k ++ [(k : Int)] := by
  subst ha h1 h2
  show (if _ then _ else _ : List Int) = _
  rw [if_pos h]
theorem wrongTo_no {l : List Af} {x : List Int} {k i j : Nat} {a : Af} (ha : elt l k = a) (h1 : bI a = i) (h2 : bJ a = j) (h : ¬ at_ x j < at_ x i + bG a) : wrongTo l x (k + 1) = wrongTo l x k := by
  subst ha h1 h2
  show (if _ then _ else _ : List Int) = _
  rw [if_neg h]
def wrongR (n : Int) (l : List Af) (x : List Int) : List Int := if (rightB n l && timesB n x) = true then wrongTo l x l.length else []
theorem wrongTo_nil {l : List Af} {x : List Int} : ∀ k, wrongTo l x k = [] ↔ ∀ i, i < k → at_ x (bI (elt l i)) + bG (elt l i) ≤ at_ x (bJ (elt l i)) := by
  intro k
  induction k with
  | zero => exact ⟨fun _ i h => absurd h (Nat.not_lt_zero _), fun _ => rfl⟩
  | succ k ih =>
    unfold wrongTo
    split
    · rename_i h
      refine ⟨fun e => by simp at e, fun hh => ?_⟩
      have := hh k (by omega)
      omega
    · rename_i h
      rw [ih]
      refine ⟨fun hh i hi => ?_, fun hh i hi => hh i (by omega)⟩
      by_cases e : i = k
      · subst e; omega
      · exact hh i (by omega)
theorem wrongR_nil {n : Nat} {l : List Af} {x : List Int} (hr : rightB n l = true) (ht : timesB n x = true) : wrongR n l x = [] ↔ holds l (at_ x) := by
  unfold wrongR
  rw [hr, ht, if_pos (by rfl), wrongTo_nil]
  refine ⟨fun h a ha => ?_, fun h i hi => h _ (elt_mem hi)⟩
  obtain ⟨k, hk, rfl⟩ := mem_elt ha
  exact h k hk
def WPost (x : List Int) (w : World) (e : Ending) (w' : World) : Prop := ∃ v, e = .returned v ∧ RI v x w' ∧ Below w.heap.size w w'
theorem WPost.nil {w w' : World} (hb : Below w.heap.size w w') : WPost [] w (.returned (.slice none 0 0)) w' := ⟨_, rfl, .inl ⟨rfl, rfl⟩, hb⟩
theorem at_of {x : List Int} {i : Nat} (h : i < x.length) : at_ x i = x[i] := by
  unfold at_
  rw [List.getD_eq_getElem?_getD, List.getElem?_eq_getElem h]
  rfl
theorem cell_new1 (w : World) (n : Nat) (u : Value) (t : TypeId) : ∀ j v, ([u] : List Value)[j]? = some v → ((w.drewN n).alloc (.cells #[u] t)).cell? ((⟨w.heap.size, 0, none⟩ : Addr).add j) = some v := by
  intro j v hj
  rcases j with _ | j
  · simp at hj
    subst hj
    exact block_cell (heap_alloc_new (w.drewN n) (.cells #[u] t)) 0
  · simp at hj
set_option maxRecDepth 100000 in
set_option maxHeartbeats 4000000 in
theorem rwrong_c (n : Int) (v u : Value) (l : List Af) (x : List Int) (w : World) (hl1000 : l.length ≤ 1000) (hv : AfR v l w) (hu : RI u x w) : Calls Try.prog 25 #[.int .i64 n, v, u] w fun e w' => WPost (wrongR n l x) w e w' := by
  have HR := Lib.hid (rright_c n v l w hv)
  have HT := Lib.hid (fun (w1 : World) (hb : Below w.heap.size w w1) => times_c n u x w1 (hu.kept hb))
  obtain ⟨i0, hi0, hz0, hz1, hz2⟩ := info_parts info3
  cases hR : rightB n l with
  | false =>
    have e : wrongR n l x = [] := by unfold wrongR; rw [hR]; rfl
    rw [e]
    rw [hR] at HR
    clear hR e hv hu HT
    go_enter Try.func25, Try.ntmps25
    go_wp2_with (go_at_call 12; refine HR.out.mono ?_; rintro e w1 ⟨rfl, hb1⟩)
    go_ret
    exact WPost.nil hb1
  | true =>
    rw [hR] at HR
    cases hT : timesB n x with
    | false =>
      have e : wrongR n l x = [] := by unfold wrongR; rw [hR, hT]; rfl
      rw [e]
      rw [hT] at HT
      clear hR hT e hv hu
      go_enter Try.func25, Try.ntmps25
      go_wp2_with (first | (go_at_call 12; refine HR.out.mono ?_; rintro e w1 ⟨rfl, hb1⟩) | (go_at_call 26; refine (HT.out _ hb1).mono ?_; rintro e w2 ⟨rfl, hb2⟩))
      go_ret
      exact WPost.nil (bon hb1 hb2)
    | true =>
      have e : wrongR n l x = wrongTo l x l.length := by unfold wrongR; rw [hR, hT, if_pos (by rfl)]
      rw [e]
      rw [hT] at HT
      obtain ⟨ao, c, rfl, _, _⟩ := hv.form
      obtain ⟨bo, d, rfl, _, _⟩ := hu.form
      have HF := Lib.hid (rightB_iff.1 hR).2
      have hn := (rightB_iff.1 hR).1
      obtain ⟨ht1, ht2⟩ := timesB_iff.1 hT
      have HX := Lib.hid ht1
      obtain rfl := ht2
      have HV := Lib.hid hv
      have HU := Lib.hid hu
      clear hR hT e hv hu ht1
      go_enter Try.func25, Try.ntmps25
      go_wp2_with (first | (go_at_call 12; refine HR.out.mono ?_; rintro e w1 ⟨rfl, hb1⟩) | (go_at_call 26; refine (HT.out _ hb1).mono ?_; rintro e w2 ⟨rfl, hb2⟩))
      have hb0 := bon hb1 hb2
      clear hb1 hb2
      go_loopg [7, 8] l.length (fun gg s7 s8 wr => ∃ (k : Nat) (vv : Value), gg = l.length - k ∧ k ≤ l.length ∧ s8 = .int .i64 k ∧ vv = s7 ∧ wr.ownsRow w.heap.size 3 1 vv (wrongTo l x k).length (vals (wrongTo l x k)) ∧ Below w.heap.size w wr)
      case atStart => exact ⟨0, _, rfl, Nat.zero_le _, rfl, rfl, ⟨rfl, .inl ⟨rfl, rfl⟩⟩, hb0⟩
      case round =>
        clear hb0 HR HT
        obtain ⟨k, vv, rfl, hk, rfl, rfl, hown, hb⟩ := hrel
        have hs := hb.size
        by_cases hlt : k < l.length
        · have hd : decide ((k : Int) < (l.length : Int)) = true := by simp; omega
          obtain ⟨a, rfl, hg, e0, e1, e2⟩ := (HV.out.kept hb).at_ k hlt
          obtain ⟨f1, f2, f3, f4, f5, f6⟩ := HF.out _ (List.getElem_mem hlt)
          have hel := elt_get hlt
          obtain ⟨i, hi⟩ : ∃ i : Nat, (l[k]).1 = i := ⟨(l[k]).1.toNat, by omega⟩
          obtain ⟨j, hj'⟩ : ∃ j : Nat, (l[k]).2.1 = j := ⟨(l[k]).2.1.toNat, by omega⟩
          have h1 : bI l[k] = i := by unfold bI; rw [hi]; rfl
          have h2 : bJ l[k] = j := by unfold bJ; rw [hj']; rfl
          have h3 : (l[k]).2.2 = bG l[k] := rfl
          have WY := Lib.hid (wrongTo_yes (x := x) (k := k) hel h1 h2)
          have WN := Lib.hid (wrongTo_no (x := x) (k := k) hel h1 h2)
          rw [hi] at e0 f1 f2
          rw [hj'] at e1 f3 f4
          rw [h3] at e2 f5 f6
          obtain ⟨b, rfl, hg2, ci⟩ := (HU.out.kept hb).at_ i (by omega)
          obtain ⟨b', hbb, _, cj⟩ := (HU.out.kept hb).at_ j (by omega)
          cases hbb
          have si := HX.out _ (List.getElem_mem (by omega : i < x.length))
          have sj := HX.out _ (List.getElem_mem (by omega : j < x.length))
          rw [← at_of (by omega : i < x.length)] at ci si
          rw [← at_of (by omega : j < x.length)] at cj sj
          have hwl := wrongTo_len l x k
          have HB := Lib.hid hb
          have HO1 := Lib.hid (fun (q : Nat) => World.ownsRow.alloc (w := wr.drewN q) hown (Obj.cells #[.int .i64 k] 3))
          have HOW := Lib.hid hown
          clear hi hj' h1 h2 h3 hel hown hb
          generalize bG l[k] = G at *
          generalize at_ x i = xi at *
          generalize at_ x j = xj at *
          have x1 : IntKind.i64.wrap (xi + G) = xi + G := wrap_of (by omega) (by omega)
          by_cases ht : xj < xi + G
          · have hdt : decide (xj < xi + G) = true := by simpa using ht
            have HS := Lib.hid (WY.out ht)
            clear ht WY WN
            go_wp2_with fail
            go_quiet (fail)
            go_wp2_with (at_builtin; refine wpList_append_own _ rfl _ _ 25 rfl w.heap.size 3 i0 (.int .i64 0) 1 8 Try.underlying25 hi0 hz0 hz1 hz2 rfl (by decide) vv (wrongTo l x k).length _ (by rfl) (HO1.out nq) ⟨wr.heap.size, 0, none⟩ 1 1 [.int .i64 k] (by rfl) (by rfl) (cell_new1 wr nq _ 3) (by simp [Value.oneCell']) (by unfold maxLen; omega) (by omega) (by simp; omega) ?_)
            intro v1 w1 hown1 hg1 _
            have hb1 := belowG ((below_drewN HB.out nq).alloc hs (Obj.cells #[.int .i64 k] 3)) (by simp; omega) hg1 HOW.out
            have hown2 : w1.ownsRow w.heap.size 3 1 v1 (wrongTo l x (k + 1)).length (vals (wrongTo l x (k + 1))) := by
              rw [HS.out, List.length_append]
              have e9 : vals (wrongTo l x k ++ [(k : Int)]) = vals (wrongTo l x k) ++ [.int .i64 k] := by simp [vals]
              rw [e9]
              exact hown1
            have HO2 := Lib.hid hown2
            clear hown1 hown2 hg1 HO1 HOW
            go_wp2_with fail
            go_roundg (l.length - (k + 1))
            case measure => omega
            case rel => exact ⟨k + 1, _, rfl, by omega, by go_num, rfl, HO2.out, hb1⟩
          · have hdt : decide (xj < xi + G) = false := by simpa using ht
            have HS := Lib.hid (WN.out ht)
            clear ht WY WN
            go_wp2_with fail
            go_quiet (fail)
            go_wp2_with fail
            go_roundg (l.length - (k + 1))
            case measure => omega
            case rel => exact ⟨k + 1, _, rfl, by omega, by go_num, rfl, by rw [HS.out]; exact own_blkD HOW.out (fun _ _ => rfl), below_drewN HB.out _⟩
        · obtain rfl : k = l.length := by omega
          have hd : decide ((l.length : Int) < (l.length : Int)) = false := by simp
          have HOW := Lib.hid hown
          clear hown
          go_wp2_with fail
          go_ret
          exact ⟨_, rfl, RI.own HOW.out rfl, hb⟩
end Df
end Go.Proofs.Ythmglahcampllaa
