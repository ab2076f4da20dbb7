/- What is proved here: what the program's Wrong answers. Condition: what it is given can be read. -/
import Derived.Test.YthmglahcampllaaDv
namespace Go.Proofs.Ythmglahcampllaa
open Go Go.RowKit
namespace Df
attribute [local go_sem] KW.cell KW.frozen
def nearB (t : Int) : Bool := decide (-1125899906842624 ≤ t ∧ t ≤ 1125899906842624)
theorem near_c (t : Int) (w : World) : Calls Try.prog 61 #[.int .i64 t] w fun e w' => e = .returned (.bool (!nearB t)) ∧ w = w' := by
  by_cases h1 : t < -1125899906842624
  · have e : nearB t = false := decide_eq_false (by omega)
    rw [e]
    clear e
    go_enter Try.func61, Try.ntmps61
    go_wp2_with fail
    go_ret
    exact ⟨rfl, rfl⟩
  by_cases h2 : 1125899906842624 < t
  · have e : nearB t = false := decide_eq_false (by omega)
    rw [e]
    clear e
    go_enter Try.func61, Try.ntmps61
    go_wp2_with fail
    go_ret
    exact ⟨rfl, rfl⟩
  have e : nearB t = true := decide_eq_true (by omega)
  rw [e]
  clear e
  go_enter Try.func61, Try.ntmps61
  go_wp2_with fail
  go_ret
  exact ⟨rfl, rfl⟩
set_option maxRecDepth 100000 in
set_option maxHeartbeats 1000000 in
theorem idxn_run (ao : Option Addr) (c : Nat) (x : List Int) (w : World) (hv : RI (.slice ao x.length c) x w) (hl : x.length ≤ 9223372036854775807) :
    Calls Try.prog 85 #[.slice ao x.length c, .func (.func 61) #[] #[]] w fun e w' => IdxPost (x.all nearB) w e w' := by
  have HV := Lib.hid hv
  clear hv
  go_enter Try.func85, Try.ntmps85
  go_wp2_with fail
  go_loopg [8] x.length (fun gg s8 wr => ∃ k : Nat, gg = x.length - k ∧ k ≤ x.length ∧ s8 = .int .i64 k ∧ Below w.heap.size w wr ∧ Hid (∀ i (_ : i < k) (h : i < x.length), nearB x[i] = true))
  case atStart => exact ⟨0, rfl, Nat.zero_le _, rfl, Below.refl _ _, Lib.hid fun i h => absurd h (Nat.not_lt_zero _)⟩
  case round =>
    obtain ⟨k, rfl, hk, rfl, hb, HO⟩ := hrel
    by_cases hlt : k < x.length
    · have hd : decide ((k : Int) < (x.length : Int)) = true := by simp; omega
      obtain ⟨a, rfl, hg, e0⟩ := (HV.out.kept hb).at_ k hlt
      have HF := Lib.hid (near_c x[k] wr)
      cases hfb : nearB x[k] with
      | true =>
        rw [hfb] at HF
        have HO' : Hid (∀ i (_ : i < k + 1) (h : i < x.length), nearB x[i] = true) := by
          refine Lib.hid fun i hi h => ?_
          by_cases e : i = k
          · subst e; exact hfb
          · exact HO.out i (by omega) h
        clear hfb
        generalize x[k] = t at *
        go_wp2_with (go_at_call 61; refine HF.out.mono ?_; rintro e w1 ⟨rfl, rfl⟩)
        go_roundg (x.length - (k + 1))
        case measure => omega
        case rel => exact ⟨k + 1, rfl, by omega, by go_num, hb, HO'⟩
      | false =>
        rw [hfb] at HF
        have HA : Hid (x.all nearB = false) := by
          refine Lib.hid ?_
          rw [Bool.eq_false_iff]
          intro hc
          have := List.all_eq_true.1 hc _ (List.getElem_mem hlt)
          rw [hfb] at this
          cases this
        clear hfb
        generalize x[k] = t at *
        go_wp2_with (go_at_call 61; refine HF.out.mono ?_; rintro e w1 ⟨rfl, rfl⟩)
        go_ret
        rw [HA.out]
        exact IdxPost.mk' _ (by simp) hb
    · obtain rfl : k = x.length := by omega
      have hd : decide ((x.length : Int) < (x.length : Int)) = false := by simp
      have HA : Hid (x.all nearB = true) := by
        refine Lib.hid (List.all_eq_true.2 fun a ha => ?_)
        obtain ⟨i, hi, rfl⟩ := List.getElem_of_mem ha
        exact HO.out i hi hi
      go_wp2_with fail
      go_ret
      rw [HA.out]
      exact IdxPost.mk' _ (by decide) hb
theorem containsn_c (ao : Option Addr) (c : Nat) (x : List Int) (w : World) (hv : RI (.slice ao x.length c) x w) (hl : x.length ≤ 9223372036854775807) :
    Calls Try.prog 60 #[.slice ao x.length c, .func (.func 61) #[] #[]] w fun e w' => e = .returned (.bool (!(x.all nearB))) ∧ Below w.heap.size w w' := by
  have HI := Lib.hid (idxn_run ao c x w hv hl)
  clear hv
  generalize x.all nearB = b at *
  go_enter Try.func60, Try.ntmps60
  go_wp2_with fail
  refine HI.out.mono ?_
  rintro e w1 ⟨i, rfl, hi, hb⟩
  cases b
  all_goals
    go_wp2_with fail
    go_ret
    exact ⟨rfl, hb⟩
theorem cell_new2 (w : World) (n : Nat) (o : Obj) (u : Value) (t : TypeId) : ∀ j v, ([u] : List Value)[j]? = some v → (((w.alloc o).drewN n).alloc (.cells #[u] t)).cell? ((⟨w.heap.size + 1, 0, none⟩ : Addr).add j) = some v := by
  intro j v hj
  have := cell_new1 (w.alloc o) n u t j v hj
  simpa using this
set_option maxRecDepth 100000 in
set_option maxHeartbeats 4000000 in
theorem wrong_c (n : Int) (v u : Value) (l : List Af) (x : List Int) (w : World) (hv : AfP v l w) (hu : RI u x w) : Calls Try.prog 24 #[.int .i64 n, v, u] w fun e w' => WPost (wrongR n l x) w e w' := by
  have HR := Lib.hid (right_c n v l w hv)
  obtain ⟨ao, c, rfl, _, _⟩ := hv.form
  obtain ⟨bo, d, rfl, hxm, hxc⟩ := hu.form
  unfold maxLen at hxc
  have hxl : x.length ≤ 9223372036854775807 := by omega
  have HC := Lib.hid (fun (w1 : World) (hb : Below w.heap.size w w1) => containsn_c bo d x w1 (hu.kept hb) hxl)
  obtain ⟨i0, hi0, hz0, hz1, hz2⟩ := info_parts info3
  cases hR : rightB n l with
  | false =>
    have e : wrongR n l x = [] := by unfold wrongR; rw [hR]; rfl
    rw [e]
    rw [hR] at HR
    clear hR e hv hu HC
    go_enter Try.func24, Try.ntmps24
    go_wp2_with (go_at_call 22; refine HR.out.mono ?_; rintro e w1 ⟨rfl, hb1⟩)
    go_ret
    exact WPost.nil hb1
  | true =>
    rw [hR] at HR
    by_cases hn : (x.length : Int) = n
    · have hq : ((x.length : Int) == n) = true := by simpa using hn
      have hq2 : ((x.length : Int) != n) = false := by simp [hn]
      cases hT : x.all nearB with
      | false =>
        have e : wrongR n l x = [] := by
          have : timesB n x = false := by
            unfold timesB
            show (x.all nearB && _) = false
            rw [hT]
            rfl
          unfold wrongR
          rw [this, Bool.and_false]
          rfl
        rw [e]
        rw [hT] at HC
        clear hR hT e hv hu hn
        go_enter Try.func24, Try.ntmps24
        go_wp2_with (first | (go_at_call 22; refine HR.out.mono ?_; rintro e w1 ⟨rfl, hb1⟩) | (go_at_call 60; refine (HC.out _ hb1).mono ?_; rintro e w2 ⟨rfl, hb2⟩))
        go_ret
        exact WPost.nil (bon hb1 hb2)
      | true =>
        have e : wrongR n l x = wrongTo l x l.length := by
          have : timesB n x = true := by
            unfold timesB
            show (x.all nearB && _) = true
            rw [hT, Bool.true_and, decide_eq_true_eq]
            exact hn
          unfold wrongR
          rw [hR, this, if_pos (by rfl)]
        rw [e]
        rw [hT] at HC
        have HF := Lib.hid (rightB_iff.1 hR).2
        have hl256 := (rightB_iff.1 hR).1.2.2
        have ht1 : ∀ t ∈ x, -1125899906842624 ≤ t ∧ t ≤ 1125899906842624 := fun t ht => of_decide_eq_true (List.all_eq_true.1 hT t ht)
        have HX := Lib.hid ht1
        subst hn
        have HV := Lib.hid hv
        have HU := Lib.hid hu
        clear hR hT e hv hu ht1 hq hq2
        go_enter Try.func24, Try.ntmps24
        go_wp2_with (first | (go_at_call 22; refine HR.out.mono ?_; rintro e w1 ⟨rfl, hb1⟩) | (go_at_call 60; refine (HC.out _ hb1).mono ?_; rintro e w2 ⟨rfl, hb2⟩))
        have hb0 := bon hb1 hb2
        clear hb1 hb2
        go_loopg [7, 26] l.length (fun gg s7 s8 wr => ∃ (k : Nat) (vv : Value), gg = l.length - k ∧ k ≤ l.length ∧ s8 = .int .i64 k ∧ vv = s7 ∧ wr.ownsRow w.heap.size 3 1 vv (wrongTo l x k).length (vals (wrongTo l x k)) ∧ Below w.heap.size w wr)
        case atStart => exact ⟨0, _, rfl, Nat.zero_le _, rfl, rfl, ⟨rfl, .inl ⟨rfl, rfl⟩⟩, hb0⟩
        case round =>
          clear hb0 HR HC
          obtain ⟨k, vv, rfl, hk, rfl, rfl, hown, hb⟩ := hrel
          have hs := hb.size
          by_cases hlt : k < l.length
          · have hd : decide ((k : Int) < (l.length : Int)) = true := by simp; omega
            obtain ⟨g, rfl, hg, e0, e1, e2⟩ := (HV.out.kept hb).at_ k hlt
            obtain ⟨f1, f2, f3, f4, f5, f6⟩ := HF.out _ (List.getElem_mem hlt)
            have hel := elt_get hlt
            obtain ⟨i, hi⟩ : ∃ i : Nat, (l[k]).1 = i := ⟨(l[k]).1.toNat, by omega⟩
            obtain ⟨j, hj'⟩ : ∃ j : Nat, (l[k]).2.1 = j := ⟨(l[k]).2.1.toNat, by omega⟩
            have h1 : bI l[k] = i := by unfold bI; rw [hi]; rfl
            have h2 : bJ l[k] = j := by unfold bJ; rw [hj']; rfl
            have h3 : (l[k]).2.2 = bG l[k] := rfl
            have WY := Lib.hid (wrongTo_yes (x := x) (k := k) hel h1 h2)
            have WN := Lib.hid (wrongTo_no (x := x) (k := k) hel h1 h2)
            rw [hi] at e0 f1 f2
            rw [hj'] at e1 f3 f4
            rw [h3] at e2 f5 f6
            obtain ⟨b, rfl, hg2, ci⟩ := (HU.out.kept hb).at_ i (by omega)
            obtain ⟨b', hbb, _, cj⟩ := (HU.out.kept hb).at_ j (by omega)
            cases hbb
            have si := HX.out _ (List.getElem_mem (by omega : i < x.length))
            have sj := HX.out _ (List.getElem_mem (by omega : j < x.length))
            rw [← at_of (by omega : i < x.length)] at ci si
            rw [← at_of (by omega : j < x.length)] at cj sj
            have zi : (b.add i).block < wr.heap.size := by rw [adb]; exact hg2
            have zj : (b.add j).block < wr.heap.size := by rw [adb]; exact hg2
            have hwl := wrongTo_len l x k
            have HB := Lib.hid hb
            have HO1 := Lib.hid (fun (q : Nat) => World.ownsRow.alloc (w := (wr.alloc (Obj.cells #[.int .i64 i, .int .i64 j, .int .i64 (bG l[k])] 80)).drewN q) (own_blkD (hown.alloc (Obj.cells #[.int .i64 i, .int .i64 j, .int .i64 (bG l[k])] 80)) (fun _ _ => rfl)) (Obj.cells #[.int .i64 k] 3))
            have HOW := Lib.hid hown
            have HKG := Lib.hid (fun (q : Nat) => own_blkD (w' := (wr.alloc (Obj.cells #[.int .i64 i, .int .i64 j, .int .i64 (bG l[k])] 80)).drewN q) (hown.alloc (Obj.cells #[.int .i64 i, .int .i64 j, .int .i64 (bG l[k])] 80)) (fun _ _ => rfl))
            clear hi hj' h1 h2 h3 hel hown hb
            generalize bG l[k] = G at *
            generalize at_ x i = xi at *
            generalize at_ x j = xj at *
            have x1 : IntKind.i64.wrap (xj - xi) = xj - xi := wrap_of (by omega) (by omega)
            by_cases ht : xj < xi + G
            · have hdt : decide (xj - xi < G) = true := by simp; omega
              have HS := Lib.hid (WY.out ht)
              clear ht WY WN
              go_wp2_with fail
              go_quiet (fail)
              go_wp2_with (at_builtin; refine wpList_append_own _ rfl _ _ 25 rfl w.heap.size 3 i0 (.int .i64 0) 1 8 Try.underlying25 hi0 hz0 hz1 hz2 rfl (by decide) vv (wrongTo l x k).length _ (by rfl) (HO1.out nq) ⟨wr.heap.size + 1, 0, none⟩ 1 1 [.int .i64 k] (by rfl) (by rfl) (cell_new2 wr nq _ _ 3) (by simp [Value.oneCell']) (by unfold maxLen; omega) (by omega) (by simp; omega) ?_)
              intro v1 w1 hown1 hg1 _
              have hb1 := belowG (((below_drewN (HB.out.alloc hs (Obj.cells #[.int .i64 i, .int .i64 j, .int .i64 G] 80)) nq).alloc (by simp; omega) (Obj.cells #[.int .i64 k] 3))) (by simp; omega) hg1 HOW.out
              have hown2 : w1.ownsRow w.heap.size 3 1 v1 (wrongTo l x (k + 1)).length (vals (wrongTo l x (k + 1))) := by
                rw [HS.out, List.length_append]
                have e9 : vals (wrongTo l x k ++ [(k : Int)]) = vals (wrongTo l x k) ++ [.int .i64 k] := by simp [vals]
                rw [e9]
                exact hown1
              have HO2 := Lib.hid hown2
              clear hown1 hown2 hg1 HO1 HOW
              go_wp2_with fail
              go_roundg (l.length - (k + 1))
              case measure => omega
              case rel => exact ⟨k + 1, _, rfl, by omega, by go_num, rfl, HO2.out, hb1⟩
            · have hdt : decide (xj - xi < G) = false := by simp; omega
              have HS := Lib.hid (WN.out ht)
              clear ht WY WN
              go_wp2_with fail
              go_quiet (fail)
              go_wp2_with fail
              go_roundg (l.length - (k + 1))
              case measure => omega
              case rel => exact ⟨k + 1, _, rfl, by omega, by go_num, rfl, by rw [HS.out]; exact HKG.out _, below_drewN (HB.out.alloc hs _) _⟩
          · obtain rfl : k = l.length := by omega
            have hd : decide ((l.length : Int) < (l.length : Int)) = false := by simp
            have HOW := Lib.hid hown
            clear hown
            go_wp2_with fail
            go_ret
            exact ⟨_, rfl, RI.own HOW.out rfl, hb⟩
    · have hq : ((x.length : Int) == n) = false := by simpa using hn
      have hq2 : ((x.length : Int) != n) = true := by simp [hn]
      have e : wrongR n l x = [] := by
        have : timesB n x = false := by
          cases e : timesB n x with
          | false => rfl
          | true => exact absurd (timesB_iff.1 e).2 hn
        unfold wrongR
        rw [this, Bool.and_false]
        rfl
      rw [e]
      clear hR e hv hu hn HC
      go_enter Try.func24, Try.ntmps24
      go_wp2_with (go_at_call 22; refine HR.out.mono ?_; rintro e w1 ⟨rfl, hb1⟩)
      go_ret
      exact WPost.nil hb1
end Df
end Go.Proofs.Ythmglahcampllaa
