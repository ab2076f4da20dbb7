/- What is proved here: what Ring answers. Condition: the wishes can be read. -/
import Derived.Test.YthmglahcampllaaDw
namespace Go.Proofs.Ythmglahcampllaa
open Go Go.RowKit
namespace Df
attribute [local go_sem] KW.cell KW.frozen
/-- What Ring answers. -/
def RgPost (n : Nat) (l : List Af) (w : World) (e : Ending) (w' : World) : Prop :=
  Below w.heap.size w w' ∧ ∃ s, Pushed n l s ∧ ((s.last < 0 ∧ e = .returned (.slice none 0 0)) ∨ (¬ s.last < 0 ∧ ∃ g v, RingOk n l g ∧ e = .returned v ∧ RI v g w'))
theorem ring_no (n : Int) (v : Value) (l : List Af) (w : World) (hR : rightB n l = false) (hv : AfP v l w) : Calls Try.prog 16 #[.int .i64 n, v] w fun e w' => e = .returned (.slice none 0 0) ∧ Below w.heap.size w w' := by
  have HR := Lib.hid (right_c n v l w hv)
  rw [hR] at HR
  clear hR hv
  go_enter Try.func16, Try.ntmps16
  go_wp2_with (go_at_call 22; refine HR.out.mono ?_; rintro e w1 ⟨rfl, hb1⟩)
  go_ret
  exact ⟨rfl, hb1⟩
def pre (l : List Af) (s : St) (w0 t : Nat) : List Int := (List.range t).map fun j => at_ s.b (it (fr l s) j w0)
theorem pre_len (l : List Af) (s : St) (w0 t : Nat) : (pre l s w0 t).length = t := by simp [pre]
theorem pre_snoc (l : List Af) (s : St) (w0 t : Nat) : vals (pre l s w0 (t + 1)) = vals (pre l s w0 t) ++ [.int .i64 (at_ s.b (it (fr l s) t w0))] := by simp [vals, pre, List.range_succ]
theorem pre_ring (l : List Af) (s : St) (w0 q : Nat) : (pre l s w0 q).reverse = ringL l s w0 q := rfl
/-- One step back, out of memory. -/
theorem back {n : Nat} {l : List Af} {s : St} {u : Nat} (hf : ∀ a ∈ l, Fit n a) (h : ∃ i : Nat, i < l.length ∧ at_ s.b u = i ∧ bJ (elt l i) = u) : ∃ (i : Nat) (h : i < l.length), at_ s.b u = i ∧ (l[i]).1 = ((fr l s u : Nat) : Int) := by
  obtain ⟨i, hi, e, _⟩ := h
  refine ⟨i, hi, e, ?_⟩
  have h0 := (hf _ (List.getElem_mem hi)).1
  unfold fr bI
  rw [e, Int.toNat_natCast, elt_get hi]
  omega
set_option maxRecDepth 100000 in
set_option maxHeartbeats 8000000 in
theorem ring_run (n : Nat) (ao : Option Addr) (c : Nat) (l : List Af) (w : World) (hR : rightB n l = true) (hv : AfP (.slice ao l.length c) l w) : Calls Try.prog 16 #[.int .i64 n, .slice ao l.length c] w fun e w' => RgPost n l w e w' := by
  obtain ⟨hn, hl, hf⟩ := rightB_nat hR
  have HR := Lib.hid (right_c n (.slice ao l.length c) l w hv)
  rw [hR] at HR
  have HV := Lib.hid hv
  have HF := Lib.hid hf
  obtain ⟨i0, hi0, hz0, hz1, hz2⟩ := info_parts info3
  clear hR hv hf
  go_enter Try.func16, Try.ntmps16
  go_wp2_with (go_at_call 22; refine HR.out.mono ?_; rintro e w1 ⟨rfl, hb1⟩)
  refine (push_run n ao c l w1 hn hl HF.out (HV.out.kept hb1)).mono ?_
  rintro e w2 ⟨S, gx, gb, rfl, hP, hM⟩
  have HP := Lib.hid hP
  have hb2 := bon hb1 hM.bl
  have hgb := block_lt hM.bb
  have hlb := hP.len.2
  have HM := Lib.hid hM
  clear hP hM hb1 HR
  by_cases ht : S.last < 0
  · have hd : decide (S.last < 0) = true := by simpa using ht
    have HT := Lib.hid ht
    clear ht
    go_wp2_with fail
    go_ret
    exact ⟨hb2, S, HP.out, .inl ⟨HT.out, rfl⟩⟩
  · obtain ⟨v0, q, hr⟩ := HP.out.ring HF.out ht
    have hd : decide (S.last < 0) = false := by simpa using ht
    have HT := Lib.hid ht
    have hls := hr.lst
    have hq1 := hr.q1
    have hq2 := hr.q2
    have HRG := Lib.hid hr
    clear ht hr
    rw [hls] at hd ⊢
    have HLS := Lib.hid hls
    clear hls
    go_wp2_with fail
    go_loopg [7, 24] n (fun gg s7 s24 wr => ∃ m : Nat, gg = n - m ∧ m ≤ n ∧ s24 = .int .i64 m ∧ s7 = .int .i64 ((it (fr l S) m v0 : Nat) : Int) ∧ Below w2.heap.size w2 wr)
    case atStart => exact ⟨0, rfl, Nat.zero_le _, rfl, rfl, Below.refl _ _⟩
    case round =>
      obtain ⟨m, rfl, hm, rfl, rfl, hb⟩ := hrel
      by_cases hlt : m < n
      · have hdm : decide ((m : Int) < (n : Int)) = true := by simp; omega
        obtain ⟨hu, hex⟩ := HRG.out.ok m
        obtain ⟨i, hi, hbi, hfi⟩ := back HF.out hex
        obtain ⟨g, rfl, hg, e0, _, _⟩ := (HV.out.kept (bon hb2 hb)).at_ i hi
        have cb := ((hb.cell (p := ⟨gb, it (fr l S) m v0, none⟩) hgb)).trans (HM.out.cb (it (fr l S) m v0) (by omega))
        rw [hbi] at cb
        rw [hfi] at e0
        have HU : Hid (it (fr l S) (m + 1) v0 = fr l S (it (fr l S) m v0)) := Lib.hid rfl
        clear hex hbi hfi
        generalize fr l S (it (fr l S) m v0) = u' at *
        generalize it (fr l S) m v0 = u at *
        go_wp2_with fail
        go_roundg (n - (m + 1))
        case measure => omega
        case rel => exact ⟨m + 1, rfl, by omega, by go_num, by rw [HU.out], hb⟩
      · obtain rfl : m = n := by omega
        have hdm : decide ((m : Int) < (m : Int)) = false := by simp
        have hper := HRG.out.per
        have hmin := HRG.out.min
        have hok : ∀ t, it (fr l S) t (it (fr l S) m v0) < m ∧ ∃ i : Nat, i < l.length ∧ at_ S.b (it (fr l S) t (it (fr l S) m v0)) = i ∧ bJ (elt l i) = it (fr l S) t (it (fr l S) m v0) := fun t => by
          rw [← it_add]
          exact HRG.out.ok (t + m)
        have hlist := HRG.out.list
        have HPer := Lib.hid hper
        have HMin := Lib.hid hmin
        have HOK := Lib.hid hok
        have HL := Lib.hid hlist
        clear hper hmin hok hlist HRG HLS
        generalize it (fr l S) m v0 = w0 at *
        obtain ⟨wo, rfl⟩ : ∃ wo : World, wo = wr := ⟨_, rfl⟩
        go_wp2_with fail
        go_loopg [8, 9] q (fun gg s8 s9 wr => ∃ (t : Nat) (vv : Value), gg = q - t ∧ t ≤ q ∧ vv = s8 ∧ s9 = .int .i64 ((it (fr l S) t w0 : Nat) : Int) ∧ wr.ownsRow w2.heap.size 3 1 vv t (vals (pre l S w0 t)) ∧ Below w2.heap.size w2 wr)
        case atStart => exact ⟨0, _, rfl, Nat.zero_le _, rfl, rfl, ⟨rfl, .inl ⟨rfl, rfl⟩⟩, hb⟩
        case round =>
          clear hb
          obtain ⟨t, vv, rfl, htq, rfl, rfl, hown, hb⟩ := hrel
          have hs := hb.size
          obtain ⟨ao', c', hvv⟩ : ∃ ao c, vv = .slice ao t c := by
            rcases hown.2 with ⟨rfl, h0⟩ | ⟨g', cap', cur, rfl, _⟩
            · exact ⟨none, 0, by rw [h0]⟩
            · exact ⟨_, _, rfl⟩
          subst hvv
          by_cases hlt2 : t < q
          · obtain ⟨hu, hex⟩ := HOK.out t
            obtain ⟨i, hi, hbi, hfi⟩ := back HF.out hex
            obtain ⟨g, rfl, hg, e0, _, _⟩ := (HV.out.kept hb2).at_ i hi
            have cb := HM.out.cb (it (fr l S) t w0) (by omega)
            rw [hbi] at cb
            rw [hfi] at e0
            have HU : Hid (it (fr l S) (t + 1) w0 = fr l S (it (fr l S) t w0)) := Lib.hid rfl
            have HPre := Lib.hid (pre_snoc l S w0 t)
            rw [hbi] at HPre
            have hmin := HMin.out t
            clear hex hbi hfi
            have hne : t = 0 ∨ (1 ≤ t ∧ ¬ it (fr l S) t w0 = w0) := by
              rcases Nat.eq_zero_or_pos t with h0 | h0
              · exact .inl h0
              · exact .inr ⟨h0, hmin h0 hlt2⟩
            clear hmin
            have hgl : g < w2.heap.size := hg
            have hgb' := hgb
            have dq : t + 1 ≤ 1000 := by omega
            have cbr := (hb.cell (p := ⟨gb, it (fr l S) t w0, none⟩) hgb).trans cb
            have e0r := (hb.cell (p := ⟨g, i * 3, none⟩) hgl).trans e0
            have e0n := HP.out
            clear e0n
            generalize fr l S (it (fr l S) t w0) = u' at *
            generalize it (fr l S) t w0 = u at *
            rcases hne with rfl | ⟨h1, h2⟩
            · go_wp2_with (at_builtin; refine wpList_append_own _ rfl _ _ 25 rfl w2.heap.size 3 i0 (.int .i64 0) 1 8 Try.underlying25 hi0 hz0 hz1 hz2 rfl (by decide) (.slice ao' 0 c') 0 _ (by rfl) (hown.alloc _) ⟨wr.heap.size, 0, none⟩ 1 1 [.int .i64 i] (by rfl) (by rfl) (by intro j u hj; rcases j with _ | j <;> simp at hj; subst hj; simp [go_sem, Addr.add]) (by simp [Value.oneCell']) (by unfold maxLen; omega) (by omega) (by simp; omega) ?_)
              intro v1 w3 hown1 hg1 _
              have hb1 := belowG (hb.alloc hs (Obj.cells #[.int .i64 i] 3)) (by simp; omega) hg1 hown
              have hown2 : w3.ownsRow w2.heap.size 3 1 v1 (0 + 1) (vals (pre l S w0 (0 + 1))) := by
                rw [HPre.out]
                exact hown1
              have HO2 := Lib.hid hown2
              have g0 := (hb1.cell (p := ⟨gb, u, none⟩) hgb).trans cb
              have g1 := (hb1.cell (p := ⟨g, i * 3, none⟩) hgl).trans e0
              clear hown1 hown2 hg1 hown
              go_wp2_with fail
              go_roundg (q - (0 + 1))
              case measure => omega
              case rel => exact ⟨0 + 1, _, rfl, by omega, rfl, by rw [HU.out], HO2.out, hb1⟩
            · have q1 : ((t : Int) == 0) = false := by simp; omega
              have q2 : (t == 0) = false := by simp; omega
              have q3 : ((u : Int) == (w0 : Int)) = false := by simp; omega
              have q4 : ((u : Int) != (w0 : Int)) = true := by simp; omega
              have q5 : (u == w0) = false := by simp; omega
              have q6 : (u != w0) = true := by simp; omega
              clear h2
              go_wp2_with (at_builtin; refine wpList_append_own _ rfl _ _ 25 rfl w2.heap.size 3 i0 (.int .i64 0) 1 8 Try.underlying25 hi0 hz0 hz1 hz2 rfl (by decide) (.slice ao' t c') t _ (by rfl) (hown.alloc _) ⟨wr.heap.size, 0, none⟩ 1 1 [.int .i64 i] (by rfl) (by rfl) (by intro j u hj; rcases j with _ | j <;> simp at hj; subst hj; simp [go_sem, Addr.add]) (by simp [Value.oneCell']) (by unfold maxLen; omega) (by omega) (by simp; omega) ?_)
              intro v1 w3 hown1 hg1 _
              have hb1 := belowG (hb.alloc hs (Obj.cells #[.int .i64 i] 3)) (by simp; omega) hg1 hown
              have hown2 : w3.ownsRow w2.heap.size 3 1 v1 (t + 1) (vals (pre l S w0 (t + 1))) := by
                rw [HPre.out]
                exact hown1
              have HO2 := Lib.hid hown2
              have g0 := (hb1.cell (p := ⟨gb, u, none⟩) hgb).trans cb
              have g1 := (hb1.cell (p := ⟨g, i * 3, none⟩) hgl).trans e0
              clear hown1 hown2 hg1 hown
              go_wp2_with fail
              go_roundg (q - (t + 1))
              case measure => omega
              case rel => exact ⟨t + 1, _, rfl, by omega, rfl, by rw [HU.out], HO2.out, hb1⟩
          · obtain rfl : t = q := by omega
            have hper := HPer.out
            have HO := Lib.hid hown
            rw [hper]
            rcases hown.2 with ⟨_, h0⟩ | ⟨go, cap', cur, hvv, _⟩
            · omega
            injection hvv with h1 h2 h3
            subst h1 h3
            have hrv := rev_run w2.heap.size go c' (pre l S w0 t) wr hs (by rw [pre_len]; omega) (by rw [pre_len]; omega) (by rw [pre_len]; exact hown)
            rw [pre_len, pre_ring] at hrv
            have HRV := Lib.hid hrv
            clear hper hown hrv h2
            have q1 : ((t : Int) == 0) = false := by simp; omega
            have q2 : (t == 0) = false := by simp; omega
            go_wp2_with (go_at_call 51; refine HRV.out.mono ?_; rintro e w4 ⟨rfl, hown4, hb4⟩)
            go_ret
            exact ⟨bon hb2 (hb.trans hb4), S, HP.out, .inr ⟨by have := HT.out; omega, _, _, HL.out, rfl, RI.own hown4 (ringL_len ..).symm⟩⟩
end Df
end Go.Proofs.Ythmglahcampllaa
