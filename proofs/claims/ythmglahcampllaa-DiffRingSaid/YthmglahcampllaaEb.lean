/- What is proved here: the walk of DiffRing. Condition: what it is given can be read. -/
import Derived.Test.YthmglahcampllaaDz
namespace Go.Proofs.Ythmglahcampllaa
open Go Go.RowKit
namespace Df
attribute [local go_sem] KW.cell KW.frozen
theorem Pushed.agree {n : Nat} {l : List Af} {s s' : St} (hf : ∀ a ∈ l, Fit n a) (h : Pushed n l s) (h' : Pushed n l s') : s.last < 0 ↔ s'.last < 0 := by
  refine ⟨fun hs => ?_, fun hs => ?_⟩
  · exact Classical.byContradiction fun hc => h'.no hf hc _ (h.yes hf hs).1
  · exact Classical.byContradiction fun hc => h.no hf hc _ (h'.yes hf hs).1
theorem sg_bd (g : Nat → Int) (h : ∀ i, -1073741824 ≤ g i ∧ g i ≤ 1073741824) : ∀ k : Nat, -(1073741824 * (k : Int)) ≤ sg g k ∧ sg g k ≤ 1073741824 * (k : Int) := by
  intro k
  induction k with
  | zero => exact ⟨by show -(1073741824 * ((0 : Nat) : Int)) ≤ 0; omega, by show (0 : Int) ≤ _; omega⟩
  | succ k ih =>
    have := h k
    show -(1073741824 * ((k + 1 : Nat) : Int)) ≤ sg g k + g k ∧ sg g k + g k ≤ 1073741824 * ((k + 1 : Nat) : Int)
    omega
/-- What the law reads of wish number r. -/
theorem afr_nat {ao : Option Addr} {m c n : Nat} {l : List Af} {w : World} (hf : ∀ a ∈ l, Fit n a) (h : AfR (.slice ao m c) l w) (r : Nat) (hr : r < l.length) :
    ∃ a, ao = some a ∧ (a.add (r * 3)).block < w.heap.size ∧ w.cell? (a.add (r * 3)) = some (.int .i64 ((bI (elt l r) : Nat) : Int)) ∧ w.cell? ⟨(a.add (r * 3)).block, (a.add (r * 3)).off + 1, none⟩ = some (.int .i64 ((bJ (elt l r) : Nat) : Int)) ∧ w.cell? ⟨(a.add (r * 3)).block, (a.add (r * 3)).off + 2, none⟩ = some (.int .i64 (bG (elt l r))) := by
  obtain ⟨a, ha, hb, e0, e1, e2⟩ := h.at_ r hr
  obtain ⟨f1, f2, f3, f4, _⟩ := hf _ (List.getElem_mem hr)
  rw [elt_get hr]
  have g1 : (l[r]).1 = ((bI l[r] : Nat) : Int) := by unfold bI; omega
  have g2 : (l[r]).2.1 = ((bJ l[r] : Nat) : Int) := by unfold bJ; omega
  refine ⟨a, ha, by rw [adb]; exact hb, by rw [← g1]; exact e0, by rw [← g2]; exact e1, e2⟩
/-- Where the ring lies: wish number i of it. -/
theorem ri_ring {ao : Option Addr} {m c n : Nat} {l : List Af} {g : List Int} {w : World} (h : RI (.slice ao m c) g w) (hg : RingOk n l g) (i : Nat) (hi : i < g.length) :
    ∃ (b : Addr) (r : Nat), ao = some b ∧ r < l.length ∧ at_ g i = r ∧ (b.add i).block < w.heap.size ∧ w.cell? (b.add i) = some (.int .i64 (r : Int)) := by
  obtain ⟨b, hb, h1, e⟩ := h.at_ i hi
  obtain ⟨h2, h3⟩ := hg.inl i hi
  have e2 : at_ g i = g[i] := at_of hi
  refine ⟨b, (at_ g i).toNat, hb, by omega, by omega, by rw [adb]; exact h1, ?_⟩
  rw [Int.toNat_of_nonneg h2, e2]
  exact e
set_option maxRecDepth 100000 in
set_option maxHeartbeats 8000000 in
theorem law3 (n0 : Int) (v : Value) (l : List Af) (W : World) (hv : AfR v l W) : Calls Try.prog 3 #[.int .i64 n0, v] W fun e W' => e = .returned (.bool true) ∧ Below W.heap.size W W' := by
  have hb0 := Below.refl W.heap.size W
  obtain ⟨ao, c, rfl, hl1, hl2⟩ := hv.form
  unfold maxLen at hl2
  have hlen : l.length ≤ 9223372036854775807 := by omega
  have HV := Lib.hid hv
  clear hv hl1 hl2
  by_cases h1 : 256 < (l.length : Int)
  · have d1 : decide (256 < l.length) = true := by simp; omega
    generalize l.length = m at *
    go_enter Try.func3, Try.ntmps3
    go_wp2_with (go_at_call 13; refine (awake_b (by assumption)).mono ?_; rintro e w9 ⟨rfl, hb9⟩)
    go_ret
    exact ⟨rfl, hb9⟩
  have d1 : decide (256 < l.length) = false := by simp; omega
  have HR := Lib.hid (rright_c n0 (.slice ao l.length c) l W HV.out)
  cases hR : rightB n0 l with
  | false =>
    rw [hR] at HR
    clear hR
    go_enter Try.func3, Try.ntmps3
    go_wp2_with (first | (go_at_call 12; refine HR.out.mono ?_; rintro e w1 ⟨rfl, hb1⟩) | (go_at_call 13; refine (awake_b (by assumption)).mono ?_; rintro e w9 ⟨rfl, hb9⟩))
    go_ret
    exact ⟨rfl, hb9⟩
  | true =>
    rw [hR] at HR
    obtain ⟨n, rfl⟩ : ∃ n : Nat, n0 = n := ⟨n0.toNat, by have := (rightB_iff.1 hR).1.1; omega⟩
    obtain ⟨hn, hl, hf⟩ := rightB_nat hR
    have HF := Lib.hid hf
    have HRB := Lib.hid hR
    clear hR hf
    go_enter Try.func3, Try.ntmps3
    go_wp2_with (go_at_call 12; refine HR.out.mono ?_; rintro e w1 ⟨rfl, hb1⟩)
    refine (mine_b (by omega) HV hb1).mono ?_
    rintro e w2 ⟨p, rfl, hp, hb2⟩
    clear HR hb1 hb0
    obtain ⟨po, pc, rfl, _, _⟩ := hp.form
    go_wp2_with fail
    refine (earl_yes n po pc l w2 HRB.out hp).mono ?_
    rintro e w3 ⟨hk3, s, hps, hans⟩
    have hb3 := bon hb2 hk3
    clear hp hk3 hb2
    rcases hans with ⟨hsl, z, rfl, _⟩ | ⟨hsl, rfl⟩
    · go_wp2_with fail
      refine (mine_b (by omega) HV hb3).mono ?_
      rintro e w4 ⟨p', rfl, hp', hb4⟩
      obtain ⟨po', pc', rfl, _, _⟩ := hp'.form
      go_wp2_with fail
      refine (ring_run n po' pc' l w4 HRB.out hp').mono ?_
      rintro e w5 ⟨hk5, s', hps', hans'⟩
      have hb5 := bon hb4 hk5
      have hag := (hps.agree HF.out hps').1 hsl
      rcases hans' with ⟨_, rfl⟩ | ⟨h0, _⟩
      · clear hps hps' hag hsl hp' hk5 hb4 hb3
        go_wp2_with fail
        go_loopg [9] 0 (fun gg s9 wr => gg = 0 ∧ s9 = .int .i64 0 ∧ Below W.heap.size W wr)
        case atStart => exact ⟨rfl, rfl, hb5⟩
        case round =>
          obtain ⟨rfl, rfl, hb⟩ := hrel
          go_wp2_with (go_at_call 13; refine (awake_b (by assumption)).mono ?_; rintro e w9 ⟨rfl, hb9⟩)
          go_ret
          exact ⟨rfl, hb9⟩
      · exact absurd hag h0
    · go_wp2_with fail
      refine (mine_b (by omega) HV hb3).mono ?_
      rintro e w4 ⟨p', rfl, hp', hb4⟩
      obtain ⟨po', pc', rfl, _, _⟩ := hp'.form
      go_wp2_with fail
      refine (ring_run n po' pc' l w4 HRB.out hp').mono ?_
      rintro e w5 ⟨hk5, s', hps', hans'⟩
      have hb5 := bon hb4 hk5
      have hag : ¬ s'.last < 0 := fun h => by have := (hps.agree HF.out hps').2 h; omega
      rcases hans' with ⟨h0, _⟩ | ⟨_, g, v', hgo, rfl, hri⟩
      · exact absurd h0 hag
      · obtain ⟨bo, bc, rfl, _, _⟩ := hri.form
        have hq1 := hgo.q1
        have hq2 := hgo.q2
        have hpos := hgo.pos
        have HG := Lib.hid hgo
        have HI := Lib.hid hri
        have HPOS := Lib.hid hpos
        clear hps hps' hag hsl hp' hk5 hb4 hb3 hgo hri hpos
        have j1 : ((g.length : Int) == 0) = false := beq_eq_false_iff_ne.2 (by omega)
        have j2 : (g.length == 0) = false := beq_eq_false_iff_ne.2 (by omega)
        have j3 : decide ((n : Int) < (g.length : Int)) = false := by simp; omega
        have j4 : decide (n < g.length) = false := by simp; omega
        go_wp2_with fail
        go_loopg [8, 9] g.length (fun gg s8 s9 wr => ∃ i : Nat, gg = g.length - i ∧ i ≤ g.length ∧ s9 = .int .i64 i ∧ s8 = .int .i64 (sg (fun i => bG (elt l (at_ g i).toNat)) i) ∧ Below w5.heap.size w5 wr)
        case atStart => exact ⟨0, rfl, Nat.zero_le _, rfl, rfl, Below.refl _ _⟩
        case round =>
          obtain ⟨i, rfl, hi, rfl, rfl, hb⟩ := hrel
          have hbW := bon hb5 hb
          by_cases hlt : i < g.length
          · have hdi : decide ((i : Int) < (g.length : Int)) = true := by simp; omega
            obtain ⟨b, r, rfl, hrl, hgr, hgb, er⟩ := ri_ring (HI.out.kept hb) HG.out i hlt
            obtain ⟨q, hq⟩ : ∃ q, (i + 1) % g.length = q := ⟨_, rfl⟩
            have hql : q < g.length := by rw [← hq]; exact Nat.mod_lt _ (by omega)
            obtain ⟨b2, r2, hb2, hrl2, hgr2, hgb2, er2⟩ := ri_ring (HI.out.kept hb) HG.out q hql
            cases hb2
            have hnx := HG.out.nxt i hlt
            rw [hq, hgr, hgr2] at hnx
            simp only [Int.toNat_natCast] at hnx
            obtain ⟨a, rfl, za, c0, c1, c2⟩ := afr_nat HF.out (HV.out.kept hbW) r hrl
            obtain ⟨a2, ha2, za2, c02, c12, c22⟩ := afr_nat HF.out (HV.out.kept hbW) r2 hrl2
            cases ha2
            rw [hnx] at c1
            have hG1 : -1073741824 ≤ bG (elt l r) ∧ bG (elt l r) ≤ 1073741824 := by
              have := HF.out _ (elt_mem hrl)
              exact ⟨this.2.2.2.2.1, this.2.2.2.2.2⟩
            have hGall : ∀ i, -1073741824 ≤ bG (elt l (at_ g i).toNat) ∧ bG (elt l (at_ g i).toNat) ≤ 1073741824 := by
              intro i
              by_cases hx : (at_ g i).toNat < l.length
              · have := HF.out _ (elt_mem hx)
                exact ⟨this.2.2.2.2.1, this.2.2.2.2.2⟩
              · have : elt l (at_ g i).toNat = (0, 0, 0) := by unfold elt; rw [List.getD_eq_getElem?_getD, List.getElem?_eq_none (by omega)]; rfl
                rw [this]
                exact ⟨by decide, by decide⟩
            have hbd := sg_bd _ hGall i
            have HS : Hid (sg (fun i => bG (elt l (at_ g i).toNat)) (i + 1) = sg (fun i => bG (elt l (at_ g i).toNat)) i + bG (elt l r)) := by
              refine Lib.hid ?_
              show sg (fun i => bG (elt l (at_ g i).toNat)) i + bG (elt l (at_ g i).toNat) = _
              rw [hgr]
              rfl
            have HJ : Hid (bJ (elt l r) = bI (elt l r2)) := Lib.hid hnx
            have HGR := Lib.hid hgr
            have hqi : IntKind.i64.wrap ((i : Int) + 1) = (i : Int) + 1 := wrap_of (by omega) (by omega)
            have hmod : ((i : Int) + 1) % (g.length : Int) = (q : Int) := by rw [← hq, Int.natCast_emod, Int.natCast_add]; rfl
            have hi2 : (i : Int) < (g.length : Int) := by omega
            have hq3 : (q : Int) < (g.length : Int) := by omega
            have hr3 : (r : Int) < (l.length : Int) := by omega
            have hr4 : (r2 : Int) < (l.length : Int) := by omega
            have t1 : decide ((l.length : Int) ≤ (r : Int)) = false := by simp; omega
            have t2 : decide ((l.length : Int) ≤ (r2 : Int)) = false := by simp; omega
            have t3 : decide (l.length ≤ r) = false := by simp; omega
            have t4 : decide (l.length ≤ r2) = false := by simp; omega
            clear hq hnx hgr hgr2 hGall
            generalize hsg : sg (fun i => bG (elt l (at_ g i).toNat)) i = sum at *
            generalize bG (elt l r) = G at *
            generalize bI (elt l r2) = jj at *
            have xs : IntKind.i64.wrap (sum + G) = sum + G := wrap_of (by omega) (by omega)
            clear hsg
            go_wp2_with fail
            go_quiet (fail)
            have hbq := below_drewN hb nq
            have hbWq := below_drewN hbW nq
            clear hqi hmod er2 za2 c02 c12 c22 c0 hgb2 hb hbW
            have HDIF := Lib.hid (fun k hk => HG.out.dif i k hlt hk)
            clear t1 t2 t3 t4 hr4
            have er : (wr.drewN nq).cell? (b.add i) = some (.int .i64 (r : Int)) := er
            have c1 : (wr.drewN nq).cell? ⟨(a.add (r * 3)).block, (a.add (r * 3)).off + 1, none⟩ = some (.int .i64 (jj : Int)) := c1
            have c2 : (wr.drewN nq).cell? ⟨(a.add (r * 3)).block, (a.add (r * 3)).off + 2, none⟩ = some (.int .i64 G) := c2
            have za : (a.add (r * 3)).block < (wr.drewN nq).heap.size := za
            have hgb : (b.add i).block < (wr.drewN nq).heap.size := hgb
            generalize hwq : wr.drewN nq = wq at *
            clear hwq
            go_wp2_with fail
            go_loopg [11] i (fun gg s11 wr' => ∃ k : Nat, gg = i - k ∧ k ≤ i ∧ s11 = .int .i64 k ∧ Below wq.heap.size wq wr')
            case atStart => exact ⟨0, rfl, Nat.zero_le _, rfl, Below.refl _ _⟩
            case round =>
              obtain ⟨k, rfl, hk, rfl, hbk⟩ := hrel
              have er := (hbk.cell (p := b.add i) hgb).trans er
              have c1 := (hbk.cell (p := ⟨(a.add (r * 3)).block, (a.add (r * 3)).off + 1, none⟩) za).trans c1
              have c2 := (hbk.cell (p := ⟨(a.add (r * 3)).block, (a.add (r * 3)).off + 2, none⟩) za).trans c2
              have za := Nat.lt_of_lt_of_le za hbk.size
              have hgb := Nat.lt_of_lt_of_le hgb hbk.size
              by_cases hki : k < i
              · have hdk : decide ((k : Int) < (i : Int)) = true := by simp; omega
                obtain ⟨b3, rk, hb3, hrlk, hgrk, hgbk, erk⟩ := ri_ring (HI.out.kept (bon hbq hbk)) HG.out k (by omega)
                cases hb3
                obtain ⟨a3, ha3, zak, _, c1k, _⟩ := afr_nat HF.out (HV.out.kept (bon hbWq hbk)) rk hrlk
                cases ha3
                have hdd := HDIF.out k hki
                rw [hgrk, HGR.out] at hdd
                simp only [Int.toNat_natCast] at hdd
                rw [HJ.out] at hdd
                have hk3 : (k : Int) < (g.length : Int) := by omega
                have hrk3 : (rk : Int) < (l.length : Int) := by omega
                clear hgrk
                generalize bJ (elt l rk) = jk at *
                have q1 : ((jk : Int) == (jj : Int)) = false := beq_eq_false_iff_ne.2 (by omega)
                have q2 : (jk == jj) = false := beq_eq_false_iff_ne.2 hdd
                clear hdd
                go_wp2_with fail
                go_quiet (fail)
                go_wp2_with fail
                go_roundg (i - (k + 1))
                case measure => omega
                case rel => exact ⟨k + 1, rfl, by omega, by go_num, below_drewN hbk _⟩
              · obtain rfl : k = i := by omega
                have hdk : decide ((k : Int) < (k : Int)) = false := by simp
                go_wp2_with fail
                go_roundg (g.length - (k + 1))
                case measure => omega
                case rel => exact ⟨k + 1, rfl, by omega, by go_num, by rw [HS.out], bon hbq hbk⟩
          · obtain rfl : i = g.length := by omega
            have hdi : decide ((g.length : Int) < (g.length : Int)) = false := by simp
            have hdp : decide (0 < sg (fun i => bG (elt l (at_ g i).toNat)) g.length) = true := by simpa using HPOS.out
            generalize sg (fun i => bG (elt l (at_ g i).toNat)) g.length = sum at *
            go_wp2_with (go_at_call 13; refine (awake_b (by assumption)).mono ?_; rintro e w9 ⟨rfl, hb9⟩)
            go_ret
            exact ⟨rfl, hb9⟩
end Df
end Go.Proofs.Ythmglahcampllaa
