/- What is proved here: what a table sends of a packet. Condition: its rules are simple. -/
import Derived.Test.YtekfkieimdgfkaaGreatT27
namespace Go.Proofs.YtekfkieimdgfkaaGreat
open Go Go.RowKit
attribute [local go_sem] KW.cell KW.frozen
theorem own_rowU {B n : Nat} {v : Value} {xs : List Ruv} {w : World} (h : w.ownsRow B 70 11 v n (flatR ruE xs)) (hn : 0 < n) (hx : xs.length = n) : ∃ g cap, v = .slice (some ⟨g, 0, none⟩) n cap ∧ B ≤ g ∧ g < w.heap.size ∧ ∀ k (h : k < xs.length), w.rangeAt g (k * 11) (ruE xs[k]) := by
  rcases h.2 with ⟨_, h0⟩ | ⟨g, cap, cur, rfl, hB, hg, _, _, hz, ht⟩
  · omega
  · refine ⟨g, cap, rfl, hB, block_lt hg, fun k hk j u hj => ?_⟩
    have hf := flatR_get ruE_len xs k hk j u hj
    rw [← ht, List.getElem?_take] at hf
    split at hf
    · rw [block_cell hg]
      simpa using hf
    · cases hf
/-- The place of the first rule that hits. -/
def IdxR (l : List Ru) (p : Pk) (r : Int) : Prop :=
  (∃ (j : Nat) (h : j < l.length), r = j ∧ hitB l[j].1.2 p = true ∧ ∀ i (h : i < l.length), i < j → hitB l[i].1.2 p = false) ∨ (r = -1 ∧ ∀ i (h : i < l.length), hitB l[i].1.2 p = false)
def RuOk (r : Ru) : Prop := MOk r.1.2 ∧ AOk r.2
set_option maxRecDepth 100000 in
set_option maxHeartbeats 8000000 in
theorem idx39_c (B : Nat) (v : Value) (l : List Ru) (b1 b2 : Nat) (port : Int) (p : Pk) (w : World) (hr : RdU B v l w) (hl : ∀ r ∈ l, RuOk r) (hp : RightF p) (h1 : w.heap[b1]? = some (.cells #[.int .i64 port] 3 (0, 0))) (h2 : w.heap[b2]? = some (.cells (pkA p) 29 (0, 0))) :
    Calls Tryz.prog 39 #[v, .func (.func 40) #[] #[.pointer (some ⟨b1, 0, none⟩), .pointer (some ⟨b2, 0, none⟩)]] w fun e w' => ∃ r : Int, e = .returned (.int .i64 r) ∧ IdxR l p r ∧ Below w.heap.size w w' := by
  obtain ⟨xs, x2, x3, x4⟩ := hr
  have x1 : xs.length = l.length := by simpa using congrArg List.length x2
  obtain ⟨vo, vc, rfl, hvl, hvc⟩ := own_form x3
  have HX1 := Lib.hid x1
  have HX2 := Lib.hid x2
  have HX3 := Lib.hid x3
  have HX4 := Lib.hid x4
  have HL := Lib.hid hl
  have HPP := Lib.hid hp
  have H1 := Lib.hid h1
  have H2 := Lib.hid h2
  have hll : l.length ≤ 9223372036854775807 := by unfold maxLen at hvc; omega
  clear x1 x2 x3 x4 hl hp h1 h2
  have hf := call_40
  go_enter Tryz.func39, Tryz.ntmps39
  go_wp2_with fail
  go_loopw [8] (fun i wr => ∃ k : Nat, i = .int .i64 k ∧ k ≤ l.length ∧ Hid (∀ i (h : i < l.length), i < k → hitB l[i].1.2 p = false) ∧ Hid (Below w.heap.size w wr)) (fun i _ => l.length - (intOf i).toNat)
  case atStart => exact ⟨0, rfl, Nat.zero_le _, Lib.hid (fun i _ h => absurd h (by omega)), Lib.hid (Below.refl _ _)⟩
  case round =>
    obtain ⟨k, rfl, hk, HA, HB2⟩ := hrel
    by_cases hlt : k < l.length
    · have hd : decide ((k : Int) < (l.length : Int)) = true := by simp; omega
      have hk2 : (k : Int) < (l.length : Int) := by omega
      obtain ⟨g, cap, hv, hgB, hgl, hrow⟩ := own_rowU (own_kept HX3.out HB2.out) (by omega) HX1.out
      cases hv
      have hkx : k < xs.length := by rw [HX1.out]; exact hlt
      have HR := Lib.hid (hrow k hkx)
      have e1 : xs[k].1 = l[k].1 := by
        have := congrArg (·[k]?) HX2.out
        simpa [hkx, hlt] using this
      have hok := HL.out l[k] (List.getElem_mem hlt)
      have Y := Lib.hid (fun w' (hb : Below w.heap.size w w') => hit40_c xs[k] b1 b2 port p w' (by rw [e1]; exact hok.1) HPP.out (by obtain ⟨a, c, e, _, _⟩ := own_form (HX4.out k hkx hlt); exact ⟨_, _, _, e⟩) ((hb.block b1 (block_lt H1.out)).trans H1.out) ((hb.block b2 (block_lt H2.out)).trans H2.out))
      obtain ⟨b, hb⟩ : ∃ b, hitB l[k].1.2 p = b := ⟨_, rfl⟩
      rw [e1, hb] at Y
      have HAB := Lib.hid hb
      unfold ruE at HR
      obtain ⟨ac, hac⟩ : ∃ a, ruA xs[k] = a := ⟨_, rfl⟩
      have hzc : ac.size = 11 := by rw [← hac]; rfl
      rw [hac] at HR Y
      unfold Ret at Y
      clear hac e1 hok hb hrow
      go_wp2_with (refine stop_load 70 _ rfl ?_)
      obtain ⟨f70, hu70⟩ := und70
      refine Stop.go (wpList_load_mid rfl 70 _ rfl g (k * 11) rfl ac.toList (.struct f70) HR.out hu70 rfl (by rw [Array.length_toList, hzc]; exact inf70) ?_)
      clear hu70
      go_wp2_with fail
      refine (Y.out _ HB2.out).mono ?_
      rintro e w4 ⟨rfl, hb4⟩
      have HB4 : Hid (Below w.heap.size w w4) := Lib.hid (HB2.out.trans (hb4.mono HB2.out.size))
      clear hb4 Y HR
      cases b with
      | true =>
        go_wp2_with fail
        go_ret
        exact ⟨k, rfl, .inl ⟨k, hlt, rfl, HAB.out, HA.out⟩, HB4.out⟩
      | false =>
        have HA2 := Lib.hid (show ∀ i (h : i < l.length), i < k + 1 → hitB l[i].1.2 p = false from fun i h hi => by
          by_cases hik : i = k
          · subst hik; exact HAB.out
          · exact HA.out i h (by omega))
        go_wp2_with fail
        go_roundw
        case rel => exact ⟨k + 1, by go_num, hlt, HA2, HB4⟩
        case measure => simp [intOf]; omega
    · obtain rfl : k = l.length := by omega
      have hd : decide ((l.length : Int) < (l.length : Int)) = false := by simp
      go_wp2_with fail
      go_ret
      exact ⟨-1, rfl, .inr ⟨rfl, fun i h => HA.out i h h⟩, HB2.out⟩
set_option maxRecDepth 100000 in
set_option maxHeartbeats 8000000 in
theorem find_c (B : Nat) (v : Value) (l : List Ru) (port : Int) (p : Pk) (w : World) (hr : RdU B v l w) (hl : ∀ r ∈ l, RuOk r) (hp : RightF p) :
    Calls Tryz.prog 20 #[v, .int .i64 port, .agg (pkA p)] w fun e w' => ∃ r : Int, e = .returned (.int .i64 r) ∧ IdxR l p r ∧ Below w.heap.size w w' := by
  have HB : Hid (Below w.heap.size w ((w.alloc (.cells #[.int .i64 port] 3)).alloc (.cells (pkA p) 29))) := Lib.hid (((Below.refl _ _).alloc (Nat.le_refl _) _).alloc (by simp) _)
  have H1 : Hid (((w.alloc (.cells #[.int .i64 port] 3)).alloc (.cells (pkA p) 29)).heap[w.heap.size]? = some (.cells #[.int .i64 port] 3 (0, 0))) :=
    Lib.hid ((Below.heap_alloc _ _ _ (by simp)).trans (heap_alloc_new w _))
  have H2 : Hid (((w.alloc (.cells #[.int .i64 port] 3)).alloc (.cells (pkA p) 29)).heap[w.heap.size + 1]? = some (.cells (pkA p) 29 (0, 0))) := by
    have := heap_alloc_new (w.alloc (.cells #[.int .i64 port] 3)) (.cells (pkA p) 29)
    exact Lib.hid (by simpa using this)
  have X := Lib.hid (idx39_c B v l w.heap.size (w.heap.size + 1) port p _ (hr.kept HB.out) hl hp H1.out H2.out)
  have hmf : ∀ (fn : Fn) (first cap : Array Value) (w : World), (Instr.makeFunc fn first cap).run Tryz.prog w = .ok (.func fn first cap) w := fun _ _ _ _ => rfl
  clear hr hl hp
  go_enter Tryz.func20, Tryz.ntmps20
  go_wp2_with fail
  refine X.out.mono ?_
  rintro e w1 ⟨r, rfl, hi, hb⟩
  have HI := Lib.hid hi
  have HB1 := Lib.hid (HB.out.trans (hb.mono HB.out.size))
  clear hi hb X HB H1 H2
  go_wp2_with fail
  go_ret
  exact ⟨r, rfl, HI.out, HB1.out⟩
theorem IdxR.out {l : List Ru} {p : Pk} {r : Int} (h : IdxR l p r) : (∃ (j : Nat) (h : j < l.length), r = j ∧ outL l p = sentL l[j].2 p) ∨ (r = -1 ∧ outL l p = []) := by
  rcases h with ⟨j, hj, rfl, h1, h2⟩ | ⟨rfl, h⟩
  · refine .inl ⟨j, hj, rfl, ?_⟩
    have e : l.find? (fun r => hitB r.1.2 p) = some l[j] := by
      rw [List.find?_eq_some_iff_getElem]
      exact ⟨h1, j, hj, rfl, fun i hi => by simp [h2 i (by omega) hi]⟩
    unfold outL
    rw [e]
  · refine .inr ⟨rfl, ?_⟩
    have e : l.find? (fun r => hitB r.1.2 p) = none := by
      rw [List.find?_eq_none]
      intro x hx
      obtain ⟨i, hi, rfl⟩ := List.getElem_of_mem hx
      simp [h i hi]
    unfold outL
    rw [e]
end Go.Proofs.YtekfkieimdgfkaaGreat
/- What is proved here: what a table sends of a packet. Condition: its rules are simple. -/
namespace Go.Proofs.YtekfkieimdgfkaaGreat
open Go Go.RowKit
attribute [local go_sem] KW.cell KW.frozen
set_option maxRecDepth 100000 in
set_option maxHeartbeats 8000000 in
theorem run11_c (B : Nat) (v : Value) (l : List Ru) (port : Int) (p : Pk) (w : World) (hr : RdU B v l w) (hl : ∀ r ∈ l, RuOk r) (hp : RightF p) :
    Calls Tryz.prog 11 #[v, .int .i64 port, .agg (pkA p)] w fun e w' => ∃ u, e = .returned u ∧ w'.ownsRow w.heap.size 63 5 u (outL l p).length (flatR stE (outL l p)) ∧ Below w.heap.size w w' := by
  obtain ⟨vo, vc, rfl, hvl, hvc⟩ := hr.form
  have X := Lib.hid (fun w' (hb : Below w.heap.size w w') => find_c B (.slice vo l.length vc) l port p w' (hr.kept hb) hl hp)
  have HB := Lib.hid (grow1 w (.cells (pkA p) 29))
  have HP := Lib.hid (heap_alloc_new w (.cells (pkA p) 29))
  have HR := Lib.hid hr
  have HL := Lib.hid hl
  obtain ⟨ol, hol⟩ : ∃ o, o = outL l p := ⟨_, rfl⟩
  rw [← hol]
  have HOL := Lib.hid hol
  have hll : l.length ≤ 9223372036854775807 := by unfold maxLen at hvc; omega
  clear hr hl hp hol
  go_enter Tryz.func11, Tryz.ntmps11
  go_upto_region 1 with fail
  refine abs_wp ?_
  intro w1 hw1
  have HB1 : Hid (Below w.heap.size w w1) := by rw [hw1]; exact HB
  have HP1 : Hid (w1.heap[w.heap.size]? = some (.cells (pkA p) 29 (0, 0))) := by rw [hw1]; exact HP
  clear hw1 HB HP
  go_wp2_with (refine stop_load 29 _ rfl ?_)
  obtain ⟨d29, hu29, hd29⟩ := und29
  refine Stop.go (wpList_load_mid rfl 29 _ rfl w.heap.size 0 rfl (pkA p).toList d29 (range_all HP1.out) hu29 hd29 inf29 ?_)
  have HU29 := Lib.hid (And.intro hu29 hd29)
  clear hu29 hd29
  go_wp2_with fail
  refine (X.out w1 HB1.out).mono ?_
  rintro e w2 ⟨r, rfl, hi, hb⟩
  have HB2 := Lib.hid (HB1.out.trans (hb.mono HB1.out.size))
  have HP2 := Lib.hid ((hb.block _ (block_lt HP1.out)).trans HP1.out)
  clear hb HB1 HP1 X
  rcases hi.out with ⟨j, hj, rfl, hs⟩ | ⟨rfl, hs⟩
  · obtain ⟨xs, x2, x3, x4⟩ := HR.out.kept HB2.out
    have x1 : xs.length = l.length := by simpa using congrArg List.length x2
    obtain ⟨g, cap, hv, hgB, hgl, hrow⟩ := own_rowU x3 (by omega) x1
    cases hv
    have hjx : j < xs.length := by rw [x1]; exact hj
    obtain ⟨ao, ac, ha, _, _⟩ := own_form (x4 j hjx hj)
    have HA := Lib.hid (x4 j hjx hj)
    rw [ha] at HA
    have hcl : w2.cell? ⟨g, j * 11 + 10, none⟩ = some (.slice ao l[j].2.length ac) := by
      have := hrow j hjx 10 xs[j].2 rfl
      rw [this, ha]
    have HS := Lib.hid (show ol = sentL l[j].2 p from HOL.out.trans hs)
    have HAO := Lib.hid (HL.out l[j] (List.getElem_mem hj)).2
    have HCL := Lib.hid hcl
    obtain ⟨al, hal⟩ : ∃ a, a = l[j].2 := ⟨_, rfl⟩
    rw [← hal] at HA HCL HS HAO
    clear x2 x3 x4 hrow ha hcl hs hi hal
    have hj2 : (j : Int) < (l.length : Int) := by omega
    have hj0 : (0 : Int) ≤ (j : Int) := by omega
    go_upto_region 4 with fail
    refine abs_wp ?_
    intro wb hwb
    have HBb : Hid (Below w.heap.size w wb) := by rw [hwb]; exact HB2
    have HPb : Hid (wb.heap[w.heap.size]? = some (.cells (pkA p) 29 (0, 0))) := by rw [hwb]; exact HP2
    have HAb : Hid (wb.ownsRow B 97 3 (.slice ao al.length ac) al.length (flatR acE al)) := by rw [hwb]; exact HA
    have hcb : wb.cell? ⟨g, j * 11 + 10, none⟩ = some (.slice ao al.length ac) := by rw [hwb]; exact HCL.out
    have hgb : g < wb.heap.size := by rw [hwb]; exact hgl
    clear hwb HB2 HP2 HA HCL
    have hlp := block_lt HPb.out
    refine wp_region_pick [0, 1, 2, 3] [4, 5] [6] [7] [7] (by kernel_rfl) (by kernel_rfl) (by kernel_rfl) ?_
    refine pure_takeD 14 rfl (by rfl) ?v0 ?h0 ?r0
    case h0 => (intro w0 _; go_simp; try (with_reducible rfl))
    (try simp only [Act.put, List.setIfInBounds_toArray, List.set_cons_zero, List.set_cons_succ])
    refine pure_takeD 15 rfl (by rfl) ?v1 ?h1 ?r1
    case h1 => (intro w0 _; go_simp; try (with_reducible rfl))
    (try simp only [Act.put, List.setIfInBounds_toArray, List.set_cons_zero, List.set_cons_succ])
    refine pure_takeD 16 rfl (by rfl) (.pointer (some ⟨g, j * 11, none⟩)) ?h8 ?r8
    case h8 => (intro w0 _; go_simp; try (intro h; omega))
    (try simp only [Act.put, List.setIfInBounds_toArray, List.set_cons_zero, List.set_cons_succ])
    refine pure_takeD 17 rfl (by rfl) ?v3 ?h3 ?r3
    case h3 => (intro w0 _; go_simp; try (with_reducible rfl))
    (try simp only [Act.put, List.setIfInBounds_toArray, List.set_cons_zero, List.set_cons_succ])
    refine pure_end ?_
    (try dsimp only)
    refine pure_takeD 18 rfl (by rfl) (.slice ao al.length ac) ?w0 ?s0
    case w0 => (rintro w0 ⟨kz, rfl⟩; go_simp; try (with_reducible rfl))
    (try simp only [Act.put, List.setIfInBounds_toArray, List.set_cons_zero, List.set_cons_succ])
    refine pure_mid 19 rfl (by rfl) 29 _ rfl w.heap.size 0 rfl (pkA p).toList d29 (fun w0 hw0 => ?m0) HU29.out.1 HU29.out.2 inf29 ?_
    case m0 => (obtain ⟨kz, rfl⟩ := hw0; exact range_all ((kz.kp.block _ hlp).trans HPb.out))
    (try simp only [Act.put, List.setIfInBounds_toArray, List.set_cons_zero, List.set_cons_succ])
    refine pure_end ?_
    (try dsimp only)
    intro kz
    refine keep_call (by rfl) 21 #[.slice ao al.length ac, .agg (pkA p)] ?hc ?_
    case hc => (go_simp; try rfl)
    refine (arun_c al HAO.out (.slice ao al.length ac) B p kz.val (own_kept HAb.out kz.kp)).mono ?_
    rintro e w5 ⟨u5, rfl, hown5, hb5⟩
    have hszk := kz.kp.size
    have HK5 := Lib.hid (kz.kp.trans (hb5.mono hszk))
    refine ⟨_, rfl, ⟨⟨w5, HK5.out⟩, rfl⟩, ?_⟩
    have HO5 := Lib.hid (own_mono (B' := w.heap.size) hown5 (Nat.le_trans HBb.out.size hszk))
    rw [← HS.out] at HO5
    have HB5 := Lib.hid (HBb.out.trans (HK5.out.mono HBb.out.size))
    clear hown5 hb5 hszk HBb HPb HAb hcb HK5
    show wpList _ _ _ _ _ _
    go_wp2_with fail
    refine NoPanic.normal ?_
    go_wp2_with fail
    go_ret
    exact ⟨u5, rfl, HO5.out, HB5.out⟩
  · have HS := Lib.hid (show ol = [] from HOL.out.trans hs)
    clear hs hi
    go_wp2_with fail
    go_ret
    rw [HS.out]
    exact ⟨_, rfl, own_nil _ _ _ _, HB2.out⟩
end Go.Proofs.YtekfkieimdgfkaaGreat
