/- What is proved here: what a policy without parts lays of a packet. Condition: it is a filter, or sets a port. -/
import Derived.Test.YtekfkieimdgfkaaGreatT12
import Derived.Test.YtekfkieimdgfkaaGreatT16
namespace Go.Proofs.YtekfkieimdgfkaaGreat
open Go Go.RowKit
attribute [local go_sem] KW.cell KW.frozen
theorem ret63 {fn : Func} {p : Tmp} (h : fn.results = #[.cell p 63]) {R : Ending → World → Prop} {a : Act} {w : World} {g : Nat} {cs : Array Value} {t : TypeId} (hd : a.defers = []) (hp : a.tmps.getD p undef = .pointer (some ⟨g, 0, none⟩))
    (hg : w.heap[g]? = some (.cells cs t (0, 0))) (hs : cs.size = 5) (hR : R (.returned (.agg cs)) w) : bodyPost Tryz.prog fn R .ret a w := by
  obtain ⟨fs, hu⟩ := und63
  exact bodyPost_ret (results_row1 h a.tmps w g cs _ hp t hg hu rfl (by rw [hs]; exact inf63)) hd hR
set_option maxRecDepth 100000 in
set_option maxHeartbeats 4000000 in
theorem set163_c (k pk pf pn v : Int) (u : Value) (s : Sn) (w : World) : Ret 163 #[.agg (polA k pk pf pn 4 v u), .agg (stA s)] (.agg (stA (v, s.2))) w := by
  have HB : Hid (Below w.heap.size w ((((w.alloc (.cells (polA k pk pf pn 4 v u) 55)).alloc (.cells (stA s) 63)).alloc (.cells zero63 63)))) := Lib.hid ((((Below.refl _ _).alloc (Nat.le_refl _) _).alloc (by simp) _).alloc (by simp; omega) _)
  have HS : Hid ((((w.alloc (.cells (polA k pk pf pn 4 v u) 55)).alloc (.cells (stA s) 63)).alloc (.cells zero63 63)).heap[w.heap.size + 1]? = some (.cells (stA s) 63 (0, 0))) := by
    have := heap_alloc_new (w.alloc (.cells (polA k pk pf pn 4 v u) 55)) (.cells (stA s) 63)
    exact Lib.hid ((Below.heap_alloc _ _ _ (by simp)).trans (by simpa using this))
  have HR : Hid ((((w.alloc (.cells (polA k pk pf pn 4 v u) 55)).alloc (.cells (stA s) 63)).alloc (.cells zero63 63)).heap[w.heap.size + 1 + 1]? = some (.cells zero63 63 (0, 0))) := by
    have := heap_alloc_new ((w.alloc (.cells (polA k pk pf pn 4 v u) 55)).alloc (.cells (stA s) 63)) (.cells zero63 63)
    exact Lib.hid (by simpa using this)
  obtain ⟨p, a, b, c, d⟩ := s
  unfold Ret
  simp only [stA] at HB HS HR ⊢
  go_enter Tryz.func163, Tryz.ntmps163
  go_wp2_with (refine stop_load 63 _ rfl ?_)
  refine Stop.go (abs_list ?_)
  intro w2 e2
  have hb2 : Below w.heap.size w w2 := by rw [e2]; exact (((Below.refl _ _).alloc (Nat.le_refl _) _).alloc (by simp) _).alloc (by simp; omega) _
  have hs2 : w2.heap[w.heap.size + 1]? = some (.cells #[.int .i64 v, .int .i64 a, .int .i64 b, .int .i64 c, .int .i64 d] 63 (0, 0)) := by
    rw [e2]
    have := heap_alloc_new (w.alloc (.cells (polA k pk pf pn 4 v u) 55)) (.cells #[.int .i64 v, .int .i64 a, .int .i64 b, .int .i64 c, .int .i64 d] 63)
    exact (Below.heap_alloc _ _ _ (by simp)).trans (by simpa using this)
  have hr2 : w2.heap[w.heap.size + 1 + 1]? = some (.cells zero63 63 (0, 0)) := by
    rw [e2]
    have := heap_alloc_new ((w.alloc (.cells (polA k pk pf pn 4 v u) 55)).alloc (.cells #[.int .i64 v, .int .i64 a, .int .i64 b, .int .i64 c, .int .i64 d] 63)) (.cells zero63 63)
    simpa using this
  have HB2 := Lib.hid hb2
  clear e2 hb2 HB HS HR
  obtain ⟨f63, hu63⟩ := und63
  refine wpList_load_row rfl 63 _ rfl (w.heap.size + 1) rfl 63 _ (0, 0) _ hs2 hu63 rfl inf63 ?_
  clear hu63
  refine wpList_store_o rfl 63 _ _ rfl (w.heap.size + 1 + 1) _ rfl rfl 63 _ hr2 inf63 rfl rfl ?_
  intro w3 hg3 ho3
  have HB3 := Lib.hid (ho3.belowT HB2.out (by omega))
  have HG3 := Lib.hid hg3
  clear hg3 ho3 HB2 hs2 hr2
  go_wp2_with fail
  exact ret63 Tryz.results163 rfl rfl HG3.out rfl ⟨rfl, HB3.out⟩
/-- What a policy without parts makes of a packet. -/
def leafL (sw : Int) (x : Pol) (s : Sn) : List Sn := if x.k = 1 then (if hitF x.pk x.pf x.pn sw s.1 s.2 = true then [s] else []) else if x.k = 2 then [(x.v, s.2)] else []
/-- The call lays these packets into the set. -/
def RunC (sw : Int) (d : Nat) (x : Pol) (s : Sn) (r : List Sn) : Prop :=
  ∀ (u : Value) (b B : Nat) (l0 : List Sn) (w : World), MpS b l0 w → B ≤ b → RdP (fun g => g < B) d u x.l w → (l0 ++ r).length ≤ 1 →
    Calls Tryz.prog 147 #[.map (some b), polV x u, .int .i64 sw, stV s] w fun e w' => e = .returned (.tuple #[]) ∧ MpS b (l0 ++ r) w' ∧ w.grownBy w' (some b)
set_option maxRecDepth 100000 in
set_option maxHeartbeats 8000000 in
theorem run_leaf1 (sw pk pf pn f v : Int) (d : Nat) (s : Sn) (hg : LeafG pk pf pn) : RunC sw (d + 1) (.mk 1 pk pf pn f v []) s (leafL sw (.mk 1 pk pf pn f v []) s) := by
  intro u b B l0 w hm hB hr hl
  obtain ⟨uo, uc, rfl, _, huc⟩ := hr.form
  have e : leafL sw (.mk 1 pk pf pn f v []) s = if hitF pk pf pn sw s.1 s.2 = true then [s] else [] := by unfold leafL; rw [if_pos (show (Pol.mk 1 pk pf pn f v []).k = 1 from rfl)]; rfl
  rw [e] at hl ⊢
  have X := Lib.hid (fun w => hits162_c pk pf pn sw s.1 s.2 w hg)
  obtain ⟨hv, hhv⟩ : ∃ b, hitF pk pf pn sw s.1 s.2 = b := ⟨_, rfl⟩
  rw [hhv] at hl X ⊢
  obtain ⟨res, hres⟩ : ∃ l, l = l0 ++ (if hv = true then [s] else []) := ⟨_, rfl⟩
  rw [← hres]
  have HRS := Lib.hid hres
  clear hres
  have HW : Hid (Below w.heap.size w ((w.alloc (.cells #[.int .i64 1, .int .i64 pk, .int .i64 pf, .int .i64 pn, .slice none 0 0, .int .i64 f, .int .i64 v, .slice uo 0 uc] 55)).alloc (.cells (stA s) 63))) := Lib.hid (((Below.refl _ _).alloc (Nat.le_refl _) _).alloc (by simp) _)
  have HS : Hid (((w.alloc (.cells #[.int .i64 1, .int .i64 pk, .int .i64 pf, .int .i64 pn, .slice none 0 0, .int .i64 f, .int .i64 v, .slice uo 0 uc] 55)).alloc (.cells (stA s) 63)).heap[w.heap.size + 1]? = some (.cells (stA s) 63 (0, 0))) := by
    have := heap_alloc_new (w.alloc (.cells #[.int .i64 1, .int .i64 pk, .int .i64 pf, .int .i64 pn, .slice none 0 0, .int .i64 f, .int .i64 v, .slice uo 0 uc] 55)) (.cells (stA s) 63)
    exact Lib.hid (by simpa using this)
  have HM := Lib.hid hm
  clear hm hr hg e hhv
  obtain ⟨p, a, bb, c, dd⟩ := s
  unfold polV stV Ret at *
  simp only [Pol.k, Pol.pk, Pol.pf, Pol.pn, Pol.f, Pol.v, Pol.l, stA] at HW HS X ⊢
  cases hv with
  | false =>
    go_enter Tryz.func147, Tryz.ntmps147
    go_wp2_with fail
    refine (X.out _).mono ?_
    rintro e w1 ⟨rfl, hb⟩
    have HB1 := Lib.hid (HW.out.trans (hb.mono (by simp; omega)))
    have HM1 : Hid (MpS b res w1) := Lib.hid (by rw [HRS.out]; simpa using HM.out.blk (HB1.out.block b HM.out.lt))
    have HG1 := Lib.hid (below_grown1 (row := some b) HB1.out)
    clear hb HW HS HM X HB1 hl
    go_wp2_with fail
    go_returns
    exact ⟨rfl, HM1.out, HG1.out⟩
  | true =>
    go_enter Tryz.func147, Tryz.ntmps147
    go_wp2_with fail
    refine (X.out _).mono ?_
    rintro e w1 ⟨rfl, hb⟩
    have HB1 := Lib.hid (HW.out.trans (hb.mono (by simp; omega)))
    have hs1 := (hb.block (w.heap.size + 1) (by simp)).trans HS.out
    obtain ⟨w2, hup, hm2, ho2⟩ := (HM.out.blk (HB1.out.block b HM.out.lt)).laid (s := (p, a, bb, c, dd)) (by simpa using hl)
    have HM2 : Hid (MpS b res w2) := Lib.hid (by rw [HRS.out]; simpa using hm2)
    have HG2 := Lib.hid (grown_row (below_grown1 (row := some b) HB1.out) ho2)
    have HS1 := Lib.hid hs1
    simp only [stV, stA] at hup
    clear hb HW HS HM X HB1 hl hs1 hm2 ho2
    go_wp2_with (refine stop_load 63 _ rfl ?_)
    obtain ⟨f63, hu63⟩ := und63
    refine Stop.go (wpList_load_row rfl 63 _ rfl (w.heap.size + 1) rfl 63 _ (0, 0) _ HS1.out hu63 rfl inf63 ?_)
    clear hu63
    go_wp2_with fail
    go_returns
    exact ⟨rfl, HM2.out, HG2.out⟩
set_option maxRecDepth 100000 in
set_option maxHeartbeats 8000000 in
theorem run_leaf2 (sw v : Int) (d : Nat) (s : Sn) : RunC sw (d + 1) (.mk 2 0 0 0 4 v []) s (leafL sw (.mk 2 0 0 0 4 v []) s) := by
  intro u b B l0 w hm hB hr hl
  obtain ⟨uo, uc, rfl, _, huc⟩ := hr.form
  have e : leafL sw (.mk 2 0 0 0 4 v []) s = [(v, s.2)] := by simp [leafL, Pol.k, Pol.v]
  rw [e] at hl ⊢
  have HW : Hid (Below w.heap.size w ((w.alloc (.cells #[.int .i64 2, .int .i64 0, .int .i64 0, .int .i64 0, .slice none 0 0, .int .i64 4, .int .i64 v, .slice uo 0 uc] 55)).alloc (.cells (stA s) 63))) := Lib.hid (((Below.refl _ _).alloc (Nat.le_refl _) _).alloc (by simp) _)
  have HP : Hid (((w.alloc (.cells #[.int .i64 2, .int .i64 0, .int .i64 0, .int .i64 0, .slice none 0 0, .int .i64 4, .int .i64 v, .slice uo 0 uc] 55)).alloc (.cells (stA s) 63)).heap[w.heap.size]? = some (.cells #[.int .i64 2, .int .i64 0, .int .i64 0, .int .i64 0, .slice none 0 0, .int .i64 4, .int .i64 v, .slice uo 0 uc] 55 (0, 0))) :=
    Lib.hid ((Below.heap_alloc _ _ _ (by simp)).trans (heap_alloc_new w _))
  have HS : Hid (((w.alloc (.cells #[.int .i64 2, .int .i64 0, .int .i64 0, .int .i64 0, .slice none 0 0, .int .i64 4, .int .i64 v, .slice uo 0 uc] 55)).alloc (.cells (stA s) 63)).heap[w.heap.size + 1]? = some (.cells (stA s) 63 (0, 0))) := by
    have := heap_alloc_new (w.alloc (.cells #[.int .i64 2, .int .i64 0, .int .i64 0, .int .i64 0, .slice none 0 0, .int .i64 4, .int .i64 v, .slice uo 0 uc] 55)) (.cells (stA s) 63)
    exact Lib.hid (by simpa using this)
  have X := Lib.hid (fun w => set163_c 2 0 0 0 v (.slice uo 0 uc) s w)
  have HM := Lib.hid hm
  clear hm hr e
  obtain ⟨p, a, bb, c, dd⟩ := s
  unfold polV stV Ret at *
  simp only [Pol.k, Pol.pk, Pol.pf, Pol.pn, Pol.f, Pol.v, Pol.l, stA] at HW HS HP X ⊢
  go_enter Tryz.func147, Tryz.ntmps147
  go_wp2_with (refine stop_load 55 _ rfl ?_)
  obtain ⟨fs, hu55⟩ := und55
  refine Stop.go (wpList_load_row rfl 55 _ rfl w.heap.size rfl 55 _ (0, 0) _ HP.out hu55 rfl inf55 ?_)
  clear hu55
  obtain ⟨f63, hu63⟩ := und63
  refine wpList_load_row rfl 63 _ rfl (w.heap.size + 1) rfl 63 _ (0, 0) _ HS.out hu63 rfl inf63 ?_
  clear hu63
  go_wp2_with fail
  refine (X.out _).mono ?_
  rintro e w1 ⟨rfl, hb⟩
  have HB1 := Lib.hid (HW.out.trans (hb.mono (by simp; omega)))
  obtain ⟨w2, hup, hm2, ho2⟩ := (HM.out.blk (HB1.out.block b HM.out.lt)).laid (s := (v, a, bb, c, dd)) (by simpa using hl)
  have HM2 := Lib.hid hm2
  have HG2 := Lib.hid (grown_row (below_grown1 (row := some b) HB1.out) ho2)
  simp only [stV, stA] at hup
  clear hb HW HS HP HM X HB1 hl hm2 ho2
  go_wp2_with fail
  go_returns
  exact ⟨rfl, HM2.out, HG2.out⟩
end Go.Proofs.YtekfkieimdgfkaaGreat
/- What is proved here: what a policy with parts lays of a packet. Condition: at most one packet comes of each step. -/
namespace Go.Proofs.YtekfkieimdgfkaaGreat
open Go Go.RowKit
attribute [local go_sem] KW.cell KW.frozen
/-- Step by step. -/
def accL (G : Pol → Sn → List Sn) : List Pol → List Sn → List Sn
  | [], a => a
  | y :: ys, a => accL G ys (a.flatMap (G y))
theorem accL_append (G : Pol → Sn → List Sn) : ∀ (l m : List Pol) (a : List Sn), accL G (l ++ m) a = accL G m (accL G l a)
  | [], _, _ => rfl
  | _y :: l, m, _a => accL_append G l m _
theorem accL_take {G : Pol → Sn → List Sn} {L : List Pol} {j : Nat} (h : j < L.length) (a : List Sn) : accL G (L.take (j + 1)) a = (accL G (L.take j) a).flatMap (G L[j]) := by
  rw [List.take_succ_eq_append_getElem h, accL_append]
  rfl
abbrev zero55 : Array Value := #[.int .i64 0, .int .i64 0, .int .i64 0, .int .i64 0, .slice none 0 0, .int .i64 0, .int .i64 0, .slice none 0 0]
set_option maxRecDepth 100000 in
set_option maxHeartbeats 8000000 in
theorem run_union (sw f v : Int) (L : List Pol) (d : Nat) (s : Sn) (G : Pol → List Sn) (IH : ∀ y ∈ L, RunC sw d y s (G y)) : RunC sw (d + 1) (.mk 4 0 0 0 f v L) s (L.flatMap G) := by
  intro u b B l0 w hm hB hr hl
  obtain ⟨uo, uc, rfl, hle, huc⟩ := hr.form
  unfold maxLen at huc
  simp only [Pol.l] at hr hle ⊢
  obtain ⟨res, hres⟩ : ∃ l, l = l0 ++ L.flatMap G := ⟨_, rfl⟩
  rw [← hres] at hl ⊢
  have HRS := Lib.hid hres
  have HLN := Lib.hid hl
  have hbw := hm.lt
  have HS : Hid (((w.alloc (.cells #[.int .i64 4, .int .i64 0, .int .i64 0, .int .i64 0, .slice none 0 0, .int .i64 f, .int .i64 v, .slice uo L.length uc] 55)).alloc (.cells (stA s) 63)).heap[w.heap.size + 1]? = some (.cells (stA s) 63 (0, 0))) := by
    have := heap_alloc_new (w.alloc (.cells #[.int .i64 4, .int .i64 0, .int .i64 0, .int .i64 0, .slice none 0 0, .int .i64 f, .int .i64 v, .slice uo L.length uc] 55)) (.cells (stA s) 63)
    exact Lib.hid (by simpa using this)
  have HW : Hid (Below w.heap.size w ((w.alloc (.cells #[.int .i64 4, .int .i64 0, .int .i64 0, .int .i64 0, .slice none 0 0, .int .i64 f, .int .i64 v, .slice uo L.length uc] 55)).alloc (.cells (stA s) 63))) := Lib.hid (((Below.refl _ _).alloc (Nat.le_refl _) _).alloc (by simp) _)
  have HR := Lib.hid hr
  have HM := Lib.hid hm
  have HI := Lib.hid IH
  clear hr hm IH hres hl
  unfold polV stV
  simp only [Pol.k, Pol.pk, Pol.pf, Pol.pn, Pol.f, Pol.v]
  obtain ⟨cs, hcs⟩ : ∃ c, c = stA s := ⟨_, rfl⟩
  have HCS := Lib.hid hcs
  rw [← hcs] at HS HW ⊢
  have hcz : cs.size = 5 := by rw [hcs]; rfl
  clear hcs
  go_enter Tryz.func147, Tryz.ntmps147
  go_wp2_with fail
  refine abs_wp ?_
  intro W hW
  have HB0 : Hid (Below w.heap.size w W) := by rw [hW]; exact HW
  have HS0 : Hid (W.heap[w.heap.size + 1]? = some (.cells cs 63 (0, 0))) := by rw [hW]; exact HS
  have hWs : W.heap.size = w.heap.size + 1 + 1 := by rw [hW]; simp
  have HM0 := Lib.hid (HM.out.blk (HB0.out.block b hbw))
  have HWs := Lib.hid hWs
  clear hW HS HW HM hWs
  go_loopw [43] (fun i wr => ∃ (j : Nat) (acc : List Sn), i = .int .i64 j ∧ j ≤ L.length ∧ Hid (acc = l0 ++ (L.take j).flatMap G) ∧ Hid (MpS b acc wr) ∧ Hid (W.grownBy wr (some b))) (fun i _ => L.length - (intOf i).toNat)
  case atStart => exact ⟨0, l0, rfl, Nat.zero_le _, Lib.hid (by simp), HM0, Lib.hid (grown_refl _ _)⟩
  case round =>
    obtain ⟨j, acc, rfl, hj, HAC, HMr, HGr⟩ := hrel
    have hsr := HGr.out.size
    rw [HWs.out] at hsr
    by_cases hlt : j < L.length
    · have hd : decide ((j : Int) < (L.length : Int)) = true := by simp; omega
      have hj2 : (j : Int) < (L.length : Int) := by omega
      have hrr : RdP (fun g => g < B) (d + 1) (.slice uo L.length uc) L wr := HR.out.blk fun g hg hgw => (HGr.out.block g (by rw [HWs.out]; omega) (by simp; omega)).trans (HB0.out.block g hgw)
      obtain ⟨ge, cap, ue, hv, hge, hgB, hrange, hre⟩ := hrr.at_ j hlt
      cases hv
      have HRA := Lib.hid hrange
      have HRE := Lib.hid hre
      obtain ⟨eo, ec, rfl, _, _⟩ := hre.form
      clear hrange hre hrr
      go_wp2_with (refine stop_load 55 _ rfl ?_)
      obtain ⟨fs, hu55⟩ := und55
      refine Stop.go (wpList_load_mid rfl 55 _ rfl ge (j * 8) rfl (polL L[j] (.slice eo L[j].l.length ec)) _ HRA.out hu55 rfl inf55 ?_)
      have HU := Lib.hid hu55
      clear hu55
      go_wp2_with (refine stop_store 55 _ _ rfl ?_)
      refine Stop.go (abs_list ?_)
      intro w4 e4
      have hb4 : Below wr.heap.size wr w4 := by rw [e4]; exact grow1 wr _
      have hg4 : w4.heap[wr.heap.size]? = some (.cells zero55 55 (0, 0)) := by rw [e4]; exact heap_alloc_new wr _
      have HB4 := Lib.hid hb4
      clear e4 hb4
      refine wpList_store_o rfl 55 _ _ rfl wr.heap.size _ rfl rfl 55 _ hg4 inf55 rfl rfl ?_
      intro w5 hg5 ho5
      have HB5 := Lib.hid (ho5.belowT HB4.out (Nat.le_refl _))
      have HG5 := Lib.hid hg5
      have HS5 := Lib.hid ((HB5.out.block (w.heap.size + 1) (by omega)).trans ((HGr.out.block (w.heap.size + 1) (by rw [HWs.out]; omega) (by simp; omega)).trans HS0.out))
      clear hg4 hg5 ho5 HB4 HRA
      go_wp2_with (refine stop_load 55 _ rfl ?_)
      refine Stop.go (wpList_load_row rfl 55 _ rfl wr.heap.size rfl 55 _ (0, 0) _ HG5.out HU.out rfl inf55 ?_)
      go_wp2_with (refine stop_load 63 _ rfl ?_)
      obtain ⟨f63, hu63⟩ := und63
      refine Stop.go (wpList_load_row rfl 63 _ rfl (w.heap.size + 1) rfl 63 _ (0, 0) _ HS5.out hu63 rfl (by rw [hcz]; exact inf63) ?_)
      clear hu63
      go_wp2_with fail
      have HT := Lib.hid (show (L.take (j + 1)).flatMap G = (L.take j).flatMap G ++ G L[j] by rw [List.take_succ_eq_append_getElem hlt, List.flatMap_append]; simp)
      have hlen : (acc ++ G L[j]).length ≤ 1 := by
        have h1 := HLN.out
        rw [HRS.out] at h1
        have h2 : (L.take (j + 1)).flatMap G ++ (L.drop (j + 1)).flatMap G = L.flatMap G := by rw [← List.flatMap_append, List.take_append_drop]
        rw [HAC.out]
        rw [← h2, HT.out] at h1
        simp only [List.length_append] at h1 ⊢
        omega
      have Y := HI.out L[j] (List.getElem_mem hlt) (.slice eo L[j].l.length ec) b B acc w5 (HMr.out.blk (HB5.out.block b HMr.out.lt)) hB (HRE.out.kept HB5.out) hlen
      unfold polV stV at Y
      rw [← HCS.out] at Y
      have HY := Lib.hid Y
      clear Y
      refine HY.out.mono ?_
      rintro e w6 ⟨rfl, hm6, hg6⟩
      obtain ⟨acc2, hacc2⟩ : ∃ l, l = acc ++ G L[j] := ⟨_, rfl⟩
      rw [← hacc2] at hm6
      have HM6 := Lib.hid hm6
      have HAC2 : Hid (acc2 = l0 ++ (L.take (j + 1)).flatMap G) := Lib.hid (by rw [hacc2, HAC.out, HT.out, ← List.append_assoc])
      have HG6 := Lib.hid (grown_trans (grown_below HGr.out HB5.out HGr.out.size) hg6)
      clear hm6 hg6 hacc2 HAC HMr HGr HB5 HG5 HS5 HRE HT HU hlen HY
      go_wp2_with fail
      go_roundw
      case rel => exact ⟨j + 1, acc2, by go_num, hlt, HAC2, HM6, HG6⟩
      case measure => simp [intOf]; omega
    · obtain rfl : j = L.length := by omega
      have hd : decide ((L.length : Int) < (L.length : Int)) = false := by simp
      have HF : Hid (MpS b res wr) := Lib.hid (by
        have h1 := HAC.out
        rw [List.take_of_length_le (Nat.le_refl _), ← HRS.out] at h1
        rw [← h1]
        exact HMr.out)
      have HGF := Lib.hid (grown_trans (below_grown1 (row := some b) HB0.out) HGr.out)
      clear HAC HMr HGr
      go_wp2_with fail
      go_returns
      exact ⟨rfl, HF.out, HGF.out⟩
end Go.Proofs.YtekfkieimdgfkaaGreat
/- What is proved here: what a sequence of policies lays of a packet. Condition: at most one packet comes of each step. -/
namespace Go.Proofs.YtekfkieimdgfkaaGreat
open Go Go.RowKit
attribute [local go_sem] KW.cell KW.frozen
set_option maxRecDepth 100000 in
set_option maxHeartbeats 8000000 in
theorem run_seq (sw f v : Int) (L : List Pol) (d : Nat) (s : Sn) (G : Pol → Sn → List Sn) (hone : ∀ j, j ≤ L.length → (accL G (L.take j) [s]).length ≤ 1)
    (IH : ∀ j (h : j < L.length), ∀ t ∈ accL G (L.take j) [s], RunC sw d L[j] t (G L[j] t)) : RunC sw (d + 1) (.mk 3 0 0 0 f v L) s (accL G L [s]) := by
  intro u b B l0 w hm hB hr hl
  obtain ⟨uo, uc, rfl, hle, huc⟩ := hr.form
  unfold maxLen at huc
  simp only [Pol.l] at hr hle ⊢
  have HLN := Lib.hid hl
  have hbw := hm.lt
  have HS : Hid (((w.alloc (.cells #[.int .i64 3, .int .i64 0, .int .i64 0, .int .i64 0, .slice none 0 0, .int .i64 f, .int .i64 v, .slice uo L.length uc] 55)).alloc (.cells (stA s) 63)).heap[w.heap.size + 1]? = some (.cells (stA s) 63 (0, 0))) := by
    have := heap_alloc_new (w.alloc (.cells #[.int .i64 3, .int .i64 0, .int .i64 0, .int .i64 0, .slice none 0 0, .int .i64 f, .int .i64 v, .slice uo L.length uc] 55)) (.cells (stA s) 63)
    exact Lib.hid (by simpa using this)
  have HP : Hid (((w.alloc (.cells #[.int .i64 3, .int .i64 0, .int .i64 0, .int .i64 0, .slice none 0 0, .int .i64 f, .int .i64 v, .slice uo L.length uc] 55)).alloc (.cells (stA s) 63)).heap[w.heap.size]? = some (.cells #[.int .i64 3, .int .i64 0, .int .i64 0, .int .i64 0, .slice none 0 0, .int .i64 f, .int .i64 v, .slice uo L.length uc] 55 (0, 0))) :=
    Lib.hid ((Below.heap_alloc _ _ _ (by simp)).trans (heap_alloc_new w _))
  have HW : Hid (Below w.heap.size w ((w.alloc (.cells #[.int .i64 3, .int .i64 0, .int .i64 0, .int .i64 0, .slice none 0 0, .int .i64 f, .int .i64 v, .slice uo L.length uc] 55)).alloc (.cells (stA s) 63))) := Lib.hid (((Below.refl _ _).alloc (Nat.le_refl _) _).alloc (by simp) _)
  have HR := Lib.hid hr
  have HM := Lib.hid hm
  have HI := Lib.hid IH
  have HONE := Lib.hid hone
  obtain ⟨fin, hfin⟩ : ∃ l, l = accL G L [s] := ⟨_, rfl⟩
  rw [← hfin] at HLN ⊢
  have HFIN := Lib.hid hfin
  clear hr hm IH hl hone hfin
  unfold polV stV
  simp only [Pol.k, Pol.pk, Pol.pf, Pol.pn, Pol.f, Pol.v]
  obtain ⟨cs, hcs⟩ : ∃ c, c = stA s := ⟨_, rfl⟩
  have HCS := Lib.hid hcs
  rw [← hcs] at HS HP HW ⊢
  have hcz : cs.size = 5 := by rw [hcs]; rfl
  clear hcs
  have hmk := @run_makeMap Tryz.prog
  go_enter Tryz.func147, Tryz.ntmps147
  go_wp2_with (refine stop_load 63 _ rfl ?_)
  refine Stop.go (abs_list ?_)
  intro w1 e1
  have hb1 : Below w.heap.size w w1 := by rw [e1]; exact HW.out.alloc (by simp; omega) _
  have hs1 : w1.heap[w.heap.size + 1]? = some (.cells cs 63 (0, 0)) := by rw [e1]; exact (Below.heap_alloc _ _ _ (by simp)).trans HS.out
  have hp1 : w1.heap[w.heap.size]? = some (.cells #[.int .i64 3, .int .i64 0, .int .i64 0, .int .i64 0, .slice none 0 0, .int .i64 f, .int .i64 v, .slice uo L.length uc] 55 (0, 0)) := by rw [e1]; exact (Below.heap_alloc _ _ _ (by simp; omega)).trans HP.out
  have hm1 : MpS (w.heap.size + 1 + 1) [] w1 := by
    rw [e1]
    have := MpS.made ((w.alloc (.cells #[.int .i64 3, .int .i64 0, .int .i64 0, .int .i64 0, .slice none 0 0, .int .i64 f, .int .i64 v, .slice uo L.length uc] 55)).alloc (.cells cs 63))
    simpa using this
  clear e1
  obtain ⟨w2, hup, hm2, ho2⟩ := hm1.laid (s := s) (by simp)
  unfold stV at hup
  rw [← HCS.out] at hup
  have HB2 := Lib.hid (ho2.belowT hb1 (by omega))
  have HS1 := Lib.hid hs1
  have HP2 := Lib.hid ((ho2.block _ (by omega)).trans hp1)
  have HM2 := Lib.hid hm2
  have HMb2 := Lib.hid ((HM.out.blk (hb1.block b hbw)).blk (ho2.block b (by omega)))
  clear hb1 hs1 hp1 hm1 hm2 ho2 HW HS HP HM
  obtain ⟨f63, hu63⟩ := und63
  have HU63 := Lib.hid hu63
  clear hu63
  refine wpList_load_row rfl 63 _ rfl (w.heap.size + 1) rfl 63 _ (0, 0) _ HS1.out HU63.out rfl (by rw [hcz]; exact inf63) ?_
  have c7 := block_cell HP2.out 7
  have hl2 := block_lt HP2.out
  simp only [List.getElem?_toArray, List.getElem?_cons_zero, List.getElem?_cons_succ] at c7
  go_wp2_with fail
  clear hup c7
  go_loopw [81, 11] (fun i mm wr => ∃ (j m : Nat) (acc : List Sn), i = .int .i64 j ∧ j ≤ L.length ∧ mm = .map (some m) ∧ w.heap.size ≤ m ∧ Hid (acc = accL G (L.take j) [s]) ∧ Hid (MpS m acc wr) ∧ Hid (MpS b l0 wr) ∧ Hid (Below w.heap.size w wr)) (fun i _ _ => L.length - (intOf i).toNat)
  case atStart => exact ⟨0, _, [s], rfl, Nat.zero_le _, rfl, by omega, Lib.hid rfl, HM2, HMb2, HB2⟩
  case round =>
    clear HM2 HMb2 HB2 HS1 HP2 hl2
    obtain ⟨j, m, acc, rfl, hj, rfl, hmw, HAC, HMr, HMb, HBr⟩ := hrel
    have hsr := HBr.out.size
    by_cases hlt : j < L.length
    · have hd : decide ((j : Int) < (L.length : Int)) = true := by simp; omega
      have hj2 : (j : Int) < (L.length : Int) := by omega
      obtain ⟨ge, cap, ue, hv, hge, hgB, hrange, hre⟩ := (HR.out.kept HBr.out).at_ j hlt
      cases hv
      have HRA := Lib.hid hrange
      have HRE := Lib.hid hre
      obtain ⟨eo, ec, rfl, _, _⟩ := hre.form
      clear hrange hre
      go_wp2_with (refine stop_load 55 _ rfl ?_)
      obtain ⟨fs, hu55⟩ := und55
      refine Stop.go (wpList_load_mid rfl 55 _ rfl ge (j * 8) rfl (polL L[j] (.slice eo L[j].l.length ec)) _ HRA.out hu55 rfl inf55 ?_)
      have HU := Lib.hid hu55
      clear hu55
      go_wp2_with (refine stop_store 55 _ _ rfl ?_)
      refine Stop.go (abs_list ?_)
      intro w4 e4
      have hb4 : Below wr.heap.size wr w4 := by rw [e4]; exact grow1 wr _
      have hg4 : w4.heap[wr.heap.size]? = some (.cells zero55 55 (0, 0)) := by rw [e4]; exact heap_alloc_new wr _
      have hs4 : w4.heap.size = wr.heap.size + 1 := by rw [e4]; simp
      have HB4 := Lib.hid hb4
      clear e4 hb4
      refine wpList_store_o rfl 55 _ _ rfl wr.heap.size _ rfl rfl 55 _ hg4 inf55 rfl rfl ?_
      intro w5 hg5 ho5
      have HB5 := Lib.hid (ho5.belowT HB4.out (Nat.le_refl _))
      have HG5 := Lib.hid hg5
      have hs5 : w5.heap.size = wr.heap.size + 1 := ho5.size.trans hs4
      have HS5 := Lib.hid hs5
      clear hg4 hg5 ho5 HB4 HRA hs4 hs5
      -- the next set, and the range over the one at hand
      obtain ⟨w6, hrg, hit, hb6, hs6⟩ := (((HMr.out.blk (HB5.out.block m HMr.out.lt)).blk (w' := w5.alloc (.map #[] 0)) (Below.heap_alloc w5 _ _ (by have := HMr.out.lt; have := HB5.out.size; omega))).range)
      simp only [World.size_alloc] at hrg hit hs6 hb6
      have hmlt := HMr.out.lt
      have HIT := Lib.hid hit
      have HNX : Hid (MpS w5.heap.size [] w6) := Lib.hid ((MpS.made w5).blk (hb6.block _ (by omega)))
      have HB56 : Hid (Below w5.heap.size w5 w6) := Lib.hid ((grow1 w5 (.map #[] 0)).trans (hb6.mono (by simp)))
      have HGE := Lib.hid ((HB56.out.block wr.heap.size (by rw [HS5.out]; omega)).trans HG5.out)
      have HB6 : Hid (Below w.heap.size w w6) := Lib.hid (HBr.out.trans ((HB5.out.mono hsr).trans (HB56.out.mono (by rw [HS5.out]; omega))))
      have HMb6 := Lib.hid ((HMb.out.blk (HB5.out.block b HMb.out.lt)).blk (HB56.out.block b (by have := HMb.out.lt; rw [HS5.out]; omega)))
      have HRE6 := Lib.hid ((HRE.out.kept HB5.out).kept HB56.out)
      have HS6 := Lib.hid hs6
      clear hit hb6 hs6 HMr HMb HBr HB5 HG5 HB56 HRE
      go_wp2_with fail
      clear hrg
      obtain ⟨wo, rfl⟩ : ∃ wo : World, wo = wr := ⟨_, rfl⟩
      go_loopg [15] acc.length (fun gg _ wr => ∃ (done left : List Sn), gg = left.length ∧ Hid (acc = done ++ left) ∧ Hid (ItS (w5.heap.size + 1) m acc left wr) ∧ Hid (MpS w5.heap.size (done.flatMap (G L[j])) wr) ∧ Hid (Below w5.heap.size w6 wr))
      case atStart => exact ⟨[], acc, rfl, Lib.hid rfl, HIT, Lib.hid (by simpa using HNX.out), Lib.hid (Below.refl _ _)⟩
      case round =>
        obtain ⟨done, left, rfl, HL, HI2, HN2, HB7⟩ := hrel
        rcases HI2.out.step with ⟨hleft, hnx⟩ | ⟨t, w7, hleft, hnx, hi7, ho7, hen⟩
        · subst hleft
          have hdone : acc = done := by have := HL.out; rwa [List.append_nil] at this
          have HAC2 : Hid (done.flatMap (G L[j]) = accL G (L.take (j + 1)) [s]) := Lib.hid (by rw [accL_take hlt, ← HAC.out, hdone])
          have HMn := Lib.hid (HN2.out)
          have HMbn := Lib.hid (HMb6.out.blk (HB7.out.block b (by rw [HS5.out]; omega)))
          have HBn : Hid (Below w.heap.size w wr) := Lib.hid (HB6.out.trans (HB7.out.mono (by rw [HS5.out]; omega)))
          clear hdone HI2 HN2 HB7 HL
          go_wp2_with fail
          go_roundw
          case rel => exact ⟨j + 1, w5.heap.size, _, by go_num, hlt, rfl, by rw [HS5.out]; omega, HAC2, HMn, HMbn, HBn⟩
          case measure => simp [intOf]; omega
        · subst hleft
          have HI7 := Lib.hid hi7
          have HN7 := Lib.hid (HN2.out.blk (ho7.block w5.heap.size (by omega)))
          have HB8 := Lib.hid (ho7.belowT HB7.out (Nat.le_succ _))
          have HTM := Lib.hid (show t ∈ acc by rw [HL.out]; simp)
          have HLN2 : Hid ((done.flatMap (G L[j]) ++ G L[j] t).length ≤ 1) := Lib.hid (by
            have h1 := HONE.out (j + 1) hlt
            rw [accL_take hlt, ← HAC.out, HL.out, List.flatMap_append] at h1
            simpa using h1)
          clear hi7 ho7 HI2 HN2 HB7
          go_wp2_with (refine stop_store 63 _ _ rfl ?_)
          refine Stop.go (abs_list ?_)
          intro w8 e8
          have hb8 : Below w7.heap.size w7 w8 := by rw [e8]; exact grow1 w7 _
          have hg8 : w8.heap[w7.heap.size]? = some (.cells zero63 63 (0, 0)) := by rw [e8]; exact heap_alloc_new w7 _
          have HB9 := Lib.hid hb8
          clear e8 hb8
          refine wpList_store_o rfl 63 _ _ rfl w7.heap.size (stA t) rfl rfl 63 _ hg8 inf63 rfl rfl ?_
          intro w9 hg9 ho9
          have HBA := Lib.hid (ho9.belowT HB9.out (Nat.le_refl _))
          have HGA := Lib.hid hg9
          have HEA := Lib.hid ((HBA.out.block wo.heap.size (by have := HB8.out.size; rw [HS6.out, HS5.out] at this; omega)).trans ((HB8.out.block wo.heap.size (by rw [HS5.out]; omega)).trans HGE.out))
          clear hg8 hg9 ho9 HB9
          go_wp2_with (refine stop_load 55 _ rfl ?_)
          refine Stop.go (wpList_load_row rfl 55 _ rfl wo.heap.size rfl 55 _ (0, 0) _ HEA.out HU.out rfl inf55 ?_)
          go_wp2_with (refine stop_load 63 _ rfl ?_)
          refine Stop.go (wpList_load_row rfl 63 _ rfl w7.heap.size rfl 63 (stA t) (0, 0) _ HGA.out HU63.out rfl inf63 ?_)
          go_wp2_with fail
          have hwB : Below w5.heap.size w6 w9 := HB8.out.trans (HBA.out.mono (by have h6 := HB8.out.size; have h7 := HS6.out; omega))
          have Y := HI.out j hlt t (by rw [← HAC.out]; exact HTM.out) (.slice eo L[j].l.length ec) w5.heap.size B (done.flatMap (G L[j])) w9 (HN7.out.blk (HBA.out.block _ HN7.out.lt)) (by rw [HS5.out]; omega) (HRE6.out.blk fun g hg _ => hwB.block g (by rw [HS5.out]; omega)) HLN2.out
          unfold polV stV at Y
          have HY := Lib.hid Y
          clear Y hwB
          refine HY.out.mono ?_
          rintro e wa ⟨rfl, hma, hga⟩
          have HIa := Lib.hid ((HI7.out.blk (HBA.out.block m HI7.out.lt.2) (HBA.out.block _ HI7.out.lt.1)).blk (hga.block m (by have := HI7.out.lt.2; have := HBA.out.size; omega) (by simp; rw [HS5.out]; omega)) (hga.block _ (by have := HI7.out.lt.1; have := HBA.out.size; omega) (by simp)))
          have HMa : Hid (MpS w5.heap.size ((done ++ [t]).flatMap (G L[j])) wa) := Lib.hid (by rw [List.flatMap_append]; simpa using hma)
          have HBa : Hid (Below w5.heap.size w6 wa) := Lib.hid (by
            have h1 : Below w5.heap.size w6 w9 := HB8.out.trans (HBA.out.mono (by have h6 := HB8.out.size; have h7 := HS6.out; omega))
            exact h1.grown hga (by have h6 := h1.size; have h7 := HS6.out; omega) fun q hq => by cases hq; exact Nat.le_refl _)
          have HLa : Hid (acc = (done ++ [t]) ++ []) := Lib.hid (by rw [List.append_nil]; exact HL.out)
          clear hma hga HI7 HN7 HB8 HBA HGA HEA HY HL HTM HLN2
          go_wp2_with fail
          go_roundg 0
          case rel => exact ⟨_, [], rfl, HLa, HIa, HMa, HBa⟩
          case measure => simp
    · obtain rfl : j = L.length := by omega
      have hd : decide ((L.length : Int) < (L.length : Int)) = false := by simp
      have hacc : acc = fin := by have := HAC.out; rw [List.take_of_length_le (Nat.le_refl _), ← HFIN.out] at this; exact this
      subst hacc
      have X := Lib.hid (copy_c b m l0 acc wr HMb.out HMr.out (by omega) HLN.out)
      have HBF := Lib.hid HBr.out
      clear HAC HMr HMb HBr
      go_wp2_with fail
      refine X.out.mono ?_
      rintro e w3 ⟨rfl, hm3, hg3⟩
      have HM3 := Lib.hid hm3
      have HG3 := Lib.hid (grown_trans (below_grown1 (row := some b) HBF.out) hg3)
      clear hm3 hg3 X HBF
      go_wp2_with fail
      go_returns
      exact ⟨rfl, HM3.out, HG3.out⟩
end Go.Proofs.YtekfkieimdgfkaaGreat
/- What is proved here: what a policy lays of a packet, however deep. Condition: at most one packet comes of each step. -/
namespace Go.Proofs.YtekfkieimdgfkaaGreat
open Go Go.RowKit
def LeafR (x : Pol) : Prop := (x.k = 1 ∧ LeafG x.pk x.pf x.pn ∧ x.l = []) ∨ (x.k = 2 ∧ x.pk = 0 ∧ x.pf = 0 ∧ x.pn = 0 ∧ x.f = 4 ∧ x.l = [])
def OkR : Nat → Pol → Prop
  | 0, x => LeafR x
  | d + 1, x => LeafR x ∨ ((x.k = 3 ∨ x.k = 4) ∧ x.pk = 0 ∧ x.pf = 0 ∧ x.pn = 0 ∧ ∀ y ∈ x.l, OkR d y)
def semL (sw : Int) : Nat → Pol → Sn → List Sn
  | 0, x, s => leafL sw x s
  | d + 1, x, s => if x.k = 4 then x.l.flatMap (fun y => semL sw d y s) else if x.k = 3 then accL (semL sw d) x.l [s] else leafL sw x s
def OneOk (sw : Int) : Nat → Pol → Sn → Prop
  | 0, _, _ => True
  | d + 1, x, s => (x.k = 4 → ∀ y ∈ x.l, OneOk sw d y s) ∧
      (x.k = 3 → (∀ j, j ≤ x.l.length → (accL (semL sw d) (x.l.take j) [s]).length ≤ 1) ∧ ∀ j (h : j < x.l.length), ∀ t ∈ accL (semL sw d) (x.l.take j) [s], OneOk sw d x.l[j] t)
theorem run_leaf (sw : Int) (d : Nat) (x : Pol) (s : Sn) (h : LeafR x) : RunC sw (d + 1) x s (leafL sw x s) := by
  obtain ⟨k, pk, pf, pn, f, v, l⟩ := x
  rcases h with ⟨h1, h2, h3⟩ | ⟨h1, h2, h3, h4, h5, h6⟩
  · simp only [Pol.k, Pol.l] at h1 h3
    subst h1 h3
    exact run_leaf1 sw pk pf pn f v d s h2
  · simp only [Pol.k, Pol.pk, Pol.pf, Pol.pn, Pol.f, Pol.l] at h1 h2 h3 h4 h5 h6
    subst h1 h2 h3 h4 h5 h6
    exact run_leaf2 sw v d s
theorem LeafR.kind {x : Pol} (h : LeafR x) : x.k ≠ 4 ∧ x.k ≠ 3 := by
  rcases h with ⟨h, _⟩ | ⟨h, _⟩ <;> omega
theorem run_c (sw : Int) : ∀ (d : Nat) (x : Pol) (s : Sn), OkR d x → OneOk sw d x s → RunC sw (d + 1) x s (semL sw d x s) := by
  intro d
  induction d with
  | zero => intro x s ho _; exact run_leaf sw 0 x s ho
  | succ d ih =>
    intro x s ho h1
    rcases ho with h | ⟨hk, h2, h3, h4, hy⟩
    · have e : semL sw (d + 1) x s = leafL sw x s := by unfold semL; rw [if_neg h.kind.1, if_neg h.kind.2]
      rw [e]
      exact run_leaf sw (d + 1) x s h
    · obtain ⟨k, pk, pf, pn, f, v, l⟩ := x
      simp only [Pol.k, Pol.pk, Pol.pf, Pol.pn, Pol.l] at hk h2 h3 h4 hy
      subst h2 h3 h4
      rcases hk with rfl | rfl
      · obtain ⟨g1, g2⟩ := h1.2 rfl
        exact run_seq sw f v l (d + 1) s (semL sw d) g1 (fun j h t ht => ih l[j] t (hy _ (List.getElem_mem h)) (g2 j h t ht))
      · exact run_union sw f v l (d + 1) s (fun y => semL sw d y s) (fun y hm => ih y s (hy y hm) (h1.1 rfl y hm))
end Go.Proofs.YtekfkieimdgfkaaGreat
