/- What is proved here: AppendSeq gathers what goes through a set of packets. Condition: the set holds at most one. -/
import Derived.Test.YtekfkieimdgfkaaGreatT07
import Derived.Test.YtekfkieimdgfkaaGreatT17
import Derived.Test.YtekfkieimdgfkaaGreatT18
namespace Go.Proofs.YtekfkieimdgfkaaGreat
open Go Go.Proofs Go.RowKit Go.Shelf
attribute [local go_sem] Oper.semAt_some
theorem el39 : Elem Tryz.prog 39 63 5 := elem_of (by kernel_rfl)
def stE (s : Sn) : List Value := (stA s).toList
theorem keys_stops (n : Nat) (hn : 1 ≤ n) (Bm b : Nat) (L : List Sn) (w : World) (hBm : Bm < w.heap.size) (hm : w.cell? ⟨Bm, 0, none⟩ = some (.map (some b))) (hs : MpS b L w) :
    SeqStopsK Fence.wide n Tryz.prog 166 #[.pointer (some ⟨Bm, 0, none⟩)] (fun x : Sn => #[stV x]) KeepsWalks (fun ys => ys = L) (fun pre => pre.length ≤ L.length) L.length w := fun l J Jx W hW hJ _ hY h0 =>
  keys166_in n hn l Bm b L J Jx hY W hJ ((hW.cell (p := ⟨Bm, 0, none⟩) hBm).trans hm) (hs.blk (hW.block b hs.lt)) h0
/-- What has been gathered lies in the box at Bs. -/
def BoxS (Bs : Nat) (pre : List Sn) (W : World) : Prop :=
  ∃ v, W.heap[Bs]? = some (.cells #[v] 39 (0, 0)) ∧ W.ownsRow (Bs + 1) 63 5 v pre.length (flatR stE pre) ∧ (pre = [] → v = .slice none 0 0)
theorem cells_kept {W W' : World} {row : Option Nat} (hg : W.grownBy W' row) (hr : ∀ r, row = some r → ∃ o : Obj, W.heap[r]? = some o ∧ o.isCells = false) {k : Nat} {cs : Array Value} {t : TypeId} (hk : W.heap[k]? = some (.cells cs t (0, 0))) : W'.heap[k]? = W.heap[k]? :=
  hg.block k (block_lt hk) (fun e => by
    obtain ⟨o, ho, hc⟩ := hr k e.symm
    rw [hk] at ho
    cases ho
    cases hc)
theorem boxS_kept {Bs : Nat} {pre : List Sn} {W W' : World} {row : Option Nat} (h : BoxS Bs pre W) (hg : W.grownBy W' row) (hr : ∀ r, row = some r → ∃ o : Obj, W.heap[r]? = some o ∧ o.isCells = false) : BoxS Bs pre W' := by
  obtain ⟨v, h1, h2, h3⟩ := h
  refine ⟨v, (cells_kept hg hr h1).trans h1, own_blk h2 fun g hg' => ?_, h3⟩
  rcases h2.2 with ⟨rfl, _⟩ | ⟨g', cap, cur, rfl, _, hc, _⟩
  · simp [Value.ownBlock] at hg'
  · simp [Value.ownBlock] at hg'
    subst hg'
    exact cells_kept hg hr hc
theorem boxS_own (Bs B : Nat) : OwnFrom B (fun pre W => BoxS Bs pre W) := fun _ _ _ _ h hg hr => boxS_kept h hg (fun r e => (hr r e).2)
abbrev apAct (Bm Bs q : Nat) (x : Sn) : Act := { tmps := #[.slice none 0 0, .func (.func 166) #[] #[.pointer (some ⟨Bm, 0, none⟩)], .pointer (some ⟨Bs, 0, none⟩), undef, .slice none 0 0, .pointer (some ⟨q, 0, none⟩), .func (.func 166) #[] #[.pointer (some ⟨Bm, 0, none⟩)], stV x, undef, undef, undef, undef, undef], defers := [] }
theorem others_alloc (W : World) (o : Obj) : KeepsOthers W (W.alloc o) := ⟨by simp, fun k o' hk _ => (Below.heap_alloc W o k (block_lt hk)).trans hk⟩
set_option maxRecDepth 100000 in
set_option maxHeartbeats 2000000 in
theorem append176_in (Bm b : Nat) (L : List Sn) (w : World) (hBm : Bm < w.heap.size) (hm : w.cell? ⟨Bm, 0, none⟩ = some (.map (some b))) (hs : MpS b L w) :
    CallsIn Fence.wide 3 Tryz.prog 176 #[.slice none 0 0, .func (.func 166) #[] #[.pointer (some ⟨Bm, 0, none⟩)]] w fun e w' => ∃ v, e = .returned v ∧ w'.ownsRow w.heap.size 63 5 v L.length (flatR stE L) ∧ Below w.heap.size w w' := by
  have hst := keys_stops 2 (by omega) Bm b L (w.alloc (.cells #[.slice none 0 0] 39)) (by simp; omega) (((grow1 w _).cell (p := ⟨Bm, 0, none⟩) hBm).trans hm) (hs.blk (Below.heap_alloc _ _ _ hs.lt))
  have HST := Lib.hid hst
  have hL1 := hs.len
  clear hst hs hm hBm
  refine callsIn_of_wp_marks Tryz.func176 rfl trivial ?_ rfl
  simp only [Tryz.ntmps176, List.size_toArray, List.length_cons, List.length_nil, Nat.reduceAdd, Nat.reduceSub, Array.replicate_succ, Array.replicate_zero, List.push_toArray, List.append_toArray, List.nil_append, List.cons_append]
  gi_wp2
  refine wpIn_rangeFunc_ownH rfl (by omega) (gf := 166) (lb := #[.pointer (some ⟨Bm, 0, none⟩)]) rfl trivial (enters_of Tryz.func166 (by kernel_rfl) rfl)
    HST.out walksK_t walksK_b (Below.refl _ _) (fun _ => rfl)
    (fun pre W => BoxS w.heap.size pre W ∧ Below w.heap.size w W)
    (fun _ _ _ => False)
    (OwnFrom.and (I := fun pre W => BoxS w.heap.size pre W) (boxS_own _ _) (ownFrom_below (Nat.le_refl _) (by simp)))
    (fun c s W W' row h _ _ => h)
    ⟨⟨.slice none 0 0, heap_alloc_new w _, own_nil _ _ _ _, fun _ => rfl⟩, grow1 w _⟩
    (fun x a' W => ∃ q, w.heap.size < q ∧ a' = apAct Bm w.heap.size q x ∧ W.heap[q]? = some (.cells (stA x) 63 (0, 0)))
    (fun x a' s W W' row h hg hr => by
      obtain ⟨q, h1, h2, h3⟩ := h
      exact ⟨q, h1, h2, (cells_kept hg (fun r e => (hr r e).2) h3).trans h3⟩) ?assign ?body ?done ?stop
  case assign =>
    intro l pre x W K hI hK
    have hsz := hI.2.size
    have hl : w.heap.size < W.heap.size := by obtain ⟨v, h1, _⟩ := hI.1; exact block_lt h1
    have HKK := Lib.hid (hK (apAct Bm w.heap.size W.heap.size x) (W.alloc (.cells (stA x) 63)) ((others_alloc _ _).from _) (KeepsWalks.alloc _ _)
      ⟨boxS_kept hI.1 (grown_alloc W _ none) (fun r e => by cases e), hI.2.alloc hsz _⟩ ⟨W.heap.size, hl, rfl, heap_alloc_new W _⟩)
    clear hK hI HST
    obtain ⟨p, a, c, d, e⟩ := x
    simp only [stA, stV, apAct] at HKK ⊢
    gi_wp2
    exact HKK.out
  case body =>
    rintro l pre x a' W hl _ ⟨⟨v, hv, hown, hnil⟩, hB⟩ ⟨q, hq, rfl, hqc⟩ hlen
    have hpre : pre = [] := by
      cases pre with
      | nil => rfl
      | cons y ys => simp at hlen; omega
    have hvn := hnil hpre
    subst hpre hvn
    have hsz := hB.size
    have hlb := block_lt hv
    have hlq := block_lt hqc
    obtain ⟨i0, zv, hi, hz, hz1, hby, hz2, h0⟩ := el39.ex
    have c0 := block_cell hv 0
    have f0 := block_free hv 0
    have q0 := block_cell hqc 0
    have q1 := block_cell hqc 1
    have q2 := block_cell hqc 2
    have q3 := block_cell hqc 3
    have q4 := block_cell hqc 4
    have HBv := Lib.hid hv
    have HBB := Lib.hid hB
    have HQC := Lib.hid hqc
    obtain ⟨p, a, c, d, e⟩ := x
    simp only [stA, List.getElem?_toArray, List.getElem?_cons_zero, List.getElem?_cons_succ] at c0 q0 q1 q2 q3 q4
    simp only [apAct, stV, stA]
    clear HST hv hB hqc hown hnil hlen
    gi_wp2_with (gi_at_builtin; refine wpListIn_append_own _ rfl _ _ 39 rfl (w.heap.size + 1) 63 i0 zv 5 i0.bytes el39.ht hi hz hz1 rfl hz2 h0 (.slice none 0 0) 0 [] rfl (own_nil _ _ _ _) ⟨W.heap.size, 0, none⟩ 1 1 [.int .i64 p, .int .i64 a, .int .i64 c, .int .i64 d, .int .i64 e] rfl rfl (fun j u hj => by rw [adh, block_cell (heap_alloc_new W _)]; simpa using hj) (fun u hu => by simp at hu; rcases hu with rfl | rfl | rfl | rfl | rfl <;> rfl) (by decide) (by omega) (by simp; omega) ?_; intro v' w3 hown3 hg3 hnil3
                 simp only [Nat.zero_add, List.nil_append] at hown3
                 obtain ⟨g', cap', rfl⟩ : ∃ g' cap', v' = .slice (some ⟨g', 0, none⟩) 1 cap' := by
                   rcases hown3.2 with ⟨_, h0⟩ | ⟨g', cap', cur', h1, _⟩
                   · omega
                   · exact ⟨g', cap', h1⟩
                 have hv3 := (hg3.block w.heap.size (by simp; omega) (by simp [Value.ownBlock])).trans ((Below.heap_alloc _ _ _ hlb).trans HBv.out)
                 have c3 := block_cell hv3 0
                 have f3 := block_free hv3 0
                 have hs3 : W.heap.size + 1 ≤ w3.heap.size := by have := hg3.size; simpa using this
                 have HV3 := Lib.hid hv3
                 have HO3 := Lib.hid hown3
                 have HG3 := Lib.hid hg3
                 simp only [List.getElem?_toArray, List.getElem?_cons_zero] at c3
                 clear hv3 hown3 hg3 hnil3
                 go_frame)
    have HV4 := Lib.hid (heap_setCell_same w3 w.heap.size 0 #[.slice none 0 0] 39 (.slice (some ⟨g', 0, none⟩) 1 cap') HV3.out)
    have hog := HO3.out.lt g' rfl
    have HO4 := Lib.hid (own_blk (w' := w3.setCell ⟨w.heap.size, 0, none⟩ (.slice (some ⟨g', 0, none⟩) 1 cap')) HO3.out fun g hg => by
      simp [Value.ownBlock] at hg
      subst hg
      exact heap_setCell_other _ _ _ _ (by dsimp only; omega))
    have hb3 : Below w.heap.size w w3 := (HBB.out.alloc hsz _).grown HG3.out (by simp; omega) fun j hj => by simp [Value.ownBlock] at hj
    have hko : KeepsOthers W (w3.setCell ⟨w.heap.size, 0, none⟩ (.slice (some ⟨g', 0, none⟩) 1 cap')) :=
      ((KeepsOthers.alloc W _).trans (KeepsOthers.of_grownBy HG3.out (fun j o hj _ => by simp [Value.ownBlock] at hj))).trans (KeepsOthers.setCell _ _ _)
    exact ⟨hko.from _, hko.walks, ⟨_, HV4.out, by simpa [flatR, stE, stA] using HO4.out, fun h => by simp at h⟩, hb3.setCell (by simp) _⟩
  case done =>
    rintro D ys W hD rfl ⟨⟨v, h1, h2, _⟩, hB⟩ hK
    have c0 := block_cell h1 0
    have hlt := block_lt h1
    simp only [List.getElem?_toArray, List.getElem?_cons_zero] at c0
    have HO := Lib.hid h2
    have HBB := Lib.hid hB
    clear h1 h2 hB HST
    gi_wp2
    refine ⟨by simp, .inl ⟨_, _, rfl, run_takeDeferred hK, ?_⟩⟩
    refine ⟨v, by simp [results, Tryz.f176, go_sem], _, rfl, ?_, HBB.out.trans (belowK_b (w := w) (Nat.le_refl _) W D _ _ (by simp at hD; omega) hK rfl rfl)⟩
    refine own_mono (own_blk HO.out fun g hg => World.putObj_heap_other fun e => ?_) (Nat.le_succ _)
    rcases HO.out.2 with ⟨rfl, _⟩ | ⟨g2, cap, cur, rfl, _, hc, _⟩
    · simp [Value.ownBlock] at hg
    · simp [Value.ownBlock] at hg
      subst hg
      rw [e] at hc
      rw [hK] at hc
      cases hc
  case stop =>
    intro D c pre W hD hp hx
    exact hx.elim
theorem append176_c (Bm b : Nat) (L : List Sn) (w : World) (hBm : Bm < w.heap.size) (hm : w.cell? ⟨Bm, 0, none⟩ = some (.map (some b))) (hs : MpS b L w) :
    Calls Tryz.prog 176 #[.slice none 0 0, .func (.func 166) #[] #[.pointer (some ⟨Bm, 0, none⟩)]] w fun e w' => ∃ v, e = .returned v ∧ w'.ownsRow w.heap.size 63 5 v L.length (flatR stE L) ∧ Below w.heap.size w w' :=
  (callsIn_wide (n := 3)).1 (append176_in Bm b L w hBm hm hs)
end Go.Proofs.YtekfkieimdgfkaaGreat
/- What is proved here: what policy.Run answers. Condition: at most one packet comes of each step. -/
namespace Go.Proofs.YtekfkieimdgfkaaGreat
open Go Go.RowKit
attribute [local go_sem] KW.cell KW.frozen
set_option maxRecDepth 100000 in
set_option maxHeartbeats 4000000 in
theorem sorted148_c (Bm b : Nat) (L : List Sn) (w : World) (hBm : Bm < w.heap.size) (hm : w.cell? ⟨Bm, 0, none⟩ = some (.map (some b))) (hs : MpS b L w) :
    Calls Tryz.prog 148 #[.func (.func 166) #[] #[.pointer (some ⟨Bm, 0, none⟩)], .func (.func 150) #[] #[]] w fun e w' => ∃ v, e = .returned v ∧ w'.ownsRow w.heap.size 63 5 v L.length (flatR stE L) ∧ Below w.heap.size w w' := by
  have X := Lib.hid (append176_c Bm b L w hBm hm hs)
  have hL := hs.len
  clear hBm hm hs
  go_enter Tryz.func148, Tryz.ntmps148
  go_wp2_with (first | (go_at_call 176; refine X.out.mono ?_; rintro e w1 ⟨v, rfl, hown, hb⟩; obtain ⟨vo, vc, rfl, _, _⟩ := own_form hown; have HO := Lib.hid hown; have HB := Lib.hid hb; clear hown hb X) | (go_at_call 123; refine (sort123_c _ _ _ _ _ hL).mono ?_; rintro e w2 ⟨rfl, rfl⟩) | go_in)
  go_ret
  exact ⟨_, rfl, HO.out, HB.out⟩
set_option maxRecDepth 100000 in
set_option maxHeartbeats 8000000 in
theorem run121_c (sw port : Int) (p : Pk) (d : Nat) (x : Pol) (u : Value) (w : World) (hr : RdP AnyP (d + 1) u x.l w) (ho : OkR d x) (h1 : OneOk sw d x (port, p)) (hl : (semL sw d x (port, p)).length ≤ 1) :
    Calls Tryz.prog 121 #[polV x u, .int .i64 sw, .int .i64 port, .agg (pkA p)] w fun e w' => ∃ v, e = .returned v ∧ w'.ownsRow w.heap.size 63 5 v (semL sw d x (port, p)).length (flatR stE (semL sw d x (port, p))) ∧ Below w.heap.size w w' := by
  obtain ⟨uo, uc, rfl, _, huc⟩ := hr.form
  have X := Lib.hid (run_c sw d x (port, p) ho h1)
  obtain ⟨r, hrr⟩ : ∃ r, r = semL sw d x (port, p) := ⟨_, rfl⟩
  rw [← hrr] at X hl ⊢
  have HB : Hid (Below w.heap.size w ((w.alloc (.cells (polL x (.slice uo x.l.length uc)).toArray 55)).alloc (.cells (pkA p) 29))) := Lib.hid (((Below.refl _ _).alloc (Nat.le_refl _) _).alloc (by simp) _)
  have HP : Hid (((w.alloc (.cells (polL x (.slice uo x.l.length uc)).toArray 55)).alloc (.cells (pkA p) 29)).heap[w.heap.size]? = some (.cells (polL x (.slice uo x.l.length uc)).toArray 55 (0, 0))) :=
    Lib.hid ((Below.heap_alloc _ _ _ (by simp)).trans (heap_alloc_new w _))
  have HK : Hid (((w.alloc (.cells (polL x (.slice uo x.l.length uc)).toArray 55)).alloc (.cells (pkA p) 29)).heap[w.heap.size + 1]? = some (.cells (pkA p) 29 (0, 0))) := by
    have := heap_alloc_new (w.alloc (.cells (polL x (.slice uo x.l.length uc)).toArray 55)) (.cells (pkA p) 29)
    exact Lib.hid (by simpa using this)
  have HR := Lib.hid (hr.mono (P' := fun g => g < w.heap.size) fun g _ hg => hg)
  have hmk := @run_makeMap Tryz.prog
  have hmf : ∀ (fn : Fn) (first cap : Array Value) (w : World), (Instr.makeFunc fn first cap).run Tryz.prog w = .ok (.func fn first cap) w := fun _ _ _ _ => rfl
  clear hr ho h1 hrr
  obtain ⟨a, c, dd, e⟩ := p
  unfold polV
  go_enter Tryz.func121, Tryz.ntmps121
  go_wp2_with (refine stop_load 55 _ rfl ?_)
  refine Stop.go (abs_list ?_)
  intro w1 e1
  have hb1 : Below w.heap.size w w1 := by rw [e1]; exact HB.out.alloc (by simp; omega) _
  have hp1 : w1.heap[w.heap.size]? = some (.cells (polL x (.slice uo x.l.length uc)).toArray 55 (0, 0)) := by rw [e1]; exact (Below.heap_alloc _ _ _ (by simp; omega)).trans HP.out
  have hk1 : w1.heap[w.heap.size + 1]? = some (.cells (pkA (a, c, dd, e)) 29 (0, 0)) := by rw [e1]; exact (Below.heap_alloc _ _ _ (by simp)).trans HK.out
  have hm1 : MpS (w.heap.size + 1 + 1) [] w1 := by
    rw [e1]
    have h := MpS.made ((w.alloc (.cells (polL x (.slice uo x.l.length uc)).toArray 55)).alloc (.cells (pkA (a, c, dd, e)) 29))
    have hz : ((w.alloc (.cells (polL x (.slice uo x.l.length uc)).toArray 55)).alloc (.cells (pkA (a, c, dd, e)) 29)).heap.size = w.heap.size + 1 + 1 := by simp
    rw [hz] at h
    exact h
  have HB1 := Lib.hid hb1
  have HP1 := Lib.hid hp1
  have HM1 := Lib.hid hm1
  have k0 := block_cell hk1 0
  have k1 := block_cell hk1 1
  have k2 := block_cell hk1 2
  have k3 := block_cell hk1 3
  have hl1 := block_lt hk1
  simp only [List.getElem?_toArray, List.getElem?_cons_zero, List.getElem?_cons_succ] at k0 k1 k2 k3
  clear e1 hb1 hp1 hk1 hm1 HB HP HK
  obtain ⟨fs, hu55⟩ := und55
  refine wpList_load_row rfl 55 _ rfl w.heap.size rfl 55 _ (0, 0) _ HP1.out hu55 rfl inf55 ?_
  clear hu55
  go_wp2_with fail
  have Y := Lib.hid (X.out (.slice uo x.l.length uc) (w.heap.size + 1 + 1) w.heap.size [] w1 HM1.out (by omega) (HR.out.kept HB1.out) (by simpa using hl))
  refine Y.out.mono ?_
  rintro e2 w2 ⟨rfl, hm2, hg2⟩
  have HM2 : Hid (MpS (w.heap.size + 1 + 1) r w2) := Lib.hid (by simpa using hm2)
  have hlm := HM2.out.lt
  have HB2 := Lib.hid (HB1.out.grown hg2 HB1.out.size fun j hj => by cases hj; omega)
  clear hm2 hg2 Y HB1 HP1 HM1 X k0 k1 k2 k3
  have HMb := Lib.hid (HM2.out.blk (w' := w2.alloc (.cells #[.map (some (w.heap.size + 1 + 1))] 201)) (Below.heap_alloc _ _ _ hlm))
  have HCb : Hid ((w2.alloc (.cells #[.map (some (w.heap.size + 1 + 1))] 201)).cell? ⟨w2.heap.size, 0, none⟩ = some (.map (some (w.heap.size + 1 + 1)))) := Lib.hid (by rw [block_cell (heap_alloc_new w2 _)]; rfl)
  have HS := Lib.hid (sorted148_c w2.heap.size (w.heap.size + 1 + 1) r _ (by simp) HCb.out HMb.out)
  clear HMb HCb HM2 hmk
  go_wp2_with (first | (go_at_call 148; refine HS.out.mono ?_; rintro e3 w3 ⟨v, rfl, hown, hb3⟩) | go_in)
  have HO := Lib.hid (own_mono (B' := w.heap.size) hown (by have := HB2.out.size; simp; omega))
  have HB3 := Lib.hid (HB2.out.trans (((grow1 w2 (.cells #[.map (some (w.heap.size + 1 + 1))] 201)).mono HB2.out.size).trans (hb3.mono (by have := HB2.out.size; simp; omega))))
  clear hown hb3 HS HB2
  go_wp2_with fail
  go_ret
  exact ⟨_, rfl, HO.out, HB3.out⟩
end Go.Proofs.YtekfkieimdgfkaaGreat
