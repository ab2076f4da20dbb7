/- What is proved here: what the program's Walk answers. Condition: numbers and links can be read. -/
import Derived.Test.YtijgopcddjnfdaaWg
import Derived.RegionIn
import Derived.Laws.Entries
namespace Go.Proofs.Ytijgopcddjnfdaa
open Go Go.Proofs Go.RowKit Go.Shelf
attribute [local go_sem] Oper.semAt_some
set_option maxHeartbeats 1000000 in
theorem back_in (n : Nat) (a : Option Addr) (len cap : Nat) (w : World) :
    CallsIn Fence.wide n Try.prog 54 #[.slice a len cap] w fun e w' => e = .returned (.func (.func 60) #[] #[.pointer (some ⟨w.heap.size, 0, none⟩)]) ∧ w' = w.alloc (.cells #[.slice a len cap] 54) := by
  refine callsIn_of_wp Try.func54 rfl trivial ?_ rfl
  simp only [Try.ntmps54, List.size_toArray, List.length_cons, List.length_nil, Nat.reduceAdd, Nat.reduceSub, Array.replicate_succ, Array.replicate_zero, List.push_toArray, List.append_toArray, List.nil_append, List.cons_append]
  gi_wp2
  go_ret
  exact ⟨rfl, rfl⟩
theorem back_stops (n : Nat) (hn : 1 ≤ n) (Bs r c : Nat) (sa : Option Addr) (cap : Nat) (zs : List Int) (hz : zs.length ≤ 1000) (w : World) (hBs : Bs < w.heap.size) (hB2 : Bs ≠ r) (hB3 : Bs ≠ c)
    (hc : w.cell? ⟨Bs, 0, none⟩ = some (.slice sa zs.length cap)) (hI : ∀ j, j < zs.length → ∃ a, sa = some a ∧ a.block < w.heap.size ∧ a.block ≠ r ∧ a.block ≠ c ∧ w.cell? (a.add j) = some (.int .i64 (zs[j]?.getD 0))) :
    SeqStopsK Fence.wide n Try.prog 60 #[.pointer (some ⟨Bs, 0, none⟩)] (fun x : Nat × Int => #[Value.int .i64 ((x.1 : Nat) : Int), Value.int .i64 x.2]) (KpB w.heap.size r c) (fun ys => ys = upTo (fromEnd zs) zs.length)
      (fun pre => ∃ k, k ≤ zs.length ∧ pre = upTo (fromEnd zs) k) zs.length w := fun l J Jx W hW _ _ hY h0 =>
  back1_in n hn l Bs w.heap.size r c sa cap zs hz hBs hB2 hB3 J Jx hY W ((hW.cell (p := ⟨Bs, 0, none⟩) hBs).trans hc) (fun j hj => by
    obtain ⟨a, h1, h2, h3, h4, h5⟩ := hI j hj
    exact ⟨a, h1, h2, h3, h4, (hW.cell (p := a.add j) (by rw [add_block]; exact h2)).trans h5⟩) h0
namespace Fl
/-- What it costs behind the links that have come. -/
def accF (ws : List Nat) (pre : List (Nat × Int)) : Nat := pre.foldl (fun c x => plusF (wat ws x.2) c) 0
theorem fromEnd_all (zs : List Int) : (upTo (fromEnd zs) zs.length).map (·.2) = zs.reverse := by
  refine List.ext_getElem (by simp [upTo]) fun i h1 h2 => ?_
  have hi : i < zs.length := by simpa using h2
  simp [upTo, fromEnd, show zs.length - 1 - i < zs.length by omega]
theorem back_some {ws : List Nat} : ∀ {way : List Int}, allB ws.length way = true → back ws way = some (way.foldr (fun x c => plusF (wat ws x) c) 0) := by
  intro way
  induction way with
  | nil => intro _; rfl
  | cons x r ih =>
    intro h
    have e : allB ws.length (x :: r) = (hasB ws.length x && allB ws.length r) := rfl
    rw [e, Bool.and_eq_true] at h
    unfold back
    rw [ih h.2]
    simp only
    rw [if_pos h.1]
    rfl
theorem accF_all {ws : List Nat} {way : List Int} (h : ∀ x ∈ upTo (fromEnd way) way.length, hasB ws.length x.2 = true) : accF ws (upTo (fromEnd way) way.length) = walkP ws way := by
  have hall : allB ws.length way = true := by
    refine List.all_eq_true.2 fun x hx => ?_
    have hm : x ∈ (upTo (fromEnd way) way.length).map (·.2) := by rw [fromEnd_all]; simpa using hx
    obtain ⟨p, hp, rfl⟩ := List.mem_map.1 hm
    exact h p hp
  unfold walkP
  rw [back_some hall]
  have e : accF ws (upTo (fromEnd way) way.length) = ((upTo (fromEnd way) way.length).map (·.2)).foldl (fun c x => plusF (wat ws x) c) 0 := by
    unfold accF
    rw [List.foldl_map]
  rw [e, fromEnd_all, List.foldl_reverse]
  rfl
theorem walkP_bad {ws : List Nat} {way : List Int} {k : Nat} {ini : List (Nat × Int)} {last : Nat × Int} (hk : k ≤ way.length) (he : upTo (fromEnd way) k = ini ++ [last]) (h : hasB ws.length last.2 = false) : walkP ws way = inf := by
  have hm : last ∈ upTo (fromEnd way) k := by rw [he]; simp
  unfold upTo at hm
  obtain ⟨j, hj, e⟩ := List.mem_map.1 hm
  have hj' : j < k := List.mem_range.1 hj
  have hl : last.2 = way[way.length - 1 - j]'(by omega) := by
    rw [← e]
    simp [fromEnd, show way.length - 1 - j < way.length by omega]
  have hno : allB ws.length way = false := by
    rw [Bool.eq_false_iff]
    intro hall
    have := List.all_eq_true.1 hall _ (List.getElem_mem (by omega : way.length - 1 - j < way.length))
    rw [← hl, h] at this
    cases this
  unfold walkP
  rw [back_none.2 hno]
  rfl
theorem accF_snoc (ws : List Nat) (pre : List (Nat × Int)) (x : Nat × Int) : accF ws (pre ++ [x]) = plusF (wat ws x.2) (accF ws pre) := by simp [accF]
end Fl
attribute [local go_sem ↓] op_lss op_gtr op_geq op_leq op_eql op_neq op_neg wop_eql wop_neq run_frombits run_bits lfrombits_one lfrombits_inf lfrombits_ninf lop_eql_sign
theorem run_store_flt (P : Program) (w : World) (a : Addr) (m : Mode) (k : FloatKind) (b : Nat) : (store a (.float k b) m).run P w = stored P w a (.float k b) m := run_store P w a _ m rfl
attribute [local go_sem] run_store_flt
theorem walk_end {w W : World} {ws : List Nat} {bo : Option Addr} {d y acc : Nat} {pre' : List (Nat × Int)} (ha : Fl.accF ws pre' = Fl.plusF y acc) (hp : ∀ x ∈ pre', Fl.hasB ws.length x.2 = true)
    (hcc : W.cell? ⟨w.heap.size + 1 + 1, 0, none⟩ = some (.float .f64 acc)) (hfc : W.frozen? ⟨w.heap.size + 1 + 1, 0, none⟩ = false) (hcr : W.cell? ⟨w.heap.size + 1, 0, none⟩ = some (.float .f64 0)) (hfr : W.frozen? ⟨w.heap.size + 1, 0, none⟩ = false)
    (hcw : W.cell? ⟨w.heap.size, 0, none⟩ = some (.slice bo ws.length d)) (hB : Below w.heap.size w W) {B N : Nat} (_hk : True) (k : Nat) :
    KeepsFrom B W ((W.drewN k).setCell ⟨w.heap.size + 1 + 1, 0, none⟩ (.float .f64 (Fl.plusF y acc))) ∧ KpB N (w.heap.size + 1) (w.heap.size + 1 + 1) W ((W.drewN k).setCell ⟨w.heap.size + 1 + 1, 0, none⟩ (.float .f64 (Fl.plusF y acc))) ∧
      ((∀ x ∈ pre', Fl.hasB ws.length x.2 = true) ∧ (((W.drewN k).setCell ⟨w.heap.size + 1 + 1, 0, none⟩ (.float .f64 (Fl.plusF y acc))).cell? ⟨w.heap.size + 1 + 1, 0, none⟩ = some (.float .f64 (Fl.accF ws pre')) ∧ ((W.drewN k).setCell ⟨w.heap.size + 1 + 1, 0, none⟩ (.float .f64 (Fl.plusF y acc))).frozen? ⟨w.heap.size + 1 + 1, 0, none⟩ = false) ∧
        (((W.drewN k).setCell ⟨w.heap.size + 1 + 1, 0, none⟩ (.float .f64 (Fl.plusF y acc))).cell? ⟨w.heap.size + 1, 0, none⟩ = some (.float .f64 0) ∧ ((W.drewN k).setCell ⟨w.heap.size + 1 + 1, 0, none⟩ (.float .f64 (Fl.plusF y acc))).frozen? ⟨w.heap.size + 1, 0, none⟩ = false) ∧
        ((W.drewN k).setCell ⟨w.heap.size + 1 + 1, 0, none⟩ (.float .f64 (Fl.plusF y acc))).cell? ⟨w.heap.size, 0, none⟩ = some (.slice bo ws.length d)) ∧ Below w.heap.size w ((W.drewN k).setCell ⟨w.heap.size + 1 + 1, 0, none⟩ (.float .f64 (Fl.plusF y acc))) := by
  have h1 : (W.drewN k).cell? ⟨w.heap.size + 1 + 1, 0, none⟩ = some (.float .f64 acc) := hcc
  refine ⟨(KeepsOthers.trans (⟨Nat.le_refl _, fun _ _ h _ => h⟩ : KeepsOthers W (W.drewN k)) (KeepsOthers.setCell (W.drewN k) _ _)).from _, fun i _ _ hi => Below.heap_setCell (W.drewN k) ⟨w.heap.size + 1 + 1, 0, none⟩ _ i hi, ⟨hp, ⟨?_, ?_⟩, ⟨?_, ?_⟩, ?_⟩, (below_drewN hB k).setCell (by simp; omega) _⟩
  · rw [ha]
    exact World.cell?_setCell_same' _ _ _ (by rw [h1]; rfl)
  · rw [World.frozen?_setCell]; exact hfc
  · exact (World.cell?_setCell_other (W.drewN k) _ _ _ (by simp)).trans hcr
  · rw [World.frozen?_setCell]; exact hfr
  · exact (World.cell?_setCell_other (W.drewN k) _ _ _ (by simp)).trans hcw
set_option maxRecDepth 100000 in
set_option maxHeartbeats 2000000 in
theorem walk_run (bv : Value) (ws : List Nat) (way : List Int) (v : Value) (w : World) (_hws : ws.length ≤ 1000) (hwl : way.length ≤ 1000) (hb : Rd FLT bv ws w) (hv : Rd INT v way w) :
    CallsIn Fence.wide 3 Try.prog 41 #[bv, v] w fun e w' => e = .returned (.float .f64 (Fl.walkP ws way)) ∧ Below w.heap.size w w' := by
  obtain ⟨ao, c, rfl, hm⟩ := hv.form
  obtain ⟨bo, d, rfl, hbm⟩ := hb.form
  have HB := Lib.hid hb
  have HV := Lib.hid hv
  clear hb hv
  refine callsIn_of_wp_marks Try.func41 rfl trivial ?_ rfl
  simp only [Try.ntmps41, List.size_toArray, List.length_cons, List.length_nil, Nat.reduceAdd, Nat.reduceSub, Array.replicate_succ, Array.replicate_zero, List.push_toArray, List.append_toArray, List.nil_append, List.cons_append]
  gi_wp2_with (refine ⟨trivial, ?_⟩; gi_at_call 54; refine (back_in _ _ _ _ _).mono ?_; rintro e w' ⟨rfl, rfl⟩)
  have bW := Boxed.new w 31 (.slice bo ws.length d)
  have bR := Boxed.new (w.alloc (.cells #[.slice bo ws.length d] 31)) 23 (.float .f64 0)
  have bC := Boxed.new ((w.alloc (.cells #[.slice bo ws.length d] 31)).alloc (.cells #[.float .f64 0] 23)) 23 (.float .f64 0)
  have bS := Boxed.new (((w.alloc (.cells #[.slice bo ws.length d] 31)).alloc (.cells #[.float .f64 0] 23)).alloc (.cells #[.float .f64 0] 23)) 54 (.slice ao way.length c)
  simp only [World.size_alloc] at bR bC bS
  have hB0 : Below w.heap.size w ((((w.alloc (.cells #[.slice bo ws.length d] 31)).alloc (.cells #[.float .f64 0] 23)).alloc (.cells #[.float .f64 0] 23)).alloc (.cells #[.slice ao way.length c] 54)) :=
    ((((Below.refl _ w).alloc (Nat.le_refl _) _).alloc (by simp) _).alloc (by simp; omega) _).alloc (by simp; omega) _
  have hst := back_stops 2 (by omega) (w.heap.size + 1 + 1 + 1) (w.heap.size + 1) (w.heap.size + 1 + 1) ao c way hwl
    ((((w.alloc (.cells #[.slice bo ws.length d] 31)).alloc (.cells #[.float .f64 0] 23)).alloc (.cells #[.float .f64 0] 23)).alloc (.cells #[.slice ao way.length c] 54)) (by simp) (by omega) (by omega) bS.cell
    (fun j hj => by
      obtain ⟨a, ha, hg, hc⟩ := (HV.out.kept hB0).at_ j hj
      obtain ⟨a', ha', hg', _⟩ := HV.out.at_ j hj
      cases ha
      cases ha'
      refine ⟨a, rfl, hg, by omega, by omega, ?_⟩
      rw [hc]
      simp [INT, hj])
  have HST := Lib.hid hst
  clear hst
  refine wpIn_rangeFunc_ownG rfl (by omega) (gf := 60) (lb := #[.pointer (some ⟨w.heap.size + 1 + 1 + 1, 0, none⟩)]) rfl trivial (enters_of Try.func60 (by kernel_rfl) rfl)
    HST.out (fun h k => h.trans k) (fun W l o o' hl h _ _ k hk _ _ => World.putObj_heap_other (by omega)) (Below.refl _ _) (fun _ => rfl)
    (fun pre W => ((∀ x ∈ pre, Fl.hasB ws.length x.2 = true) ∧ (W.cell? ⟨w.heap.size + 1 + 1, 0, none⟩ = some (.float .f64 (Fl.accF ws pre)) ∧ W.frozen? ⟨w.heap.size + 1 + 1, 0, none⟩ = false) ∧ (W.cell? ⟨w.heap.size + 1, 0, none⟩ = some (.float .f64 0) ∧ W.frozen? ⟨w.heap.size + 1, 0, none⟩ = false) ∧ W.cell? ⟨w.heap.size, 0, none⟩ = some (.slice bo ws.length d)) ∧ Below w.heap.size w W)
    (fun c pre W => (c = .ret ∧ (∃ (ini : List (Nat × Int)) (last : Nat × Int), pre = ini ++ [last] ∧ Fl.hasB ws.length last.2 = false) ∧ W.cell? ⟨w.heap.size + 1, 0, none⟩ = some (.float .f64 Fl.inf)) ∧ Below w.heap.size w W)
    (OwnFrom.and (Own.from (fun s A B row hs hg hr => ⟨hs.1, ⟨cell_kept hs.2.1.1 hg hr, (frozen_kept hs.2.1.1 hg hr).trans hs.2.1.2⟩, ⟨cell_kept hs.2.2.1.1 hg hr, (frozen_kept hs.2.2.1.1 hg hr).trans hs.2.2.1.2⟩, cell_kept hs.2.2.2 hg hr⟩) _) (ownFrom_below (Nat.le_refl _) (by simp; omega)))
    (fun c => OwnFrom.and (Own.from (fun s A B row hs hg hr => ⟨hs.1, hs.2.1, cell_kept hs.2.2 hg hr⟩) _) (ownFrom_below (Nat.le_refl _) (by simp; omega)))
    ⟨⟨by simp, ⟨((bC.alloc _)).cell, ((bC.alloc _)).frozen⟩, ⟨((bR.alloc _).alloc _).cell, ((bR.alloc _).alloc _).frozen⟩, (((bW.alloc _).alloc _).alloc _).cell⟩, hB0⟩
    (fun x => { tmps := #[.slice bo ws.length d, .slice ao way.length c, .pointer (some ⟨w.heap.size, 0, none⟩), undef, .pointer (some ⟨w.heap.size + 1, 0, none⟩), .pointer (some ⟨w.heap.size + 1 + 1, 0, none⟩), undef, .int .i64 x.2, .slice ao way.length c, .func (.func 60) #[] #[.pointer (some ⟨w.heap.size + 1 + 1 + 1, 0, none⟩)], .int .i64 ((x.1 : Nat) : Int), .int .i64 x.2, undef, undef, undef, undef, undef, undef, undef, undef, undef, undef, undef, undef, undef, undef, undef, undef], defers := [] }) ?assign ?body ?done ?stop
  case assign =>
    intro l x W K hK
    gi_wp2
    exact hK
  case body =>
    rintro l pre ⟨xi, xv⟩ W ⟨⟨hp, ⟨hcc, hfc⟩, ⟨hcr, hfr⟩, hcw⟩, hB⟩ _
    dsimp only
    have HP := Lib.hid hp
    clear hp bW bR bC bS HST
    have hd1 : 1 ≤ 3 - 1 - 1 := by omega
    have hsz := hB.size
    by_cases h0 : xv < 0
    · gi_wp2_with (refine ⟨trivial, ?_⟩; gi_at_call 53; refine (CallsIn.inRound l (callsIn_wide.2 (inf_p _))).mono ?_; rintro e w' ⟨rfl, rfl⟩)
      exact ⟨(KeepsOthers.setCell _ _ _).from _, ⟨rfl, ⟨pre, (xi, xv), rfl, Fl.hasB_no.2 (by simp only; omega)⟩, World.cell?_setCell_same' _ _ _ (by rw [hcr]; rfl)⟩, hB.setCell (p := ⟨w.heap.size + 1, 0, none⟩) (by simp) _⟩
    by_cases h1 : (ws.length : Int) ≤ xv
    · gi_wp2_with (refine ⟨trivial, ?_⟩; gi_at_call 53; refine (CallsIn.inRound l (callsIn_wide.2 (inf_p _))).mono ?_; rintro e w' ⟨rfl, rfl⟩)
      exact ⟨(KeepsOthers.setCell _ _ _).from _, ⟨rfl, ⟨pre, (xi, xv), rfl, Fl.hasB_no.2 (by simp only; omega)⟩, World.cell?_setCell_same' _ _ _ (by rw [hcr]; rfl)⟩, hB.setCell (p := ⟨w.heap.size + 1, 0, none⟩) (by simp) _⟩
    obtain ⟨m, rfl⟩ : ∃ m : Nat, xv = m := ⟨xv.toNat, by omega⟩
    obtain ⟨b, rfl, hgb, cb⟩ := (HB.out.kept hB).at_ m (by omega)
    unfold FLT at cb
    have hm1 : (0 : Int) ≤ (m : Int) := by omega
    have hm2 : (m : Int) < (ws.length : Int) := by omega
    have hmx : Try.prog.follows .mixedOrders = true := by kernel_rfl
    have HA : Hid (Fl.accF ws (pre ++ [(xi, (m : Int))]) = Fl.plusF ws[m] (Fl.accF ws pre)) := Lib.hid (by rw [Fl.accF_snoc, wat_at ws m (by omega)])
    have HP' : Hid (∀ y ∈ pre ++ [(xi, (m : Int))], Fl.hasB ws.length y.2 = true) := Lib.hid fun y hy => by
      rcases List.mem_append.1 hy with h | h
      · exact HP.out y h
      · obtain rfl := List.mem_singleton.1 h
        exact Fl.hasB_iff.2 ⟨hm1, hm2⟩
    generalize ws[m] = y at *
    generalize Fl.accF ws pre = acc at *
    gi_wp2
    gi_region_with_o (refine ⟨trivial, ?_⟩; gi_at_call 21; refine (CallsIn.inRound l (callsIn_wide.2 (plus_c _ _ _))).mono ?_; rintro e w' ⟨rfl, q, rfl⟩)
    all_goals gi_wp2
    all_goals (try go_bits)
    all_goals exact walk_end HA.out HP'.out hcc hfc hcr hfr hcw hB trivial _
  case done =>
    rintro D ys W hD rfl ⟨⟨hp, ⟨hcc, hfc⟩, ⟨hcr, hfr⟩, hcw⟩, hB⟩ hK
    have HE := Lib.hid (Fl.accF_all hp)
    clear hp
    generalize Fl.accF ws (upTo (fromEnd way) way.length) = y at *
    gi_wp2
    have hK' := (KeepsOthers.setCell W ⟨w.heap.size + 1, 0, none⟩ (.float .f64 y)).same D _ hK rfl
    refine ⟨by simp, .inl ⟨_, _, rfl, run_takeDeferred hK', ?_⟩⟩
    have hc5 := cell_kept (World.cell?_setCell_same' W ⟨w.heap.size + 1, 0, none⟩ (.float .f64 y) (by rw [hcr]; rfl)) (grownBy_putObj' _ D (.deferred none)) (fun r e => by cases e; exact ⟨_, hK', rfl⟩)
    refine ⟨.float .f64 y, ?_, by rw [HE.out], (hB.setCell (p := ⟨w.heap.size + 1, 0, none⟩) (by simp) _).trans (belowK_b (w := w) (Nat.le_refl _) _ D _ _ (by simp at hD; omega) hK' rfl rfl)⟩
    simp [results, Try.f41, go_sem, hc5]
  case stop =>
    rintro D c pre W hD ⟨k, hk, rfl⟩ ⟨⟨rfl, ⟨ini, last, e1, e2⟩, hcr⟩, hB⟩ hK
    have HE := Lib.hid (Fl.walkP_bad hk e1 e2)
    clear e1 e2
    gi_wp2
    refine ⟨by simp, .inl ⟨_, _, rfl, run_takeDeferred hK, ?_⟩⟩
    have hc5 := cell_kept hcr (grownBy_putObj' _ D (.deferred none)) (fun r e => by cases e; exact ⟨_, hK, rfl⟩)
    refine ⟨.float .f64 Fl.inf, ?_, by rw [HE.out], hB.trans (belowK_b (w := w) (Nat.le_refl _) W D _ _ (by simp at hD; omega) hK rfl rfl)⟩
    simp [results, Try.f41, go_sem, hc5]
theorem walk_c (bv : Value) (ws : List Nat) (way : List Int) (v : Value) (w : World) (hws : ws.length ≤ 1000) (hwl : way.length ≤ 1000) (hb : Rd FLT bv ws w) (hv : Rd INT v way w) :
    Calls Try.prog 41 #[bv, v] w fun e w' => e = .returned (.float .f64 (Fl.walkP ws way)) ∧ Below w.heap.size w w' :=
  (callsIn_wide (n := 3)).1 (walk_run bv ws way v w hws hwl hb hv)
end Go.Proofs.Ytijgopcddjnfdaa
