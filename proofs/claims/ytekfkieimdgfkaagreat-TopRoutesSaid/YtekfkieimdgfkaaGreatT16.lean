/- What is proved here: which packets a leaf condition hits. Condition: it is a leaf. -/
import Derived.Test.YtekfkieimdgfkaaGreatT04
import Derived.Test.YtekfkieimdgfkaaGreatT14
import Derived.Maps.RangeRun
namespace Go.Proofs.YtekfkieimdgfkaaGreat
open Go Go.RowKit
attribute [local go_sem] KW.cell KW.frozen
abbrev pkA (p : Pk) : Array Value := #[.int .i64 p.1, .int .i64 p.2.1, .int .i64 p.2.2.1, .int .i64 p.2.2.2]
def getF (f sw port : Int) (p : Pk) : Int := if f = 4 then port else if f = 5 then sw else if f = 0 then p.1 else if f = 1 then p.2.1 else if f = 2 then p.2.2.1 else p.2.2.2
set_option maxRecDepth 100000 in
set_option maxHeartbeats 4000000 in
theorem get_c (f sw port : Int) (p : Pk) (w : World) (h : 0 ≤ f ∧ f ≤ 5) : Ret 180 #[.int .i64 f, .int .i64 sw, .int .i64 port, .agg (pkA p)] (.int .i64 (getF f sw port p)) w := by
  have HB := Lib.hid (grow1 w (.cells (pkA p) 29))
  obtain rfl | rfl | rfl | rfl | rfl | rfl : f = 0 ∨ f = 1 ∨ f = 2 ∨ f = 3 ∨ f = 4 ∨ f = 5 := by omega
  all_goals
    unfold Ret
    go_enter Tryz.func180, Tryz.ntmps180
    go_wp2_with fail
    go_ret
    exact ⟨rfl, HB.out⟩
/-- A condition without parts, as it stands or cut at a switch. -/
def LeafG (k f n : Int) : Prop := (k = 1 ∧ f = 0 ∧ n = 0) ∨ (k = 2 ∧ f = 0 ∧ n = 0) ∨ (k = 3 ∧ 0 ≤ f ∧ f ≤ 5)
def hitF (k f n sw port : Int) (p : Pk) : Bool := if k = 1 then true else if k = 2 then false else (getF f sw port p == n)
abbrev plcA (sw port : Int) (p : Pk) : Array Value := #[.int .i64 sw, .int .i64 port, .int .i64 p.1, .int .i64 p.2.1, .int .i64 p.2.2.1, .int .i64 p.2.2.2]
set_option maxRecDepth 100000 in
set_option maxHeartbeats 8000000 in
theorem hits175_c (k f n sw port : Int) (p : Pk) (w : World) (h : LeafG k f n) : Ret 175 #[.agg (plcA sw port p), .agg (predA k f n)] (.bool (hitF k f n sw port p)) w := by
  have HB : Hid (Below w.heap.size w ((w.alloc (.cells (plcA sw port p) 227)).alloc (.cells (predA k f n) 52))) := Lib.hid (((Below.refl _ _).alloc (Nat.le_refl _) _).alloc (by simp) _)
  have HG1 : Hid (((w.alloc (.cells (plcA sw port p) 227)).alloc (.cells (predA k f n) 52)).heap[w.heap.size]? = some (.cells (plcA sw port p) 227 (0, 0))) := by
    have := heap_alloc_new w (.cells (plcA sw port p) 227)
    exact Lib.hid ((Below.heap_alloc _ _ _ (by simp)).trans this)
  have HG2 : Hid (((w.alloc (.cells (plcA sw port p) 227)).alloc (.cells (predA k f n) 52)).heap[w.heap.size + 1]? = some (.cells (predA k f n) 52 (0, 0))) := by
    have := heap_alloc_new (w.alloc (.cells (plcA sw port p) 227)) (.cells (predA k f n) 52)
    exact Lib.hid (by simpa using this)
  unfold Ret
  rcases h with ⟨rfl, rfl, rfl⟩ | ⟨rfl, rfl, rfl⟩ | ⟨rfl, h0, h5⟩
  · go_enter Tryz.func175, Tryz.ntmps175
    go_wp2_with fail
    go_ret
    exact ⟨rfl, HB.out⟩
  · go_enter Tryz.func175, Tryz.ntmps175
    go_wp2_with fail
    go_ret
    exact ⟨rfl, HB.out⟩
  · have d1 : decide (0 ≤ f) = true := by simpa using h0
    have d2 : decide (f ≤ 5) = true := by simpa using h5
    have X := Lib.hid (fun w => get_c f sw port p w ⟨h0, h5⟩)
    have he : hitF 3 f n sw port p = (getF f sw port p == n) := rfl
    rw [he]
    clear h0 h5 he
    generalize getF f sw port p = gv at *
    go_enter Tryz.func175, Tryz.ntmps175
    go_upto_region 5 with fail
    refine abs_wp ?_
    intro wb hwb
    have hb0 : Below w.heap.size w wb := by rw [hwb]; exact HB.out
    have hg1 : wb.heap[w.heap.size]? = some (.cells (plcA sw port p) 227 (0, 0)) := by rw [hwb]; exact HG1.out
    have hg2 : wb.heap[w.heap.size + 1]? = some (.cells (predA 3 f n) 52 (0, 0)) := by rw [hwb]; exact HG2.out
    have c0 := block_cell hg1 0
    have c1 := block_cell hg1 1
    have c2 := block_cell hg1 2
    have c3 := block_cell hg1 3
    have c4 := block_cell hg1 4
    have c5 := block_cell hg1 5
    have b0 := block_cell hg2 0
    have b1 := block_cell hg2 1
    have b2 := block_cell hg2 2
    have b3 := block_cell hg2 3
    simp only [List.getElem?_toArray, List.getElem?_cons_zero, List.getElem?_cons_succ] at c0 c1 c2 c3 c4 c5 b0 b1 b2 b3
    have hl1 := block_lt hg1
    have hl2 := block_lt hg2
    have HB1 := Lib.hid hb0
    clear hwb HB HG1 HG2 hb0 hg1 hg2
    refine wp_region_kq (by kernel_rfl) (by kernel_rfl) ?_
    repeat (first | go_big_quiet_step ((go_at_call 180; exact KW.call (X.out _))) | quiet_step ((go_at_call 180; exact KW.call (X.out _))))
    refine wpQuiet_nil ?_
    intro kz
    have HZ := Lib.hid (HB1.out.trans (kz.kp.mono HB1.out.size))
    go_wp2_with fail
    go_ret
    exact ⟨rfl, HZ.out⟩
set_option maxRecDepth 100000 in
set_option maxHeartbeats 4000000 in
theorem hits162_c (k f n sw port : Int) (p : Pk) (w : World) (h : LeafG k f n) : Ret 162 #[.agg (predA k f n), .int .i64 sw, .int .i64 port, .agg (pkA p)] (.bool (hitF k f n sw port p)) w := by
  have HB : Hid (Below w.heap.size w ((w.alloc (.cells (predA k f n) 52)).alloc (.cells (pkA p) 29))) := Lib.hid (((Below.refl _ _).alloc (Nat.le_refl _) _).alloc (by simp) _)
  have X := Lib.hid (fun w => hits175_c k f n sw port p w h)
  clear h
  generalize hitF k f n sw port p = hv at *
  unfold Ret at *
  go_enter Tryz.func162, Tryz.ntmps162
  go_wp2_with fail
  refine (X.out _).mono ?_
  rintro e w1 ⟨rfl, hb⟩
  have HB1 := Lib.hid (HB.out.trans (hb.mono (by simp; omega)))
  clear hb HB
  go_wp2_with fail
  go_ret
  exact ⟨rfl, HB1.out⟩
end Go.Proofs.YtekfkieimdgfkaaGreat
/- What is proved here: a set of at most one packet, laid, ranged over and read. Condition: none. -/
namespace Go.Proofs.YtekfkieimdgfkaaGreat
open Go Go.RowKit
abbrev Sn := Int × Pk
def stA (s : Sn) : Array Value := #[.int .i64 s.1, .int .i64 s.2.1, .int .i64 s.2.2.1, .int .i64 s.2.2.2.1, .int .i64 s.2.2.2.2]
def stV (s : Sn) : Value := .agg (stA s)
theorem und201 : Tryz.prog.underlying 201 = some (.map 63 207) := by kernel_rfl
theorem zero207 (w : World) : (zeroValue 207).run Tryz.prog w = .ok (.agg #[]) w := by kernel_rfl
theorem check63 (b : Bool) (p a c d e : Int) (w : World) : (Instr.checkKey b 10000 63 (.agg #[.int .i64 p, .int .i64 a, .int .i64 c, .int .i64 d, .int .i64 e])).run Tryz.prog w = .ok () w := by kernel_rfl
theorem find63 (k : Value) (w : World) : (Instr.findKey 63 k []).run Tryz.prog w = .ok none w := by kernel_rfl
/-- Block b is a set of these packets, none or one. -/
def MpS (b : Nat) (l : List Sn) (w : World) : Prop :=
  (l = [] ∧ ∃ c, w.heap[b]? = some (.map #[] c)) ∨ ∃ s n c, l = [s] ∧ n < c ∧ w.heap[b]? = some (.map #[⟨stV s, .agg #[], n⟩] c)
theorem MpS.blk {b : Nat} {l : List Sn} {w w' : World} (h : MpS b l w) (hb : w'.heap[b]? = w.heap[b]?) : MpS b l w' := by
  rcases h with ⟨h1, c, h2⟩ | ⟨s, n, c, h1, h2, h3⟩
  · exact .inl ⟨h1, c, hb.trans h2⟩
  · exact .inr ⟨s, n, c, h1, h2, hb.trans h3⟩
theorem MpS.lt {b : Nat} {l : List Sn} {w : World} (h : MpS b l w) : b < w.heap.size := by
  rcases h with ⟨_, c, h2⟩ | ⟨s, n, c, _, _, h3⟩
  · exact block_lt h2
  · exact block_lt h3
theorem MpS.made (w : World) : MpS w.heap.size [] (w.alloc (.map #[] 0)) := .inl ⟨rfl, 0, heap_alloc_new w _⟩
theorem set_laid {w : World} {b c : Nat} {s : Sn} (hb : w.heap[b]? = some (.map #[] c)) :
    (Instr.mapUpdate 201 (.map (some b)) (stV s) (.agg #[])).run Tryz.prog w = .ok () { w with heap := w.heap.setIfInBounds b (.map #[⟨stV s, .agg #[], c⟩] (c + 1)) } := by
  obtain ⟨p, a, c2, d, e⟩ := s
  have h := check63 false p a c2 d e w
  simp [Instr.mapUpdate, run_underlying und201, MapKept.run_getObj_map hb, stV, stA, h, find63, MapKept.run_setObj_map _ hb, Result.andThen]
/-- What is behind the laying of a packet into an empty set. -/
theorem MpS.laid {b : Nat} {l : List Sn} {s : Sn} {w : World} (h : MpS b l w) (hl : (l ++ [s]).length ≤ 1) :
    ∃ w', (Instr.mapUpdate 201 (.map (some b)) (stV s) (.agg #[])).run Tryz.prog w = .ok () w' ∧ MpS b (l ++ [s]) w' ∧ Only b w w' := by
  rcases h with ⟨rfl, c, h2⟩ | ⟨s', n, c, rfl, _⟩
  · refine ⟨_, set_laid h2, .inr ⟨s, c, c + 1, rfl, by omega, set_same h2⟩, rfl, rfl, rfl, by simp, fun k hk => ?_⟩
    simp [Array.getElem?_setIfInBounds_ne (Ne.symm hk)]
  · simp at hl
/-- Block r is an iterator over the set at b; these packets are still to come. -/
def ItS (r b : Nat) (l left : List Sn) (w : World) : Prop :=
  r ≠ b ∧ ((l = [] ∧ left = [] ∧ ∃ c, w.heap[b]? = some (.map #[] c) ∧ w.heap[r]? = some (.mapIter (some b) c #[] c)) ∨
  (∃ s n c, l = [s] ∧ left = [s] ∧ n < c ∧ w.heap[b]? = some (.map #[⟨stV s, .agg #[], n⟩] c) ∧ w.heap[r]? = some (.mapIter (some b) c #[] c)) ∨
  (∃ s n c, l = [s] ∧ left = [] ∧ n < c ∧ w.heap[b]? = some (.map #[⟨stV s, .agg #[], n⟩] c) ∧ w.heap[r]? = some (.mapIter (some b) c #[n] c)))
theorem ItS.blk {r b : Nat} {l left : List Sn} {w w' : World} (h : ItS r b l left w) (hb : w'.heap[b]? = w.heap[b]?) (hr : w'.heap[r]? = w.heap[r]?) : ItS r b l left w' := by
  refine ⟨h.1, ?_⟩
  rcases h.2 with ⟨h1, h2, c, h3, h4⟩ | ⟨s, n, c, h1, h2, h3, h4, h5⟩ | ⟨s, n, c, h1, h2, h3, h4, h5⟩
  · exact .inl ⟨h1, h2, c, hb.trans h3, hr.trans h4⟩
  · exact .inr (.inl ⟨s, n, c, h1, h2, h3, hb.trans h4, hr.trans h5⟩)
  · exact .inr (.inr ⟨s, n, c, h1, h2, h3, hb.trans h4, hr.trans h5⟩)
theorem ItS.lt {r b : Nat} {l left : List Sn} {w : World} (h : ItS r b l left w) : r < w.heap.size ∧ b < w.heap.size := by
  rcases h.2 with ⟨h1, h2, c, h3, h4⟩ | ⟨s, n, c, h1, h2, h3, h4, h5⟩ | ⟨s, n, c, h1, h2, h3, h4, h5⟩
  · exact ⟨block_lt h4, block_lt h3⟩
  · exact ⟨block_lt h5, block_lt h4⟩
  · exact ⟨block_lt h5, block_lt h4⟩
theorem ItS.set {r b : Nat} {l left : List Sn} {w : World} (h : ItS r b l left w) : MpS b l w := by
  rcases h.2 with ⟨h1, h2, c, h3, h4⟩ | ⟨s, n, c, h1, h2, h3, h4, h5⟩ | ⟨s, n, c, h1, h2, h3, h4, h5⟩
  · exact .inl ⟨h1, c, h3⟩
  · exact .inr ⟨s, n, c, h1, h3, h4⟩
  · exact .inr ⟨s, n, c, h1, h3, h4⟩
theorem MpS.range {b : Nat} {l : List Sn} {w : World} (h : MpS b l w) :
    ∃ w', (Instr.range 201 (.map (some b))).run Tryz.prog w = .ok (.pointer (some ⟨w.heap.size, 0, none⟩)) w' ∧ ItS w.heap.size b l l w' ∧ Below w.heap.size w w' ∧ w'.heap.size = w.heap.size + 1 := by
  have hlt := h.lt
  rcases h with ⟨h1, c, h2⟩ | ⟨s, n, c, h1, h2, h3⟩
  · refine ⟨w.alloc (.mapIter (some b) c #[] c), ?_, ⟨by omega, .inl ⟨h1, h1, c, (Below.heap_alloc w _ _ hlt).trans h2, heap_alloc_new w _⟩⟩, grow1 w _, by simp⟩
    simp [Instr.range, run_underlying und201, MapKept.run_getObj_map h2, Result.andThen]
  · refine ⟨w.alloc (.mapIter (some b) c #[] c), ?_, ⟨by omega, .inr (.inl ⟨s, n, c, h1, h1, h2, (Below.heap_alloc w _ _ hlt).trans h3, heap_alloc_new w _⟩)⟩, grow1 w _, by simp⟩
    simp [Instr.range, run_underlying und201, MapKept.run_getObj_map h3, Result.andThen]
theorem ItS.next {r b : Nat} {l left : List Sn} {w : World} (h : ItS r b l left w) (ty : TypeId) :
    (left = [] ∧ (Instr.next (.pointer (some ⟨r, 0, none⟩)) false ty).run Tryz.prog w = .ok (.tuple #[.bool false]) w) ∨
    ∃ s w', left = [s] ∧ (Instr.next (.pointer (some ⟨r, 0, none⟩)) false ty).run Tryz.prog w = .ok (.tuple #[.bool true, stV s, .agg #[]]) w' ∧ ItS r b l [] w' ∧ Only r w w' ∧ (Instr.entry (.pointer (some ⟨r, 0, none⟩))).run Tryz.prog w' = .ok (.tuple #[stV s, .agg #[]]) w' := by
  have hne := h.1
  rcases h.2 with ⟨h1, h2, c, h3, h4⟩ | ⟨s, n, c, h1, h2, h3, h4, h5⟩ | ⟨s, n, c, h1, h2, h3, h4, h5⟩
  · left
    refine ⟨h2, ?_⟩
    rcases run_next_at w ty r b c c #[] #[] c h4 h3 (by simp) (Nat.le_refl _) with ⟨_, hr⟩ | ⟨e, he, _⟩
    · exact hr
    · simp [leftOf] at he
  · right
    rcases run_next_at w ty r b c c #[] #[⟨stV s, .agg #[], n⟩] c h5 h4 (by simpa using h3) (Nat.le_refl _) with ⟨h0, _⟩ | ⟨e, he, w1, hw1, hr⟩
    · simp [leftOf] at h0
    · have hee : e = ⟨stV s, .agg #[], n⟩ := by simpa [leftOf] using he
      subst hee
      have hw1h : w1.heap = w.heap := by rcases hw1 with rfl | rfl <;> rfl
      have hr1 : w1.heap[r]? = some (.mapIter (some b) c #[] c) := by rw [hw1h]; exact h5
      have hb2 : (ChangeMaps.setBlock w1 r (.mapIter (some b) c (#[].push n) c)).heap[b]? = some (.map #[⟨stV s, .agg #[], n⟩] c) := by
        simp only [ChangeMaps.setBlock]
        rw [Array.getElem?_setIfInBounds_ne hne, hw1h]
        exact h4
      have hr2 : (ChangeMaps.setBlock w1 r (.mapIter (some b) c (#[].push n) c)).heap[r]? = some (.mapIter (some b) c (#[].push n) c) := set_same hr1
      refine ⟨s, _, h2, hr, ⟨hne, .inr (.inr ⟨s, n, c, h1, rfl, h3, hb2, hr2⟩)⟩, ?_, ?_⟩
      · refine ⟨?_, ?_, ?_, ?_, fun k hk => ?_⟩
        · rcases hw1 with rfl | rfl <;> rfl
        · rcases hw1 with rfl | rfl <;> rfl
        · rcases hw1 with rfl | rfl <;> rfl
        · simp [ChangeMaps.setBlock, hw1h]
        · simp only [ChangeMaps.setBlock]
          rw [Array.getElem?_setIfInBounds_ne (Ne.symm hk), hw1h]
      · exact run_entry_at _ r b c #[] #[⟨stV s, .agg #[], n⟩] c ⟨stV s, .agg #[], n⟩ hr2 hb2 (by simp) (by simp)
  · left
    refine ⟨h2, ?_⟩
    rcases run_next_at w ty r b c c #[n] #[⟨stV s, .agg #[], n⟩] c h5 h4 (by simpa using h3) (Nat.le_refl _) with ⟨_, hr⟩ | ⟨e, he, _⟩
    · exact hr
    · simp [leftOf] at he
theorem ItS.step {r b : Nat} {l left : List Sn} {w : World} (h : ItS r b l left w) :
    (left = [] ∧ ∀ ty, (Instr.next (.pointer (some ⟨r, 0, none⟩)) false ty).run Tryz.prog w = .ok (.tuple #[.bool false]) w) ∨
    ∃ s w', left = [s] ∧ (∀ ty, (Instr.next (.pointer (some ⟨r, 0, none⟩)) false ty).run Tryz.prog w = .ok (.tuple #[.bool true, stV s, .agg #[]]) w') ∧ ItS r b l [] w' ∧ Only r w w' ∧ (Instr.entry (.pointer (some ⟨r, 0, none⟩))).run Tryz.prog w' = .ok (.tuple #[stV s, .agg #[]]) w' := by
  rcases h.next 0 with ⟨h1, h2⟩ | ⟨s, w', h1, h2, h3⟩
  · exact .inl ⟨h1, fun _ => h2⟩
  · exact .inr ⟨s, w', h1, fun _ => h2, h3⟩
end Go.Proofs.YtekfkieimdgfkaaGreat
/- What is proved here: a set copied into another one. Condition: both hold at most one packet. -/
namespace Go.Proofs.YtekfkieimdgfkaaGreat
open Go Go.RowKit
attribute [local go_sem] KW.cell KW.frozen
theorem MpS.len {b : Nat} {l : List Sn} {w : World} (h : MpS b l w) : l.length ≤ 1 := by
  rcases h with ⟨rfl, _⟩ | ⟨s, n, c, rfl, _⟩ <;> simp
theorem below_grown1 {w w' : World} {row : Option Nat} (h : Below w.heap.size w w') : w.grownBy w' row := ⟨h.os, h.tape, h.output, h.size, fun k hk _ => h.block k hk⟩
theorem grown_only {a b c : World} {row : Option Nat} {g : Nat} (h1 : a.grownBy b row) (h2 : Only g b c) (hg : a.heap.size ≤ g) : a.grownBy c row :=
  ⟨h2.os.trans h1.os, h2.tape.trans h1.tape, h2.output.trans h1.output, by rw [h2.size]; exact h1.size, fun k hk hr => (h2.block k (by omega)).trans (h1.block k hk hr)⟩
theorem grown_row {a b c : World} {g : Nat} (h1 : a.grownBy b (some g)) (h2 : Only g b c) : a.grownBy c (some g) :=
  ⟨h2.os.trans h1.os, h2.tape.trans h1.tape, h2.output.trans h1.output, by rw [h2.size]; exact h1.size, fun k hk hr => (h2.block k (fun e => hr (by rw [e]))).trans (h1.block k hk hr)⟩
theorem grown_below {a b c : World} {row : Option Nat} {B : Nat} (h1 : a.grownBy b row) (h2 : Below B b c) (hB : a.heap.size ≤ B) : a.grownBy c row :=
  ⟨h2.os.trans h1.os, h2.tape.trans h1.tape, h2.output.trans h1.output, Nat.le_trans h1.size h2.size, fun k hk hr => (h2.block k (by omega)).trans (h1.block k hk hr)⟩
theorem inf63 : (Tryz.prog.info? 63).map (·.size) = some 5 := by kernel_rfl
theorem und63 : ∃ fs, Tryz.prog.underlying 63 = some (.struct fs) := by
  have h : (match Tryz.prog.underlying 63 with | some (.struct _) => true | _ => false) = true := by kernel_rfl
  cases hu : Tryz.prog.underlying 63 with
  | none => rw [hu] at h; cases h
  | some d => cases d <;> (rw [hu] at h; first | exact ⟨_, rfl⟩ | cases h)
theorem inf207 : (Tryz.prog.info? 207).map (·.size) = some 0 := by kernel_rfl
theorem und207 : ∃ fs, Tryz.prog.underlying 207 = some (.struct fs) := by
  have h : (match Tryz.prog.underlying 207 with | some (.struct _) => true | _ => false) = true := by kernel_rfl
  cases hu : Tryz.prog.underlying 207 with
  | none => rw [hu] at h; cases h
  | some d => cases d <;> (rw [hu] at h; first | exact ⟨_, rfl⟩ | cases h)
abbrev zero63 : Array Value := #[.int .i64 0, .int .i64 0, .int .i64 0, .int .i64 0, .int .i64 0]
set_option maxRecDepth 100000 in
set_option maxHeartbeats 8000000 in
theorem copy_c (bd bs : Nat) (l0 l : List Sn) (w : World) (hd : MpS bd l0 w) (hs : MpS bs l w) (hne : bd ≠ bs) (hl : (l0 ++ l).length ≤ 1) :
    Calls Tryz.prog 164 #[.map (some bd), .map (some bs)] w fun e w' => e = .returned (.tuple #[]) ∧ MpS bd (l0 ++ l) w' ∧ w.grownBy w' (some bd) := by
  obtain ⟨w1, hrg, hit, hb1, hs1⟩ := hs.range
  have hlt := hd.lt
  have HD1 := Lib.hid (hd.blk (hb1.block bd hlt))
  have HI1 := Lib.hid hit
  have HG1 := Lib.hid (show w.grownBy w1 (some bd) from ⟨hb1.os, hb1.tape, hb1.output, hb1.size, fun k hk _ => hb1.block k hk⟩)
  obtain ⟨rr, hrr⟩ : ∃ r, r = w.heap.size := ⟨_, rfl⟩
  rw [← hrr] at HI1 hs1 hrg
  have hrw : rr = w.heap.size := hrr
  have HRW := Lib.hid hrw
  have hbr : bd ≠ rr := by omega
  clear hd hs hit hb1 hrr hrw
  go_enter Tryz.func164, Tryz.ntmps164
  go_wp2_with fail
  clear hrg
  go_loopg [4] l.length (fun gg _ wr => ∃ (done left : List Sn), gg = left.length ∧ Hid (l = done ++ left) ∧ Hid (ItS rr bs l left wr) ∧ Hid (MpS bd (l0 ++ done) wr) ∧ Hid (w.grownBy wr (some bd)))
  case atStart => exact ⟨[], l, rfl, Lib.hid rfl, HI1, Lib.hid (by simpa using HD1.out), HG1⟩
  case round =>
    obtain ⟨done, left, rfl, HL, HI, HD, HG⟩ := hrel
    rcases HI.out.step with ⟨hleft, hnx⟩ | ⟨s, w2, hleft, hnx, hi2, ho2, hen⟩
    · subst hleft
      have HF : Hid (MpS bd (l0 ++ l) wr) := Lib.hid (by rw [HL.out, List.append_nil]; exact HD.out)
      clear HI HD HL
      go_wp2_with fail
      go_returns
      exact ⟨rfl, HF.out, HG.out⟩
    · subst hleft
      have HI2 := Lib.hid hi2
      have HD2 := Lib.hid (HD.out.blk (ho2.block bd hbr))
      have HG2 := Lib.hid (grown_only HG.out ho2 (by rw [HRW.out]; exact Nat.le_refl _))
      clear hi2 ho2 HI HD HG
      go_wp2_with (refine stop_store 63 _ _ rfl ?_)
      refine Stop.go (abs_list ?_)
      intro w3 e3
      have hb3 : Below w2.heap.size w2 w3 := by rw [e3]; exact ((Below.refl _ _).alloc (Nat.le_refl _) _).alloc (by simp) _
      have hg3 : w3.heap[w2.heap.size]? = some (.cells zero63 63 (0, 0)) := by rw [e3]; exact (Below.heap_alloc _ _ _ (by simp)).trans (heap_alloc_new w2 _)
      have hz3 : w3.heap[w2.heap.size + 1]? = some (.cells #[] 207 (0, 0)) := by
        rw [e3]
        have := heap_alloc_new (w2.alloc (.cells zero63 63)) (.cells #[] 207)
        simpa using this
      have HB3 := Lib.hid hb3
      have HZ3 := Lib.hid hz3
      clear e3 hb3 hz3
      refine wpList_store_o rfl 63 _ _ rfl w2.heap.size (stA s) rfl rfl 63 _ hg3 inf63 rfl rfl ?_
      intro w4 hg4 ho4
      have HB4 := Lib.hid (ho4.belowT HB3.out (Nat.le_refl _))
      have HG4 := Lib.hid hg4
      have HZ4 := Lib.hid ((ho4.block _ (by omega)).trans HZ3.out)
      clear hg4 ho4 HB3 HZ3 hg3
      go_wp2_with (first | (refine stop_store 207 _ _ rfl ?_) | (refine stop_load 63 _ rfl ?_) | (refine stop_load 207 _ rfl ?_))
      refine Stop.go (wpList_store_o rfl 207 _ _ rfl (w2.heap.size + 1) #[] rfl rfl 207 #[] HZ4.out inf207 rfl rfl ?_)
      intro w5 hz5 ho5
      have HB5 := Lib.hid (ho5.belowT HB4.out (Nat.le_succ _))
      have HG5 := Lib.hid ((ho5.block _ (by omega)).trans HG4.out)
      have HZ5 := Lib.hid hz5
      clear hz5 ho5 HB4 HG4 HZ4
      go_wp2_with (first | (refine stop_store 207 _ _ rfl ?_) | (refine stop_load 63 _ rfl ?_) | (refine stop_load 207 _ rfl ?_))
      obtain ⟨f63, hu63⟩ := und63
      refine Stop.go (wpList_load_row rfl 63 _ rfl w2.heap.size rfl 63 (stA s) (0, 0) _ HG5.out hu63 rfl inf63 ?_)
      clear hu63
      obtain ⟨f207, hu207⟩ := und207
      refine wpList_load_row rfl 207 _ rfl (w2.heap.size + 1) rfl 207 #[] (0, 0) _ HZ5.out hu207 rfl inf207 ?_
      clear hu207
      have hll := HL.out
      have hl1 : ((l0 ++ done) ++ [s]).length ≤ 1 := by rw [List.append_assoc, ← hll]; exact hl
      obtain ⟨w6, hup, hm6, ho6⟩ := (HD2.out.blk (w' := w5) (HB5.out.block bd HD2.out.lt)).laid hl1
      have hfa : stV s = .agg (stA s) := rfl
      rw [hfa] at hup
      have HM6 := Lib.hid (show MpS bd (l0 ++ (done ++ [s])) w6 from by rw [← List.append_assoc]; exact hm6)
      have HI6 := Lib.hid ((HI2.out.blk (HB5.out.block bs HI2.out.lt.2) (HB5.out.block rr HI2.out.lt.1)).blk (ho6.block bs (Ne.symm hne)) (ho6.block rr (Ne.symm hbr)))
      have HG6 := Lib.hid (grown_row (grown_below HG2.out HB5.out HG2.out.size) ho6)
      have HL6 := Lib.hid (show l = (done ++ [s]) ++ [] from by rw [List.append_nil]; exact hll)
      clear hm6 ho6 HI2 HD2 HG2 HB5 HG5 HZ5 hll hl1 HL hfa
      go_wp2_with fail
      go_roundg 0
      case rel => exact ⟨_, [], rfl, HL6, HI6, HM6, HG6⟩
      case measure => simp
end Go.Proofs.YtekfkieimdgfkaaGreat
