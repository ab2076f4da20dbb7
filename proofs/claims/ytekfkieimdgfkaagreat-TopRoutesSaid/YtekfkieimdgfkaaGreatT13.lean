/- What is proved here: the law of picking, with a condition on the world of one's own. Condition: the Bool 'pickB'. -/
import Derived.Test.YtekfkieimdgfkaaGreatT00
import Derived.Test.YtekfkieimdgfkaaGreatT02
import Derived.Test.YtekfkieimdgfkaaGreatT04
import Derived.Test.YtekfkieimdgfkaaGreatT07
import Derived.Test.YtekfkieimdgfkaaGreatT08
import Derived.DeepKeys4
import Derived.WideKeyEntry
namespace Go.Proofs.YtekfkieimdgfkaaGreat
open Go Go.RowKit
section
variable {P : Program} {ops : Array Oper} {Q : Exit → Act → World → Prop} {md : Region.Mode} {S : World → Prop} {nb : List Nat}
theorem B_loadW {ts cs : List Nat} (hsel : Region.noSelect ops = true) (hn : ∀ t ∈ ts, t ∈ nb) (hQ : ∀ c a d v w, Q (.panic c) (Act.put a d v) w → Q (.panic c) a w) : ∀ (ks : List Nat) (li : Array Bool) (a : Act) (w : World), S w → loadL md ops nb cs ts ks li = true →
    wpPure P ops S (fun a' => wpKeep P ops Q S (fun a' w' => wpList P ops Q (ts.filterMap (ops[·]?)) a' w') (cs.filterMap (ops[·]?)) a' w) (ks.filterMap (ops[·]?)) a → wpAnyB P md ops Q S nb (ks.length + (cs.length + ts.length)) li a w
  | [], li, a, w, _, hB, h => by
    rw [List.length_nil, Nat.zero_add]
    exact B_keepL hn cs li a w hB h
  | k :: ks, li, a, w, hS, hB, h => by
    simp only [loadL, firstB, Bool.and_eq_true, decide_eq_true_eq] at hB
    obtain ⟨⟨⟨⟨hlt, hr⟩, hf⟩, hst⟩, hB'⟩ := hB
    have h0 : ops[k]? = some ops[k] := Array.getElem?_eq_getElem hlt
    have e1 : (k :: ks).length + (cs.length + ts.length) = (ks.length + (cs.length + ts.length)) + 1 := by simp; omega
    rw [e1]
    have e : (k :: ks).filterMap (ops[·]?) = ops[k] :: ks.filterMap (ops[·]?) := by simp [h0]
    rw [e] at h
    obtain ⟨v, hy, h⟩ := h
    exact anyB_first h0 (Region.noSelect_spec hsel) (fun c a w => hQ c a _ _ w) _ li a w (Region.free_spec h0 hf) hst (by simpa using hr) hy hS (B_loadW hsel hn hQ ks _ _ w hS hB' h)
theorem any_freeW {ts cs ks : List Nat} (hsel : Region.noSelect ops = true) (hn : ∀ t ∈ ts, t ∈ nb) (hQ : ∀ c a d v w, Q (.panic c) (Act.put a d v) w → Q (.panic c) a w) : ∀ (ws : List Nat) (li : Array Bool) (a : Act) (w : World), S w → freeL md ops nb ks cs ts ws li = true →
    wpPure P ops (fun _ => True) (fun a => wpPure P ops S (fun a' => wpKeep P ops Q S (fun a' w' => wpList P ops Q (ts.filterMap (ops[·]?)) a' w') (cs.filterMap (ops[·]?)) a' w) (ks.filterMap (ops[·]?)) a) (ws.filterMap (ops[·]?)) a → wpAny P md ops Q (ws.length + (ks.length + (cs.length + ts.length))) li a w
  | [], li, a, w, hS, hB, h => by
    rw [List.length_nil, Nat.zero_add]
    exact any_of_B _ _ _ _ (B_loadW hsel hn hQ ks li a w hS hB h)
  | k :: ws, li, a, w, hS, hB, h => by
    simp only [freeL, firstB, Bool.and_eq_true, decide_eq_true_eq] at hB
    obtain ⟨⟨⟨hlt, hr⟩, hf⟩, hB'⟩ := hB
    have h0 : ops[k]? = some ops[k] := Array.getElem?_eq_getElem hlt
    have e1 : (k :: ws).length + (ks.length + (cs.length + ts.length)) = (ws.length + (ks.length + (cs.length + ts.length))) + 1 := by simp; omega
    rw [e1]
    have e : (k :: ws).filterMap (ops[·]?) = ops[k] :: ws.filterMap (ops[·]?) := by simp [h0]
    rw [e] at h
    obtain ⟨v, hy, h⟩ := h
    have hy' : Yields P ops ops[k] v a := hy.imp (fun ⟨h1, h2⟩ => ⟨h1, fun w => h2 w trivial⟩) id
    exact wpAny_first h0 (Region.noSelect_spec hsel) (fun c a w => hQ c a _ _ w) _ li a w (Region.free_spec h0 hf) (by simpa using hr) hy' (any_freeW hsel hn hQ ws _ _ w hS hB' h)
/-- The region: ws (worldless), ks (what is read under S), cs (each keeps S), ts (the rest). -/
theorem wp_region_pickS {id : Nat} {a : Act} {w : World} {l : List Oper} (S : World → Prop) (ws ks cs ts nb : List Nat) (hm : P.follows .mixedOrders = true) (hB : pickB .any l.toArray ws ks cs ts nb = true) (hn : ts.all (nb.contains ·) = true) (hS : S w.drew)
    (h : wpPure P l.toArray (fun _ => True) (fun a => wpPure P l.toArray S (fun a' => wpKeep P l.toArray (NoPanic Q) S (fun a' w' => wpList P l.toArray (NoPanic Q) (ts.filterMap (l.toArray[·]?)) a' w') (cs.filterMap (l.toArray[·]?)) a' w.drew) (ks.filterMap (l.toArray[·]?)) a) (ws.filterMap (l.toArray[·]?)) a) :
    (Code.region id l.toArray true).wp P Q a w := by
  simp only [pickB, Bool.and_eq_true, decide_eq_true_eq] at hB
  obtain ⟨⟨hsel, hlen⟩, hf⟩ := hB
  refine wp_region_noPanic (wp_region_any hm ?_)
  have H := any_freeW (md := .any) (S := S) (nb := nb) hsel (fun t ht => by simpa using List.all_eq_true.1 hn t ht) (Q := NoPanic Q) (fun _ _ _ _ _ h => h) ws (Array.replicate l.toArray.size false) a w.drew hS hf h
  rwa [show ws.length + (ks.length + (cs.length + ts.length)) = l.toArray.size by omega] at H
end
end Go.Proofs.YtekfkieimdgfkaaGreat
/- What is proved here: a map whose keys are places, and how one is counted that is not there yet. Condition: places from 0 to 7. -/
namespace Go.Proofs.YtekfkieimdgfkaaGreat
open Go Go.RowKit Go.WideMaps
theorem und119 : ∃ fs, Tryz.prog.underlying 119 = some (.struct fs) := by
  have h : (match Tryz.prog.underlying 119 with | some (.struct _) => true | _ => false) = true := by kernel_rfl
  cases hu : Tryz.prog.underlying 119 with
  | none => rw [hu] at h; cases h
  | some d => cases d <;> (rw [hu] at h; first | exact ⟨_, rfl⟩ | cases h)
theorem und115 : Tryz.prog.underlying 115 = some (.map 119 3) := by kernel_rfl
theorem row119b : Nat.blt 119 Tryz.prog.types.size = true := by kernel_rfl
theorem row119 : (119 : TypeId) < Tryz.prog.types.size := by
  have h := row119b
  rw [Nat.blt_eq] at h
  exact h
theorem law119 : KeyLaw Tryz.prog 119 := deep_law_laid Tryz.laidOut (m := 2) (by omega) row119 (by kernel_rfl) (by obtain ⟨fs, h⟩ := und119; rw [h])
theorem keys119 : ((List.range 8).all fun a => (List.range 8).all fun b => (keyOf Tryz.prog 119 (.agg #[.int .i64 (a : Int), .int .i64 (b : Int)])).isSome) = true := by kernel_rfl
abbrev plV (a b : Int) : Value := .agg #[.int .i64 a, .int .i64 b]
theorem key119 (a b : Int) (h1 : 0 ≤ a ∧ a < 8) (h2 : 0 ≤ b ∧ b < 8) : ∃ l, keyOf Tryz.prog 119 (plV a b) = some l := by
  have h := keys119
  obtain ⟨x, rfl⟩ := Int.eq_ofNat_of_zero_le h1.1
  obtain ⟨y, rfl⟩ := Int.eq_ofNat_of_zero_le h2.1
  rw [List.all_eq_true] at h
  have h3 := h x (List.mem_range.2 (by omega))
  rw [List.all_eq_true] at h3
  exact Option.isSome_iff_exists.1 (h3 y (List.mem_range.2 (by omega)))
theorem zero3 (w : World) : (zeroValue 3).run Tryz.prog w = .ok (.int .i64 0) w := by kernel_rfl
/-- Block b is a map with the keys ks, each counted once. -/
def MpI (b : Nat) (ks : List Value) (w : World) : Prop :=
  ∃ es clock, w.heap[b]? = some (.map es clock) ∧ es.toList.map (·.key) = ks ∧ (∀ e ∈ es.toList, ∃ l, keyOf Tryz.prog 119 e.key = some l) ∧ MapKept.Stamped es clock
theorem MpI.blk {b : Nat} {ks : List Value} {w w' : World} (h : MpI b ks w) (hb : w'.heap[b]? = w.heap[b]?) : MpI b ks w' := by
  obtain ⟨es, clock, h1, h2, h3, h4⟩ := h
  exact ⟨es, clock, hb.trans h1, h2, h3, h4⟩
theorem MpI.made (w : World) : MpI w.heap.size [] (w.alloc (.map #[] 0)) := ⟨#[], 0, heap_alloc_new w _, rfl, fun e he => by simp at he, MapKept.stamped_empty 0⟩
theorem set_same {w : World} {b : Nat} {o o' : Obj} (h : w.heap[b]? = some o) : ({ w with heap := w.heap.setIfInBounds b o' } : World).heap[b]? = some o' := by
  have := (Array.getElem?_eq_some_iff.1 h).1
  simp [this]
section
variable {w : World} {b : Nat} {es : Array MapEntry} {clock : Nat} {key : Value} {kl : Lit}
theorem find_none (hkey : keyOf Tryz.prog 119 key = some kl) (hk : ∀ e ∈ es.toList, ∃ l, keyOf Tryz.prog 119 e.key = some l) (hn : ∀ e ∈ es.toList, e.key ≠ key) : (Instr.findKey 119 key es.toList).run Tryz.prog w = .ok none w := by
  rcases law119.find w hkey es.toList hk with ⟨h1, _⟩ | ⟨j, e0, _, h2, h3⟩
  · exact h1
  · exact absurd h3 (hn e0 (List.mem_of_getElem? h2))
theorem find_last (hkey : keyOf Tryz.prog 119 key = some kl) (hk : ∀ e ∈ es.toList, ∃ l, keyOf Tryz.prog 119 e.key = some l) (hn : ∀ e ∈ es.toList, e.key ≠ key) (v : Value) (n : Nat) :
    ∃ j, (Instr.findKey 119 key (es.push ⟨key, v, n⟩).toList).run Tryz.prog w = .ok (some (j, v)) w := by
  rcases law119.find w hkey (es.push ⟨key, v, n⟩).toList (fun e he => by
    simp at he
    rcases he with he | rfl
    · exact hk e (by simpa using he)
    · exact ⟨kl, hkey⟩) with ⟨_, h1⟩ | ⟨j, e0, h1, h2, h3⟩
  · exact absurd rfl (h1 ⟨key, v, n⟩ (by simp))
  · have hm := List.mem_of_getElem? h2
    simp at hm
    rcases hm with hm | rfl
    · exact absurd h3 (hn e0 (by simpa using hm))
    · exact ⟨j, h1⟩
theorem look_no (hb : w.heap[b]? = some (.map es clock)) (hkey : keyOf Tryz.prog 119 key = some kl) (hk : ∀ e ∈ es.toList, ∃ l, keyOf Tryz.prog 119 e.key = some l) (hn : ∀ e ∈ es.toList, e.key ≠ key) :
    (Instr.lookup 115 (.map (some b)) key false).run Tryz.prog w = .ok (.int .i64 0) w := by
  simp [Instr.lookup, run_underlying und115, MapKept.run_getObj_map hb, law119.check w _ hkey, find_none hkey hk hn, Result.andThen]
theorem look_last (v : Value) (n m : Nat) (hb : w.heap[b]? = some (.map (es.push ⟨key, v, n⟩) m)) (hkey : keyOf Tryz.prog 119 key = some kl) (hk : ∀ e ∈ es.toList, ∃ l, keyOf Tryz.prog 119 e.key = some l) (hn : ∀ e ∈ es.toList, e.key ≠ key) :
    (Instr.lookup 115 (.map (some b)) key false).run Tryz.prog w = .ok v w := by
  obtain ⟨j, h⟩ := find_last (w := w) hkey hk hn v n
  rw [Array.toList_push] at h
  simp [Instr.lookup, run_underlying und115, MapKept.run_getObj_map hb, law119.check w _ hkey, h, Result.andThen]
theorem entry_no (hb : w.heap[b]? = some (.map es clock)) (hkey : keyOf Tryz.prog 119 key = some kl) (hk : ∀ e ∈ es.toList, ∃ l, keyOf Tryz.prog 119 e.key = some l) (hn : ∀ e ∈ es.toList, e.key ≠ key) :
    (Instr.mapEntry 115 (.map (some b)) key).run Tryz.prog w = .ok (.tuple #[.int .i64 0, .int .i64 clock]) { w with heap := w.heap.setIfInBounds b (.map (es.push ⟨key, .int .i64 0, clock⟩) (clock + 1)) } := by
  simp [Instr.mapEntry, run_underlying und115, MapKept.run_getObj_map hb, law119.check w _ hkey, find_none hkey hk hn, MapKept.run_setObj_map _ hb, Result.andThen, goInt]
theorem store_last (v v' : Value) (hb : w.heap[b]? = some (.map (es.push ⟨key, v, clock⟩) (clock + 1))) (hs : MapKept.Stamped es clock) :
    (Instr.entryStore 115 (.map (some b)) (.int .i64 clock) v').run Tryz.prog w = .ok () { w with heap := w.heap.setIfInBounds b (.map (es.push ⟨key, v', clock⟩) (clock + 1)) } := by
  have hidx : (es.push ⟨key, v, clock⟩).findIdx? (fun e => ((e.born : Nat) : Int) == ((clock : Nat) : Int)) = some es.size := by
    rw [Array.findIdx?_push]
    have h0 : es.findIdx? (fun e => ((e.born : Nat) : Int) == ((clock : Nat) : Int)) = none := by
      rw [Array.findIdx?_eq_none_iff]
      intro x hx
      have := hs.1 x (by simpa using hx)
      simp
      omega
    rw [h0]
    simp
  have hmod : (es.push ⟨key, v, clock⟩).modify es.size (fun e => { e with val := v' }) = es.push ⟨key, v', clock⟩ := by
    apply Array.ext'
    rw [Array.toList_modify, Array.toList_push, Array.toList_push, ← Array.length_toList, WideElems.modify_last]
  simp [Instr.entryStore, MapKept.run_getObj_map hb, asInt, asIntOf, hidx, hmod, MapKept.run_setObj_map _ hb, Result.andThen]
theorem MpI.push {ks : List Value} (hb : w.heap[b]? = some (.map (es.push ⟨key, .int .i64 1, clock⟩) (clock + 1))) (hkey : keyOf Tryz.prog 119 key = some kl) (hks : es.toList.map (·.key) = ks) (hk : ∀ e ∈ es.toList, ∃ l, keyOf Tryz.prog 119 e.key = some l) (hs : MapKept.Stamped es clock) (hn : ∀ e ∈ es.toList, e.key ≠ key) :
    MpI b (ks ++ [key]) w :=
  ⟨_, _, hb, by simp [hks], fun e he => by
    simp at he
    rcases he with he | rfl
    · exact hk e (by simpa using he)
    · exact ⟨kl, hkey⟩, MapKept.stamped_push hs hn⟩
end
end Go.Proofs.YtekfkieimdgfkaaGreat
/- What is proved here: a topology that may be by the document may be by the program. Condition: it can be read. -/
namespace Go.Proofs.YtekfkieimdgfkaaGreat
open Go Go.RowKit
attribute [local go_sem] KW.cell KW.frozen
/-! Plainly: each place once -/
theorem one_eq (b : Bool) : one b = if b then 1 else 0 := by cases b <;> rfl
theorem count_pls (sw p : Int) (ls : List Lk) : (plsL ls).count (sw, p) = cntL sw p ls := by
  induction ls with
  | nil => rfl
  | cons l ls ih =>
    have e : plsL (l :: ls) = plL l ++ plsL ls := rfl
    have e2 : cntL sw p (l :: ls) = (one (plA sw p l) + one (plB sw p l)) + cntL sw p ls := by simp [cntL]
    rw [e, List.count_append, ih, e2]
    congr 1
    unfold plL plA plB
    rw [List.count_cons, List.count_cons, List.count_nil, one_eq, one_eq]
    have h1 : ((l.1, l.2.1) == (sw, p)) = ((l.1 == sw) && (l.2.1 == p)) := rfl
    have h2 : ((l.2.2.1, l.2.2.2.1) == (sw, p)) = ((l.2.2.1 == sw) && (l.2.2.2.1 == p)) := rfl
    rw [h1, h2]
    omega
theorem count_hs (sw p : Int) (hs : List Ho) : hs.count (sw, p) = cntH sw p hs := by
  induction hs with
  | nil => rfl
  | cons h hs ih =>
    have e2 : cntH sw p (h :: hs) = one (plH sw p h) + cntH sw p hs := by simp [cntH]
    rw [List.count_cons, ih, e2, one_eq]
    have h1 : (h == (sw, p)) = plH sw p h := rfl
    rw [h1]
    omega
theorem topo_places {n : Int} {ls : List Lk} {hs : List Ho} (h : TopoF n ls hs) (k : Nat) (hk : k < (plsL ls ++ hs).length) :
    ((0 ≤ ((plsL ls ++ hs)[k]).1 ∧ ((plsL ls ++ hs)[k]).1 < n) ∧ 0 ≤ ((plsL ls ++ hs)[k]).2 ∧ ((plsL ls ++ hs)[k]).2 ≤ 7) ∧ (plsL ls ++ hs)[k] ∉ (plsL ls ++ hs).take k := by
  obtain ⟨L, hL⟩ : ∃ L, L = plsL ls ++ hs := ⟨_, rfl⟩
  have hP : ∀ x ∈ L, PortF n ls hs x.1 x.2 := by
    intro x hx
    rw [hL] at hx
    rcases List.mem_append.1 hx with hx | hx
    · obtain ⟨l, hl, hx⟩ := List.mem_flatMap.1 hx
      obtain ⟨_, _, _, _, h5, h6⟩ := h.2.2.2.2.1 l hl
      simp [plL] at hx
      rcases hx with rfl | rfl
      · exact h5
      · exact h6
    · exact h.2.2.2.2.2 x hx
  have hc : ∀ x ∈ L, L.count x = 1 := by
    intro x hx
    have h1 := (hP x hx).2.2.2.2
    rw [hL, List.count_append]
    have e1 := count_pls x.1 x.2 ls
    have e2 := count_hs x.1 x.2 hs
    have ex : (x.1, x.2) = x := rfl
    rw [ex] at e1 e2
    omega
  have key : ∀ (k : Nat) (hk : k < L.length), ((0 ≤ (L[k]).1 ∧ (L[k]).1 < n) ∧ 0 ≤ (L[k]).2 ∧ (L[k]).2 ≤ 7) ∧ L[k] ∉ L.take k := by
    intro k hk
    have hm := List.getElem_mem hk
    obtain ⟨a1, a2, a3, a4, _⟩ := hP _ hm
    refine ⟨⟨⟨a1, a2⟩, a3, a4⟩, fun hin => ?_⟩
    have h1 := hc _ hm
    have e : L = L.take k ++ L[k] :: L.drop (k + 1) := by rw [← List.drop_eq_getElem_cons hk, List.take_append_drop]
    have h2 : 0 < (L.take k).count L[k] := List.count_pos_iff.2 hin
    have h3 : L.count L[k] = (L.take k ++ L[k] :: L.drop (k + 1)).count L[k] := by rw [← e]
    rw [List.count_append, List.count_cons_self] at h3
    omega
  subst hL
  exact key k hk
theorem Rz.map {z : Nat} {α : Type} {enc : α → List Value} {v : Value} {xs : List α} {w w' : World} {b : Nat} {es : Array MapEntry} {c : Nat} (h : Rz z enc v xs w) (he : ∀ x, 0 < (enc x).length) (hm : w.heap[b]? = some (.map es c)) (hg : w.grownBy w' (some b)) : Rz z enc v xs w' := by
  rcases h with h | ⟨a, cap, hv, hb, h1, h2, hx⟩
  · exact .inl h
  · have hne : 0 < xs.length → a.block ≠ b := fun h0 e => by
      have h3 := hx 0 h0 0 ((enc xs[0])[0]'(he _)) (List.getElem?_eq_getElem (he _))
      have e2 : (a.add (0 * z + 0)).block = b := by rw [adb]; exact e
      unfold World.cell? at h3
      rw [e2, hm] at h3
      simp at h3
    refine .inr ⟨a, cap, hv, fun h0 => Nat.lt_of_lt_of_le (hb h0) hg.size, h1, h2, fun i hi j u hj => ?_⟩
    have h0 : 0 < xs.length := by omega
    have e : w'.heap[(a.add (i * z + j)).block]? = w.heap[(a.add (i * z + j)).block]? := hg.block _ (by rw [adb]; exact hb h0) (by rw [adb]; simpa using hne h0)
    rw [World.cell?_of_block e]
    exact hx i hi j u hj
def plvs (l : List Ho) : List Value := l.map fun x => plV x.1 x.2
theorem mem_plvs {l : List Ho} {a b : Int} (h : plV a b ∈ plvs l) : (a, b) ∈ l := by
  obtain ⟨x, hx, he⟩ := List.mem_map.1 h
  have : x = (a, b) := by
    have h1 : (#[Value.int .i64 x.1, .int .i64 x.2] : Array Value) = #[.int .i64 a, .int .i64 b] := Value.agg.inj he
    simp at h1
    exact Prod.ext h1.1 h1.2
  rw [← this]
  exact hx
end Go.Proofs.YtekfkieimdgfkaaGreat
