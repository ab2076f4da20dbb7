/- What is proved here: what Compile tells of routes' text, and of two fixed texts. Condition: at most four switches, one or two hosts, ports that are named. -/
import Derived.Test.YtekfkieimdgfkaaGreatT29
import Derived.Test.YtekfkieimdgfkaaGreatT30
import Derived.Test.YtekfkieimdgfkaaGreatT32
import Derived.Test.YtekfkieimdgfkaaGreatT45
namespace Go.Proofs.YtekfkieimdgfkaaGreat
open Go Go.RowKit
/-- What is known of a policy at a switch: it sends what comes to host a out of its port. -/
structure SwOk (sw : Int) (d : Nat) (x : Pol) (hz : List Hp) : Prop where
  okr : OkR d (atF sw d x)
  few : ∀ fl, (valsF fl d (atF sw d x)).length ≤ 1000
  cells : cellsN (fun fl => (sv (valsF fl d (atF sw d x))).length) 5 ≤ 4096
  one : ∀ k, OneOk sw d (atF sw d x) k
  sem : ∀ k, semL sw d (atF sw d x) k = outA hz k
  hp : HpOk hz
  v0 : sv (valsF 0 d (atF sw d x)) = []
  v1 : sv (valsF 1 d (atF sw d x)) = hz.map Prod.fst
  v2 : sv (valsF 2 d (atF sw d x)) = []
  v3 : sv (valsF 3 d (atF sw d x)) = []
theorem tab_c (sw room : Int) (d : Nat) (x : Pol) (hz : List Hp) (n : Int) (ls : List Lk) (hs : List Ho) (hm : MayBe n ls hs d x) (hk : SwOk sw d x hz) (hroom : (hz.length : Int) + 1 ≤ room) (u : Value) (w : World) (hr : RdP AnyP d u x.l w) :
    Calls Tryz.prog 18 #[polV x u, .int .i64 sw, .int .i64 room] w fun e w' => ∃ v, e = .returned (.tuple #[v, .int .i64 0]) ∧ RdU w.heap.size v (rulesF (caseL hz (-1))) w' ∧ Below w.heap.size w w' := by
  have hlen := hk.hp.len
  refine table_c sw room x u (caseL hz (-1)) w (by obtain ⟨ao, c, e, _, _⟩ := hr.form; exact ⟨_, _, _, e⟩) (fun w' hb => ?_) (caseL_ok hk.hp) (by rw [caseL_len]; push_cast; omega) (by rw [caseL_len]; omega)
  have h4 : (sv (valsF 4 d (atF sw d x))).length ≤ 1000 := Nat.le_trans (sv_len _) (hk.few 4)
  have hc : casesF (fun f => sv (valsF f d (atF sw d x))) sw d (atF sw d x) [4, 0, 1, 2, 3] unknowns = caseL hz (-1) := cases_all hk.sem hk.hp hk.v0 hk.v1 hk.v2 hk.v3
  have hf : FineC (fun f => sv (valsF f d (atF sw d x))) sw d (atF sw d x) [4, 0, 1, 2, 3] unknowns := fine_all hk.one hk.sem hk.hp hk.v0 hk.v1 hk.v2 hk.v3 h4
  have := cases36_c sw d x u w' hm.depth (hr.kept hb) hm.ok hm.dep hm.size hm.wide (atF sw d x) rfl hk.okr hk.few hk.cells (fun f => sv (valsF f d (atF sw d x))) rfl hf
  rw [hc] at this
  exact this
/-- The tables that come of it. -/
def tabsF (hzs : Nat → List Hp) (m : Nat) : List (List Ru) := (List.range m).map fun sw => rulesF (caseL (hzs sw) (-1))
theorem compile_c (s : ByteArray) (m : Nat) (lo ho : Option Addr) (lc hc : Nat) (ls : List Lk) (hs : List Ho) (room : Int) (d : Nat) (x : Pol) (hzs : Nat → List Hp) (w : World) (hm : m ≤ 100)
    (h1 : Rz 6 lkE (.slice lo ls.length lc) ls w) (h2 : Rz 2 hoE (.slice ho hs.length hc) hs w) (ht : TopoF m ls hs) (hmb : MayBe m ls hs d x) (hk : ∀ sw : Nat, sw < m → SwOk sw d x (hzs sw)) (hroom : ∀ sw : Nat, sw < m → ((hzs sw).length : Int) + 1 ≤ room)
    (Y16 : ∀ w', Calls Tryz.prog 16 #[.string s] w' fun e w'' => ∃ u, e = .returned (.tuple #[polV x u, .int .i64 0, .int .i64 0]) ∧ RdP (fun g => w'.heap.size ≤ g) d u x.l w'' ∧ Below w'.heap.size w' w'') :
    Calls Tryz.prog 8 #[.string s, .agg (topoA m lo ho ls.length lc hs.length hc), .int .i64 room] w fun e w' => ∃ v, e = .returned (.tuple #[v, .int .i64 0, .int .i64 0]) ∧ RdT w.heap.size v (tabsF hzs m) w' ∧ Below w.heap.size w w' :=
  compile_ok s m (.slice lo ls.length lc) (.slice ho hs.length hc) room d x (fun sw => rulesF (caseL (hzs sw) (-1))) w ⟨_, _, _, rfl⟩ ⟨_, _, _, rfl⟩ hm (fun w' _ => Y16 w')
    (fun u w' hb hr => check_c m lo ho lc hc ls hs d x u w' (h1.kept hb) (h2.kept hb) ht hmb hr)
    (fun sw u w' hsw hr => tab_c sw room d x (hzs sw) m ls hs hmb (hk sw hsw) (hroom sw hsw) u w' hr)
theorem hosts_fst : ∀ (r : List Int) (k h : Nat), r.length = h → h = 1 ∨ h = 2 → k = 0 → (hostsA k r).map Prod.fst = firstN h := by
  intro r k h hr hh hk
  subst hk
  match r, hr with
  | [], hr => simp at hr; omega
  | [p], hr => simp at hr; subst hr; rfl
  | [p, q], hr => simp at hr; subst hr; rfl
  | _ :: _ :: _ :: _, hr => simp at hr; omega
section
variable {h : Nat} {rows : List (List Int)}
theorem inn1_flat (h1 : 1 ≤ h) (h2 : h ≤ 2) : ∀ rows : List (List Int), (∀ r ∈ rows, RowOk h r) → rows.flatMap (innV 1) = (List.replicate rows.length (firstN h)).flatten := by
  intro rows
  induction rows with
  | nil => intro _; rfl
  | cons r rs ih =>
    intro hr
    rw [List.flatMap_cons, innV1 (hr r (by simp)) h1 h2, ih fun x hx => hr x (by simp [hx]), List.length_cons, List.replicate_succ, List.flatten_cons]
theorem sv_nil2 : sv [] = [] := List.eq_nil_of_length_eq_zero (Nat.le_zero.1 (sv_len []))
theorem told_sw (h1 : 1 ≤ h) (h2 : h ≤ 2) (hr : ∀ r ∈ rows, RowOk h r) (hn1 : 1 ≤ rows.length) (hn : rows.length ≤ 4) (sw : Nat) (hsw : sw < rows.length) : SwOk sw 4 (toldP rows) (hostsA 0 (rows.getD sw [])) := by
  have hat := at_told (sw : Int) h h1 h2 rows hr
  have hrow : RowOk h (rows.getD sw []) := by
    rw [List.getD_eq_getElem?_getD, List.getElem?_eq_getElem hsw]
    exact hr _ (List.getElem_mem hsw)
  have hv := fun fl => vals_toldC fl (sw : Int) h h1 h2 rows hr
  have hlen := fun fl => innV_flat_len fl h1 h2 rows hr
  have hz : ∀ fl : Int, fl ≠ 1 → fl ≠ 4 → sv (valsF fl 4 (toldC (sw : Int) rows)) = [] := fun fl a b => by
    rw [hv, innV_none fl a b h1 h2 rows hr]
    exact sv_nil2
  refine ⟨?_, fun fl => ?_, ?_, fun k => ?_, fun k => ?_, hosts_ok hrow h1 h2, ?_, ?_, ?_, ?_⟩
  · rw [hat]
    exact okr_told (sw : Int) h1 h2 hr
  · rw [hat, hv]
    have := hlen fl
    omega
  · rw [hat]
    refine cells_small _ ?_ ?_ ?_ ?_ ?_
    · rw [hz 0 (by decide) (by decide)]; rfl
    · have := sv_len (valsF 1 4 (toldC (sw : Int) rows))
      rw [hv] at this
      rw [hv]
      have := hlen 1
      omega
    · rw [hz 2 (by decide) (by decide)]; rfl
    · rw [hz 3 (by decide) (by decide)]; rfl
    · have := sv_len (valsF 4 4 (toldC (sw : Int) rows))
      rw [hv] at this
      rw [hv]
      have := hlen 4
      omega
  · rw [hat]
    exact one_told (sw : Int) h k h1 h2 rows hr
  · rw [hat, sem_told (sw : Int) h k h1 h2 rows hr (by omega) (by omega)]
    rw [Int.toNat_natCast]
    exact outF_A hrow h1 h2 k
  · rw [hat]
    exact hz 0 (by decide) (by decide)
  · rw [hat, hv, inn1_flat h1 h2 rows hr, sv_firstN h (by omega) rows.length (by omega)]
    exact (hosts_fst _ 0 h hrow.1 (by omega) rfl).symm
  · rw [hat]
    exact hz 2 (by decide) (by decide)
  · rw [hat]
    exact hz 3 (by decide) (by decide)
end
/-! The fixed text. -/
theorem row_vals (fl : Int) : valsF fl 4 (rowP 1 2) = rowV fl 1 2 := vals_row fl 3 1 2
theorem row_few (fl : Int) : (valsF fl 4 (rowP 1 2)).length ≤ 2 := by
  rw [row_vals]
  unfold rowV
  by_cases h : fl = 1
  · subst h; simp
  · simp [h]; split <;> simp
theorem row_none (fl : Int) (h1 : fl ≠ 1) (h4 : fl ≠ 4) : sv (valsF fl 4 (rowP 1 2)) = [] := by
  rw [row_vals]
  unfold rowV
  rw [if_neg h1, if_neg h4]
  exact sv_nil2
theorem row_cells : cellsN (fun fl => (sv (valsF fl 4 (rowP 1 2))).length) 5 ≤ 4096 := by
  refine cells_small _ ?_ ?_ ?_ ?_ ?_
  · rw [row_none 0 (by decide) (by decide)]; rfl
  · exact Nat.le_trans (sv_len _) (Nat.le_trans (row_few 1) (by omega))
  · rw [row_none 2 (by decide) (by decide)]; rfl
  · rw [row_none 3 (by decide) (by decide)]; rfl
  · exact Nat.le_trans (sv_len _) (Nat.le_trans (row_few 4) (by omega))
theorem fixed_maybe : MayBe 1 [] [(0, 2)] 4 (rowP 1 2) := by
  refine ⟨by omega, okp_row 3 1 2 (by omega) (by omega) (by omega) (by omega), dep_row 3 1 2, by rw [show sizeF 4 (rowP 1 2) = 4 from size_row 3 1 2]; omega, by rw [show wideF 4 (rowP 1 2) = 1 from wide_row 3 1 2]; omega, fun fl => Nat.le_trans (row_few fl) (by omega), fun p hp => ?_, fun s hs => ?_, row_cells⟩
  · rw [row_vals] at hp
    simp [rowV] at hp
    subst hp
    decide
  · rw [row_vals] at hs
    simp [rowV] at hs
theorem fixed_topo : TopoF 1 [] [(0, 2)] := by
  refine ⟨by omega, by omega, by simp, by simp, fun l hl => by simp at hl, fun h hh => ?_⟩
  simp at hh
  subst hh
  exact ⟨by omega, by omega, by omega, by omega, by decide⟩
theorem sv_one2 (a : Int) : sv [a] = [a] := by
  unfold sv sortI
  simp
  rfl
theorem fixed_sw : SwOk 0 4 (rowP 1 2) [(1, 2)] := by
  have hat : atF 0 4 (rowP 1 2) = rowP 1 2 := at_row 0 3 1 2
  refine ⟨?_, fun fl => ?_, ?_, fun k => ?_, fun k => ?_, ⟨by simp, fun a ha => ?_, fun a ha => ?_⟩, ?_, ?_, ?_, ?_⟩
  · rw [hat]; exact okr_row 3 1 2
  · rw [hat]; exact Nat.le_trans (row_few fl) (by omega)
  · rw [hat]; exact row_cells
  · rw [hat]; exact one_row 0 3 1 2 k
  · rw [hat, show semL 0 4 (rowP 1 2) k = _ from sem_row 0 3 1 2 k]
    unfold outA
    rw [List.find?_cons]
    by_cases h : k.2.2.1 = 1
    · simp [h]
    · have e : ((1 : Int) == k.2.2.1) = false := by simpa using fun e => h e.symm
      simp [h, e]
  · simp at ha; subst ha; simp
  · simp at ha; subst ha; simp
  · rw [hat]; exact row_none 0 (by decide) (by decide)
  · rw [hat, row_vals]; exact sv_one2 1
  · rw [hat]; exact row_none 2 (by decide) (by decide)
  · rw [hat]; exact row_none 3 (by decide) (by decide)
end Go.Proofs.YtekfkieimdgfkaaGreat
/- What is proved here: compiles is true. Condition: none. -/
namespace Go.Proofs.YtekfkieimdgfkaaGreat
open Go Go.RowKit
attribute [local go_sem] KW.cell KW.frozen
theorem own_cell1 {B e n : Nat} {v : Value} {us : List Value} {w : World} (h : w.ownsRow B e 1 v n us) (hl : us.length = n) (k : Nat) (hk : k < us.length) : ∃ g cap, v = .slice (some ⟨g, 0, none⟩) n cap ∧ B ≤ g ∧ g < w.heap.size ∧ w.cell? ⟨g, k, none⟩ = some us[k] := by
  rcases h.2 with ⟨_, h0⟩ | ⟨g, cap, cur, rfl, hB, hg, _, _, _, _⟩
  · omega
  · refine ⟨g, cap, rfl, hB, block_lt hg, ?_⟩
    have := h.cells rfl k us[k] (List.getElem?_eq_getElem hk)
    rwa [adh] at this
theorem RdT.at_ {B : Nat} {v : Value} {l : List (List Ru)} {w : World} (h : RdT B v l w) (k : Nat) (hk : k < l.length) :
    ∃ g cap uo uc, v = .slice (some ⟨g, 0, none⟩) l.length cap ∧ g < w.heap.size ∧ w.cell? ⟨g, k, none⟩ = some (.slice uo l[k].length uc) ∧ RdU B (.slice uo l[k].length uc) l[k] w := by
  obtain ⟨us, h1, h2, h3⟩ := h
  obtain ⟨g, cap, e, _, hg, hc⟩ := own_cell1 h2 h1 k (by omega)
  have hu := h3 k (by omega) hk
  obtain ⟨uo, uc, eu, _, _⟩ := hu.form
  rw [eu] at hc hu
  exact ⟨g, cap, uo, uc, e, hg, hc, hu⟩
abbrev sGood : ByteArray := ⟨#[119, 104, 101, 110, 32, 100, 115, 116, 32, 61, 32, 49, 59, 32, 112, 111, 114, 116, 32, 58, 61, 32, 50]⟩
abbrev sBad : ByteArray := ⟨#[119, 104, 101, 110, 32, 100, 115, 116, 59, 32, 112, 111, 114, 116, 32, 58, 61, 32, 50]⟩
/-- The fixed text, compiled. -/
theorem fixed_compile (g gc : Nat) (w : World) (h2 : Rz 2 hoE (.slice (some ⟨g, 0, none⟩) 1 gc) [((0 : Int), (2 : Int))] w) :
    Calls Tryz.prog 8 #[.string sGood, .agg #[.int .i64 1, .slice none 0 0, .slice (some ⟨g, 0, none⟩) 1 gc], .int .i64 9] w fun e w' => ∃ v, e = .returned (.tuple #[v, .int .i64 0, .int .i64 0]) ∧ RdT w.heap.size v (tabsF (fun _ => [(1, 2)]) 1) w' ∧ Below w.heap.size w w' :=
  compile_c sGood 1 none (some ⟨g, 0, none⟩) 0 gc [] [((0 : Int), (2 : Int))] 9 4 (rowP 1 2) (fun _ => [(1, 2)]) w (by omega) (.inl ⟨rfl, rfl⟩) h2 fixed_topo fixed_maybe
    (fun sw hsw => by obtain rfl : sw = 0 := by omega
                      exact fixed_sw) (fun sw _ => by simp) (fun w' => fixed_parse sGood rfl w')
theorem fixed_len : (tabsF (fun _ => [((1 : Int), (2 : Int))]) 1)[0].length = 2 := by
  show (rulesF (caseL [((1 : Int), (2 : Int))] (-1))).length = 2
  rw [rules_len, caseL_len]
  rfl
theorem fixed_compile2 (g gc : Nat) (w : World) (h2 : Rz 2 hoE (.slice (some ⟨g, 0, none⟩) 1 gc) [((0 : Int), (2 : Int))] w) :
    Calls Tryz.prog 8 #[.string sGood, .agg #[.int .i64 1, .slice none 0 0, .slice (some ⟨g, 0, none⟩) 1 gc], .int .i64 9] w fun e w' => ∃ g3 c3 uo uc, e = .returned (.tuple #[.slice (some ⟨g3, 0, none⟩) 1 c3, .int .i64 0, .int .i64 0]) ∧ g3 < w'.heap.size ∧ w'.cell? ⟨g3, 0, none⟩ = some (.slice uo 2 uc) ∧ Below w.heap.size w w' := by
  refine (fixed_compile g gc w h2).mono ?_
  rintro e w' ⟨v, rfl, hr, hb⟩
  obtain ⟨g3, c3, uo, uc, rfl, hg, hc, _⟩ := hr.at_ 0 (by decide)
  rw [fixed_len] at hc
  exact ⟨g3, c3, uo, uc, rfl, hg, hc, hb⟩
theorem bad_compile (hv : Value) (w : World) (h2 : ∃ a b c, hv = .slice a b c) : Ret 8 #[.string sBad, .agg #[.int .i64 1, .slice none 0 0, hv], .int .i64 9] (.tuple #[.slice none 0 0, .int .i64 8, .int .i64 10]) w :=
  compile_no sBad 1 (.slice none 0 0) hv 9 8 w ⟨_, _, _, rfl⟩ h2 fun w' _ => bad_parse sBad rfl w'
set_option maxRecDepth 100000 in
set_option maxHeartbeats 8000000 in
theorem compiles_c (w : World) : Ret 7 #[] (.bool true) w := by
  have X2 := Lib.hid (fun hv w h => bad_compile hv w h)
  have X1 := Lib.hid (fun g gc w h => fixed_compile2 g gc w h)
  unfold Ret at X2 ⊢
  go_enter Tryz.func7, Tryz.ntmps7
  go_wp2_with (refine stop_store 25 _ _ rfl ?_)
  refine Stop.go (abs_list ?_)
  intro w1 e1
  have HB1 : Hid (Below w.heap.size w w1) := by rw [e1]; exact Lib.hid (((Below.refl _ _).alloc (Nat.le_refl _) _).alloc (by simp) _)
  have HH1 : Hid (w1.heap[w.heap.size]? = some (.cells #[.int .i64 0, .int .i64 2] 49 (0, 0))) := by
    rw [e1]
    exact Lib.hid ((Below.heap_alloc _ _ _ (by simp)).trans (heap_alloc_new w _))
  have HT1 : Hid (w1.heap[w.heap.size + 1]? = some (.cells #[.int .i64 0, .slice none 0 0, .slice none 0 0] 25 (0, 0))) := by
    rw [e1]
    have := heap_alloc_new (w.alloc (.cells #[.int .i64 0, .int .i64 2] 49)) (.cells #[.int .i64 0, .slice none 0 0, .slice none 0 0] 25)
    exact Lib.hid (by simpa using this)
  clear e1
  refine wpList_store_o rfl 25 _ _ rfl (w.heap.size + 1) #[.int .i64 1, .slice none 0 0, .slice (some ⟨w.heap.size, 0, none⟩) 1 1] rfl rfl 25 _ HT1.out inf25 rfl rfl ?_
  intro w2 hg2 ho2
  have HB2 := Lib.hid (ho2.belowT HB1.out (by omega))
  have HT2 := Lib.hid hg2
  have hH2 := (ho2.block w.heap.size (by omega)).trans HH1.out
  have HR2 := Lib.hid (show Rz 2 hoE (.slice (some ⟨w.heap.size, 0, none⟩) 1 1) [((0 : Int), (2 : Int))] w2 from Rz.of_own (B := 0) (e := 49) (fun _ => rfl) ⟨rfl, .inr ⟨w.heap.size, 1, _, rfl, Nat.zero_le _, hH2, Nat.le_refl _, by decide, rfl, rfl⟩⟩)
  clear hg2 ho2 HB1 HH1 HT1 hH2
  go_wp2_with (refine stop_load 25 _ rfl ?_)
  obtain ⟨f25, hu25⟩ := und25
  have HU := Lib.hid hu25
  clear hu25
  refine Stop.go (wpList_load_row rfl 25 _ rfl (w.heap.size + 1) rfl 25 _ (0, 0) _ HT2.out HU.out rfl inf25 ?_)
  go_wp2_with (first | (go_at_call 8; refine (X1.out _ _ w2 HR2.out).mono ?_; rintro e w3 ⟨g3, c3, uo3, uc3, rfl, hg3, hcell3, hb3⟩; have HB3 := Lib.hid (HB2.out.trans (hb3.mono HB2.out.size)); have HT3 := Lib.hid ((hb3.block _ (block_lt HT2.out)).trans HT2.out); have HC3 := Lib.hid hcell3; clear hcell3 hb3 HB2 HT2) | (refine stop_load 25 _ rfl ?_))
  refine Stop.go (wpList_load_row rfl 25 _ rfl (w.heap.size + 1) rfl 25 _ (0, 0) _ HT3.out HU.out rfl inf25 ?_)
  go_wp2_with fail
  refine (X2.out _ w3 ⟨_, _, _, rfl⟩).mono ?_
  rintro e w4 ⟨rfl, hb4⟩
  have HB4 := Lib.hid (HB3.out.trans (hb4.mono HB3.out.size))
  have c4 := (hb4.cell (p := ⟨g3, 0, none⟩) hg3).trans HC3.out
  have hg4 : g3 < w4.heap.size := Nat.lt_of_lt_of_le hg3 hb4.size
  clear hb4 HB3 HT3 HC3
  go_wp2_with fail
  go_ret
  exact ⟨rfl, HB4.out⟩
end Go.Proofs.YtekfkieimdgfkaaGreat
/- What is proved here: what good routes are to the law. Condition: at most four switches, one or two hosts. -/
namespace Go.Proofs.YtekfkieimdgfkaaGreat
open Go Go.RowKit
attribute [local go_sem] KW.cell KW.frozen
/-- What the law knows of such routes. -/
structure LawF (n : Int) (ls : List Lk) (hs : List Ho) (rows : List (List Int)) : Prop where
  topo : TopoF n ls hs
  len : (rows.length : Int) = n
  some_ : 1 ≤ rows.length
  few : rows.length ≤ 4
  h1 : 1 ≤ hs.length
  h2 : hs.length ≤ 2
  row : ∀ r ∈ rows, RowOk hs.length r
  named : ∀ r ∈ rows, ∀ p ∈ r, namedB ls hs p = true
theorem GoodF.law {n : Int} {ls : List Lk} {hs : List Ho} {rows : List (List Int)} (h : GoodF n ls hs rows) (hn : n ≤ 4) (h1 : 1 ≤ hs.length) (h2 : hs.length ≤ 2) : LawF n ls hs rows := by
  obtain ⟨⟨ht, hlen, hrow⟩, hnm⟩ := h
  have hn1 := ht.1
  refine ⟨ht, hlen, by omega, by omega, h1, h2, fun r hr => ⟨(hrow r hr).1, (hrow r hr).2⟩, fun r hr p hp => ?_⟩
  obtain ⟨i, hi, rfl⟩ := List.getElem_of_mem hr
  obtain ⟨j, hj, rfl⟩ := List.getElem_of_mem hp
  have hN := hnm i j hi (by rw [← (hrow _ hr).1]; exact hj) _ (List.getElem?_eq_getElem hi)
  rw [List.getD_eq_getElem?_getD, List.getElem?_eq_getElem hj] at hN
  have hN : Named ls hs i (rows[i][j]) := hN
  unfold namedB
  rw [Bool.or_eq_true, List.any_eq_true, List.any_eq_true]
  rcases hN with ⟨l, hl, h⟩ | ⟨x, hx, h⟩
  · refine .inl ⟨l, hl, ?_⟩
    unfold nl
    rw [Bool.or_eq_true]
    rcases h with h | h
    · unfold plA at h
      rw [Bool.and_eq_true] at h
      exact .inl h.2
    · unfold plB at h
      rw [Bool.and_eq_true] at h
      exact .inr h.2
  · refine .inr ⟨x, hx, ?_⟩
    unfold plH at h
    rw [Bool.and_eq_true] at h
    exact h.2
theorem told_ret (rv : Value) (rows : List (List Int)) (w : World) (hr : RdW rv rows w) (hn : rows.length ≤ 4) (hl : ∀ r ∈ rows, r.length ≤ 2 ∧ ∀ x ∈ r, 0 ≤ x ∧ x ≤ 7) : Ret 9 #[rv] (.string (bs (toldL rows))) w := by
  refine (told_c rv rows w hr hn hl).mono ?_
  rintro e w' ⟨s, rfl, hs, hb⟩
  refine ⟨?_, hb⟩
  have e : s = bs (toldL rows) := by
    apply ByteArray.ext
    apply Array.ext'
    rw [hs]
    rfl
  rw [e]
/-- The routes' text, compiled. -/
theorem law_compile (m : Nat) (lo ho : Option Addr) (lc hc : Nat) (ls : List Lk) (hs : List Ho) (rows : List (List Int)) (w : World) (h1 : Rz 6 lkE (.slice lo ls.length lc) ls w) (h2 : Rz 2 hoE (.slice ho hs.length hc) hs w) (hL : LawF m ls hs rows) :
    Calls Tryz.prog 8 #[.string (bs (toldL rows)), .agg (topoA m lo ho ls.length lc hs.length hc), .int .i64 64] w fun e w' => ∃ v, e = .returned (.tuple #[v, .int .i64 0, .int .i64 0]) ∧ RdT w.heap.size v (tabsF (fun sw => hostsA 0 (rows.getD sw [])) m) w' ∧ Below w.heap.size w w' := by
  have hm : rows.length = m := by have := hL.len; omega
  have hlen := hL.few
  refine compile_c (bs (toldL rows)) m lo ho lc hc ls hs 64 4 (toldP rows) (fun sw => hostsA 0 (rows.getD sw [])) w (by omega) h1 h2 hL.topo (told_maybe hL.h1 hL.h2 hL.row hL.some_ hL.few m ls hs (by omega) hL.named) (fun sw hsw => told_sw hL.h1 hL.h2 hL.row hL.some_ hL.few sw (by omega)) (fun sw hsw => ?_) (fun w' => told_parse hs.length hL.h1 hL.h2 rows hL.row hL.some_ hL.few (bs (toldL rows)) rfl w')
  have := (hosts_ok (hL.row (rows.getD sw []) (by rw [List.getD_eq_getElem?_getD, List.getElem?_eq_getElem (show sw < rows.length by omega)]; exact List.getElem_mem _)) hL.h1 hL.h2)
  have hr := hL.row (rows.getD sw []) (by rw [List.getD_eq_getElem?_getD, List.getElem?_eq_getElem (show sw < rows.length by omega)]; exact List.getElem_mem _)
  have e : (hostsA 0 (rows.getD sw [])).length = (rows.getD sw []).length := by
    have : ∀ (r : List Int) (h : Nat), (hostsA h r).length = r.length := by
      intro r
      induction r with
      | nil => intro h; rfl
      | cons q r ih => intro h; simp [hostsA, ih]
    exact this _ 0
  have h3 := hr.1
  have h4 := hL.h2
  omega
theorem caseL_ruok {hz : List Hp} (hA : HpOk hz) : ∀ r ∈ rulesF (caseL hz (-1)), RuOk r := by
  have key : ∀ l : List Cs, (∀ c ∈ l, (c.1 = unknowns ∨ ∃ x, 0 ≤ x ∧ x ≤ 255 ∧ c.1 = (-1, -1, x, -1, -1)) ∧ (c.2 = [] ∨ ∃ q, c.2 = [asCame q])) → ∀ r ∈ rulesF l, RuOk r := by
    intro l
    induction l with
    | nil => intro _ r hr; cases hr
    | cons c cs ih =>
      intro h r hr
      rcases List.mem_cons.1 hr with rfl | hr
      · obtain ⟨h1, h2⟩ := h c (by simp)
        constructor
        · rcases h1 with h1 | ⟨x, h0, h255, h1⟩
          · rw [h1]; exact .inl rfl
          · rw [h1]
            refine .inr ⟨x, h0, h255, ?_⟩
            unfold askM
            rw [if_neg (by show ¬ x < 0; omega)]
        · rcases h2 with h2 | ⟨q, h2⟩
          · rw [h2]; exact .inl rfl
          · rw [h2]; exact .inr ⟨q, rfl⟩
      · exact ih (fun c hc => h c (by simp [hc])) r hr
  refine key _ fun c hc => ?_
  unfold caseL at hc
  rcases List.mem_append.1 hc with h | h
  · obtain ⟨a, ha, rfl⟩ := List.mem_map.1 h
    have := hA.pos a ha
    exact ⟨.inr ⟨a.1, this.1, this.2.1, rfl⟩, .inr ⟨a.2, rfl⟩⟩
  · simp at h
    subst h
    exact ⟨.inl rfl, .inl rfl⟩
theorem routeF_ruok : ∀ (r : List Int) (h : Nat), h + r.length ≤ 200 → ∀ x ∈ routeF h r, RuOk x := by
  intro r
  induction r with
  | nil => intro h _ x hx; cases hx
  | cons q r ih =>
    intro h hh x hx
    simp only [List.length_cons] at hh
    rcases List.mem_cons.1 hx with rfl | hx
    · exact ⟨.inr ⟨(h : Int), by omega, by omega, rfl⟩, .inr ⟨q, rfl⟩⟩
    · exact ih (h + 1) (by omega) x hx
end Go.Proofs.YtekfkieimdgfkaaGreat
