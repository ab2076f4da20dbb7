/- What is proved here: what the program's clocks answer and how they are turned. Condition: they lie in memory of the call's own, their numbers are within bounds. -/
import Derived.Test.YtgpeekmagckgcaaK1
namespace Go.Proofs.Ytgpeekmagckgcaa
open Go Go.RowKit
attribute [local go_sem] KW.cell KW.frozen

/-- Only blocks p and g have turned, and what is new. -/
structure Mod (w w' : World) (p g : Nat) : Prop where
  os : w'.os = w.os
  tape : w'.tape = w.tape
  output : w'.output = w.output
  size : w.heap.size ≤ w'.heap.size
  block : ∀ k, k < w.heap.size → k ≠ p → k ≠ g → w'.heap[k]? = w.heap[k]?
theorem Mod.refl (w : World) (p g : Nat) : Mod w w p g := ⟨rfl, rfl, rfl, Nat.le_refl _, fun _ _ _ _ => rfl⟩
theorem Mod.trans {a b c : World} {p g : Nat} (h : Mod a b p g) (k : Mod b c p g) : Mod a c p g :=
  ⟨k.os.trans h.os, k.tape.trans h.tape, k.output.trans h.output, Nat.le_trans h.size k.size, fun i hi h1 h2 => (k.block i (Nat.lt_of_lt_of_le hi h.size) h1 h2).trans (h.block i hi h1 h2)⟩
theorem Mod.drewN {a b : World} {p g : Nat} (h : Mod a b p g) (n : Nat) : Mod a (b.drewN n) p g := ⟨h.os, h.tape, h.output, h.size, h.block⟩
theorem Mod.drew {a b : World} {p g : Nat} (h : Mod a b p g) : Mod a b.drew p g := ⟨h.os, h.tape, h.output, h.size, h.block⟩
theorem Mod.set {a b : World} {p g : Nat} (h : Mod a b p g) {q : Nat} (hq : q = p ∨ q = g) (i : Nat) (u : Value) : Mod a (b.setCell ⟨q, i, none⟩ u) p g :=
  ⟨h.os, h.tape, h.output, by simpa [World.setCell] using h.size, fun k hk h1 h2 => (Below.heap_setCell b ⟨q, i, none⟩ u k (by rintro rfl; rcases hq with e | e; exact h1 e; exact h2 e)).trans (h.block k hk h1 h2)⟩
theorem Mod.below {a b : World} {p g B : Nat} (h : Mod a b p g) (hp : B ≤ p) (hg : B ≤ g) {W : World} (hb : Below B W a) (hB : B ≤ a.heap.size) : Below B W b :=
  ⟨h.os.trans hb.os, h.tape.trans hb.tape, h.output.trans hb.output, Nat.le_trans hb.size h.size, fun k hk => (h.block k (Nat.lt_of_lt_of_le hk hB) (by omega) (by omega)).trans (hb.block k hk)⟩
theorem Mod.of_below {a b : World} (h : Below a.heap.size a b) (p g : Nat) : Mod a b p g := ⟨h.os, h.tape, h.output, h.size, fun k hk _ _ => h.block k hk⟩

theorem own_block {B e z n g cap : Nat} {vs : List Value} {w : World} (h : w.ownsRow B e z (.slice (some ⟨g, 0, none⟩) n cap) n vs) : ∃ cur, w.heap[g]? = some (.cells cur e (0, 0)) ∧ B ≤ g := by
  rcases h.2 with ⟨h0, _⟩ | ⟨g', cap', cur, hv, hB, hg, _⟩
  · cases h0
  · cases hv; exact ⟨cur, hg, hB⟩
theorem own_at {B e z n g cap : Nat} {vs : List Value} {w w' : World} (h : w.ownsRow B e z (.slice (some ⟨g, 0, none⟩) n cap) n vs) (hk : w'.heap[g]? = w.heap[g]?) : w'.ownsRow B e z (.slice (some ⟨g, 0, none⟩) n cap) n vs := by
  refine ⟨h.1, ?_⟩
  rcases h.2 with ⟨h0, _⟩ | ⟨g', cap', cur, hv, hB, hg, r⟩
  · cases h0
  · cases hv; exact .inr ⟨g, cap, cur, rfl, hB, hk.trans hg, r⟩

section
variable {B : Nat} {w w' : World} {p g cap : Nat} {real most : Int} {l : List Pl.Cl}
theorem Ck.hg (h : Ck B w p g cap real most l) : B ≤ g ∧ g < w.heap.size := by
  obtain ⟨cur, h1, h2⟩ := own_block h.own
  exact ⟨h2, block_lt h1⟩
theorem Ck.lt (h : Ck B w p g cap real most l) : p < w.heap.size := block_lt h.at_
theorem Ck.ne (h : Ck B w p g cap real most l) : p ≠ g := by
  rintro rfl
  obtain ⟨cur, h1, h2⟩ := own_block h.own
  have := h.at_.symm.trans h1
  injection this with this
  injection this with _ this
  cases this
theorem Ck.far (h : Ck B w p g cap real most l) (h1 : w'.heap[p]? = w.heap[p]?) (h2 : w'.heap[g]? = w.heap[g]?) : Ck B w' p g cap real most l := ⟨h.hp, h1.trans h.at_, own_at h.own h2⟩
theorem Ck.kept (h : Ck B w p g cap real most l) (hb : Below w.heap.size w w') : Ck B w' p g cap real most l := h.far (hb.block p h.lt) (hb.block g h.hg.2)
theorem Ck.mod {q r : Nat} (h : Ck B w p g cap real most l) (hb : Mod w w' q r) (h1 : p ≠ q) (h2 : p ≠ r) (h3 : g ≠ q) (h4 : g ≠ r) : Ck B w' p g cap real most l :=
  h.far (hb.block p h.lt h1 h2) (hb.block g h.hg.2 h3 h4)
theorem Ck.drewN (h : Ck B w p g cap real most l) (n : Nat) : Ck B (w.drewN n) p g cap real most l := h.far rfl rfl
theorem cflat_set (l : List Pl.Cl) : ∀ (k : Nat) (_h : k < l.length) (s r x : Int), cflat (l.set k (s, r, x)) = (((cflat l).set (k * 3) (.int .i64 s)).set (k * 3 + 1) (.int .i64 r)).set (k * 3 + 2) (.int .i64 x) := by
  induction l with
  | nil => intro k h; cases h
  | cons o l ih =>
    intro k h s r x
    cases k with
    | zero => rfl
    | succ k =>
      have := ih k (by simpa using h) s r x
      have e1 : (k + 1) * 3 = k * 3 + 1 + 1 + 1 := by omega
      rw [e1]
      simp only [cflat, List.set_cons_succ, List.flatMap_cons] at *
      rw [this]
      rfl
theorem set_same {l : List Value} {i : Nat} {v : Value} (h : l[i]? = some v) : l.set i v = l := by
  apply List.ext_getElem?
  intro j
  rw [List.getElem?_set]
  split
  · rename_i e; subst e; split
    · exact h.symm
    · rename_i hl; rw [List.getElem?_eq_none (by omega)]
  · rfl
theorem Ck.setRate (h : Ck B w p g cap real most l) (k : Nat) (hk : k < l.length) (r : Int) : Ck B (w.setCell ⟨g, k * 3 + 1, none⟩ (.int .i64 r)) p g cap real most (l.set k ((l[k]).1, r, (l[k]).2.2)) := by
  have e := cflat_get l k hk
  have hs := (h.own.stored (k * 3 + 1) (.int .i64 r)).1
  refine ⟨h.hp, ?_, ?_⟩
  · rw [List.length_set]
    exact (Below.heap_setCell w ⟨g, k * 3 + 1, none⟩ _ p h.ne).trans h.at_
  · rw [List.length_set, cflat_set l k hk, set_same e.1, List.set_comm _ _ (by omega), set_same e.2.2]
    exact hs
theorem Ck.setSum (h : Ck B w p g cap real most l) (k : Nat) (hk : k < l.length) (x : Int) : Ck B (w.setCell ⟨g, k * 3 + 2, none⟩ (.int .i64 x)) p g cap real most (l.set k ((l[k]).1, (l[k]).2.1, x)) := by
  have e := cflat_get l k hk
  have hs := (h.own.stored (k * 3 + 2) (.int .i64 x)).1
  refine ⟨h.hp, ?_, ?_⟩
  · rw [List.length_set]
    exact (Below.heap_setCell w ⟨g, k * 3 + 2, none⟩ _ p h.ne).trans h.at_
  · rw [List.length_set, cflat_set l k hk, set_same e.1, set_same e.2.1]
    exact hs
theorem Ck.setReal (h : Ck B w p g cap real most l) (r : Int) : Ck B (w.setCell ⟨p, 0, none⟩ (.int .i64 r)) p g cap r most l := by
  refine ⟨h.hp, ?_, own_at h.own (Below.heap_setCell w ⟨p, 0, none⟩ _ g (Ne.symm h.ne))⟩
  simp [World.setCell, Array.getElem?_modify, h.at_]

/-- The numbers are within bounds. -/
structure Pl.Ok (real most : Int) (l : List Pl.Cl) : Prop where
  r0 : 0 ≤ real
  r1 : real ≤ 1099511627776
  m0 : 0 ≤ most
  m1 : most ≤ 500
  len : l.length ≤ 8
  el : ∀ c ∈ l, -1048576 ≤ c.1 ∧ c.1 ≤ 1048576 ∧ -most ≤ c.2.1 ∧ c.2.1 ≤ most ∧ -(500 * real) ≤ c.2.2 ∧ c.2.2 ≤ 500 * real
theorem Pl.Ok.at_ {real most : Int} {l : List Pl.Cl} (h : Pl.Ok real most l) (k : Nat) (hk : k < l.length) : -1048576 ≤ (l[k]).1 ∧ (l[k]).1 ≤ 1048576 ∧ -most ≤ (l[k]).2.1 ∧ (l[k]).2.1 ≤ most ∧ -(500 * real) ≤ (l[k]).2.2 ∧ (l[k]).2.2 ≤ 500 * real :=
  h.el _ (List.getElem_mem hk)

/-- What Apart answers. -/
def Pl.apartAt (l : List Pl.Cl) (i : Int) : Int := if h : 0 ≤ i ∧ i < (l.length : Int) then Pl.apart (l[i.toNat]'(by omega)) else 0
def Pl.readAt (real : Int) (l : List Pl.Cl) (i : Int) : Int := if thereB l.length i = true then real + Pl.apartAt l i else 0
theorem Pl.apart_bd {real most : Int} {l : List Pl.Cl} (h : Pl.Ok real most l) (i : Int) : -549756862464 ≤ Pl.apartAt l i ∧ Pl.apartAt l i ≤ 549756862464 := by
  unfold Pl.apartAt
  split
  · have := h.at_ i.toNat (by omega)
    have := h.r1
    unfold Pl.apart
    omega
  · omega
theorem apart_c (i : Int) (h : Ck B w p g cap real most l) (ok : Pl.Ok real most l) : Calls Try.prog 35 #[.pointer (some ⟨p, 0, none⟩), .int .i64 i] w fun e w' => e = .returned (.int .i64 (Pl.apartAt l i)) ∧ Below w.heap.size w w' := by
  by_cases hi : 0 ≤ i ∧ i < (l.length : Int)
  · have e : Pl.apartAt l i = Pl.apart (l[i.toNat]'(by omega)) := by unfold Pl.apartAt; rw [dif_pos hi]
    rw [e]
    have b := ok.at_ i.toNat (by omega)
    have := ok.r1
    have c := apart_run i.toNat h (by omega) ⟨by omega, by omega⟩ ⟨by omega, by omega⟩
    rw [Int.toNat_of_nonneg hi.1] at c
    exact c
  · have e : Pl.apartAt l i = 0 := by unfold Pl.apartAt; rw [dif_neg hi]
    rw [e]
    exact (apart_no i h hi).mono fun _ _ ⟨he, hw⟩ => ⟨he, hw ▸ Below.refl _ _⟩
theorem read_c (i : Int) (h : Ck B w p g cap real most l) (ok : Pl.Ok real most l) : Calls Try.prog 31 #[.pointer (some ⟨p, 0, none⟩), .int .i64 i] w fun e w' => e = .returned (.int .i64 (Pl.readAt real l i)) ∧ Below w.heap.size w w' := by
  have HI := Lib.hid (is_c i h)
  have HC := Lib.hid h
  have c0 := h.c0
  have hz := h.lt
  clear h
  by_cases hi : thereB l.length i = true
  · rw [hi] at HI
    have e : Pl.readAt real l i = real + Pl.apartAt l i := by unfold Pl.readAt; rw [if_pos hi]
    rw [e]
    clear e hi
    have b := Pl.apart_bd ok i
    have r0 := ok.r0
    have r1 := ok.r1
    have OK := Lib.hid ok
    clear ok
    have x1 : IntKind.i64.wrap (real + Pl.apartAt l i) = real + Pl.apartAt l i := wrap_of (by omega) (by omega)
    have HA := Lib.hid (fun (k : KW w) => apart_c i (HC.out.kept k.kp) OK.out)
    clear OK
    generalize Pl.apartAt l i = A at *
    go_enter Try.func31, Try.ntmps31
    go_wp2_with (go_at_call 68; refine HI.out.mono ?_; rintro e w' ⟨rfl, rfl⟩)
    refine wp_region_kq (by kernel_rfl) (by kernel_rfl) ?_
    repeat (quiet_step ((go_at_call 35; exact KW.call (HA.out _))))
    refine wpQuiet_nil ?_
    intro k1
    have hk1 := k1.kp
    go_wp2
    go_ret
    exact ⟨rfl, hk1⟩
  · have hi' : thereB l.length i = false := by simpa using hi
    rw [hi'] at HI
    have e : Pl.readAt real l i = 0 := by unfold Pl.readAt; rw [if_neg hi]
    rw [e]
    clear e hi hi'
    go_enter Try.func31, Try.ntmps31
    go_wp2_with (go_at_call 68; refine HI.out.mono ?_; rintro e w' ⟨rfl, rfl⟩)
    go_ret
    exact ⟨rfl, Below.refl _ _⟩
theorem rate_no (i r : Int) (h : Ck B w p g cap real most l) (hi : ¬ (0 ≤ i ∧ i < (l.length : Int))) : Calls Try.prog 29 #[.pointer (some ⟨p, 0, none⟩), .int .i64 i, .int .i64 r] w fun e w' => e = .returned (.int .i64 7) ∧ w = w' := by
  have HI := Lib.hid (is_c i h)
  rw [thereB_no hi] at HI
  clear h hi
  go_enter Try.func29, Try.ntmps29
  go_wp2_with (go_at_call 68; refine HI.out.mono ?_; rintro e w' ⟨rfl, rfl⟩)
  go_ret
  exact ⟨rfl, rfl⟩
theorem rate_bad (i r : Int) (h : Ck B w p g cap real most l) (hi : 0 ≤ i ∧ i < (l.length : Int)) (hr : r < -most ∨ most < r) (hm : 0 ≤ most ∧ most ≤ 500) : Calls Try.prog 29 #[.pointer (some ⟨p, 0, none⟩), .int .i64 i, .int .i64 r] w fun e w' => e = .returned (.int .i64 2) ∧ w = w' := by
  have HI := Lib.hid (is_c i h)
  rw [thereB_iff.2 hi] at HI
  have c1 := h.c1
  clear h hi
  by_cases h1 : r < -most
  · clear hr
    go_enter Try.func29, Try.ntmps29
    go_wp2_with (go_at_call 68; refine HI.out.mono ?_; rintro e w' ⟨rfl, rfl⟩)
    go_ret
    exact ⟨rfl, rfl⟩
  · have h2 : most < r := by omega
    clear hr
    go_enter Try.func29, Try.ntmps29
    go_wp2_with (go_at_call 68; refine HI.out.mono ?_; rintro e w' ⟨rfl, rfl⟩)
    go_ret
    exact ⟨rfl, rfl⟩
theorem rate_run (k : Nat) (r : Int) (h : Ck B w p g cap real most l) (hk : k < l.length) (hr1 : ¬ r < -most) (hr2 : ¬ most < r) (hm : 0 ≤ most ∧ most ≤ 500) :
    Calls Try.prog 29 #[.pointer (some ⟨p, 0, none⟩), .int .i64 (k : Int), .int .i64 r] w fun e w' => e = .returned (.int .i64 0) ∧ w' = w.setCell ⟨g, k * 3 + 1, none⟩ (.int .i64 r) := by
  have HI := Lib.hid (is_c (k : Int) h)
  rw [thereB_iff.2 ⟨by omega, by omega⟩] at HI
  have c1 := h.c1
  have c2 := h.c2
  obtain ⟨_, e1, _⟩ := h.el k hk
  obtain ⟨l1, l2⟩ := h.le
  have f1 := h.fg (k * 3 + 1)
  clear h
  generalize (l[k]).2.1 = x at *
  go_enter Try.func29, Try.ntmps29
  go_wp2_with (go_at_call 68; refine HI.out.mono ?_; rintro e w' ⟨rfl, rfl⟩)
  go_ret
  exact ⟨rfl, rfl⟩
end
end Go.Proofs.Ytgpeekmagckgcaa
