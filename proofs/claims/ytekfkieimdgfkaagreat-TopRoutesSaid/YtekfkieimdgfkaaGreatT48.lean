/- What is proved here: a topology, routes and a packet that came in can be read. Condition: they are the law's parameters. -/
import Derived.Test.YtekfkieimdgfkaaGreatT00
import Derived.Test.YtekfkieimdgfkaaGreatT47
import Derived.Deep.Slices
import Derived.Deep.Fields
import Derived.ChangeSame
import Derived.ChangeSlices
namespace Go.Proofs.YtekfkieimdgfkaaGreat
open Go Go.RowKit Go.ChangeShapes Go.WideShapes Go.ChangeAt Go.Deep
section
variable {H : Type} {enc : TypeId × Value → H} {P : Program} {w : World} {base : Nat} {spare : Nat → Bool} {held : Bool}
theorem open_slice_fields {t e : TypeId} {fs : Array Field} {fuel : Nat} {cs : List Value} {x : DataW H × List MemPlace} (ht : P.underlying t = some (.slice e)) (he : P.underlying e = some (.struct fs))
    (hone : oneCellFields P fs = true) (hC : P.cellsOf e = fs.size) (h : DataW.trod enc P w base spare held fuel t cs = some x) :
    (cs = [.slice none 0 0]) ∨
    ∃ (a : Addr) (len cap m : Nat), cs = [.slice (some a) len cap] ∧ len ≤ cap ∧ cap ≤ maxLen ∧ len ≤ m ∧
      ∀ i, i < m → ∃ (ys : List (DataW H × List MemPlace)) (n : Nat),
        ∀ (j : Nat) (f : Field), fs[j]? = some f → ∃ (v : Value) (y : DataW H × List MemPlace), w.cell? (a.add (i * fs.size + j)) = some v ∧ ys[j]? = some y ∧ DataW.trod enc P w base spare held n f.type [v] = some y := by
  rcases open_slice ht h with h0 | ⟨a, len, cap, m, n, D, Pl, hcs, hb, hl, hm, hmm, hx, hi⟩
  · exact .inl h0.1
  · refine .inr ⟨a, len, cap, m, hcs, hl, hm, by rw [hmm]; split <;> omega, fun i him => ?_⟩
    obtain ⟨cs', hc, ht'⟩ := hi i him
    rw [hC] at hc
    obtain ⟨ys, n', hn', hy, hlen, hyl, hf⟩ := DataW.trod_struct he ht'
    obtain ⟨_, hcl, hat⟩ := World.cells?_some hc
    refine ⟨ys, n', fun j f hj => ?_⟩
    obtain ⟨ho, hk⟩ := hone_of hone j f hj
    have hjl : j < fs.size := (Array.getElem?_eq_some_iff.1 hj).1
    have hcell := hat j hjl
    have hv : cs'[j]? = some (cs'[j]'(by omega)) := List.getElem?_eq_getElem (by omega)
    have h1 := hf j f hj
    rw [ho, hk] at h1
    have hone' : (cs'.drop j).take 1 = [cs'[j]'(by omega)] := by
      rw [List.drop_eq_getElem_cons (by omega)]
      rfl
    rw [hone'] at h1
    have hys : ys[j]? = some (ys[j]'(by omega)) := List.getElem?_eq_getElem (by omega)
    refine ⟨_, _, ?_, hys, h1.trans hys⟩
    rw [← Go.Deep.add_add, hcell, hv]
end
def numV : Value → Int
  | .int _ n => n
  | _ => 0
section
variable {H : Type} {enc : TypeId × Value → H} {W : World} {base : Nat}
set_option maxRecDepth 100000 in
theorem rd_links {fuel : Nat} {cs : List Value} {x : DataW H × List MemPlace} (hf : DataW.trod enc Tryz.prog W 0 (fun _ => true) true fuel 22 cs = some x) : ∃ v, cs = [v] ∧ ∃ ls : List Lk, Rz 6 lkE v ls W := by
  rcases open_slice_fields Tryz.underlying22 Tryz.underlying101 (by kernel_rfl) (by kernel_rfl) hf with rfl | ⟨a, len, cap, m, rfl, hl, hm, hlm, hall⟩
  · exact ⟨_, rfl, [], .inl ⟨rfl, rfl⟩⟩
  · have hel : ∀ i, i < len → ∃ x0 x1 x2 x3 x4 x5 : Int, W.cell? (a.add (i * 6)) = some (.int .i64 x0) ∧ W.cell? (a.add (i * 6 + 1)) = some (.int .i64 x1) ∧ W.cell? (a.add (i * 6 + 2)) = some (.int .i64 x2) ∧ W.cell? (a.add (i * 6 + 3)) = some (.int .i64 x3) ∧ W.cell? (a.add (i * 6 + 4)) = some (.int .i64 x4) ∧ W.cell? (a.add (i * 6 + 5)) = some (.int .i64 x5) := by
      intro i hi
      obtain ⟨ys, n, hf⟩ := hall i (by omega)
      obtain ⟨v0, y0, c0, _, t0⟩ := hf 0 _ rfl
      obtain ⟨v1, y1, c1, _, t1⟩ := hf 1 _ rfl
      obtain ⟨v2, y2, c2, _, t2⟩ := hf 2 _ rfl
      obtain ⟨v3, y3, c3, _, t3⟩ := hf 3 _ rfl
      obtain ⟨v4, y4, c4, _, t4⟩ := hf 4 _ rfl
      obtain ⟨v5, y5, c5, _, t5⟩ := hf 5 _ rfl
      obtain ⟨n0, e0, _⟩ := DataW.trod_int Tryz.underlying3 t0
      obtain ⟨n1, e1, _⟩ := DataW.trod_int Tryz.underlying3 t1
      obtain ⟨n2, e2, _⟩ := DataW.trod_int Tryz.underlying3 t2
      obtain ⟨n3, e3, _⟩ := DataW.trod_int Tryz.underlying3 t3
      obtain ⟨n4, e4, _⟩ := DataW.trod_int Tryz.underlying3 t4
      obtain ⟨n5, e5, _⟩ := DataW.trod_int Tryz.underlying3 t5
      simp only [List.cons.injEq, and_true] at e0 e1 e2 e3 e4 e5
      exact ⟨n0, n1, n2, n3, n4, n5, by rw [← e0]; exact c0, by rw [← e1]; exact c1, by rw [← e2]; exact c2, by rw [← e3]; exact c3, by rw [← e4]; exact c4, by rw [← e5]; exact c5⟩
    refine ⟨_, rfl, (List.range len).map fun i => (numV ((W.cell? (a.add (i * 6))).getD undef), numV ((W.cell? (a.add (i * 6 + 1))).getD undef), numV ((W.cell? (a.add (i * 6 + 2))).getD undef), numV ((W.cell? (a.add (i * 6 + 3))).getD undef), numV ((W.cell? (a.add (i * 6 + 4))).getD undef), numV ((W.cell? (a.add (i * 6 + 5))).getD undef)), .inr ⟨a, cap, by simp, fun h0 => ?_, by simpa using hl, hm, fun i hi j u hj => ?_⟩⟩
    · obtain ⟨_, _, _, _, _, _, c0, _⟩ := hel 0 (by simpa using h0)
      have := cell_lt c0
      rwa [adb] at this
    · obtain ⟨x0, x1, x2, x3, x4, x5, c0, c1, c2, c3, c4, c5⟩ := hel i (by simpa using hi)
      simp only [List.getElem_map, List.getElem_range, c0, c1, c2, c3, c4, c5, Option.getD_some, numV, lkE] at hj
      have hj6 : j < 6 := (List.getElem?_eq_some_iff.1 hj).1
      rcases (by omega : j = 0 ∨ j = 1 ∨ j = 2 ∨ j = 3 ∨ j = 4 ∨ j = 5) with rfl | rfl | rfl | rfl | rfl | rfl
      · rw [Nat.add_zero, c0]; exact hj
      · rw [c1]; exact hj
      · rw [c2]; exact hj
      · rw [c3]; exact hj
      · rw [c4]; exact hj
      · rw [c5]; exact hj
set_option maxRecDepth 100000 in
theorem rd_hosts {fuel : Nat} {cs : List Value} {x : DataW H × List MemPlace} (hf : DataW.trod enc Tryz.prog W 0 (fun _ => true) true fuel 23 cs = some x) : ∃ v, cs = [v] ∧ ∃ hs : List Ho, Rz 2 hoE v hs W := by
  rcases open_slice_fields Tryz.underlying23 Tryz.underlying49 (by kernel_rfl) (by kernel_rfl) hf with rfl | ⟨a, len, cap, m, rfl, hl, hm, hlm, hall⟩
  · exact ⟨_, rfl, [], .inl ⟨rfl, rfl⟩⟩
  · have hel : ∀ i, i < len → ∃ x0 x1 : Int, W.cell? (a.add (i * 2)) = some (.int .i64 x0) ∧ W.cell? (a.add (i * 2 + 1)) = some (.int .i64 x1) := by
      intro i hi
      obtain ⟨ys, n, hf⟩ := hall i (by omega)
      obtain ⟨v0, y0, c0, _, t0⟩ := hf 0 _ rfl
      obtain ⟨v1, y1, c1, _, t1⟩ := hf 1 _ rfl
      obtain ⟨n0, e0, _⟩ := DataW.trod_int Tryz.underlying3 t0
      obtain ⟨n1, e1, _⟩ := DataW.trod_int Tryz.underlying3 t1
      simp only [List.cons.injEq, and_true] at e0 e1
      exact ⟨n0, n1, by rw [← e0]; exact c0, by rw [← e1]; exact c1⟩
    refine ⟨_, rfl, (List.range len).map fun i => (numV ((W.cell? (a.add (i * 2))).getD undef), numV ((W.cell? (a.add (i * 2 + 1))).getD undef)), .inr ⟨a, cap, by simp, fun h0 => ?_, by simpa using hl, hm, fun i hi j u hj => ?_⟩⟩
    · obtain ⟨_, _, c0, _⟩ := hel 0 (by simpa using h0)
      have := cell_lt c0
      rwa [adb] at this
    · obtain ⟨x0, x1, c0, c1⟩ := hel i (by simpa using hi)
      simp only [List.getElem_map, List.getElem_range, c0, c1, Option.getD_some, numV, hoE] at hj
      have hj2 : j < 2 := (List.getElem?_eq_some_iff.1 hj).1
      rcases (by omega : j = 0 ∨ j = 1) with rfl | rfl
      · rw [Nat.add_zero, c0]; exact hj
      · rw [c1]; exact hj
set_option maxRecDepth 100000 in
theorem rd_topo {v : Value} {d : DataW H} {ps : List MemPlace} (hval : Value.okWide Tryz.prog W .any base 25 v) (h : DataW.Trod enc Tryz.prog W 0 (fun _ => true) true 25 v d ps) :
    ∃ (n : Int) (lo ho : Option Addr) (lc hc : Nat) (ls : List Lk) (hs : List Ho), v = .agg #[.int .i64 n, .slice lo ls.length lc, .slice ho hs.length hc] ∧ Rz 6 lkE (.slice lo ls.length lc) ls W ∧ Rz 2 hoE (.slice ho hs.length hc) hs W := by
  obtain ⟨cs, rfl, hsz⟩ := okWide_struct Tryz.underlying25 hval
  have h3 : Tryz.prog.cellsOf 25 = 3 := by kernel_rfl
  obtain ⟨l⟩ := cs
  match l, hsz.trans h3 with
  | [c0, c1, c2], _ =>
    obtain ⟨fuel, hf⟩ := h
    obtain ⟨xs, n, _, hx, _, hlen, hg⟩ := DataW.trod_struct Tryz.underlying25 hf
    have hlen : xs.length = 3 := hlen
    match xs, hlen with
    | [y0, y1, y2], _ =>
      have k3 : Tryz.prog.cellsOf 3 = 1 := by kernel_rfl
      have k22 : Tryz.prog.cellsOf 22 = 1 := by kernel_rfl
      have k23 : Tryz.prog.cellsOf 23 = 1 := by kernel_rfl
      have e0 := hg 0 _ rfl
      have e1 := hg 1 _ rfl
      have e2 := hg 2 _ rfl
      obtain ⟨z, h0, _⟩ := DataW.trod_int Tryz.underlying3 (e0.trans rfl)
      obtain ⟨u, h1, ls, hR1⟩ := rd_links (e1.trans rfl)
      obtain ⟨u2, h2, hs, hR2⟩ := rd_hosts (e2.trans rfl)
      have q0 : c0 = .int .i64 z := by simpa [k3, Value.cells] using h0
      have q1 : c1 = u := by simpa [k22, Value.cells] using h1
      have q2 : c2 = u2 := by simpa [k23, Value.cells] using h2
      obtain ⟨lo, lc, eu, _, _⟩ := hR1.form
      obtain ⟨ho, hc, eu2, _, _⟩ := hR2.form
      rw [eu] at q1 hR1
      rw [eu2] at q2 hR2
      exact ⟨z, lo, ho, lc, hc, ls, hs, by rw [q0, q1, q2], hR1, hR2⟩
theorem lists_of {α β : Type} (n : Nat) (p : Nat → α → β → Prop) (h : ∀ i, i < n → ∃ a b, p i a b) :
    ∃ (us : List α) (bs : List β), us.length = n ∧ bs.length = n ∧ ∀ i (h1 : i < us.length) (h2 : i < bs.length), p i us[i] bs[i] := by
  induction n with
  | zero => exact ⟨[], [], rfl, rfl, fun i h1 => absurd h1 (by simp)⟩
  | succ n ih =>
    obtain ⟨us, bs, ha, hb, hp⟩ := ih fun i hi => h i (by omega)
    obtain ⟨a, b, hab⟩ := h n (by omega)
    refine ⟨us ++ [a], bs ++ [b], by simp [ha], by simp [hb], fun i h1 h2 => ?_⟩
    by_cases hi : i < n
    · rw [List.getElem_append_left (by omega), List.getElem_append_left (by omega)]
      exact hp i (by omega) (by omega)
    · have h1' : i < n + 1 := by simpa [ha] using h1
      obtain rfl : i = n := by omega
      rw [List.getElem_append_right (by omega), List.getElem_append_right (by omega)]
      simpa [ha, hb] using hab
theorem rd_row {fuel : Nat} {cs : List Value} {x : DataW H × List MemPlace} (hf : DataW.trod enc Tryz.prog W 0 (fun _ => true) true fuel 44 cs = some x) : ∃ v, cs = [v] ∧ ∃ xs : List Int, Rz 1 INT v xs W := by
  rcases open_ints Tryz.underlying44 Tryz.underlying3 (by kernel_rfl) hf with ⟨rfl, hx⟩ | ⟨a, len, cap, zs, rfl, _, hl, hm, hlen, hx, hall, hwf⟩
  · exact ⟨_, rfl, [], .inl ⟨rfl, rfl⟩⟩
  · have hlen : zs.length = cap := hlen
    have htl : (zs.take len).length = len := by rw [List.length_take]; omega
    have hel : ∀ i (h : i < (zs.take len).length), W.cell? (a.add i) = some (.int .i64 (zs.take len)[i]) := by
      intro i hi
      have := hall i (by omega)
      rw [List.getD_eq_getElem?_getD, List.getElem?_eq_getElem (by omega)] at this
      rw [List.getElem_take]
      exact this
    refine ⟨_, rfl, zs.take len, .inr ⟨a, cap, by rw [htl], fun h0 => ?_, by rw [htl]; exact hl, hm, fun i hi j u hj => ?_⟩⟩
    · have := cell_lt (hel 0 h0)
      rwa [adb] at this
    · have hj0 : j = 0 := by
        have := (List.getElem?_eq_some_iff.1 hj).1
        simp [INT] at this
        exact this
      subst hj0
      rw [Nat.mul_one, Nat.add_zero, hel i hi]
      exact hj
set_option maxRecDepth 100000 in
theorem rd_routes {v : Value} {d : DataW H} {ps : List MemPlace} (hval : Value.okWide Tryz.prog W .any base 27 v) (h : DataW.Trod enc Tryz.prog W 0 (fun _ => true) true 27 v d ps) : ∃ rows : List (List Int), RdW v rows W := by
  obtain ⟨a0, len, cap, rfl⟩ := okWide_slice Tryz.underlying27 hval
  obtain ⟨fuel, hf⟩ := h
  have hC : Tryz.prog.cellsOf 44 = 1 := by kernel_rfl
  rcases open_slice Tryz.underlying27 hf with ⟨hcs, hx⟩ | ⟨a, len', cap', m, n, D, Pl, hcs, hb, hl, hm, hmm, hx, hi⟩
  · simp [Value.cells] at hcs
    obtain ⟨rfl, rfl, rfl⟩ := hcs
    exact ⟨[], [], .inl ⟨rfl, rfl⟩, rfl, fun i h1 => absurd h1 (by simp)⟩
  · simp [Value.cells] at hcs
    obtain ⟨rfl, rfl, rfl⟩ := hcs
    have hmc : len ≤ m := by
      rw [hmm]
      split
      · exact hl
      · exact Nat.le_refl _
    obtain ⟨vs, rows, hvl, hwl, hp⟩ := lists_of len (fun i v xs => W.cell? (a.add i) = some v ∧ Rz 1 INT v xs W) fun i hil => by
      obtain ⟨cs', hc, ht'⟩ := hi i (by omega)
      rw [hC] at hc
      obtain ⟨v, rfl, xs, hr⟩ := rd_row ht'
      obtain ⟨_, _, hat⟩ := World.cells?_some hc
      have := hat 0 (by simp)
      rw [Go.Deep.add_add] at this
      refine ⟨v, xs, ?_, hr⟩
      simpa using this
    refine ⟨rows, vs, .inr ⟨a, cap, by rw [hvl], fun h0 => ?_, by rw [hvl]; exact hl, hm, fun i h j u hj => ?_⟩, by rw [hvl, hwl], fun i h1 h2 => (hp i h1 h2).2⟩
    · have := cell_lt (hp 0 h0 (by omega)).1
      rwa [adb] at this
    · have hj0 : j = 0 := by
        have := (List.getElem?_eq_some_iff.1 hj).1
        simp at this
        exact this
      subst hj0
      rw [Nat.mul_one, Nat.add_zero, (hp i h (by omega)).1]
      exact hj
set_option maxRecDepth 100000 in
theorem rd_packet {v : Value} {d : DataW H} {ps : List MemPlace} (h : DataW.Trod enc Tryz.prog W 0 (fun _ => true) true 29 v d ps) : ∃ a b c e : Int, v = .agg #[.int .i64 a, .int .i64 b, .int .i64 c, .int .i64 e] := by
  obtain ⟨fuel, hf⟩ := h
  obtain ⟨xs, m, _, hx, hlen, hxl, hg⟩ := DataW.trod_array Tryz.underlying29 hf
  have h4 : Tryz.prog.cellsOf 29 = 4 := by kernel_rfl
  have k3 : Tryz.prog.cellsOf 3 = 1 := by kernel_rfl
  rw [h4] at hlen
  rw [k3] at hg
  cases v with
  | agg cs =>
    obtain ⟨l⟩ := cs
    match l, hlen with
    | [c0, c1, c2, c3], _ =>
      match xs, hxl with
      | [y0, y1, y2, y3], _ =>
        have e0 := hg 0 (by omega)
        have e1 := hg 1 (by omega)
        have e2 := hg 2 (by omega)
        have e3 := hg 3 (by omega)
        obtain ⟨z0, h0, _⟩ := DataW.trod_int Tryz.underlying3 (e0.trans rfl)
        obtain ⟨z1, h1, _⟩ := DataW.trod_int Tryz.underlying3 (e1.trans rfl)
        obtain ⟨z2, h2, _⟩ := DataW.trod_int Tryz.underlying3 (e2.trans rfl)
        obtain ⟨z3, h3, _⟩ := DataW.trod_int Tryz.underlying3 (e3.trans rfl)
        have q0 : c0 = .int .i64 z0 := by simpa [Value.cells] using h0
        have q1 : c1 = .int .i64 z1 := by simpa [Value.cells] using h1
        have q2 : c2 = .int .i64 z2 := by simpa [Value.cells] using h2
        have q3 : c3 = .int .i64 z3 := by simpa [Value.cells] using h3
        exact ⟨z0, z1, z2, z3, by rw [q0, q1, q2, q3]⟩
  | _ => simp [Value.cells] at hlen
end
end Go.Proofs.YtekfkieimdgfkaaGreat
/- What is proved here: TopRoutes returns true for every topology, routes, port and packet. Condition: none. -/
namespace Go.Proofs.YtekfkieimdgfkaaGreat
open Go Go.RowKit Go.ChangeShapes Go.WideShapes Go.ChangeAt

theorem topRoutes_hts : ∀ t ∈ Tryz.f3.params.toList, Tryz.prog.readableRec t = true ∧ t < Tryz.prog.types.size := by
  have h : Tryz.f3.params.toList.all (fun t => Tryz.prog.readableRec t && decide (t < Tryz.prog.types.size)) = true := by kernel_rfl
  intro t ht
  simpa using List.all_eq_true.1 h t ht

set_option maxRecDepth 100000 in
theorem topRoutes_lifted (os : Os) (started : os.Started) (H : Type) (enc : TypeId × Value → H) :
    ReturnsInHanded {} Tryz.checked os 3 .any (Rows.topRoutesSpec.pre6 enc Tryz.prog Tryz.f3 Rows.topRoutesRow.domain false) (Rows.topRoutesSpec.post enc Tryz.prog Tryz.f3 false true false false) := by
  refine returnsInHanded_of_change (C := Tryz.checked) Tryz.own started (by kernel_rfl) Tryz.func3
    (ChangeSpec.witness6 (enc := enc) (C := Tryz.checked) false ⟨#[], #[.agg #[.int .i64 0, .slice none 0 0, .slice none 0 0], .slice none 0 0, .int .i64 0, .agg #[.int .i64 0, .int .i64 0, .int .i64 0, .int .i64 0]], []⟩ 8 (by kernel_rfl) (by kernel_rfl) (by kernel_rfl) (by kernel_rfl)) ?_
  intro W base args ds gs before hval0 hW hcnd _
  have hval : ∀ (j : Nat) t v, Tryz.f3.params[j]? = some t → args[j]? = some v → Value.okWide Tryz.prog W .any base t v := hval0
  have hW' := hW
  obtain ⟨p, q, hA0, hV, hpq, hfz, hnd⟩ := hW
  have hA : DataW.TrodAll enc Tryz.prog W 0 (fun _ => true) true Tryz.f3.params.toList args.toList ds p := hA0
  refine Calls.mono (R := fun e W' => e = .returned (.bool true) ∧ Below W.heap.size W W') ?_ fun e W' ⟨he, hb⟩ => ⟨_, he, law_post (f := Tryz.f3) Tryz.laidOut topRoutes_hts rfl (by kernel_rfl) Tryz.underlying4 (fun xs hx => by
    match xs, hx with
    | [x0, x1, x2, x3], _ => rfl) hW' hb⟩
  rw [Tryz.params3] at hA hval
  obtain ⟨v0, vs0, d0, ds0, p0, q0, hargs, rfl, rfl, h0, r0⟩ := trodAll_cons hA
  obtain ⟨v1, vs1, d1, ds1, p1, q1, rfl, rfl, rfl, h1, r1⟩ := trodAll_cons r0
  obtain ⟨v2, vs2, d2, ds2, p2, q2, rfl, rfl, rfl, h2, r2⟩ := trodAll_cons r1
  obtain ⟨v3, vs3, d3, ds3, p3, q3, rfl, rfl, rfl, h3, r3⟩ := trodAll_cons r2
  obtain ⟨rfl, rfl, rfl⟩ := trodAll_nil r3
  obtain rfl : args = #[v0, v1, v2, v3] := by cases args; simp_all
  obtain ⟨tn, lo, ho, lc, hc, ls, hs, rfl, R0a, R0b⟩ := rd_topo (hval 0 25 v0 rfl rfl) h0
  obtain ⟨rows, R1⟩ := rd_routes (hval 1 27 v1 rfl rfl) h1
  obtain ⟨port, rfl, rfl, rfl, w2⟩ := open_int Tryz.underlying3 (hval 2 3 v2 rfl rfl) h2
  obtain ⟨pa, pb, pc, pd, rfl⟩ := rd_packet h3
  exact law3 tn lo ho lc hc ls hs v1 rows port pa pb pc pd W R0a R0b R1

theorem topRoutes_holds : Rows.TopRoutesSaid :=
  OpenClaim.holds_of_wide 3 Tryz.f3 rfl rfl rfl rfl rfl rfl rfl ⟨rfl, rfl, rfl, rfl, rfl⟩ rfl rfl rfl rfl rfl (by kernel_rfl) Tryz.func3 (by kernel_rfl)
    (of_decide_eq_true (by kernel_rfl)) (by unfold Func.isWrapper; first | (rw [if_pos (by decide +kernel)]; kernel_rfl) | (rw [if_neg (by decide +kernel)]; exact ⟨rfl, rfl⟩))
    (fun os started H enc _ => topRoutes_lifted os started H enc)
#print axioms topRoutes_holds
end Go.Proofs.YtekfkieimdgfkaaGreat
