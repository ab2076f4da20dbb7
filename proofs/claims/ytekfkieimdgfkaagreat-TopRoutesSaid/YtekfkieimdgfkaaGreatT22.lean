/- What is proved here: packets are the same as themselves; rows of at most one packet, compared. Condition: they are the same, or not of one length. -/
import Derived.Test.YtekfkieimdgfkaaGreatT21
namespace Go.Proofs.YtekfkieimdgfkaaGreat
open Go Go.RowKit
attribute [local go_sem] KW.cell KW.frozen
theorem u3 : Tryz.prog.underlying 3 = some (.int .i64) := by kernel_rfl
theorem u29 : Tryz.prog.underlying 29 = some (.array 4 3) := by kernel_rfl
theorem u63 : ∃ a b : Field, Tryz.prog.underlying 63 = some (.struct #[a, b]) ∧ a.name = "Port" ∧ b.name = "P" ∧ a.type = 3 ∧ b.type = 29 ∧ a.offset = 0 ∧ b.offset = 1 := by
  have h : (match Tryz.prog.underlying 63 with | some (.struct fs) => fs.size == 2 && (fs.getD 0 default).name == "Port" && (fs.getD 1 default).name == "P" && (fs.getD 0 default).type == 3 && (fs.getD 1 default).type == 29 && (fs.getD 0 default).offset == 0 && (fs.getD 1 default).offset == 1 | _ => false) = true := by kernel_rfl
  cases hu : Tryz.prog.underlying 63 with
  | none => rw [hu] at h; cases h
  | some d =>
    cases d with
    | struct fs =>
      rw [hu] at h
      simp only [Bool.and_eq_true, beq_iff_eq] at h
      obtain ⟨⟨⟨⟨⟨⟨h0, h1⟩, h2⟩, h3⟩, h4⟩, h5⟩, h6⟩ := h
      obtain ⟨l⟩ := fs
      match l, h0 with
      | [a, b], _ => exact ⟨a, b, rfl, h1, h2, h3, h4, h5, h6⟩
    | _ => rw [hu] at h; cases h
theorem s63 : Tryz.prog.stoodInHeld 63 = false := by kernel_rfl
theorem i3 : ∃ i, Tryz.prog.info? 3 = some i ∧ i.size = 1 := by
  have h : (Tryz.prog.info? 3).map (·.size) = some 1 := by kernel_rfl
  cases hi : Tryz.prog.info? 3 with
  | none => rw [hi] at h; cases h
  | some i => rw [hi] at h; exact ⟨i, rfl, by simpa using h⟩
theorem i29 : ∃ i, Tryz.prog.info? 29 = some i ∧ i.size = 4 := by
  have h := inf29
  cases hi : Tryz.prog.info? 29 with
  | none => rw [hi] at h; cases h
  | some i => rw [hi] at h; exact ⟨i, rfl, by simpa using h⟩
theorem eqint (x y : Int) (w : World) (d : Nat) : (Op.equalIn (d + 1) 3 (.int .i64 x) (.int .i64 y)).run Tryz.prog w = .ok (x == y) w := by
  simp [Op.equalIn, run_underlying u3]
theorem eq29_same (p : Pk) (w : World) (d : Nat) : (Op.equalIn (d + 2) 29 (.agg (pkA p)) (.agg (pkA p))).run Tryz.prog w = .ok true w := by
  obtain ⟨i, hi, hs⟩ := i3
  obtain ⟨a, b, c, e⟩ := p
  have hE := fun x y w => eqint x y w d
  have hag : ∀ w, (isAgg 3).run Tryz.prog w = .ok false w := fun w => by simp [isAgg, run_underlying u3]
  unfold Op.equalIn
  simp [run_underlying u29, sizeOf, typeInfo, hi, hs, pkA, part, hag, hE, Std.Legacy.Range.forIn_eq_forIn_range', Std.Legacy.Range.size, List.range', Result.andThen]
set_option maxRecDepth 10000 in
theorem eq63_same (s : Sn) (w : World) (d : Nat) : (Op.equalIn (d + 3) 63 (stV s) (stV s)).run Tryz.prog w = .ok true w := by
  obtain ⟨i9, hi9, hs9⟩ := i29
  obtain ⟨p, q⟩ := s
  have hE : ∀ (x y : Int) (w : World), (Op.equalIn (d + 2) 3 (.int .i64 x) (.int .i64 y)).run Tryz.prog w = .ok (x == y) w := fun x y w => eqint x y w (d + 1)
  have h := fun w => eq29_same q w d
  obtain ⟨a, b, hu, h1, h2, h3, h4, h5, h6⟩ := u63
  obtain ⟨q1, q2, q3, q4⟩ := q
  simp only [pkA] at h
  have hag : ∀ w, (isAgg 3).run Tryz.prog w = .ok false w := fun w => by simp [isAgg, run_underlying u3]
  have hag9 : ∀ w, (isAgg 29).run Tryz.prog w = .ok true w := fun w => by simp [isAgg, run_underlying u29]
  unfold Op.equalIn
  simp [run_underlying hu, sizeOf, typeInfo, hi9, hs9, stV, stA, part, hag, hag9, h1, h2, h3, h4, h5, h6, hE, h, Result.andThen]
set_option maxRecDepth 100000 in
set_option maxHeartbeats 2000000 in
theorem equal128_ne (o1 o2 : Option Addr) (n1 n2 c1 c2 : Nat) (w : World) (h : n1 ≠ n2) (_h1 : n1 ≤ 1) (_h2 : n2 ≤ 1) : Ret 128 #[.slice o1 n1 c1, .slice o2 n2 c2] (.bool false) w := by
  unfold Ret
  have e : ((n1 : Int) == (n2 : Int)) = false := by simp; omega
  have e2 : ((n1 : Int) != (n2 : Int)) = true := by simp; omega
  go_enter Tryz.func128, Tryz.ntmps128
  go_wp2_with fail
  go_ret
  exact ⟨rfl, Below.refl _ _⟩
end Go.Proofs.YtekfkieimdgfkaaGreat
/- What is proved here: rows of at most one packet, compared. Condition: they are the same, or not of one length. -/
namespace Go.Proofs.YtekfkieimdgfkaaGreat
open Go Go.RowKit
attribute [local go_sem] KW.cell KW.frozen
theorem range_kept {w w' : World} {g B : Nat} {cs : List Value} (hb : Below B w w') (hg : g < B) (h : w.rangeAt g 0 cs) : w'.rangeAt g 0 cs := by
  intro j v hj
  rw [World.cell?_of_block (w := w) (w' := w') (a := ⟨g, 0 + j, none⟩) (hb.block g hg)]
  exact h j v hj
set_option maxRecDepth 100000 in
set_option maxHeartbeats 2000000 in
theorem equal128_nil (o1 o2 : Option Addr) (c1 c2 : Nat) (w : World) : Ret 128 #[.slice o1 0 c1, .slice o2 0 c2] (.bool true) w := by
  unfold Ret
  go_enter Tryz.func128, Tryz.ntmps128
  go_wp2_with fail
  go_loopw [13] (fun i wr => i = .int .i64 0 ∧ wr = w) (fun _ _ => 0)
  case atStart => exact ⟨rfl, rfl⟩
  case round =>
    obtain ⟨rfl, rfl⟩ := hrel
    go_wp2_with fail
    go_ret
    exact ⟨rfl, Below.refl _ _⟩
set_option maxRecDepth 100000 in
set_option maxHeartbeats 2000000 in
theorem equal128_one (g1 g2 c1 c2 : Nat) (s : Sn) (w : World) (h1 : g1 < w.heap.size) (h2 : g2 < w.heap.size) (hr1 : w.rangeAt g1 0 (stE s)) (hr2 : w.rangeAt g2 0 (stE s)) :
    Ret 128 #[.slice (some ⟨g1, 0, none⟩) 1 c1, .slice (some ⟨g2, 0, none⟩) 1 c2] (.bool true) w := by
  unfold Ret
  have H1 := Lib.hid hr1
  have H2 := Lib.hid hr2
  clear hr1 hr2
  obtain ⟨p, a, b, c, d⟩ := s
  have heq3 : ∀ w, (Op.equalIn 9999 3 (.int .i64 p) (.int .i64 p)).run Tryz.prog w = .ok true w := fun w => by
    have := eqint p p w 9998
    rw [beq_self_eq_true] at this
    exact this
  have heq29 : ∀ w, (Op.equalIn 9999 29 (.agg #[.int .i64 a, .int .i64 b, .int .i64 c, .int .i64 d]) (.agg #[.int .i64 a, .int .i64 b, .int .i64 c, .int .i64 d])).run Tryz.prog w = .ok true w := fun w => eq29_same (a, b, c, d) w 9997
  go_enter Tryz.func128, Tryz.ntmps128
  go_wp2_with fail
  go_loopw [13] (fun i wr => (i = .int .i64 0 ∧ wr = w) ∨ (i = .int .i64 1 ∧ Hid (Below w.heap.size w wr))) (fun i _ => 1 - (intOf i).toNat)
  case atStart => exact .inl ⟨rfl, rfl⟩
  case round =>
    rcases hrel with ⟨rfl, rfl⟩ | ⟨rfl, HB⟩
    · go_upto_region 6 with fail
      obtain ⟨f63, hu63⟩ := und63
      refine wp_region_pick [0, 1, 2, 4, 5, 6] [3, 7] [] [8] [8] (by kernel_rfl) (by kernel_rfl) (by kernel_rfl) ?_
      refine pure_takeD 16 rfl (by rfl) ?v0 ?h0 ?r0
      case h0 => (intro w0 _; go_simp; try (with_reducible rfl))
      (try simp only [Act.put, List.setIfInBounds_toArray, List.set_cons_zero, List.set_cons_succ])
      refine pure_takeD 17 rfl (by rfl) ?v1 ?h1 ?r1
      case h1 => (intro w0 _; go_simp; try (with_reducible rfl))
      (try simp only [Act.put, List.setIfInBounds_toArray, List.set_cons_zero, List.set_cons_succ])
      refine pure_takeD 18 rfl (by rfl) ?v2 ?h2 ?r2
      case h2 => (intro w0 _; go_simp; try (with_reducible rfl))
      (try simp only [Act.put, List.setIfInBounds_toArray, List.set_cons_zero, List.set_cons_succ])
      refine pure_takeD 20 rfl (by rfl) ?v3 ?h3 ?r3
      case h3 => (intro w0 _; go_simp; try (with_reducible rfl))
      (try simp only [Act.put, List.setIfInBounds_toArray, List.set_cons_zero, List.set_cons_succ])
      refine pure_takeD 21 rfl (by rfl) ?v4 ?h4 ?r4
      case h4 => (intro w0 _; go_simp; try (with_reducible rfl))
      (try simp only [Act.put, List.setIfInBounds_toArray, List.set_cons_zero, List.set_cons_succ])
      refine pure_takeD 22 rfl (by rfl) ?v5 ?h5 ?r5
      case h5 => (intro w0 _; go_simp; try (with_reducible rfl))
      (try simp only [Act.put, List.setIfInBounds_toArray, List.set_cons_zero, List.set_cons_succ])
      refine pure_end ?_
      (try dsimp only)
      refine pure_mid 19 rfl (by rfl) 63 _ rfl g1 0 rfl [.int .i64 p, .int .i64 a, .int .i64 b, .int .i64 c, .int .i64 d] (.struct f63) (fun w0 hw0 => ?m19) hu63 rfl inf63 ?_
      case m19 => (obtain ⟨kz, rfl⟩ := hw0; exact range_kept kz.kp h1 H1.out)
      (try simp only [Act.put, List.setIfInBounds_toArray, List.set_cons_zero, List.set_cons_succ])
      refine pure_mid 23 rfl (by rfl) 63 _ rfl g2 0 rfl [.int .i64 p, .int .i64 a, .int .i64 b, .int .i64 c, .int .i64 d] (.struct f63) (fun w0 hw0 => ?m23) hu63 rfl inf63 ?_
      case m23 => (obtain ⟨kz, rfl⟩ := hw0; exact range_kept kz.kp h2 H2.out)
      (try simp only [Act.put, List.setIfInBounds_toArray, List.set_cons_zero, List.set_cons_succ])
      refine pure_end ?_
      (try dsimp only)
      intro kz
      have HB := Lib.hid kz.kp
      clear hu63
      show wpList _ _ _ _ _ _
      go_wp2_with fail
      refine NoPanic.normal ?_
      go_wp2_with fail
      go_roundw
      case rel => exact .inr ⟨by first | rfl | go_num, HB⟩
      case measure => first | omega | (simp [intOf]) | (simp [intOf]; omega)
    · go_wp2_with fail
      go_ret
      exact ⟨rfl, HB.out⟩
end Go.Proofs.YtekfkieimdgfkaaGreat
/- What is proved here: two cases are the same, but for a field's number. Condition: what is known of them is. -/
namespace Go.Proofs.YtekfkieimdgfkaaGreat
open Go Go.RowKit
attribute [local go_sem] KW.cell KW.frozen
theorem row_range {w : World} {b : Nat} {cs : Array Value} {t : TypeId} (h : w.heap[b]? = some (.cells cs t (0, 0))) : w.rangeAt b 0 cs.toList := by
  intro j v hj
  rw [Nat.zero_add, block_cell h]
  simpa using hj
set_option maxRecDepth 100000 in
set_option maxHeartbeats 4000000 in
theorem same127_in (ac ad : Array Value) (s : Sn) (oc od : Option Addr) (nc cc nd cd bf : Nat) (f : Int) (r : Bool) (w : World) (hzc : ac.size = 6) (hzd : ad.size = 6) (_hoc : ac.toList.all (·.oneCell') = true) (_hod : ad.toList.all (·.oneCell') = true) (hbf : bf < w.heap.size) (hf : w.cell? ⟨bf, 0, none⟩ = some (.int .i64 f))
    (X1 : ∀ w, Ret 88 #[.agg ac, .int .i64 f, .int .i64 (-1)] (csV s (.slice oc nc cc)) w) (X2 : ∀ w, Ret 88 #[.agg ad, .int .i64 f, .int .i64 (-1)] (csV s (.slice od nd cd)) w)
    (X : ∀ w', Below w.heap.size w w' → Ret 128 #[.slice oc nc cc, .slice od nd cd] (.bool r) w') :
    Ret 127 #[.agg ac, .agg ad, .pointer (some ⟨bf, 0, none⟩)] (.bool r) w := by
  have HB : Hid (Below w.heap.size w ((w.alloc (.cells ac 89)).alloc (.cells ad 89))) := Lib.hid (((Below.refl _ _).alloc (Nat.le_refl _) _).alloc (by simp) _)
  have HC : Hid (((w.alloc (.cells ac 89)).alloc (.cells ad 89)).heap[w.heap.size]? = some (.cells ac 89 (0, 0))) :=
    Lib.hid ((Below.heap_alloc _ _ _ (by simp)).trans (heap_alloc_new w _))
  have HD : Hid (((w.alloc (.cells ac 89)).alloc (.cells ad 89)).heap[w.heap.size + 1]? = some (.cells ad 89 (0, 0))) := by
    have := heap_alloc_new (w.alloc (.cells ac 89)) (.cells ad 89)
    exact Lib.hid (by simpa using this)
  have HF := Lib.hid hf
  have XX := Lib.hid X
  have Y1 := Lib.hid X1
  have Y2 := Lib.hid X2
  clear hf X X1 X2
  unfold Ret
  go_enter Tryz.func127, Tryz.ntmps127
  go_upto_region 1 with fail
  refine abs_wp ?_
  intro wb hwb
  have HBb : Hid (Below w.heap.size w wb) := by rw [hwb]; exact HB
  have HCb : Hid (wb.heap[w.heap.size]? = some (.cells ac 89 (0, 0))) := by rw [hwb]; exact HC
  have HDb : Hid (wb.heap[w.heap.size + 1]? = some (.cells ad 89 (0, 0))) := by rw [hwb]; exact HD
  clear hwb HB HC HD
  have hc0 : wb.cell? ⟨bf, 0, none⟩ = some (.int .i64 f) := (HBb.out.cell (p := ⟨bf, 0, none⟩) hbf).trans HF.out
  have hlf : bf < wb.heap.size := Nat.lt_of_lt_of_le hbf HBb.out.size
  have hlc := block_lt HCb.out
  have hld := block_lt HDb.out
  obtain ⟨f89, hu89⟩ := und89
  refine wp_region_pick [] [0, 1, 3, 4] [2, 5] [6, 7] [6, 7] (by kernel_rfl) (by kernel_rfl) (by kernel_rfl) ?_
  refine pure_end ?_
  (try dsimp only)
  refine pure_mid 6 rfl (by rfl) 89 _ rfl w.heap.size 0 rfl ac.toList (.struct f89) (fun w0 hw0 => ?ma) hu89 rfl (by rw [Array.length_toList, hzc]; exact inf89) ?_
  case ma => (obtain ⟨kz, rfl⟩ := hw0; exact row_range ((kz.kp.block _ hlc).trans HCb.out))
  (try simp only [Act.put, List.setIfInBounds_toArray, List.set_cons_zero, List.set_cons_succ])
  refine pure_takeD 7 rfl (by rfl) ?v0 ?k0 ?s0
  case k0 => (rintro w0 ⟨kz, rfl⟩; go_simp; try (with_reducible rfl))
  (try simp only [Act.put, List.setIfInBounds_toArray, List.set_cons_zero, List.set_cons_succ])
  refine pure_mid 9 rfl (by rfl) 89 _ rfl (w.heap.size + 1) 0 rfl ad.toList (.struct f89) (fun w0 hw0 => ?mb) hu89 rfl (by rw [Array.length_toList, hzd]; exact inf89) ?_
  case mb => (obtain ⟨kz, rfl⟩ := hw0; exact row_range ((kz.kp.block _ hld).trans HDb.out))
  (try simp only [Act.put, List.setIfInBounds_toArray, List.set_cons_zero, List.set_cons_succ])
  refine pure_takeD 10 rfl (by rfl) ?v1 ?k1 ?s1
  case k1 => (rintro w0 ⟨kz, rfl⟩; go_simp; try (with_reducible rfl))
  (try simp only [Act.put, List.setIfInBounds_toArray, List.set_cons_zero, List.set_cons_succ])
  refine pure_end ?_
  (try dsimp only)
  intro kz
  refine keep_call (by rfl) 88 #[.agg ac, .int .i64 f, .int .i64 (-1)] ?hc ?_
  case hc => (go_simp; try rfl)
  refine (Y1.out kz.val).mono ?_
  rintro e w6 ⟨rfl, hb6⟩
  have hszk := kz.kp.size
  have HB6 := Lib.hid (kz.kp.trans (hb6.mono hszk))
  refine ⟨_, rfl, ⟨⟨w6, HB6.out⟩, rfl⟩, ?_⟩
  refine keep_call (by rfl) 88 #[.agg ad, .int .i64 f, .int .i64 (-1)] ?hc2 ?_
  case hc2 => (go_simp; try rfl)
  refine (Y2.out w6).mono ?_
  rintro e w7 ⟨rfl, hb7⟩
  have HB7 := Lib.hid (HB6.out.trans (hb7.mono HB6.out.size))
  refine ⟨_, rfl, ⟨⟨w7, HB7.out⟩, rfl⟩, ?_⟩
  have HC7 := Lib.hid ((HB7.out.block _ hlc).trans HCb.out)
  have HD7 := Lib.hid ((HB7.out.block _ hld).trans HDb.out)
  have HBw := Lib.hid (HBb.out.trans (HB7.out.mono HBb.out.size))
  clear hb6 hb7 hszk HB6 HB7 HBb HCb HDb hc0 hlf hlc hld hu89 HF Y1 Y2
  show wpList _ _ _ _ _ _
  obtain ⟨p, a, b, c, d⟩ := s
  refine wpList_store_o rfl 89 _ _ rfl w.heap.size (csA (p, a, b, c, d) (.slice oc nc cc)) rfl rfl 89 _ HC7.out inf89 (by rw [hzc]; rfl) rfl ?_
  intro w8 hg8 ho8
  have HC8 := Lib.hid hg8
  have HD8 := Lib.hid ((ho8.block _ (by omega)).trans HD7.out)
  have HB8 := Lib.hid (ho8.belowT HBw.out (Nat.le_refl _))
  refine wpList_store_o rfl 89 _ _ rfl (w.heap.size + 1) (csA (p, a, b, c, d) (.slice od nd cd)) rfl rfl 89 _ HD8.out inf89 (by rw [hzd]; rfl) rfl ?_
  intro w9 hg9 ho9
  have HD9 := Lib.hid hg9
  have HC9 := Lib.hid ((ho9.block _ (by omega)).trans HC8.out)
  have HB9 := Lib.hid (ho9.belowT HB8.out (by omega))
  clear hg8 ho8 hg9 ho9 HC8 HD8 HB8 HC7 HD7 HBw
  refine NoPanic.normal ?_
  have c0 := block_cell HC9.out 0
  have c1 := block_cell HC9.out 1
  have c2 := block_cell HC9.out 2
  have c3 := block_cell HC9.out 3
  have c4 := block_cell HC9.out 4
  have c5 := block_cell HC9.out 5
  have d0 := block_cell HD9.out 0
  have d1 := block_cell HD9.out 1
  have d2 := block_cell HD9.out 2
  have d3 := block_cell HD9.out 3
  have d4 := block_cell HD9.out 4
  have d5 := block_cell HD9.out 5
  simp only [csA, List.getElem?_toArray, List.getElem?_cons_zero, List.getElem?_cons_succ] at c0 c1 c2 c3 c4 c5 d0 d1 d2 d3 d4 d5
  have hlc := block_lt HC9.out
  have hld := block_lt HD9.out
  have heq29 : ∀ w, (Op.equalIn 9999 29 (.agg #[.int .i64 a, .int .i64 b, .int .i64 c, .int .i64 d]) (.agg #[.int .i64 a, .int .i64 b, .int .i64 c, .int .i64 d])).run Tryz.prog w = .ok true w := fun w => eq29_same (a, b, c, d) w 9997
  have heq29t : ∀ w, (Op.equalIn 10000 29 (.agg #[.int .i64 a, .int .i64 b, .int .i64 c, .int .i64 d]) (.agg #[.int .i64 a, .int .i64 b, .int .i64 c, .int .i64 d])).run Tryz.prog w = .ok true w := fun w => eq29_same (a, b, c, d) w 9998
  go_wp2_with fail
  refine (XX.out _ HB9.out).mono ?_
  rintro e w10 ⟨rfl, hb10⟩
  have HBF := Lib.hid (HB9.out.trans (hb10.mono HB9.out.size))
  clear hb10 c0 c1 c2 c3 c4 c5 d0 d1 d2 d3 d4 d5 hlc hld HB9 HC9 HD9 XX heq29 heq29t
  go_wp2_with fail
  go_ret
  exact ⟨rfl, HBF.out⟩
theorem same127_c (c d : Sn) (oc od : Option Addr) (nc cc nd cd bf : Nat) (f : Int) (r : Bool) (w : World) (h0 : 0 ≤ f) (h4 : f ≤ 4) (hbf : bf < w.heap.size) (hf : w.cell? ⟨bf, 0, none⟩ = some (.int .i64 f)) (hs : withS c f (-1) = withS d f (-1))
    (X : ∀ w', Below w.heap.size w w' → Ret 128 #[.slice oc nc cc, .slice od nd cd] (.bool r) w') :
    Ret 127 #[csV c (.slice oc nc cc), csV d (.slice od nd cd), .pointer (some ⟨bf, 0, none⟩)] (.bool r) w :=
  same127_in (csA c (.slice oc nc cc)) (csA d (.slice od nd cd)) (withS c f (-1)) oc od nc cc nd cd bf f r w rfl rfl rfl rfl hbf hf (fun w => with_c c f (-1) oc nc cc w h0 h4) (fun w => by rw [hs]; exact with_c d f (-1) od nd cd w h0 h4) X
end Go.Proofs.YtekfkieimdgfkaaGreat
