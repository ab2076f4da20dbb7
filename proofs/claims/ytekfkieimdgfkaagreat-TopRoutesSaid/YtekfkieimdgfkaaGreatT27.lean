/- What is proved here: which packets a match hits. Condition: it asks nothing, or the number in dst. -/
import Derived.Test.YtekfkieimdgfkaaGreatT26
namespace Go.Proofs.YtekfkieimdgfkaaGreat
open Go Go.RowKit
attribute [local go_sem] KW.cell KW.frozen
theorem ix28_0 (a b c d : Value) (w : World) : (Instr.index 28 (.agg #[a, b, c, d]) (.int .i64 0)).run Tryz.prog w = .ok a w := by kernel_rfl
theorem ix28_1 (a b c d : Value) (w : World) : (Instr.index 28 (.agg #[a, b, c, d]) (.int .i64 1)).run Tryz.prog w = .ok b w := by kernel_rfl
theorem ix28_2 (a b c d : Value) (w : World) : (Instr.index 28 (.agg #[a, b, c, d]) (.int .i64 2)).run Tryz.prog w = .ok c w := by kernel_rfl
theorem ix28_3 (a b c d : Value) (w : World) : (Instr.index 28 (.agg #[a, b, c, d]) (.int .i64 3)).run Tryz.prog w = .ok d w := by kernel_rfl
attribute [local go_sem] ix28_0 ix28_1 ix28_2 ix28_3
theorem inf28 : (Tryz.prog.info? 28).map (·.size) = some 4 := by kernel_rfl
theorem und28 : ∃ d, Tryz.prog.underlying 28 = some d ∧ d.isRow = true := by
  have h : (match Tryz.prog.underlying 28 with | some d => d.isRow | _ => false) = true := by kernel_rfl
  cases hu : Tryz.prog.underlying 28 with
  | none => rw [hu] at h; cases h
  | some d => rw [hu] at h; exact ⟨d, rfl, h⟩
theorem i64_wrap0 : IntKind.i64.wrap 0 = 0 := by decide
theorem and_zero (y : Int) : bits .and .i64 y 0 = 0 := by
  simp [bits, i64_wrap0]
theorem i64_small (n : Nat) (h : n < 256) : IntKind.i64.wrap (n : Int) = n := IntWalk.i64_in (n : Int) ⟨by omega, by omega⟩
theorem bv_small (n : Nat) (h : n < 256) : (BitVec.ofInt 64 (n : Int)).toNat = n := by
  rw [BitVec.ofInt_natCast, BitVec.toNat_ofNat]
  exact Nat.mod_eq_of_lt (by omega)
theorem and_xor (a b : Int) (h1 : 0 ≤ a) (h2 : a ≤ 255) (h3 : 0 ≤ b) (h4 : b ≤ 255) : (bits .and .i64 (bits .xor .i64 a b) 255 = 0) ↔ a = b := by
  obtain ⟨m, rfl⟩ := Int.eq_ofNat_of_zero_le h1
  obtain ⟨n, rfl⟩ := Int.eq_ofNat_of_zero_le h3
  have hm : m < 256 := by omega
  have hn : n < 256 := by omega
  have hx : m ^^^ n < 2 ^ 8 := Nat.xor_lt_two_pow (by omega) (by omega)
  have e1 : bits .xor .i64 (m : Int) (n : Int) = ((m ^^^ n : Nat) : Int) := by
    show IntKind.i64.wrap ((BitVec.ofInt 64 (m : Int) ^^^ BitVec.ofInt 64 (n : Int)).toNat : Int) = _
    rw [BitVec.toNat_xor, bv_small m hm, bv_small n hn, i64_small _ (by omega)]
  have e2 : bits .and .i64 ((m ^^^ n : Nat) : Int) 255 = (((m ^^^ n) &&& 255 : Nat) : Int) := by
    show IntKind.i64.wrap ((BitVec.ofInt 64 ((m ^^^ n : Nat) : Int) &&& BitVec.ofInt 64 ((255 : Nat) : Int)).toNat : Int) = _
    rw [BitVec.toNat_and, bv_small _ (by omega), bv_small 255 (by omega)]
    have : (m ^^^ n) &&& 255 ≤ 255 := Nat.and_le_right
    rw [i64_small _ (by omega)]
  have e3 : (m ^^^ n) &&& 255 = m ^^^ n := by
    have := Nat.and_two_pow_sub_one_eq_mod (m ^^^ n) 8
    rw [show (2 ^ 8 - 1) = 255 from rfl] at this
    rw [this]
    exact Nat.mod_eq_of_lt hx
  rw [e1, e2, e3]
  constructor
  · intro h
    have h0 : m ^^^ n = 0 := by omega
    have h5 : m = n := by
      have h6 : m ^^^ n ^^^ n = 0 ^^^ n := by rw [h0]
      rw [Nat.xor_assoc, Nat.xor_self, Nat.xor_zero, Nat.zero_xor] at h6
      exact h6
    rw [h5]
  · intro h
    have h5 : m = n := by omega
    rw [h5, Nat.xor_self]
    rfl
attribute [local go_sem] and_zero
set_option maxRecDepth 100000 in
set_option maxHeartbeats 8000000 in
theorem hits_any (port : Int) (p : Pk) (w : World) : Ret 41 #[.agg (mtA anyM), .int .i64 port, .agg (pkA p)] (.bool true) w := by
  have HB : Hid (Below w.heap.size w ((w.alloc (.cells (mtA anyM) 67)).alloc (.cells (pkA p) 29))) := Lib.hid (((Below.refl _ _).alloc (Nat.le_refl _) _).alloc (by simp) _)
  have HM : Hid (((w.alloc (.cells (mtA anyM) 67)).alloc (.cells (pkA p) 29)).heap[w.heap.size]? = some (.cells (mtA anyM) 67 (0, 0))) :=
    Lib.hid ((Below.heap_alloc _ _ _ (by simp)).trans (heap_alloc_new w _))
  have HP : Hid (((w.alloc (.cells (mtA anyM) 67)).alloc (.cells (pkA p) 29)).heap[w.heap.size + 1]? = some (.cells (pkA p) 29 (0, 0))) := by
    have := heap_alloc_new (w.alloc (.cells (mtA anyM) 67)) (.cells (pkA p) 29)
    exact Lib.hid (by simpa using this)
  obtain ⟨pa, pb, pc, pd⟩ := p
  unfold Ret
  simp only [mtA, pkA] at HB HM HP ⊢
  go_enter Tryz.func41, Tryz.ntmps41
  go_upto_region 1 with fail
  refine abs_wp ?_
  intro w1 hw1
  have HB1 : Hid (Below w.heap.size w w1) := by rw [hw1]; exact HB
  have HM1 : Hid (w1.heap[w.heap.size]? = some (.cells (mtA anyM) 67 (0, 0))) := by rw [hw1]; exact HM
  have HP1 : Hid (w1.heap[w.heap.size + 1]? = some (.cells (pkA (pa, pb, pc, pd)) 29 (0, 0))) := by rw [hw1]; exact HP
  clear hw1 HB HM HP
  have hlm := block_lt HM1.out
  have c0 := block_cell HM1.out 0
  simp only [mtA, List.getElem?_toArray, List.getElem?_cons_zero] at c0
  go_wp2_with (refine stop_load 28 _ rfl ?_)
  obtain ⟨d28, hu28, hd28⟩ := und28
  refine Stop.go (wpList_load_mid rfl 28 _ rfl w.heap.size 5 rfl [.int .i64 0, .int .i64 0, .int .i64 0, .int .i64 0] d28 ?_ hu28 hd28 inf28 ?_)
  · intro j v hj
    rw [block_cell HM1.out]
    have hl : j < 4 := (List.getElem?_eq_some_iff.1 hj).1
    rcases (by omega : j = 0 ∨ j = 1 ∨ j = 2 ∨ j = 3) with rfl | rfl | rfl | rfl <;> exact hj
  clear hu28 hd28 c0 hlm
  go_wp2_with fail
  go_loopw [20] (fun i wr => (i = .int .i64 0 ∨ i = .int .i64 1 ∨ i = .int .i64 2 ∨ i = .int .i64 3 ∨ i = .int .i64 4) ∧ Hid (Below w1.heap.size w1 wr)) (fun i _ => 4 - (intOf i).toNat)
  case atStart => exact ⟨.inl rfl, Lib.hid (Below.refl _ _)⟩
  case round =>
    obtain ⟨hi, HBr⟩ := hrel
    have HMr := Lib.hid ((HBr.out.block _ (block_lt HM1.out)).trans HM1.out)
    have HPr := Lib.hid ((HBr.out.block _ (block_lt HP1.out)).trans HP1.out)
    have hlm := block_lt HMr.out
    have hlp := block_lt HPr.out
    rcases hi with rfl | rfl | rfl | rfl | rfl
    · have cp := block_cell HPr.out 0
      have cv := block_cell HMr.out 1
      simp only [mtA, pkA, List.getElem?_toArray, List.getElem?_cons_zero, List.getElem?_cons_succ] at cp cv
      go_wp2_with fail
      refine wp_region_kq (by kernel_rfl) (by kernel_rfl) ?_
      repeat (first | go_big_quiet_step (fail) | quiet_step (fail))
      refine wpQuiet_nil ?_
      intro kz
      have HZ := Lib.hid (HBr.out.trans (kz.kp.mono HBr.out.size))
      go_wp2_with fail
      go_roundw
      case rel => exact ⟨by simp, HZ⟩
      case measure => simp [intOf]
    · have cp := block_cell HPr.out 1
      have cv := block_cell HMr.out 2
      simp only [mtA, pkA, List.getElem?_toArray, List.getElem?_cons_zero, List.getElem?_cons_succ] at cp cv
      go_wp2_with fail
      refine wp_region_kq (by kernel_rfl) (by kernel_rfl) ?_
      repeat (first | go_big_quiet_step (fail) | quiet_step (fail))
      refine wpQuiet_nil ?_
      intro kz
      have HZ := Lib.hid (HBr.out.trans (kz.kp.mono HBr.out.size))
      go_wp2_with fail
      go_roundw
      case rel => exact ⟨by simp, HZ⟩
      case measure => simp [intOf]
    · have cp := block_cell HPr.out 2
      have cv := block_cell HMr.out 3
      simp only [mtA, pkA, List.getElem?_toArray, List.getElem?_cons_zero, List.getElem?_cons_succ] at cp cv
      go_wp2_with fail
      refine wp_region_kq (by kernel_rfl) (by kernel_rfl) ?_
      repeat (first | go_big_quiet_step (fail) | quiet_step (fail))
      refine wpQuiet_nil ?_
      intro kz
      have HZ := Lib.hid (HBr.out.trans (kz.kp.mono HBr.out.size))
      go_wp2_with fail
      go_roundw
      case rel => exact ⟨by simp, HZ⟩
      case measure => simp [intOf]
    · have cp := block_cell HPr.out 3
      have cv := block_cell HMr.out 4
      simp only [mtA, pkA, List.getElem?_toArray, List.getElem?_cons_zero, List.getElem?_cons_succ] at cp cv
      go_wp2_with fail
      refine wp_region_kq (by kernel_rfl) (by kernel_rfl) ?_
      repeat (first | go_big_quiet_step (fail) | quiet_step (fail))
      refine wpQuiet_nil ?_
      intro kz
      have HZ := Lib.hid (HBr.out.trans (kz.kp.mono HBr.out.size))
      go_wp2_with fail
      go_roundw
      case rel => exact ⟨by simp, HZ⟩
      case measure => simp [intOf]
    · go_wp2_with fail
      go_ret
      exact ⟨rfl, HB1.out.trans (HBr.out.mono HB1.out.size)⟩
set_option maxRecDepth 100000 in
set_option maxHeartbeats 8000000 in
theorem hits_dst (x : Int) (port : Int) (p : Pk) (w : World) (hx0 : 0 ≤ x) (hx1 : x ≤ 255) (hp : RightF p) : Ret 41 #[.agg (mtA (dstM x)), .int .i64 port, .agg (pkA p)] (.bool (decide (p.2.1 = x))) w := by
  have HB : Hid (Below w.heap.size w ((w.alloc (.cells (mtA (dstM x)) 67)).alloc (.cells (pkA p) 29))) := Lib.hid (((Below.refl _ _).alloc (Nat.le_refl _) _).alloc (by simp) _)
  have HM : Hid (((w.alloc (.cells (mtA (dstM x)) 67)).alloc (.cells (pkA p) 29)).heap[w.heap.size]? = some (.cells (mtA (dstM x)) 67 (0, 0))) :=
    Lib.hid ((Below.heap_alloc _ _ _ (by simp)).trans (heap_alloc_new w _))
  have HP : Hid (((w.alloc (.cells (mtA (dstM x)) 67)).alloc (.cells (pkA p) 29)).heap[w.heap.size + 1]? = some (.cells (pkA p) 29 (0, 0))) := by
    have := heap_alloc_new (w.alloc (.cells (mtA (dstM x)) 67)) (.cells (pkA p) 29)
    exact Lib.hid (by simpa using this)
  have hb0 := and_xor p.2.1 x hp.2.1.1 hp.2.1.2 hx0 hx1
  obtain ⟨b, hb⟩ : ∃ b, decide (p.2.1 = x) = b := ⟨_, rfl⟩
  rw [hb]
  have hc : (bits .and .i64 (bits .xor .i64 p.2.1 x) 255 == 0) = b := by rw [← hb, Bool.eq_iff_iff, beq_iff_eq, decide_eq_true_eq]; exact hb0
  clear hb0 hp hb
  obtain ⟨pa, pb, pc, pd⟩ := p
  unfold Ret
  simp only [mtA, pkA] at HB HM HP hc ⊢
  go_enter Tryz.func41, Tryz.ntmps41
  go_upto_region 1 with fail
  refine abs_wp ?_
  intro w1 hw1
  have HB1 : Hid (Below w.heap.size w w1) := by rw [hw1]; exact HB
  have HM1 : Hid (w1.heap[w.heap.size]? = some (.cells (mtA (dstM x)) 67 (0, 0))) := by rw [hw1]; exact HM
  have HP1 : Hid (w1.heap[w.heap.size + 1]? = some (.cells (pkA (pa, pb, pc, pd)) 29 (0, 0))) := by rw [hw1]; exact HP
  clear hw1 HB HM HP
  have hlm := block_lt HM1.out
  have c0 := block_cell HM1.out 0
  simp only [mtA, List.getElem?_toArray, List.getElem?_cons_zero] at c0
  go_wp2_with (refine stop_load 28 _ rfl ?_)
  obtain ⟨d28, hu28, hd28⟩ := und28
  refine Stop.go (wpList_load_mid rfl 28 _ rfl w.heap.size 5 rfl [.int .i64 0, .int .i64 255, .int .i64 0, .int .i64 0] d28 ?_ hu28 hd28 inf28 ?_)
  · intro j v hj
    rw [block_cell HM1.out]
    have hl : j < 4 := (List.getElem?_eq_some_iff.1 hj).1
    rcases (by omega : j = 0 ∨ j = 1 ∨ j = 2 ∨ j = 3) with rfl | rfl | rfl | rfl <;> exact hj
  clear hu28 hd28 c0 hlm
  go_wp2_with fail
  go_loopw [20] (fun i wr => ((i = .int .i64 0 ∨ i = .int .i64 1) ∨ (b = true ∧ (i = .int .i64 2 ∨ i = .int .i64 3 ∨ i = .int .i64 4))) ∧ Hid (Below w1.heap.size w1 wr)) (fun i _ => 4 - (intOf i).toNat)
  case atStart => exact ⟨.inl (.inl rfl), Lib.hid (Below.refl _ _)⟩
  case round =>
    obtain ⟨hi, HBr⟩ := hrel
    have HMr := Lib.hid ((HBr.out.block _ (block_lt HM1.out)).trans HM1.out)
    have HPr := Lib.hid ((HBr.out.block _ (block_lt HP1.out)).trans HP1.out)
    have hlm := block_lt HMr.out
    have hlp := block_lt HPr.out
    rcases hi with (rfl | rfl) | ⟨rfl, rfl | rfl | rfl⟩
    · have cp := block_cell HPr.out 0
      have cv := block_cell HMr.out 1
      simp only [mtA, pkA, List.getElem?_toArray, List.getElem?_cons_zero, List.getElem?_cons_succ] at cp cv
      go_wp2_with fail
      refine wp_region_kq (by kernel_rfl) (by kernel_rfl) ?_
      repeat (first | go_big_quiet_step (fail) | quiet_step (fail))
      refine wpQuiet_nil ?_
      intro kz
      have HZ := Lib.hid (HBr.out.trans (kz.kp.mono HBr.out.size))
      go_wp2_with fail
      go_roundw
      case rel => exact ⟨by simp, HZ⟩
      case measure => simp [intOf]
    · cases b
      · have cp := block_cell HPr.out 1
        have cv := block_cell HMr.out 2
        simp only [mtA, pkA, List.getElem?_toArray, List.getElem?_cons_zero, List.getElem?_cons_succ] at cp cv
        go_wp2_with fail
        refine wp_region_kq (by kernel_rfl) (by kernel_rfl) ?_
        repeat (first | go_big_quiet_step (fail) | quiet_step (fail))
        refine wpQuiet_nil ?_
        intro kz
        have HZ := Lib.hid (HBr.out.trans (kz.kp.mono HBr.out.size))
        go_wp2_with fail
        go_ret
        exact ⟨rfl, HB1.out.trans (HZ.out.mono HB1.out.size)⟩
      · have cp := block_cell HPr.out 1
        have cv := block_cell HMr.out 2
        simp only [mtA, pkA, List.getElem?_toArray, List.getElem?_cons_zero, List.getElem?_cons_succ] at cp cv
        go_wp2_with fail
        refine wp_region_kq (by kernel_rfl) (by kernel_rfl) ?_
        repeat (first | go_big_quiet_step (fail) | quiet_step (fail))
        refine wpQuiet_nil ?_
        intro kz
        have HZ := Lib.hid (HBr.out.trans (kz.kp.mono HBr.out.size))
        go_wp2_with fail
        go_roundw
        case rel => exact ⟨by simp, HZ⟩
        case measure => simp [intOf]
    · have cp := block_cell HPr.out 2
      have cv := block_cell HMr.out 3
      simp only [mtA, pkA, List.getElem?_toArray, List.getElem?_cons_zero, List.getElem?_cons_succ] at cp cv
      go_wp2_with fail
      refine wp_region_kq (by kernel_rfl) (by kernel_rfl) ?_
      repeat (first | go_big_quiet_step (fail) | quiet_step (fail))
      refine wpQuiet_nil ?_
      intro kz
      have HZ := Lib.hid (HBr.out.trans (kz.kp.mono HBr.out.size))
      go_wp2_with fail
      go_roundw
      case rel => exact ⟨by simp, HZ⟩
      case measure => simp [intOf]
    · have cp := block_cell HPr.out 3
      have cv := block_cell HMr.out 4
      simp only [mtA, pkA, List.getElem?_toArray, List.getElem?_cons_zero, List.getElem?_cons_succ] at cp cv
      go_wp2_with fail
      refine wp_region_kq (by kernel_rfl) (by kernel_rfl) ?_
      repeat (first | go_big_quiet_step (fail) | quiet_step (fail))
      refine wpQuiet_nil ?_
      intro kz
      have HZ := Lib.hid (HBr.out.trans (kz.kp.mono HBr.out.size))
      go_wp2_with fail
      go_roundw
      case rel => exact ⟨by simp, HZ⟩
      case measure => simp [intOf]
    · go_wp2_with fail
      go_ret
      exact ⟨rfl, HB1.out.trans (HBr.out.mono HB1.out.size)⟩
end Go.Proofs.YtekfkieimdgfkaaGreat
/- What is proved here: what acts send of a packet. Condition: there is none, or one, that sends it. -/
namespace Go.Proofs.YtekfkieimdgfkaaGreat
open Go Go.RowKit
attribute [local go_sem] KW.cell KW.frozen
theorem inf97 : (Tryz.prog.info? 97).map (·.size) = some 3 := by kernel_rfl
theorem und97 : ∃ fs, Tryz.prog.underlying 97 = some (.struct fs) := by
  have h : (match Tryz.prog.underlying 97 with | some (.struct _) => true | _ => false) = true := by kernel_rfl
  cases hu : Tryz.prog.underlying 97 with
  | none => rw [hu] at h; cases h
  | some d => cases d <;> (rw [hu] at h; first | exact ⟨_, rfl⟩ | cases h)
abbrev zero29 : Array Value := #[.int .i64 0, .int .i64 0, .int .i64 0, .int .i64 0]
abbrev zero97 : Array Value := #[.int .i64 0, .int .i64 0, .int .i64 0]
theorem range_all {w : World} {b : Nat} {cs : Array Value} {t : TypeId} (h : w.heap[b]? = some (.cells cs t (0, 0))) : w.rangeAt b 0 cs.toList := by
  intro j v hj
  rw [Nat.zero_add, block_cell h]
  simpa using hj
set_option maxRecDepth 100000 in
set_option maxHeartbeats 8000000 in
theorem arun_nil (ao : Option Addr) (c : Nat) (p : Pk) (w : World) : Ret 21 #[.slice ao 0 c, .agg (pkA p)] (.slice none 0 0) w := by
  have HB := Lib.hid (grow1 w (.cells (pkA p) 29))
  have HP := Lib.hid (heap_alloc_new w (.cells (pkA p) 29))
  unfold Ret
  go_enter Tryz.func21, Tryz.ntmps21
  go_upto_region 2 with fail
  refine abs_wp ?_
  intro w1 hw1
  have HB1 : Hid (Below w.heap.size w w1) := by rw [hw1]; exact HB
  have HP1 : Hid (w1.heap[w.heap.size]? = some (.cells (pkA p) 29 (0, 0))) := by rw [hw1]; exact HP
  clear hw1 HB HP
  go_wp2_with (refine stop_load 29 _ rfl ?_)
  obtain ⟨d29, hu29, hd29⟩ := und29
  refine Stop.go (wpList_load_mid rfl 29 _ rfl w.heap.size 0 rfl (pkA p).toList d29 (range_all HP1.out) hu29 hd29 inf29 ?_)
  clear hu29 hd29
  go_wp2_with (refine stop_store 29 _ _ rfl ?_)
  refine Stop.go (abs_list ?_)
  intro w2 e2
  have HB2 : Hid (Below w.heap.size w w2) := by rw [e2]; exact Lib.hid (HB1.out.alloc HB1.out.size _)
  have HM2 : Hid (w2.heap[w1.heap.size]? = some (.cells zero29 29 (0, 0))) := by rw [e2]; exact Lib.hid (heap_alloc_new w1 _)
  have hs1 := HB1.out.size
  clear e2 HB1 HP1
  refine wpList_store_o rfl 29 _ _ rfl w1.heap.size (pkA p) rfl rfl 29 _ HM2.out inf29 rfl rfl ?_
  intro w3 hg3 ho3
  have HB3 := Lib.hid (ho3.belowT HB2.out hs1)
  clear hg3 ho3 HB2 HM2
  go_wp2_with fail
  go_loopw [12, 5] (fun i o wr => i = .int .i64 0 ∧ o = .slice none 0 0 ∧ Hid (Below w.heap.size w wr)) (fun _ _ _ => 0)
  case atStart => exact ⟨rfl, rfl, HB3⟩
  case round =>
    obtain ⟨rfl, rfl, HBr⟩ := hrel
    go_wp2_with fail
    go_ret
    exact ⟨rfl, HBr.out⟩
set_option maxRecDepth 100000 in
set_option maxHeartbeats 8000000 in
theorem arun_one (o : Value) (B : Nat) (q : Int) (p : Pk) (w : World) (ho : w.ownsRow B 97 3 o 1 (acE (2, 0, q))) :
    Calls Tryz.prog 21 #[o, .agg (pkA p)] w fun e w' => ∃ v, e = .returned v ∧ w'.ownsRow w.heap.size 63 5 v 1 (stE (q, p)) ∧ Below w.heap.size w w' := by
  have HB := Lib.hid (grow1 w (.cells (pkA p) 29))
  have HP := Lib.hid (heap_alloc_new w (.cells (pkA p) 29))
  rcases ho.2 with ⟨_, h0⟩ | ⟨g, cap, cur, rfl, hgB, hg, h1, h2, hz, ht⟩
  · omega
  have hgl := block_lt hg
  have HR := Lib.hid (show w.rangeAt g 0 (acE (2, 0, q)) from fun j v hj => by have := ho.cells rfl j v hj; rw [adh] at this; simpa using this)
  clear ho hg hz ht
  obtain ⟨pa, pb, pc, pd⟩ := p
  simp only [pkA] at HB HP ⊢
  go_enter Tryz.func21, Tryz.ntmps21
  go_upto_region 2 with fail
  refine abs_wp ?_
  intro w1 hw1
  have HB1 : Hid (Below w.heap.size w w1) := by rw [hw1]; exact HB
  have HP1 : Hid (w1.heap[w.heap.size]? = some (.cells (pkA (pa, pb, pc, pd)) 29 (0, 0))) := by rw [hw1]; exact HP
  clear hw1 HB HP
  go_wp2_with (refine stop_load 29 _ rfl ?_)
  obtain ⟨d29, hu29, hd29⟩ := und29
  have HU29 := Lib.hid (And.intro hu29 hd29)
  refine Stop.go (wpList_load_mid rfl 29 _ rfl w.heap.size 0 rfl (pkA (pa, pb, pc, pd)).toList d29 (range_all HP1.out) hu29 hd29 inf29 ?_)
  clear hu29 hd29
  go_wp2_with (refine stop_store 29 _ _ rfl ?_)
  refine Stop.go (abs_list ?_)
  intro w2 e2
  have HB2 : Hid (Below w.heap.size w w2) := by rw [e2]; exact Lib.hid (HB1.out.alloc HB1.out.size _)
  have HM2 : Hid (w2.heap[w1.heap.size]? = some (.cells zero29 29 (0, 0))) := by rw [e2]; exact Lib.hid (heap_alloc_new w1 _)
  have HP2 : Hid (w2.heap[w.heap.size]? = some (.cells (pkA (pa, pb, pc, pd)) 29 (0, 0))) := by rw [e2]; exact Lib.hid ((Below.heap_alloc _ _ _ (block_lt HP1.out)).trans HP1.out)
  have hs1 := block_lt HP1.out
  clear e2 HB1 HP1
  obtain ⟨mb, hmb⟩ : ∃ m, m = w1.heap.size := ⟨_, rfl⟩
  rw [← hmb] at HM2 hs1 ⊢
  clear hmb
  refine wpList_store_o rfl 29 _ _ rfl mb (pkA (pa, pb, pc, pd)) rfl rfl 29 _ HM2.out inf29 rfl rfl ?_
  intro w3 hg3 ho3
  have HB3 := Lib.hid (ho3.belowT HB2.out (by omega))
  have HP3 := Lib.hid ((ho3.block w.heap.size (by omega)).trans HP2.out)
  clear hg3 ho3 HB2 HM2 HP2
  go_wp2_with fail
  go_loopw [12, 5] (fun i o wr => Hid (Below w.heap.size w wr) ∧ ((i = .int .i64 0 ∧ o = .slice none 0 0 ∧ wr = w3) ∨ (i = .int .i64 1 ∧ Hid (wr.ownsRow w.heap.size 63 5 o 1 (stE (q, pa, pb, pc, pd)))))) (fun i _ _ => 1 - (intOf i).toNat)
  case atStart => exact ⟨HB3, .inl ⟨rfl, rfl, rfl⟩⟩
  case round =>
    obtain ⟨HBr, ⟨rfl, rfl, rfl⟩ | ⟨rfl, HO⟩⟩ := hrel
    · have HRr := Lib.hid (rangeK HB3.out hgl HR.out)
      have hgr : g < wr.heap.size := Nat.lt_of_lt_of_le hgl HB3.out.size
      go_wp2_with (refine stop_load 97 _ rfl ?_)
      obtain ⟨f97, hu97⟩ := und97
      refine Stop.go (wpList_load_mid rfl 97 _ rfl g 0 rfl (acE (2, 0, q)) (.struct f97) HRr.out hu97 rfl inf97 ?_)
      clear hu97
      go_wp2_with (refine stop_store 97 _ _ rfl ?_)
      refine Stop.go (abs_list ?_)
      intro w4 e4
      have HB4 : Hid (Below w.heap.size w w4) := by rw [e4]; exact Lib.hid (HB3.out.alloc HB3.out.size _)
      have HM4 : Hid (w4.heap[wr.heap.size]? = some (.cells zero97 97 (0, 0))) := by rw [e4]; exact Lib.hid (heap_alloc_new wr _)
      have HP4 : Hid (w4.heap[w.heap.size]? = some (.cells (pkA (pa, pb, pc, pd)) 29 (0, 0))) := by rw [e4]; exact Lib.hid ((Below.heap_alloc _ _ _ (block_lt HP3.out)).trans HP3.out)
      have hs3 := block_lt HP3.out
      clear e4 HB3 HP3 HRr
      obtain ⟨ab, hab⟩ : ∃ m, m = wr.heap.size := ⟨_, rfl⟩
      rw [← hab] at HM4 hs3 ⊢
      clear hab
      refine wpList_store_o rfl 97 _ _ rfl ab (acE (2, 0, q)).toArray rfl rfl 97 _ HM4.out inf97 rfl rfl ?_
      intro w5 hg5 ho5
      have HB5 := Lib.hid (ho5.belowT HB4.out (by omega))
      have HA5 := Lib.hid hg5
      have HP5 := Lib.hid ((ho5.block w.heap.size (by omega)).trans HP4.out)
      clear hg5 ho5 HB4 HM4 HP4
      have hla := block_lt HA5.out
      have c0 := block_cell HA5.out 0
      have c2 := block_cell HA5.out 2
      simp only [acE, List.getElem?_toArray, List.getElem?_cons_zero, List.getElem?_cons_succ] at c0 c2
      go_wp2_with (refine stop_load 29 _ rfl ?_)
      refine Stop.go (wpList_load_mid rfl 29 _ rfl w.heap.size 0 rfl (pkA (pa, pb, pc, pd)).toList d29 (range_all HP5.out) HU29.out.1 HU29.out.2 inf29 ?_)
      go_wp2_with (first | (at_builtin; refine stop_list ?_) | fail)
      refine Stop.go (wpList_push1 el39 rfl (.tmp 31) (.tmp 36) rfl w.heap.size (.slice none 0 0) 0 [] rfl (own_nil _ _ _ _) w5.heap.size rfl (stA (q, pa, pb, pc, pd)) (heap_alloc_new _ _) rfl rfl (by decide) (HB5.out.alloc HB5.out.size _).size ?_)
      intro g9 cap9 w9 hown9 hgr9 hor9 hl9
      have HO9 := Lib.hid hown9
      have HB9 := Lib.hid (below_grown (HB5.out.alloc HB5.out.size _) (HB5.out.alloc HB5.out.size _).size hgr9 (own_nil w w.heap.size 63 5))
      clear hown9 hgr9 hor9
      go_wp2_with fail
      go_roundw
      case rel => exact ⟨HB9, .inr ⟨rfl, HO9⟩⟩
      case measure => simp [intOf]
    · go_wp2_with fail
      go_ret
      exact ⟨_, rfl, HO.out, HBr.out⟩
/-! A packet at a table. -/
/-- A rule is simple: it asks nothing, or the number in dst; it sends nothing, or the packet as it is. -/
def MOk (m : Mt) : Prop := m = anyM ∨ ∃ x, 0 ≤ x ∧ x ≤ 255 ∧ m = dstM x
def AOk (l : List Ac) : Prop := l = [] ∨ ∃ q, l = [(2, 0, q)]
def hitB (m : Mt) (p : Pk) : Bool := if m.2.2.2.1 = 0 then true else decide (p.2.1 = m.2.1.2.1)
def sentL (l : List Ac) (p : Pk) : List Sn := l.map fun a => (a.2.2, p)
def outL (l : List Ru) (p : Pk) : List Sn := match l.find? (fun r => hitB r.1.2 p) with
  | none => []
  | some r => sentL r.2 p
theorem hits_c (m : Mt) (hm : MOk m) (port : Int) (p : Pk) (hp : RightF p) (w : World) : Ret 41 #[.agg (mtA m), .int .i64 port, .agg (pkA p)] (.bool (hitB m p)) w := by
  rcases hm with rfl | ⟨x, h0, h1, rfl⟩
  · exact hits_any port p w
  · exact hits_dst x port p w h0 h1 hp
theorem arun_c (l : List Ac) (hl : AOk l) (o : Value) (B : Nat) (p : Pk) (w : World) (ho : w.ownsRow B 97 3 o l.length (flatR acE l)) :
    Calls Tryz.prog 21 #[o, .agg (pkA p)] w fun e w' => ∃ v, e = .returned v ∧ w'.ownsRow w.heap.size 63 5 v (sentL l p).length (flatR stE (sentL l p)) ∧ Below w.heap.size w w' := by
  rcases hl with rfl | ⟨q, rfl⟩
  · obtain ⟨oa, oc, rfl, _, _⟩ := own_form ho
    refine (arun_nil oa oc p w).mono ?_
    rintro e w' ⟨rfl, hb⟩
    exact ⟨_, rfl, own_nil _ _ _ _, hb⟩
  · refine (arun_one o B q p w (by simpa [flatR] using ho)).mono ?_
    rintro e w' ⟨v, rfl, hown, hb⟩
    exact ⟨v, rfl, by simpa [sentL, flatR] using hown, hb⟩
theorem call_40 (ar : Array Value) (w : World) : (callFunc 40 ar).run Tryz.prog w = .ok (.enter 40 ar) w := by kernel_rfl
set_option maxRecDepth 100000 in
set_option maxHeartbeats 4000000 in
theorem hit40_c (x : Ruv) (b1 b2 : Nat) (port : Int) (p : Pk) (w : World) (hm : MOk x.1.2) (hp : RightF p) (hx : ∃ a b c, x.2 = .slice a b c) (h1 : w.heap[b1]? = some (.cells #[.int .i64 port] 3 (0, 0))) (h2 : w.heap[b2]? = some (.cells (pkA p) 29 (0, 0))) :
    Ret 40 #[.agg (ruA x), .pointer (some ⟨b1, 0, none⟩), .pointer (some ⟨b2, 0, none⟩)] (.bool (hitB x.1.2 p)) w := by
  obtain ⟨⟨pr, mp, ⟨ma, mb, mc, md⟩, na, nb, nc, nd⟩, xv⟩ := x
  obtain ⟨xa, xb, xc, hx⟩ := hx
  simp only at hx hm
  subst hx
  have X := Lib.hid (hits_c (mp, (ma, mb, mc, md), na, nb, nc, nd) hm port p hp)
  obtain ⟨hb, hhb⟩ : ∃ b, hitB (mp, (ma, mb, mc, md), na, nb, nc, nd) p = b := ⟨_, rfl⟩
  simp only [hhb] at X ⊢
  have HB := Lib.hid (grow1 w (.cells (ruA ((pr, mp, (ma, mb, mc, md), na, nb, nc, nd), .slice xa xb xc)) 70))
  have HG := Lib.hid (heap_alloc_new w (.cells (ruA ((pr, mp, (ma, mb, mc, md), na, nb, nc, nd), .slice xa xb xc)) 70))
  have H1 := Lib.hid ((HB.out.block b1 (block_lt h1)).trans h1)
  have H2 := Lib.hid ((HB.out.block b2 (block_lt h2)).trans h2)
  clear h1 h2 hhb hm hp
  unfold Ret at X ⊢
  simp only [ruA] at HB HG H1 H2 ⊢
  go_enter Tryz.func40, Tryz.ntmps40
  go_upto_region 1 with fail
  refine abs_wp ?_
  intro w1 hw1
  have HB1 : Hid (Below w.heap.size w w1) := by rw [hw1]; exact HB
  have HG1 : Hid (w1.heap[w.heap.size]? = some (.cells (ruA ((pr, mp, (ma, mb, mc, md), na, nb, nc, nd), .slice xa xb xc)) 70 (0, 0))) := by rw [hw1]; exact HG
  have HP1 : Hid (w1.heap[b1]? = some (.cells #[.int .i64 port] 3 (0, 0))) := by rw [hw1]; exact H1
  have HP2 : Hid (w1.heap[b2]? = some (.cells (pkA p) 29 (0, 0))) := by rw [hw1]; exact H2
  clear hw1 HB HG H1 H2
  have hl1 := block_lt HP1.out
  have c1 := block_cell HP1.out 0
  simp only [List.getElem?_toArray, List.getElem?_cons_zero] at c1
  go_wp2_with (refine stop_load 67 _ rfl ?_)
  obtain ⟨f67, hu67⟩ := und67
  refine Stop.go (wpList_load_mid rfl 67 _ rfl w.heap.size 1 rfl (mtA (mp, (ma, mb, mc, md), na, nb, nc, nd)).toList (.struct f67) ?_ hu67 rfl inf67 ?_)
  · intro j v hj
    rw [block_cell HG1.out]
    have hl : j < 9 := (List.getElem?_eq_some_iff.1 hj).1
    rcases (by omega : j = 0 ∨ j = 1 ∨ j = 2 ∨ j = 3 ∨ j = 4 ∨ j = 5 ∨ j = 6 ∨ j = 7 ∨ j = 8) with rfl | rfl | rfl | rfl | rfl | rfl | rfl | rfl | rfl <;> exact hj
  clear hu67
  go_wp2_with (refine stop_load 29 _ rfl ?_)
  obtain ⟨d29, hu29, hd29⟩ := und29
  refine Stop.go (wpList_load_mid rfl 29 _ rfl b2 0 rfl (pkA p).toList d29 (range_all HP2.out) hu29 hd29 inf29 ?_)
  clear hu29 hd29
  go_wp2_with fail
  refine (X.out w1).mono ?_
  rintro e w2 ⟨rfl, hb2⟩
  have HB2 := Lib.hid (HB1.out.trans (hb2.mono HB1.out.size))
  clear hb2 HB1 X
  go_wp2_with fail
  go_ret
  exact ⟨rfl, HB2.out⟩
end Go.Proofs.YtekfkieimdgfkaaGreat
