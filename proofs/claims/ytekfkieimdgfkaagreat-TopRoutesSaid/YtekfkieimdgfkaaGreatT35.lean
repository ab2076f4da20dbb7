/- What is proved here: what the lexer's small functions do. Condition: it lies in memory of the call's own. -/
import Derived.Test.YtekfkieimdgfkaaGreatT34
namespace Go.Proofs.YtekfkieimdgfkaaGreat
open Go Go.RowKit
attribute [local go_sem] KW.cell KW.frozen
/-- From w on only block q was written, of those that were. -/
structure Qm (q : Nat) (w w' : World) : Prop where
  os : w'.os = w.os
  tape : w'.tape = w.tape
  output : w'.output = w.output
  size : w.heap.size ≤ w'.heap.size
  block : ∀ k, k < w.heap.size → k ≠ q → w'.heap[k]? = w.heap[k]?
theorem Qm.refl (q : Nat) (w : World) : Qm q w w := ⟨rfl, rfl, rfl, Nat.le_refl _, fun _ _ _ => rfl⟩
theorem Qm.trans {q : Nat} {a b c : World} (h : Qm q a b) (k : Qm q b c) : Qm q a c :=
  ⟨k.os.trans h.os, k.tape.trans h.tape, k.output.trans h.output, Nat.le_trans h.size k.size, fun i hi hn => (k.block i (Nat.lt_of_lt_of_le hi h.size) hn).trans (h.block i hi hn)⟩
theorem Qm.of_below {q : Nat} {w w' : World} (h : Below w.heap.size w w') : Qm q w w' := ⟨h.os, h.tape, h.output, h.size, fun k hk _ => h.block k hk⟩
theorem Qm.set {q : Nat} {w w' : World} (h : Qm q w w') (i : Nat) (u : Value) : Qm q w (w'.setCell ⟨q, i, none⟩ u) :=
  ⟨h.os, h.tape, h.output, by simpa using h.size, fun k hk hn => (Below.heap_setCell w' ⟨q, i, none⟩ u k hn).trans (h.block k hk hn)⟩
theorem Qm.below {q B : Nat} {w w' : World} (h : Qm q w w') (hB : B ≤ q) (hs : B ≤ w.heap.size) : Below B w w' := ⟨h.os, h.tape, h.output, h.size, fun k hk => h.block k (by omega) (by omega)⟩
theorem Qm.own {q B e z n : Nat} {w w' : World} {v : Value} {vs : List Value} (h : Qm q w w') (ho : w.ownsRow B e z v n vs) (hn : v.ownBlock ≠ some q) : w'.ownsRow B e z v n vs :=
  own_blk ho fun g hg => h.block g (ho.lt g hg).2 (fun e => hn (by rw [hg, e]))
theorem blk_set2 {w : World} {g : Nat} {t : TypeId} {x y u : Value} (h : w.heap[g]? = some (.cells #[x, y] t (0, 0))) : (w.setCell ⟨g, 1, none⟩ u).heap[g]? = some (.cells #[x, u] t (0, 0)) := by
  simp [World.setCell, Array.getElem?_modify, h]
def spaceP (c : UInt8) : Bool := c == 32 || c == 9 || c == 10
def lineP (c : UInt8) : Bool := c != 10
def letterP (c : UInt8) : Bool := decide (97 ≤ c) && decide (c ≤ 122)
def digitP (c : UInt8) : Bool := decide (48 ≤ c) && decide (c ≤ 57)
theorem u8_eq (c : UInt8) (n : Nat) (hn : n < 256) : ((c.toNat : Int) == (n : Int)) = (c == UInt8.ofNat n) := by
  rw [Bool.eq_iff_iff, beq_iff_eq, beq_iff_eq]
  constructor
  · intro h
    have : c.toNat = n := by omega
    rw [← this]; simp
  · rintro rfl
    simp [Nat.mod_eq_of_lt hn]
theorem u8_le (c : UInt8) (n : Nat) (hn : n < 256) : decide ((c.toNat : Int) ≤ (n : Int)) = decide (c ≤ UInt8.ofNat n) := by
  rw [Bool.eq_iff_iff, decide_eq_true_eq, decide_eq_true_eq, UInt8.le_iff_toNat_le]
  simp [Nat.mod_eq_of_lt hn]
theorem u8_ge (c : UInt8) (n : Nat) (hn : n < 256) : decide ((n : Int) ≤ (c.toNat : Int)) = decide (UInt8.ofNat n ≤ c) := by
  rw [Bool.eq_iff_iff, decide_eq_true_eq, decide_eq_true_eq, UInt8.le_iff_toNat_le]
  simp [Nat.mod_eq_of_lt hn]
theorem space_c (c : UInt8) (w : World) : Calls Tryz.prog 92 #[.int .u8 (c.toNat : Int)] w fun e w' => e = .returned (.bool (spaceP c)) ∧ w = w' := by
  have h1 := u8_eq c 32 (by decide)
  have h2 := u8_eq c 9 (by decide)
  have h3 := u8_eq c 10 (by decide)
  obtain ⟨d1, e1⟩ : ∃ d, ((c.toNat : Int) == 32) = d := ⟨_, rfl⟩
  obtain ⟨d2, e2⟩ : ∃ d, ((c.toNat : Int) == 9) = d := ⟨_, rfl⟩
  obtain ⟨d3, e3⟩ : ∃ d, ((c.toNat : Int) == 10) = d := ⟨_, rfl⟩
  have hp : spaceP c = (d1 || d2 || d3) := by
    rw [← e1, ← e2, ← e3]
    exact congr (congrArg _ (congr (congrArg _ h1.symm) h2.symm)) h3.symm
  rw [hp]
  clear hp h1 h2 h3
  generalize (c.toNat : Int) = x at *
  cases d1 <;> cases d2 <;> cases d3
  all_goals
    go_enter Tryz.func92, Tryz.ntmps92
    go_wp2
    go_ret
    exact ⟨rfl, rfl⟩
theorem line_c (c : UInt8) (w : World) : Calls Tryz.prog 93 #[.int .u8 (c.toNat : Int)] w fun e w' => e = .returned (.bool (lineP c)) ∧ w = w' := by
  have h3 := u8_eq c 10 (by decide)
  obtain ⟨d3, e3⟩ : ∃ d, ((c.toNat : Int) == 10) = d := ⟨_, rfl⟩
  have e4 : ((c.toNat : Int) != 10) = !d3 := by rw [← e3]; rfl
  have hp : lineP c = !d3 := by
    rw [← e3]
    exact congrArg _ h3.symm
  rw [hp]
  clear hp h3
  generalize (c.toNat : Int) = x at *
  cases d3
  all_goals
    go_enter Tryz.func93, Tryz.ntmps93
    go_wp2
    go_ret
    exact ⟨rfl, rfl⟩
theorem letter_c (c : UInt8) (w : World) : Calls Tryz.prog 94 #[.int .u8 (c.toNat : Int)] w fun e w' => e = .returned (.bool (letterP c)) ∧ w = w' := by
  have h1 := u8_ge c 97 (by decide)
  have h2 := u8_le c 122 (by decide)
  obtain ⟨d1, e1⟩ : ∃ d, decide (97 ≤ (c.toNat : Int)) = d := ⟨_, rfl⟩
  obtain ⟨d2, e2⟩ : ∃ d, decide ((c.toNat : Int) ≤ 122) = d := ⟨_, rfl⟩
  have hp : letterP c = (d1 && d2) := by
    rw [← e1, ← e2]
    exact congr (congrArg _ h1.symm) h2.symm
  rw [hp]
  clear hp h1 h2
  generalize (c.toNat : Int) = x at *
  cases d1 <;> cases d2
  all_goals
    go_enter Tryz.func94, Tryz.ntmps94
    go_wp2
    go_ret
    exact ⟨rfl, rfl⟩
theorem digitB_c (c : UInt8) (w : World) : Calls Tryz.prog 95 #[.int .u8 (c.toNat : Int)] w fun e w' => e = .returned (.bool (digitP c)) ∧ w = w' := by
  have h1 := u8_ge c 48 (by decide)
  have h2 := u8_le c 57 (by decide)
  obtain ⟨d1, e1⟩ : ∃ d, decide (48 ≤ (c.toNat : Int)) = d := ⟨_, rfl⟩
  obtain ⟨d2, e2⟩ : ∃ d, decide ((c.toNat : Int) ≤ 57) = d := ⟨_, rfl⟩
  have hp : digitP c = (d1 && d2) := by
    rw [← e1, ← e2]
    exact congr (congrArg _ h1.symm) h2.symm
  rw [hp]
  clear hp h1 h2
  generalize (c.toNat : Int) = x at *
  cases d1 <;> cases d2
  all_goals
    go_enter Tryz.func95, Tryz.ntmps95
    go_wp2
    go_ret
    exact ⟨rfl, rfl⟩
theorem take_while {α : Type} (p : α → Bool) : ∀ (l : List α) (n : Nat), n ≤ l.length → (∀ i (h : i < l.length), i < n → p l[i] = true) → (∀ h : n < l.length, p l[n] = false) → l.takeWhile p = l.take n := by
  intro l
  induction l with
  | nil => intro n _ _ _; simp
  | cons x l ih =>
    intro n hn hp hq
    cases n with
    | zero =>
      have := hq (by simp)
      simp at this
      simp [this]
    | succ n =>
      have h0 := hp 0 (by simp) (by omega)
      simp at h0
      rw [List.takeWhile_cons, if_pos h0, List.take_succ_cons]
      rw [ih n (by simpa using hn) (fun i h hi => by have := hp (i + 1) (by simpa using h) (by omega); simpa using this) (fun h => by have := hq (by simpa using h); simpa using this)]
theorem tw_len {α : Type} (p : α → Bool) (L : List α) (a k : Nat) (hak : a ≤ k) (hk : k ≤ L.length) (hp : ∀ i (h : i < L.length), a ≤ i → i < k → p L[i] = true) (hq : ∀ h : k < L.length, p L[k] = false) :
    (L.drop a).takeWhile p = (L.drop a).take (k - a) ∧ ((L.drop a).takeWhile p).length = k - a := by
  have h1 : (L.drop a).takeWhile p = (L.drop a).take (k - a) := by
    refine take_while p (L.drop a) (k - a) (by rw [List.length_drop]; omega) (fun i h hi => ?_) (fun h => ?_)
    · rw [List.getElem_drop]
      exact hp (a + i) (by rw [List.length_drop] at h; omega) (by omega) (by omega)
    · rw [List.getElem_drop]
      have e : a + (k - a) = k := by omega
      have := hq (by rw [List.length_drop] at h; omega)
      simp only [e]
      exact this
  refine ⟨h1, ?_⟩
  rw [h1, List.length_take, List.length_drop]; omega
theorem sub_bytes (s : ByteArray) (a b : Nat) : (s.extract a b).data.toList = (s.data.toList.take b).drop a := by
  simp [ByteArray.data_extract, List.extract_eq_take_drop, List.drop_take]
set_option maxRecDepth 100000 in
set_option maxHeartbeats 4000000 in
theorem while92_c
    (q : Nat) (s : ByteArray) (a : Nat) (w : World) (hq : w.heap[q]? = some (.cells #[.string s, .int .i64 a] 141 (0, 0))) (ha : a ≤ s.size) (hs : s.size ≤ 5000) :
    Calls Tryz.prog 91 #[.pointer (some ⟨q, 0, none⟩), .func (.func 92) #[] #[]] w fun e w' => ∃ (t : ByteArray), e = .returned (.string t) ∧ t.data.toList = (s.data.toList.drop a).takeWhile spaceP ∧
      w'.heap[q]? = some (.cells #[.string s, .int .i64 ((a + ((s.data.toList.drop a).takeWhile spaceP).length : Nat) : Int)] 141 (0, 0)) ∧ Qm q w w' := by
  have c0 := block_cell hq 0
  have c1 := block_cell hq 1
  simp only [List.getElem?_toArray, List.getElem?_cons_zero, List.getElem?_cons_succ] at c0 c1
  have HQ := Lib.hid hq
  clear hq
  go_enter Tryz.func91, Tryz.ntmps91
  go_wp2_with fail
  clear c0 c1
  go_loopg [13] (s.size - a) (fun gg s13 wr => ∃ k : Nat, gg = s.size - k ∧ a ≤ k ∧ k ≤ s.size ∧ Hid (∀ i (h : i < s.data.toList.length), a ≤ i → i < k → spaceP s.data.toList[i] = true) ∧ Hid (wr.heap[q]? = some (.cells #[.string s, .int .i64 k] 141 (0, 0))) ∧ Qm q w wr)
  case atStart => exact ⟨a, rfl, Nat.le_refl _, ha, Lib.hid (fun i _ h1 h2 => absurd h2 (by omega)), Lib.hid HQ.out, Qm.refl _ _⟩
  case round =>
    obtain ⟨k, rfl, hak, hk, HP, HB, hm⟩ := hrel
    have c0 := block_cell HB.out 0
    have c1 := block_cell HB.out 1
    have f1 := block_free HB.out 1
    have hql := block_lt HB.out
    simp only [List.getElem?_toArray, List.getElem?_cons_zero, List.getElem?_cons_succ] at c0 c1
    by_cases hlt : k < s.size
    · have hd : decide ((k : Int) < (s.size : Int)) = true := by simp; omega
      have hk2 : (k : Int) < (s.size : Int) := by omega
      have hkl : k < s.data.toList.length := by rw [← ba_size]; exact hlt
      have hsk : s[k] = s.data.toList[k] := rfl
      obtain ⟨d, hpd⟩ : ∃ d, spaceP s[k] = d := ⟨_, rfl⟩
      have HFk := Lib.hid (fun (kk : KW wr) => space_c s[k] kk.val)
      rw [hpd] at HFk
      rw [hsk] at hpd
      have HPD := Lib.hid hpd
      clear hpd hsk
      cases d with
      | true =>
        have HP2 : Hid (∀ i (h : i < s.data.toList.length), a ≤ i → i < k + 1 → spaceP s.data.toList[i] = true) := Lib.hid (fun i h h1 h2 => by
          by_cases hik : i = k
          · subst hik; exact HPD.out
          · exact HP.out i h h1 (by omega))
        go_wp2_with fail
        refine wp_region_kq (by kernel_rfl) (by kernel_rfl) ?_
        repeat (first | go_big_quiet_step ((go_at_call 92; exact KW.same (HFk.out _))) | quiet_step ((go_at_call 92; exact KW.same (HFk.out _))))
        refine wpQuiet_nil ?_
        intro kz
        have d0 := (kz.kp.cell (p := ⟨q, 0, none⟩) hql).trans c0
        have d1 := (kz.kp.cell (p := ⟨q, 1, none⟩) hql).trans c1
        have g1 := (kz.kp.frozen (p := ⟨q, 1, none⟩) hql).trans f1
        have hbk := (kz.kp.block q hql).trans HB.out
        have hmk := hm.trans (Qm.of_below kz.kp)
        have HB2 : Hid ((kz.val.setCell ⟨q, 1, none⟩ (.int .i64 ((k + 1 : Nat) : Int))).heap[q]? = some (.cells #[.string s, .int .i64 ((k + 1 : Nat) : Int)] 141 (0, 0))) := Lib.hid (blk_set2 hbk)
        have hm2 := hmk.set 1 (.int .i64 ((k + 1 : Nat) : Int))
        have hcast : (((k + 1 : Nat) : Int)) = (k : Int) + 1 := by omega
        rw [hcast] at HB2 hm2
        clear c0 c1 f1 hbk HFk hcast
        go_wp2_with fail
        go_roundg (s.size - (k + 1))
        case measure => omega
        case rel => exact ⟨k + 1, rfl, by omega, by omega, HP2, HB2, hm2⟩
      | false =>
        have HT := Lib.hid (tw_len spaceP s.data.toList a k hak (by rw [← ba_size]; exact hk) HP.out (fun h => HPD.out))
        have i1 : (0 : Int) ≤ (a : Int) := by omega
        have i2 : (a : Int) ≤ (k : Int) := by omega
        have i3 : (k : Int) ≤ (s.size : Int) := by omega
        go_wp2_with fail
        refine wp_region_kq (by kernel_rfl) (by kernel_rfl) ?_
        repeat (first | go_big_quiet_step ((go_at_call 92; exact KW.same (HFk.out _))) | quiet_step ((go_at_call 92; exact KW.same (HFk.out _))))
        refine wpQuiet_nil ?_
        intro kz
        have d0 := (kz.kp.cell (p := ⟨q, 0, none⟩) hql).trans c0
        have d1 := (kz.kp.cell (p := ⟨q, 1, none⟩) hql).trans c1
        have hbk := (kz.kp.block q hql).trans HB.out
        have hmk := hm.trans (Qm.of_below kz.kp)
        have hqk := block_lt hbk
        have HBK := Lib.hid hbk
        clear c0 c1 HFk hbk
        go_wp2_with fail
        generalize kz.val = wk at *
        refine wp_region_kq (by kernel_rfl) (by kernel_rfl) ?_
        repeat (first | go_big_quiet_step (fail) | quiet_step (fail))
        refine wpQuiet_nil ?_
        intro ky
        have hby := (ky.kp.block q hqk).trans HBK.out
        have hmy := hmk.trans (Qm.of_below ky.kp)
        go_wp2_with fail
        go_ret
        refine ⟨_, rfl, ?_, ?_, hmy⟩
        · rw [sub_bytes, HT.out.1, List.drop_take]
        · rw [HT.out.2, hby]; congr 6; omega
    · have hd : decide ((k : Int) < (s.size : Int)) = false := by simp; omega
      have hd1 : decide (k < s.size) = false := by simp; omega
      have hd2 : s.size ≤ k := by omega
      have HFk : Hid True := Lib.hid trivial
      have HT := Lib.hid (tw_len spaceP s.data.toList a k hak (by rw [← ba_size]; exact hk) HP.out (fun h => absurd h (by rw [← ba_size]; omega)))
      have i1 : (0 : Int) ≤ (a : Int) := by omega
      have i2 : (a : Int) ≤ (k : Int) := by omega
      have i3 : (k : Int) ≤ (s.size : Int) := by omega
      go_wp2_with fail
      refine wp_region_kq (by kernel_rfl) (by kernel_rfl) ?_
      repeat (first | go_big_quiet_step ((fail)) | quiet_step ((fail)))
      refine wpQuiet_nil ?_
      intro kz
      have d0 := (kz.kp.cell (p := ⟨q, 0, none⟩) hql).trans c0
      have d1 := (kz.kp.cell (p := ⟨q, 1, none⟩) hql).trans c1
      have hbk := (kz.kp.block q hql).trans HB.out
      have hmk := hm.trans (Qm.of_below kz.kp)
      have hqk := block_lt hbk
      have HBK := Lib.hid hbk
      clear c0 c1 HFk hbk
      go_wp2_with fail
      generalize kz.val = wk at *
      refine wp_region_kq (by kernel_rfl) (by kernel_rfl) ?_
      repeat (first | go_big_quiet_step (fail) | quiet_step (fail))
      refine wpQuiet_nil ?_
      intro ky
      have hby := (ky.kp.block q hqk).trans HBK.out
      have hmy := hmk.trans (Qm.of_below ky.kp)
      go_wp2_with fail
      go_ret
      refine ⟨_, rfl, ?_, ?_, hmy⟩
      · rw [sub_bytes, HT.out.1, List.drop_take]
      · rw [HT.out.2, hby]; congr 6; omega
set_option maxRecDepth 100000 in
set_option maxHeartbeats 4000000 in
theorem while94_c
    (q : Nat) (s : ByteArray) (a : Nat) (w : World) (hq : w.heap[q]? = some (.cells #[.string s, .int .i64 a] 141 (0, 0))) (ha : a ≤ s.size) (hs : s.size ≤ 5000) :
    Calls Tryz.prog 91 #[.pointer (some ⟨q, 0, none⟩), .func (.func 94) #[] #[]] w fun e w' => ∃ (t : ByteArray), e = .returned (.string t) ∧ t.data.toList = (s.data.toList.drop a).takeWhile letterP ∧
      w'.heap[q]? = some (.cells #[.string s, .int .i64 ((a + ((s.data.toList.drop a).takeWhile letterP).length : Nat) : Int)] 141 (0, 0)) ∧ Qm q w w' := by
  have c0 := block_cell hq 0
  have c1 := block_cell hq 1
  simp only [List.getElem?_toArray, List.getElem?_cons_zero, List.getElem?_cons_succ] at c0 c1
  have HQ := Lib.hid hq
  clear hq
  go_enter Tryz.func91, Tryz.ntmps91
  go_wp2_with fail
  clear c0 c1
  go_loopg [13] (s.size - a) (fun gg s13 wr => ∃ k : Nat, gg = s.size - k ∧ a ≤ k ∧ k ≤ s.size ∧ Hid (∀ i (h : i < s.data.toList.length), a ≤ i → i < k → letterP s.data.toList[i] = true) ∧ Hid (wr.heap[q]? = some (.cells #[.string s, .int .i64 k] 141 (0, 0))) ∧ Qm q w wr)
  case atStart => exact ⟨a, rfl, Nat.le_refl _, ha, Lib.hid (fun i _ h1 h2 => absurd h2 (by omega)), Lib.hid HQ.out, Qm.refl _ _⟩
  case round =>
    obtain ⟨k, rfl, hak, hk, HP, HB, hm⟩ := hrel
    have c0 := block_cell HB.out 0
    have c1 := block_cell HB.out 1
    have f1 := block_free HB.out 1
    have hql := block_lt HB.out
    simp only [List.getElem?_toArray, List.getElem?_cons_zero, List.getElem?_cons_succ] at c0 c1
    by_cases hlt : k < s.size
    · have hd : decide ((k : Int) < (s.size : Int)) = true := by simp; omega
      have hk2 : (k : Int) < (s.size : Int) := by omega
      have hkl : k < s.data.toList.length := by rw [← ba_size]; exact hlt
      have hsk : s[k] = s.data.toList[k] := rfl
      obtain ⟨d, hpd⟩ : ∃ d, letterP s[k] = d := ⟨_, rfl⟩
      have HFk := Lib.hid (fun (kk : KW wr) => letter_c s[k] kk.val)
      rw [hpd] at HFk
      rw [hsk] at hpd
      have HPD := Lib.hid hpd
      clear hpd hsk
      cases d with
      | true =>
        have HP2 : Hid (∀ i (h : i < s.data.toList.length), a ≤ i → i < k + 1 → letterP s.data.toList[i] = true) := Lib.hid (fun i h h1 h2 => by
          by_cases hik : i = k
          · subst hik; exact HPD.out
          · exact HP.out i h h1 (by omega))
        go_wp2_with fail
        refine wp_region_kq (by kernel_rfl) (by kernel_rfl) ?_
        repeat (first | go_big_quiet_step ((go_at_call 94; exact KW.same (HFk.out _))) | quiet_step ((go_at_call 94; exact KW.same (HFk.out _))))
        refine wpQuiet_nil ?_
        intro kz
        have d0 := (kz.kp.cell (p := ⟨q, 0, none⟩) hql).trans c0
        have d1 := (kz.kp.cell (p := ⟨q, 1, none⟩) hql).trans c1
        have g1 := (kz.kp.frozen (p := ⟨q, 1, none⟩) hql).trans f1
        have hbk := (kz.kp.block q hql).trans HB.out
        have hmk := hm.trans (Qm.of_below kz.kp)
        have HB2 : Hid ((kz.val.setCell ⟨q, 1, none⟩ (.int .i64 ((k + 1 : Nat) : Int))).heap[q]? = some (.cells #[.string s, .int .i64 ((k + 1 : Nat) : Int)] 141 (0, 0))) := Lib.hid (blk_set2 hbk)
        have hm2 := hmk.set 1 (.int .i64 ((k + 1 : Nat) : Int))
        have hcast : (((k + 1 : Nat) : Int)) = (k : Int) + 1 := by omega
        rw [hcast] at HB2 hm2
        clear c0 c1 f1 hbk HFk hcast
        go_wp2_with fail
        go_roundg (s.size - (k + 1))
        case measure => omega
        case rel => exact ⟨k + 1, rfl, by omega, by omega, HP2, HB2, hm2⟩
      | false =>
        have HT := Lib.hid (tw_len letterP s.data.toList a k hak (by rw [← ba_size]; exact hk) HP.out (fun h => HPD.out))
        have i1 : (0 : Int) ≤ (a : Int) := by omega
        have i2 : (a : Int) ≤ (k : Int) := by omega
        have i3 : (k : Int) ≤ (s.size : Int) := by omega
        go_wp2_with fail
        refine wp_region_kq (by kernel_rfl) (by kernel_rfl) ?_
        repeat (first | go_big_quiet_step ((go_at_call 94; exact KW.same (HFk.out _))) | quiet_step ((go_at_call 94; exact KW.same (HFk.out _))))
        refine wpQuiet_nil ?_
        intro kz
        have d0 := (kz.kp.cell (p := ⟨q, 0, none⟩) hql).trans c0
        have d1 := (kz.kp.cell (p := ⟨q, 1, none⟩) hql).trans c1
        have hbk := (kz.kp.block q hql).trans HB.out
        have hmk := hm.trans (Qm.of_below kz.kp)
        have hqk := block_lt hbk
        have HBK := Lib.hid hbk
        clear c0 c1 HFk hbk
        go_wp2_with fail
        generalize kz.val = wk at *
        refine wp_region_kq (by kernel_rfl) (by kernel_rfl) ?_
        repeat (first | go_big_quiet_step (fail) | quiet_step (fail))
        refine wpQuiet_nil ?_
        intro ky
        have hby := (ky.kp.block q hqk).trans HBK.out
        have hmy := hmk.trans (Qm.of_below ky.kp)
        go_wp2_with fail
        go_ret
        refine ⟨_, rfl, ?_, ?_, hmy⟩
        · rw [sub_bytes, HT.out.1, List.drop_take]
        · rw [HT.out.2, hby]; congr 6; omega
    · have hd : decide ((k : Int) < (s.size : Int)) = false := by simp; omega
      have hd1 : decide (k < s.size) = false := by simp; omega
      have hd2 : s.size ≤ k := by omega
      have HFk : Hid True := Lib.hid trivial
      have HT := Lib.hid (tw_len letterP s.data.toList a k hak (by rw [← ba_size]; exact hk) HP.out (fun h => absurd h (by rw [← ba_size]; omega)))
      have i1 : (0 : Int) ≤ (a : Int) := by omega
      have i2 : (a : Int) ≤ (k : Int) := by omega
      have i3 : (k : Int) ≤ (s.size : Int) := by omega
      go_wp2_with fail
      refine wp_region_kq (by kernel_rfl) (by kernel_rfl) ?_
      repeat (first | go_big_quiet_step ((fail)) | quiet_step ((fail)))
      refine wpQuiet_nil ?_
      intro kz
      have d0 := (kz.kp.cell (p := ⟨q, 0, none⟩) hql).trans c0
      have d1 := (kz.kp.cell (p := ⟨q, 1, none⟩) hql).trans c1
      have hbk := (kz.kp.block q hql).trans HB.out
      have hmk := hm.trans (Qm.of_below kz.kp)
      have hqk := block_lt hbk
      have HBK := Lib.hid hbk
      clear c0 c1 HFk hbk
      go_wp2_with fail
      generalize kz.val = wk at *
      refine wp_region_kq (by kernel_rfl) (by kernel_rfl) ?_
      repeat (first | go_big_quiet_step (fail) | quiet_step (fail))
      refine wpQuiet_nil ?_
      intro ky
      have hby := (ky.kp.block q hqk).trans HBK.out
      have hmy := hmk.trans (Qm.of_below ky.kp)
      go_wp2_with fail
      go_ret
      refine ⟨_, rfl, ?_, ?_, hmy⟩
      · rw [sub_bytes, HT.out.1, List.drop_take]
      · rw [HT.out.2, hby]; congr 6; omega
set_option maxRecDepth 100000 in
set_option maxHeartbeats 4000000 in
theorem while95_c
    (q : Nat) (s : ByteArray) (a : Nat) (w : World) (hq : w.heap[q]? = some (.cells #[.string s, .int .i64 a] 141 (0, 0))) (ha : a ≤ s.size) (hs : s.size ≤ 5000) :
    Calls Tryz.prog 91 #[.pointer (some ⟨q, 0, none⟩), .func (.func 95) #[] #[]] w fun e w' => ∃ (t : ByteArray), e = .returned (.string t) ∧ t.data.toList = (s.data.toList.drop a).takeWhile digitP ∧
      w'.heap[q]? = some (.cells #[.string s, .int .i64 ((a + ((s.data.toList.drop a).takeWhile digitP).length : Nat) : Int)] 141 (0, 0)) ∧ Qm q w w' := by
  have c0 := block_cell hq 0
  have c1 := block_cell hq 1
  simp only [List.getElem?_toArray, List.getElem?_cons_zero, List.getElem?_cons_succ] at c0 c1
  have HQ := Lib.hid hq
  clear hq
  go_enter Tryz.func91, Tryz.ntmps91
  go_wp2_with fail
  clear c0 c1
  go_loopg [13] (s.size - a) (fun gg s13 wr => ∃ k : Nat, gg = s.size - k ∧ a ≤ k ∧ k ≤ s.size ∧ Hid (∀ i (h : i < s.data.toList.length), a ≤ i → i < k → digitP s.data.toList[i] = true) ∧ Hid (wr.heap[q]? = some (.cells #[.string s, .int .i64 k] 141 (0, 0))) ∧ Qm q w wr)
  case atStart => exact ⟨a, rfl, Nat.le_refl _, ha, Lib.hid (fun i _ h1 h2 => absurd h2 (by omega)), Lib.hid HQ.out, Qm.refl _ _⟩
  case round =>
    obtain ⟨k, rfl, hak, hk, HP, HB, hm⟩ := hrel
    have c0 := block_cell HB.out 0
    have c1 := block_cell HB.out 1
    have f1 := block_free HB.out 1
    have hql := block_lt HB.out
    simp only [List.getElem?_toArray, List.getElem?_cons_zero, List.getElem?_cons_succ] at c0 c1
    by_cases hlt : k < s.size
    · have hd : decide ((k : Int) < (s.size : Int)) = true := by simp; omega
      have hk2 : (k : Int) < (s.size : Int) := by omega
      have hkl : k < s.data.toList.length := by rw [← ba_size]; exact hlt
      have hsk : s[k] = s.data.toList[k] := rfl
      obtain ⟨d, hpd⟩ : ∃ d, digitP s[k] = d := ⟨_, rfl⟩
      have HFk := Lib.hid (fun (kk : KW wr) => digitB_c s[k] kk.val)
      rw [hpd] at HFk
      rw [hsk] at hpd
      have HPD := Lib.hid hpd
      clear hpd hsk
      cases d with
      | true =>
        have HP2 : Hid (∀ i (h : i < s.data.toList.length), a ≤ i → i < k + 1 → digitP s.data.toList[i] = true) := Lib.hid (fun i h h1 h2 => by
          by_cases hik : i = k
          · subst hik; exact HPD.out
          · exact HP.out i h h1 (by omega))
        go_wp2_with fail
        refine wp_region_kq (by kernel_rfl) (by kernel_rfl) ?_
        repeat (first | go_big_quiet_step ((go_at_call 95; exact KW.same (HFk.out _))) | quiet_step ((go_at_call 95; exact KW.same (HFk.out _))))
        refine wpQuiet_nil ?_
        intro kz
        have d0 := (kz.kp.cell (p := ⟨q, 0, none⟩) hql).trans c0
        have d1 := (kz.kp.cell (p := ⟨q, 1, none⟩) hql).trans c1
        have g1 := (kz.kp.frozen (p := ⟨q, 1, none⟩) hql).trans f1
        have hbk := (kz.kp.block q hql).trans HB.out
        have hmk := hm.trans (Qm.of_below kz.kp)
        have HB2 : Hid ((kz.val.setCell ⟨q, 1, none⟩ (.int .i64 ((k + 1 : Nat) : Int))).heap[q]? = some (.cells #[.string s, .int .i64 ((k + 1 : Nat) : Int)] 141 (0, 0))) := Lib.hid (blk_set2 hbk)
        have hm2 := hmk.set 1 (.int .i64 ((k + 1 : Nat) : Int))
        have hcast : (((k + 1 : Nat) : Int)) = (k : Int) + 1 := by omega
        rw [hcast] at HB2 hm2
        clear c0 c1 f1 hbk HFk hcast
        go_wp2_with fail
        go_roundg (s.size - (k + 1))
        case measure => omega
        case rel => exact ⟨k + 1, rfl, by omega, by omega, HP2, HB2, hm2⟩
      | false =>
        have HT := Lib.hid (tw_len digitP s.data.toList a k hak (by rw [← ba_size]; exact hk) HP.out (fun h => HPD.out))
        have i1 : (0 : Int) ≤ (a : Int) := by omega
        have i2 : (a : Int) ≤ (k : Int) := by omega
        have i3 : (k : Int) ≤ (s.size : Int) := by omega
        go_wp2_with fail
        refine wp_region_kq (by kernel_rfl) (by kernel_rfl) ?_
        repeat (first | go_big_quiet_step ((go_at_call 95; exact KW.same (HFk.out _))) | quiet_step ((go_at_call 95; exact KW.same (HFk.out _))))
        refine wpQuiet_nil ?_
        intro kz
        have d0 := (kz.kp.cell (p := ⟨q, 0, none⟩) hql).trans c0
        have d1 := (kz.kp.cell (p := ⟨q, 1, none⟩) hql).trans c1
        have hbk := (kz.kp.block q hql).trans HB.out
        have hmk := hm.trans (Qm.of_below kz.kp)
        have hqk := block_lt hbk
        have HBK := Lib.hid hbk
        clear c0 c1 HFk hbk
        go_wp2_with fail
        generalize kz.val = wk at *
        refine wp_region_kq (by kernel_rfl) (by kernel_rfl) ?_
        repeat (first | go_big_quiet_step (fail) | quiet_step (fail))
        refine wpQuiet_nil ?_
        intro ky
        have hby := (ky.kp.block q hqk).trans HBK.out
        have hmy := hmk.trans (Qm.of_below ky.kp)
        go_wp2_with fail
        go_ret
        refine ⟨_, rfl, ?_, ?_, hmy⟩
        · rw [sub_bytes, HT.out.1, List.drop_take]
        · rw [HT.out.2, hby]; congr 6; omega
    · have hd : decide ((k : Int) < (s.size : Int)) = false := by simp; omega
      have hd1 : decide (k < s.size) = false := by simp; omega
      have hd2 : s.size ≤ k := by omega
      have HFk : Hid True := Lib.hid trivial
      have HT := Lib.hid (tw_len digitP s.data.toList a k hak (by rw [← ba_size]; exact hk) HP.out (fun h => absurd h (by rw [← ba_size]; omega)))
      have i1 : (0 : Int) ≤ (a : Int) := by omega
      have i2 : (a : Int) ≤ (k : Int) := by omega
      have i3 : (k : Int) ≤ (s.size : Int) := by omega
      go_wp2_with fail
      refine wp_region_kq (by kernel_rfl) (by kernel_rfl) ?_
      repeat (first | go_big_quiet_step ((fail)) | quiet_step ((fail)))
      refine wpQuiet_nil ?_
      intro kz
      have d0 := (kz.kp.cell (p := ⟨q, 0, none⟩) hql).trans c0
      have d1 := (kz.kp.cell (p := ⟨q, 1, none⟩) hql).trans c1
      have hbk := (kz.kp.block q hql).trans HB.out
      have hmk := hm.trans (Qm.of_below kz.kp)
      have hqk := block_lt hbk
      have HBK := Lib.hid hbk
      clear c0 c1 HFk hbk
      go_wp2_with fail
      generalize kz.val = wk at *
      refine wp_region_kq (by kernel_rfl) (by kernel_rfl) ?_
      repeat (first | go_big_quiet_step (fail) | quiet_step (fail))
      refine wpQuiet_nil ?_
      intro ky
      have hby := (ky.kp.block q hqk).trans HBK.out
      have hmy := hmk.trans (Qm.of_below ky.kp)
      go_wp2_with fail
      go_ret
      refine ⟨_, rfl, ?_, ?_, hmy⟩
      · rw [sub_bytes, HT.out.1, List.drop_take]
      · rw [HT.out.2, hby]; congr 6; omega
end Go.Proofs.YtekfkieimdgfkaaGreat
