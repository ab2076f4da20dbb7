/- What is proved here: how many flights of a switch there are, the first one, of both channels. Condition: they lie in memory of the call's own. -/
import Derived.Test.YthmglahcampllaaCb
namespace Go.Proofs.Ythmglahcampllaa
open Go Go.RowKit
attribute [local go_sem] KW.cell KW.frozen
namespace Ch
theorem next1_c (a b : Nat) (sw x : Int) (up y : Bool) (s : ByteArray) (w : World) (ha : w.cell? ⟨a, 0, none⟩ = some (.int .i64 sw)) (hb : w.cell? ⟨b, 0, none⟩ = some (.bool up)) (hal : a < w.heap.size) (hbl : b < w.heap.size) :
    Calls Try.prog 81 #[.agg #[.int .i64 x, .bool y, .string s], .pointer (some ⟨a, 0, none⟩), .pointer (some ⟨b, 0, none⟩)] w fun e w' => e = .returned (.bool (nextB sw up (x, y, s))) ∧ Below w.heap.size w w' := by
  obtain ⟨d, hd⟩ : ∃ d, (x == sw) = d := ⟨_, rfl⟩
  have hn : nextB sw up (x, y, s) = (d && (y == up)) := by unfold nextB; rw [hd]
  rw [hn]
  clear hn
  cases d
  all_goals
    go_enter Try.func81, Try.ntmps81
    go_wp2_with fail
    go_ret
    refine ⟨?_, ?_⟩
    · first | rfl | simp
    · (repeat' (first | (with_reducible exact Below.refl _ _) | (with_reducible assumption) | (with_reducible refine Below.alloc ?_ ?_ _) | (with_reducible refine Below.drew ?_) | (with_reducible refine Below.setCell ?_ ?_ _) | omega | (simp; done) | (simp; omega)))
theorem of1_c (a c : Nat) (sw x m : Int) (y : Bool) (s : ByteArray) (w : World) (ha : w.cell? ⟨a, 0, none⟩ = some (.int .i64 sw)) (hc : w.heap[c]? = some (.cells #[.int .i64 m] 3 (0, 0))) (hal : a < w.heap.size) (h0 : 0 ≤ m) (h1 : m ≤ 1000) :
    Calls Try.prog 80 #[.agg #[.int .i64 x, .bool y, .string s], .pointer (some ⟨a, 0, none⟩), .pointer (some ⟨c, 0, none⟩)] w fun e w' => e = .returned (.bool false) ∧ w'.heap[c]? = some (.cells #[.int .i64 (m + if (x == sw) = true then 1 else 0)] 3 (0, 0)) ∧ Below c w w' := by
  have c0 := block_cell hc 0
  have f0 := block_free hc 0
  have hcl := block_lt hc
  simp only [List.getElem?_toArray, List.getElem?_cons_zero] at c0
  obtain ⟨d, hd⟩ : ∃ d, (x == sw) = d := ⟨_, rfl⟩
  have HC := Lib.hid hc
  clear hc
  rw [hd]
  cases d
  · go_enter Try.func80, Try.ntmps80
    go_wp2_with fail
    go_ret
    refine ⟨rfl, ?_, ?_⟩
    · rw [Below.heap_alloc _ _ _ (by simpa using hcl), HC.out]
    · (repeat' (first | (with_reducible exact Below.refl _ _) | (with_reducible assumption) | (with_reducible refine Below.alloc ?_ ?_ _) | (with_reducible refine Below.drew ?_) | (with_reducible refine Below.setCell ?_ ?_ _) | omega | (simp; done) | (simp; omega)))
  · go_enter Try.func80, Try.ntmps80
    go_wp2_with fail
    go_ret
    refine ⟨rfl, ?_, ?_⟩
    · rw [Below.heap_alloc _ _ _ (by simpa using hcl)]
      simp [World.setCell, Array.getElem?_modify, HC.out]
    · (repeat' (first | (with_reducible exact Below.refl _ _) | (with_reducible assumption) | (with_reducible refine Below.alloc ?_ ?_ _) | (with_reducible refine Below.drew ?_) | (with_reducible refine Below.setCell ?_ ?_ _) | omega | (simp; done) | (simp; omega)))
section
variable {B q : Nat} {w : World} {v : Value} {n : Int} {l : List Fl}
set_option maxRecDepth 100000 in
set_option maxHeartbeats 1000000 in
theorem idxN_c (a b : Nat) (sw : Int) (up : Bool) (h : St 99 72 B w q v n l) (hl : l.length ≤ 256) (ha : w.cell? ⟨a, 0, none⟩ = some (.int .i64 sw)) (hb : w.cell? ⟨b, 0, none⟩ = some (.bool up)) (hal : a < w.heap.size) (hbl : b < w.heap.size) :
    Calls Try.prog 88 #[v, .func (.func 81) #[] #[.pointer (some ⟨a, 0, none⟩), .pointer (some ⟨b, 0, none⟩)]] w fun e w' => e = .returned (.int .i64 (nextN l sw up)) ∧ Below w.heap.size w w' := by
  obtain ⟨ao, c, rfl, hc1, hc2⟩ := h.form
  unfold maxLen at hc2
  have H := Lib.hid h
  have HA := Lib.hid ha
  have HB := Lib.hid hb
  clear h ha hb
  go_enter Try.func88, Try.ntmps88
  go_wp2_with fail
  go_loopw [8] (fun i wr => ∃ k : Nat, i = .int .i64 k ∧ k ≤ l.length ∧ Hid (∀ i (_ : i < l.length), i < k → nextB sw up l[i] = false) ∧ Below w.heap.size w wr) (fun i _ => l.length - (intOf i).toNat)
  case atStart => exact ⟨0, rfl, Nat.zero_le _, Lib.hid (fun i _ h => absurd h (Nat.not_lt_zero _)), Below.refl _ _⟩
  case round =>
    obtain ⟨k, rfl, hk, HO, hw⟩ := hrel
    have hsz := hw.size
    by_cases hlt : k < l.length
    · have hd : decide ((k : Int) < (l.length : Int)) = true := by simp; omega
      obtain ⟨g, rfl, hg, hgq, e0, e1, e2⟩ := (H.out.kept hw).el k hlt
      have HF := Lib.hid (next1_c a b sw (l[k]).1 up (l[k]).2.1 (l[k]).2.2 wr (by rw [hw.cell (p := ⟨a, 0, none⟩) hal]; exact HA.out) (by rw [hw.cell (p := ⟨b, 0, none⟩) hbl]; exact HB.out) (by omega) (by omega))
      have HH : Hid (nextB sw up l[k] = true → nextN l sw up = (k : Int)) := Lib.hid (fun ht => nextN_hit hlt ht HO.out)
      have HM : Hid (nextB sw up l[k] = false → ∀ i (_ : i < l.length), i < k + 1 → nextB sw up l[i] = false) := Lib.hid (fun ht i hi h => by
        by_cases e : i = k
        · subst e; exact ht
        · exact HO.out i hi (by omega))
      have e4 : ((l[k]).1, (l[k]).2.1, (l[k]).2.2) = l[k] := rfl
      rw [e4] at HF
      clear e4
      generalize l[k] = f at *
      generalize nextB sw up f = t at *
      cases t with
      | true =>
        have HH2 := Lib.hid (HH.out rfl)
        clear HH HM
        go_wp2_with (go_at_call 81; refine HF.out.mono ?_; rintro e w' ⟨rfl, hb1⟩)
        go_ret
        rw [HH2.out]
        exact ⟨rfl, bon hw hb1⟩
      | false =>
        have HM2 := Lib.hid (HM.out rfl)
        clear HH HM
        go_wp2_with (go_at_call 81; refine HF.out.mono ?_; rintro e w' ⟨rfl, hb1⟩)
        have hw2 := bon hw hb1
        go_roundw
        case rel => exact ⟨k + 1, by go_num, by omega, HM2, hw2⟩
        case measure => simp [intOf]; omega
    · obtain rfl : k = l.length := by omega
      have hd : decide ((l.length : Int) < (l.length : Int)) = false := by simp
      have HA : Hid (nextN l sw up = -1) := Lib.hid (nextN_none fun i hi => HO.out i hi hi)
      go_wp2_with fail
      go_ret
      rw [HA.out]
      exact ⟨rfl, hw⟩
set_option maxRecDepth 100000 in
set_option maxHeartbeats 1000000 in
theorem idxO_c (a c0 : Nat) (sw : Int) (h : St 99 72 B w q v n l) (hl : l.length ≤ 256) (ha : w.cell? ⟨a, 0, none⟩ = some (.int .i64 sw)) (hc : w.heap[c0]? = some (.cells #[.int .i64 0] 3 (0, 0))) (hac : a < c0) (_hqc : q < c0) (hvc : ∀ g, v.ownBlock = some g → g < c0) :
    Calls Try.prog 88 #[v, .func (.func 80) #[] #[.pointer (some ⟨a, 0, none⟩), .pointer (some ⟨c0, 0, none⟩)]] w fun e w' => e = .returned (.int .i64 (-1)) ∧ w'.heap[c0]? = some (.cells #[.int .i64 (ofN l sw : Nat)] 3 (0, 0)) ∧ Below c0 w w' := by
  obtain ⟨ao, c, rfl, hc1, hc2⟩ := h.form
  unfold maxLen at hc2
  have hcl := block_lt hc
  have H := Lib.hid h
  have HA := Lib.hid ha
  have HC := Lib.hid hc
  have HV := Lib.hid hvc
  clear h ha hc hvc
  go_enter Try.func88, Try.ntmps88
  go_wp2_with fail
  go_loopw [8] (fun i wr => ∃ k : Nat, i = .int .i64 k ∧ k ≤ l.length ∧ Hid (wr.heap[c0]? = some (.cells #[.int .i64 (ofN (l.take k) sw : Nat)] 3 (0, 0))) ∧ Below c0 w wr) (fun i _ => l.length - (intOf i).toNat)
  case atStart => exact ⟨0, rfl, Nat.zero_le _, Lib.hid HC.out, Below.refl _ _⟩
  case round =>
    obtain ⟨k, rfl, hk, HO, hw⟩ := hrel
    have hsz := hw.size
    by_cases hlt : k < l.length
    · have hd : decide ((k : Int) < (l.length : Int)) = true := by simp; omega
      obtain ⟨g, hgo, hg, hgq, e0, e1, e2⟩ := H.out.el k hlt
      subst hgo
      have hgc : g < c0 := HV.out g rfl
      rw [← hw.cell (p := ⟨g, k * 3, none⟩) hgc] at e0
      rw [← hw.cell (p := ⟨g, k * 3 + 1, none⟩) hgc] at e1
      rw [← hw.cell (p := ⟨g, k * 3 + 2, none⟩) hgc] at e2
      have hbd := ofN_le (l.take k) sw
      have htl : (l.take k).length ≤ 256 := by rw [List.length_take]; omega
      have HF := Lib.hid (of1_c a c0 sw (l[k]).1 (ofN (l.take k) sw : Nat) (l[k]).2.1 (l[k]).2.2 wr (by rw [hw.cell (p := ⟨a, 0, none⟩) hac]; exact HA.out) HO.out (by omega) (by omega) (by omega))
      have hx : ((ofN (l.take k) sw : Nat) : Int) + (if ((l[k]).1 == sw) = true then 1 else 0) = ((ofN (l.take (k + 1)) sw : Nat) : Int) := by
        rw [ofN_take l sw k hlt]
        cases ((l[k]).1 == sw) <;> simp
      rw [hx] at HF
      clear hx hbd htl HO
      generalize l[k] = f at *
      obtain ⟨t, ht⟩ : ∃ t, ofN (l.take (k + 1)) sw = t := ⟨_, rfl⟩
      have HT := Lib.hid ht
      rw [ht] at HF
      clear ht
      go_wp2_with (go_at_call 80; refine HF.out.mono ?_; rintro e w' ⟨rfl, hc3, hb1⟩)
      rw [← HT.out] at hc3
      have HO2 := Lib.hid hc3
      have hw2 := hw.trans hb1
      clear hc3
      go_roundw
      case rel => exact ⟨k + 1, by go_num, by omega, HO2, hw2⟩
      case measure => simp [intOf]; omega
    · obtain rfl : k = l.length := by omega
      have hd : decide ((l.length : Int) < (l.length : Int)) = false := by simp
      go_wp2_with fail
      go_ret
      exact ⟨rfl, by have := HO.out; rwa [List.take_length] at this, hw⟩
set_option maxRecDepth 100000 in
theorem next_c (sw : Int) (up : Bool) (h : St 99 72 B w q v n l) (hl : l.length ≤ 256) :
    Calls Try.prog 39 #[.pointer (some ⟨q, 0, none⟩), .int .i64 sw, .bool up] w fun e w' => e = .returned (.int .i64 (nextN l sw up)) ∧ Below w.heap.size w w' := by
  have hB := h.hq
  have hq := h.lt
  have hb : Below w.heap.size w ((w.alloc (.cells #[.int .i64 sw] 3)).alloc (.cells #[.bool up] 4)) := ((Below.refl _ _).alloc (Nat.le_refl _) _).alloc (by simp) _
  have h2 := h.kept hb
  have c0 := h2.c0
  have X := Lib.hid (idxN_c w.heap.size (w.heap.size + 1) sw up h2 hl (by simp [go_sem]) (by simp [go_sem]) (by simp; omega) (by simp))
  have HB := Lib.hid hb
  obtain ⟨ao, c, rfl, _⟩ := h.form
  clear h h2 hb
  have X1 : Hid (Calls Try.prog 79 #[.pointer (some ⟨q, 0, none⟩), .func (.func 81) #[] #[.pointer (some ⟨w.heap.size, 0, none⟩), .pointer (some ⟨w.heap.size + 1, 0, none⟩)]] ((w.alloc (.cells #[.int .i64 sw] 3)).alloc (.cells #[.bool up] 4)) fun e w' => e = .returned (.int .i64 (nextN l sw up)) ∧ Below w.heap.size w w') := by
    refine Lib.hid ?_
    generalize (w.alloc (.cells #[.int .i64 sw] 3)).alloc (.cells #[.bool up] 4) = w2 at *
    go_enter Try.func79, Try.ntmps79
    go_wp2_with (go_at_call 88; refine X.out.mono ?_; rintro e w' ⟨rfl, hb1⟩)
    go_ret
    exact ⟨rfl, HB.out.trans (hb1.mono (by have := HB.out.size; omega))⟩
  clear c0
  go_enter Try.func39, Try.ntmps39
  go_wp2_with (go_at_call 79; refine X1.out.mono ?_; rintro e w' ⟨rfl, hb1⟩)
  go_ret
  exact ⟨rfl, hb1⟩
set_option maxRecDepth 100000 in
theorem of_c (sw : Int) (h : St 99 72 B w q v n l) (hl : l.length ≤ 256) :
    Calls Try.prog 37 #[.pointer (some ⟨q, 0, none⟩), .int .i64 sw] w fun e w' => e = .returned (.int .i64 (ofN l sw : Nat)) ∧ Below w.heap.size w w' := by
  have hB := h.hq
  have hq := h.lt
  have hb : Below w.heap.size w ((w.alloc (.cells #[.int .i64 sw] 3)).alloc (.cells #[.int .i64 0] 3)) := ((Below.refl _ _).alloc (Nat.le_refl _) _).alloc (by simp) _
  have h2 := h.kept hb
  have c0 := h2.c0
  have X := Lib.hid (idxO_c w.heap.size (w.heap.size + 1) sw h2 hl (by simp [go_sem]) (by have := heap_alloc_new (w.alloc (.cells #[.int .i64 sw] 3)) (.cells #[.int .i64 0] 3); simpa using this) (by omega) (by omega) (fun g hg => by have := (h.own.lt g hg).2; omega))
  have HB := Lib.hid hb
  obtain ⟨ao, c, rfl, _⟩ := h.form
  clear h h2 hb
  have X1 : Hid (Calls Try.prog 79 #[.pointer (some ⟨q, 0, none⟩), .func (.func 80) #[] #[.pointer (some ⟨w.heap.size, 0, none⟩), .pointer (some ⟨w.heap.size + 1, 0, none⟩)]] ((w.alloc (.cells #[.int .i64 sw] 3)).alloc (.cells #[.int .i64 0] 3)) fun e w' => e = .returned (.int .i64 (-1)) ∧ w'.cell? ⟨w.heap.size + 1, 0, none⟩ = some (.int .i64 (ofN l sw : Nat)) ∧ Below w.heap.size w w') := by
    refine Lib.hid ?_
    generalize (w.alloc (.cells #[.int .i64 sw] 3)).alloc (.cells #[.int .i64 0] 3) = w2 at *
    go_enter Try.func79, Try.ntmps79
    go_wp2_with (go_at_call 88; refine X.out.mono ?_; rintro e w' ⟨rfl, hc, hb1⟩)
    go_ret
    exact ⟨rfl, block_cell hc 0, HB.out.trans (hb1.mono (by omega))⟩
  clear c0
  go_enter Try.func37, Try.ntmps37
  go_wp2_with (go_at_call 79; refine X1.out.mono ?_; rintro e w' ⟨rfl, hc, hb1⟩)
  go_ret
  exact ⟨rfl, hb1⟩
set_option maxRecDepth 100000 in
set_option maxHeartbeats 1000000 in
theorem rof_c (sw : Int) (h : St 63 65 B w q v n l) (hl : l.length ≤ 256) :
    Calls Try.prog 38 #[.pointer (some ⟨q, 0, none⟩), .int .i64 sw] w fun e w' => e = .returned (.int .i64 (ofN l sw : Nat)) ∧ w = w' := by
  have c0 := h.c0
  obtain ⟨ao, c, rfl, hc1, hc2⟩ := h.form
  unfold maxLen at hc2
  have H := Lib.hid h
  clear h
  go_enter Try.func38, Try.ntmps38
  go_wp2_with fail
  go_loop [5, 6] (fun m i => ∃ k : Nat, i = .int .i64 k ∧ k ≤ l.length ∧ m = .int .i64 (ofN (l.take k) sw : Nat)) (fun _ i => l.length - (intOf i).toNat)
  case atStart => exact ⟨0, rfl, Nat.zero_le _, rfl⟩
  case round =>
    obtain ⟨k, rfl, hk, rfl⟩ := hrel
    by_cases hlt : k < l.length
    · have hd : decide ((k : Int) < (l.length : Int)) = true := by simp; omega
      have hk2 : (k : Int) < (l.length : Int) := by omega
      obtain ⟨g, rfl, hg, hgq, e0, e1, e2⟩ := H.out.el k hlt
      have hbd := ofN_le (l.take k) sw
      have htl : (l.take k).length ≤ 256 := by rw [List.length_take]; omega
      have hx := ofN_take l sw k hlt
      obtain ⟨d, hdd⟩ : ∃ d, ((l[k]).1 == sw) = d := ⟨_, rfl⟩
      rw [hdd] at hx
      have HX := Lib.hid hx
      clear hx
      generalize (l[k]).1 = x at *
      generalize (l[k]).2.1 = y at *
      generalize (l[k]).2.2 = z at *
      cases d
      · go_wp2_with fail
        go_round
        case rel => exact ⟨k + 1, by go_num, by omega, by rw [HX.out]; rfl⟩
        case measure => simp [intOf]; omega
      · go_wp2_with fail
        go_round
        case rel => exact ⟨k + 1, by go_num, by omega, by rw [HX.out]; rfl⟩
        case measure => simp [intOf]; omega
    · obtain rfl : k = l.length := by omega
      have hd : decide ((l.length : Int) < (l.length : Int)) = false := by simp
      go_wp2_with fail
      go_ret
      exact ⟨rfl, rfl⟩
set_option maxRecDepth 100000 in
set_option maxHeartbeats 1000000 in
theorem rnext_c (sw : Int) (up : Bool) (h : St 63 65 B w q v n l) (_hl : l.length ≤ 256) :
    Calls Try.prog 40 #[.pointer (some ⟨q, 0, none⟩), .int .i64 sw, .bool up] w fun e w' => e = .returned (.int .i64 (nextN l sw up)) ∧ w = w' := by
  have c0 := h.c0
  obtain ⟨ao, c, rfl, hc1, hc2⟩ := h.form
  unfold maxLen at hc2
  have H := Lib.hid h
  clear h
  go_enter Try.func40, Try.ntmps40
  go_wp2_with fail
  go_loop [7] (fun i => ∃ k : Nat, i = .int .i64 k ∧ k ≤ l.length ∧ Hid (∀ i (_ : i < l.length), i < k → nextB sw up l[i] = false)) (fun i => l.length - (intOf i).toNat)
  case atStart => exact ⟨0, rfl, Nat.zero_le _, Lib.hid (fun i _ h => absurd h (Nat.not_lt_zero _))⟩
  case round =>
    obtain ⟨k, rfl, hk, HO⟩ := hrel
    by_cases hlt : k < l.length
    · have hd : decide ((k : Int) < (l.length : Int)) = true := by simp; omega
      have hk2 : (k : Int) < (l.length : Int) := by omega
      obtain ⟨g, rfl, hg, hgq, e0, e1, e2⟩ := H.out.el k hlt
      have HH : Hid (nextB sw up l[k] = true → nextN l sw up = (k : Int)) := Lib.hid (fun ht => nextN_hit hlt ht HO.out)
      have HM : Hid (nextB sw up l[k] = false → ∀ i (_ : i < l.length), i < k + 1 → nextB sw up l[i] = false) := Lib.hid (fun ht i hi h => by
        by_cases e : i = k
        · subst e; exact ht
        · exact HO.out i hi (by omega))
      obtain ⟨d, hdd⟩ : ∃ d, ((l[k]).1 == sw) = d := ⟨_, rfl⟩
      obtain ⟨d2, hdd2⟩ : ∃ d2, ((l[k]).2.1 == up) = d2 := ⟨_, rfl⟩
      have hn : nextB sw up l[k] = (d && d2) := by unfold nextB; rw [hdd, hdd2]
      rw [hn] at HH HM
      clear hn
      generalize (l[k]).1 = x at *
      generalize (l[k]).2.1 = y at *
      generalize (l[k]).2.2 = z at *
      cases d
      · have HM2 := Lib.hid (HM.out rfl)
        clear HM HH
        go_wp2_with fail
        go_round
        case rel => exact ⟨k + 1, by go_num, by omega, HM2⟩
        case measure => simp [intOf]; omega
      · cases d2
        · have HM2 := Lib.hid (HM.out rfl)
          clear HM HH
          go_wp2_with fail
          go_round
          case rel => exact ⟨k + 1, by go_num, by omega, HM2⟩
          case measure => simp [intOf]; omega
        · have HH2 := Lib.hid (HH.out rfl)
          clear HM HH
          go_wp2_with fail
          go_ret
          rw [HH2.out]
          exact ⟨rfl, rfl⟩
    · obtain rfl : k = l.length := by omega
      have hd : decide ((l.length : Int) < (l.length : Int)) = false := by simp
      have HA : Hid (nextN l sw up = -1) := Lib.hid (nextN_none fun i hi => HO.out i hi hi)
      go_wp2_with fail
      go_ret
      rw [HA.out]
      exact ⟨rfl, rfl⟩
end
end Ch
end Go.Proofs.Ythmglahcampllaa
