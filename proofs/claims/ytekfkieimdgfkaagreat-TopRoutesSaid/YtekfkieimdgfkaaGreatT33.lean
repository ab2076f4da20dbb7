/- What is proved here: where a packet is, some hops on, the document's way. Condition: topology and routes may be, and can be read. -/
import Derived.Test.YtekfkieimdgfkaaGreatT01
import Derived.Test.YtekfkieimdgfkaaGreatT06
namespace Go.Proofs.YtekfkieimdgfkaaGreat
open Go Go.RowKit
attribute [local go_sem] KW.cell KW.frozen
def NamedL (ls : List Lk) (sw p : Int) : Prop := ∃ l ∈ ls, plA sw p l = true ∨ plB sw p l = true
def Named (ls : List Lk) (hs : List Ho) (sw p : Int) : Prop := NamedL ls sw p ∨ ∃ h ∈ hs, plH sw p h = true
def NextR (n : Int) (ls : List Lk) (sw p : Int) (w : World) (e : Ending) (w' : World) : Prop :=
  ∃ (a : Int) (d : Bool), e = .returned (.tuple #[.int .i64 a, .bool d]) ∧ (d = true → NamedL ls sw p ∧ 0 ≤ a ∧ a < n) ∧ Below w.heap.size w w'
theorem NextR.mk' {n : Int} {ls : List Lk} {sw p : Int} {w w' : World} (a : Int) (d : Bool) (h : d = true → NamedL ls sw p ∧ 0 ≤ a ∧ a < n) (hb : Below w.heap.size w w') :
    NextR n ls sw p w (.returned (.tuple #[.int .i64 a, .bool d])) w' := ⟨a, d, rfl, h, hb⟩
theorem peer_next {n : Int} {ls : List Lk} {hs : List Ho} {sw p a : Int} (ht : ∀ l ∈ ls, LinkF n ls hs l) (h : ∃ l ∈ ls, (plA sw p l = true ∧ a = l.2.2.1) ∨ (plB sw p l = true ∧ a = l.1)) : NamedL ls sw p ∧ 0 ≤ a ∧ a < n := by
  obtain ⟨l, hl, h⟩ := h
  obtain ⟨_, _, _, _, hp, hq⟩ := ht l hl
  rcases h with ⟨h, rfl⟩ | ⟨h, rfl⟩
  · exact ⟨⟨l, hl, .inl h⟩, hq.1, hq.2.1⟩
  · exact ⟨⟨l, hl, .inr h⟩, hp.1, hp.2.1⟩
set_option maxRecDepth 100000 in
set_option maxHeartbeats 8000000 in
theorem next_c (n : Int) (lo ho : Option Addr) (lc hc : Nat) (ls : List Lk) (hs : List Ho) (rv : Value) (rows : List (List Int)) (i h : Nat) (w : World) (h1 : Rz 6 lkE (.slice lo ls.length lc) ls w) (h2 : Rz 2 hoE (.slice ho hs.length hc) hs w) (hr : RdW rv rows w)
    (ht : ∀ l ∈ ls, LinkF n ls hs l) (hi : i < rows.length) (hh : h < rows[i].length) (x : Int) (hx : rows[i][h] = x) :
    Calls Tryz.prog 45 #[.agg #[.int .i64 n, .slice lo ls.length lc, .slice ho hs.length hc], rv, .int .i64 i, .int .i64 h] w (NextR n ls i x w) := by
  obtain ⟨ro, rc, rfl, hrc1, hrc2⟩ := hr.form
  have HR := Lib.hid hr
  have HT := Lib.hid ht
  have HX := Lib.hid hx
  clear hr ht hx
  obtain ⟨_, _, e1, l1, l2⟩ := h1.form
  obtain ⟨_, _, e2, l3, l4⟩ := h2.form
  cases e1
  cases e2
  have hb0 := grow1 w (.cells #[.int .i64 n, .slice lo ls.length lc, .slice ho hs.length hc] 25)
  have HB := Lib.hid hb0
  have H1 := Lib.hid h1
  have H2 := Lib.hid h2
  clear hb0 h1 h2
  go_enter Tryz.func45, Tryz.ntmps45
  go_upto_region 1 with fail
  refine abs_wp ?_
  intro wb hwb
  have hb0 : Below w.heap.size w wb := by rw [hwb]; exact HB.out
  have c0 : wb.cell? ⟨w.heap.size, 0, none⟩ = some (.int .i64 n) := by rw [hwb]; simp [go_sem]
  have c1 : wb.cell? ⟨w.heap.size, 1, none⟩ = some (.slice lo ls.length lc) := by rw [hwb]; simp [go_sem]
  have c2 : wb.cell? ⟨w.heap.size, 2, none⟩ = some (.slice ho hs.length hc) := by rw [hwb]; simp [go_sem]
  have hg : w.heap.size < wb.heap.size := by rw [hwb]; simp
  have K1 := Lib.hid (H1.out.kept hb0)
  have K2 := Lib.hid (H2.out.kept hb0)
  have E := Lib.hid (fun (wr : World) (hb : Below wb.heap.size wb wr) => (⟨(hb.cell (p := ⟨w.heap.size, 0, none⟩) hg).trans c0, (hb.cell (p := ⟨w.heap.size, 1, none⟩) hg).trans c1, (hb.cell (p := ⟨w.heap.size, 2, none⟩) hg).trans c2⟩ : wr.cell? ⟨w.heap.size, 0, none⟩ = some (.int .i64 n) ∧ wr.cell? ⟨w.heap.size, 1, none⟩ = some (.slice lo ls.length lc) ∧ wr.cell? ⟨w.heap.size, 2, none⟩ = some (.slice ho hs.length hc)))
  clear hwb HB H1 H2
  have KR := Lib.hid (HR.out.kept hb0)
  clear HR
  obtain ⟨a, sok, sck, rfl, zk, ck0, rsk⟩ := KR.out.at_ i hi
  obtain ⟨a2, rfl, z2, e0⟩ := int_at rsk h hh
  rw [HX.out] at e0
  have X := Lib.hid (fun (kk : KW wb) => peer_c n (i : Int) x lo ho lc hc ls hs kk.val (K1.out.kept kk.kp) (K2.out.kept kk.kp))
  have HP := Lib.hid (fun (a : Int) (h' : ∃ l ∈ ls, (plA (i : Int) x l = true ∧ a = l.2.2.1) ∨ (plB (i : Int) x l = true ∧ a = l.1)) => peer_next HT.out h')
  clear rsk HX
  obtain ⟨rl, hrl⟩ : ∃ rl, rows[i].length = rl := ⟨_, rfl⟩
  rw [hrl] at ck0 hh
  clear hrl
  have i1 : (i : Int) < (rows.length : Int) := by omega
  have i2 : (h : Int) < (rl : Int) := by omega
  have i3 : decide ((rows.length : Int) ≤ (i : Int)) = false := by simp; omega
  have i4 : decide ((rl : Int) ≤ (h : Int)) = false := by simp; omega
  have i5 : decide (rows.length ≤ i) = false := by simp; omega
  have i6 : decide (rl ≤ h) = false := by simp; omega
  have i7 : ¬ rows.length ≤ i := by omega
  have i8 : ¬ rl ≤ h := by omega
  go_wp2_with fail
  refine wp_region_mid 9 (by kernel_rfl) (by kernel_rfl) ?_
  simp only [List.take_succ_cons, List.take_zero, List.drop_succ_cons, List.drop_zero]
  repeat (first | go_big_quiet_step (fail) | quiet_step (fail))
  refine wpQuiet_nil ?_
  intro kw
  refine ⟨72, #[.agg #[.int .i64 n, .slice lo ls.length lc, .slice ho hs.length hc], .int .i64 i, .int .i64 x], _, rfl, rfl, ?_, ?_⟩
  · go_simp
  refine (X.out kw).mono ?_
  rintro e w2 ⟨pa, pb, pc, pd, rfl, hp, hb2⟩
  have HP2 : Hid (pd = true → NamedL ls (i : Int) x ∧ 0 ≤ pa ∧ pa < n) := Lib.hid (fun hd => HP.out pa (hp hd))
  clear hp HP
  have hbW := bon hb0 kw.kp
  have hbW2 := bon hbW hb2
  refine ⟨_, rfl, ?_⟩
  repeat (first | go_big_quiet_step (fail) | quiet_step (fail))
  refine wpQuiet_nil ?_
  intro kz
  have hbZ := bon hbW2 kz.kp
  go_wp2_with fail
  exact bodyPost_ret (v := .tuple #[.int .i64 pa, .bool pd]) (by simp [results, Tryz.results45, go_sem]) rfl (NextR.mk' _ _ HP2.out hbZ)
end Go.Proofs.YtekfkieimdgfkaaGreat
/- What is proved here: where a packet is, some hops on, the document's way: the steps. Condition: topology and routes may be, and can be read. -/
namespace Go.Proofs.YtekfkieimdgfkaaGreat
open Go Go.RowKit
attribute [local go_sem] KW.cell KW.frozen
def StepsR (ls : List Lk) (hs : List Ho) (i : Nat) (x : Int) (nn : Nat) (w : World) (e : Ending) (w' : World) : Prop :=
  ∃ (a : Int) (d : Bool), e = .returned (.tuple #[.int .i64 a, .bool d]) ∧ ((d = true ∨ (1 ≤ nn ∧ a ≠ -1)) → Named ls hs i x) ∧ Below w.heap.size w w'
theorem StepsR.mk' {ls : List Lk} {hs : List Ho} {i : Nat} {x : Int} {nn : Nat} {w w' : World} (a : Int) (d : Bool) (h : (d = true ∨ (1 ≤ nn ∧ a ≠ -1)) → Named ls hs i x) (hb : Below w.heap.size w w') :
    StepsR ls hs i x nn w (.returned (.tuple #[.int .i64 a, .bool d])) w' := ⟨a, d, rfl, h, hb⟩
set_option maxRecDepth 100000 in
set_option maxHeartbeats 8000000 in
theorem steps_c (n : Int) (lo ho : Option Addr) (lc hc : Nat) (ls : List Lk) (hs : List Ho) (rv : Value) (rows : List (List Int)) (i h nn : Nat) (w : World) (h1 : Rz 6 lkE (.slice lo ls.length lc) ls w) (h2 : Rz 2 hoE (.slice ho hs.length hc) hs w) (hr : RdW rv rows w)
    (ht : ∀ l ∈ ls, LinkF n ls hs l) (hn : (rows.length : Int) = n) (hrl : ∀ r ∈ rows, r.length = hs.length) (hi : i < rows.length) (hh : h < hs.length) (hnn : nn ≤ 100) (x : Int) (hx : ∀ r, rows[i]? = some r → r.getD h 0 = x) :
    Calls Tryz.prog 24 #[.agg #[.int .i64 n, .slice lo ls.length lc, .slice ho hs.length hc], rv, .int .i64 i, .int .i64 h, .int .i64 nn] w (StepsR ls hs i x nn w) := by
  obtain ⟨ro, rc, rfl, hrc1, hrc2⟩ := hr.form
  have HR := Lib.hid hr
  have HT := Lib.hid ht
  have HX := Lib.hid hx
  have HN := Lib.hid hn
  have HRL := Lib.hid hrl
  clear hr ht hx hn hrl
  obtain ⟨_, _, e1, l1, l2⟩ := h1.form
  obtain ⟨_, _, e2, l3, l4⟩ := h2.form
  cases e1
  cases e2
  have hb0 := grow1 w (.cells #[.int .i64 n, .slice lo ls.length lc, .slice ho hs.length hc] 25)
  have HB := Lib.hid hb0
  have H1 := Lib.hid h1
  have H2 := Lib.hid h2
  clear hb0 h1 h2
  go_enter Tryz.func24, Tryz.ntmps24
  go_upto_region 1 with fail
  refine abs_wp ?_
  intro wb hwb
  have hb0 : Below w.heap.size w wb := by rw [hwb]; exact HB.out
  have c0 : wb.cell? ⟨w.heap.size, 0, none⟩ = some (.int .i64 n) := by rw [hwb]; simp [go_sem]
  have c1 : wb.cell? ⟨w.heap.size, 1, none⟩ = some (.slice lo ls.length lc) := by rw [hwb]; simp [go_sem]
  have c2 : wb.cell? ⟨w.heap.size, 2, none⟩ = some (.slice ho hs.length hc) := by rw [hwb]; simp [go_sem]
  have hg : w.heap.size < wb.heap.size := by rw [hwb]; simp
  have K1 := Lib.hid (H1.out.kept hb0)
  have K2 := Lib.hid (H2.out.kept hb0)
  have E := Lib.hid (fun (wr : World) (hb : Below wb.heap.size wb wr) => (⟨(hb.cell (p := ⟨w.heap.size, 0, none⟩) hg).trans c0, (hb.cell (p := ⟨w.heap.size, 1, none⟩) hg).trans c1, (hb.cell (p := ⟨w.heap.size, 2, none⟩) hg).trans c2⟩ : wr.cell? ⟨w.heap.size, 0, none⟩ = some (.int .i64 n) ∧ wr.cell? ⟨w.heap.size, 1, none⟩ = some (.slice lo ls.length lc) ∧ wr.cell? ⟨w.heap.size, 2, none⟩ = some (.slice ho hs.length hc)))
  clear hwb HB H1 H2
  have KR := Lib.hid (HR.out.kept hb0)
  clear HR
  go_wp2_with fail
  clear c0 c1 c2
  go_loopw [12, 13] (fun at' k' wr => ∃ k j : Nat, k' = .int .i64 k ∧ at' = .int .i64 j ∧ j < rows.length ∧ k ≤ nn + 1 ∧ Hid (k = 0 → j = i) ∧ Hid (1 ≤ k → Named ls hs i x) ∧ Below wb.heap.size wb wr) (fun _ k' _ => nn + 1 - (intOf k').toNat)
  case atStart => exact ⟨0, i, rfl, rfl, hi, by omega, Lib.hid fun _ => rfl, Lib.hid fun h => absurd h (by omega), Below.refl _ _⟩
  case round =>
    obtain ⟨k, j, rfl, rfl, hj, hk, HJ, HM, hb⟩ := hrel
    have hs0 := hb.size
    have hbW := bon hb0 hb
    obtain ⟨c0, c1, c2⟩ := E.out wr hb
    by_cases hlt : k ≤ nn
    · have hd : decide ((k : Int) ≤ (nn : Int)) = true := by simp; omega
      have hdn : decide (k ≤ nn) = true := by simp; omega
      have hg2 : w.heap.size < wr.heap.size := by omega
      obtain ⟨a, sok, sck, rfl, zk, ck0, rsk⟩ := (KR.out.kept hb).at_ j hj
      have hrow : rows[j].length = hs.length := HRL.out _ (List.getElem_mem hj)
      obtain ⟨a2, rfl, z2, e0⟩ := int_at rsk h (by omega)
      obtain ⟨a3, rfl, z3, f0, f1⟩ := ho_at (K2.out.kept hb) h hh
      obtain ⟨y, hy⟩ : ∃ y, rows[j][h]'(by omega) = y := ⟨_, rfl⟩
      rw [hy] at e0
      rw [hrow] at ck0
      have HY : Hid (j = i → y = x) := Lib.hid (fun e => by
        subst e
        have := HX.out rows[j] (List.getElem?_eq_getElem hj)
        rw [List.getD_eq_getElem?_getD, List.getElem?_eq_getElem (by omega)] at this
        rw [← hy]; exact this)
      have HK := Lib.hid (fun (w' : World) (hb' : Below wr.heap.size wr w') => next_c n lo (some a3) lc hc ls hs _ rows j h w' (K1.out.kept (bon hb hb')) (K2.out.kept (bon hb hb')) (KR.out.kept (bon hb hb')) HT.out hj (by rw [hrow]; exact hh) y hy)
      clear rsk hrow hy
      obtain ⟨y0, hy0⟩ : ∃ d, ((hs[h]).1 == (j : Int)) = d := ⟨_, rfl⟩
      obtain ⟨y1, hy1⟩ : ∃ d, ((hs[h]).2 == y) = d := ⟨_, rfl⟩
      have HZ : Hid (y0 = true → y1 = true → Named ls hs i x) := Lib.hid (fun q0 q1 => by
        by_cases hk0 : k = 0
        · have hji := HJ.out hk0
          refine .inr ⟨hs[h], List.getElem_mem hh, ?_⟩
          unfold plH
          rw [← hji, ← HY.out hji, hy0, hy1, q0, q1]
          rfl
        · exact HM.out (by omega))
      have i1 : (j : Int) < (rows.length : Int) := by omega
      have i2 : (h : Int) < (hs.length : Int) := by omega
      generalize (hs[h]).1 = g0 at *
      generalize (hs[h]).2 = g1 at *
      obtain ⟨q, hq⟩ : ∃ q, ((k : Int) == (nn : Int)) = q := ⟨_, rfl⟩
      have hqn : (k == nn) = q := by rw [← hq, Bool.eq_iff_iff, beq_iff_eq, beq_iff_eq]; omega
      have HQ := Lib.hid hqn
      by_cases hA : y0 = true ∧ y1 = true
      · obtain ⟨rfl, rfl⟩ := hA
        have HZ2 := Lib.hid (HZ.out rfl rfl)
        clear HZ
        go_wp2_with fail
        refine wp_region_kq (by kernel_rfl) (by kernel_rfl) ?_
        repeat (first | go_big_quiet_step (fail) | quiet_step (fail))
        refine wpQuiet_nil ?_
        intro kz
        have hz := bon hbW kz.kp
        go_wp2_with fail
        exact bodyPost_ret (v := .tuple #[.int .i64 (j : Int), .bool q]) (by simp [results, Tryz.results24, go_sem]) rfl (StepsR.mk' _ _ (fun _ => HZ2.out) hz)
      · clear HZ
        cases q with
        | true =>
          have hkn : k = nn := by simpa using HQ.out
          have HZ2 : Hid (1 ≤ nn → Named ls hs i x) := Lib.hid (fun h => HM.out (by omega))
          clear hkn
          cases y0 <;> cases y1 <;> first | exact absurd ⟨rfl, rfl⟩ hA | skip
          all_goals
            clear hA
            go_wp2_with fail
            refine wp_region_kq (by kernel_rfl) (by kernel_rfl) ?_
            repeat (first | go_big_quiet_step (fail) | quiet_step (fail))
            refine wpQuiet_nil ?_
            intro kz
            have hz := bon hbW kz.kp
            go_wp2_with fail
            exact bodyPost_ret (v := .tuple #[.int .i64 (j : Int), .bool false]) (by simp [results, Tryz.results24, go_sem]) rfl (StepsR.mk' _ _ (fun h => HZ2.out (by rcases h with h | h; cases h; exact h.1)) hz)
        | false =>
          cases y0 <;> cases y1 <;> first | exact absurd ⟨rfl, rfl⟩ hA | skip
          all_goals
            clear hA
            go_wp2_with fail
            refine wp_region_kq (by kernel_rfl) (by kernel_rfl) ?_
            repeat (first | go_big_quiet_step (fail) | quiet_step (fail))
            refine wpQuiet_nil ?_
            intro kz
            have hz := bon hbW kz.kp
            obtain ⟨c0', c1', c2'⟩ := E.out kz.val (bon hb kz.kp)
            clear c0 c1 c2
            go_wp2_with fail
            refine (HK.out kz.val kz.kp).mono ?_
            rintro e w3 ⟨na, nd, rfl, hp, hb3⟩
            have HP3 := Lib.hid hp
            clear hp
            have hz3 := bon hz hb3
            cases nd with
            | false =>
              go_wp2_with fail
              exact bodyPost_ret (v := .tuple #[.int .i64 (-1), .bool false]) (by simp [results, Tryz.results24, go_sem]) rfl (StepsR.mk' _ _ (fun h => by rcases h with h | h; cases h; exact absurd rfl h.2) hz3)
            | true =>
              obtain ⟨hnm, ha0, ha1⟩ := HP3.out rfl
              have han : na < (rows.length : Int) := by rw [HN.out]; exact ha1
              obtain ⟨m, rfl⟩ : ∃ m : Nat, na = m := ⟨na.toNat, by omega⟩
              have HM2 : Hid (1 ≤ k + 1 → Named ls hs i x) := Lib.hid (fun _ => by
                by_cases hk0 : k = 0
                · have hji := HJ.out hk0
                  rw [← HY.out hji, ← hji]
                  exact .inl hnm
                · exact HM.out (by omega))
              have hb5 := bon (bon hb kz.kp) hb3
              clear HP3 hnm ha1
              go_wp2_with fail
              go_roundw
              case rel => exact ⟨k + 1, m, by go_num, rfl, by omega, by omega, Lib.hid (fun h => absurd h (by omega)), HM2, hb5⟩
              case measure => simp [intOf]; omega
    · have hd : decide ((k : Int) ≤ (nn : Int)) = false := by simp; omega
      have hdn : decide (k ≤ nn) = false := by simp; omega
      have hp1 : ¬ k ≤ nn := by omega
      have hp2 : nn < k := by omega
      have HZ2 : Hid (Named ls hs i x) := Lib.hid (HM.out (by omega))
      go_wp2_with fail
      exact bodyPost_ret (v := .tuple #[.int .i64 (j : Int), .bool false]) (by simp [results, Tryz.results24, go_sem]) rfl (StepsR.mk' _ _ (fun _ => HZ2.out) hbW)
end Go.Proofs.YtekfkieimdgfkaaGreat
