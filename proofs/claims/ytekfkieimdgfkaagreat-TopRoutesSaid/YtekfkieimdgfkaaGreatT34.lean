/- What is proved here: of good routes each port is named, the document's way. Condition: they can be read. -/
import Derived.Test.YtekfkieimdgfkaaGreatT33
namespace Go.Proofs.YtekfkieimdgfkaaGreat
open Go Go.RowKit
attribute [local go_sem] KW.cell KW.frozen
def WalkR (ls : List Lk) (hs : List Ho) (i : Nat) (x : Int) (w : World) (e : Ending) (w' : World) : Prop :=
  ∃ (v : Value) (c : Int), e = .returned (.tuple #[v, .int .i64 c]) ∧ (c = 0 → Named ls hs i x) ∧ Below w.heap.size w w'
theorem WalkR.mk' {ls : List Lk} {hs : List Ho} {i : Nat} {x : Int} {w w' : World} (v : Value) (c : Int) (h : c = 0 → Named ls hs i x) (hb : Below w.heap.size w w') :
    WalkR ls hs i x w (.returned (.tuple #[v, .int .i64 c])) w' := ⟨v, c, rfl, h, hb⟩
theorem info3 : (Tryz.prog.info? 3).map (fun i => (i.zero, i.size, i.bytes)) = some (some (.int .i64 0), 1, 8) := by kernel_rfl
set_option maxRecDepth 100000 in
set_option maxHeartbeats 8000000 in
theorem walk_c (n : Int) (lo ho : Option Addr) (lc hc : Nat) (ls : List Lk) (hs : List Ho) (rv : Value) (rows : List (List Int)) (i h : Nat) (w : World) (h1 : Rz 6 lkE (.slice lo ls.length lc) ls w) (h2 : Rz 2 hoE (.slice ho hs.length hc) hs w) (hr : RdW rv rows w)
    (hF : RoutesF n ls hs rows) (hi : i < rows.length) (hh : h < hs.length) (x : Int) (hx : ∀ r, rows[i]? = some r → r.getD h 0 = x) :
    Calls Tryz.prog 14 #[.agg #[.int .i64 n, .slice lo ls.length lc, .slice ho hs.length hc], rv, .int .i64 i, .int .i64 h] w (WalkR ls hs i x w) := by
  obtain ⟨ro, rc, rfl, hrc1, hrc2⟩ := hr.form
  have HR := Lib.hid hr
  have HF := Lib.hid hF
  have HX := Lib.hid hx
  have hn1 : (rows.length : Int) = n := hF.2.1
  have hn8 : n ≤ 8 := hF.1.2.1
  clear hr hF hx
  obtain ⟨_, _, e1, l1, l2⟩ := h1.form
  obtain ⟨_, _, e2, l3, l4⟩ := h2.form
  cases e1
  cases e2
  have hb0 := grow1 w (.cells #[.int .i64 n, .slice lo ls.length lc, .slice ho hs.length hc] 25)
  have HB := Lib.hid hb0
  have H1 := Lib.hid h1
  have H2 := Lib.hid h2
  clear hb0 h1 h2
  go_enter Tryz.func14, Tryz.ntmps14
  go_upto_region 1 with fail
  refine abs_wp ?_
  intro wb hwb
  have hb0 : Below w.heap.size w wb := by rw [hwb]; exact HB.out
  have c0 : wb.cell? ⟨w.heap.size, 0, none⟩ = some (.int .i64 n) := by rw [hwb]; simp [go_sem]
  have c1 : wb.cell? ⟨w.heap.size, 1, none⟩ = some (.slice lo ls.length lc) := by rw [hwb]; simp [go_sem]
  have c2 : wb.cell? ⟨w.heap.size, 2, none⟩ = some (.slice ho hs.length hc) := by rw [hwb]; simp [go_sem]
  have hg : w.heap.size < wb.heap.size := by rw [hwb]; simp
  have K1 := Lib.hid (H1.out.kept hb0)
  have K2 := Lib.hid (H2.out.kept hb0)
  have E := Lib.hid (fun (wr : World) (hb : Below wb.heap.size wb wr) => (⟨(hb.cell (p := ⟨w.heap.size, 0, none⟩) hg).trans c0, (hb.cell (p := ⟨w.heap.size, 1, none⟩) hg).trans c1, (hb.cell (p := ⟨w.heap.size, 2, none⟩) hg).trans c2⟩ : wr.cell? ⟨w.heap.size, 0, none⟩ = some (.int .i64 n) ∧ wr.cell? ⟨w.heap.size, 1, none⟩ = some (.slice lo ls.length lc) ∧ wr.cell? ⟨w.heap.size, 2, none⟩ = some (.slice ho hs.length hc)))
  clear hwb HB H1 H2
  have KR := Lib.hid (HR.out.kept hb0)
  clear HR
  have HS := Lib.hid (fun (nn : Nat) (hnn : nn ≤ 100) (w' : World) (hb : Below wb.heap.size wb w') => steps_c n lo ho lc hc ls hs (.slice ro rows.length rc) rows i h nn w' (K1.out.kept hb) (K2.out.kept hb) (KR.out.kept hb) HF.out.1.2.2.2.2.1 HF.out.2.1 (fun r hr => (HF.out.2.2 r hr).1) hi hh hnn x HX.out)
  have X := Lib.hid (rright_c n lo ho lc hc ls hs (.slice ro rows.length rc) rows wb K1.out K2.out KR.out)
  obtain ⟨i0, hi0, hz0, hz1, hz2⟩ := info_parts info3
  have HN := Lib.hid hn1
  clear hn1
  have i1 : (i : Int) < (rows.length : Int) := by omega
  have i2 : (h : Int) < (hs.length : Int) := by omega
  have i3 : decide ((rows.length : Int) ≤ (i : Int)) = false := by simp; omega
  have i4 : decide ((hs.length : Int) ≤ (h : Int)) = false := by simp; omega
  have i5 : decide (rows.length ≤ i) = false := by simp; omega
  have i6 : decide (hs.length ≤ h) = false := by simp; omega
  have i7 : ¬ rows.length ≤ i := by omega
  have i8 : ¬ hs.length ≤ h := by omega
  go_wp2_with fail
  refine X.out.mono ?_
  rintro e w1 ⟨b, rfl, _, hb1⟩
  have hbW1 := bon hb0 hb1
  clear X
  cases b with
  | false =>
    go_wp2_with fail
    exact bodyPost_ret (v := .tuple #[.slice none 0 0, .int .i64 2]) (by simp [results, Tryz.results14, go_sem]) rfl (WalkR.mk' _ _ (fun h => absurd h (by decide)) hbW1)
  | true =>
  clear c0 c1 c2
  obtain ⟨c0, c1, c2⟩ := E.out w1 hb1
  go_wp2_with fail
  clear c0 c1 c2 i3 i4 i5 i6 i7 i8 hbW1
  go_loopg [10, 11] (rows.length) (fun gg s10 s11 wr => ∃ (k : Nat) (vv : Value) (xs : List Value), gg = rows.length - k ∧ k ≤ rows.length ∧ s11 = .int .i64 k ∧ vv = s10 ∧ Hid (wr.ownsRow wb.heap.size 3 1 vv k xs) ∧ Below wb.heap.size wb wr)
  case atStart => exact ⟨0, _, [], rfl, Nat.zero_le _, rfl, rfl, Lib.hid ⟨rfl, .inl ⟨rfl, rfl⟩⟩, hb1⟩
  case round =>
    clear hb1
    obtain ⟨k, vv, xs, rfl, hk, rfl, rfl, HO, hb⟩ := hrel
    have hs0 := hb.size
    have hbW := bon hb0 hb
    obtain ⟨c0, c1, c2⟩ := E.out wr hb
    have hnn := HN.out
    have hk8 : rows.length ≤ 8 := by omega
    by_cases hlt : k < rows.length
    · have hd : decide ((k : Int) < n) = true := by simp; omega
      have hd1 : (k : Int) < n := by omega
      clear hnn
      go_wp2_with fail
      refine (HS.out k (by omega) wr hb).mono ?_
      rintro e w2 ⟨a, come, rfl, hp, hb2⟩
      have HP := Lib.hid hp
      clear hp
      have hb3 := bon hb hb2
      have hbW3 := bon hbW hb2
      by_cases ha : a = -1
      · subst ha
        go_wp2_with fail
        exact bodyPost_ret (v := .tuple #[.slice none 0 0, .int .i64 13]) (by simp [results, Tryz.results14, go_sem]) rfl (WalkR.mk' _ _ (fun h => absurd h (by decide)) hbW3)
      · have ha1 : (a == -1) = false := by rw [beq_eq_false_iff_ne]; exact ha
        have HO2 := Lib.hid (own_kept HO.out hb2)
        have hs3 := hb3.size
        go_wp2_with (at_builtin; refine wpList_append_own _ rfl _ _ 44 rfl wb.heap.size 3 i0 (.int .i64 0) 1 8 Tryz.underlying44 hi0 hz0 hz1 hz2 rfl (by decide) vv k _ (by rfl) (HO2.out.alloc _) ⟨w2.heap.size, 0, none⟩ 1 1 [.int .i64 a] (by rfl) (by rfl) (by intro j u hj; rcases j with _ | j <;> simp at hj; subst hj; simp [go_sem, Addr.add]) (by simp [Value.oneCell']) (by unfold maxLen; omega) (by omega) (by simp; omega) ?_)
        intro v1 w4 hown1 hg1 _
        have hb4 := below_grown (hb3.alloc hs3 _) (by simp; omega) hg1 HO2.out
        have HO4 := Lib.hid hown1
        have hbW4 := bon hb0 hb4
        clear hown1 hg1
        cases come with
        | true =>
          have HZ := Lib.hid (HP.out (.inl rfl))
          go_wp2_with fail
          exact bodyPost_ret (v := .tuple #[v1, .int .i64 0]) (by simp [results, Tryz.results14, go_sem]) rfl (WalkR.mk' _ _ (fun _ => HZ.out) hbW4)
        | false =>
          clear HP
          go_wp2_with fail
          go_roundg (rows.length - (k + 1))
          case measure => omega
          case rel => exact ⟨k + 1, _, _, rfl, by omega, by go_num, rfl, HO4, hb4⟩
    · obtain rfl : k = rows.length := by omega
      have hd : decide (((rows.length : Nat) : Int) < n) = false := by simp; omega
      have hd1 : ¬ ((rows.length : Nat) : Int) < n := by omega
      have hS := Lib.hid (HS.out rows.length (by omega) wr hb)
      rw [hnn] at hS
      clear hnn HS
      go_wp2_with fail
      refine hS.out.mono ?_
      rintro e w2 ⟨a, come, rfl, hp, hb2⟩
      have hbW3 := bon hbW hb2
      by_cases ha : a = -1
      · subst ha
        go_wp2_with fail
        exact bodyPost_ret (v := .tuple #[.slice none 0 0, .int .i64 13]) (by simp [results, Tryz.results14, go_sem]) rfl (WalkR.mk' _ _ (fun h => absurd h (by decide)) hbW3)
      · have ha1 : (a == -1) = false := by rw [beq_eq_false_iff_ne]; exact ha
        clear hp
        go_wp2_with fail
        exact bodyPost_ret (v := .tuple #[.slice none 0 0, .int .i64 12]) (by simp [results, Tryz.results14, go_sem]) rfl (WalkR.mk' _ _ (fun h => absurd h (by decide)) hbW3)
def GoodF (n : Int) (ls : List Lk) (hs : List Ho) (rows : List (List Int)) : Prop :=
  RoutesF n ls hs rows ∧ ∀ i h, i < rows.length → h < hs.length → ∀ r, rows[i]? = some r → Named ls hs i (r.getD h 0)
set_option maxRecDepth 100000 in
set_option maxHeartbeats 8000000 in
theorem good_c (n : Int) (lo ho : Option Addr) (lc hc : Nat) (ls : List Lk) (hs : List Ho) (rv : Value) (rows : List (List Int)) (w : World) (h1 : Rz 6 lkE (.slice lo ls.length lc) ls w) (h2 : Rz 2 hoE (.slice ho hs.length hc) hs w) (hr : RdW rv rows w) :
    Calls Tryz.prog 5 #[.agg #[.int .i64 n, .slice lo ls.length lc, .slice ho hs.length hc], rv] w (BoolIf (GoodF n ls hs rows) w) := by
  obtain ⟨ro, rc, rfl, hrc1, hrc2⟩ := hr.form
  have HR := Lib.hid hr
  clear hr
  obtain ⟨_, _, e1, l1, l2⟩ := h1.form
  obtain ⟨_, _, e2, l3, l4⟩ := h2.form
  cases e1
  cases e2
  have hb0 := grow1 w (.cells #[.int .i64 n, .slice lo ls.length lc, .slice ho hs.length hc] 25)
  have HB := Lib.hid hb0
  have H1 := Lib.hid h1
  have H2 := Lib.hid h2
  clear hb0 h1 h2
  go_enter Tryz.func5, Tryz.ntmps5
  go_upto_region 1 with fail
  refine abs_wp ?_
  intro wb hwb
  have hb0 : Below w.heap.size w wb := by rw [hwb]; exact HB.out
  have c0 : wb.cell? ⟨w.heap.size, 0, none⟩ = some (.int .i64 n) := by rw [hwb]; simp [go_sem]
  have c1 : wb.cell? ⟨w.heap.size, 1, none⟩ = some (.slice lo ls.length lc) := by rw [hwb]; simp [go_sem]
  have c2 : wb.cell? ⟨w.heap.size, 2, none⟩ = some (.slice ho hs.length hc) := by rw [hwb]; simp [go_sem]
  have hg : w.heap.size < wb.heap.size := by rw [hwb]; simp
  have K1 := Lib.hid (H1.out.kept hb0)
  have K2 := Lib.hid (H2.out.kept hb0)
  have E := Lib.hid (fun (wr : World) (hb : Below wb.heap.size wb wr) => (⟨(hb.cell (p := ⟨w.heap.size, 0, none⟩) hg).trans c0, (hb.cell (p := ⟨w.heap.size, 1, none⟩) hg).trans c1, (hb.cell (p := ⟨w.heap.size, 2, none⟩) hg).trans c2⟩ : wr.cell? ⟨w.heap.size, 0, none⟩ = some (.int .i64 n) ∧ wr.cell? ⟨w.heap.size, 1, none⟩ = some (.slice lo ls.length lc) ∧ wr.cell? ⟨w.heap.size, 2, none⟩ = some (.slice ho hs.length hc)))
  clear hwb HB H1 H2
  have KR := Lib.hid (HR.out.kept hb0)
  clear HR
  have X := Lib.hid (rright_c n lo ho lc hc ls hs (.slice ro rows.length rc) rows wb K1.out K2.out KR.out)
  go_wp2_with fail
  refine X.out.mono ?_
  rintro e w1 ⟨b, rfl, hf, hb1⟩
  have hbW1 := bon hb0 hb1
  have HF := Lib.hid hf
  clear X hf
  cases b with
  | false => go_wp2_with fail; go_ret; exact BoolIf.no hbW1
  | true =>
  have HF2 := Lib.hid (HF.out rfl)
  have HS := Lib.hid (fun (i h : Nat) (hi : i < rows.length) (hh : h < hs.length) (w' : World) (hb : Below wb.heap.size wb w') => walk_c n lo ho lc hc ls hs (.slice ro rows.length rc) rows i h w' (K1.out.kept hb) (K2.out.kept hb) (KR.out.kept hb) HF2.out hi hh (rows[i].getD h 0) (fun r hr => by
    rw [List.getElem?_eq_getElem hi] at hr
    cases hr
    rfl))
  clear HF c0 c1 c2 hbW1
  go_wp2_with fail
  go_loopw [5] (fun i' wr => ∃ i : Nat, i' = .int .i64 i ∧ i ≤ rows.length ∧ Hid (∀ j h, j < i → j < rows.length → h < hs.length → ∀ r, rows[j]? = some r → Named ls hs j (r.getD h 0)) ∧ Below wb.heap.size wb wr) (fun i' _ => rows.length - (intOf i').toNat)
  case atStart => exact ⟨0, rfl, Nat.zero_le _, Lib.hid (fun j h hj => absurd hj (by omega)), hb1⟩
  case round =>
    clear hb1
    obtain ⟨i, rfl, hi, HA, hb⟩ := hrel
    have hbW := bon hb0 hb
    by_cases hlt : i < rows.length
    · have hd : decide ((i : Int) < (rows.length : Int)) = true := by simp; omega
      obtain ⟨wo, rfl⟩ : ∃ wo : World, wo = wr := ⟨_, rfl⟩
      go_wp2_with fail
      go_loopw [6] (fun h' wr => ∃ h : Nat, h' = .int .i64 h ∧ h ≤ hs.length ∧ Hid (∀ j, j < h → ∀ r, rows[i]? = some r → Named ls hs i (r.getD j 0)) ∧ Below wb.heap.size wb wr) (fun h' _ => hs.length - (intOf h').toNat)
      case atStart => exact ⟨0, rfl, Nat.zero_le _, Lib.hid (fun j hj => absurd hj (by omega)), hb⟩
      case round =>
        clear hb hbW
        obtain ⟨h, rfl, hh, HB, hb⟩ := hrel
        have hbW := bon hb0 hb
        obtain ⟨c0, c1, c2⟩ := E.out wr hb
        by_cases hlt2 : h < hs.length
        · have hd : decide ((h : Int) < (hs.length : Int)) = true := by simp; omega
          go_wp2_with fail
          refine (HS.out i h hlt hlt2 wr hb).mono ?_
          rintro e w2 ⟨v, cc, rfl, hp, hb2⟩
          have HP := Lib.hid hp
          clear hp
          have hb3 := bon hb hb2
          have hbW3 := bon hbW hb2
          by_cases h0 : cc = 0
          · have HB2 : Hid (∀ j, j < h + 1 → ∀ r, rows[i]? = some r → Named ls hs i (r.getD j 0)) := Lib.hid (fun j hj r hr => by
              by_cases hjh : j = h
              · subst hjh
                have := HP.out h0
                rw [List.getElem?_eq_getElem hlt] at hr
                cases hr
                exact this
              · exact HB.out j (by omega) r hr)
            subst h0
            clear HP HB
            go_wp2_with fail
            go_roundw
            case rel => exact ⟨h + 1, by go_num, by omega, HB2, hb3⟩
            case measure => simp [intOf]; omega
          · have h1 : (cc == 0) = false := by rw [beq_eq_false_iff_ne]; exact h0
            have h2 : (cc != 0) = true := by rw [bne_iff_ne]; exact h0
            clear HP
            go_wp2_with fail
            go_ret
            exact BoolIf.no hbW3
        · obtain rfl : h = hs.length := by omega
          have hd : decide ((hs.length : Int) < (hs.length : Int)) = false := by simp
          have HA2 : Hid (∀ j h, j < i + 1 → j < rows.length → h < hs.length → ∀ r, rows[j]? = some r → Named ls hs j (r.getD h 0)) := Lib.hid (fun j h hj hjl hhl r hr => by
            by_cases hji : j = i
            · subst hji; exact HB.out h hhl r hr
            · exact HA.out j h (by omega) hjl hhl r hr)
          clear HA HB
          go_wp2_with fail
          go_roundw
          case rel => exact ⟨i + 1, by go_num, by omega, HA2, hb⟩
          case measure => simp [intOf]; omega
    · obtain rfl : i = rows.length := by omega
      have hd : decide ((rows.length : Int) < (rows.length : Int)) = false := by simp
      have HG : Hid (GoodF n ls hs rows) := Lib.hid ⟨HF2.out, fun j h hj hh r hr => HA.out j h hj hj hh r hr⟩
      clear HA
      go_wp2_with fail
      go_ret
      exact BoolIf.yes HG.out hbW _
end Go.Proofs.YtekfkieimdgfkaaGreat
/- What is proved here: which text routes are told as. Condition: they can be read, and have one digit. -/
namespace Go.Proofs.YtekfkieimdgfkaaGreat
open Go Go.RowKit
attribute [local go_sem] KW.cell KW.frozen
def bs (l : List UInt8) : ByteArray := ⟨⟨l⟩⟩
theorem bs_append (a b : List UInt8) : bs a ++ bs b = bs (a ++ b) := by
  apply ByteArray.ext
  apply Array.ext'
  simp [bs]
theorem bs_size (a : List UInt8) : (bs a).size = a.length := rfl
def dig (x : Int) : UInt8 := UInt8.ofNat (48 + x.toNat)
theorem ret_str {a b : ByteArray} (h : a = b) : Ending.returned (.string a) = .returned (.string b) := by rw [h]
set_option maxRecDepth 100000 in
theorem digit_c (x : Int) (w : World) (h0 : 0 ≤ x) (h1 : x ≤ 9) : Calls Tryz.prog 19 #[.int .i64 x] w fun e w' => e = .returned (.string (bs [dig x])) ∧ w = w' := by
  have : x = 0 ∨ x = 1 ∨ x = 2 ∨ x = 3 ∨ x = 4 ∨ x = 5 ∨ x = 6 ∨ x = 7 ∨ x = 8 ∨ x = 9 := by omega
  rcases this with rfl | rfl | rfl | rfl | rfl | rfl | rfl | rfl | rfl | rfl
  all_goals
    go_enter Tryz.func19, Tryz.ntmps19
    go_wp2
    go_ret
    exact ⟨ret_str (by rfl), rfl⟩
def sWhenSw : List UInt8 := [40, 119, 104, 101, 110, 32, 115, 119, 105, 116, 99, 104, 32, 61, 32]
def sOpen : List UInt8 := [59, 32, 40]
def sBar : List UInt8 := [32, 124, 32]
def sWhenDst : List UInt8 := [119, 104, 101, 110, 32, 100, 115, 116, 32, 61, 32]
def sPort : List UInt8 := [59, 32, 112, 111, 114, 116, 32, 58, 61, 32]
def sEnd : List UInt8 := [41, 41]
/-- Of one row, the first h ports. -/
def rowT (row : List Int) : Nat → List UInt8
  | 0 => []
  | h + 1 => rowT row h ++ ((if 0 < h then sBar else []) ++ (sWhenDst ++ ([dig (h : Int)] ++ (sPort ++ [dig (row.getD h 0)]))))
def swT (rows : List (List Int)) : Nat → List UInt8
  | 0 => []
  | i + 1 => swT rows i ++ ((if 0 < i then sBar else []) ++ (sWhenSw ++ ([dig (i : Int)] ++ (sOpen ++ (rowT (rows.getD i []) (rows.getD i []).length ++ sEnd)))))
def toldL (rows : List (List Int)) : List UInt8 := swT rows rows.length
theorem ba_app (a b : ByteArray) : (a ++ b).data.toList = a.data.toList ++ b.data.toList := by simp [ByteArray.data_append]
theorem ba_size (a : ByteArray) : a.size = a.data.toList.length := rfl
theorem rowT_len (row : List Int) : ∀ h, (rowT row h).length ≤ 26 * h := by
  intro h
  induction h with
  | zero => exact Nat.le_refl _
  | succ h ih =>
    unfold rowT
    simp only [List.length_append, List.length_cons, List.length_nil, sWhenDst, sPort]
    have : (if 0 < h then sBar else []).length ≤ 3 := by split <;> simp [sBar]
    omega
theorem swT_len (rows : List (List Int)) (hl : ∀ r ∈ rows, r.length ≤ 2) : ∀ i, i ≤ rows.length → (swT rows i).length ≤ 80 * i := by
  intro i
  induction i with
  | zero => intro _; exact Nat.le_refl _
  | succ i ih =>
    intro hi
    have h1 := ih (by omega)
    unfold swT
    have e : rows.getD i [] = rows[i] := by rw [List.getD_eq_getElem?_getD, List.getElem?_eq_getElem (by omega)]; rfl
    have h2 := hl rows[i] (List.getElem_mem (by omega))
    have h3 := rowT_len rows[i] rows[i].length
    rw [e]
    simp only [List.length_append, List.length_cons, List.length_nil, sWhenSw, sOpen, sEnd]
    have : (if 0 < i then sBar else []).length ≤ 3 := by split <;> simp [sBar]
    omega
set_option maxRecDepth 100000 in
set_option maxHeartbeats 4000000 in
theorem told_c (rv : Value) (rows : List (List Int)) (w : World) (hr : RdW rv rows w) (hn : rows.length ≤ 4) (hl : ∀ r ∈ rows, r.length ≤ 2 ∧ ∀ x ∈ r, 0 ≤ x ∧ x ≤ 7) :
    Calls Tryz.prog 9 #[rv] w fun e w' => ∃ s : ByteArray, e = .returned (.string s) ∧ s.data.toList = toldL rows ∧ Below w.heap.size w w' := by
  obtain ⟨ro, rc, rfl, hrc1, hrc2⟩ := hr.form
  have HR := Lib.hid hr
  have HL := Lib.hid hl
  clear hr hl
  go_enter Tryz.func9, Tryz.ntmps9
  go_wp2_with fail
  go_loopw [3, 4] (fun s' i' wr => ∃ (i : Nat) (s : ByteArray), i' = .int .i64 i ∧ i ≤ rows.length ∧ s' = .string s ∧ Hid (s.data.toList = swT rows i) ∧ Below w.heap.size w wr) (fun _ i' _ => rows.length - (intOf i').toNat)
  case atStart => exact ⟨0, _, rfl, Nat.zero_le _, rfl, Lib.hid rfl, Below.refl _ _⟩
  case round =>
    obtain ⟨i, s, rfl, hi, rfl, HS, hb⟩ := hrel
    by_cases hlt : i < rows.length
    · have hd : decide ((i : Int) < (rows.length : Int)) = true := by simp; omega
      have hk2 : (i : Int) < (rows.length : Int) := by omega
      have hi9 : (i : Int) ≤ 9 := by omega
      have D1 := Lib.hid (fun w' => digit_c (i : Int) w' (by omega) hi9)
      have HRow : Hid (swT rows (i + 1) = swT rows i ++ ((if 0 < i then sBar else []) ++ (sWhenSw ++ ([dig (i : Int)] ++ (sOpen ++ (rowT rows[i] rows[i].length ++ sEnd)))))) := Lib.hid (by
        have e : rows.getD i [] = rows[i] := by rw [List.getD_eq_getElem?_getD, List.getElem?_eq_getElem hlt]; rfl
        show swT rows i ++ ((if 0 < i then sBar else []) ++ (sWhenSw ++ ([dig (i : Int)] ++ (sOpen ++ (rowT (rows.getD i []) (rows.getD i []).length ++ sEnd))))) = _
        rw [e])
      have HLi := Lib.hid (HL.out rows[i] (List.getElem_mem hlt))
      have HRi := Lib.hid (fun (w' : World) (hb' : Below w.heap.size w w') => (HR.out.kept hb').at_ i hlt)
      have hsz : s.size ≤ 400 := by
        rw [ba_size, HS.out]
        have := swT_len rows (fun r hr => (HL.out r hr).1) i hi
        omega
      generalize rows[i] = row at *
      by_cases h0 : 0 < i
      · have hg : decide (0 < (i : Int)) = true := by simp; omega
        rw [if_pos h0] at HRow
        have hz1 : (bs [dig (i : Int)]).size = 1 := rfl
        obtain ⟨base, hbase⟩ : ∃ base, base = swT rows i ++ (sBar ++ (sWhenSw ++ ([dig (i : Int)] ++ sOpen))) := ⟨_, rfl⟩
        have hbl : base.length ≤ 430 := by
          rw [hbase]
          have := HS.out
          rw [ba_size, this] at hsz
          simp only [List.length_append, List.length_cons, List.length_nil, sWhenSw, sOpen, sBar]
          omega
        have HBase := Lib.hid hbase
        clear hbase
        go_wp2_with (go_at_call 19; refine (D1.out _).mono ?_; rintro e w' ⟨rfl, rfl⟩)
        obtain ⟨wo, rfl⟩ : ∃ wo : World, wo = wr := ⟨_, rfl⟩
        clear hz1 hg
        go_loopw [3, 5] (fun s' h' wr => ∃ (h : Nat) (s : ByteArray), h' = .int .i64 h ∧ h ≤ row.length ∧ s' = .string s ∧ Hid (s.data.toList = base ++ rowT row h) ∧ Below w.heap.size w wr) (fun _ h' _ => row.length - (intOf h').toNat)
        case atStart => exact ⟨0, _, rfl, Nat.zero_le _, rfl, Lib.hid (by rw [HBase.out]; simp [HS.out, sBar, sWhenSw, sOpen, bs, rowT]), hb⟩
        case round =>
          clear hb HS hsz
          obtain ⟨h, s, rfl, hh, rfl, HS, hb⟩ := hrel
          obtain ⟨a, so, sc, rfl, z1, ck0, rsk⟩ := HRi.out _ hb
          by_cases hlt2 : h < row.length
          · have hd : decide ((h : Int) < (row.length : Int)) = true := by simp; omega
            have hk3 : (h : Int) < (row.length : Int) := by omega
            obtain ⟨hrl, hrx⟩ := HLi.out
            obtain ⟨a2, rfl, z2, e0⟩ := int_at rsk h hlt2
            have hx := hrx row[h] (List.getElem_mem hlt2)
            have HR2 : Hid (rowT row (h + 1) = rowT row h ++ ((if 0 < h then sBar else []) ++ (sWhenDst ++ ([dig (h : Int)] ++ (sPort ++ [dig row[h]]))))) := Lib.hid (by
              have e : row.getD h 0 = row[h] := by rw [List.getD_eq_getElem?_getD, List.getElem?_eq_getElem hlt2]; rfl
              show rowT row h ++ ((if 0 < h then sBar else []) ++ (sWhenDst ++ ([dig (h : Int)] ++ (sPort ++ [dig (row.getD h 0)])))) = _
              rw [e])
            have hsz : s.size ≤ 500 := by
              rw [ba_size, HS.out, List.length_append]
              have := rowT_len row h
              omega
            generalize row[h] = y at *
            have D2 := Lib.hid (fun (kk : KW wr) => digit_c (h : Int) kk.val (by omega) (by omega))
            have D3 := Lib.hid (fun (kk : KW wr) => digit_c y kk.val (by omega) (by omega))
            have hz2 : (bs [dig (h : Int)]).size = 1 := rfl
            have hz3 : (bs [dig y]).size = 1 := rfl
            clear rsk hrx
            by_cases h02 : 0 < h
            all_goals
              have hg : decide (0 < (h : Int)) = decide (0 < h) := by rw [Bool.eq_iff_iff, decide_eq_true_eq, decide_eq_true_eq]; omega
              first | rw [decide_eq_true h02] at hg | rw [decide_eq_false h02] at hg
              first | rw [if_pos h02] at HR2 | rw [if_neg h02] at HR2
              go_wp2_with fail
              refine wp_region_kq (by kernel_rfl) (by kernel_rfl) ?_
              repeat (first | go_big_quiet_step ((first | (go_at_call_of 19 h; exact KW.same (D2.out _)) | (go_at_call_of 19 y; exact KW.same (D3.out _)))) | quiet_step ((first | (go_at_call_of 19 h; exact KW.same (D2.out _)) | (go_at_call_of 19 y; exact KW.same (D3.out _)))))
              refine wpQuiet_nil ?_
              intro kz
              have hz := bon hb kz.kp
              go_wp2_with fail
              go_roundw
              case rel => exact ⟨h + 1, _, by go_num, by omega, rfl, Lib.hid (by rw [HR2.out]; simp [HS.out, sBar, sWhenDst, sPort, bs]), hz⟩
              case measure => simp [intOf]; omega
          · obtain rfl : h = row.length := by omega
            have hd : decide ((row.length : Int) < (row.length : Int)) = false := by simp
            have hsz : s.size ≤ 500 := by
              rw [ba_size, HS.out, List.length_append]
              have := rowT_len row row.length
              have := HLi.out.1
              omega
            clear rsk
            go_wp2_with fail
            go_roundw
            case rel => exact ⟨i + 1, _, by go_num, by omega, rfl, Lib.hid (by rw [HRow.out]; simp [HS.out, HBase.out, sBar, sEnd, List.append_assoc]), hb⟩
            case measure => simp [intOf]; omega
      · have hg : decide (0 < (i : Int)) = false := by simp; omega
        rw [if_neg h0] at HRow
        have hz1 : (bs [dig (i : Int)]).size = 1 := rfl
        obtain ⟨base, hbase⟩ : ∃ base, base = swT rows i ++ (sWhenSw ++ ([dig (i : Int)] ++ sOpen)) := ⟨_, rfl⟩
        have hbl : base.length ≤ 430 := by
          rw [hbase]
          have := HS.out
          rw [ba_size, this] at hsz
          simp only [List.length_append, List.length_cons, List.length_nil, sWhenSw, sOpen]
          omega
        have HBase := Lib.hid hbase
        clear hbase
        go_wp2_with (go_at_call 19; refine (D1.out _).mono ?_; rintro e w' ⟨rfl, rfl⟩)
        obtain ⟨wo, rfl⟩ : ∃ wo : World, wo = wr := ⟨_, rfl⟩
        clear hz1 hg
        go_loopw [3, 5] (fun s' h' wr => ∃ (h : Nat) (s : ByteArray), h' = .int .i64 h ∧ h ≤ row.length ∧ s' = .string s ∧ Hid (s.data.toList = base ++ rowT row h) ∧ Below w.heap.size w wr) (fun _ h' _ => row.length - (intOf h').toNat)
        case atStart => exact ⟨0, _, rfl, Nat.zero_le _, rfl, Lib.hid (by rw [HBase.out]; simp [HS.out, sWhenSw, sOpen, bs, rowT]), hb⟩
        case round =>
          clear hb HS hsz
          obtain ⟨h, s, rfl, hh, rfl, HS, hb⟩ := hrel
          obtain ⟨a, so, sc, rfl, z1, ck0, rsk⟩ := HRi.out _ hb
          by_cases hlt2 : h < row.length
          · have hd : decide ((h : Int) < (row.length : Int)) = true := by simp; omega
            have hk3 : (h : Int) < (row.length : Int) := by omega
            obtain ⟨hrl, hrx⟩ := HLi.out
            obtain ⟨a2, rfl, z2, e0⟩ := int_at rsk h hlt2
            have hx := hrx row[h] (List.getElem_mem hlt2)
            have HR2 : Hid (rowT row (h + 1) = rowT row h ++ ((if 0 < h then sBar else []) ++ (sWhenDst ++ ([dig (h : Int)] ++ (sPort ++ [dig row[h]]))))) := Lib.hid (by
              have e : row.getD h 0 = row[h] := by rw [List.getD_eq_getElem?_getD, List.getElem?_eq_getElem hlt2]; rfl
              show rowT row h ++ ((if 0 < h then sBar else []) ++ (sWhenDst ++ ([dig (h : Int)] ++ (sPort ++ [dig (row.getD h 0)])))) = _
              rw [e])
            have hsz : s.size ≤ 500 := by
              rw [ba_size, HS.out, List.length_append]
              have := rowT_len row h
              omega
            generalize row[h] = y at *
            have D2 := Lib.hid (fun (kk : KW wr) => digit_c (h : Int) kk.val (by omega) (by omega))
            have D3 := Lib.hid (fun (kk : KW wr) => digit_c y kk.val (by omega) (by omega))
            have hz2 : (bs [dig (h : Int)]).size = 1 := rfl
            have hz3 : (bs [dig y]).size = 1 := rfl
            clear rsk hrx
            by_cases h02 : 0 < h
            all_goals
              have hg : decide (0 < (h : Int)) = decide (0 < h) := by rw [Bool.eq_iff_iff, decide_eq_true_eq, decide_eq_true_eq]; omega
              first | rw [decide_eq_true h02] at hg | rw [decide_eq_false h02] at hg
              first | rw [if_pos h02] at HR2 | rw [if_neg h02] at HR2
              go_wp2_with fail
              refine wp_region_kq (by kernel_rfl) (by kernel_rfl) ?_
              repeat (first | go_big_quiet_step ((first | (go_at_call_of 19 h; exact KW.same (D2.out _)) | (go_at_call_of 19 y; exact KW.same (D3.out _)))) | quiet_step ((first | (go_at_call_of 19 h; exact KW.same (D2.out _)) | (go_at_call_of 19 y; exact KW.same (D3.out _)))))
              refine wpQuiet_nil ?_
              intro kz
              have hz := bon hb kz.kp
              go_wp2_with fail
              go_roundw
              case rel => exact ⟨h + 1, _, by go_num, by omega, rfl, Lib.hid (by rw [HR2.out]; simp [HS.out, sBar, sWhenDst, sPort, bs]), hz⟩
              case measure => simp [intOf]; omega
          · obtain rfl : h = row.length := by omega
            have hd : decide ((row.length : Int) < (row.length : Int)) = false := by simp
            have hsz : s.size ≤ 500 := by
              rw [ba_size, HS.out, List.length_append]
              have := rowT_len row row.length
              have := HLi.out.1
              omega
            clear rsk
            go_wp2_with fail
            go_roundw
            case rel => exact ⟨i + 1, _, by go_num, by omega, rfl, Lib.hid (by rw [HRow.out]; simp [HS.out, HBase.out, sEnd, List.append_assoc]), hb⟩
            case measure => simp [intOf]; omega
    · obtain rfl : i = rows.length := by omega
      have hd : decide ((rows.length : Int) < (rows.length : Int)) = false := by simp
      go_wp2_with fail
      go_ret
      exact ⟨_, rfl, HS.out, hb⟩
end Go.Proofs.YtekfkieimdgfkaaGreat
