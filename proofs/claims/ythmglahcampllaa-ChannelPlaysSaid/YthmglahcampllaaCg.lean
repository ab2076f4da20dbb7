/- What is proved here: what taking a flight off the document's channel does. Condition: it lies in memory of the call's own. -/
import Derived.Test.YthmglahcampllaaCf
import Derived.Deep.LoopGhost
namespace Go.Proofs.Ythmglahcampllaa
open Go Go.RowKit
attribute [local go_sem] KW.cell KW.frozen
namespace Ch
/-- The first i, but for number k. -/
def keep (l : List Fl) (k : Int) : Nat → List Fl
  | 0 => []
  | i + 1 => if ((i : Int) == k) = true then keep l k i else keep l k i ++ [l.getD i zero]
theorem keep_len (l : List Fl) (k : Int) : ∀ i, (keep l k i).length ≤ i := by
  intro i
  induction i with
  | zero => exact Nat.le_refl _
  | succ i ih =>
    unfold keep
    split
    · omega
    · rw [List.length_append]; simp only [List.length_cons, List.length_nil]; omega
theorem keep_eq (l : List Fl) (k : Int) : ∀ i, i ≤ l.length → keep l k i = if 0 ≤ k ∧ k < (i : Int) then l.take k.toNat ++ (l.take i).drop (k.toNat + 1) else l.take i := by
  intro i
  induction i with
  | zero => intro _; rw [if_neg (by omega)]; rfl
  | succ i ih =>
    intro hi
    have h := ih (by omega)
    have e : l.getD i zero = l[i] := by rw [List.getD_eq_getElem?_getD, List.getElem?_eq_getElem (by omega)]; rfl
    have et : l.take (i + 1) = l.take i ++ [l[i]] := List.take_succ_eq_append_getElem (by omega)
    show (if ((i : Int) == k) = true then keep l k i else keep l k i ++ [l.getD i zero]) = _
    rw [e, h]
    by_cases hk : (i : Int) = k
    · rw [if_pos (by simpa using hk), if_neg (by omega), if_pos (by omega)]
      subst hk
      rw [Int.toNat_natCast, List.drop_eq_nil_of_le (by rw [List.length_take]; omega), List.append_nil]
    · rw [if_neg (by simpa using hk)]
      by_cases hk2 : 0 ≤ k ∧ k < (i : Int)
      · rw [if_pos hk2, if_pos (by omega), et, List.drop_append_of_le_length (by rw [List.length_take]; omega), List.append_assoc]
      · rw [if_neg hk2, if_neg (by omega), et]
theorem keep_all (l : List Fl) (k : Int) : keep l k l.length = takeL l k := by
  rw [keep_eq l k l.length (Nat.le_refl _), List.take_length]
  unfold takeL
  by_cases h : 0 ≤ k ∧ k < (l.length : Int)
  · rw [if_pos h, if_pos (is_iff.2 h)]
  · rw [if_neg h, if_neg (by rw [is_no.2 h]; decide)]
theorem below_grownC {B n e z : Nat} {w wx w1 w2 : World} {v : Value} {vs : List Value} (h : Below B w w1) (hB : B ≤ w1.heap.size) (hg : w1.grownBy w2 v.ownBlock) (hown : wx.ownsRow B e z v n vs) : Below B w w2 := by
  refine h.grown hg hB fun k hk => ?_
  rcases hown.2 with ⟨rfl, _⟩ | ⟨g, cap, cur, rfl, hg', _⟩
  · simp [Value.ownBlock] at hk
  · simp [Value.ownBlock] at hk
    omega
section
variable {B q : Nat} {w : World} {v : Value} {n : Int} {l : List Fl}
set_option maxRecDepth 100000 in
set_option maxHeartbeats 4000000 in
theorem rtake_c (k : Int) (h : St 63 65 B w q v n l) (hl : l.length ≤ 256) :
    Calls Try.prog 75 #[.pointer (some ⟨q, 0, none⟩), .int .i64 k] w fun e w' =>
      e = .returned (.tuple #[.agg #[.int .i64 (atK l k).1, .bool (atK l k).2.1, .string (atK l k).2.2], .int .i64 (lookE l k)]) ∧ (∃ v', St 63 65 B w' q v' n (takeL l k)) ∧ TM 63 65 B w w' := by
  have hB : B ≤ w.heap.size := by have := h.hq; have := h.lt; omega
  have hq := h.lt
  have hb0 : Below w.heap.size w (w.alloc (.cells #[.int .i64 0, .bool false, .string ⟨#[]⟩] 65)) := (Below.refl _ _).alloc (Nat.le_refl _) _
  have X := Lib.hid (rlook_c k (h.kept hb0) hl)
  have HB0 := Lib.hid hb0
  have H := Lib.hid h
  obtain ⟨ao, c, rfl, hc1, hc2⟩ := h.form
  unfold maxLen at hc2
  clear h hb0
  obtain ⟨i0, hi, hz0, hz1, hz2⟩ := info_parts info65
  generalize lookE l k = ee at *
  generalize atK l k = f at *
  generalize f.1 = x at *
  generalize f.2.1 = y at *
  generalize f.2.2 = z at *
  go_enter Try.func75, Try.ntmps75
  go_wp2_with fail
  refine X.out.mono ?_
  rintro e w1 ⟨rfl, hb⟩
  have hsz : w.heap.size < w1.heap.size := by have := hb.size; simp at this; omega
  have k0 : w1.cell? ⟨w.heap.size, 0, none⟩ = some (.int .i64 0) := by rw [hb.cell (by simp)]; simp [go_sem]
  have k1 : w1.cell? ⟨w.heap.size, 1, none⟩ = some (.bool false) := by rw [hb.cell (by simp)]; simp [go_sem]
  have k2 : w1.cell? ⟨w.heap.size, 2, none⟩ = some (.string ⟨#[]⟩) := by rw [hb.cell (by simp)]; simp [go_sem]
  have f0 : w1.frozen? ⟨w.heap.size, 0, none⟩ = false := by rw [hb.frozen (by simp)]; simp [go_sem]
  have f1 : w1.frozen? ⟨w.heap.size, 1, none⟩ = false := by rw [hb.frozen (by simp)]; simp [go_sem]
  have f2 : w1.frozen? ⟨w.heap.size, 2, none⟩ = false := by rw [hb.frozen (by simp)]; simp [go_sem]
  have hb1 := bon HB0.out hb
  have hb2 : Below w.heap.size w (w1.alloc (.cells #[.int .i64 x, .bool y, .string z] 65)) := hb1.alloc hb1.size _
  have hq1 : q < w1.heap.size := by omega
  have r0 : (w1.alloc (.cells #[.int .i64 x, .bool y, .string z] 65)).cell? ⟨w1.heap.size, 0, none⟩ = some (.int .i64 x) := by simp [go_sem]
  have r1 : (w1.alloc (.cells #[.int .i64 x, .bool y, .string z] 65)).cell? ⟨w1.heap.size, 1, none⟩ = some (.bool y) := by simp [go_sem]
  have r2 : (w1.alloc (.cells #[.int .i64 x, .bool y, .string z] 65)).cell? ⟨w1.heap.size, 2, none⟩ = some (.string z) := by simp [go_sem]
  have hzz : (w1.alloc (.cells #[.int .i64 x, .bool y, .string z] 65)).heap.size = w1.heap.size + 1 := by simp
  have HZZ := Lib.hid hzz
  have hfz : ∀ (g i : Nat), g < w1.heap.size → (w1.alloc (.cells #[.int .i64 x, .bool y, .string z] 65)).frozen? ⟨g, i, none⟩ = w1.frozen? ⟨g, i, none⟩ := fun g i hg => World.frozen?_of_block (Below.heap_alloc w1 _ g hg)
  have hcz : ∀ (g i : Nat), g < w1.heap.size → (w1.alloc (.cells #[.int .i64 x, .bool y, .string z] 65)).cell? ⟨g, i, none⟩ = w1.cell? ⟨g, i, none⟩ := fun g i hg => World.cell?_of_block (Below.heap_alloc w1 _ g hg)
  have KZ := Lib.hid (⟨⟨(hcz _ 0 hsz).trans k0, (hcz _ 1 hsz).trans k1, (hcz _ 2 hsz).trans k2⟩, (hfz _ 0 hsz).trans f0, (hfz _ 1 hsz).trans f1, (hfz _ 2 hsz).trans f2⟩ : ((w1.alloc (.cells #[.int .i64 x, .bool y, .string z] 65)).cell? ⟨w.heap.size, 0, none⟩ = some (.int .i64 0) ∧ (w1.alloc (.cells #[.int .i64 x, .bool y, .string z] 65)).cell? ⟨w.heap.size, 1, none⟩ = some (.bool false) ∧ (w1.alloc (.cells #[.int .i64 x, .bool y, .string z] 65)).cell? ⟨w.heap.size, 2, none⟩ = some (.string ⟨#[]⟩)) ∧ (w1.alloc (.cells #[.int .i64 x, .bool y, .string z] 65)).frozen? ⟨w.heap.size, 0, none⟩ = false ∧ (w1.alloc (.cells #[.int .i64 x, .bool y, .string z] 65)).frozen? ⟨w.heap.size, 1, none⟩ = false ∧ (w1.alloc (.cells #[.int .i64 x, .bool y, .string z] 65)).frozen? ⟨w.heap.size, 2, none⟩ = false)
  have R := Lib.hid (⟨r0, r1, r2⟩ : (w1.alloc (.cells #[.int .i64 x, .bool y, .string z] 65)).cell? ⟨w1.heap.size, 0, none⟩ = some (.int .i64 x) ∧ (w1.alloc (.cells #[.int .i64 x, .bool y, .string z] 65)).cell? ⟨w1.heap.size, 1, none⟩ = some (.bool y) ∧ (w1.alloc (.cells #[.int .i64 x, .bool y, .string z] 65)).cell? ⟨w1.heap.size, 2, none⟩ = some (.string z))
  have HB2 := Lib.hid hb2
  clear r0 r1 r2 hfz hcz k0 k1 k2 f0 f1 f2 hb2 hzz hb1 hb
  go_wp2_with fail
  go_loopg [8, 9] l.length (fun gg s8 s9 wr => ∃ (j : Nat) (vv : Value), gg = l.length - j ∧ j ≤ l.length ∧ s9 = .int .i64 j ∧ vv = s8 ∧ Hid (wr.ownsRow (w1.heap.size + 1) 65 3 vv (keep l k j).length (flat (keep l k j))) ∧ Below (w1.heap.size + 1) (w1.alloc (.cells #[.int .i64 x, .bool y, .string z] 65)) wr)
  case atStart => exact ⟨0, _, rfl, Nat.zero_le _, rfl, rfl, Lib.hid ⟨rfl, .inl ⟨rfl, rfl⟩⟩, Below.refl _ _⟩
  case round =>
    obtain ⟨j, vv, rfl, hj, rfl, rfl, HO, hb⟩ := hrel
    have hs : w1.heap.size + 1 ≤ wr.heap.size := by have := hb.size; simp at this; omega
    have hbW : Below w.heap.size w wr := HB2.out.trans (hb.mono (by omega))
    have hS := H.out.kept hbW
    have c0 := hS.c0
    have fq := hS.f 0
    by_cases hlt : j < l.length
    · have hd : decide ((j : Int) < (l.length : Int)) = true := by simp; omega
      have hk2 : (j : Int) < (l.length : Int) := by omega
      obtain ⟨g, rfl, hg, hgq, e0, e1, e2⟩ := hS.el j hlt
      have hkl := keep_len l k j
      obtain ⟨d, hdd⟩ : ∃ d, ((j : Int) == k) = d := ⟨_, rfl⟩
      have hnn : ((j : Int) != k) = !d := by rw [← hdd]; rfl
      have hrec : keep l k (j + 1) = if d = true then keep l k j else keep l k j ++ [((l[j]).1, (l[j]).2.1, (l[j]).2.2)] := by
        have e : l.getD j zero = l[j] := by rw [List.getD_eq_getElem?_getD, List.getElem?_eq_getElem hlt]; rfl
        show (if ((j : Int) == k) = true then keep l k j else keep l k j ++ [l.getD j zero]) = _
        rw [hdd, e]
      have HR := Lib.hid hrec
      clear hrec hS fq
      cases d with
      | true =>
        have HR2 : Hid (keep l k (j + 1) = keep l k j) := Lib.hid (by rw [HR.out]; rfl)
        go_wp2_with fail
        go_roundg (l.length - (j + 1))
        case measure => omega
        case rel => exact ⟨j + 1, _, rfl, by omega, by go_num, rfl, by rw [HR2.out]; exact HO, hb⟩
      | false =>
        have HR2 : Hid (keep l k (j + 1) = keep l k j ++ [((l[j]).1, (l[j]).2.1, (l[j]).2.2)]) := Lib.hid (by rw [HR.out]; rfl)
        clear HR
        generalize (l[j]).1 = x1 at *
        generalize (l[j]).2.1 = y1 at *
        generalize (l[j]).2.2 = z1 at *
        have hfl := flat_len (keep l k j)
        go_wp2_with (at_builtin; refine wpList_append_own _ rfl _ _ 61 rfl (w1.heap.size + 1) 65 i0 (.agg #[.int .i64 0, .bool false, .string ⟨#[]⟩]) 3 32 Try.underlying61 hi hz0 hz1 hz2 rfl (by decide) vv (keep l k j).length _ (by rfl) (HO.out.alloc _) ⟨wr.heap.size, 0, none⟩ 1 1 [.int .i64 x1, .bool y1, .string z1] (by rfl) (by rfl) (by intro j u hj; rcases j with _ | _ | _ | j <;> simp at hj <;> subst hj <;> simp [go_sem, Addr.add]) (by simp [Value.oneCell']) (by unfold maxLen; omega) (by omega) (by simp; omega) ?_)
        intro v1 w3 hown1 hg1 _
        have hb3 := below_grownC (hb.alloc hs _) (by simp; omega) hg1 HO.out
        have HO1 : Hid (w3.ownsRow (w1.heap.size + 1) 65 3 v1 (keep l k (j + 1)).length (flat (keep l k (j + 1)))) := Lib.hid (by rw [HR2.out]; exact own_snoc hown1)
        clear hown1 hg1 hfl
        go_wp2_with fail
        go_roundg (l.length - (j + 1))
        case measure => omega
        case rel => exact ⟨j + 1, _, rfl, by omega, by go_num, rfl, HO1, hb3⟩
    · obtain rfl : j = l.length := by omega
      have hd : decide ((l.length : Int) < (l.length : Int)) = false := by simp
      have l0 : w1.heap.size < w1.heap.size + 1 := by omega
      have l1 : w.heap.size < w1.heap.size + 1 := by omega
      obtain ⟨⟨k0, k1, k2⟩, f0, f1, f2⟩ := KZ.out
      obtain ⟨r0, r1, r2⟩ := R.out
      rw [← hb.cell (by exact l1)] at k0 k1 k2
      rw [← hb.frozen (by exact l1)] at f0 f1 f2
      rw [← hb.cell (by exact l0)] at r0 r1 r2
      have ho := HO.out
      have hkl := keep_len l k l.length
      rw [keep_all] at ho hkl
      obtain ⟨uo, uc, rfl, _⟩ := own_form ho
      have HO4 := Lib.hid ho
      clear ho HO
      have HBW := Lib.hid hbW
      have n1 : (w.heap.size = q) = False := eq_false (by omega)
      have n2 : (q = w.heap.size) = False := eq_false (by omega)
      have n3 : (w1.heap.size = q) = False := eq_false (by omega)
      have n4 : (w1.heap.size = w.heap.size) = False := eq_false (by omega)
      clear hb hbW hS
      go_wp2_with fail
      have S4 : St 63 65 B (wr.setCell ⟨q, 0, none⟩ (.slice uo (takeL l k).length uc)) q (.slice uo (takeL l k).length uc) n (takeL l k) := H.out.setV (HBW.out.block q hq) (own_mono HO4.out (by omega))
      have hvn : (Value.slice uo (takeL l k).length uc).ownBlock ≠ some w.heap.size := fun e => by
        have := (HO4.out.lt _ e).1
        omega
      have hnq : w.heap.size ≠ q := by omega
      have M4 : TM 63 65 B w (wr.setCell ⟨q, 0, none⟩ (.slice uo (takeL l k).length uc)) := TM.set H.out 0 _ (TM.of_below hB HBW.out)
      refine bodyPost_ret (v := .tuple #[.agg #[.int .i64 x, .bool y, .string z], .int .i64 ee]) (by simp [results, Try.results75, go_sem, k0, k1, k2]) rfl ⟨rfl, ⟨_, ((S4.set_other _ _ _ hnq hvn).set_other _ _ _ hnq hvn).set_other _ _ _ hnq hvn⟩, ((M4.fresh _ _ _ hB (Nat.le_refl _)).fresh _ _ _ hB (Nat.le_refl _)).fresh _ _ _ hB (Nat.le_refl _)⟩
end
end Ch
end Go.Proofs.Ythmglahcampllaa
