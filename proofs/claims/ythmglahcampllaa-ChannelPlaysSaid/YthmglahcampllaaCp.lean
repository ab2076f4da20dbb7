/- What is proved here: plainly, flights in cells, and how a list of flights changes. -/
import Derived.Test.YthmglahcampllaaMem
import Derived.Laws.AppendOwn
namespace Go.Proofs.Ythmglahcampllaa
open Go Go.RowKit
namespace Ch
/-- A flight: of a switch, up or down, its bytes. -/
abbrev Fl := Int × Bool × ByteArray
def zero : Fl := (0, false, ⟨#[]⟩)
def cells (f : Fl) : List Value := [.int .i64 f.1, .bool f.2.1, .string f.2.2]
def flat (l : List Fl) : List Value := l.flatMap cells
theorem flat_len (l : List Fl) : (flat l).length = l.length * 3 := by
  induction l with
  | nil => rfl
  | cons o l ih => simp only [flat, cells, List.flatMap_cons, List.length_append, List.length_cons, List.length_nil] at *; omega
theorem flat_append (a b : List Fl) : flat (a ++ b) = flat a ++ flat b := by simp [flat]
theorem flat_get (l : List Fl) : ∀ (i : Nat) (h : i < l.length), (flat l)[i * 3]? = some (.int .i64 (l[i]).1) ∧ (flat l)[i * 3 + 1]? = some (.bool (l[i]).2.1) ∧ (flat l)[i * 3 + 2]? = some (.string (l[i]).2.2) := by
  induction l with
  | nil => intro i h; cases h
  | cons o l ih =>
    intro i h
    cases i with
    | zero => exact ⟨rfl, rfl, rfl⟩
    | succ i =>
      have := ih i (by simpa using h)
      have e1 : (i + 1) * 3 = i * 3 + 1 + 1 + 1 := by omega
      rw [e1]
      exact ⟨by simpa [flat, cells] using this.1, by simpa [flat, cells] using this.2.1, by simpa [flat, cells] using this.2.2⟩
theorem flat_take (l : List Fl) : ∀ k, flat (l.take k) = (flat l).take (k * 3) := by
  induction l with
  | nil => intro k; simp [flat]
  | cons o l ih =>
    intro k
    cases k with
    | zero => simp [flat]
    | succ k =>
      have e1 : (k + 1) * 3 = k * 3 + 1 + 1 + 1 := by omega
      rw [e1]
      have := ih k
      simp only [flat] at this
      simp [flat, cells, this]
theorem flat_drop (l : List Fl) : ∀ k, flat (l.drop k) = (flat l).drop (k * 3) := by
  induction l with
  | nil => intro k; simp [flat]
  | cons o l ih =>
    intro k
    cases k with
    | zero => simp [flat]
    | succ k =>
      have e1 : (k + 1) * 3 = k * 3 + 1 + 1 + 1 := by omega
      rw [e1]
      have := ih k
      simp only [flat] at this
      simp [flat, cells, this]
theorem flat_one (l : List Fl) : ∀ u ∈ flat l, u.oneCell' = true := by
  intro u hu
  obtain ⟨f, _, hf⟩ := List.mem_flatMap.1 hu
  simp only [cells, List.mem_cons, List.not_mem_nil, or_false] at hf
  rcases hf with rfl | rfl | rfl <;> rfl
/-- What is sent; what there is behind it, how many are lost, the answer. -/
def full (l : List Fl) : Bool := decide (255 < l.length)
def is (l : List Fl) (k : Int) : Bool := decide (0 ≤ k) && decide (k < (l.length : Int))
theorem is_iff {l : List Fl} {k : Int} : is l k = true ↔ 0 ≤ k ∧ k < (l.length : Int) := by simp [is]
theorem is_no {l : List Fl} {k : Int} : is l k = false ↔ ¬ (0 ≤ k ∧ k < (l.length : Int)) := by
  rw [← is_iff]
  cases is l k <;> simp
def atK (l : List Fl) (k : Int) : Fl := if is l k = true then l.getD k.toNat zero else zero
def lookE (l : List Fl) (k : Int) : Int := if is l k = true then 0 else 7
def sendL (l : List Fl) (f : Fl) : List Fl := if full l = true then l else l ++ [f]
def sendN (l : List Fl) (n : Int) : Int := if full l = true then n + 1 else n
def sendE (l : List Fl) : Int := if full l = true then 6 else 0
def takeL (l : List Fl) (k : Int) : List Fl := if is l k = true then l.take k.toNat ++ l.drop (k.toNat + 1) else l
def twiceL (l : List Fl) (k : Int) : List Fl := if is l k = true then sendL l (atK l k) else l
def twiceN (l : List Fl) (k n : Int) : Int := if is l k = true then sendN l n else n
def twiceE (l : List Fl) (k : Int) : Int := if is l k = true then sendE l else 7
def ofN (l : List Fl) (sw : Int) : Nat := (l.filter fun f => f.1 == sw).length
def nextB (sw : Int) (up : Bool) (f : Fl) : Bool := (f.1 == sw) && (f.2.1 == up)
def nextN (l : List Fl) (sw : Int) (up : Bool) : Int := match l.findIdx? (nextB sw up) with
  | some i => (i : Int)
  | none => -1
theorem sendL_len {l : List Fl} (h : l.length ≤ 256) (f : Fl) : (sendL l f).length ≤ 256 := by
  unfold sendL full
  split
  · exact h
  · rename_i h1
    simp only [decide_eq_true_eq] at h1
    simp only [List.length_append, List.length_cons, List.length_nil]
    omega
theorem takeL_len {l : List Fl} (h : l.length ≤ 256) (k : Int) : (takeL l k).length ≤ 256 := by
  unfold takeL
  split
  · rw [List.length_append, List.length_take, List.length_drop]; omega
  · exact h
theorem twiceL_len {l : List Fl} (h : l.length ≤ 256) (k : Int) : (twiceL l k).length ≤ 256 := by
  unfold twiceL
  split
  · exact sendL_len h _
  · exact h
theorem sendN_bd {l : List Fl} {n m : Int} (h0 : 0 ≤ n) (h : n ≤ m) : 0 ≤ sendN l n ∧ sendN l n ≤ m + 1 := by
  unfold sendN
  split <;> omega
theorem twiceN_bd {l : List Fl} {k n m : Int} (h0 : 0 ≤ n) (h : n ≤ m) : 0 ≤ twiceN l k n ∧ twiceN l k n ≤ m + 1 := by
  unfold twiceN
  split
  · exact sendN_bd h0 h
  · omega
theorem ofN_take (l : List Fl) (sw : Int) (k : Nat) (h : k < l.length) : ofN (l.take (k + 1)) sw = ofN (l.take k) sw + if (l[k]).1 == sw then 1 else 0 := by
  unfold ofN
  rw [List.take_succ_eq_append_getElem h, List.filter_append]
  cases h : ((l[k]).1 == sw) <;> simp [h]
theorem ofN_le (l : List Fl) (sw : Int) : ofN l sw ≤ l.length := List.length_filter_le _ _
theorem nextN_hit {l : List Fl} {sw : Int} {up : Bool} {k : Nat} (h : k < l.length) (hk : nextB sw up l[k] = true) (hb : ∀ i (hi : i < l.length), i < k → nextB sw up l[i] = false) : nextN l sw up = (k : Int) := by
  have : l.findIdx? (nextB sw up) = some k := by
    rw [List.findIdx?_eq_some_iff_getElem]
    exact ⟨h, hk, fun j hj => by simp [hb j (by omega) hj]⟩
  unfold nextN
  rw [this]
theorem nextN_none {l : List Fl} {sw : Int} {up : Bool} (hb : ∀ i (hi : i < l.length), nextB sw up l[i] = false) : nextN l sw up = -1 := by
  have : l.findIdx? (nextB sw up) = none := by
    rw [List.findIdx?_eq_none_iff]
    intro x hx
    obtain ⟨i, hi, rfl⟩ := List.mem_iff_getElem.1 hx
    simp [hb i hi]
  unfold nextN
  rw [this]
/-- All but number k. -/
theorem take_all (l : List Fl) (k : Nat) (h : k < l.length) : ∀ i, i ≤ l.length → (if i ≤ k then l.take i else l.take k ++ (l.take i).drop (k + 1)).length = if i ≤ k then i else i - 1 := by
  intro i hi
  split
  · rw [List.length_take]; omega
  · rw [List.length_append, List.length_take, List.length_drop, List.length_take]; omega
end Ch
end Go.Proofs.Ythmglahcampllaa
