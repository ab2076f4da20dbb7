/- What is proved here: the contracts of the program's clocks as the laws use them; the walk of ClockDrifts. Condition: none. -/
import Derived.Test.YtgpeekmagckgcaaPc2
namespace Go.Proofs.Ytgpeekmagckgcaa
open Go Go.RowKit
attribute [local go_sem] KW.cell KW.frozen

/-- Clocks of the law's own, at w. -/
structure CW (W w : World) (p g cap : Nat) (real most : Int) (l : List Pl.Cl) : Prop where
  ck : Ck W.heap.size w p g cap real most l
  bl : Below W.heap.size W w
  ok : Pl.Ok real most l
theorem CW.kept {W w w' : World} {p g cap : Nat} {real most : Int} {l : List Pl.Cl} (h : CW W w p g cap real most l) (hb : Below w.heap.size w w') : CW W w' p g cap real most l := ⟨h.ck.kept hb, bon h.bl hb, h.ok⟩
theorem CW.drewN {W w : World} {p g cap : Nat} {real most : Int} {l : List Pl.Cl} (h : CW W w p g cap real most l) (n : Nat) : CW W (w.drewN n) p g cap real most l := ⟨h.ck.drewN n, below_drewN h.bl n, h.ok⟩
section
variable {W w : World} {p g cap : Nat} {real most : Int} {l : List Pl.Cl}
theorem real_w (h : CW W w p g cap real most l) : Calls Try.prog 33 #[.pointer (some ⟨p, 0, none⟩)] w fun e w' => e = .returned (.int .i64 real) ∧ w = w' := real_c h.ck
theorem apart_w (i : Int) (h : CW W w p g cap real most l) : Calls Try.prog 35 #[.pointer (some ⟨p, 0, none⟩), .int .i64 i] w fun e w' => e = .returned (.int .i64 (Pl.apartAt l i)) ∧ CW W w' p g cap real most l :=
  (apart_c i h.ck h.ok).mono fun _ _ ⟨he, hb⟩ => ⟨he, h.kept hb⟩
theorem read_w (i : Int) (h : CW W w p g cap real most l) : Calls Try.prog 31 #[.pointer (some ⟨p, 0, none⟩), .int .i64 i] w fun e w' => e = .returned (.int .i64 (Pl.readAt real l i)) ∧ CW W w' p g cap real most l :=
  (read_c i h.ck h.ok).mono fun _ _ ⟨he, hb⟩ => ⟨he, h.kept hb⟩
theorem rate_w (i r : Int) (h : CW W w p g cap real most l) : Calls Try.prog 29 #[.pointer (some ⟨p, 0, none⟩), .int .i64 i, .int .i64 r] w fun e w' => e = .returned (.int .i64 (Pl.rateE l.length most i r)) ∧ CW W w' p g cap real most (Pl.rated l most i r) :=
  (rate_c i r h.ck h.ok).mono fun _ _ ⟨he, hc, hm⟩ => ⟨he, hc, hm.below h.ck.hp h.ck.hg.1 h.bl h.bl.size, h.ok.rate i r⟩
theorem tick_w (n : Int) (h : CW W w p g cap real most l) : Calls Try.prog 27 #[.pointer (some ⟨p, 0, none⟩), .int .i64 n] w fun e w' => e = .returned (.tuple #[]) ∧ CW W w' p g cap (real + Pl.step real n) most (Pl.ticked (Pl.step real n) l) :=
  (tick_c n h.ck h.ok).mono fun _ _ ⟨he, hc, hm⟩ => ⟨he, hc, hm.below h.ck.hp h.ck.hg.1 h.bl h.bl.size, h.ok.tick⟩
theorem awake_w (h : CW W w p g cap real most l) : Calls Try.prog 26 #[] w fun e w' => e = .returned (.bool true) ∧ Below W.heap.size W w' := cawake_b h.bl
theorem new_w (v : Value) (xs : List Int) (most : Int) (h : RdI v xs w) (hb : Below W.heap.size W w) (hn : Pl.newB xs most = true) :
    Calls Try.prog 24 #[v, .int .i64 most] w fun e w' => ∃ p g cap, e = .returned (.tuple #[.pointer (some ⟨p, 0, none⟩), .int .i64 0]) ∧ CW W w' p g cap 0 most (Pl.fresh xs) ∧ w.heap.size ≤ p ∧ w.heap.size ≤ g ∧ Below w.heap.size w w' :=
  (new_c v xs most W.heap.size w hb.size h).mono fun _ _ hp => by
    obtain ⟨h1, p, g, cap, he, hc, h2, h3⟩ := hp.some_ hn
    exact ⟨p, g, cap, he, ⟨hc, bon hb h1, Pl.ok_new hn⟩, h2, h3, h1⟩
theorem new_n (v : Value) (xs : List Int) (most : Int) (h : RdI v xs w) (hb : Below W.heap.size W w) (hn : Pl.newB xs most = false) :
    Calls Try.prog 24 #[v, .int .i64 most] w fun e w' => e = .returned (.tuple #[.pointer none, .int .i64 2]) ∧ Below W.heap.size W w' :=
  (new_c v xs most W.heap.size w hb.size h).mono fun _ _ hp => ⟨(hp.none_ hn).2, bon hb (hp.none_ hn).1⟩
end

/-- The slice v reads as the deeds ds, of three numbers each. -/
def RdD (v : Value) (ds : List (Int × Int × Int)) (w : World) : Prop :=
  (v = .slice none 0 0 ∧ ds = []) ∨ ∃ (a : Addr) (cap : Nat), v = .slice (some a) ds.length cap ∧ (0 < ds.length → a.block < w.heap.size) ∧ ds.length ≤ cap ∧ cap ≤ maxLen ∧
    ∀ i (h : i < ds.length), w.cell? (a.add (i * 3)) = some (.int .i64 (ds[i]).1) ∧ w.cell? (a.add (i * 3 + 1)) = some (.int .i64 (ds[i]).2.1) ∧ w.cell? (a.add (i * 3 + 2)) = some (.int .i64 (ds[i]).2.2)
theorem RdD.form {v : Value} {xs : List (Int × Int × Int)} {w : World} (h : RdD v xs w) : ∃ ao c, v = .slice ao xs.length c ∧ xs.length ≤ c ∧ c ≤ maxLen := by
  rcases h with ⟨rfl, rfl⟩ | ⟨a, cap, rfl, _, h1, h2, _⟩
  · exact ⟨none, 0, rfl, by simp, by decide⟩
  · exact ⟨_, _, rfl, h1, h2⟩
theorem RdD.at_ {ao : Option Addr} {n c : Nat} {ds : List (Int × Int × Int)} {w : World} (h : RdD (.slice ao n c) ds w) (k : Nat) (hk : k < ds.length) :
    ∃ a, ao = some a ∧ a.block < w.heap.size ∧ w.cell? (a.add (k * 3)) = some (.int .i64 (ds[k]).1) ∧ w.cell? ⟨(a.add (k * 3)).block, (a.add (k * 3)).off + 1, none⟩ = some (.int .i64 (ds[k]).2.1) ∧ w.cell? ⟨(a.add (k * 3)).block, (a.add (k * 3)).off + 2, none⟩ = some (.int .i64 (ds[k]).2.2) := by
  rcases h with ⟨_, rfl⟩ | ⟨a, cap, hv, hg, _, _, hc⟩
  · simp at hk
  · cases hv
    obtain ⟨h0, h1, h2⟩ := hc k hk
    exact ⟨a, rfl, hg (by omega), h0, (by rw [Go.Deep.add_add]; exact h1 : w.cell? ((a.add (k * 3)).add 1) = some (.int .i64 (ds[k]).2.1)), (by rw [Go.Deep.add_add]; exact h2 : w.cell? ((a.add (k * 3)).add 2) = some (.int .i64 (ds[k]).2.2))⟩
theorem RdD.kept {v : Value} {xs : List (Int × Int × Int)} {w w' : World} (h : RdD v xs w) (hb : Below w.heap.size w w') : RdD v xs w' := by
  rcases h with h | ⟨a, cap, hv, hg, h1, h2, hc⟩
  · exact .inl h
  · refine .inr ⟨a, cap, hv, fun h0 => Nat.lt_of_lt_of_le (hg h0) hb.size, h1, h2, fun i hi => ?_⟩
    have hg := hg (by omega)
    rw [hb.cell (p := a.add (i * 3)) (by rw [add_block]; exact hg), hb.cell (p := a.add (i * 3 + 1)) (by rw [add_block]; exact hg), hb.cell (p := a.add (i * 3 + 2)) (by rw [add_block]; exact hg)]
    exact hc i hi
end Go.Proofs.Ytgpeekmagckgcaa
