/- What is proved here: ClockDrifts returns true for every starts, rates and deeds. Condition: none. -/
import Derived.Test.YtgpeekmagckgcaaK8
import Derived.Test.YtgpeekmagckgcaaRd
namespace Go.Proofs.Ytgpeekmagckgcaa
open Go Go.RowKit Go.ChangeShapes Go.WideShapes Go.ChangeAt

theorem clockDrifts_hts : ∀ t ∈ Try.f6.params.toList, Try.prog.readableRec t = true ∧ t < Try.prog.types.size := by
  have h : Try.f6.params.toList.all (fun t => Try.prog.readableRec t && decide (t < Try.prog.types.size)) = true := by kernel_rfl
  intro t ht
  simpa using List.all_eq_true.1 h t ht

theorem law6 (v0 : Value) (xs : List Int) (m : Int) (v2 : Value) (ds : List (Int × Int × Int)) (i fr : Int) (W : World) (h0 : RdI v0 xs W) (h2 : RdD v2 ds W) :
    Calls Try.prog 6 #[v0, .int .i64 m, v2, .int .i64 i, .int .i64 fr] W fun e W' => e = .returned (.bool true) ∧ Below W.heap.size W W' := by
  cases hn : Pl.newB xs m with
  | false => exact law6_no v0 v2 xs m i fr W h0 hn
  | true =>
    obtain ⟨ao, c, rfl, h1, h3⟩ := h2.form
    unfold maxLen at h3
    exact law6_yes v0 ao c xs ds m i fr W h0 h2 (by omega) hn

set_option maxRecDepth 100000 in
theorem clockDrifts_lifted (os : Os) (started : os.Started) (H : Type) (enc : TypeId × Value → H) :
    ReturnsInHanded {} Try.checked os 6 .any (Rows.clockDriftsSpec.pre6 enc Try.prog Try.f6 Rows.clockDriftsRow.domain false) (Rows.clockDriftsSpec.post enc Try.prog Try.f6 false true false false) := by
  refine returnsInHanded_of_change (C := Try.checked) Try.own started (by kernel_rfl) Try.func6
    (ChangeSpec.witness6 (enc := enc) (C := Try.checked) false ⟨#[], #[.slice none 0 0, .int .i64 0, .slice none 0 0, .int .i64 0, .int .i64 0], []⟩ 8 (by kernel_rfl) (by kernel_rfl) (by kernel_rfl) (by kernel_rfl)) ?_
  intro W base args ds gs before hval0 hW hcnd _
  have hval : ∀ (j : Nat) t v, Try.f6.params[j]? = some t → args[j]? = some v → Value.okWide Try.prog W .any base t v := hval0
  have hW' := hW
  obtain ⟨p, q, hA0, hV, hpq, hfz, hnd⟩ := hW
  have hA : DataW.TrodAll enc Try.prog W 0 (fun _ => true) true Try.f6.params.toList args.toList ds p := hA0
  refine Calls.mono (R := fun e W' => e = .returned (.bool true) ∧ Below W.heap.size W W') ?_ fun e W' ⟨he, hb⟩ => ⟨_, he, law_post (f := Try.f6) Try.laidOut clockDrifts_hts rfl (by kernel_rfl) Try.underlying4 (fun xs hx => by
    match xs, hx with
    | [x0, x1, x2, x3, x4], _ => rfl) hW' hb⟩
  rw [Try.params6] at hA hval
  obtain ⟨v0, vs0, d0, ds0, p0, q0, hargs, rfl, rfl, h0, r0⟩ := trodAll_cons hA
  obtain ⟨v1, vs1, d1, ds1, p1, q1, rfl, rfl, rfl, h1, r1⟩ := trodAll_cons r0
  obtain ⟨v2, vs2, d2, ds2, p2, q2, rfl, rfl, rfl, h2, r2⟩ := trodAll_cons r1
  obtain ⟨v3, vs3, d3, ds3, p3, q3, rfl, rfl, rfl, h3, r3⟩ := trodAll_cons r2
  obtain ⟨v4, vs4, d4, ds4, p4, q4, rfl, rfl, rfl, h4, r4⟩ := trodAll_cons r3
  obtain ⟨rfl, rfl, rfl⟩ := trodAll_nil r4
  obtain rfl : args = #[v0, v1, v2, v3, v4] := by cases args; simp_all
  obtain ⟨xs, R0, _⟩ := rd_ints (hval 0 34 v0 rfl rfl) h0
  obtain ⟨m, rfl, rfl, rfl, w1⟩ := open_int Try.underlying3 (hval 1 3 v1 rfl rfl) h1
  obtain ⟨ds, R2⟩ := rd_deeds (hval 2 35 v2 rfl rfl) h2
  obtain ⟨i, rfl, rfl, rfl, w3⟩ := open_int Try.underlying3 (hval 3 3 v3 rfl rfl) h3
  obtain ⟨fr, rfl, rfl, rfl, w4⟩ := open_int Try.underlying3 (hval 4 3 v4 rfl rfl) h4
  exact law6 v0 xs m v2 ds i fr W R0 R2

theorem clockDrifts_holds : Rows.ClockDriftsSaid :=
  OpenClaim.holds_of_wide 6 Try.f6 rfl rfl rfl rfl rfl rfl rfl ⟨rfl, rfl, rfl, rfl, rfl⟩ rfl rfl rfl rfl rfl (by kernel_rfl) Try.func6 (by kernel_rfl)
    (of_decide_eq_true (by kernel_rfl)) (by unfold Func.isWrapper; first | (rw [if_pos (by decide +kernel)]; kernel_rfl) | (rw [if_neg (by decide +kernel)]; exact ⟨rfl, rfl⟩))
    (fun os started H enc _ => clockDrifts_lifted os started H enc)
#print axioms clockDrifts_holds
end Go.Proofs.Ytgpeekmagckgcaa
