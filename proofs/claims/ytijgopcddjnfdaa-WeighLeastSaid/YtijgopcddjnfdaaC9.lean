/- What is proved here: WeighLeast returns true for every weights and ways. Condition: none. -/
import Derived.Test.YtijgopcddjnfdaaW9
import Derived.Test.YtijgopcddjnfdaaRe
namespace Go.Proofs.Ytijgopcddjnfdaa
open Go Go.RowKit Go.ChangeShapes Go.WideShapes Go.ChangeAt

theorem weighLeast_hts : ∀ t ∈ Try.f9.params.toList, Try.prog.readableRec t = true ∧ t < Try.prog.types.size := by
  have h : Try.f9.params.toList.all (fun t => Try.prog.readableRec t && decide (t < Try.prog.types.size)) = true := by kernel_rfl
  intro t ht
  simpa using List.all_eq_true.1 h t ht

set_option maxRecDepth 100000 in
theorem weighLeast_lifted (os : Os) (started : os.Started) (H : Type) (enc : TypeId × Value → H) :
    ReturnsInHanded {} Try.checked os 9 .any (Rows.weighLeastSpec.pre6 enc Try.prog Try.f9 Rows.weighLeastRow.domain false) (Rows.weighLeastSpec.post enc Try.prog Try.f9 false true false false) := by
  refine returnsInHanded_of_change (C := Try.checked) Try.own started (by kernel_rfl) Try.func9
    (ChangeSpec.witness6 (enc := enc) (C := Try.checked) false ⟨#[], #[.slice none 0 0, .slice none 0 0], []⟩ 8 (by kernel_rfl) (by kernel_rfl) (by kernel_rfl) (by kernel_rfl)) ?_
  intro W base args ds gs before hval0 hW hcnd _
  have hval : ∀ (j : Nat) t v, Try.f9.params[j]? = some t → args[j]? = some v → Value.okWide Try.prog W .any base t v := hval0
  have hW' := hW
  obtain ⟨p, q, hA0, hV, hpq, hfz, hnd⟩ := hW
  have hA : DataW.TrodAll enc Try.prog W 0 (fun _ => true) true Try.f9.params.toList args.toList ds p := hA0
  refine Calls.mono (R := fun e W' => e = .returned (.bool true) ∧ Below W.heap.size W W') ?_ fun e W' ⟨he, hb⟩ => ⟨_, he, law_post (f := Try.f9) Try.laidOut weighLeast_hts rfl (by kernel_rfl) Try.underlying4 (fun xs hx => by
    match xs, hx with
    | [x0, x1], _ => rfl) hW' hb⟩
  rw [Try.params9] at hA hval
  obtain ⟨v0, vs0, d0, ds0, p0, q0, hargs, rfl, rfl, h0, r0⟩ := trodAll_cons hA
  obtain ⟨v1, vs1, d1, ds1, p1, q1, rfl, rfl, rfl, h1, r1⟩ := trodAll_cons r0
  obtain ⟨rfl, rfl, rfl⟩ := trodAll_nil r1
  obtain rfl : args = #[v0, v1] := by cases args; simp_all
  obtain ⟨bits, R0, B0⟩ := rd_words (hval 0 29 v0 rfl rfl) h0
  obtain ⟨ways, R1⟩ := rd_ways (hval 1 53 v1 rfl rfl) h1
  exact law9 v0 bits v1 ways W R0 B0 R1

theorem weighLeast_holds : Rows.WeighLeastSaid :=
  OpenClaim.holds_of_wide 9 Try.f9 rfl rfl rfl rfl rfl rfl rfl ⟨rfl, rfl, rfl, rfl, rfl⟩ rfl rfl rfl rfl rfl (by kernel_rfl) Try.func9 (by kernel_rfl)
    (of_decide_eq_true (by kernel_rfl)) (by unfold Func.isWrapper; first | (rw [if_pos (by decide +kernel)]; kernel_rfl) | (rw [if_neg (by decide +kernel)]; exact ⟨rfl, rfl⟩))
    (fun os started H enc _ => weighLeast_lifted os started H enc)
#print axioms weighLeast_holds
end Go.Proofs.Ytijgopcddjnfdaa
