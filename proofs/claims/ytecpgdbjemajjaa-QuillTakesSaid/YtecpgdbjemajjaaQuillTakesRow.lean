/- Proved: whatever bytes and bound come in, the law QuillTakes returns true, and its arguments read as they did. -/
import Derived.Test.YtecpgdbjemajjaaQuillF
import Derived.Test.YtecpgdbjemajjaaVLRow
import Derived.Test.YtecpgdbjemajjaaRows
set_option linter.unusedVariables false
set_option linter.unusedSimpArgs false
namespace Go.Proofs.Ytecpgdbjemajjaa
open Go.ChangeShapes Go.WideShapes Go.ChangeAt Go.RowKit VL
theorem takesOwn : ownKnob Try.prog.godebug = none := by kernel_rfl
theorem takesLaid : laidOutB Try.prog = true := by kernel_rfl

set_option maxRecDepth 100000 in
theorem takes_lifted (os : Os) (started : os.Started) (H : Type) (enc : TypeId × Value → H) :
    ReturnsInHanded {} Try.checked os 4 .any (Rows.quillTakesSpec.pre6 enc Try.prog Try.f4 Rows.quillTakesRow.domain false) (Rows.quillTakesSpec.post enc Try.prog Try.f4 false true false false) := by
  refine returnsInHanded_of_change (C := Try.checked) takesOwn started (by kernel_rfl) Try.func4
    (ChangeSpec.witness6 (enc := enc) (C := Try.checked) false ⟨#[], #[.slice none 0 0, .int .i64 0], []⟩ 8 (by kernel_rfl) (by kernel_rfl) (by kernel_rfl) (by kernel_rfl)) ?_
  intro W base args ds gs before hval0 hW hcnd0 _
  have hval : ∀ (j : Nat) t v, Try.f4.params[j]? = some t → args[j]? = some v → Value.okWide Try.prog W .any base t v := hval0
  have hW' := hW
  obtain ⟨p, q, hA0, hV, _, _, _⟩ := hW
  obtain ⟨rfl, rfl⟩ := trodVars_none hV
  have hA : DataW.TrodAll enc Try.prog W 0 (fun _ => true) true Try.f4.params.toList args.toList ds p := hA0
  rw [Try.params4] at hA hval
  obtain ⟨v0, v1, d0, d1, p0, p1, rfl, rfl, rfl, h0, h1⟩ := trodAll_two hA
  obtain ⟨bs, r0⟩ := rep_bytes Try.underlying22 Try.underlying5 rfl (hval 0 _ v0 rfl rfl) h0
  obtain ⟨most, r1, _⟩ := rep_int Try.underlying3 (hval 1 _ v1 rfl rfl) h1
  exact law_calls takesLaid (by kernel_rfl) rfl hW' rfl Try.underlying4 rfl
    (reps_cons r0 (reps_cons r1 reps_nil)) (takes_spec bs most [])

theorem quillTakes_holds : Rows.QuillTakesSaid :=
  OpenClaim.holds_of_wide 4 Try.f4 rfl rfl rfl rfl rfl rfl rfl ⟨rfl, rfl, rfl, rfl, rfl⟩ rfl rfl rfl rfl rfl (by kernel_rfl) Try.func4 (by kernel_rfl)
    (of_decide_eq_true (by kernel_rfl)) (by unfold Func.isWrapper; first | (rw [if_pos (by decide +kernel)]; kernel_rfl) | (rw [if_neg (by decide +kernel)]; exact ⟨rfl, rfl⟩))
    (fun os started H enc _ => takes_lifted os started H enc)
#print axioms quillTakes_holds

end Go.Proofs.Ytecpgdbjemajjaa
