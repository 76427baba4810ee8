/- Proved: whatever bytes, numbers and text come in, the law QuillLays returns true, and its arguments read as they did. -/
import Derived.Test.YtecpgdbjemajjaaQuillJ
import Derived.Test.YtecpgdbjemajjaaVLRow
import Derived.Test.YtecpgdbjemajjaaRows
set_option linter.unusedVariables false
set_option linter.unusedSimpArgs false
namespace Go.Proofs.Ytecpgdbjemajjaa
open Go.ChangeShapes Go.WideShapes Go.ChangeAt Go.RowKit VL
theorem quillLaysOwn : ownKnob Try.prog.godebug = none := by kernel_rfl
theorem quillLaysLaid : laidOutB Try.prog = true := by kernel_rfl

set_option maxRecDepth 100000 in
theorem quillLays_lifted (os : Os) (started : os.Started) (H : Type) (enc : TypeId × Value → H) :
    ReturnsInHanded {} Try.checked os 3 .any (Rows.quillLaysSpec.pre6 enc Try.prog Try.f3 Rows.quillLaysRow.domain false) (Rows.quillLaysSpec.post enc Try.prog Try.f3 false true false false) := by
  refine returnsInHanded_of_change (C := Try.checked) quillLaysOwn started (by kernel_rfl) Try.func3
    (ChangeSpec.witness6 (enc := enc) (C := Try.checked) false ⟨#[], #[.slice none 0 0, .slice none 0 0, .string ⟨#[]⟩], []⟩ 8 (by kernel_rfl) (by kernel_rfl) (by kernel_rfl) (by kernel_rfl)) ?_
  intro W base args ds gs before hval0 hW hcnd0 _
  have hval : ∀ (j : Nat) t v, Try.f3.params[j]? = some t → args[j]? = some v → Value.okWide Try.prog W .any base t v := hval0
  have hW' := hW
  obtain ⟨p, q, hA0, hV, _, _, _⟩ := hW
  obtain ⟨rfl, rfl⟩ := trodVars_none hV
  have hA : DataW.TrodAll enc Try.prog W 0 (fun _ => true) true Try.f3.params.toList args.toList ds p := hA0
  rw [Try.params3] at hA hval
  obtain ⟨v0, v1, v2, d0, d1, d2, p0, p1, p2, rfl, rfl, rfl, h0, h1, h2⟩ := trodAll_three hA
  obtain ⟨a0, r0⟩ := rep_bytes Try.underlying22 Try.underlying5 rfl (hval 0 _ v0 rfl rfl) h0
  obtain ⟨a1, r1, b1⟩ := rep_nums Try.underlying23 Try.underlying3 rfl (hval 1 _ v1 rfl rfl) h1
  obtain ⟨a2, r2, b2⟩ := rep_string Try.underlying9 (hval 2 _ v2 rfl rfl) h2
  exact law_calls quillLaysLaid (by kernel_rfl) rfl hW' rfl Try.underlying4 rfl
    (reps_cons r0 (reps_cons r1 (reps_cons r2 reps_nil))) (lays_spec a0 a1 a2 b2 [])

theorem quillLays_holds : Rows.QuillLaysSaid :=
  OpenClaim.holds_of_wide 3 Try.f3 rfl rfl rfl rfl rfl rfl rfl ⟨rfl, rfl, rfl, rfl, rfl⟩ rfl rfl rfl rfl rfl (by kernel_rfl) Try.func3 (by kernel_rfl)
    (of_decide_eq_true (by kernel_rfl)) (by unfold Func.isWrapper; first | (rw [if_pos (by decide +kernel)]; kernel_rfl) | (rw [if_neg (by decide +kernel)]; exact ⟨rfl, rfl⟩))
    (fun os started H enc _ => quillLays_lifted os started H enc)
#print axioms quillLays_holds

end Go.Proofs.Ytecpgdbjemajjaa
