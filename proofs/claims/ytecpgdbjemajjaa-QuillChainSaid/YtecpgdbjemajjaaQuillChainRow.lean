/- Proved: whatever numbers come in, the law QuillChain returns true, and its argument reads as it did. -/
import Derived.Test.YtecpgdbjemajjaaQuillI
import Derived.Test.YtecpgdbjemajjaaVLRow
import Derived.Test.YtecpgdbjemajjaaRows
set_option linter.unusedVariables false
set_option linter.unusedSimpArgs false
namespace Go.Proofs.Ytecpgdbjemajjaa
open Go.ChangeShapes Go.WideShapes Go.ChangeAt Go.RowKit VL
theorem quillChainOwn : ownKnob Try.prog.godebug = none := by kernel_rfl
theorem quillChainLaid : laidOutB Try.prog = true := by kernel_rfl

set_option maxRecDepth 100000 in
theorem quillChain_lifted (os : Os) (started : os.Started) (H : Type) (enc : TypeId × Value → H) :
    ReturnsInHanded {} Try.checked os 8 .any (Rows.quillChainSpec.pre6 enc Try.prog Try.f8 Rows.quillChainRow.domain false) (Rows.quillChainSpec.post enc Try.prog Try.f8 false true false false) := by
  refine returnsInHanded_of_change (C := Try.checked) quillChainOwn started (by kernel_rfl) Try.func8
    (ChangeSpec.witness6 (enc := enc) (C := Try.checked) false ⟨#[], #[.slice none 0 0], []⟩ 8 (by kernel_rfl) (by kernel_rfl) (by kernel_rfl) (by kernel_rfl)) ?_
  intro W base args ds gs before hval0 hW hcnd0 _
  have hval : ∀ (j : Nat) t v, Try.f8.params[j]? = some t → args[j]? = some v → Value.okWide Try.prog W .any base t v := hval0
  have hW' := hW
  obtain ⟨p, q, hA0, hV, _, _, _⟩ := hW
  obtain ⟨rfl, rfl⟩ := trodVars_none hV
  have hA : DataW.TrodAll enc Try.prog W 0 (fun _ => true) true Try.f8.params.toList args.toList ds p := hA0
  rw [Try.params8] at hA hval
  obtain ⟨v0, d0, rfl, rfl, h0⟩ := trodAll_one hA
  obtain ⟨a0, r0, b0⟩ := rep_nums Try.underlying23 Try.underlying3 rfl (hval 0 _ v0 rfl rfl) h0
  exact law_calls quillChainLaid (by kernel_rfl) rfl hW' rfl Try.underlying4 rfl
    (reps_cons r0 reps_nil) (chain_spec a0 [])

theorem quillChain_holds : Rows.QuillChainSaid :=
  OpenClaim.holds_of_wide 8 Try.f8 rfl rfl rfl rfl rfl rfl rfl ⟨rfl, rfl, rfl, rfl, rfl⟩ rfl rfl rfl rfl rfl (by kernel_rfl) Try.func8 (by kernel_rfl)
    (of_decide_eq_true (by kernel_rfl)) (by unfold Func.isWrapper; first | (rw [if_pos (by decide +kernel)]; kernel_rfl) | (rw [if_neg (by decide +kernel)]; exact ⟨rfl, rfl⟩))
    (fun os started H enc _ => quillChain_lifted os started H enc)
#print axioms quillChain_holds

end Go.Proofs.Ytecpgdbjemajjaa
