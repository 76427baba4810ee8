/- Proved: whatever turns come in, the law NetTrue returns true, and its arguments read as they did. -/
import Derived.Test.YtnoekcdmaaakfaaZNetTR
import Derived.Test.YtnoekcdmaaakfaaZNetRowT
import Derived.Test.YtnoekcdmaaakfaaZCf
import Derived.Test.YtnoekcdmaaakfaaRows
set_option linter.unusedVariables false
set_option linter.unusedSimpArgs false
namespace Go.Proofs.Ytnoekcdmaaakfaa
open Go.ChangeShapes Go.WideShapes Go.ChangeAt Go.RowKit VL
theorem netTrueOwn : ownKnob Try.prog.godebug = none := by kernel_rfl
theorem netTrueLaid : laidOutB Try.prog = true := by kernel_rfl

set_option maxRecDepth 100000 in
theorem netTrue_lifted (os : Os) (started : os.Started) (H : Type) (enc : TypeId × Value → H) :
    ReturnsInHanded {} Try.checked os 5 .any (Rows.netTrueSpec.pre6 enc Try.prog Try.f5 Rows.netTrueRow.domain false) (Rows.netTrueSpec.post enc Try.prog Try.f5 false true false false) := by
  refine returnsInHanded_of_change (C := Try.checked) netTrueOwn started (by kernel_rfl) Try.func5
    (ChangeSpec.witness6 (enc := enc) (C := Try.checked) false ⟨#[], #[.slice none 0 0], []⟩ 8 (by kernel_rfl) (by kernel_rfl) (by kernel_rfl) (by kernel_rfl)) ?_
  intro W base args ds gs before hval0 hW hcnd0 _
  have hval : ∀ (j : Nat) t v, Try.f5.params[j]? = some t → args[j]? = some v → Value.okWide Try.prog W .any base t v := hval0
  have hW' := hW
  obtain ⟨p, q, hA0, hV, _, _, _⟩ := hW
  obtain ⟨rfl, rfl⟩ := trodVars_none hV
  have hA : DataW.TrodAll enc Try.prog W 0 (fun _ => true) true Try.f5.params.toList args.toList ds p := hA0
  rw [Try.params5] at hA hval
  obtain ⟨v0, d0, rfl, rfl, h0⟩ := trodAll_one hA
  obtain ⟨a0, r0, b0⟩ := rep_deeds (hval 0 _ v0 rfl rfl) h0
  exact law_calls netTrueLaid (by kernel_rfl) rfl hW' rfl Try.underlying4 rfl
    (reps_cons r0 reps_nil) (netTrue_spec a0 b0.2 b0.1 []) (fun a w => Try.call5 a w)

theorem netTrue_holds : Rows.NetTrueSaid :=
  OpenClaim.holds_of_wide 5 Try.f5 rfl rfl rfl rfl rfl rfl rfl ⟨rfl, rfl, rfl, rfl, rfl⟩ rfl rfl rfl rfl rfl (by kernel_rfl) Try.func5 (by kernel_rfl)
    (of_decide_eq_true (by kernel_rfl)) (by unfold Func.isWrapper; first | (rw [if_pos (by decide +kernel)]; kernel_rfl) | (rw [if_neg (by decide +kernel)]; exact ⟨rfl, rfl⟩))
    (fun os started H enc _ => netTrue_lifted os started H enc)
#print axioms netTrue_holds

end Go.Proofs.Ytnoekcdmaaakfaa
