/- Proved: whatever turns come in, the law NetCounts returns true, and its arguments read as they did. -/
import Derived.Test.YtnoekcdmaaakfaaZNetT
import Derived.Test.YtnoekcdmaaakfaaZNetRowT
import Derived.Test.YtnoekcdmaaakfaaZCf
import Derived.Test.YtnoekcdmaaakfaaRows
set_option linter.unusedVariables false
set_option linter.unusedSimpArgs false
namespace Go.Proofs.Ytnoekcdmaaakfaa
open Go.ChangeShapes Go.WideShapes Go.ChangeAt Go.RowKit VL
theorem netCountsOwn : ownKnob Try.prog.godebug = none := by kernel_rfl
theorem netCountsLaid : laidOutB Try.prog = true := by kernel_rfl

set_option maxRecDepth 100000 in
theorem netCounts_lifted (os : Os) (started : os.Started) (H : Type) (enc : TypeId × Value → H) :
    ReturnsInHanded {} Try.checked os 6 .any (Rows.netCountsSpec.pre6 enc Try.prog Try.f6 Rows.netCountsRow.domain false) (Rows.netCountsSpec.post enc Try.prog Try.f6 false true false false) := by
  refine returnsInHanded_of_change (C := Try.checked) netCountsOwn started (by kernel_rfl) Try.func6
    (ChangeSpec.witness6 (enc := enc) (C := Try.checked) false ⟨#[], #[.slice none 0 0], []⟩ 8 (by kernel_rfl) (by kernel_rfl) (by kernel_rfl) (by kernel_rfl)) ?_
  intro W base args ds gs before hval0 hW hcnd0 _
  have hval : ∀ (j : Nat) t v, Try.f6.params[j]? = some t → args[j]? = some v → Value.okWide Try.prog W .any base t v := hval0
  have hW' := hW
  obtain ⟨p, q, hA0, hV, _, _, _⟩ := hW
  obtain ⟨rfl, rfl⟩ := trodVars_none hV
  have hA : DataW.TrodAll enc Try.prog W 0 (fun _ => true) true Try.f6.params.toList args.toList ds p := hA0
  rw [Try.params6] at hA hval
  obtain ⟨v0, d0, rfl, rfl, h0⟩ := trodAll_one hA
  obtain ⟨a0, r0, b0⟩ := rep_deeds (hval 0 _ v0 rfl rfl) h0
  exact law_calls netCountsLaid (by kernel_rfl) rfl hW' rfl Try.underlying4 rfl
    (reps_cons r0 reps_nil) (netCounts_spec a0 b0.2 b0.1 []) (fun a w => Try.call6 a w)

theorem netCounts_holds : Rows.NetCountsSaid :=
  OpenClaim.holds_of_wide 6 Try.f6 rfl rfl rfl rfl rfl rfl rfl ⟨rfl, rfl, rfl, rfl, rfl⟩ rfl rfl rfl rfl rfl (by kernel_rfl) Try.func6 (by kernel_rfl)
    (of_decide_eq_true (by kernel_rfl)) (by unfold Func.isWrapper; first | (rw [if_pos (by decide +kernel)]; kernel_rfl) | (rw [if_neg (by decide +kernel)]; exact ⟨rfl, rfl⟩))
    (fun os started H enc _ => netCounts_lifted os started H enc)
#print axioms netCounts_holds

end Go.Proofs.Ytnoekcdmaaakfaa
