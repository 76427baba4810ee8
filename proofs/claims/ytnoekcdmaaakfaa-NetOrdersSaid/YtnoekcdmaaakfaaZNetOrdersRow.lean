/- Proved: whatever mails come in, the law NetOrders returns true, and its arguments read as they did. -/
import Derived.Test.YtnoekcdmaaakfaaZNetQ
import Derived.Test.YtnoekcdmaaakfaaZNetRow
import Derived.Test.YtnoekcdmaaakfaaZCf
import Derived.Test.YtnoekcdmaaakfaaRows
set_option linter.unusedVariables false
set_option linter.unusedSimpArgs false
namespace Go.Proofs.Ytnoekcdmaaakfaa
open Go.ChangeShapes Go.WideShapes Go.ChangeAt Go.RowKit VL
theorem netOrdersOwn : ownKnob Try.prog.godebug = none := by kernel_rfl
theorem netOrdersLaid : laidOutB Try.prog = true := by kernel_rfl

set_option maxRecDepth 100000 in
theorem netOrders_lifted (os : Os) (started : os.Started) (H : Type) (enc : TypeId × Value → H) :
    ReturnsInHanded {} Try.checked os 3 .any (Rows.netOrdersSpec.pre6 enc Try.prog Try.f3 Rows.netOrdersRow.domain false) (Rows.netOrdersSpec.post enc Try.prog Try.f3 false true false false) := by
  refine returnsInHanded_of_change (C := Try.checked) netOrdersOwn started (by kernel_rfl) Try.func3
    (ChangeSpec.witness6 (enc := enc) (C := Try.checked) false ⟨#[], #[.slice none 0 0], []⟩ 8 (by kernel_rfl) (by kernel_rfl) (by kernel_rfl) (by kernel_rfl)) ?_
  intro W base args ds gs before hval0 hW hcnd0 _
  have hval : ∀ (j : Nat) t v, Try.f3.params[j]? = some t → args[j]? = some v → Value.okWide Try.prog W .any base t v := hval0
  have hW' := hW
  obtain ⟨p, q, hA0, hV, _, _, _⟩ := hW
  obtain ⟨rfl, rfl⟩ := trodVars_none hV
  have hA : DataW.TrodAll enc Try.prog W 0 (fun _ => true) true Try.f3.params.toList args.toList ds p := hA0
  rw [Try.params3] at hA hval
  obtain ⟨v0, d0, rfl, rfl, h0⟩ := trodAll_one hA
  obtain ⟨a0, r0, b0⟩ := rep_mails (hval 0 _ v0 rfl rfl) h0
  exact law_calls netOrdersLaid (by kernel_rfl) rfl hW' rfl Try.underlying4 rfl
    (reps_cons r0 reps_nil) (netOrders_spec a0 b0.2 []) (fun a w => Try.call3 a w)

theorem netOrders_holds : Rows.NetOrdersSaid :=
  OpenClaim.holds_of_wide 3 Try.f3 rfl rfl rfl rfl rfl rfl rfl ⟨rfl, rfl, rfl, rfl, rfl⟩ rfl rfl rfl rfl rfl (by kernel_rfl) Try.func3 (by kernel_rfl)
    (of_decide_eq_true (by kernel_rfl)) (by unfold Func.isWrapper; first | (rw [if_pos (by decide +kernel)]; kernel_rfl) | (rw [if_neg (by decide +kernel)]; exact ⟨rfl, rfl⟩))
    (fun os started H enc _ => netOrders_lifted os started H enc)
#print axioms netOrders_holds

end Go.Proofs.Ytnoekcdmaaakfaa
