/- Proved: whatever record and sector come in, the law JournalLays returns true, and its arguments read as they did. -/
import Derived.Test.YtadajfahlgekiaaJrnRow
import Derived.Test.YtadajfahlgekiaaVLRow
import Derived.Test.YtadajfahlgekiaaRows
set_option linter.unusedVariables false
set_option linter.unusedSimpArgs false
namespace Go.Proofs.Ytadajfahlgekiaa
open Go.ChangeShapes Go.WideShapes Go.ChangeAt Go.RowKit VL
theorem journalLaysOwn : ownKnob Try.prog.godebug = none := by kernel_rfl
theorem journalLaysLaid : laidOutB Try.prog = true := by kernel_rfl

set_option maxRecDepth 100000 in
theorem journalLays_lifted (os : Os) (started : os.Started) (H : Type) (enc : TypeId × Value → H) :
    ReturnsInHanded {} Try.checked os 3 .any (Rows.journalLaysSpec.pre6 enc Try.prog Try.f3 Rows.journalLaysRow.domain false) (Rows.journalLaysSpec.post enc Try.prog Try.f3 false true false false) := by
  refine returnsInHanded_of_change (C := Try.checked) journalLaysOwn started (by kernel_rfl) Try.func3
    (ChangeSpec.witness6 (enc := enc) (C := Try.checked) false ⟨#[], #[.agg #[.int .i64 0, .int .i64 0, .string ⟨#[]⟩], .agg (Array.replicate 64 (.int .u8 0))], []⟩ 8 (by kernel_rfl) (by kernel_rfl) (by kernel_rfl) (by kernel_rfl)) ?_
  intro W base args ds gs before hval0 hW hcnd0 _
  have hval : ∀ (j : Nat) t v, Try.f3.params[j]? = some t → args[j]? = some v → Value.okWide Try.prog W .any base t v := hval0
  have hW' := hW
  obtain ⟨p, q, hA0, hV, _, _, _⟩ := hW
  obtain ⟨rfl, rfl⟩ := trodVars_none hV
  have hA : DataW.TrodAll enc Try.prog W 0 (fun _ => true) true Try.f3.params.toList args.toList ds p := hA0
  rw [Try.params3] at hA hval
  obtain ⟨v0, v1, d0, d1, p0, p1, rfl, rfl, rfl, h0, h1⟩ := trodAll_two hA
  obtain ⟨a0, r0, b0⟩ := rep_rec (hval 0 _ v0 rfl rfl) h0
  obtain ⟨a1, r1, b1⟩ := rep_sec (hval 1 _ v1 rfl rfl) h1
  exact law_calls journalLaysLaid (by kernel_rfl) rfl hW' rfl Try.underlying4 rfl
    (reps_cons r0 (reps_cons r1 reps_nil)) (jlays_spec a0 a1 b0 b1 [])

theorem journalLays_holds : Rows.JournalLaysSaid :=
  OpenClaim.holds_of_wide 3 Try.f3 rfl rfl rfl rfl rfl rfl rfl ⟨rfl, rfl, rfl, rfl, rfl⟩ rfl rfl rfl rfl rfl (by kernel_rfl) Try.func3 (by kernel_rfl)
    (of_decide_eq_true (by kernel_rfl)) (by unfold Func.isWrapper; first | (rw [if_pos (by decide +kernel)]; kernel_rfl) | (rw [if_neg (by decide +kernel)]; exact ⟨rfl, rfl⟩))
    (fun os started H enc _ => journalLays_lifted os started H enc)
#print axioms journalLays_holds

end Go.Proofs.Ytadajfahlgekiaa
