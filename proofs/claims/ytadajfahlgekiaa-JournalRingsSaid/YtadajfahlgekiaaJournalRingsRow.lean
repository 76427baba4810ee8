/- Proved: whatever number and notes come in, the law JournalRings returns true, and its arguments read as they did. -/
import Derived.Test.YtadajfahlgekiaaJrnRow3
import Derived.Test.YtadajfahlgekiaaVLRow
import Derived.Test.YtadajfahlgekiaaRows
set_option linter.unusedVariables false
set_option linter.unusedSimpArgs false
namespace Go.Proofs.Ytadajfahlgekiaa
open Go.ChangeShapes Go.WideShapes Go.ChangeAt Go.RowKit VL
theorem journalRingsOwn : ownKnob Try.prog.godebug = none := by kernel_rfl
theorem journalRingsLaid : laidOutB Try.prog = true := by kernel_rfl

set_option maxRecDepth 100000 in
theorem journalRings_lifted (os : Os) (started : os.Started) (H : Type) (enc : TypeId × Value → H) :
    ReturnsInHanded {} Try.checked os 6 .any (Rows.journalRingsSpec.pre6 enc Try.prog Try.f6 Rows.journalRingsRow.domain false) (Rows.journalRingsSpec.post enc Try.prog Try.f6 false true false false) := by
  refine returnsInHanded_of_change (C := Try.checked) journalRingsOwn started (by kernel_rfl) Try.func6
    (ChangeSpec.witness6 (enc := enc) (C := Try.checked) false ⟨#[], #[.int .u8 0, .slice none 0 0], []⟩ 8 (by kernel_rfl) (by kernel_rfl) (by kernel_rfl) (by kernel_rfl)) ?_
  intro W base args ds gs before hval0 hW hcnd0 _
  have hval : ∀ (j : Nat) t v, Try.f6.params[j]? = some t → args[j]? = some v → Value.okWide Try.prog W .any base t v := hval0
  have hW' := hW
  obtain ⟨p, q, hA0, hV, _, _, _⟩ := hW
  obtain ⟨rfl, rfl⟩ := trodVars_none hV
  have hA : DataW.TrodAll enc Try.prog W 0 (fun _ => true) true Try.f6.params.toList args.toList ds p := hA0
  rw [Try.params6] at hA hval
  obtain ⟨v0, v1, d0, d1, p0, p1, rfl, rfl, rfl, h0, h1⟩ := trodAll_two hA
  obtain ⟨a0, r0, b0⟩ := rep_int Try.underlying5 (hval 0 _ v0 rfl rfl) h0
  obtain ⟨a1, r1, b1⟩ := rep_strs Try.underlying50 Try.underlying9 rfl (hval 1 _ v1 rfl rfl) h1
  exact law_calls journalRingsLaid (by kernel_rfl) rfl hW' rfl Try.underlying4 rfl
    (reps_cons r0 (reps_cons r1 reps_nil)) (rings_spec a0 a1 (by simpa [IntKind.min, IntKind.max, IntKind.signed, IntKind.bits] using b0.1) (by simpa [IntKind.min, IntKind.max, IntKind.signed, IntKind.bits] using b0.2) b1.2 b1.1 [])

theorem journalRings_holds : Rows.JournalRingsSaid :=
  OpenClaim.holds_of_wide 6 Try.f6 rfl rfl rfl rfl rfl rfl rfl ⟨rfl, rfl, rfl, rfl, rfl⟩ rfl rfl rfl rfl rfl (by kernel_rfl) Try.func6 (by kernel_rfl)
    (of_decide_eq_true (by kernel_rfl)) (by unfold Func.isWrapper; first | (rw [if_pos (by decide +kernel)]; kernel_rfl) | (rw [if_neg (by decide +kernel)]; exact ⟨rfl, rfl⟩))
    (fun os started H enc _ => journalRings_lifted os started H enc)
#print axioms journalRings_holds

end Go.Proofs.Ytadajfahlgekiaa
