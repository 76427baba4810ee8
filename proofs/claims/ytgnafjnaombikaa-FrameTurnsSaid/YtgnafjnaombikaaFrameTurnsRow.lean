/- Proved: whatever frame, place and bits come in, the law FrameTurns returns true, and its arguments read as they did. -/
import Derived.Test.YtgnafjnaombikaaFrameRow
import Derived.Test.YtgnafjnaombikaaVLRow
import Derived.Test.YtgnafjnaombikaaRows
set_option linter.unusedVariables false
set_option linter.unusedSimpArgs false
namespace Go.Proofs.Ytgnafjnaombikaa
open Go.ChangeShapes Go.WideShapes Go.ChangeAt Go.RowKit VL
theorem frameTurnsOwn : ownKnob Try.prog.godebug = none := by kernel_rfl
theorem frameTurnsLaid : laidOutB Try.prog = true := by kernel_rfl

set_option maxRecDepth 100000 in
theorem frameTurns_lifted (os : Os) (started : os.Started) (H : Type) (enc : TypeId × Value → H) :
    ReturnsInHanded {} Try.checked os 5 .any (Rows.frameTurnsSpec.pre6 enc Try.prog Try.f5 Rows.frameTurnsRow.domain false) (Rows.frameTurnsSpec.post enc Try.prog Try.f5 false true false false) := by
  refine returnsInHanded_of_change (C := Try.checked) frameTurnsOwn started (by kernel_rfl) Try.func5
    (ChangeSpec.witness6 (enc := enc) (C := Try.checked) false ⟨#[], #[.agg #[.int .i64 0, .string ⟨#[]⟩, .int .i64 0, .slice none 0 0], .int .u16 0, .int .u32 0], []⟩ 8 (by kernel_rfl) (by kernel_rfl) (by kernel_rfl) (by kernel_rfl)) ?_
  intro W base args ds gs before hval0 hW hcnd0 _
  have hval : ∀ (j : Nat) t v, Try.f5.params[j]? = some t → args[j]? = some v → Value.okWide Try.prog W .any base t v := hval0
  have hW' := hW
  obtain ⟨p, q, hA0, hV, _, _, _⟩ := hW
  obtain ⟨rfl, rfl⟩ := trodVars_none hV
  have hA : DataW.TrodAll enc Try.prog W 0 (fun _ => true) true Try.f5.params.toList args.toList ds p := hA0
  rw [Try.params5] at hA hval
  obtain ⟨v0, v1, v2, d0, d1, d2, p0, p1, p2, rfl, rfl, rfl, h0, h1, h2⟩ := trodAll_three hA
  obtain ⟨a0, r0, b0⟩ := rep_frame (hval 0 _ v0 rfl rfl) h0
  obtain ⟨a1, r1, b1⟩ := rep_int Try.underlying36 (hval 1 _ v1 rfl rfl) h1
  obtain ⟨a2, r2, b2⟩ := rep_int Try.underlying37 (hval 2 _ v2 rfl rfl) h2
  exact law_calls frameTurnsLaid (by kernel_rfl) rfl hW' rfl Try.underlying4 rfl
    (reps_cons r0 (reps_cons r1 (reps_cons r2 reps_nil))) (frameTurns_spec a0 a1 a2 (by simpa [IntKind.min, IntKind.max, IntKind.signed, IntKind.bits] using b1.1) (by simpa [IntKind.min, IntKind.max, IntKind.signed, IntKind.bits] using b1.2) (by simpa [IntKind.min, IntKind.max, IntKind.signed, IntKind.bits] using b2.1) (by simpa [IntKind.min, IntKind.max, IntKind.signed, IntKind.bits] using b2.2) b0.1 b0.2 [])

theorem frameTurns_holds : Rows.FrameTurnsSaid :=
  OpenClaim.holds_of_wide 5 Try.f5 rfl rfl rfl rfl rfl rfl rfl ⟨rfl, rfl, rfl, rfl, rfl⟩ rfl rfl rfl rfl rfl (by kernel_rfl) Try.func5 (by kernel_rfl)
    (of_decide_eq_true (by kernel_rfl)) (by unfold Func.isWrapper; first | (rw [if_pos (by decide +kernel)]; kernel_rfl) | (rw [if_neg (by decide +kernel)]; exact ⟨rfl, rfl⟩))
    (fun os started H enc _ => frameTurns_lifted os started H enc)
#print axioms frameTurns_holds

end Go.Proofs.Ytgnafjnaombikaa
