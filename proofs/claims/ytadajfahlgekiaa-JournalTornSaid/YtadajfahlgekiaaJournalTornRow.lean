/- Proved: whatever record, place and byte come in, the law JournalTorn returns true, and its arguments read as they did. -/
import Derived.Test.YtadajfahlgekiaaJrnRow
import Derived.Test.YtadajfahlgekiaaVLRow
import Derived.Test.YtadajfahlgekiaaRows
set_option linter.unusedVariables false
set_option linter.unusedSimpArgs false
namespace Go.Proofs.Ytadajfahlgekiaa
open Go.ChangeShapes Go.WideShapes Go.ChangeAt Go.RowKit VL
theorem journalTornOwn : ownKnob Try.prog.godebug = none := by kernel_rfl
theorem journalTornLaid : laidOutB Try.prog = true := by kernel_rfl

set_option maxRecDepth 100000 in
theorem journalTorn_lifted (os : Os) (started : os.Started) (H : Type) (enc : TypeId × Value → H) :
    ReturnsInHanded {} Try.checked os 7 .any (Rows.journalTornSpec.pre6 enc Try.prog Try.f7 Rows.journalTornRow.domain false) (Rows.journalTornSpec.post enc Try.prog Try.f7 false true false false) := by
  refine returnsInHanded_of_change (C := Try.checked) journalTornOwn started (by kernel_rfl) Try.func7
    (ChangeSpec.witness6 (enc := enc) (C := Try.checked) false ⟨#[], #[.agg #[.int .i64 0, .int .i64 0, .string ⟨#[]⟩], .int .u8 0, .int .u8 0], []⟩ 8 (by kernel_rfl) (by kernel_rfl) (by kernel_rfl) (by kernel_rfl)) ?_
  intro W base args ds gs before hval0 hW hcnd0 _
  have hval : ∀ (j : Nat) t v, Try.f7.params[j]? = some t → args[j]? = some v → Value.okWide Try.prog W .any base t v := hval0
  have hW' := hW
  obtain ⟨p, q, hA0, hV, _, _, _⟩ := hW
  obtain ⟨rfl, rfl⟩ := trodVars_none hV
  have hA : DataW.TrodAll enc Try.prog W 0 (fun _ => true) true Try.f7.params.toList args.toList ds p := hA0
  rw [Try.params7] at hA hval
  obtain ⟨v0, v1, v2, d0, d1, d2, p0, p1, p2, rfl, rfl, rfl, h0, h1, h2⟩ := trodAll_three hA
  obtain ⟨a0, r0, b0⟩ := rep_rec (hval 0 _ v0 rfl rfl) h0
  obtain ⟨a1, r1, b1⟩ := rep_int Try.underlying5 (hval 1 _ v1 rfl rfl) h1
  obtain ⟨a2, r2, b2⟩ := rep_int Try.underlying5 (hval 2 _ v2 rfl rfl) h2
  exact law_calls journalTornLaid (by kernel_rfl) rfl hW' rfl Try.underlying4 rfl
    (reps_cons r0 (reps_cons r1 (reps_cons r2 reps_nil))) (jtorn_spec a0 a1 a2 (by simpa [IntKind.min, IntKind.max, IntKind.signed, IntKind.bits] using b1.1) (by simpa [IntKind.min, IntKind.max, IntKind.signed, IntKind.bits] using b1.2) (by simpa [IntKind.min, IntKind.max, IntKind.signed, IntKind.bits] using b2.1) (by simpa [IntKind.min, IntKind.max, IntKind.signed, IntKind.bits] using b2.2) b0 [])

theorem journalTorn_holds : Rows.JournalTornSaid :=
  OpenClaim.holds_of_wide 7 Try.f7 rfl rfl rfl rfl rfl rfl rfl ⟨rfl, rfl, rfl, rfl, rfl⟩ rfl rfl rfl rfl rfl (by kernel_rfl) Try.func7 (by kernel_rfl)
    (of_decide_eq_true (by kernel_rfl)) (by unfold Func.isWrapper; first | (rw [if_pos (by decide +kernel)]; kernel_rfl) | (rw [if_neg (by decide +kernel)]; exact ⟨rfl, rfl⟩))
    (fun os started H enc _ => journalTorn_lifted os started H enc)
#print axioms journalTorn_holds

end Go.Proofs.Ytadajfahlgekiaa
