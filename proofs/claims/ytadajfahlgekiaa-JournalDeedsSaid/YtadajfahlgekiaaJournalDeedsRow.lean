/- Proved: whatever disk, generation and note come in, the law JournalDeeds returns true, and its arguments read as they did. -/
import Derived.Test.YtadajfahlgekiaaJrnRow2
import Derived.Test.YtadajfahlgekiaaVLRow
import Derived.Test.YtadajfahlgekiaaRows
set_option linter.unusedVariables false
set_option linter.unusedSimpArgs false
namespace Go.Proofs.Ytadajfahlgekiaa
open Go.ChangeShapes Go.WideShapes Go.ChangeAt Go.RowKit VL
theorem journalDeedsOwn : ownKnob Try.prog.godebug = none := by kernel_rfl
theorem journalDeedsLaid : laidOutB Try.prog = true := by kernel_rfl

set_option maxRecDepth 100000 in
theorem journalDeeds_lifted (os : Os) (started : os.Started) (H : Type) (enc : TypeId × Value → H) :
    ReturnsInHanded {} Try.checked os 4 .any (Rows.journalDeedsSpec.pre6 enc Try.prog Try.f4 Rows.journalDeedsRow.domain false) (Rows.journalDeedsSpec.post enc Try.prog Try.f4 false true false false) := by
  refine returnsInHanded_of_change (C := Try.checked) journalDeedsOwn started (by kernel_rfl) Try.func4
    (ChangeSpec.witness6 (enc := enc) (C := Try.checked) false ⟨#[], #[.agg #[.slice none 0 0, .int .i64 0, .bool false], .int .i64 0, .string ⟨#[]⟩], []⟩ 8 (by kernel_rfl) (by kernel_rfl) (by kernel_rfl) (by kernel_rfl)) ?_
  intro W base args ds gs before hval0 hW hcnd0 _
  have hval : ∀ (j : Nat) t v, Try.f4.params[j]? = some t → args[j]? = some v → Value.okWide Try.prog W .any base t v := hval0
  have hW' := hW
  obtain ⟨p, q, hA0, hV, _, _, _⟩ := hW
  obtain ⟨rfl, rfl⟩ := trodVars_none hV
  have hA : DataW.TrodAll enc Try.prog W 0 (fun _ => true) true Try.f4.params.toList args.toList ds p := hA0
  rw [Try.params4] at hA hval
  obtain ⟨v0, v1, v2, d0, d1, d2, p0, p1, p2, rfl, rfl, rfl, h0, h1, h2⟩ := trodAll_three hA
  obtain ⟨a0, r0, b0⟩ := rep_disk (hval 0 _ v0 rfl rfl) h0
  obtain ⟨a1, r1, b1⟩ := rep_int Try.underlying3 (hval 1 _ v1 rfl rfl) h1
  obtain ⟨a2, r2, b2⟩ := rep_string Try.underlying9 (hval 2 _ v2 rfl rfl) h2
  exact law_calls journalDeedsLaid (by kernel_rfl) rfl hW' rfl Try.underlying4 rfl
    (reps_cons r0 (reps_cons r1 (reps_cons r2 reps_nil))) (deeds_spec a0 a1 a2 b0.1 b0.2.1 b0.2.2 b2 [])

theorem journalDeeds_holds : Rows.JournalDeedsSaid :=
  OpenClaim.holds_of_wide 4 Try.f4 rfl rfl rfl rfl rfl rfl rfl ⟨rfl, rfl, rfl, rfl, rfl⟩ rfl rfl rfl rfl rfl (by kernel_rfl) Try.func4 (by kernel_rfl)
    (of_decide_eq_true (by kernel_rfl)) (by unfold Func.isWrapper; first | (rw [if_pos (by decide +kernel)]; kernel_rfl) | (rw [if_neg (by decide +kernel)]; exact ⟨rfl, rfl⟩))
    (fun os started H enc _ => journalDeeds_lifted os started H enc)
#print axioms journalDeeds_holds

end Go.Proofs.Ytadajfahlgekiaa
