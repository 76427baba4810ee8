/- Proved: whatever packet and limits of bulk at most 1048576 come in, the law PacketLimits returns true, and its arguments read as they did. -/
import Derived.Test.YtkkhbmpcpilmfaaZPktBD
import Derived.Test.YtkkhbmpcpilmfaaZRa
import Derived.Test.YtkkhbmpcpilmfaaZCf
import Derived.Test.YtkkhbmpcpilmfaaRows
import Derived.JoinedCond
set_option linter.unusedVariables false
set_option linter.unusedSimpArgs false
namespace Go.Proofs.Ytkkhbmpcpilmfaa
open Go.ChangeShapes Go.WideShapes Go.ChangeAt Go.RowKit VL
theorem packetLimitsOwn : ownKnob Try.prog.godebug = none := by kernel_rfl
theorem packetLimitsLaid : laidOutB Try.prog = true := by kernel_rfl

set_option maxRecDepth 100000 in
theorem packetLimits_lifted (os : Os) (started : os.Started) (H : Type) (enc : TypeId × Value → H) (F0 : Stop.Interp) :
    ReturnsInHanded {} Try.checked os 4 .any ((Rows.OpenSpec.upto Rows.packetLimitsSpec).pre6 enc Try.prog Try.f4 Rows.packetLimitsUptoRow.domain false) (((Rows.OpenSpec.upto Rows.packetLimitsSpec).at F0).post enc Try.prog Try.f4 false true false false) := by
  refine returnsInHanded_of_cond (C := Try.checked) (s := Rows.OpenSpec.upto Rows.packetLimitsSpec) (k := Rows.uptoSmall) rfl packetLimitsOwn started (by kernel_rfl) Try.func4
    (OpenSpec.witness (enc := enc) (C := Try.checked) (s := Rows.OpenSpec.upto Rows.packetLimitsSpec) (k := Rows.uptoSmall) rfl false ⟨#[], #[.agg #[.int .i64 0, .int .i64 0, .slice none 0 0, .slice none 0 0, .slice none 0 0, .slice none 0 0], .agg #[.int .u16 0, .int .u16 0]], []⟩ 8 (by kernel_rfl) (by kernel_rfl) (by kernel_rfl)
      (x := ([.agg [.lit (.int .i64 0), .lit (.int .i64 0), .nil, .nil, .nil, .nil], .agg [.lit (.int .u16 0), .lit (.int .u16 0)]], [], [])) (by kernel_rfl) (by kernel_rfl) (by kernel_rfl)) ?_
  intro W base args ds gs before hval0 hW _ hk _
  have hval : ∀ (j : Nat) t v, Try.f4.params[j]? = some t → args[j]? = some v → Value.okWide Try.prog W .any base t v := hval0
  have hW' := hW
  obtain ⟨p, q, hA0, hV, _, _, _⟩ := hW
  obtain ⟨rfl, rfl⟩ := trodVars_none hV
  have hA : DataW.TrodAll enc Try.prog W 0 (fun _ => true) true Try.f4.params.toList args.toList ds p := hA0
  rw [Try.params4] at hA hval
  obtain ⟨v0, v1, d0, d1, p0, p1, rfl, rfl, rfl, h0, h1⟩ := trodAll_two hA
  obtain ⟨a0, r0, b0⟩ := rep_pk (hval 0 _ v0 rfl rfl) h0
  obtain ⟨a1, a1', r1, b1⟩ := rep_u16two (hval 1 _ v1 rfl rfl) h1
  have hk' : Rows.uptoBulkAll [d0, d1] ≤ 1048576 := of_decide_eq_true hk
  simp only [Rows.uptoBulkAll] at hk'
  exact law_calls packetLimitsLaid (by kernel_rfl) rfl hW' rfl Try.underlying4 rfl
    (reps_cons r0 (reps_cons r1 reps_nil)) (packetLimits_spec a0 (by omega) a1 a1' b1.1 b1.2 []) (fun a w => Try.call4 a w)

theorem packetLimits_holds : Rows.PacketLimitsUptoSaid :=
  OpenClaim.holds_of_cond 4 Try.f4 rfl rfl rfl rfl rfl rfl rfl ⟨rfl, rfl, rfl, rfl, rfl⟩ rfl rfl rfl rfl rfl (by kernel_rfl) Try.func4 (by kernel_rfl)
    (of_decide_eq_true (by kernel_rfl)) (by unfold Func.isWrapper; first | (rw [if_pos (by decide +kernel)]; kernel_rfl) | (rw [if_neg (by decide +kernel)]; exact ⟨rfl, rfl⟩))
    (fun os started H enc _ F0 => packetLimits_lifted os started H enc F0)
#print axioms packetLimits_holds

end Go.Proofs.Ytkkhbmpcpilmfaa
