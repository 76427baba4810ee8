/- Proved: whatever bytes and name of bulk at most 1048576 come in, the law PacketNames returns true, and its arguments read as they did. -/
import Derived.Test.YtkkhbmpcpilmfaaZPktZ
import Derived.Test.YtkkhbmpcpilmfaaZCf
import Derived.Test.YtkkhbmpcpilmfaaRows
import Derived.JoinedCond
set_option linter.unusedVariables false
set_option linter.unusedSimpArgs false
namespace Go.Proofs.Ytkkhbmpcpilmfaa
open Go.ChangeShapes Go.WideShapes Go.ChangeAt Go.RowKit VL
theorem packetNamesOwn : ownKnob Try.prog.godebug = none := by kernel_rfl
theorem packetNamesLaid : laidOutB Try.prog = true := by kernel_rfl

set_option maxRecDepth 100000 in
theorem packetNames_lifted (os : Os) (started : os.Started) (H : Type) (enc : TypeId × Value → H) (F0 : Stop.Interp) :
    ReturnsInHanded {} Try.checked os 5 .any ((Rows.OpenSpec.upto Rows.packetNamesSpec).pre6 enc Try.prog Try.f5 Rows.packetNamesUptoRow.domain false) (((Rows.OpenSpec.upto Rows.packetNamesSpec).at F0).post enc Try.prog Try.f5 false true false false) := by
  refine returnsInHanded_of_cond (C := Try.checked) (s := Rows.OpenSpec.upto Rows.packetNamesSpec) (k := Rows.uptoSmall) rfl packetNamesOwn started (by kernel_rfl) Try.func5
    (OpenSpec.witness (enc := enc) (C := Try.checked) (s := Rows.OpenSpec.upto Rows.packetNamesSpec) (k := Rows.uptoSmall) rfl false ⟨#[], #[.slice none 0 0, .string ⟨#[]⟩], []⟩ 8 (by kernel_rfl) (by kernel_rfl) (by kernel_rfl)
      (x := ([.nil, .lit (.string [])], [], [])) (by kernel_rfl) (by kernel_rfl) (by kernel_rfl)) ?_
  intro W base args ds gs before hval0 hW _ hk _
  have hval : ∀ (j : Nat) t v, Try.f5.params[j]? = some t → args[j]? = some v → Value.okWide Try.prog W .any base t v := hval0
  have hW' := hW
  obtain ⟨p, q, hA0, hV, _, _, _⟩ := hW
  obtain ⟨rfl, rfl⟩ := trodVars_none hV
  have hA : DataW.TrodAll enc Try.prog W 0 (fun _ => true) true Try.f5.params.toList args.toList ds p := hA0
  rw [Try.params5] at hA hval
  obtain ⟨v0, v1, d0, d1, p0, p1, rfl, rfl, rfl, h0, h1⟩ := trodAll_two hA
  obtain ⟨a0, r0⟩ := rep_bytes Try.underlying29 Try.underlying5 rfl (hval 0 _ v0 rfl rfl) h0
  obtain ⟨s1, rfl, rfl, _, b1⟩ := ChangeMaps.open_string Try.underlying9 (hval 1 _ v1 rfl rfl) h1
  have hn : s1.data.toList.length ≤ 1048576 := by
    have hk' : Rows.uptoBulkAll [d0, .lit (.string s1.data.toList)] ≤ 1048576 := of_decide_eq_true hk
    simp only [Rows.uptoBulkAll, Rows.uptoBulk] at hk'
    omega
  have r1 : Rep W [] noP (vs s1.data.toList) (.string s1) := Rep.v _
  exact law_calls packetNamesLaid (by kernel_rfl) rfl hW' rfl Try.underlying4 rfl
    (reps_cons r0 (reps_cons r1 reps_nil)) (packetNames_spec a0 s1.data.toList hn []) (fun a w => Try.call5 a w)

theorem packetNames_holds : Rows.PacketNamesUptoSaid :=
  OpenClaim.holds_of_cond 5 Try.f5 rfl rfl rfl rfl rfl rfl rfl ⟨rfl, rfl, rfl, rfl, rfl⟩ rfl rfl rfl rfl rfl (by kernel_rfl) Try.func5 (by kernel_rfl)
    (of_decide_eq_true (by kernel_rfl)) (by unfold Func.isWrapper; first | (rw [if_pos (by decide +kernel)]; kernel_rfl) | (rw [if_neg (by decide +kernel)]; exact ⟨rfl, rfl⟩))
    (fun os started H enc _ F0 => packetNames_lifted os started H enc F0)
#print axioms packetNames_holds

end Go.Proofs.Ytkkhbmpcpilmfaa
