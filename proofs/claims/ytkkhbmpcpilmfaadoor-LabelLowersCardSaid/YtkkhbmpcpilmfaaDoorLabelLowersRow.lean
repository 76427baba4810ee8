/- Proved: whatever name come in, the law LabelLowers returns true, and its arguments read as they did; the package variables that it names hold what the program's text lays (the card ties them). -/
import Derived.Test.YtkkhbmpcpilmfaaDoorLabI
import Derived.Test.YtkkhbmpcpilmfaaDoorVLOpen
import Derived.Test.YtkkhbmpcpilmfaaDoorCards
import Derived.Test.YtkkhbmpcpilmfaaDoorTie
import Derived.Lay
import Derived.MakeChecks
import Derived.SevenTiedAt
set_option linter.unusedVariables false
set_option linter.unusedSimpArgs false
namespace Go.Proofs.YtkkhbmpcpilmfaaDoor
open Go.ChangeShapes Go.WideShapes Go.ChangeAt Go.RowKit VL
theorem labelLowersOwn : ownKnob Tryd.prog.godebug = none := by kernel_rfl
theorem labelLowersLaid : laidOutB Tryd.prog = true := by kernel_rfl

set_option maxRecDepth 100000 in
theorem labelLowers_lifted (os : Os) (started : os.Started) (H : Type) (enc : TypeId × Value → H) :
    ReturnsInHanded {} Tryd.checked os 7 .any (fun w args => (Rows.labelLowersSpec.pre enc Tryd.prog Tryd.f7 [] false w args ∧ laidMetH Tryd.prog Rows.labelLowersRow.laid w) ∧ sizedMet enc Tryd.prog Tryd.f7 (OpenSpec.ofChange Rows.labelLowersSpec) false w args)
      (Rows.labelLowersSpec.post enc Tryd.prog Tryd.f7 false true false false) := by
  refine returnsInHanded_of_change_and (C := Tryd.checked) (X := fun w _ => laidMetH Tryd.prog Rows.labelLowersRow.laid w) (fun _ _ _ hh h => h.of_heap hh) labelLowersOwn started (by kernel_rfl) Tryd.func7
    (ChangeSpec.witness_shaped (enc := enc) (C := Tryd.checked) (os := os) (X := fun w _ => laidMetH Tryd.prog Rows.labelLowersRow.laid w) false (World.laidAll Tryd.prog os Rows.labelLowersRow.laid) #[.string ⟨#[]⟩] 8 (World.laidAll_os _ _ _)
      (World.shaped_of_ZipB (by kernel_rfl) (by kernel_rfl)) (by kernel_rfl) (by kernel_rfl) (by kernel_rfl)
      (by rw [MakeChecks.laidMetH_plain _ _ _ (by kernel_rfl)]; exact laidMet_laidAll _ (by kernel_rfl) (by kernel_rfl))) ?_
  intro W base args ds gs before hval0 hW _ _ hL _
  have hval : ∀ (j : Nat) t v, Tryd.f7.params[j]? = some t → args[j]? = some v → Value.okWide Tryd.prog W .any base t v := hval0
  have hW' := hW
  obtain ⟨p, q, hA0, hV, _, _, _⟩ := hW
  obtain ⟨rfl, rfl⟩ := trodVars_none hV
  have hA : DataW.TrodAll enc Tryd.prog W 0 (fun _ => true) true Tryd.f7.params.toList args.toList ds p := hA0
  rw [Tryd.params7] at hA hval
  obtain ⟨v0, d0, rfl, rfl, h0⟩ := trodAll_one hA
  obtain ⟨a0, r0, b0⟩ := rep_string Tryd.underlying9 (hval 0 _ v0 rfl rfl) h0
  exact law_calls labelLowersLaid (by kernel_rfl) rfl hW' rfl Tryd.underlying4 rfl
    (reps_cons r0 reps_nil) (labelLowers_spec a0 b0 []) (fun a w => Tryd.call7 a w)

theorem labelLowers_row : Rows.LabelLowersSaid :=
  OpenClaim.holds_of_wide 7 Tryd.f7 rfl rfl rfl rfl rfl rfl rfl ⟨rfl, rfl, rfl, rfl, rfl⟩ rfl rfl rfl rfl rfl (by kernel_rfl) Tryd.func7 (by kernel_rfl)
    (of_decide_eq_true (by kernel_rfl)) (by unfold Func.isWrapper; first | (rw [if_pos (by decide +kernel)]; kernel_rfl) | (rw [if_neg (by decide +kernel)]; exact ⟨rfl, rfl⟩))
    (fun os started H enc _ => labelLowers_lifted os started H enc)
theorem labelLowers_holds : Rows.LabelLowersCardSaid :=
  Claim7.holds_tied_plain_at .later [] [.data, .pinned] true _ false labelLowers_row (fun _ h => by cases h) (by kernel_rfl) (fun _ h => by cases h) labelLowers_row_tie rfl ⟨rfl, rfl⟩ (by kernel_rfl) rfl
    (fun f fn hf hfn => by
      obtain rfl : f = 7 := Option.some.inj ((show Tryd.prog.funcNamed Rows.labelLowersRow.func = some 7 by kernel_rfl).symm.trans hf) |>.symm
      obtain rfl : fn = Tryd.f7 := (Option.some.inj (Tryd.func7.symm.trans hfn)).symm
      exact ⟨by kernel_rfl, fun j t ht => by
        rw [Tryd.params7] at ht
        have hm := Array.mem_of_getElem? ht
        have hall : (Tryd.f7.params.all fun u => !Tryd.prog.wantsStandIn u) = true := by kernel_rfl
        rw [Tryd.params7] at hall
        exact (show Tryd.prog.wantsStandIn t = false by simpa using Array.all_eq_true'.1 hall t hm)⟩)
    (by kernel_rfl)
#print axioms labelLowers_holds

end Go.Proofs.YtkkhbmpcpilmfaaDoor
