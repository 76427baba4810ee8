/- Proved: whatever scene, name and type come in, the law ZoneLetters returns true, and its arguments read as they did; the package variables that it names hold what the program's text lays (the card ties them). -/
import Derived.Test.YtnlmdeeadldgmaaGreatDoorZG36
import Derived.Test.YtnlmdeeadldgmaaGreatDoorZZonZB
import Derived.Test.YtnlmdeeadldgmaaGreatDoorCards
import Derived.Test.YtnlmdeeadldgmaaGreatDoorTie
import Derived.Lay
import Derived.MakeChecks
import Derived.SevenTiedAt
set_option linter.unusedVariables false
set_option linter.unusedSimpArgs false
namespace Go.Proofs.YtnlmdeeadldgmaaGreatDoor
open Go.ChangeShapes Go.WideShapes Go.ChangeAt Go.RowKit VL
theorem zoneLettersOwn : ownKnob Tryz.prog.godebug = none := by kernel_rfl
theorem zoneLettersLaid : laidOutB Tryz.prog = true := by kernel_rfl

set_option maxRecDepth 100000 in
theorem zoneLetters_lifted (os : Os) (started : os.Started) (H : Type) (enc : TypeId × Value → H) :
    ReturnsInHanded {} Tryz.checked os 5 .any (fun w args => (Rows.zoneLettersSpec.pre enc Tryz.prog Tryz.f5 [] false w args ∧ laidMetH Tryz.prog Rows.zoneLettersRow.laid w) ∧ sizedMet enc Tryz.prog Tryz.f5 (OpenSpec.ofChange Rows.zoneLettersSpec) false w args)
      (Rows.zoneLettersSpec.post enc Tryz.prog Tryz.f5 false true false false) := by
  refine returnsInHanded_of_change_and (C := Tryz.checked) (X := fun w _ => laidMetH Tryz.prog Rows.zoneLettersRow.laid w) (fun _ _ _ hh h => h.of_heap hh) zoneLettersOwn started (by kernel_rfl) Tryz.func5
    (ChangeSpec.witness_shaped (enc := enc) (C := Tryz.checked) (os := os) (X := fun w _ => laidMetH Tryz.prog Rows.zoneLettersRow.laid w) false (World.laidAll Tryz.prog os Rows.zoneLettersRow.laid) #[.agg #[.slice none 0 0, .slice none 0 0, .string ⟨#[]⟩], .string ⟨#[]⟩, .int .u8 0] 8 (World.laidAll_os _ _ _)
      (World.shaped_of_ZipB (by kernel_rfl) (by kernel_rfl)) (by kernel_rfl) (by kernel_rfl) (by kernel_rfl)
      (by rw [MakeChecks.laidMetH_plain _ _ _ (by kernel_rfl)]; exact laidMet_laidAll _ (by kernel_rfl) (by kernel_rfl))) ?_
  intro W base args ds gs before hval0 hW _ _ hL _
  have hval : ∀ (j : Nat) t v, Tryz.f5.params[j]? = some t → args[j]? = some v → Value.okWide Tryz.prog W .any base t v := hval0
  have hW' := hW
  obtain ⟨p, q, hA0, hV, _, _, _⟩ := hW
  obtain ⟨rfl, rfl⟩ := trodVars_none hV
  have hA : DataW.TrodAll enc Tryz.prog W 0 (fun _ => true) true Tryz.f5.params.toList args.toList ds p := hA0
  rw [Tryz.params5] at hA hval
  obtain ⟨v0, v1, v2, d0, d1, d2, p0, p1, p2, rfl, rfl, rfl, h0, h1, h2⟩ := trodAll_three hA
  obtain ⟨a0, r0, b0⟩ := rep_sc (hval 0 _ v0 rfl rfl) h0
  obtain ⟨a1, r1, b1⟩ := rep_string Tryz.underlying9 (hval 1 _ v1 rfl rfl) h1
  obtain ⟨a2, r2, b2⟩ := rep_int Tryz.underlying5 (hval 2 _ v2 rfl rfl) h2
  exact law_calls zoneLettersLaid (by kernel_rfl) rfl hW' rfl Tryz.underlying4 rfl
    (reps_cons r0 (reps_cons r1 (reps_cons r2 reps_nil))) (zoneLetters_spec a0 a1 a2 (by simpa [IntKind.min, IntKind.max, IntKind.signed, IntKind.bits] using b2.1) (by simpa [IntKind.min, IntKind.max, IntKind.signed, IntKind.bits] using b2.2) b0 b1 []) (fun a w => Tryz.call5 a w)

theorem zoneLetters_row : Rows.ZoneLettersSaid :=
  OpenClaim.holds_of_wide 5 Tryz.f5 rfl rfl rfl rfl rfl rfl rfl ⟨rfl, rfl, rfl, rfl, rfl⟩ rfl rfl rfl rfl rfl (by kernel_rfl) Tryz.func5 (by kernel_rfl)
    (of_decide_eq_true (by kernel_rfl)) (by unfold Func.isWrapper; first | (rw [if_pos (by decide +kernel)]; kernel_rfl) | (rw [if_neg (by decide +kernel)]; exact ⟨rfl, rfl⟩))
    (fun os started H enc _ => zoneLetters_lifted os started H enc)
theorem zoneLetters_holds : Rows.ZoneLettersCardSaid :=
  Claim7.holds_tied_plain_at .later [] [.data, .data, .data, .data, .pinned] true _ false zoneLetters_row (fun _ h => by cases h) (by kernel_rfl) (fun _ h => by cases h) zoneLetters_row_tie rfl ⟨rfl, rfl⟩ (by kernel_rfl) rfl
    (fun f fn hf hfn => by
      obtain rfl : f = 5 := Option.some.inj ((show Tryz.prog.funcNamed Rows.zoneLettersRow.func = some 5 by kernel_rfl).symm.trans hf) |>.symm
      obtain rfl : fn = Tryz.f5 := (Option.some.inj (Tryz.func5.symm.trans hfn)).symm
      exact ⟨by kernel_rfl, fun j t ht => by
        rw [Tryz.params5] at ht
        have hm := Array.mem_of_getElem? ht
        have hall : (Tryz.f5.params.all fun u => !Tryz.prog.wantsStandIn u) = true := by kernel_rfl
        rw [Tryz.params5] at hall
        exact (show Tryz.prog.wantsStandIn t = false by simpa using Array.all_eq_true'.1 hall t hm)⟩)
    (by kernel_rfl)
#print axioms zoneLetters_holds

end Go.Proofs.YtnlmdeeadldgmaaGreatDoor
