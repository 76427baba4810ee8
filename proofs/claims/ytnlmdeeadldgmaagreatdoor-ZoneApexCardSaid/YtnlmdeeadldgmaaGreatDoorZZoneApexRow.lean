/- Proved: whatever scene and type come in, the law ZoneApex returns true, and its arguments read as they did; the package variables that it names hold what the program's text lays (the card ties them). -/
import Derived.Test.YtnlmdeeadldgmaaGreatDoorZG36
import Derived.Test.YtnlmdeeadldgmaaGreatDoorZZonZB
import Derived.Test.YtnlmdeeadldgmaaGreatDoorCards
import Derived.Test.YtnlmdeeadldgmaaGreatDoorTie
import Derived.Lay
import Derived.MakeChecks
import Derived.SevenTiedAt
set_option linter.unusedVariables false
set_option linter.unusedSimpArgs false
namespace Go.Proofs.YtnlmdeeadldgmaaGreatDoor
open Go.ChangeShapes Go.WideShapes Go.ChangeAt Go.RowKit VL
theorem zoneApexOwn : ownKnob Tryz.prog.godebug = none := by kernel_rfl
theorem zoneApexLaid : laidOutB Tryz.prog = true := by kernel_rfl

set_option maxRecDepth 100000 in
theorem zoneApex_lifted (os : Os) (started : os.Started) (H : Type) (enc : TypeId × Value → H) :
    ReturnsInHanded {} Tryz.checked os 7 .any (fun w args => (Rows.zoneApexSpec.pre enc Tryz.prog Tryz.f7 [] false w args ∧ laidMetH Tryz.prog Rows.zoneApexRow.laid w) ∧ sizedMet enc Tryz.prog Tryz.f7 (OpenSpec.ofChange Rows.zoneApexSpec) false w args)
      (Rows.zoneApexSpec.post enc Tryz.prog Tryz.f7 false true false false) := by
  refine returnsInHanded_of_change_and (C := Tryz.checked) (X := fun w _ => laidMetH Tryz.prog Rows.zoneApexRow.laid w) (fun _ _ _ hh h => h.of_heap hh) zoneApexOwn started (by kernel_rfl) Tryz.func7
    (ChangeSpec.witness_shaped (enc := enc) (C := Tryz.checked) (os := os) (X := fun w _ => laidMetH Tryz.prog Rows.zoneApexRow.laid w) false (World.laidAll Tryz.prog os Rows.zoneApexRow.laid) #[.agg #[.slice none 0 0, .slice none 0 0, .string ⟨#[]⟩], .int .u8 0] 8 (World.laidAll_os _ _ _)
      (World.shaped_of_ZipB (by kernel_rfl) (by kernel_rfl)) (by kernel_rfl) (by kernel_rfl) (by kernel_rfl)
      (by rw [MakeChecks.laidMetH_plain _ _ _ (by kernel_rfl)]; exact laidMet_laidAll _ (by kernel_rfl) (by kernel_rfl))) ?_
  intro W base args ds gs before hval0 hW _ _ hL _
  have hval : ∀ (j : Nat) t v, Tryz.f7.params[j]? = some t → args[j]? = some v → Value.okWide Tryz.prog W .any base t v := hval0
  have hW' := hW
  obtain ⟨p, q, hA0, hV, _, _, _⟩ := hW
  obtain ⟨rfl, rfl⟩ := trodVars_none hV
  have hA : DataW.TrodAll enc Tryz.prog W 0 (fun _ => true) true Tryz.f7.params.toList args.toList ds p := hA0
  rw [Tryz.params7] at hA hval
  obtain ⟨v0, v1, d0, d1, p0, p1, rfl, rfl, rfl, h0, h1⟩ := trodAll_two hA
  obtain ⟨a0, r0, b0⟩ := rep_sc (hval 0 _ v0 rfl rfl) h0
  obtain ⟨a1, r1, b1⟩ := rep_int Tryz.underlying5 (hval 1 _ v1 rfl rfl) h1
  exact law_calls zoneApexLaid (by kernel_rfl) rfl hW' rfl Tryz.underlying4 rfl
    (reps_cons r0 (reps_cons r1 reps_nil)) (zoneApex_spec a0 a1 (by simpa [IntKind.min, IntKind.max, IntKind.signed, IntKind.bits] using b1.1) (by simpa [IntKind.min, IntKind.max, IntKind.signed, IntKind.bits] using b1.2) b0 []) (fun a w => Tryz.call7 a w)

theorem zoneApex_row : Rows.ZoneApexSaid :=
  OpenClaim.holds_of_wide 7 Tryz.f7 rfl rfl rfl rfl rfl rfl rfl ⟨rfl, rfl, rfl, rfl, rfl⟩ rfl rfl rfl rfl rfl (by kernel_rfl) Tryz.func7 (by kernel_rfl)
    (of_decide_eq_true (by kernel_rfl)) (by unfold Func.isWrapper; first | (rw [if_pos (by decide +kernel)]; kernel_rfl) | (rw [if_neg (by decide +kernel)]; exact ⟨rfl, rfl⟩))
    (fun os started H enc _ => zoneApex_lifted os started H enc)
theorem zoneApex_holds : Rows.ZoneApexCardSaid :=
  Claim7.holds_tied_plain_at .later [] [.data, .data, .data, .data, .pinned] true _ false zoneApex_row (fun _ h => by cases h) (by kernel_rfl) (fun _ h => by cases h) zoneApex_row_tie rfl ⟨rfl, rfl⟩ (by kernel_rfl) rfl
    (fun f fn hf hfn => by
      obtain rfl : f = 7 := Option.some.inj ((show Tryz.prog.funcNamed Rows.zoneApexRow.func = some 7 by kernel_rfl).symm.trans hf) |>.symm
      obtain rfl : fn = Tryz.f7 := (Option.some.inj (Tryz.func7.symm.trans hfn)).symm
      exact ⟨by kernel_rfl, fun j t ht => by
        rw [Tryz.params7] at ht
        have hm := Array.mem_of_getElem? ht
        have hall : (Tryz.f7.params.all fun u => !Tryz.prog.wantsStandIn u) = true := by kernel_rfl
        rw [Tryz.params7] at hall
        exact (show Tryz.prog.wantsStandIn t = false by simpa using Array.all_eq_true'.1 hall t hm)⟩)
    (by kernel_rfl)
#print axioms zoneApex_holds

end Go.Proofs.YtnlmdeeadldgmaaGreatDoor
