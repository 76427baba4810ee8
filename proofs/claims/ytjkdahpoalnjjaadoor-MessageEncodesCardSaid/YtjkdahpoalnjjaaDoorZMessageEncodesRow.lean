/- Proved: whatever two talks and a kind come in, the law MessageEncodes returns true, and its arguments read as they did; the package variables that it names hold what the program's text lays (the card ties them). -/
import Derived.Test.YtjkdahpoalnjjaaDoorZRr
import Derived.Test.YtjkdahpoalnjjaaDoorZMsgLC
import Derived.Test.YtjkdahpoalnjjaaDoorZCf
import Derived.Test.YtjkdahpoalnjjaaDoorCards
import Derived.Test.YtjkdahpoalnjjaaDoorTie
import Derived.Lay
import Derived.MakeChecks
import Derived.SevenTiedAt
set_option linter.unusedVariables false
set_option linter.unusedSimpArgs false
namespace Go.Proofs.YtjkdahpoalnjjaaDoor
open Go.ChangeShapes Go.WideShapes Go.ChangeAt Go.RowKit VL
theorem messageEncodesOwn : ownKnob Tryd.prog.godebug = none := by kernel_rfl
theorem messageEncodesLaid : laidOutB Tryd.prog = true := by kernel_rfl

set_option maxRecDepth 100000 in
theorem messageEncodes_lifted (os : Os) (started : os.Started) (H : Type) (enc : TypeId × Value → H) :
    ReturnsInHanded {} Tryd.checked os 8 .any (fun w args => (Rows.messageEncodesSpec.pre enc Tryd.prog Tryd.f8 [] false w args ∧ laidMetH Tryd.prog Rows.messageEncodesRow.laid w) ∧ sizedMet enc Tryd.prog Tryd.f8 (OpenSpec.ofChange Rows.messageEncodesSpec) false w args)
      (Rows.messageEncodesSpec.post enc Tryd.prog Tryd.f8 false true false false) := by
  refine returnsInHanded_of_change_and (C := Tryd.checked) (X := fun w _ => laidMetH Tryd.prog Rows.messageEncodesRow.laid w) (fun _ _ _ hh h => h.of_heap hh) messageEncodesOwn started (by kernel_rfl) Tryd.func8
    (ChangeSpec.witness_shaped (enc := enc) (C := Tryd.checked) (os := os) (X := fun w _ => laidMetH Tryd.prog Rows.messageEncodesRow.laid w) false (World.laidAll Tryd.prog os Rows.messageEncodesRow.laid) #[.agg #[.int .i64 0, .slice none 0 0, .slice none 0 0], .agg #[.int .i64 0, .slice none 0 0, .slice none 0 0], .int .i64 0] 8 (World.laidAll_os _ _ _)
      (World.shaped_of_ZipB (by kernel_rfl) (by kernel_rfl)) (by kernel_rfl) (by kernel_rfl) (by kernel_rfl)
      (by rw [MakeChecks.laidMetH_plain _ _ _ (by kernel_rfl)]; exact laidMet_laidAll _ (by kernel_rfl) (by kernel_rfl))) ?_
  intro W base args ds gs before hval0 hW _ _ hL _
  have hval : ∀ (j : Nat) t v, Tryd.f8.params[j]? = some t → args[j]? = some v → Value.okWide Tryd.prog W .any base t v := hval0
  have hW' := hW
  obtain ⟨p, q, hA0, hV, _, _, _⟩ := hW
  obtain ⟨rfl, rfl⟩ := trodVars_none hV
  have hA : DataW.TrodAll enc Tryd.prog W 0 (fun _ => true) true Tryd.f8.params.toList args.toList ds p := hA0
  rw [Tryd.params8] at hA hval
  obtain ⟨v0, v1, v2, d0, d1, d2, p0, p1, p2, rfl, rfl, rfl, h0, h1, h2⟩ := trodAll_three hA
  obtain ⟨a0, r0, b0⟩ := rep_tk (hval 0 _ v0 rfl rfl) h0
  obtain ⟨a1, r1, b1⟩ := rep_tk (hval 1 _ v1 rfl rfl) h1
  obtain ⟨a2, r2, b2⟩ := rep_int Tryd.underlying3 (hval 2 _ v2 rfl rfl) h2
  exact law_calls messageEncodesLaid (by kernel_rfl) rfl hW' rfl Tryd.underlying4 rfl
    (reps_cons r0 (reps_cons r1 (reps_cons r2 reps_nil))) (messageEncodes_spec a0 a1 b0 b1 a2 []) (fun a w => Tryd.call8 a w) (glob_of_laid hL)

theorem messageEncodes_row : Rows.MessageEncodesSaid :=
  OpenClaim.holds_of_wide 8 Tryd.f8 rfl rfl rfl rfl rfl rfl rfl ⟨rfl, rfl, rfl, rfl, rfl⟩ rfl rfl rfl rfl rfl (by kernel_rfl) Tryd.func8 (by kernel_rfl)
    (of_decide_eq_true (by kernel_rfl)) (by unfold Func.isWrapper; first | (rw [if_pos (by decide +kernel)]; kernel_rfl) | (rw [if_neg (by decide +kernel)]; exact ⟨rfl, rfl⟩))
    (fun os started H enc _ => messageEncodes_lifted os started H enc)
theorem messageEncodes_holds : Rows.MessageEncodesCardSaid :=
  Claim7.holds_tied_plain_at .later [] [.data] true _ true messageEncodes_row (fun _ h => by cases h) (by kernel_rfl) (fun _ h => by cases h) messageEncodes_row_tie rfl ⟨rfl, rfl⟩ (by kernel_rfl) rfl
    (fun f fn hf hfn => by
      obtain rfl : f = 8 := Option.some.inj ((show Tryd.prog.funcNamed Rows.messageEncodesRow.func = some 8 by kernel_rfl).symm.trans hf) |>.symm
      obtain rfl : fn = Tryd.f8 := (Option.some.inj (Tryd.func8.symm.trans hfn)).symm
      exact ⟨by kernel_rfl, fun j t ht => by
        rw [Tryd.params8] at ht
        have hm := Array.mem_of_getElem? ht
        have hall : (Tryd.f8.params.all fun u => !Tryd.prog.wantsStandIn u) = true := by kernel_rfl
        rw [Tryd.params8] at hall
        exact (show Tryd.prog.wantsStandIn t = false by simpa using Array.all_eq_true'.1 hall t hm)⟩)
    (by kernel_rfl)
#print axioms messageEncodes_holds

end Go.Proofs.YtjkdahpoalnjjaaDoor
