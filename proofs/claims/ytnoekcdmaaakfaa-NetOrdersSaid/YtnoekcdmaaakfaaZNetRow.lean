/- Mails, nets and turns among a law's arguments. -/
import Derived.Test.YtnoekcdmaaakfaaZNetM
import Derived.Test.YtnoekcdmaaakfaaZVLOpenB
set_option linter.unusedVariables false
set_option linter.unusedSimpArgs false
set_option linter.constructorNameAsVariable false
set_option maxRecDepth 10000
namespace Go.Proofs.Ytnoekcdmaaakfaa.VL
open Go Go.RowKit Go.Lib Go.ChangeShapes Go.WideShapes
variable {H : Type} {enc : TypeId × Value → H}

theorem opens_ml {W : World} : Opens enc Try.prog W 33 3 mlC (fun _ => True) :=
  (Opens.struct Try.underlying33 (by kernel_rfl) (.cons rfl (.int Try.underlying3 (by kernel_rfl)) (.cons rfl (.int Try.underlying3 (by kernel_rfl)) (.last rfl (.bytes Try.underlying31 Try.underlying5 (by kernel_rfl) (by kernel_rfl)))))).conv
    (fun p => ⟨p.1, p.2.1, p.2.2⟩) (fun a h => ⟨rfl, trivial⟩)
theorem rep_mails {W : World} {b0 : Nat} {v : Value} {d : DataW H} {ps : List MemPlace} (hval : Value.okWide Try.prog W .any b0 22 v) (hd : DataW.Trod enc Try.prog W 0 (fun _ => true) true 22 v d ps) :
    ∃ l : List Ml, Rep W [] noP (.lst 3 (mlG l)) v ∧ (∀ t ∈ l, True) ∧ l.length ≤ 9223372036854775807 :=
  (Opens.slice Try.underlying22 (by kernel_rfl) (by decide) opens_ml).sl Try.underlying22 hval hd

end Go.Proofs.Ytnoekcdmaaakfaa.VL
