/- Turns among a law's arguments. -/
import Derived.Test.YtnoekcdmaaakfaaZNetS
import Derived.Test.YtnoekcdmaaakfaaZVLOpenB
set_option linter.unusedVariables false
set_option linter.unusedSimpArgs false
set_option linter.constructorNameAsVariable false
set_option maxRecDepth 10000
namespace Go.Proofs.Ytnoekcdmaaakfaa.VL
open Go Go.RowKit Go.Lib Go.ChangeShapes Go.WideShapes
variable {H : Type} {enc : TypeId × Value → H}

theorem Opens.u8 {W : World} {t : TypeId} (ht : Try.prog.underlying t = some (.int .u8)) (hc : Try.prog.cellsOf t = 1) : Opens enc Try.prog W t 1 (fun n : Int => [AV.v (.int .u8 n)]) (fun n => 0 ≤ n ∧ n ≤ 255) :=
  (Opens.int ht hc).conv id fun a h => ⟨rfl, by simpa [IntKind.min, IntKind.max, IntKind.signed, IntKind.bits] using h⟩
theorem opens_tu {W : World} : Opens enc Try.prog W 46 4 tuC t8 :=
  (Opens.struct Try.underlying46 (by kernel_rfl) (.cons rfl (.u8 Try.underlying5 (by kernel_rfl)) (.cons rfl (.u8 Try.underlying5 (by kernel_rfl)) (.cons rfl (.u8 Try.underlying5 (by kernel_rfl)) (.last rfl (.bytes Try.underlying31 Try.underlying5 (by kernel_rfl) (by kernel_rfl))))))).conv
    (fun p => ⟨p.1, p.2.1, p.2.2.1, p.2.2.2⟩) (fun a h => ⟨rfl, h.1, h.2.1, h.2.2.1⟩)
theorem rep_deeds {W : World} {b0 : Nat} {v : Value} {d : DataW H} {ps : List MemPlace} (hval : Value.okWide Try.prog W .any b0 44 v) (hd : DataW.Trod enc Try.prog W 0 (fun _ => true) true 44 v d ps) :
    ∃ l : List Tu, Rep W [] noP (.lst 4 (tuG l)) v ∧ (∀ t ∈ l, t8 t) ∧ l.length ≤ 9223372036854775807 :=
  (Opens.slice Try.underlying44 (by kernel_rfl) (by decide) opens_tu).sl Try.underlying44 hval hd

end Go.Proofs.Ytnoekcdmaaakfaa.VL
