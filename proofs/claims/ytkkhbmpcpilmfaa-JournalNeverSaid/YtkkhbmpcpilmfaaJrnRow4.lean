/- Turns among a law's arguments. -/
import Derived.Test.YtkkhbmpcpilmfaaJrnT
import Derived.Test.YtkkhbmpcpilmfaaVLOpen
set_option linter.unusedVariables false
set_option linter.unusedSimpArgs false
set_option linter.constructorNameAsVariable false
set_option maxRecDepth 10000
namespace Go.Proofs.Ytkkhbmpcpilmfaa.VL
open Go Go.RowKit Go.Lib Go.ChangeShapes Go.WideShapes
variable {H : Type} {enc : TypeId × Value → H}

theorem opens_turn {W : World} : Opens enc Try.prog W 58 3 (fun t : Tn => [vb t.x, .v (.int .u8 t.f), vs t.n]) (fun t => 0 ≤ t.f ∧ t.f ≤ 255 ∧ t.n.length ≤ 9223372036854775807) :=
  (Opens.struct Try.underlying58 (by kernel_rfl) (.cons rfl (.bool Try.underlying4 (by kernel_rfl)) (.cons rfl (.int Try.underlying5 (by kernel_rfl)) (.last rfl (.str Try.underlying9 (by kernel_rfl)))))).conv
    (fun p => ⟨p.1, p.2.1, p.2.2⟩) (fun a h => ⟨rfl, by have := h.2.1; simp [IntKind.min, IntKind.max, IntKind.signed, IntKind.bits] at this; exact ⟨this.1, this.2, h.2.2⟩⟩)
theorem rep_turns {W : World} {b0 : Nat} {v : Value} {d : DataW H} {ps : List MemPlace} (hval : Value.okWide Try.prog W .any b0 47 v) (hd : DataW.Trod enc Try.prog W 0 (fun _ => true) true 47 v d ps) :
    ∃ l : List Tn, Rep W [] noP (.lst 3 (turnG l)) v ∧ (∀ t ∈ l, 0 ≤ t.f ∧ t.f ≤ 255 ∧ t.n.length ≤ 9223372036854775807) ∧ l.length ≤ 9223372036854775807 :=
  (Opens.slice Try.underlying47 (by kernel_rfl) (by decide) opens_turn).sl Try.underlying47 hval hd

end Go.Proofs.Ytkkhbmpcpilmfaa.VL
