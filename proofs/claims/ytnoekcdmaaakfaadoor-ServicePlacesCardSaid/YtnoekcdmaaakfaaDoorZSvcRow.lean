/- Services, and tables, among a law's arguments. -/
import Derived.Test.YtnoekcdmaaakfaaDoorZSvcN
import Derived.Test.YtnoekcdmaaakfaaDoorZSvcO
import Derived.Test.YtnoekcdmaaakfaaDoorZCf
set_option linter.unusedVariables false
set_option linter.unusedSimpArgs false
set_option linter.constructorNameAsVariable false
set_option maxRecDepth 10000
namespace Go.Proofs.YtnoekcdmaaakfaaDoor.VL
open Go Go.RowKit Go.Lib Go.ChangeShapes Go.WideShapes
variable {H : Type} {enc : TypeId × Value → H}

theorem opens_sv {W : World} : Opens enc Tryd.prog W 23 6 svC (fun s => s.n.length ≤ 9223372036854775807 ∧ s.p.length ≤ 9223372036854775807) :=
  (Opens.struct Tryd.underlying23 (by kernel_rfl) (.cons rfl (.str Tryd.underlying9 (by kernel_rfl)) (.cons rfl (.str Tryd.underlying9 (by kernel_rfl)) (.cons rfl (.int Tryd.underlying3 (by kernel_rfl)) (.cons rfl (.int Tryd.underlying3 (by kernel_rfl)) (.cons rfl (.int Tryd.underlying3 (by kernel_rfl)) (.last rfl (.bool Tryd.underlying4 (by kernel_rfl))))))))).conv
    (fun p => (⟨p.1, p.2.1, p.2.2.1, p.2.2.2.1, p.2.2.2.2.1, p.2.2.2.2.2⟩ : Sv)) (fun a h => ⟨rfl, h.1, h.2.1⟩)
theorem rep_sv {W : World} {b0 : Nat} {v : Value} {d : DataW H} {ps : List MemPlace} (hval : Value.okWide Tryd.prog W .any b0 23 v) (hd : DataW.Trod enc Tryd.prog W 0 (fun _ => true) true 23 v d ps) :
    ∃ s : Sv, Rep W [] noP (.agg (svC s)) v ∧ s.n.length ≤ 9223372036854775807 ∧ s.p.length ≤ 9223372036854775807 :=
  opens_sv.agg (by kernel_rfl) hval hd
theorem opens_en {W : World} : Opens enc Tryd.prog W 40 3 enC (fun x => x.s.length ≤ 9223372036854775807) :=
  (Opens.struct Tryd.underlying40 (by kernel_rfl) (.cons rfl (.int Tryd.underlying3 (by kernel_rfl)) (.cons rfl (.int Tryd.underlying3 (by kernel_rfl)) (.last rfl (.str Tryd.underlying9 (by kernel_rfl)))))).conv
    (fun p => (⟨p.1, p.2.1, p.2.2⟩ : En)) (fun a h => ⟨rfl, h.2.2⟩)
theorem rep_ents {W : World} {b0 : Nat} {v : Value} {d : DataW H} {ps : List MemPlace} (hval : Value.okWide Tryd.prog W .any b0 33 v) (hd : DataW.Trod enc Tryd.prog W 0 (fun _ => true) true 33 v d ps) :
    ∃ l : List En, Rep W [] noP (.lst 3 (enG l)) v ∧ (∀ x ∈ l, x.s.length ≤ 9223372036854775807) ∧ l.length ≤ 9223372036854775807 :=
  (Opens.slice Tryd.underlying33 (by kernel_rfl) (by decide) opens_en).sl Tryd.underlying33 hval hd

end Go.Proofs.YtnoekcdmaaakfaaDoor.VL
