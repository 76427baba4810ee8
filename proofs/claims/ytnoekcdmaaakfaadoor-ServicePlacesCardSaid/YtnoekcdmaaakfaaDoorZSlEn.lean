/- The library's search in a row: []bellwether/api.Entry. -/
import Derived.Test.YtnoekcdmaaakfaaDoorZEntM
import Derived.Test.YtnoekcdmaaakfaaDoorZVLIx
import Derived.Test.YtnoekcdmaaakfaaDoorZCd
-- STEPWISE
-- WK
set_option linter.unusedVariables false
set_option linter.unusedSimpArgs false
set_option maxRecDepth 10000
namespace Go.Proofs.YtnoekcdmaaakfaaDoor.VL
open Go Go.RowKit Go.Lib

set_option maxHeartbeats 1000000 in
theorem ixFEn_spec (f : En → Bool) (fid : FuncId) (caps : List AV) (l : List En) (hl : l.length ≤ 9223372036854775807) (H : List Box) (hf : ∀ x, x ∈ l → ASpec Tryd.prog fid (.agg (enC x) :: caps) H (Gives (vb (f x)) H)) :
    ASpec Tryd.prog 56 [.lst 3 (enG l), .fn fid caps] H (Gives (vi (ixOf f l 0)) H) := by
  refine ASpec.enter Tryd.func56 rfl (fun a w => Tryd.call56 a w) Tryd.ntmps56 Tryd.results56 fun base w β hI => ?_
  refine wk wT (wA DrM.mk wT) ?_
  refine AWP.loop (ι := {i : Nat // i ≤ l.length ∧ ixOf f l 0 = ixOf f (l.drop i) i}) (fun p => ⟨[(0, .lst 3 (enG l)), (1, .fn fid caps), (7, vi l.length), (8, vi p.1)], H⟩) (fun p => l.length - p.1) ⟨0, Nat.zero_le _, by rw [List.drop_zero]⟩ ?_ ?_
  · dsimp only
    exact Coe.kp
  · rintro ⟨i, hi, he⟩
    dsimp only
    by_cases hc : (i : Int) < (l.length : Int)
    · have hg : l[i]? = some l[i] := List.getElem?_eq_getElem (by omega)
      have hs := hf l[i] (List.getElem_mem _)
      generalize l[i] = x at hg hs
      rw [ixOf_drop _ hg] at he
      by_cases hx : f x = true
      · rw [if_pos hx] at he
        rw [hx] at hs
        rw [he]
        obtain ⟨xk, xv, xs⟩ := x
        refine wk (wA hc (wA hg wT)) (wA hs (wA DrM.mk wT)) ?_
        refine wkEnd wT ?_
        exact Fin.same ⟨rfl, rfl⟩
      · rw [if_neg hx] at he
        rw [Bool.not_eq_true _ |>.mp hx] at hs
        obtain ⟨xk, xv, xs⟩ := x
        refine wk (wA hc (wA hg wT)) (wA hs (wA DrM.mk wT)) ?_
        refine ⟨⟨i + 1, by omega, he⟩, ?_, by dsimp only; omega⟩
        dsimp only
        exact Coe.kp
    · rw [List.drop_of_length_le (by omega)] at he
      rw [he]
      refine wk (wA hc wT) (wA DrM.mk wT) ?_
      refine wkEnd wT ?_
      exact Fin.same ⟨rfl, rfl⟩
end Go.Proofs.YtnoekcdmaaakfaaDoor.VL
