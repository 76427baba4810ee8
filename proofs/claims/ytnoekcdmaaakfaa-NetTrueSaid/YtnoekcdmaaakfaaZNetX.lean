/- Layer 25: a net is the same as itself. -/
import Derived.Test.YtnoekcdmaaakfaaZNetP
-- STEPWISE
-- WK
set_option linter.unusedVariables false
set_option linter.unusedSimpArgs false
set_option maxRecDepth 10000
namespace Go.Proofs.Ytnoekcdmaaakfaa.VL
open Go Go.RowKit Go.Lib

set_option maxHeartbeats 8000000 in
theorem refSame_spec (n : Nt) (hl : n.fl.length ≤ 9223372036854775807) (hc : n.cu.length ≤ 9223372036854775807) (H : List Box) : ASpec Try.prog 19 [ntV n, ntV n] H (Gives (vb true) H) := by
  obtain ⟨fl, cu⟩ := n
  dsimp only at *
  refine ASpec.enter Try.func19 rfl (fun a w => Try.call19 a w) Try.ntmps19 Try.results19 fun base w β hI => ?_
  refine wk wT (wA DrM.mk wT) ?_
  refine AWP.loop (ι := {i : Nat // i ≤ fl.length})
    (fun p => ⟨[(2, .ptr H.length 0 0), (3, .ptr (H.length + 1) 0 0), (5, vi p.1)], H ++ [⟨ntC ⟨fl, cu⟩, 0, 0, false⟩, ⟨ntC ⟨fl, cu⟩, 0, 0, false⟩]⟩) (fun p => fl.length - p.1) ⟨0, Nat.zero_le _⟩ ?_ ?_
  · dsimp only
    exact Coe.kp
  · rintro ⟨i, hi⟩
    dsimp only
    by_cases hc : (i : Int) < (fl.length : Int)
    · have hg : fl[i]? = some fl[i] := List.getElem?_eq_getElem (by omega)
      generalize fl[i] = m at hg
      have hs := fun H => sameMail_spec m m H
      rw [decide_eq_true rfl] at hs
      obtain ⟨f, t, d⟩ := m
      refine wk (wA hc (wA hg wT)) (wA hs (wA DrM.mk wT)) ?_
      refine ⟨⟨i + 1, by omega⟩, ?_, by dsimp only; omega⟩
      dsimp only
      exact Coe.kp
    · refine wk (wA hc wT) (wA DrM.mk wT) ?_
      refine AWP.loop (ι := {i : Nat // i ≤ cu.length})
        (fun p => ⟨[(2, .ptr H.length 0 0), (3, .ptr (H.length + 1) 0 0), (6, vi p.1)], H ++ [⟨ntC ⟨fl, cu⟩, 0, 0, false⟩, ⟨ntC ⟨fl, cu⟩, 0, 0, false⟩]⟩) (fun p => cu.length - p.1) ⟨0, Nat.zero_le _⟩ ?_ ?_
      · dsimp only
        exact Coe.kp
      · rintro ⟨j, hj⟩
        dsimp only
        by_cases hc : (j : Int) < (cu.length : Int)
        · have hg : cu[j]? = some cu[j] := List.getElem?_eq_getElem (by omega)
          generalize cu[j] = c at hg
          obtain ⟨a, b⟩ := c
          refine wk (wA hc (wA hg wT)) (wA DrM.mk wT) ?_
          refine ⟨⟨j + 1, by omega⟩, ?_, by dsimp only; omega⟩
          dsimp only
          exact Coe.kp
        · refine wk (wA hc wT) (wA DrM.mk wT) ?_
          refine wkEnd wT ?_
          exact Fin.cut (.v _) ⟨rfl, rfl⟩

end Go.Proofs.Ytnoekcdmaaakfaa.VL
