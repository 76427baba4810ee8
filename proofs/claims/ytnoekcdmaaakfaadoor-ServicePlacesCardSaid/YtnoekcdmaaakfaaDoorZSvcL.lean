/- Layer 15: the laws. -/
import Derived.Test.YtnoekcdmaaakfaaDoorZSvcJ
import Derived.Test.YtnoekcdmaaakfaaDoorZSvcP
import Derived.Test.YtnoekcdmaaakfaaDoorZSvcF
import Derived.Test.YtnoekcdmaaakfaaDoorZEntC
-- STEPWISE
-- WK
set_option linter.unusedVariables false
set_option linter.unusedSimpArgs false
set_option maxRecDepth 10000
namespace Go.Proofs.YtnoekcdmaaakfaaDoor.VL
open Go Go.RowKit Go.Lib

def httpS : Sv := ⟨[104, 116, 116, 112], [116, 99, 112], 80, 0, 0, true⟩
def httpB : List UInt8 := [4, 104, 116, 116, 112, 3, 116, 99, 112, 80, 0, 0, 1]
def twoE : List En := [⟨0, 0, [117, 112]⟩, ⟨3, 0, httpB⟩]

set_option maxHeartbeats 4000000 in
theorem alive15_spec (H : List Box) : ASpec Tryd.prog 6 [] H (Gives (vb true) H) := by
  have h1 : ∀ H, ASpec Tryd.prog 7 [.agg [vs [104, 116, 116, 112], vs [116, 99, 112], vi 80, vi 0, vi 0, vb true]] H (Gives (.tup [vs [4, 104, 116, 116, 112, 3, 116, 99, 112, 80, 0, 0, 1], vi 0]) H) := fun H => by
    have e : encS httpS = (httpB, 0) := by decide +kernel
    have := encode_spec httpS (by decide) (by decide) H
    rw [e] at this
    exact this
  have h2 : ∀ H, ASpec Tryd.prog 9 [vs [4, 104, 116, 116, 112, 3, 116, 99, 112, 80, 0, 0, 1]] H (Gives (.tup [.agg [vs [104, 116, 116, 112], vs [116, 99, 112], vi 80, vi 0, vi 0, vb true], vi 0]) H) := fun H => by
    have e : decS httpB = (httpS, 0) := by decide +kernel
    have := decode_spec httpB (by decide) H
    rw [e] at this
    exact this
  have h3 : ∀ H, ASpec Tryd.prog 17 [.lst 3 [[vi 0, vi 0, vs [117, 112]], [vi 3, vi 0, vs [4, 104, 116, 116, 112, 3, 116, 99, 112, 80, 0, 0, 1]]], vs [104, 116, 116, 112], vs [116, 99, 112]] H (Gives (.tup [vi 3, vb true]) H) := fun H => by
    have e : keyS httpS.n httpS.p (prs twoE) = (3, true) := by decide +kernel
    have := key_spec twoE httpS.n httpS.p (by decide) (by decide) H
    rw [e] at this
    exact this
  have h4 : ∀ H, ASpec Tryd.prog 18 [.lst 3 [[vi 0, vi 0, vs [117, 112]], [vi 3, vi 0, vs [4, 104, 116, 116, 112, 3, 116, 99, 112, 80, 0, 0, 1]]]] H (Gives (.tup [vi 4, vb true]) H) := fun H => by
    have e : placeS twoE = (4, true) := by decide +kernel
    have := placeS_spec twoE (by decide) H
    rw [e] at this
    exact this
  have h5 : ∀ H, ASpec Tryd.prog 21 [.lst 3 [[vi 0, vi 0, vs [117, 112]], [vi 3, vi 0, vs [4, 104, 116, 116, 112, 3, 116, 99, 112, 80, 0, 0, 1]]]] H (Gives (vb true) H) := fun H => by
    have e : upE twoE = true := by decide +kernel
    have := up_spec twoE (by decide) H
    rw [e] at this
    exact this
  have h6 : ∀ H, ASpec Tryd.prog 20 [.lst 3 [[vi 0, vi 0, vs [117, 112]], [vi 3, vi 0, vs [4, 104, 116, 116, 112, 3, 116, 99, 112, 80, 0, 0, 1]]]] H (Gives (.lst 6 [[vs [104, 116, 116, 112], vs [116, 99, 112], vi 80, vi 0, vi 0, vb true]]) H) := fun H => by
    have e : allS twoE = [httpS] := by decide +kernel
    have := all_spec twoE (by decide) (by decide) H
    rw [e] at this
    exact this
  refine ASpec.enter Tryd.func6 rfl (fun a w => Tryd.call6 a w) Tryd.ntmps6 Tryd.results6 fun base w β hI => ?_
  refine wk wT (wA h1 (wA h2 (wA h3 (wA h4 (wA h5 (wA h6 (wA DrM.mk wT))))))) ?_
  refine wkEnd wT ?_
  exact Fin.cut (.v _) ⟨rfl, rfl⟩

end Go.Proofs.YtnoekcdmaaakfaaDoor.VL
