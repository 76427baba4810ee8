/- Layer 17: the law on names, for names that a machine holds. -/
import Derived.Test.YtkkhbmpcpilmfaaZCd
import Derived.Test.YtkkhbmpcpilmfaaZPktX
import Derived.Test.YtkkhbmpcpilmfaaZPf
import Derived.Test.YtkkhbmpcpilmfaaZLabB
import Derived.Test.YtkkhbmpcpilmfaaZPb
-- STEPWISE
-- WK
set_option linter.unusedVariables false
set_option linter.unusedSimpArgs false
set_option maxRecDepth 10000
namespace Go.Proofs.Ytkkhbmpcpilmfaa.VL
open Go Go.RowKit Go.Lib

set_option maxHeartbeats 8000000 in
theorem packetNames_spec (A n : List UInt8) (hn : n.length ≤ 1048576) (H : List Box) : ASpec Try.prog 5 [vB A, vs n] H (Gives (vb true) H) := by
  have ha := fun H => alive17_spec H
  have hr := fun H => refRight16_spec n (by omega) H
  by_cases h300 : (300 : Int) < (A.length : Int)
  · refine ASpec.enter Try.func5 rfl (fun a w => Try.call5 a w) Try.ntmps5 Try.results5 fun base w β hI => ?_
    refine wk (wA h300 wT) (wA ha wT) ?_
    refine wkEnd wT ?_
    exact Fin.same ⟨rfl, rfl⟩
  cases hl : (lab n).isSome with
  | false =>
    rw [hl] at hr
    refine ASpec.enter Try.func5 rfl (fun a w => Try.call5 a w) Try.ntmps5 Try.results5 fun base w β hI => ?_
    refine wk (wA h300 wT) (wA ha (wA hr wT)) ?_
    refine wkEnd wT ?_
    exact Fin.same ⟨rfl, rfl⟩
  | true =>
    rw [hl] at hr
    have hX : (UInt8.ofNat (192 + A.length / 256)).toNat = 192 + A.length / 256 := by rw [UInt8.toNat_ofNat']; omega
    have hY : (UInt8.ofNat (A.length % 256)).toNat = A.length % 256 := by rw [UInt8.toNat_ofNat']; omega
    have p1 := nmP_at A [UInt8.ofNat (192 + A.length / 256), UInt8.ofNat (A.length % 256)] hl
    have p2 := nmP_ptr A [] _ _ (A.length + n.length) hl hX hY rfl (by omega)
    generalize UInt8.ofNat (192 + A.length / 256) = X at *
    generalize UInt8.ofNat (A.length % 256) = Y at *
    have ex : (192 : Int) + (A.length : Int) / 256 = (X.toNat : Int) := by omega
    have ey : (A.length : Int) % 256 = (Y.toNat : Int) := by omega
    have e1 : bytesC (A ++ n) ++ [AV.v (.int .u8 (X.toNat : Int)), AV.v (.int .u8 (Y.toNat : Int))] = bytesC (A ++ (n ++ [X, Y])) := by simp [bytesC]
    have hBl : (A ++ (n ++ [X, Y])).length = A.length + n.length + 2 := by simp; omega
    have hn255 := (lab_len hl).2
    have n1 := fun H => pktName_spec (A ++ (n ++ [X, Y])) (by omega) (A.length : Int) H
    have n2 := fun H => pktName_spec (A ++ (n ++ [X, Y])) (by omega) ((A.length + n.length : Nat) : Int) H
    rw [p1] at n1
    rw [p2] at n2
    dsimp only [nmV] at n1 n2
    rw [show ((A.length + n.length + 2 : Nat) : Int) = ((A.length + n.length : Nat) : Int) + 2 from rfl] at n2
    have hvw : view 1 (A.length + n.length + 2) (bytesC (A ++ (n ++ [X, Y]))) = bytesG (A ++ (n ++ [X, Y])) := by rw [← hBl]; exact chunk_bytesC _ _ rfl
    generalize A ++ (n ++ [X, Y]) = B at *
    refine ASpec.enter Try.func5 rfl (fun a w => Try.call5 a w) Try.ntmps5 Try.results5 fun base w β hI => ?_
    repeat' (first
      | (refine AWP.seq ?_)
      | (refine AWP.block ?_)
      | (refine AWP.region_k fun Q' hQ' => ?_)
      | (refine AWP.draw_k rfl (by kernel_rfl) fun Q' hQ' => ?_)
      | (with_reducible refine aops.step fun T hT => ?_; simp (disch := omega) only [go_sem, Nat.reduceBEq, Nat.reduceLT, Nat.reduceEqDiff, reduceIte, Nat.reduceAdd, Nat.reduceMul, Nat.reduceSub, Nat.reduceLeDiff, Int.reduceToNat, Int.reducePow, Int.reduceLT, Int.reduceEq, Int.reduceNeg, Nat.reducePow, List.reduceReplicate, Int.reduceLE, h300, List.length_append, ex, ey, e1, eq_self, hBl, hvw, Nat.le_refl, true_and])
      | (with_reducible refine qops.step fun T hT => ?_; simp (disch := omega) only [go_sem, Nat.reduceBEq, Nat.reduceLT, Nat.reduceEqDiff, reduceIte, Nat.reduceAdd, Nat.reduceMul, Nat.reduceSub, Nat.reduceLeDiff, Int.reduceToNat, Int.reducePow, Int.reduceLT, Int.reduceEq, Int.reduceNeg, Nat.reducePow, List.reduceReplicate, Int.reduceLE, h300, List.length_append, ex, ey, e1, eq_self, hBl, hvw, Nat.le_refl, true_and])
      | (with_reducible refine aops.nil ?_)
      | (with_reducible refine qops.nil ?_)
      | (with_reducible refine hT _ ?_; clear hT T)
      | (refine AWP.skip ?_; try simp only [AExit.then, AExit.inBlock, reduceIte, Nat.reduceEqDiff])
      | (refine AWP.exit ?_; try simp only [AExit.then, AExit.inBlock, reduceIte, Nat.reduceEqDiff])
      | (refine AWP.ret ?_; try simp only [AExit.then, AExit.inBlock, reduceIte, Nat.reduceEqDiff])
      | (refine AWP.cond rfl (fun h => ?_) (fun h => ?_) <;> (try simp only [decide_eq_true_eq, decide_eq_false_iff_not, Bool.true_eq_false, Bool.false_eq_true] at h) <;> (try contradiction))
      | (refine hQ' _ _ ?_; clear hQ' Q'; try simp only [AExit.then, AExit.inBlock, reduceIte, Nat.reduceEqDiff])
      | (refine hQ' _ ?_; clear hQ' Q'; try simp only [AExit.then, AExit.inBlock, reduceIte, Nat.reduceEqDiff])
      | (with_reducible refine Branch.split (fun h => ?_) (fun h => ?_) <;> (try simp only [decide_eq_true_eq, decide_eq_false_iff_not, Bool.not_true, Bool.not_false, Bool.true_eq_false, Bool.false_eq_true] at h) <;> (try contradiction) <;> (simp (disch := omega) only [go_sem, Nat.reduceBEq, Nat.reduceLT, Nat.reduceEqDiff, reduceIte, Nat.reduceAdd, Nat.reduceMul, Nat.reduceSub, Nat.reduceLeDiff, Int.reduceToNat, Int.reducePow, Int.reduceLT, Int.reduceEq, Int.reduceNeg, Nat.reducePow, List.reduceReplicate, Int.reduceLE, h, h300, List.length_append, ex, ey, e1, eq_self, hBl, hvw, Nat.le_refl, true_and]))
      | (with_reducible intro h; try simp only [h, go_sem, Nat.reduceBEq, Nat.reduceLT, Nat.reduceEqDiff, reduceIte, Nat.reduceAdd, Nat.reduceMul, Nat.reduceSub, Nat.reduceLeDiff, Int.reduceToNat, Int.reducePow, Int.reduceLT, Int.reduceEq, Int.reduceNeg, Nat.reducePow, List.reduceReplicate, Int.reduceLE, h300, List.length_append, ex, ey, e1, eq_self, hBl, hvw, Nat.le_refl, true_and])
      | ((first | (with_reducible refine acall.det (ha _) ?_) | (with_reducible refine qcall.det (ha _) ?_) | (with_reducible refine acall.det (hr _) ?_) | (with_reducible refine qcall.det (hr _) ?_) | (with_reducible refine acall.det (n1 _) ?_) | (with_reducible refine qcall.det (n1 _) ?_) | (with_reducible refine acall.det (n2 _) ?_) | (with_reducible refine qcall.det (n2 _) ?_)); try simp (disch := omega) only [go_sem, Nat.reduceBEq, Nat.reduceLT, Nat.reduceEqDiff, reduceIte, Nat.reduceAdd, Nat.reduceMul, Nat.reduceSub, Nat.reduceLeDiff, Int.reduceToNat, Int.reducePow, Int.reduceLT, Int.reduceEq, Int.reduceNeg, Nat.reducePow, List.reduceReplicate, Int.reduceLE, h300, List.length_append, ex, ey, e1, eq_self, hBl, hvw, Nat.le_refl, true_and])
      | (with_reducible refine acall.em0 ?_)
      | (with_reducible refine acall.em1 ?_)
      | (with_reducible refine qcall.em0 ?_)
      | (with_reducible refine qcall.em1 ?_)
      | ((first | (with_reducible refine acall.fz0 ?_) | (with_reducible refine acall.fz1 ?_)); simp (disch := omega) only [go_sem, Nat.reduceBEq, Nat.reduceLT, Nat.reduceEqDiff, reduceIte, Nat.reduceAdd, Nat.reduceMul, Nat.reduceSub, Nat.reduceLeDiff, Int.reduceToNat, Int.reducePow, Int.reduceLT, Int.reduceEq, Int.reduceNeg, Nat.reducePow, List.reduceReplicate, Int.reduceLE, h300, List.length_append, ex, ey, e1, eq_self, hBl, hvw, Nat.le_refl, true_and]))
    refine wkEnd wT ?_
    exact Fin.cut (.v _) ⟨rfl, rfl⟩

end Go.Proofs.Ytkkhbmpcpilmfaa.VL
