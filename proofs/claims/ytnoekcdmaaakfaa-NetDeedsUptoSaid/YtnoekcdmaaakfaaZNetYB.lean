/- Layer 25: the document's net without a mail; mails lost and delivered. -/
import Derived.Test.YtnoekcdmaaakfaaZNetY
import Derived.Test.YtnoekcdmaaakfaaZNetV
-- STEPWISE
-- WK
-- HWR
-- HOLE 2 1 [(.new 8, []), (.same, [8]), (.same, [8]), (.same, [8]), (.same, [8]), (.wr 8, []), (.same, [8]), (.same, [8]), (.same, [8]), (.same, [8]), (.same, [8]), (.wr 8, []), (.same, [8]), (.wr 7, [])]
set_option linter.unusedVariables false
set_option linter.unusedSimpArgs false
set_option maxRecDepth 10000
namespace Go.Proofs.Ytnoekcdmaaakfaa.VL
open Go Go.RowKit Go.Lib

theorem holM_NetYB_2 : HolM 2 1 [(.new 8, []), (.same, [8]), (.same, [8]), (.same, [8]), (.same, [8]), (.wr 8, []), (.same, [8]), (.same, [8]), (.same, [8]), (.same, [8]), (.same, [8]), (.wr 8, []), (.same, [8]), (.wr 7, [])] := ⟨⟩

theorem chunk_take : ∀ (l : List Ml) (p : Nat), p ≤ l.length → chunk 3 p (mlF l) = mlG (l.take p)
  | _, 0, _ => by rw [List.take_zero]; rfl
  | [], p + 1, h => by simp at h
  | x :: l, p + 1, h => by
    have e : mlF (x :: l) = mlC x ++ mlF l := rfl
    rw [List.take_succ_cons, chunk, e]
    show mlC x :: chunk 3 p (mlF l) = _
    rw [chunk_take l p (by simpa using h)]
    rfl
set_option maxHeartbeats 8000000 in
theorem without_spec (n : Nt) (hl : n.fl.length ≤ 1099511627776) (hc : n.cu.length ≤ 1099511627776) (hd : ∀ m ∈ n.fl, m.d.length ≤ 70368744177664) (p : Nat) (hp : p < n.fl.length) (H : List Box) :
    ASpec Try.prog 35 [ntV n, vi p] H (Gives (ntV (dropN n p)) H) := by
  have hcp := fun H => copy_spec n hl hc hd H
  obtain ⟨fl, cu⟩ := n
  dsimp only at *
  have hml := mlF_length fl
  have k5 : H.length + 2 + 3 = H.length + 5 := rfl
  have k6 : H.length + 2 + 4 = H.length + 6 := rfl
  have hp1 : (p : Int) ≤ (fl.length : Int) := by omega
  have hp2 : (p : Int) + 1 ≤ (fl.length : Int) := by omega
  have c1 : chunk 3 p (mlF fl) = mlG (fl.take p) := chunk_take fl p (by omega)
  have c2 : chunk 3 (fl.length - (p + 1)) (List.drop ((p + 1) * 3) (mlF fl)) = mlG (fl.drop (p + 1)) := by
    rw [flat_drop, ← List.length_drop]
    exact chunk_mlF _
  have l1 : (fl.take p).length = p := by rw [List.length_take]; omega
  have l2 : (fl.drop (p + 1)).length = fl.length - (p + 1) := List.length_drop
  have f1 : flat (mlG (fl.take p)) = mlF (fl.take p) := rfl
  have m1 : (mlF (fl.take p)).length = p * 3 := by rw [mlF_length, l1]
  have m2 : mlF (fl.take p) ++ flat (mlG (fl.drop (p + 1))) = mlF (fl.take p ++ fl.drop (p + 1)) := (mlF_app _ _).symm
  have h1 : p * 40 ≤ 140737488355328 := by omega
  have h2 : (p + (fl.length - (p + 1))) * 40 ≤ 140737488355328 := by omega
  have l3 : p + (fl.length - (p + 1)) = (fl.take p ++ fl.drop (p + 1)).length := by rw [List.length_append, l1, l2]
  have tn : ((p : Int) + 1).toNat = p + 1 := by omega
  refine ASpec.enter Try.func35 rfl (fun a w => Try.call35 a w) Try.ntmps35 Try.results35 fun base w β hI => ?_
  repeat' (first
    | (refine AWP.seq ?_)
    | (refine AWP.block ?_)
    | (refine AWP.drawH_k (id := 2) 1 [(.new 8, []), (.same, [8]), (.same, [8]), (.same, [8]), (.same, [8]), (.wr 8, []), (.same, [8]), (.same, [8]), (.same, [8]), (.same, [8]), (.same, [8]), (.wr 8, []), (.same, [8]), (.wr 7, [])] rfl (by decide +kernel) fun Q' hQ' => ?_)
    | (refine AWP.drawH0_k (id := 2) 1 [(.new 8, []), (.same, [8]), (.same, [8]), (.same, [8]), (.same, [8]), (.wr 8, []), (.same, [8]), (.same, [8]), (.same, [8]), (.same, [8]), (.same, [8]), (.wr 8, []), (.same, [8]), (.wr 7, [])] rfl (by decide +kernel) fun Q' hQ' => ?_)
    | (with_reducible refine hops.step fun T hT => ?_; simp (disch := omega) only [hone, hskip, patch, hole, List.headD_cons, List.tail_cons, Prod.mk.injEq, eq_self, and_assoc, exists_and_left, List.append_cancel_left_eq, List.cons.injEq, go_sem, Nat.reduceBEq, Nat.reduceLT, Nat.reduceEqDiff, reduceIte, Nat.reduceAdd, Nat.reduceMul, Nat.reduceSub, Nat.reduceLeDiff, Int.reduceToNat, Int.reducePow, Int.reduceLT, Int.reduceEq, Int.reduceNeg, Nat.reducePow, List.reduceReplicate, Int.reduceLE, k5, k6, hml, hp1, hp2, c1, c2, l1, l2, f1, m1, m2, h1, h2, tn, Nat.sub_zero])
    | (with_reducible refine hops.nil ?_)
    | (with_reducible refine hT _ _ ?_; clear hT T)
    | (refine AWP.region_k fun Q' hQ' => ?_)
    | (refine AWP.draw_k rfl (by kernel_rfl) fun Q' hQ' => ?_)
    | (with_reducible refine aops.step fun T hT => ?_; simp (disch := omega) only [go_sem, Nat.reduceBEq, Nat.reduceLT, Nat.reduceEqDiff, reduceIte, Nat.reduceAdd, Nat.reduceMul, Nat.reduceSub, Nat.reduceLeDiff, Int.reduceToNat, Int.reducePow, Int.reduceLT, Int.reduceEq, Int.reduceNeg, Nat.reducePow, List.reduceReplicate, Int.reduceLE, k5, k6, hml, hp1, hp2, c1, c2, l1, l2, f1, m1, m2, h1, h2, tn, Nat.sub_zero])
    | (with_reducible refine qops.step fun T hT => ?_; simp (disch := omega) only [go_sem, Nat.reduceBEq, Nat.reduceLT, Nat.reduceEqDiff, reduceIte, Nat.reduceAdd, Nat.reduceMul, Nat.reduceSub, Nat.reduceLeDiff, Int.reduceToNat, Int.reducePow, Int.reduceLT, Int.reduceEq, Int.reduceNeg, Nat.reducePow, List.reduceReplicate, Int.reduceLE, k5, k6, hml, hp1, hp2, c1, c2, l1, l2, f1, m1, m2, h1, h2, tn, Nat.sub_zero])
    | (with_reducible refine aops.nil ?_)
    | (with_reducible refine qops.nil ?_)
    | (with_reducible refine hT _ ?_; clear hT T)
    | (refine AWP.skip ?_; try simp only [AExit.then, AExit.inBlock, reduceIte, Nat.reduceEqDiff])
    | (refine AWP.exit ?_; try simp only [AExit.then, AExit.inBlock, reduceIte, Nat.reduceEqDiff])
    | (refine AWP.ret ?_; try simp only [AExit.then, AExit.inBlock, reduceIte, Nat.reduceEqDiff])
    | (refine AWP.cond rfl (fun h => ?_) (fun h => ?_) <;> (try simp only [decide_eq_true_eq, decide_eq_false_iff_not, Bool.true_eq_false, Bool.false_eq_true] at h) <;> (try contradiction))
    | (refine hQ' _ _ ?_; clear hQ' Q'; try simp only [AExit.then, AExit.inBlock, reduceIte, Nat.reduceEqDiff])
    | (refine hQ' _ ?_; clear hQ' Q'; try simp only [AExit.then, AExit.inBlock, reduceIte, Nat.reduceEqDiff])
    | (with_reducible refine Branch.split (fun h => ?_) (fun h => ?_) <;> (try simp only [decide_eq_true_eq, decide_eq_false_iff_not, Bool.not_true, Bool.not_false, Bool.true_eq_false, Bool.false_eq_true] at h) <;> (try contradiction) <;> (simp (disch := omega) only [go_sem, Nat.reduceBEq, Nat.reduceLT, Nat.reduceEqDiff, reduceIte, Nat.reduceAdd, Nat.reduceMul, Nat.reduceSub, Nat.reduceLeDiff, Int.reduceToNat, Int.reducePow, Int.reduceLT, Int.reduceEq, Int.reduceNeg, Nat.reducePow, List.reduceReplicate, Int.reduceLE, h, k5, k6, hml, hp1, hp2, c1, c2, l1, l2, f1, m1, m2, h1, h2, tn, Nat.sub_zero]))
    | (with_reducible intro h; try simp only [h, go_sem, Nat.reduceBEq, Nat.reduceLT, Nat.reduceEqDiff, reduceIte, Nat.reduceAdd, Nat.reduceMul, Nat.reduceSub, Nat.reduceLeDiff, Int.reduceToNat, Int.reducePow, Int.reduceLT, Int.reduceEq, Int.reduceNeg, Nat.reducePow, List.reduceReplicate, Int.reduceLE, k5, k6, hml, hp1, hp2, c1, c2, l1, l2, f1, m1, m2, h1, h2, tn, Nat.sub_zero])
    | ((first | (with_reducible refine acall.det (hcp _) ?_) | (with_reducible refine qcall.det (hcp _) ?_)); try simp (disch := omega) only [go_sem, Nat.reduceBEq, Nat.reduceLT, Nat.reduceEqDiff, reduceIte, Nat.reduceAdd, Nat.reduceMul, Nat.reduceSub, Nat.reduceLeDiff, Int.reduceToNat, Int.reducePow, Int.reduceLT, Int.reduceEq, Int.reduceNeg, Nat.reducePow, List.reduceReplicate, Int.reduceLE, k5, k6, hml, hp1, hp2, c1, c2, l1, l2, f1, m1, m2, h1, h2, tn, Nat.sub_zero])
    | ((first | (with_reducible refine hcall.det (fun _ => hcp _) ?_) | (with_reducible refine hcall.wr (fun _ => hcp _) ?_) | (with_reducible refine hcall.wr0 (hcp _) ?_)); try simp (disch := omega) only [go_sem, Nat.reduceBEq, Nat.reduceLT, Nat.reduceEqDiff, reduceIte, Nat.reduceAdd, Nat.reduceMul, Nat.reduceSub, Nat.reduceLeDiff, Int.reduceToNat, Int.reducePow, Int.reduceLT, Int.reduceEq, Int.reduceNeg, Nat.reducePow, List.reduceReplicate, Int.reduceLE, k5, k6, hml, hp1, hp2, c1, c2, l1, l2, f1, m1, m2, h1, h2, tn, Nat.sub_zero]))
  refine wkEnd wT ?_
  rw [l3]
  exact Fin.netA (n := ⟨fl.take p ++ fl.drop (p + 1), cu⟩) (app_at _ _ 8 rfl) (app_at _ _ 6 rfl) (by dsimp only; omega) (by dsimp only; omega) (by omega) rfl rfl (by dsimp only; rw [mlF_length]; omega) (by dsimp only; rw [ctF_length]; omega) (chunk_mlF _) (chunk_ctF _) ⟨rfl, rfl⟩

end Go.Proofs.Ytnoekcdmaaakfaa.VL
