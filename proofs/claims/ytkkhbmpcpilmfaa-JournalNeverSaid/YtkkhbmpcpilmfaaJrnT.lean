/- Layer 13: the law of power that goes, as a whole. -/
import Derived.Test.YtkkhbmpcpilmfaaJrnS
-- STEPWISE
-- TAIL
-- HOLE 15 0 [(.same, []), (.same, []), (.same, []), (.same, []), (.same, []), (.same, []), (.same, []), (.same, []), (.same, []), (.same, []), (.same, [0]), (.wr 0, [])]
-- HOLE 17 2 [(.same, [3, 4]), (.same, [3, 4]), (.same, [3, 4]), (.same, [3, 4]), (.same, [3, 4]), (.same, [3, 4]), (.same, [3, 4]), (.same, [3, 4]), (.same, [3, 4]), (.same, [3, 4]), (.same, [3, 4]), (.same, [3, 4]), (.same, [3, 4]), (.new 3, [4]), (.new 4, [3]), (.wr 3, []), (.wr 4, []), (.same, [])]
-- HOLE 19 0 [(.same, []), (.same, []), (.same, []), (.same, []), (.same, []), (.same, []), (.same, []), (.same, []), (.same, []), (.same, [3]), (.same, [3, 4]), (.wr 3, []), (.wr 4, []), (.same, [])]
-- HOLE 32 0 [(.same, []), (.same, [0]), (.wr 0, []), (.wr 1, [])]
set_option linter.unusedVariables false
set_option linter.unusedSimpArgs false
set_option maxRecDepth 10000
namespace Go.Proofs.Ytkkhbmpcpilmfaa.VL
open Go Go.RowKit Go.Lib

set_option maxHeartbeats 16000000 in
theorem never_spec (l : List Tn) (hl : l.length ≤ 9223372036854775807) (hl' : ∀ t ∈ l, 0 ≤ t.f ∧ t.f ≤ 255 ∧ t.n.length ≤ 9223372036854775807) (H : List Box) :
    ASpec Try.prog 7 [.lst 3 (turnG l)] H (Gives (vb true) H) := by
  by_cases h100 : (100 : Int) < (l.length : Int)
  · intro base
    refine acall_body Try.func7 rfl (fun a w => Try.call7 a w) Try.ntmps7 Try.results7 (by simp) ?_
    intro w β hI
    simp only [number]
    repeat' (first
      | (refine AWP.seq ?_)
      | (refine AWP.block ?_)
      | (refine AWP.drawH_k (id := 15) 0 [(.same, []), (.same, []), (.same, []), (.same, []), (.same, []), (.same, []), (.same, []), (.same, []), (.same, []), (.same, []), (.same, [0]), (.wr 0, [])] rfl (by decide +kernel) fun Q' hQ' => ?_)
      | (refine AWP.drawH0_k (id := 15) 0 [(.same, []), (.same, []), (.same, []), (.same, []), (.same, []), (.same, []), (.same, []), (.same, []), (.same, []), (.same, []), (.same, [0]), (.wr 0, [])] rfl (by decide +kernel) fun Q' hQ' => ?_)
      | (refine AWP.drawH_k (id := 17) 2 [(.same, [3, 4]), (.same, [3, 4]), (.same, [3, 4]), (.same, [3, 4]), (.same, [3, 4]), (.same, [3, 4]), (.same, [3, 4]), (.same, [3, 4]), (.same, [3, 4]), (.same, [3, 4]), (.same, [3, 4]), (.same, [3, 4]), (.same, [3, 4]), (.new 3, [4]), (.new 4, [3]), (.wr 3, []), (.wr 4, []), (.same, [])] rfl (by decide +kernel) fun Q' hQ' => ?_)
      | (refine AWP.drawH0_k (id := 17) 2 [(.same, [3, 4]), (.same, [3, 4]), (.same, [3, 4]), (.same, [3, 4]), (.same, [3, 4]), (.same, [3, 4]), (.same, [3, 4]), (.same, [3, 4]), (.same, [3, 4]), (.same, [3, 4]), (.same, [3, 4]), (.same, [3, 4]), (.same, [3, 4]), (.new 3, [4]), (.new 4, [3]), (.wr 3, []), (.wr 4, []), (.same, [])] rfl (by decide +kernel) fun Q' hQ' => ?_)
      | (refine AWP.drawH_k (id := 19) 0 [(.same, []), (.same, []), (.same, []), (.same, []), (.same, []), (.same, []), (.same, []), (.same, []), (.same, []), (.same, [3]), (.same, [3, 4]), (.wr 3, []), (.wr 4, []), (.same, [])] rfl (by decide +kernel) fun Q' hQ' => ?_)
      | (refine AWP.drawH0_k (id := 19) 0 [(.same, []), (.same, []), (.same, []), (.same, []), (.same, []), (.same, []), (.same, []), (.same, []), (.same, []), (.same, [3]), (.same, [3, 4]), (.wr 3, []), (.wr 4, []), (.same, [])] rfl (by decide +kernel) fun Q' hQ' => ?_)
      | (refine AWP.drawH_k (id := 32) 0 [(.same, []), (.same, [0]), (.wr 0, []), (.wr 1, [])] rfl (by decide +kernel) fun Q' hQ' => ?_)
      | (refine AWP.drawH0_k (id := 32) 0 [(.same, []), (.same, [0]), (.wr 0, []), (.wr 1, [])] rfl (by decide +kernel) fun Q' hQ' => ?_)
      | (with_reducible refine hops.step fun T hT => ?_; simp (disch := omega) only [hone, hskip, patch, hole, List.headD_cons, List.tail_cons, Prod.mk.injEq, eq_self, and_assoc, exists_and_left, List.append_cancel_left_eq, List.cons.injEq, go_sem, Nat.reduceBEq, Nat.reduceLT, Nat.reduceEqDiff, reduceIte, Nat.reduceAdd, Nat.reduceMul, Nat.reduceSub, Nat.reduceLeDiff, Int.reduceToNat, Int.reducePow, Int.reduceLT, Int.reduceEq, Int.reduceNeg, Nat.reducePow, List.reduceReplicate, Int.reduceLE, h100])
      | (with_reducible refine hops.nil ?_)
      | (with_reducible refine hT _ _ ?_; clear hT T)
      | (refine AWP.region_k fun Q' hQ' => ?_)
      | (refine AWP.drawT_k rfl (by decide +kernel) fun Q' hQ' => ?_; simp only [List.length_cons, List.length_nil, Nat.reduceAdd, Nat.reduceSub, List.take_succ_cons, List.take_zero, List.drop_succ_cons, List.drop_zero])
      | (refine AWP.draw_k rfl (by kernel_rfl) fun Q' hQ' => ?_)
      | (with_reducible refine aops.step fun T hT => ?_; simp (disch := omega) only [go_sem, Nat.reduceBEq, Nat.reduceLT, Nat.reduceEqDiff, reduceIte, Nat.reduceAdd, Nat.reduceMul, Nat.reduceSub, Nat.reduceLeDiff, Int.reduceToNat, Int.reducePow, Int.reduceLT, Int.reduceEq, Int.reduceNeg, Nat.reducePow, List.reduceReplicate, Int.reduceLE, h100])
      | (with_reducible refine qops.step fun T hT => ?_; simp (disch := omega) only [go_sem, Nat.reduceBEq, Nat.reduceLT, Nat.reduceEqDiff, reduceIte, Nat.reduceAdd, Nat.reduceMul, Nat.reduceSub, Nat.reduceLeDiff, Int.reduceToNat, Int.reducePow, Int.reduceLT, Int.reduceEq, Int.reduceNeg, Nat.reducePow, List.reduceReplicate, Int.reduceLE, h100])
      | (with_reducible refine aops.nil ?_)
      | (with_reducible refine qops.nil ?_)
      | (with_reducible refine hT _ ?_; clear hT T)
      | (refine AWP.skip ?_; try simp only [AExit.then, AExit.inBlock, reduceIte, Nat.reduceEqDiff])
      | (refine AWP.exit ?_; try simp only [AExit.then, AExit.inBlock, reduceIte, Nat.reduceEqDiff])
      | (refine AWP.ret ?_; try simp only [AExit.then, AExit.inBlock, reduceIte, Nat.reduceEqDiff])
      | (refine AWP.cond rfl (fun h => ?_) (fun h => ?_) <;> (try simp only [decide_eq_true_eq, decide_eq_false_iff_not, Bool.true_eq_false, Bool.false_eq_true] at h) <;> (try contradiction))
      | (refine hQ' _ _ ?_; clear hQ' Q'; try simp only [AExit.then, AExit.inBlock, reduceIte, Nat.reduceEqDiff])
      | (refine hQ' _ ?_; clear hQ' Q'; try simp only [AExit.then, AExit.inBlock, reduceIte, Nat.reduceEqDiff])
      | (with_reducible refine Branch.split (fun h => ?_) (fun h => ?_) <;> (try simp only [decide_eq_true_eq, decide_eq_false_iff_not, Bool.not_true, Bool.not_false, Bool.true_eq_false, Bool.false_eq_true] at h) <;> (try contradiction) <;> (simp (disch := omega) only [go_sem, Nat.reduceBEq, Nat.reduceLT, Nat.reduceEqDiff, reduceIte, Nat.reduceAdd, Nat.reduceMul, Nat.reduceSub, Nat.reduceLeDiff, Int.reduceToNat, Int.reducePow, Int.reduceLT, Int.reduceEq, Int.reduceNeg, Nat.reducePow, List.reduceReplicate, Int.reduceLE, h, h100]))
      | (with_reducible intro h; try simp only [h, go_sem, Nat.reduceBEq, Nat.reduceLT, Nat.reduceEqDiff, reduceIte, Nat.reduceAdd, Nat.reduceMul, Nat.reduceSub, Nat.reduceLeDiff, Int.reduceToNat, Int.reducePow, Int.reduceLT, Int.reduceEq, Int.reduceNeg, Nat.reducePow, List.reduceReplicate, Int.reduceLE, h100])
      | ((first | (with_reducible refine acall.det (aliveJ_spec _) ?_) | (with_reducible refine qcall.det (aliveJ_spec _) ?_)); try simp (disch := omega) only [go_sem, Nat.reduceBEq, Nat.reduceLT, Nat.reduceEqDiff, reduceIte, Nat.reduceAdd, Nat.reduceMul, Nat.reduceSub, Nat.reduceLeDiff, Int.reduceToNat, Int.reducePow, Int.reduceLT, Int.reduceEq, Int.reduceNeg, Nat.reducePow, List.reduceReplicate, Int.reduceLE, h100])
      | ((first | (with_reducible refine hcall.det (fun _ => aliveJ_spec _) ?_)); try simp (disch := omega) only [go_sem, Nat.reduceBEq, Nat.reduceLT, Nat.reduceEqDiff, reduceIte, Nat.reduceAdd, Nat.reduceMul, Nat.reduceSub, Nat.reduceLeDiff, Int.reduceToNat, Int.reducePow, Int.reduceLT, Int.reduceEq, Int.reduceNeg, Nat.reducePow, List.reduceReplicate, Int.reduceLE, h100]))
    simp only [bodyQ, go_sem, Nat.reduceBEq, Nat.reduceLT, Nat.reduceEqDiff, reduceIte, Nat.reduceAdd, Nat.reduceMul, Nat.reduceSub, Nat.reduceLeDiff, Int.reduceToNat, Int.reducePow, Int.reduceLT, Int.reduceEq, Int.reduceNeg, Nat.reducePow, List.reduceReplicate, Int.reduceLE]
    exact Fin.same ⟨rfl, rfl⟩
  have hnew := fun H => new_spec 3 (by omega) (by omega) H
  have hnew : ∀ H, ASpec Try.prog 23 [vi 3] H (Gives (.tup [.agg [.lst 64 (secG sec0), vi (-1), vb false], vi 0]) H) := hnew
  have hfmt := fun H => format_spec ⟨sec0, -1, false⟩ [] (by decide) (by decide) all64_secs.1 (by decide) H
  simp only [good_first] at hfmt
  have hgs := good_start
  generalize ([zerosB 64, recB ⟨1, 1, []⟩, zerosB 64] : List (List UInt8)) = s0 at hfmt hgs
  have hfmt : ∀ H, ASpec Try.prog 24 [.agg [.lst 64 (secG sec0), vi (-1), vb false], vs []] H (Gives (.tup [.agg [.lst 64 (secG s0), vi (-1), vb false], .agg [vi 1, vi 1, vs []], vi 0]) H) := hfmt
  intro base
  refine acall_body Try.func7 rfl (fun a w => Try.call7 a w) Try.ntmps7 Try.results7 (by simp) ?_
  intro w β hI
  simp only [number]
  repeat' (first
    | (refine AWP.seq ?_)
    | (refine AWP.block ?_)
    | (refine AWP.drawH_k (id := 15) 0 [(.same, []), (.same, []), (.same, []), (.same, []), (.same, []), (.same, []), (.same, []), (.same, []), (.same, []), (.same, []), (.same, [0]), (.wr 0, [])] rfl (by decide +kernel) fun Q' hQ' => ?_)
    | (refine AWP.drawH0_k (id := 15) 0 [(.same, []), (.same, []), (.same, []), (.same, []), (.same, []), (.same, []), (.same, []), (.same, []), (.same, []), (.same, []), (.same, [0]), (.wr 0, [])] rfl (by decide +kernel) fun Q' hQ' => ?_)
    | (refine AWP.drawH_k (id := 17) 2 [(.same, [3, 4]), (.same, [3, 4]), (.same, [3, 4]), (.same, [3, 4]), (.same, [3, 4]), (.same, [3, 4]), (.same, [3, 4]), (.same, [3, 4]), (.same, [3, 4]), (.same, [3, 4]), (.same, [3, 4]), (.same, [3, 4]), (.same, [3, 4]), (.new 3, [4]), (.new 4, [3]), (.wr 3, []), (.wr 4, []), (.same, [])] rfl (by decide +kernel) fun Q' hQ' => ?_)
    | (refine AWP.drawH0_k (id := 17) 2 [(.same, [3, 4]), (.same, [3, 4]), (.same, [3, 4]), (.same, [3, 4]), (.same, [3, 4]), (.same, [3, 4]), (.same, [3, 4]), (.same, [3, 4]), (.same, [3, 4]), (.same, [3, 4]), (.same, [3, 4]), (.same, [3, 4]), (.same, [3, 4]), (.new 3, [4]), (.new 4, [3]), (.wr 3, []), (.wr 4, []), (.same, [])] rfl (by decide +kernel) fun Q' hQ' => ?_)
    | (refine AWP.drawH_k (id := 19) 0 [(.same, []), (.same, []), (.same, []), (.same, []), (.same, []), (.same, []), (.same, []), (.same, []), (.same, []), (.same, [3]), (.same, [3, 4]), (.wr 3, []), (.wr 4, []), (.same, [])] rfl (by decide +kernel) fun Q' hQ' => ?_)
    | (refine AWP.drawH0_k (id := 19) 0 [(.same, []), (.same, []), (.same, []), (.same, []), (.same, []), (.same, []), (.same, []), (.same, []), (.same, []), (.same, [3]), (.same, [3, 4]), (.wr 3, []), (.wr 4, []), (.same, [])] rfl (by decide +kernel) fun Q' hQ' => ?_)
    | (refine AWP.drawH_k (id := 32) 0 [(.same, []), (.same, [0]), (.wr 0, []), (.wr 1, [])] rfl (by decide +kernel) fun Q' hQ' => ?_)
    | (refine AWP.drawH0_k (id := 32) 0 [(.same, []), (.same, [0]), (.wr 0, []), (.wr 1, [])] rfl (by decide +kernel) fun Q' hQ' => ?_)
    | (with_reducible refine hops.step fun T hT => ?_; simp (disch := omega) only [hone, hskip, patch, hole, List.headD_cons, List.tail_cons, Prod.mk.injEq, eq_self, and_assoc, exists_and_left, List.append_cancel_left_eq, List.cons.injEq, go_sem, Nat.reduceBEq, Nat.reduceLT, Nat.reduceEqDiff, reduceIte, Nat.reduceAdd, Nat.reduceMul, Nat.reduceSub, Nat.reduceLeDiff, Int.reduceToNat, Int.reducePow, Int.reduceLT, Int.reduceEq, Int.reduceNeg, Nat.reducePow, List.reduceReplicate, Int.reduceLE, h100])
    | (with_reducible refine hops.nil ?_)
    | (with_reducible refine hT _ _ ?_; clear hT T)
    | (refine AWP.region_k fun Q' hQ' => ?_)
    | (refine AWP.drawT_k rfl (by decide +kernel) fun Q' hQ' => ?_; simp only [List.length_cons, List.length_nil, Nat.reduceAdd, Nat.reduceSub, List.take_succ_cons, List.take_zero, List.drop_succ_cons, List.drop_zero])
    | (refine AWP.draw_k rfl (by kernel_rfl) fun Q' hQ' => ?_)
    | (with_reducible refine aops.step fun T hT => ?_; simp (disch := omega) only [go_sem, Nat.reduceBEq, Nat.reduceLT, Nat.reduceEqDiff, reduceIte, Nat.reduceAdd, Nat.reduceMul, Nat.reduceSub, Nat.reduceLeDiff, Int.reduceToNat, Int.reducePow, Int.reduceLT, Int.reduceEq, Int.reduceNeg, Nat.reducePow, List.reduceReplicate, Int.reduceLE, h100])
    | (with_reducible refine qops.step fun T hT => ?_; simp (disch := omega) only [go_sem, Nat.reduceBEq, Nat.reduceLT, Nat.reduceEqDiff, reduceIte, Nat.reduceAdd, Nat.reduceMul, Nat.reduceSub, Nat.reduceLeDiff, Int.reduceToNat, Int.reducePow, Int.reduceLT, Int.reduceEq, Int.reduceNeg, Nat.reducePow, List.reduceReplicate, Int.reduceLE, h100])
    | (with_reducible refine aops.nil ?_)
    | (with_reducible refine qops.nil ?_)
    | (with_reducible refine hT _ ?_; clear hT T)
    | (refine AWP.skip ?_; try simp only [AExit.then, AExit.inBlock, reduceIte, Nat.reduceEqDiff])
    | (refine AWP.exit ?_; try simp only [AExit.then, AExit.inBlock, reduceIte, Nat.reduceEqDiff])
    | (refine AWP.ret ?_; try simp only [AExit.then, AExit.inBlock, reduceIte, Nat.reduceEqDiff])
    | (refine AWP.cond rfl (fun h => ?_) (fun h => ?_) <;> (try simp only [decide_eq_true_eq, decide_eq_false_iff_not, Bool.true_eq_false, Bool.false_eq_true] at h) <;> (try contradiction))
    | (refine hQ' _ _ ?_; clear hQ' Q'; try simp only [AExit.then, AExit.inBlock, reduceIte, Nat.reduceEqDiff])
    | (refine hQ' _ ?_; clear hQ' Q'; try simp only [AExit.then, AExit.inBlock, reduceIte, Nat.reduceEqDiff])
    | (with_reducible refine Branch.split (fun h => ?_) (fun h => ?_) <;> (try simp only [decide_eq_true_eq, decide_eq_false_iff_not, Bool.not_true, Bool.not_false, Bool.true_eq_false, Bool.false_eq_true] at h) <;> (try contradiction) <;> (simp (disch := omega) only [go_sem, Nat.reduceBEq, Nat.reduceLT, Nat.reduceEqDiff, reduceIte, Nat.reduceAdd, Nat.reduceMul, Nat.reduceSub, Nat.reduceLeDiff, Int.reduceToNat, Int.reducePow, Int.reduceLT, Int.reduceEq, Int.reduceNeg, Nat.reducePow, List.reduceReplicate, Int.reduceLE, h, h100]))
    | (with_reducible intro h; try simp only [h, go_sem, Nat.reduceBEq, Nat.reduceLT, Nat.reduceEqDiff, reduceIte, Nat.reduceAdd, Nat.reduceMul, Nat.reduceSub, Nat.reduceLeDiff, Int.reduceToNat, Int.reducePow, Int.reduceLT, Int.reduceEq, Int.reduceNeg, Nat.reducePow, List.reduceReplicate, Int.reduceLE, h100])
    | ((first | (with_reducible refine acall.det (aliveJ_spec _) ?_) | (with_reducible refine qcall.det (aliveJ_spec _) ?_) | (with_reducible refine acall.det (hnew _) ?_) | (with_reducible refine qcall.det (hnew _) ?_) | (with_reducible refine acall.det (hfmt _) ?_) | (with_reducible refine qcall.det (hfmt _) ?_)); try simp (disch := omega) only [go_sem, Nat.reduceBEq, Nat.reduceLT, Nat.reduceEqDiff, reduceIte, Nat.reduceAdd, Nat.reduceMul, Nat.reduceSub, Nat.reduceLeDiff, Int.reduceToNat, Int.reducePow, Int.reduceLT, Int.reduceEq, Int.reduceNeg, Nat.reducePow, List.reduceReplicate, Int.reduceLE, h100])
    | ((first | (with_reducible refine hcall.det (fun _ => aliveJ_spec _) ?_) | (with_reducible refine hcall.det (fun _ => hnew _) ?_) | (with_reducible refine hcall.det (fun _ => hfmt _) ?_)); try simp (disch := omega) only [go_sem, Nat.reduceBEq, Nat.reduceLT, Nat.reduceEqDiff, reduceIte, Nat.reduceAdd, Nat.reduceMul, Nat.reduceSub, Nat.reduceLeDiff, Int.reduceToNat, Int.reducePow, Int.reduceLT, Int.reduceEq, Int.reduceNeg, Nat.reducePow, List.reduceReplicate, Int.reduceLE, h100]))
  refine AWP.loop (ι := NvI l) (nvS l H) (fun p => l.length - p.1.1) ⟨(0, s0, ⟨1, 1, []⟩), Nat.zero_le _, hgs, by simp, by simp⟩ ?_ ?_
  · dsimp only [nvS]
    refine Coe.keep ?_; simp (disch := omega) only [Keeps, List.mem_cons, List.not_mem_nil, or_false, forall_eq_or_imp, forall_eq, List.length_append, Int.natCast_add, Int.natCast_one, Int.add_sub_cancel, Int.reduceSub, Int.reduceAdd, go_sem, Nat.reduceBEq, Nat.reduceLT, Nat.reduceEqDiff, reduceIte, Nat.reduceAdd, Nat.reduceMul, Nat.reduceSub, Nat.reduceLeDiff, Int.reduceToNat, Int.reducePow, Int.reduceLT, Int.reduceEq, Int.reduceNeg, Nat.reducePow, List.reduceReplicate, Int.reduceLE]
  · rintro ⟨⟨i, s, ⟨q, g, no⟩⟩, hi, hgood, hq, hgg⟩
    dsimp only at hi hgood hq hgg
    by_cases hc : (i : Int) < (l.length : Int)
    rotate_left
    · dsimp only [nvS]
      repeat' (first
        | (refine AWP.seq ?_)
        | (refine AWP.block ?_)
        | (refine AWP.drawH_k (id := 15) 0 [(.same, []), (.same, []), (.same, []), (.same, []), (.same, []), (.same, []), (.same, []), (.same, []), (.same, []), (.same, []), (.same, [0]), (.wr 0, [])] rfl (by decide +kernel) fun Q' hQ' => ?_)
        | (refine AWP.drawH0_k (id := 15) 0 [(.same, []), (.same, []), (.same, []), (.same, []), (.same, []), (.same, []), (.same, []), (.same, []), (.same, []), (.same, []), (.same, [0]), (.wr 0, [])] rfl (by decide +kernel) fun Q' hQ' => ?_)
        | (refine AWP.drawH_k (id := 17) 2 [(.same, [3, 4]), (.same, [3, 4]), (.same, [3, 4]), (.same, [3, 4]), (.same, [3, 4]), (.same, [3, 4]), (.same, [3, 4]), (.same, [3, 4]), (.same, [3, 4]), (.same, [3, 4]), (.same, [3, 4]), (.same, [3, 4]), (.same, [3, 4]), (.new 3, [4]), (.new 4, [3]), (.wr 3, []), (.wr 4, []), (.same, [])] rfl (by decide +kernel) fun Q' hQ' => ?_)
        | (refine AWP.drawH0_k (id := 17) 2 [(.same, [3, 4]), (.same, [3, 4]), (.same, [3, 4]), (.same, [3, 4]), (.same, [3, 4]), (.same, [3, 4]), (.same, [3, 4]), (.same, [3, 4]), (.same, [3, 4]), (.same, [3, 4]), (.same, [3, 4]), (.same, [3, 4]), (.same, [3, 4]), (.new 3, [4]), (.new 4, [3]), (.wr 3, []), (.wr 4, []), (.same, [])] rfl (by decide +kernel) fun Q' hQ' => ?_)
        | (refine AWP.drawH_k (id := 19) 0 [(.same, []), (.same, []), (.same, []), (.same, []), (.same, []), (.same, []), (.same, []), (.same, []), (.same, []), (.same, [3]), (.same, [3, 4]), (.wr 3, []), (.wr 4, []), (.same, [])] rfl (by decide +kernel) fun Q' hQ' => ?_)
        | (refine AWP.drawH0_k (id := 19) 0 [(.same, []), (.same, []), (.same, []), (.same, []), (.same, []), (.same, []), (.same, []), (.same, []), (.same, []), (.same, [3]), (.same, [3, 4]), (.wr 3, []), (.wr 4, []), (.same, [])] rfl (by decide +kernel) fun Q' hQ' => ?_)
        | (refine AWP.drawH_k (id := 32) 0 [(.same, []), (.same, [0]), (.wr 0, []), (.wr 1, [])] rfl (by decide +kernel) fun Q' hQ' => ?_)
        | (refine AWP.drawH0_k (id := 32) 0 [(.same, []), (.same, [0]), (.wr 0, []), (.wr 1, [])] rfl (by decide +kernel) fun Q' hQ' => ?_)
        | (with_reducible refine hops.step fun T hT => ?_; simp (disch := omega) only [hone, hskip, patch, hole, List.headD_cons, List.tail_cons, Prod.mk.injEq, eq_self, and_assoc, exists_and_left, List.append_cancel_left_eq, List.cons.injEq, go_sem, Nat.reduceBEq, Nat.reduceLT, Nat.reduceEqDiff, reduceIte, Nat.reduceAdd, Nat.reduceMul, Nat.reduceSub, Nat.reduceLeDiff, Int.reduceToNat, Int.reducePow, Int.reduceLT, Int.reduceEq, Int.reduceNeg, Nat.reducePow, List.reduceReplicate, Int.reduceLE, hc])
        | (with_reducible refine hops.nil ?_)
        | (with_reducible refine hT _ _ ?_; clear hT T)
        | (refine AWP.region_k fun Q' hQ' => ?_)
        | (refine AWP.drawT_k rfl (by decide +kernel) fun Q' hQ' => ?_; simp only [List.length_cons, List.length_nil, Nat.reduceAdd, Nat.reduceSub, List.take_succ_cons, List.take_zero, List.drop_succ_cons, List.drop_zero])
        | (refine AWP.draw_k rfl (by kernel_rfl) fun Q' hQ' => ?_)
        | (with_reducible refine aops.step fun T hT => ?_; simp (disch := omega) only [go_sem, Nat.reduceBEq, Nat.reduceLT, Nat.reduceEqDiff, reduceIte, Nat.reduceAdd, Nat.reduceMul, Nat.reduceSub, Nat.reduceLeDiff, Int.reduceToNat, Int.reducePow, Int.reduceLT, Int.reduceEq, Int.reduceNeg, Nat.reducePow, List.reduceReplicate, Int.reduceLE, hc])
        | (with_reducible refine qops.step fun T hT => ?_; simp (disch := omega) only [go_sem, Nat.reduceBEq, Nat.reduceLT, Nat.reduceEqDiff, reduceIte, Nat.reduceAdd, Nat.reduceMul, Nat.reduceSub, Nat.reduceLeDiff, Int.reduceToNat, Int.reducePow, Int.reduceLT, Int.reduceEq, Int.reduceNeg, Nat.reducePow, List.reduceReplicate, Int.reduceLE, hc])
        | (with_reducible refine aops.nil ?_)
        | (with_reducible refine qops.nil ?_)
        | (with_reducible refine hT _ ?_; clear hT T)
        | (refine AWP.skip ?_; try simp only [AExit.then, AExit.inBlock, reduceIte, Nat.reduceEqDiff])
        | (refine AWP.exit ?_; try simp only [AExit.then, AExit.inBlock, reduceIte, Nat.reduceEqDiff])
        | (refine AWP.ret ?_; try simp only [AExit.then, AExit.inBlock, reduceIte, Nat.reduceEqDiff])
        | (refine AWP.cond rfl (fun h => ?_) (fun h => ?_) <;> (try simp only [decide_eq_true_eq, decide_eq_false_iff_not, Bool.true_eq_false, Bool.false_eq_true] at h) <;> (try contradiction))
        | (refine hQ' _ _ ?_; clear hQ' Q'; try simp only [AExit.then, AExit.inBlock, reduceIte, Nat.reduceEqDiff])
        | (refine hQ' _ ?_; clear hQ' Q'; try simp only [AExit.then, AExit.inBlock, reduceIte, Nat.reduceEqDiff])
        | (with_reducible refine Branch.split (fun h => ?_) (fun h => ?_) <;> (try simp only [decide_eq_true_eq, decide_eq_false_iff_not, Bool.not_true, Bool.not_false, Bool.true_eq_false, Bool.false_eq_true] at h) <;> (try contradiction) <;> (simp (disch := omega) only [go_sem, Nat.reduceBEq, Nat.reduceLT, Nat.reduceEqDiff, reduceIte, Nat.reduceAdd, Nat.reduceMul, Nat.reduceSub, Nat.reduceLeDiff, Int.reduceToNat, Int.reducePow, Int.reduceLT, Int.reduceEq, Int.reduceNeg, Nat.reducePow, List.reduceReplicate, Int.reduceLE, h, hc]))
        | (with_reducible intro h; try simp only [h, go_sem, Nat.reduceBEq, Nat.reduceLT, Nat.reduceEqDiff, reduceIte, Nat.reduceAdd, Nat.reduceMul, Nat.reduceSub, Nat.reduceLeDiff, Int.reduceToNat, Int.reducePow, Int.reduceLT, Int.reduceEq, Int.reduceNeg, Nat.reducePow, List.reduceReplicate, Int.reduceLE, hc]))
      simp only [bodyQ, go_sem, Nat.reduceBEq, Nat.reduceLT, Nat.reduceEqDiff, reduceIte, Nat.reduceAdd, Nat.reduceMul, Nat.reduceSub, Nat.reduceLeDiff, Int.reduceToNat, Int.reducePow, Int.reduceLT, Int.reduceEq, Int.reduceNeg, Nat.reducePow, List.reduceReplicate, Int.reduceLE]
      exact Fin.cut (.v _) ⟨rfl, rfl⟩
    have hg : l[i]? = some l[i] := List.getElem?_eq_getElem (by omega)
    obtain ⟨hf0, hf1, hnl⟩ := hl' l[i] (List.getElem_mem _)
    generalize l[i] = t at hg hf0 hf1 hnl
    obtain ⟨nx, fu, note⟩ := t
    dsimp only at hf0 hf1 hnl
    by_cases h30 : (30 : Int) < (note.length : Int)
    · dsimp only [nvS]
      repeat' (first
        | (refine AWP.seq ?_)
        | (refine AWP.block ?_)
        | (refine AWP.drawH_k (id := 15) 0 [(.same, []), (.same, []), (.same, []), (.same, []), (.same, []), (.same, []), (.same, []), (.same, []), (.same, []), (.same, []), (.same, [0]), (.wr 0, [])] rfl (by decide +kernel) fun Q' hQ' => ?_)
        | (refine AWP.drawH0_k (id := 15) 0 [(.same, []), (.same, []), (.same, []), (.same, []), (.same, []), (.same, []), (.same, []), (.same, []), (.same, []), (.same, []), (.same, [0]), (.wr 0, [])] rfl (by decide +kernel) fun Q' hQ' => ?_)
        | (refine AWP.drawH_k (id := 17) 2 [(.same, [3, 4]), (.same, [3, 4]), (.same, [3, 4]), (.same, [3, 4]), (.same, [3, 4]), (.same, [3, 4]), (.same, [3, 4]), (.same, [3, 4]), (.same, [3, 4]), (.same, [3, 4]), (.same, [3, 4]), (.same, [3, 4]), (.same, [3, 4]), (.new 3, [4]), (.new 4, [3]), (.wr 3, []), (.wr 4, []), (.same, [])] rfl (by decide +kernel) fun Q' hQ' => ?_)
        | (refine AWP.drawH0_k (id := 17) 2 [(.same, [3, 4]), (.same, [3, 4]), (.same, [3, 4]), (.same, [3, 4]), (.same, [3, 4]), (.same, [3, 4]), (.same, [3, 4]), (.same, [3, 4]), (.same, [3, 4]), (.same, [3, 4]), (.same, [3, 4]), (.same, [3, 4]), (.same, [3, 4]), (.new 3, [4]), (.new 4, [3]), (.wr 3, []), (.wr 4, []), (.same, [])] rfl (by decide +kernel) fun Q' hQ' => ?_)
        | (refine AWP.drawH_k (id := 19) 0 [(.same, []), (.same, []), (.same, []), (.same, []), (.same, []), (.same, []), (.same, []), (.same, []), (.same, []), (.same, [3]), (.same, [3, 4]), (.wr 3, []), (.wr 4, []), (.same, [])] rfl (by decide +kernel) fun Q' hQ' => ?_)
        | (refine AWP.drawH0_k (id := 19) 0 [(.same, []), (.same, []), (.same, []), (.same, []), (.same, []), (.same, []), (.same, []), (.same, []), (.same, []), (.same, [3]), (.same, [3, 4]), (.wr 3, []), (.wr 4, []), (.same, [])] rfl (by decide +kernel) fun Q' hQ' => ?_)
        | (refine AWP.drawH_k (id := 32) 0 [(.same, []), (.same, [0]), (.wr 0, []), (.wr 1, [])] rfl (by decide +kernel) fun Q' hQ' => ?_)
        | (refine AWP.drawH0_k (id := 32) 0 [(.same, []), (.same, [0]), (.wr 0, []), (.wr 1, [])] rfl (by decide +kernel) fun Q' hQ' => ?_)
        | (with_reducible refine hops.step fun T hT => ?_; simp (disch := omega) only [hone, hskip, patch, hole, List.headD_cons, List.tail_cons, Prod.mk.injEq, eq_self, and_assoc, exists_and_left, List.append_cancel_left_eq, List.cons.injEq, go_sem, Nat.reduceBEq, Nat.reduceLT, Nat.reduceEqDiff, reduceIte, Nat.reduceAdd, Nat.reduceMul, Nat.reduceSub, Nat.reduceLeDiff, Int.reduceToNat, Int.reducePow, Int.reduceLT, Int.reduceEq, Int.reduceNeg, Nat.reducePow, List.reduceReplicate, Int.reduceLE, hc, hg, h30])
        | (with_reducible refine hops.nil ?_)
        | (with_reducible refine hT _ _ ?_; clear hT T)
        | (refine AWP.region_k fun Q' hQ' => ?_)
        | (refine AWP.drawT_k rfl (by decide +kernel) fun Q' hQ' => ?_; simp only [List.length_cons, List.length_nil, Nat.reduceAdd, Nat.reduceSub, List.take_succ_cons, List.take_zero, List.drop_succ_cons, List.drop_zero])
        | (refine AWP.draw_k rfl (by kernel_rfl) fun Q' hQ' => ?_)
        | (with_reducible refine aops.step fun T hT => ?_; simp (disch := omega) only [go_sem, Nat.reduceBEq, Nat.reduceLT, Nat.reduceEqDiff, reduceIte, Nat.reduceAdd, Nat.reduceMul, Nat.reduceSub, Nat.reduceLeDiff, Int.reduceToNat, Int.reducePow, Int.reduceLT, Int.reduceEq, Int.reduceNeg, Nat.reducePow, List.reduceReplicate, Int.reduceLE, hc, hg, h30])
        | (with_reducible refine qops.step fun T hT => ?_; simp (disch := omega) only [go_sem, Nat.reduceBEq, Nat.reduceLT, Nat.reduceEqDiff, reduceIte, Nat.reduceAdd, Nat.reduceMul, Nat.reduceSub, Nat.reduceLeDiff, Int.reduceToNat, Int.reducePow, Int.reduceLT, Int.reduceEq, Int.reduceNeg, Nat.reducePow, List.reduceReplicate, Int.reduceLE, hc, hg, h30])
        | (with_reducible refine aops.nil ?_)
        | (with_reducible refine qops.nil ?_)
        | (with_reducible refine hT _ ?_; clear hT T)
        | (refine AWP.skip ?_; try simp only [AExit.then, AExit.inBlock, reduceIte, Nat.reduceEqDiff])
        | (refine AWP.exit ?_; try simp only [AExit.then, AExit.inBlock, reduceIte, Nat.reduceEqDiff])
        | (refine AWP.ret ?_; try simp only [AExit.then, AExit.inBlock, reduceIte, Nat.reduceEqDiff])
        | (refine AWP.cond rfl (fun h => ?_) (fun h => ?_) <;> (try simp only [decide_eq_true_eq, decide_eq_false_iff_not, Bool.true_eq_false, Bool.false_eq_true] at h) <;> (try contradiction))
        | (refine hQ' _ _ ?_; clear hQ' Q'; try simp only [AExit.then, AExit.inBlock, reduceIte, Nat.reduceEqDiff])
        | (refine hQ' _ ?_; clear hQ' Q'; try simp only [AExit.then, AExit.inBlock, reduceIte, Nat.reduceEqDiff])
        | (with_reducible refine Branch.split (fun h => ?_) (fun h => ?_) <;> (try simp only [decide_eq_true_eq, decide_eq_false_iff_not, Bool.not_true, Bool.not_false, Bool.true_eq_false, Bool.false_eq_true] at h) <;> (try contradiction) <;> (simp (disch := omega) only [go_sem, Nat.reduceBEq, Nat.reduceLT, Nat.reduceEqDiff, reduceIte, Nat.reduceAdd, Nat.reduceMul, Nat.reduceSub, Nat.reduceLeDiff, Int.reduceToNat, Int.reducePow, Int.reduceLT, Int.reduceEq, Int.reduceNeg, Nat.reducePow, List.reduceReplicate, Int.reduceLE, h, hc, hg, h30]))
        | (with_reducible intro h; try simp only [h, go_sem, Nat.reduceBEq, Nat.reduceLT, Nat.reduceEqDiff, reduceIte, Nat.reduceAdd, Nat.reduceMul, Nat.reduceSub, Nat.reduceLeDiff, Int.reduceToNat, Int.reducePow, Int.reduceLT, Int.reduceEq, Int.reduceNeg, Nat.reducePow, List.reduceReplicate, Int.reduceLE, hc, hg, h30]))
      simp only [bodyQ, go_sem, Nat.reduceBEq, Nat.reduceLT, Nat.reduceEqDiff, reduceIte, Nat.reduceAdd, Nat.reduceMul, Nat.reduceSub, Nat.reduceLeDiff, Int.reduceToNat, Int.reducePow, Int.reduceLT, Int.reduceEq, Int.reduceNeg, Nat.reducePow, List.reduceReplicate, Int.reduceLE]
      exact Fin.cut (.v _) ⟨rfl, rfl⟩
    have hm := jmay_spec hgood.may
    dsimp only at hm
    have hy1 : jmay ⟨q + 1, g, note⟩ = true := by simp only [jmay, decide_eq_true_eq]; exact ⟨by omega, by omega, by omega, by omega, by omega⟩
    have hy2 : jmay ⟨q + 1, g + 1, note⟩ = true := by simp only [jmay, decide_eq_true_eq]; exact ⟨by omega, by omega, by omega, by omega, by omega⟩
    by_cases hfu : fu < 255
    · cases nx
      · rcases hgood.turn (f := fu) (by omega) (by omega) hy1 with ⟨s', f', e, hf', _, hG⟩ | ⟨_, s', e, hG⟩
        · exact nv_ffok l i s q g no h100 hi hgood hq hgg hc fu note hg hf0 hf1 hnl h30 hfu s' f' e hf' hG base w H β hI _ _ rfl
        · exact nv_ffer l i s q g no h100 hi hgood hq hgg hc fu note hg hf0 hf1 hnl h30 hfu s' e hG base w H β hI _ _ rfl
      · rcases hgood.turn (f := fu) (by omega) (by omega) hy2 with ⟨s', f', e, hf', _, hG⟩ | ⟨_, s', e, hG⟩
        · exact nv_ftok l i s q g no h100 hi hgood hq hgg hc fu note hg hf0 hf1 hnl h30 hfu s' f' e hf' hG base w H β hI _ _ rfl
        · exact nv_fter l i s q g no h100 hi hgood hq hgg hc fu note hg hf0 hf1 hnl h30 hfu s' e hG base w H β hI _ _ rfl
    · cases nx
      · rcases hgood.turn (f := -1) (by omega) (by omega) hy1 with ⟨s', f', e, hf', _, hG⟩ | ⟨hn, _⟩
        · exact nv_nfok l i s q g no h100 hi hgood hq hgg hc fu note hg hf0 hf1 hnl h30 hfu s' f' e hf' hG base w H β hI _ _ rfl
        · exact absurd rfl hn
      · rcases hgood.turn (f := -1) (by omega) (by omega) hy2 with ⟨s', f', e, hf', _, hG⟩ | ⟨hn, _⟩
        · exact nv_ntok l i s q g no h100 hi hgood hq hgg hc fu note hg hf0 hf1 hnl h30 hfu s' f' e hf' hG base w H β hI _ _ rfl
        · exact absurd rfl hn

end Go.Proofs.Ytkkhbmpcpilmfaa.VL
