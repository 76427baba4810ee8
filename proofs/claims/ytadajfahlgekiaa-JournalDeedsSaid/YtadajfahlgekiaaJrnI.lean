/- Layer 13: the laws of sectors. -/
import Derived.Test.YtadajfahlgekiaaJrnH
-- STEPWISE
-- TAIL
set_option linter.unusedVariables false
set_option linter.unusedSimpArgs false
set_option maxRecDepth 10000
namespace Go.Proofs.Ytadajfahlgekiaa.VL
open Go Go.RowKit Go.Lib

theorem lay_ok (x : Rc) (h : jmay x = true) (H : List Box) : ASpec Try.prog 9 [.agg [vi x.q, vi x.g, vs x.n]] H (Gives (.tup [.agg (bytesC (recB x)), vi 0]) H) := by
  have := lay_spec x (by have := jmay_spec h; omega) H
  unfold layV jlay jlayE at this
  rw [if_pos h, if_pos h] at this
  exact this
theorem lay_no (x : Rc) (h : jmay x = false) (hn : x.n.length ≤ 9223372036854775807) (H : List Box) : ASpec Try.prog 9 [.agg [vi x.q, vi x.g, vs x.n]] H (Gives (.tup [.agg (bytesC (zerosB 64)), vi 1]) H) := by
  have hz := zerosB_length 64
  have hzt : (zerosB 64).take 64 = zerosB 64 := List.take_of_length_le (by omega)
  have hno : ¬ (1 ≤ x.q ∧ x.q ≤ 1099511627776 ∧ 1 ≤ x.g ∧ x.g ≤ 1099511627776 ∧ x.n.length ≤ 30) := by simpa [jmay] using h
  obtain ⟨q, g, n⟩ := x
  dsimp only at *
  have k1 := fun H => numbered_spec q H
  have k2 := fun H => numbered_spec g H
  by_cases hq : 1 ≤ q ∧ q ≤ 1099511627776
  · simp only [eq_true hq, decide_true] at k1
    by_cases hg : 1 ≤ g ∧ g ≤ 1099511627776
    · simp only [eq_true hg, decide_true] at k2
      have h30 : (30 : Int) < (n.length : Int) := by omega
      intro base
      refine acall_body Try.func9 rfl (fun a w => Try.call9 a w) Try.ntmps9 Try.results9 (by simp) ?_
      intro w β hI
      simp only [number]
      repeat' (first
        | (refine AWP.seq ?_)
        | (refine AWP.block ?_)
        | (refine AWP.region_k fun Q' hQ' => ?_)
        | (refine AWP.drawT_k rfl (by decide +kernel) fun Q' hQ' => ?_; simp only [List.length_cons, List.length_nil, Nat.reduceAdd, Nat.reduceSub, List.take_succ_cons, List.take_zero, List.drop_succ_cons, List.drop_zero])
        | (refine AWP.draw_k rfl (by kernel_rfl) fun Q' hQ' => ?_)
        | (with_reducible refine aops.step fun T hT => ?_; simp (disch := omega) only [go_sem, Nat.reduceBEq, Nat.reduceLT, Nat.reduceEqDiff, reduceIte, Nat.reduceAdd, Nat.reduceMul, Nat.reduceSub, Nat.reduceLeDiff, Int.reduceToNat, Int.reducePow, Int.reduceLT, Int.reduceEq, Int.reduceNeg, Nat.reducePow, List.reduceReplicate, Int.reduceLE, hz, hzt, h30])
        | (with_reducible refine qops.step fun T hT => ?_; simp (disch := omega) only [go_sem, Nat.reduceBEq, Nat.reduceLT, Nat.reduceEqDiff, reduceIte, Nat.reduceAdd, Nat.reduceMul, Nat.reduceSub, Nat.reduceLeDiff, Int.reduceToNat, Int.reducePow, Int.reduceLT, Int.reduceEq, Int.reduceNeg, Nat.reducePow, List.reduceReplicate, Int.reduceLE, hz, hzt, h30])
        | (with_reducible refine aops.nil ?_)
        | (with_reducible refine qops.nil ?_)
        | (with_reducible refine hT _ ?_; clear hT T)
        | (refine AWP.skip ?_; try simp only [AExit.then, AExit.inBlock, reduceIte, Nat.reduceEqDiff])
        | (refine AWP.exit ?_; try simp only [AExit.then, AExit.inBlock, reduceIte, Nat.reduceEqDiff])
        | (refine AWP.ret ?_; try simp only [AExit.then, AExit.inBlock, reduceIte, Nat.reduceEqDiff])
        | (refine AWP.cond rfl (fun h => ?_) (fun h => ?_) <;> (try simp only [decide_eq_true_eq, decide_eq_false_iff_not, Bool.true_eq_false, Bool.false_eq_true] at h) <;> (try contradiction))
        | (refine hQ' _ _ ?_; clear hQ' Q'; try simp only [AExit.then, AExit.inBlock, reduceIte, Nat.reduceEqDiff])
        | (refine hQ' _ ?_; clear hQ' Q'; try simp only [AExit.then, AExit.inBlock, reduceIte, Nat.reduceEqDiff])
        | (with_reducible refine Branch.split (fun h => ?_) (fun h => ?_) <;> (try simp only [decide_eq_true_eq, decide_eq_false_iff_not, Bool.not_true, Bool.not_false, Bool.true_eq_false, Bool.false_eq_true] at h) <;> (try contradiction) <;> (simp (disch := omega) only [go_sem, Nat.reduceBEq, Nat.reduceLT, Nat.reduceEqDiff, reduceIte, Nat.reduceAdd, Nat.reduceMul, Nat.reduceSub, Nat.reduceLeDiff, Int.reduceToNat, Int.reducePow, Int.reduceLT, Int.reduceEq, Int.reduceNeg, Nat.reducePow, List.reduceReplicate, Int.reduceLE, h, hz, hzt, h30]))
        | (with_reducible intro h; try simp only [h, go_sem, Nat.reduceBEq, Nat.reduceLT, Nat.reduceEqDiff, reduceIte, Nat.reduceAdd, Nat.reduceMul, Nat.reduceSub, Nat.reduceLeDiff, Int.reduceToNat, Int.reducePow, Int.reduceLT, Int.reduceEq, Int.reduceNeg, Nat.reducePow, List.reduceReplicate, Int.reduceLE, hz, hzt, h30])
        | ((first | (with_reducible refine acall.det (k1 _) ?_) | (with_reducible refine qcall.det (k1 _) ?_) | (with_reducible refine acall.det (k2 _) ?_) | (with_reducible refine qcall.det (k2 _) ?_)); try simp (disch := omega) only [go_sem, Nat.reduceBEq, Nat.reduceLT, Nat.reduceEqDiff, reduceIte, Nat.reduceAdd, Nat.reduceMul, Nat.reduceSub, Nat.reduceLeDiff, Int.reduceToNat, Int.reducePow, Int.reduceLT, Int.reduceEq, Int.reduceNeg, Nat.reducePow, List.reduceReplicate, Int.reduceLE, hz, hzt, h30]))
      simp (disch := omega) only [bodyQ, hz, hzt, go_sem, Nat.reduceBEq, Nat.reduceLT, Nat.reduceEqDiff, reduceIte, Nat.reduceAdd, Nat.reduceMul, Nat.reduceSub, Nat.reduceLeDiff, Int.reduceToNat, Int.reducePow, Int.reduceLT, Int.reduceEq, Int.reduceNeg, Nat.reducePow, List.reduceReplicate, Int.reduceLE]
      exact Fin.cut (lt_layV _ _) ⟨rfl, rfl⟩
    · simp only [eq_false hg, decide_false] at k2
      intro base
      refine acall_body Try.func9 rfl (fun a w => Try.call9 a w) Try.ntmps9 Try.results9 (by simp) ?_
      intro w β hI
      simp only [number]
      repeat' (first
        | (refine AWP.seq ?_)
        | (refine AWP.block ?_)
        | (refine AWP.region_k fun Q' hQ' => ?_)
        | (refine AWP.drawT_k rfl (by decide +kernel) fun Q' hQ' => ?_; simp only [List.length_cons, List.length_nil, Nat.reduceAdd, Nat.reduceSub, List.take_succ_cons, List.take_zero, List.drop_succ_cons, List.drop_zero])
        | (refine AWP.draw_k rfl (by kernel_rfl) fun Q' hQ' => ?_)
        | (with_reducible refine aops.step fun T hT => ?_; simp (disch := omega) only [go_sem, Nat.reduceBEq, Nat.reduceLT, Nat.reduceEqDiff, reduceIte, Nat.reduceAdd, Nat.reduceMul, Nat.reduceSub, Nat.reduceLeDiff, Int.reduceToNat, Int.reducePow, Int.reduceLT, Int.reduceEq, Int.reduceNeg, Nat.reducePow, List.reduceReplicate, Int.reduceLE, hz, hzt])
        | (with_reducible refine qops.step fun T hT => ?_; simp (disch := omega) only [go_sem, Nat.reduceBEq, Nat.reduceLT, Nat.reduceEqDiff, reduceIte, Nat.reduceAdd, Nat.reduceMul, Nat.reduceSub, Nat.reduceLeDiff, Int.reduceToNat, Int.reducePow, Int.reduceLT, Int.reduceEq, Int.reduceNeg, Nat.reducePow, List.reduceReplicate, Int.reduceLE, hz, hzt])
        | (with_reducible refine aops.nil ?_)
        | (with_reducible refine qops.nil ?_)
        | (with_reducible refine hT _ ?_; clear hT T)
        | (refine AWP.skip ?_; try simp only [AExit.then, AExit.inBlock, reduceIte, Nat.reduceEqDiff])
        | (refine AWP.exit ?_; try simp only [AExit.then, AExit.inBlock, reduceIte, Nat.reduceEqDiff])
        | (refine AWP.ret ?_; try simp only [AExit.then, AExit.inBlock, reduceIte, Nat.reduceEqDiff])
        | (refine AWP.cond rfl (fun h => ?_) (fun h => ?_) <;> (try simp only [decide_eq_true_eq, decide_eq_false_iff_not, Bool.true_eq_false, Bool.false_eq_true] at h) <;> (try contradiction))
        | (refine hQ' _ _ ?_; clear hQ' Q'; try simp only [AExit.then, AExit.inBlock, reduceIte, Nat.reduceEqDiff])
        | (refine hQ' _ ?_; clear hQ' Q'; try simp only [AExit.then, AExit.inBlock, reduceIte, Nat.reduceEqDiff])
        | (with_reducible refine Branch.split (fun h => ?_) (fun h => ?_) <;> (try simp only [decide_eq_true_eq, decide_eq_false_iff_not, Bool.not_true, Bool.not_false, Bool.true_eq_false, Bool.false_eq_true] at h) <;> (try contradiction) <;> (simp (disch := omega) only [go_sem, Nat.reduceBEq, Nat.reduceLT, Nat.reduceEqDiff, reduceIte, Nat.reduceAdd, Nat.reduceMul, Nat.reduceSub, Nat.reduceLeDiff, Int.reduceToNat, Int.reducePow, Int.reduceLT, Int.reduceEq, Int.reduceNeg, Nat.reducePow, List.reduceReplicate, Int.reduceLE, h, hz, hzt]))
        | (with_reducible intro h; try simp only [h, go_sem, Nat.reduceBEq, Nat.reduceLT, Nat.reduceEqDiff, reduceIte, Nat.reduceAdd, Nat.reduceMul, Nat.reduceSub, Nat.reduceLeDiff, Int.reduceToNat, Int.reducePow, Int.reduceLT, Int.reduceEq, Int.reduceNeg, Nat.reducePow, List.reduceReplicate, Int.reduceLE, hz, hzt])
        | ((first | (with_reducible refine acall.det (k1 _) ?_) | (with_reducible refine qcall.det (k1 _) ?_) | (with_reducible refine acall.det (k2 _) ?_) | (with_reducible refine qcall.det (k2 _) ?_)); try simp (disch := omega) only [go_sem, Nat.reduceBEq, Nat.reduceLT, Nat.reduceEqDiff, reduceIte, Nat.reduceAdd, Nat.reduceMul, Nat.reduceSub, Nat.reduceLeDiff, Int.reduceToNat, Int.reducePow, Int.reduceLT, Int.reduceEq, Int.reduceNeg, Nat.reducePow, List.reduceReplicate, Int.reduceLE, hz, hzt]))
      simp (disch := omega) only [bodyQ, hz, hzt, go_sem, Nat.reduceBEq, Nat.reduceLT, Nat.reduceEqDiff, reduceIte, Nat.reduceAdd, Nat.reduceMul, Nat.reduceSub, Nat.reduceLeDiff, Int.reduceToNat, Int.reducePow, Int.reduceLT, Int.reduceEq, Int.reduceNeg, Nat.reducePow, List.reduceReplicate, Int.reduceLE]
      exact Fin.cut (lt_layV _ _) ⟨rfl, rfl⟩
  · simp only [eq_false hq, decide_false] at k1
    intro base
    refine acall_body Try.func9 rfl (fun a w => Try.call9 a w) Try.ntmps9 Try.results9 (by simp) ?_
    intro w β hI
    simp only [number]
    repeat' (first
      | (refine AWP.seq ?_)
      | (refine AWP.block ?_)
      | (refine AWP.region_k fun Q' hQ' => ?_)
      | (refine AWP.drawT_k rfl (by decide +kernel) fun Q' hQ' => ?_; simp only [List.length_cons, List.length_nil, Nat.reduceAdd, Nat.reduceSub, List.take_succ_cons, List.take_zero, List.drop_succ_cons, List.drop_zero])
      | (refine AWP.draw_k rfl (by kernel_rfl) fun Q' hQ' => ?_)
      | (with_reducible refine aops.step fun T hT => ?_; simp (disch := omega) only [go_sem, Nat.reduceBEq, Nat.reduceLT, Nat.reduceEqDiff, reduceIte, Nat.reduceAdd, Nat.reduceMul, Nat.reduceSub, Nat.reduceLeDiff, Int.reduceToNat, Int.reducePow, Int.reduceLT, Int.reduceEq, Int.reduceNeg, Nat.reducePow, List.reduceReplicate, Int.reduceLE, hz, hzt])
      | (with_reducible refine qops.step fun T hT => ?_; simp (disch := omega) only [go_sem, Nat.reduceBEq, Nat.reduceLT, Nat.reduceEqDiff, reduceIte, Nat.reduceAdd, Nat.reduceMul, Nat.reduceSub, Nat.reduceLeDiff, Int.reduceToNat, Int.reducePow, Int.reduceLT, Int.reduceEq, Int.reduceNeg, Nat.reducePow, List.reduceReplicate, Int.reduceLE, hz, hzt])
      | (with_reducible refine aops.nil ?_)
      | (with_reducible refine qops.nil ?_)
      | (with_reducible refine hT _ ?_; clear hT T)
      | (refine AWP.skip ?_; try simp only [AExit.then, AExit.inBlock, reduceIte, Nat.reduceEqDiff])
      | (refine AWP.exit ?_; try simp only [AExit.then, AExit.inBlock, reduceIte, Nat.reduceEqDiff])
      | (refine AWP.ret ?_; try simp only [AExit.then, AExit.inBlock, reduceIte, Nat.reduceEqDiff])
      | (refine AWP.cond rfl (fun h => ?_) (fun h => ?_) <;> (try simp only [decide_eq_true_eq, decide_eq_false_iff_not, Bool.true_eq_false, Bool.false_eq_true] at h) <;> (try contradiction))
      | (refine hQ' _ _ ?_; clear hQ' Q'; try simp only [AExit.then, AExit.inBlock, reduceIte, Nat.reduceEqDiff])
      | (refine hQ' _ ?_; clear hQ' Q'; try simp only [AExit.then, AExit.inBlock, reduceIte, Nat.reduceEqDiff])
      | (with_reducible refine Branch.split (fun h => ?_) (fun h => ?_) <;> (try simp only [decide_eq_true_eq, decide_eq_false_iff_not, Bool.not_true, Bool.not_false, Bool.true_eq_false, Bool.false_eq_true] at h) <;> (try contradiction) <;> (simp (disch := omega) only [go_sem, Nat.reduceBEq, Nat.reduceLT, Nat.reduceEqDiff, reduceIte, Nat.reduceAdd, Nat.reduceMul, Nat.reduceSub, Nat.reduceLeDiff, Int.reduceToNat, Int.reducePow, Int.reduceLT, Int.reduceEq, Int.reduceNeg, Nat.reducePow, List.reduceReplicate, Int.reduceLE, h, hz, hzt]))
      | (with_reducible intro h; try simp only [h, go_sem, Nat.reduceBEq, Nat.reduceLT, Nat.reduceEqDiff, reduceIte, Nat.reduceAdd, Nat.reduceMul, Nat.reduceSub, Nat.reduceLeDiff, Int.reduceToNat, Int.reducePow, Int.reduceLT, Int.reduceEq, Int.reduceNeg, Nat.reducePow, List.reduceReplicate, Int.reduceLE, hz, hzt])
      | ((first | (with_reducible refine acall.det (k1 _) ?_) | (with_reducible refine qcall.det (k1 _) ?_)); try simp (disch := omega) only [go_sem, Nat.reduceBEq, Nat.reduceLT, Nat.reduceEqDiff, reduceIte, Nat.reduceAdd, Nat.reduceMul, Nat.reduceSub, Nat.reduceLeDiff, Int.reduceToNat, Int.reducePow, Int.reduceLT, Int.reduceEq, Int.reduceNeg, Nat.reducePow, List.reduceReplicate, Int.reduceLE, hz, hzt]))
    simp (disch := omega) only [bodyQ, hz, hzt, go_sem, Nat.reduceBEq, Nat.reduceLT, Nat.reduceEqDiff, reduceIte, Nat.reduceAdd, Nat.reduceMul, Nat.reduceSub, Nat.reduceLeDiff, Int.reduceToNat, Int.reducePow, Int.reduceLT, Int.reduceEq, Int.reduceNeg, Nat.reducePow, List.reduceReplicate, Int.reduceLE]
    exact Fin.cut (lt_layV _ _) ⟨rfl, rfl⟩
theorem find_recB (x : Rc) (h : jmay x = true) (H : List Box) : ASpec Try.prog 11 [.agg (bytesC (recB x))] H (Gives (.tup [.agg [vi x.q, vi x.g, vs x.n], vi 0]) H) := by
  have := find_spec (recB x) (recB_length h) H
  rw [jfind_recB h] at this
  exact this

set_option maxHeartbeats 4000000 in
theorem jlays_spec (x : Rc) (b : List UInt8) (hn : x.n.length ≤ 9223372036854775807) (hb : b.length = 64) (H : List Box) : ASpec Try.prog 3 [rcV x, .agg (bytesC b)] H (Gives (vb true) H) := by
  have hz := zerosB_length 64
  have hbt : b.take 64 = b := List.take_of_length_le (by omega)
  by_cases h300 : (300 : Int) < (x.n.length : Int)
  · obtain ⟨q, g, n⟩ := x
    dsimp only at *
    intro base
    refine acall_body Try.func3 rfl (fun a w => Try.call3 a w) Try.ntmps3 Try.results3 (by simp) ?_
    intro w β hI
    simp only [number]
    repeat' (first
      | (refine AWP.seq ?_)
      | (refine AWP.block ?_)
      | (refine AWP.region_k fun Q' hQ' => ?_)
      | (refine AWP.drawT_k rfl (by decide +kernel) fun Q' hQ' => ?_; simp only [List.length_cons, List.length_nil, Nat.reduceAdd, Nat.reduceSub, List.take_succ_cons, List.take_zero, List.drop_succ_cons, List.drop_zero])
      | (refine AWP.draw_k rfl (by kernel_rfl) fun Q' hQ' => ?_)
      | (with_reducible refine aops.step fun T hT => ?_; simp (disch := omega) only [go_sem, Nat.reduceBEq, Nat.reduceLT, Nat.reduceEqDiff, reduceIte, Nat.reduceAdd, Nat.reduceMul, Nat.reduceSub, Nat.reduceLeDiff, Int.reduceToNat, Int.reducePow, Int.reduceLT, Int.reduceEq, Int.reduceNeg, Nat.reducePow, List.reduceReplicate, Int.reduceLE, hb, hbt, h300])
      | (with_reducible refine qops.step fun T hT => ?_; simp (disch := omega) only [go_sem, Nat.reduceBEq, Nat.reduceLT, Nat.reduceEqDiff, reduceIte, Nat.reduceAdd, Nat.reduceMul, Nat.reduceSub, Nat.reduceLeDiff, Int.reduceToNat, Int.reducePow, Int.reduceLT, Int.reduceEq, Int.reduceNeg, Nat.reducePow, List.reduceReplicate, Int.reduceLE, hb, hbt, h300])
      | (with_reducible refine aops.nil ?_)
      | (with_reducible refine qops.nil ?_)
      | (with_reducible refine hT _ ?_; clear hT T)
      | (refine AWP.skip ?_; try simp only [AExit.then, AExit.inBlock, reduceIte, Nat.reduceEqDiff])
      | (refine AWP.exit ?_; try simp only [AExit.then, AExit.inBlock, reduceIte, Nat.reduceEqDiff])
      | (refine AWP.ret ?_; try simp only [AExit.then, AExit.inBlock, reduceIte, Nat.reduceEqDiff])
      | (refine AWP.cond rfl (fun h => ?_) (fun h => ?_) <;> (try simp only [decide_eq_true_eq, decide_eq_false_iff_not, Bool.true_eq_false, Bool.false_eq_true] at h) <;> (try contradiction))
      | (refine hQ' _ _ ?_; clear hQ' Q'; try simp only [AExit.then, AExit.inBlock, reduceIte, Nat.reduceEqDiff])
      | (refine hQ' _ ?_; clear hQ' Q'; try simp only [AExit.then, AExit.inBlock, reduceIte, Nat.reduceEqDiff])
      | (with_reducible refine Branch.split (fun h => ?_) (fun h => ?_) <;> (try simp only [decide_eq_true_eq, decide_eq_false_iff_not, Bool.not_true, Bool.not_false, Bool.true_eq_false, Bool.false_eq_true] at h) <;> (try contradiction) <;> (simp (disch := omega) only [go_sem, Nat.reduceBEq, Nat.reduceLT, Nat.reduceEqDiff, reduceIte, Nat.reduceAdd, Nat.reduceMul, Nat.reduceSub, Nat.reduceLeDiff, Int.reduceToNat, Int.reducePow, Int.reduceLT, Int.reduceEq, Int.reduceNeg, Nat.reducePow, List.reduceReplicate, Int.reduceLE, h, hb, hbt, h300]))
      | (with_reducible intro h; try simp only [h, go_sem, Nat.reduceBEq, Nat.reduceLT, Nat.reduceEqDiff, reduceIte, Nat.reduceAdd, Nat.reduceMul, Nat.reduceSub, Nat.reduceLeDiff, Int.reduceToNat, Int.reducePow, Int.reduceLT, Int.reduceEq, Int.reduceNeg, Nat.reducePow, List.reduceReplicate, Int.reduceLE, hb, hbt, h300])
      | ((first | (with_reducible refine acall.det (aliveJ_spec _) ?_) | (with_reducible refine qcall.det (aliveJ_spec _) ?_)); try simp (disch := omega) only [go_sem, Nat.reduceBEq, Nat.reduceLT, Nat.reduceEqDiff, reduceIte, Nat.reduceAdd, Nat.reduceMul, Nat.reduceSub, Nat.reduceLeDiff, Int.reduceToNat, Int.reducePow, Int.reduceLT, Int.reduceEq, Int.reduceNeg, Nat.reducePow, List.reduceReplicate, Int.reduceLE, hb, hbt, h300]))
    simp only [bodyQ, go_sem, Nat.reduceBEq, Nat.reduceLT, Nat.reduceEqDiff, reduceIte, Nat.reduceAdd, Nat.reduceMul, Nat.reduceSub, Nat.reduceLeDiff, Int.reduceToNat, Int.reducePow, Int.reduceLT, Int.reduceEq, Int.reduceNeg, Nat.reducePow, List.reduceReplicate, Int.reduceLE]
    exact Fin.cut (.v _) ⟨rfl, rfl⟩
  have l1 := fun H => lay_spec x (by omega) H
  have l2 := fun H => refLay_spec x (by omega) H
  have hcl := jlay_length x
  have f1 := fun H => find_spec b hb H
  have f2 := fun H => refFind_spec b hb H
  have hfo := jfind_ok (b := b)
  have hfb := jfind_bad (b := b)
  generalize jfind b = y at f1 f2 hfo hfb
  obtain ⟨⟨q', g', n'⟩, e⟩ := y
  dsimp only at hfo hfb
  have f1 : ∀ H, ASpec Try.prog 11 [.agg (bytesC b)] H (Gives (.tup [.agg [vi q', vi g', vs n'], vi e]) H) := f1
  have f2 : ∀ H, ASpec Try.prog 12 [.agg (bytesC b)] H (Gives (.tup [.agg [vi q', vi g', vs n'], vi e]) H) := f2
  unfold layV jlay jlayE at l1 l2
  by_cases hm : jmay x = true
  · have hrl := recB_length hm
    have hrt : (recB x).take 64 = recB x := List.take_of_length_le (by omega)
    rw [if_pos hm, if_pos hm] at l1 l2
    have f3 := find_recB x hm
    generalize recB x = c at l1 l2 f3 hrl hrt
    by_cases he : e = 0
    · obtain ⟨m1, m2⟩ := hfo he
      have l3 := lay_ok _ m1
      rw [m2] at l3
      subst he
      obtain ⟨q, g, n⟩ := x
      dsimp only at *
      intro base
      refine acall_body Try.func3 rfl (fun a w => Try.call3 a w) Try.ntmps3 Try.results3 (by simp) ?_
      intro w β hI
      simp only [number]
      repeat' (first
        | (refine AWP.seq ?_)
        | (refine AWP.block ?_)
        | (refine AWP.region_k fun Q' hQ' => ?_)
        | (refine AWP.drawT_k rfl (by decide +kernel) fun Q' hQ' => ?_; simp only [List.length_cons, List.length_nil, Nat.reduceAdd, Nat.reduceSub, List.take_succ_cons, List.take_zero, List.drop_succ_cons, List.drop_zero])
        | (refine AWP.draw_k rfl (by kernel_rfl) fun Q' hQ' => ?_)
        | (with_reducible refine aops.step fun T hT => ?_; simp (disch := omega) only [go_sem, Nat.reduceBEq, Nat.reduceLT, Nat.reduceEqDiff, reduceIte, Nat.reduceAdd, Nat.reduceMul, Nat.reduceSub, Nat.reduceLeDiff, Int.reduceToNat, Int.reducePow, Int.reduceLT, Int.reduceEq, Int.reduceNeg, Nat.reducePow, List.reduceReplicate, Int.reduceLE, hz, hb, hbt, h300, hrl, hrt, eq_self])
        | (with_reducible refine qops.step fun T hT => ?_; simp (disch := omega) only [go_sem, Nat.reduceBEq, Nat.reduceLT, Nat.reduceEqDiff, reduceIte, Nat.reduceAdd, Nat.reduceMul, Nat.reduceSub, Nat.reduceLeDiff, Int.reduceToNat, Int.reducePow, Int.reduceLT, Int.reduceEq, Int.reduceNeg, Nat.reducePow, List.reduceReplicate, Int.reduceLE, hz, hb, hbt, h300, hrl, hrt, eq_self])
        | (with_reducible refine aops.nil ?_)
        | (with_reducible refine qops.nil ?_)
        | (with_reducible refine hT _ ?_; clear hT T)
        | (refine AWP.skip ?_; try simp only [AExit.then, AExit.inBlock, reduceIte, Nat.reduceEqDiff])
        | (refine AWP.exit ?_; try simp only [AExit.then, AExit.inBlock, reduceIte, Nat.reduceEqDiff])
        | (refine AWP.ret ?_; try simp only [AExit.then, AExit.inBlock, reduceIte, Nat.reduceEqDiff])
        | (refine AWP.cond rfl (fun h => ?_) (fun h => ?_) <;> (try simp only [decide_eq_true_eq, decide_eq_false_iff_not, Bool.true_eq_false, Bool.false_eq_true] at h) <;> (try contradiction))
        | (refine hQ' _ _ ?_; clear hQ' Q'; try simp only [AExit.then, AExit.inBlock, reduceIte, Nat.reduceEqDiff])
        | (refine hQ' _ ?_; clear hQ' Q'; try simp only [AExit.then, AExit.inBlock, reduceIte, Nat.reduceEqDiff])
        | (with_reducible refine Branch.split (fun h => ?_) (fun h => ?_) <;> (try simp only [decide_eq_true_eq, decide_eq_false_iff_not, Bool.not_true, Bool.not_false, Bool.true_eq_false, Bool.false_eq_true] at h) <;> (try contradiction) <;> (simp (disch := omega) only [go_sem, Nat.reduceBEq, Nat.reduceLT, Nat.reduceEqDiff, reduceIte, Nat.reduceAdd, Nat.reduceMul, Nat.reduceSub, Nat.reduceLeDiff, Int.reduceToNat, Int.reducePow, Int.reduceLT, Int.reduceEq, Int.reduceNeg, Nat.reducePow, List.reduceReplicate, Int.reduceLE, h, hz, hb, hbt, h300, hrl, hrt, eq_self]))
        | (with_reducible intro h; try simp only [h, go_sem, Nat.reduceBEq, Nat.reduceLT, Nat.reduceEqDiff, reduceIte, Nat.reduceAdd, Nat.reduceMul, Nat.reduceSub, Nat.reduceLeDiff, Int.reduceToNat, Int.reducePow, Int.reduceLT, Int.reduceEq, Int.reduceNeg, Nat.reducePow, List.reduceReplicate, Int.reduceLE, hz, hb, hbt, h300, hrl, hrt, eq_self])
        | ((first | (with_reducible refine acall.det (aliveJ_spec _) ?_) | (with_reducible refine qcall.det (aliveJ_spec _) ?_) | (with_reducible refine acall.det (l1 _) ?_) | (with_reducible refine qcall.det (l1 _) ?_) | (with_reducible refine acall.det (l2 _) ?_) | (with_reducible refine qcall.det (l2 _) ?_) | (with_reducible refine acall.det (f1 _) ?_) | (with_reducible refine qcall.det (f1 _) ?_) | (with_reducible refine acall.det (f2 _) ?_) | (with_reducible refine qcall.det (f2 _) ?_) | (with_reducible refine acall.det (f3 _) ?_) | (with_reducible refine qcall.det (f3 _) ?_) | (with_reducible refine acall.det (l3 _) ?_) | (with_reducible refine qcall.det (l3 _) ?_)); try simp (disch := omega) only [go_sem, Nat.reduceBEq, Nat.reduceLT, Nat.reduceEqDiff, reduceIte, Nat.reduceAdd, Nat.reduceMul, Nat.reduceSub, Nat.reduceLeDiff, Int.reduceToNat, Int.reducePow, Int.reduceLT, Int.reduceEq, Int.reduceNeg, Nat.reducePow, List.reduceReplicate, Int.reduceLE, hz, hb, hbt, h300, hrl, hrt, eq_self]))
      simp only [bodyQ, go_sem, Nat.reduceBEq, Nat.reduceLT, Nat.reduceEqDiff, reduceIte, Nat.reduceAdd, Nat.reduceMul, Nat.reduceSub, Nat.reduceLeDiff, Int.reduceToNat, Int.reducePow, Int.reduceLT, Int.reduceEq, Int.reduceNeg, Nat.reducePow, List.reduceReplicate, Int.reduceLE]
      exact Fin.cut (.v _) ⟨rfl, rfl⟩
    · have h10 := hfb he
      injection h10 with h10 e10
      injection h10 with e1 e2 e3
      subst e1; subst e2; subst e3; subst e10
      obtain ⟨q, g, n⟩ := x
      dsimp only at *
      intro base
      refine acall_body Try.func3 rfl (fun a w => Try.call3 a w) Try.ntmps3 Try.results3 (by simp) ?_
      intro w β hI
      simp only [number]
      repeat' (first
        | (refine AWP.seq ?_)
        | (refine AWP.block ?_)
        | (refine AWP.region_k fun Q' hQ' => ?_)
        | (refine AWP.drawT_k rfl (by decide +kernel) fun Q' hQ' => ?_; simp only [List.length_cons, List.length_nil, Nat.reduceAdd, Nat.reduceSub, List.take_succ_cons, List.take_zero, List.drop_succ_cons, List.drop_zero])
        | (refine AWP.draw_k rfl (by kernel_rfl) fun Q' hQ' => ?_)
        | (with_reducible refine aops.step fun T hT => ?_; simp (disch := omega) only [go_sem, Nat.reduceBEq, Nat.reduceLT, Nat.reduceEqDiff, reduceIte, Nat.reduceAdd, Nat.reduceMul, Nat.reduceSub, Nat.reduceLeDiff, Int.reduceToNat, Int.reducePow, Int.reduceLT, Int.reduceEq, Int.reduceNeg, Nat.reducePow, List.reduceReplicate, Int.reduceLE, hz, hb, hbt, h300, hrl, hrt, eq_self])
        | (with_reducible refine qops.step fun T hT => ?_; simp (disch := omega) only [go_sem, Nat.reduceBEq, Nat.reduceLT, Nat.reduceEqDiff, reduceIte, Nat.reduceAdd, Nat.reduceMul, Nat.reduceSub, Nat.reduceLeDiff, Int.reduceToNat, Int.reducePow, Int.reduceLT, Int.reduceEq, Int.reduceNeg, Nat.reducePow, List.reduceReplicate, Int.reduceLE, hz, hb, hbt, h300, hrl, hrt, eq_self])
        | (with_reducible refine aops.nil ?_)
        | (with_reducible refine qops.nil ?_)
        | (with_reducible refine hT _ ?_; clear hT T)
        | (refine AWP.skip ?_; try simp only [AExit.then, AExit.inBlock, reduceIte, Nat.reduceEqDiff])
        | (refine AWP.exit ?_; try simp only [AExit.then, AExit.inBlock, reduceIte, Nat.reduceEqDiff])
        | (refine AWP.ret ?_; try simp only [AExit.then, AExit.inBlock, reduceIte, Nat.reduceEqDiff])
        | (refine AWP.cond rfl (fun h => ?_) (fun h => ?_) <;> (try simp only [decide_eq_true_eq, decide_eq_false_iff_not, Bool.true_eq_false, Bool.false_eq_true] at h) <;> (try contradiction))
        | (refine hQ' _ _ ?_; clear hQ' Q'; try simp only [AExit.then, AExit.inBlock, reduceIte, Nat.reduceEqDiff])
        | (refine hQ' _ ?_; clear hQ' Q'; try simp only [AExit.then, AExit.inBlock, reduceIte, Nat.reduceEqDiff])
        | (with_reducible refine Branch.split (fun h => ?_) (fun h => ?_) <;> (try simp only [decide_eq_true_eq, decide_eq_false_iff_not, Bool.not_true, Bool.not_false, Bool.true_eq_false, Bool.false_eq_true] at h) <;> (try contradiction) <;> (simp (disch := omega) only [go_sem, Nat.reduceBEq, Nat.reduceLT, Nat.reduceEqDiff, reduceIte, Nat.reduceAdd, Nat.reduceMul, Nat.reduceSub, Nat.reduceLeDiff, Int.reduceToNat, Int.reducePow, Int.reduceLT, Int.reduceEq, Int.reduceNeg, Nat.reducePow, List.reduceReplicate, Int.reduceLE, h, hz, hb, hbt, h300, hrl, hrt, eq_self]))
        | (with_reducible intro h; try simp only [h, go_sem, Nat.reduceBEq, Nat.reduceLT, Nat.reduceEqDiff, reduceIte, Nat.reduceAdd, Nat.reduceMul, Nat.reduceSub, Nat.reduceLeDiff, Int.reduceToNat, Int.reducePow, Int.reduceLT, Int.reduceEq, Int.reduceNeg, Nat.reducePow, List.reduceReplicate, Int.reduceLE, hz, hb, hbt, h300, hrl, hrt, eq_self])
        | ((first | (with_reducible refine acall.det (aliveJ_spec _) ?_) | (with_reducible refine qcall.det (aliveJ_spec _) ?_) | (with_reducible refine acall.det (l1 _) ?_) | (with_reducible refine qcall.det (l1 _) ?_) | (with_reducible refine acall.det (l2 _) ?_) | (with_reducible refine qcall.det (l2 _) ?_) | (with_reducible refine acall.det (f1 _) ?_) | (with_reducible refine qcall.det (f1 _) ?_) | (with_reducible refine acall.det (f2 _) ?_) | (with_reducible refine qcall.det (f2 _) ?_) | (with_reducible refine acall.det (f3 _) ?_) | (with_reducible refine qcall.det (f3 _) ?_)); try simp (disch := omega) only [go_sem, Nat.reduceBEq, Nat.reduceLT, Nat.reduceEqDiff, reduceIte, Nat.reduceAdd, Nat.reduceMul, Nat.reduceSub, Nat.reduceLeDiff, Int.reduceToNat, Int.reducePow, Int.reduceLT, Int.reduceEq, Int.reduceNeg, Nat.reducePow, List.reduceReplicate, Int.reduceLE, hz, hb, hbt, h300, hrl, hrt, eq_self]))
      simp only [bodyQ, go_sem, Nat.reduceBEq, Nat.reduceLT, Nat.reduceEqDiff, reduceIte, Nat.reduceAdd, Nat.reduceMul, Nat.reduceSub, Nat.reduceLeDiff, Int.reduceToNat, Int.reducePow, Int.reduceLT, Int.reduceEq, Int.reduceNeg, Nat.reducePow, List.reduceReplicate, Int.reduceLE]
      exact Fin.cut (.v _) ⟨rfl, rfl⟩
  · have hzt : (zerosB 64).take 64 = zerosB 64 := List.take_of_length_le (by omega)
    rw [if_neg hm, if_neg hm] at l1 l2
    by_cases he : e = 0
    · obtain ⟨m1, m2⟩ := hfo he
      have l3 := lay_ok _ m1
      rw [m2] at l3
      subst he
      obtain ⟨q, g, n⟩ := x
      dsimp only at *
      intro base
      refine acall_body Try.func3 rfl (fun a w => Try.call3 a w) Try.ntmps3 Try.results3 (by simp) ?_
      intro w β hI
      simp only [number]
      repeat' (first
        | (refine AWP.seq ?_)
        | (refine AWP.block ?_)
        | (refine AWP.region_k fun Q' hQ' => ?_)
        | (refine AWP.drawT_k rfl (by decide +kernel) fun Q' hQ' => ?_; simp only [List.length_cons, List.length_nil, Nat.reduceAdd, Nat.reduceSub, List.take_succ_cons, List.take_zero, List.drop_succ_cons, List.drop_zero])
        | (refine AWP.draw_k rfl (by kernel_rfl) fun Q' hQ' => ?_)
        | (with_reducible refine aops.step fun T hT => ?_; simp (disch := omega) only [go_sem, Nat.reduceBEq, Nat.reduceLT, Nat.reduceEqDiff, reduceIte, Nat.reduceAdd, Nat.reduceMul, Nat.reduceSub, Nat.reduceLeDiff, Int.reduceToNat, Int.reducePow, Int.reduceLT, Int.reduceEq, Int.reduceNeg, Nat.reducePow, List.reduceReplicate, Int.reduceLE, hz, hzt, hb, hbt, h300, eq_self])
        | (with_reducible refine qops.step fun T hT => ?_; simp (disch := omega) only [go_sem, Nat.reduceBEq, Nat.reduceLT, Nat.reduceEqDiff, reduceIte, Nat.reduceAdd, Nat.reduceMul, Nat.reduceSub, Nat.reduceLeDiff, Int.reduceToNat, Int.reducePow, Int.reduceLT, Int.reduceEq, Int.reduceNeg, Nat.reducePow, List.reduceReplicate, Int.reduceLE, hz, hzt, hb, hbt, h300, eq_self])
        | (with_reducible refine aops.nil ?_)
        | (with_reducible refine qops.nil ?_)
        | (with_reducible refine hT _ ?_; clear hT T)
        | (refine AWP.skip ?_; try simp only [AExit.then, AExit.inBlock, reduceIte, Nat.reduceEqDiff])
        | (refine AWP.exit ?_; try simp only [AExit.then, AExit.inBlock, reduceIte, Nat.reduceEqDiff])
        | (refine AWP.ret ?_; try simp only [AExit.then, AExit.inBlock, reduceIte, Nat.reduceEqDiff])
        | (refine AWP.cond rfl (fun h => ?_) (fun h => ?_) <;> (try simp only [decide_eq_true_eq, decide_eq_false_iff_not, Bool.true_eq_false, Bool.false_eq_true] at h) <;> (try contradiction))
        | (refine hQ' _ _ ?_; clear hQ' Q'; try simp only [AExit.then, AExit.inBlock, reduceIte, Nat.reduceEqDiff])
        | (refine hQ' _ ?_; clear hQ' Q'; try simp only [AExit.then, AExit.inBlock, reduceIte, Nat.reduceEqDiff])
        | (with_reducible refine Branch.split (fun h => ?_) (fun h => ?_) <;> (try simp only [decide_eq_true_eq, decide_eq_false_iff_not, Bool.not_true, Bool.not_false, Bool.true_eq_false, Bool.false_eq_true] at h) <;> (try contradiction) <;> (simp (disch := omega) only [go_sem, Nat.reduceBEq, Nat.reduceLT, Nat.reduceEqDiff, reduceIte, Nat.reduceAdd, Nat.reduceMul, Nat.reduceSub, Nat.reduceLeDiff, Int.reduceToNat, Int.reducePow, Int.reduceLT, Int.reduceEq, Int.reduceNeg, Nat.reducePow, List.reduceReplicate, Int.reduceLE, h, hz, hzt, hb, hbt, h300, eq_self]))
        | (with_reducible intro h; try simp only [h, go_sem, Nat.reduceBEq, Nat.reduceLT, Nat.reduceEqDiff, reduceIte, Nat.reduceAdd, Nat.reduceMul, Nat.reduceSub, Nat.reduceLeDiff, Int.reduceToNat, Int.reducePow, Int.reduceLT, Int.reduceEq, Int.reduceNeg, Nat.reducePow, List.reduceReplicate, Int.reduceLE, hz, hzt, hb, hbt, h300, eq_self])
        | ((first | (with_reducible refine acall.det (aliveJ_spec _) ?_) | (with_reducible refine qcall.det (aliveJ_spec _) ?_) | (with_reducible refine acall.det (l1 _) ?_) | (with_reducible refine qcall.det (l1 _) ?_) | (with_reducible refine acall.det (l2 _) ?_) | (with_reducible refine qcall.det (l2 _) ?_) | (with_reducible refine acall.det (f1 _) ?_) | (with_reducible refine qcall.det (f1 _) ?_) | (with_reducible refine acall.det (f2 _) ?_) | (with_reducible refine qcall.det (f2 _) ?_) | (with_reducible refine acall.det (l3 _) ?_) | (with_reducible refine qcall.det (l3 _) ?_)); try simp (disch := omega) only [go_sem, Nat.reduceBEq, Nat.reduceLT, Nat.reduceEqDiff, reduceIte, Nat.reduceAdd, Nat.reduceMul, Nat.reduceSub, Nat.reduceLeDiff, Int.reduceToNat, Int.reducePow, Int.reduceLT, Int.reduceEq, Int.reduceNeg, Nat.reducePow, List.reduceReplicate, Int.reduceLE, hz, hzt, hb, hbt, h300, eq_self]))
      simp only [bodyQ, go_sem, Nat.reduceBEq, Nat.reduceLT, Nat.reduceEqDiff, reduceIte, Nat.reduceAdd, Nat.reduceMul, Nat.reduceSub, Nat.reduceLeDiff, Int.reduceToNat, Int.reducePow, Int.reduceLT, Int.reduceEq, Int.reduceNeg, Nat.reducePow, List.reduceReplicate, Int.reduceLE]
      exact Fin.cut (.v _) ⟨rfl, rfl⟩
    · have h10 := hfb he
      injection h10 with h10 e10
      injection h10 with e1 e2 e3
      subst e1; subst e2; subst e3; subst e10
      obtain ⟨q, g, n⟩ := x
      dsimp only at *
      intro base
      refine acall_body Try.func3 rfl (fun a w => Try.call3 a w) Try.ntmps3 Try.results3 (by simp) ?_
      intro w β hI
      simp only [number]
      repeat' (first
        | (refine AWP.seq ?_)
        | (refine AWP.block ?_)
        | (refine AWP.region_k fun Q' hQ' => ?_)
        | (refine AWP.drawT_k rfl (by decide +kernel) fun Q' hQ' => ?_; simp only [List.length_cons, List.length_nil, Nat.reduceAdd, Nat.reduceSub, List.take_succ_cons, List.take_zero, List.drop_succ_cons, List.drop_zero])
        | (refine AWP.draw_k rfl (by kernel_rfl) fun Q' hQ' => ?_)
        | (with_reducible refine aops.step fun T hT => ?_; simp (disch := omega) only [go_sem, Nat.reduceBEq, Nat.reduceLT, Nat.reduceEqDiff, reduceIte, Nat.reduceAdd, Nat.reduceMul, Nat.reduceSub, Nat.reduceLeDiff, Int.reduceToNat, Int.reducePow, Int.reduceLT, Int.reduceEq, Int.reduceNeg, Nat.reducePow, List.reduceReplicate, Int.reduceLE, hz, hzt, hb, hbt, h300, eq_self])
        | (with_reducible refine qops.step fun T hT => ?_; simp (disch := omega) only [go_sem, Nat.reduceBEq, Nat.reduceLT, Nat.reduceEqDiff, reduceIte, Nat.reduceAdd, Nat.reduceMul, Nat.reduceSub, Nat.reduceLeDiff, Int.reduceToNat, Int.reducePow, Int.reduceLT, Int.reduceEq, Int.reduceNeg, Nat.reducePow, List.reduceReplicate, Int.reduceLE, hz, hzt, hb, hbt, h300, eq_self])
        | (with_reducible refine aops.nil ?_)
        | (with_reducible refine qops.nil ?_)
        | (with_reducible refine hT _ ?_; clear hT T)
        | (refine AWP.skip ?_; try simp only [AExit.then, AExit.inBlock, reduceIte, Nat.reduceEqDiff])
        | (refine AWP.exit ?_; try simp only [AExit.then, AExit.inBlock, reduceIte, Nat.reduceEqDiff])
        | (refine AWP.ret ?_; try simp only [AExit.then, AExit.inBlock, reduceIte, Nat.reduceEqDiff])
        | (refine AWP.cond rfl (fun h => ?_) (fun h => ?_) <;> (try simp only [decide_eq_true_eq, decide_eq_false_iff_not, Bool.true_eq_false, Bool.false_eq_true] at h) <;> (try contradiction))
        | (refine hQ' _ _ ?_; clear hQ' Q'; try simp only [AExit.then, AExit.inBlock, reduceIte, Nat.reduceEqDiff])
        | (refine hQ' _ ?_; clear hQ' Q'; try simp only [AExit.then, AExit.inBlock, reduceIte, Nat.reduceEqDiff])
        | (with_reducible refine Branch.split (fun h => ?_) (fun h => ?_) <;> (try simp only [decide_eq_true_eq, decide_eq_false_iff_not, Bool.not_true, Bool.not_false, Bool.true_eq_false, Bool.false_eq_true] at h) <;> (try contradiction) <;> (simp (disch := omega) only [go_sem, Nat.reduceBEq, Nat.reduceLT, Nat.reduceEqDiff, reduceIte, Nat.reduceAdd, Nat.reduceMul, Nat.reduceSub, Nat.reduceLeDiff, Int.reduceToNat, Int.reducePow, Int.reduceLT, Int.reduceEq, Int.reduceNeg, Nat.reducePow, List.reduceReplicate, Int.reduceLE, h, hz, hzt, hb, hbt, h300, eq_self]))
        | (with_reducible intro h; try simp only [h, go_sem, Nat.reduceBEq, Nat.reduceLT, Nat.reduceEqDiff, reduceIte, Nat.reduceAdd, Nat.reduceMul, Nat.reduceSub, Nat.reduceLeDiff, Int.reduceToNat, Int.reducePow, Int.reduceLT, Int.reduceEq, Int.reduceNeg, Nat.reducePow, List.reduceReplicate, Int.reduceLE, hz, hzt, hb, hbt, h300, eq_self])
        | ((first | (with_reducible refine acall.det (aliveJ_spec _) ?_) | (with_reducible refine qcall.det (aliveJ_spec _) ?_) | (with_reducible refine acall.det (l1 _) ?_) | (with_reducible refine qcall.det (l1 _) ?_) | (with_reducible refine acall.det (l2 _) ?_) | (with_reducible refine qcall.det (l2 _) ?_) | (with_reducible refine acall.det (f1 _) ?_) | (with_reducible refine qcall.det (f1 _) ?_) | (with_reducible refine acall.det (f2 _) ?_) | (with_reducible refine qcall.det (f2 _) ?_)); try simp (disch := omega) only [go_sem, Nat.reduceBEq, Nat.reduceLT, Nat.reduceEqDiff, reduceIte, Nat.reduceAdd, Nat.reduceMul, Nat.reduceSub, Nat.reduceLeDiff, Int.reduceToNat, Int.reducePow, Int.reduceLT, Int.reduceEq, Int.reduceNeg, Nat.reducePow, List.reduceReplicate, Int.reduceLE, hz, hzt, hb, hbt, h300, eq_self]))
      simp only [bodyQ, go_sem, Nat.reduceBEq, Nat.reduceLT, Nat.reduceEqDiff, reduceIte, Nat.reduceAdd, Nat.reduceMul, Nat.reduceSub, Nat.reduceLeDiff, Int.reduceToNat, Int.reducePow, Int.reduceLT, Int.reduceEq, Int.reduceNeg, Nat.reducePow, List.reduceReplicate, Int.reduceLE]
      exact Fin.cut (.v _) ⟨rfl, rfl⟩

end Go.Proofs.Ytadajfahlgekiaa.VL
