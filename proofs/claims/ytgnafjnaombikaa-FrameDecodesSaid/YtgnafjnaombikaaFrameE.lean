/- Layer 3: the law of there and back. -/
import Derived.Test.YtgnafjnaombikaaFrameD
-- STEPWISE
set_option linter.unusedVariables false
set_option linter.unusedSimpArgs false
set_option maxRecDepth 10000
namespace Go.Proofs.Ytgnafjnaombikaa.VL
open Go Go.RowKit Go.Lib

theorem encode_ok (f : Fr) (h : frRight f = true) (H : List Box) : ASpec Try.prog 16 [.agg [vi f.k, vs f.c, vi f.n, vB f.p]] H (Gives (.tup [vB (frB f), vi 0]) H) := by
  have hr := frRight_spec h
  have := encode_spec f (by omega) (by omega) H
  unfold encV at this
  rw [if_pos h] at this
  exact this
theorem decode_frB (f : Fr) (h : frRight f = true) (H : List Box) : ASpec Try.prog 12 [vB (frB f), vs f.c] H (Gives (frDW f.k f.c f.n f.p 0) H) := by
  have := decode_spec (frB f) f.c (by have := frB_length f h; omega) H
  rw [frD_frB h, if_pos rfl] at this
  exact this
theorem decode_frB' (f : Fr) (h : frRight f = true) (cl : List UInt8) (hc : ¬ f.c = cl) (H : List Box) : ASpec Try.prog 12 [vB (frB f), vs cl] H (Gives (frDW 0 [] 0 [] 6) H) := by
  have := decode_spec (frB f) cl (by have := frB_length f h; omega) H
  rw [frD_frB h, if_neg hc] at this
  exact this

set_option maxHeartbeats 4000000 in
theorem frameBack_spec (f : Fr) (bs cl : List UInt8) (hf : f.p.length ≤ 9223372036854775807) (hc : f.c.length ≤ 9223372036854775807) (hcl : cl.length ≤ 9223372036854775807) (H : List Box) :
    ASpec Try.prog 4 [frV f, vB bs, vs cl] H (Gives (vb true) H) := by
  have g1 := fun H => great_spec f hf hc H
  cases hg : frGreat f with
  | true =>
    rw [hg] at g1
    obtain ⟨k, c, n, p⟩ := f
    try simp only [frV] at *
    intro base
    refine acall_body Try.func4 rfl (fun a w => Try.call4 a w) Try.ntmps4 Try.results4 (by simp) ?_
    intro w β hI
    simp only [number]
    repeat' (first
      | (refine AWP.seq ?_)
      | (refine AWP.block ?_)
      | (refine AWP.region_k fun Q' hQ' => ?_)
      | (refine AWP.draw_k rfl (by kernel_rfl) fun Q' hQ' => ?_)
      | (with_reducible refine aops.step fun T hT => ?_; simp (disch := omega) only [go_sem, Nat.reduceBEq, Nat.reduceLT, Nat.reduceEqDiff, reduceIte, Nat.reduceAdd, Nat.reduceMul, Nat.reduceSub, Nat.reduceLeDiff, Int.reduceToNat, Int.reducePow, Int.reduceLT, Int.reduceEq, Int.reduceNeg, Nat.reducePow, List.reduceReplicate, Int.reduceLE])
      | (with_reducible refine qops.step fun T hT => ?_; simp (disch := omega) only [go_sem, Nat.reduceBEq, Nat.reduceLT, Nat.reduceEqDiff, reduceIte, Nat.reduceAdd, Nat.reduceMul, Nat.reduceSub, Nat.reduceLeDiff, Int.reduceToNat, Int.reducePow, Int.reduceLT, Int.reduceEq, Int.reduceNeg, Nat.reducePow, List.reduceReplicate, Int.reduceLE])
      | (with_reducible refine aops.nil ?_)
      | (with_reducible refine qops.nil ?_)
      | (with_reducible refine hT _ ?_; clear hT T)
      | (refine AWP.skip ?_; try simp only [AExit.then, AExit.inBlock, reduceIte, Nat.reduceEqDiff])
      | (refine AWP.exit ?_; try simp only [AExit.then, AExit.inBlock, reduceIte, Nat.reduceEqDiff])
      | (refine AWP.ret ?_; try simp only [AExit.then, AExit.inBlock, reduceIte, Nat.reduceEqDiff])
      | (refine AWP.cond rfl (fun h => ?_) (fun h => ?_) <;> (try simp only [decide_eq_true_eq, decide_eq_false_iff_not, Bool.true_eq_false, Bool.false_eq_true] at h) <;> (try contradiction))
      | (refine hQ' _ _ ?_; clear hQ' Q'; try simp only [AExit.then, AExit.inBlock, reduceIte, Nat.reduceEqDiff])
      | (refine hQ' _ ?_; clear hQ' Q'; try simp only [AExit.then, AExit.inBlock, reduceIte, Nat.reduceEqDiff])
      | (with_reducible refine Branch.split (fun h => ?_) (fun h => ?_) <;> (try simp only [decide_eq_true_eq, decide_eq_false_iff_not, Bool.not_true, Bool.not_false, Bool.true_eq_false, Bool.false_eq_true] at h) <;> (try contradiction) <;> (simp (disch := omega) only [go_sem, Nat.reduceBEq, Nat.reduceLT, Nat.reduceEqDiff, reduceIte, Nat.reduceAdd, Nat.reduceMul, Nat.reduceSub, Nat.reduceLeDiff, Int.reduceToNat, Int.reducePow, Int.reduceLT, Int.reduceEq, Int.reduceNeg, Nat.reducePow, List.reduceReplicate, Int.reduceLE, h]))
      | (with_reducible intro h; try simp only [h, go_sem, Nat.reduceBEq, Nat.reduceLT, Nat.reduceEqDiff, reduceIte, Nat.reduceAdd, Nat.reduceMul, Nat.reduceSub, Nat.reduceLeDiff, Int.reduceToNat, Int.reducePow, Int.reduceLT, Int.reduceEq, Int.reduceNeg, Nat.reducePow, List.reduceReplicate, Int.reduceLE])
      | ((first | (with_reducible refine acall.det (alive_spec _) ?_) | (with_reducible refine qcall.det (alive_spec _) ?_) | (with_reducible refine acall.det (g1 _) ?_) | (with_reducible refine qcall.det (g1 _) ?_)); try simp (disch := omega) only [go_sem, Nat.reduceBEq, Nat.reduceLT, Nat.reduceEqDiff, reduceIte, Nat.reduceAdd, Nat.reduceMul, Nat.reduceSub, Nat.reduceLeDiff, Int.reduceToNat, Int.reducePow, Int.reduceLT, Int.reduceEq, Int.reduceNeg, Nat.reducePow, List.reduceReplicate, Int.reduceLE]))
    simp only [bodyQ, go_sem, Nat.reduceBEq, Nat.reduceLT, Nat.reduceEqDiff, reduceIte, Nat.reduceAdd, Nat.reduceMul, Nat.reduceSub, Nat.reduceLeDiff, Int.reduceToNat, Int.reducePow, Int.reduceLT, Int.reduceEq, Int.reduceNeg, Nat.reducePow, List.reduceReplicate, Int.reduceLE]
    exact Fin.cut (.v _) ⟨rfl, rfl⟩
  | false =>
  rw [hg] at g1
  have b1 := frGreat_false hg
  by_cases hl : (4000 : Int) < (bs.length : Int)
  · obtain ⟨k, c, n, p⟩ := f
    try simp only [frV] at *
    intro base
    refine acall_body Try.func4 rfl (fun a w => Try.call4 a w) Try.ntmps4 Try.results4 (by simp) ?_
    intro w β hI
    simp only [number]
    repeat' (first
      | (refine AWP.seq ?_)
      | (refine AWP.block ?_)
      | (refine AWP.region_k fun Q' hQ' => ?_)
      | (refine AWP.draw_k rfl (by kernel_rfl) fun Q' hQ' => ?_)
      | (with_reducible refine aops.step fun T hT => ?_; simp (disch := omega) only [go_sem, Nat.reduceBEq, Nat.reduceLT, Nat.reduceEqDiff, reduceIte, Nat.reduceAdd, Nat.reduceMul, Nat.reduceSub, Nat.reduceLeDiff, Int.reduceToNat, Int.reducePow, Int.reduceLT, Int.reduceEq, Int.reduceNeg, Nat.reducePow, List.reduceReplicate, Int.reduceLE, hl])
      | (with_reducible refine qops.step fun T hT => ?_; simp (disch := omega) only [go_sem, Nat.reduceBEq, Nat.reduceLT, Nat.reduceEqDiff, reduceIte, Nat.reduceAdd, Nat.reduceMul, Nat.reduceSub, Nat.reduceLeDiff, Int.reduceToNat, Int.reducePow, Int.reduceLT, Int.reduceEq, Int.reduceNeg, Nat.reducePow, List.reduceReplicate, Int.reduceLE, hl])
      | (with_reducible refine aops.nil ?_)
      | (with_reducible refine qops.nil ?_)
      | (with_reducible refine hT _ ?_; clear hT T)
      | (refine AWP.skip ?_; try simp only [AExit.then, AExit.inBlock, reduceIte, Nat.reduceEqDiff])
      | (refine AWP.exit ?_; try simp only [AExit.then, AExit.inBlock, reduceIte, Nat.reduceEqDiff])
      | (refine AWP.ret ?_; try simp only [AExit.then, AExit.inBlock, reduceIte, Nat.reduceEqDiff])
      | (refine AWP.cond rfl (fun h => ?_) (fun h => ?_) <;> (try simp only [decide_eq_true_eq, decide_eq_false_iff_not, Bool.true_eq_false, Bool.false_eq_true] at h) <;> (try contradiction))
      | (refine hQ' _ _ ?_; clear hQ' Q'; try simp only [AExit.then, AExit.inBlock, reduceIte, Nat.reduceEqDiff])
      | (refine hQ' _ ?_; clear hQ' Q'; try simp only [AExit.then, AExit.inBlock, reduceIte, Nat.reduceEqDiff])
      | (with_reducible refine Branch.split (fun h => ?_) (fun h => ?_) <;> (try simp only [decide_eq_true_eq, decide_eq_false_iff_not, Bool.not_true, Bool.not_false, Bool.true_eq_false, Bool.false_eq_true] at h) <;> (try contradiction) <;> (simp (disch := omega) only [go_sem, Nat.reduceBEq, Nat.reduceLT, Nat.reduceEqDiff, reduceIte, Nat.reduceAdd, Nat.reduceMul, Nat.reduceSub, Nat.reduceLeDiff, Int.reduceToNat, Int.reducePow, Int.reduceLT, Int.reduceEq, Int.reduceNeg, Nat.reducePow, List.reduceReplicate, Int.reduceLE, h, hl]))
      | (with_reducible intro h; try simp only [h, go_sem, Nat.reduceBEq, Nat.reduceLT, Nat.reduceEqDiff, reduceIte, Nat.reduceAdd, Nat.reduceMul, Nat.reduceSub, Nat.reduceLeDiff, Int.reduceToNat, Int.reducePow, Int.reduceLT, Int.reduceEq, Int.reduceNeg, Nat.reducePow, List.reduceReplicate, Int.reduceLE, hl])
      | ((first | (with_reducible refine acall.det (alive_spec _) ?_) | (with_reducible refine qcall.det (alive_spec _) ?_) | (with_reducible refine acall.det (g1 _) ?_) | (with_reducible refine qcall.det (g1 _) ?_)); try simp (disch := omega) only [go_sem, Nat.reduceBEq, Nat.reduceLT, Nat.reduceEqDiff, reduceIte, Nat.reduceAdd, Nat.reduceMul, Nat.reduceSub, Nat.reduceLeDiff, Int.reduceToNat, Int.reducePow, Int.reduceLT, Int.reduceEq, Int.reduceNeg, Nat.reducePow, List.reduceReplicate, Int.reduceLE, hl]))
    simp only [bodyQ, go_sem, Nat.reduceBEq, Nat.reduceLT, Nat.reduceEqDiff, reduceIte, Nat.reduceAdd, Nat.reduceMul, Nat.reduceSub, Nat.reduceLeDiff, Int.reduceToNat, Int.reducePow, Int.reduceLT, Int.reduceEq, Int.reduceNeg, Nat.reducePow, List.reduceReplicate, Int.reduceLE]
    exact Fin.cut (.v _) ⟨rfl, rfl⟩
  by_cases hl3 : (300 : Int) < (cl.length : Int)
  · obtain ⟨k, c, n, p⟩ := f
    try simp only [frV] at *
    intro base
    refine acall_body Try.func4 rfl (fun a w => Try.call4 a w) Try.ntmps4 Try.results4 (by simp) ?_
    intro w β hI
    simp only [number]
    repeat' (first
      | (refine AWP.seq ?_)
      | (refine AWP.block ?_)
      | (refine AWP.region_k fun Q' hQ' => ?_)
      | (refine AWP.draw_k rfl (by kernel_rfl) fun Q' hQ' => ?_)
      | (with_reducible refine aops.step fun T hT => ?_; simp (disch := omega) only [go_sem, Nat.reduceBEq, Nat.reduceLT, Nat.reduceEqDiff, reduceIte, Nat.reduceAdd, Nat.reduceMul, Nat.reduceSub, Nat.reduceLeDiff, Int.reduceToNat, Int.reducePow, Int.reduceLT, Int.reduceEq, Int.reduceNeg, Nat.reducePow, List.reduceReplicate, Int.reduceLE, hl, hl3])
      | (with_reducible refine qops.step fun T hT => ?_; simp (disch := omega) only [go_sem, Nat.reduceBEq, Nat.reduceLT, Nat.reduceEqDiff, reduceIte, Nat.reduceAdd, Nat.reduceMul, Nat.reduceSub, Nat.reduceLeDiff, Int.reduceToNat, Int.reducePow, Int.reduceLT, Int.reduceEq, Int.reduceNeg, Nat.reducePow, List.reduceReplicate, Int.reduceLE, hl, hl3])
      | (with_reducible refine aops.nil ?_)
      | (with_reducible refine qops.nil ?_)
      | (with_reducible refine hT _ ?_; clear hT T)
      | (refine AWP.skip ?_; try simp only [AExit.then, AExit.inBlock, reduceIte, Nat.reduceEqDiff])
      | (refine AWP.exit ?_; try simp only [AExit.then, AExit.inBlock, reduceIte, Nat.reduceEqDiff])
      | (refine AWP.ret ?_; try simp only [AExit.then, AExit.inBlock, reduceIte, Nat.reduceEqDiff])
      | (refine AWP.cond rfl (fun h => ?_) (fun h => ?_) <;> (try simp only [decide_eq_true_eq, decide_eq_false_iff_not, Bool.true_eq_false, Bool.false_eq_true] at h) <;> (try contradiction))
      | (refine hQ' _ _ ?_; clear hQ' Q'; try simp only [AExit.then, AExit.inBlock, reduceIte, Nat.reduceEqDiff])
      | (refine hQ' _ ?_; clear hQ' Q'; try simp only [AExit.then, AExit.inBlock, reduceIte, Nat.reduceEqDiff])
      | (with_reducible refine Branch.split (fun h => ?_) (fun h => ?_) <;> (try simp only [decide_eq_true_eq, decide_eq_false_iff_not, Bool.not_true, Bool.not_false, Bool.true_eq_false, Bool.false_eq_true] at h) <;> (try contradiction) <;> (simp (disch := omega) only [go_sem, Nat.reduceBEq, Nat.reduceLT, Nat.reduceEqDiff, reduceIte, Nat.reduceAdd, Nat.reduceMul, Nat.reduceSub, Nat.reduceLeDiff, Int.reduceToNat, Int.reducePow, Int.reduceLT, Int.reduceEq, Int.reduceNeg, Nat.reducePow, List.reduceReplicate, Int.reduceLE, h, hl, hl3]))
      | (with_reducible intro h; try simp only [h, go_sem, Nat.reduceBEq, Nat.reduceLT, Nat.reduceEqDiff, reduceIte, Nat.reduceAdd, Nat.reduceMul, Nat.reduceSub, Nat.reduceLeDiff, Int.reduceToNat, Int.reducePow, Int.reduceLT, Int.reduceEq, Int.reduceNeg, Nat.reducePow, List.reduceReplicate, Int.reduceLE, hl, hl3])
      | ((first | (with_reducible refine acall.det (alive_spec _) ?_) | (with_reducible refine qcall.det (alive_spec _) ?_) | (with_reducible refine acall.det (g1 _) ?_) | (with_reducible refine qcall.det (g1 _) ?_)); try simp (disch := omega) only [go_sem, Nat.reduceBEq, Nat.reduceLT, Nat.reduceEqDiff, reduceIte, Nat.reduceAdd, Nat.reduceMul, Nat.reduceSub, Nat.reduceLeDiff, Int.reduceToNat, Int.reducePow, Int.reduceLT, Int.reduceEq, Int.reduceNeg, Nat.reducePow, List.reduceReplicate, Int.reduceLE, hl, hl3]))
    simp only [bodyQ, go_sem, Nat.reduceBEq, Nat.reduceLT, Nat.reduceEqDiff, reduceIte, Nat.reduceAdd, Nat.reduceMul, Nat.reduceSub, Nat.reduceLeDiff, Int.reduceToNat, Int.reducePow, Int.reduceLT, Int.reduceEq, Int.reduceNeg, Nat.reducePow, List.reduceReplicate, Int.reduceLE]
    exact Fin.cut (.v _) ⟨rfl, rfl⟩
  have d1 := fun H => decode_spec bs cl (by omega) H
  have hdl := frD_len bs cl
  have hz := frD_zero (b := bs) (cl := cl)
  have ho := frD_once (b := bs) (cl := cl)
  generalize frD bs cl = d at d1 hdl hz ho
  obtain ⟨⟨k2, c2, n2, p2⟩, e2⟩ := d
  dsimp only at hdl hz ho
  have d1 : ∀ H, ASpec Try.prog 12 [vB bs, vs cl] H (Gives (frDW k2 c2 n2 p2 e2) H) := d1
  have q := fun H => same_spec bs bs (by omega) (by omega) H
  simp only [decide_true] at q
  have hs3 := fun H => refSame_spec f f (by omega) (by omega) H
  rw [frSame_self] at hs3
  have e1 := fun H => encode_spec f (by omega) (by omega) H
  unfold encV at e1
  by_cases he2 : e2 = 0
  · subst he2
    obtain ⟨o1, o2, o3⟩ := ho rfl
    have e2 := encode_ok ⟨k2, c2, n2, p2⟩ o1
    rw [o2] at e2
    cases hr : frRight f with
    | true =>
      have hbl := frB_length f hr
      rw [if_pos hr] at e1
      have d2 := decode_frB f hr
      by_cases hcc : f.c = cl
      · subst hcc
        generalize frB f = x at e1 d2 hbl
        obtain ⟨k, c, n, p⟩ := f
        try simp only [frV] at *
        intro base
        refine acall_body Try.func4 rfl (fun a w => Try.call4 a w) Try.ntmps4 Try.results4 (by simp) ?_
        intro w β hI
        simp only [number]
        repeat' (first
          | (refine AWP.seq ?_)
          | (refine AWP.block ?_)
          | (refine AWP.region_k fun Q' hQ' => ?_)
          | (refine AWP.draw_k rfl (by kernel_rfl) fun Q' hQ' => ?_)
          | (with_reducible refine aops.step fun T hT => ?_; simp (disch := omega) only [go_sem, Nat.reduceBEq, Nat.reduceLT, Nat.reduceEqDiff, reduceIte, Nat.reduceAdd, Nat.reduceMul, Nat.reduceSub, Nat.reduceLeDiff, Int.reduceToNat, Int.reducePow, Int.reduceLT, Int.reduceEq, Int.reduceNeg, Nat.reducePow, List.reduceReplicate, Int.reduceLE, hl, hl3, eq_self])
          | (with_reducible refine qops.step fun T hT => ?_; simp (disch := omega) only [go_sem, Nat.reduceBEq, Nat.reduceLT, Nat.reduceEqDiff, reduceIte, Nat.reduceAdd, Nat.reduceMul, Nat.reduceSub, Nat.reduceLeDiff, Int.reduceToNat, Int.reducePow, Int.reduceLT, Int.reduceEq, Int.reduceNeg, Nat.reducePow, List.reduceReplicate, Int.reduceLE, hl, hl3, eq_self])
          | (with_reducible refine aops.nil ?_)
          | (with_reducible refine qops.nil ?_)
          | (with_reducible refine hT _ ?_; clear hT T)
          | (refine AWP.skip ?_; try simp only [AExit.then, AExit.inBlock, reduceIte, Nat.reduceEqDiff])
          | (refine AWP.exit ?_; try simp only [AExit.then, AExit.inBlock, reduceIte, Nat.reduceEqDiff])
          | (refine AWP.ret ?_; try simp only [AExit.then, AExit.inBlock, reduceIte, Nat.reduceEqDiff])
          | (refine AWP.cond rfl (fun h => ?_) (fun h => ?_) <;> (try simp only [decide_eq_true_eq, decide_eq_false_iff_not, Bool.true_eq_false, Bool.false_eq_true] at h) <;> (try contradiction))
          | (refine hQ' _ _ ?_; clear hQ' Q'; try simp only [AExit.then, AExit.inBlock, reduceIte, Nat.reduceEqDiff])
          | (refine hQ' _ ?_; clear hQ' Q'; try simp only [AExit.then, AExit.inBlock, reduceIte, Nat.reduceEqDiff])
          | (with_reducible refine Branch.split (fun h => ?_) (fun h => ?_) <;> (try simp only [decide_eq_true_eq, decide_eq_false_iff_not, Bool.not_true, Bool.not_false, Bool.true_eq_false, Bool.false_eq_true] at h) <;> (try contradiction) <;> (simp (disch := omega) only [go_sem, Nat.reduceBEq, Nat.reduceLT, Nat.reduceEqDiff, reduceIte, Nat.reduceAdd, Nat.reduceMul, Nat.reduceSub, Nat.reduceLeDiff, Int.reduceToNat, Int.reducePow, Int.reduceLT, Int.reduceEq, Int.reduceNeg, Nat.reducePow, List.reduceReplicate, Int.reduceLE, h, hl, hl3, eq_self]))
          | (with_reducible intro h; try simp only [h, go_sem, Nat.reduceBEq, Nat.reduceLT, Nat.reduceEqDiff, reduceIte, Nat.reduceAdd, Nat.reduceMul, Nat.reduceSub, Nat.reduceLeDiff, Int.reduceToNat, Int.reducePow, Int.reduceLT, Int.reduceEq, Int.reduceNeg, Nat.reducePow, List.reduceReplicate, Int.reduceLE, hl, hl3, eq_self])
          | ((first | (with_reducible refine acall.det (alive_spec _) ?_) | (with_reducible refine qcall.det (alive_spec _) ?_) | (with_reducible refine acall.det (g1 _) ?_) | (with_reducible refine qcall.det (g1 _) ?_) | (with_reducible refine acall.det (e1 _) ?_) | (with_reducible refine qcall.det (e1 _) ?_) | (with_reducible refine acall.det (d1 _) ?_) | (with_reducible refine qcall.det (d1 _) ?_) | (with_reducible refine acall.det (d2 _) ?_) | (with_reducible refine qcall.det (d2 _) ?_) | (with_reducible refine acall.det (e2 _) ?_) | (with_reducible refine qcall.det (e2 _) ?_) | (with_reducible refine acall.det (hs3 _) ?_) | (with_reducible refine qcall.det (hs3 _) ?_) | (with_reducible refine acall.det (q _) ?_) | (with_reducible refine qcall.det (q _) ?_)); try simp (disch := omega) only [go_sem, Nat.reduceBEq, Nat.reduceLT, Nat.reduceEqDiff, reduceIte, Nat.reduceAdd, Nat.reduceMul, Nat.reduceSub, Nat.reduceLeDiff, Int.reduceToNat, Int.reducePow, Int.reduceLT, Int.reduceEq, Int.reduceNeg, Nat.reducePow, List.reduceReplicate, Int.reduceLE, hl, hl3, eq_self]))
        simp only [bodyQ, go_sem, Nat.reduceBEq, Nat.reduceLT, Nat.reduceEqDiff, reduceIte, Nat.reduceAdd, Nat.reduceMul, Nat.reduceSub, Nat.reduceLeDiff, Int.reduceToNat, Int.reducePow, Int.reduceLT, Int.reduceEq, Int.reduceNeg, Nat.reducePow, List.reduceReplicate, Int.reduceLE]
        exact Fin.cut (.v _) ⟨rfl, rfl⟩
      · have d3 := decode_frB' f hr cl hcc
        have hcc' : ¬ cl = f.c := fun h => hcc h.symm
        generalize frB f = x at e1 d2 d3 hbl
        obtain ⟨k, c, n, p⟩ := f
        try simp only [frV] at *
        intro base
        refine acall_body Try.func4 rfl (fun a w => Try.call4 a w) Try.ntmps4 Try.results4 (by simp) ?_
        intro w β hI
        simp only [number]
        repeat' (first
          | (refine AWP.seq ?_)
          | (refine AWP.block ?_)
          | (refine AWP.region_k fun Q' hQ' => ?_)
          | (refine AWP.draw_k rfl (by kernel_rfl) fun Q' hQ' => ?_)
          | (with_reducible refine aops.step fun T hT => ?_; simp (disch := omega) only [go_sem, Nat.reduceBEq, Nat.reduceLT, Nat.reduceEqDiff, reduceIte, Nat.reduceAdd, Nat.reduceMul, Nat.reduceSub, Nat.reduceLeDiff, Int.reduceToNat, Int.reducePow, Int.reduceLT, Int.reduceEq, Int.reduceNeg, Nat.reducePow, List.reduceReplicate, Int.reduceLE, hl, hl3, hcc, hcc', eq_self])
          | (with_reducible refine qops.step fun T hT => ?_; simp (disch := omega) only [go_sem, Nat.reduceBEq, Nat.reduceLT, Nat.reduceEqDiff, reduceIte, Nat.reduceAdd, Nat.reduceMul, Nat.reduceSub, Nat.reduceLeDiff, Int.reduceToNat, Int.reducePow, Int.reduceLT, Int.reduceEq, Int.reduceNeg, Nat.reducePow, List.reduceReplicate, Int.reduceLE, hl, hl3, hcc, hcc', eq_self])
          | (with_reducible refine aops.nil ?_)
          | (with_reducible refine qops.nil ?_)
          | (with_reducible refine hT _ ?_; clear hT T)
          | (refine AWP.skip ?_; try simp only [AExit.then, AExit.inBlock, reduceIte, Nat.reduceEqDiff])
          | (refine AWP.exit ?_; try simp only [AExit.then, AExit.inBlock, reduceIte, Nat.reduceEqDiff])
          | (refine AWP.ret ?_; try simp only [AExit.then, AExit.inBlock, reduceIte, Nat.reduceEqDiff])
          | (refine AWP.cond rfl (fun h => ?_) (fun h => ?_) <;> (try simp only [decide_eq_true_eq, decide_eq_false_iff_not, Bool.true_eq_false, Bool.false_eq_true] at h) <;> (try contradiction))
          | (refine hQ' _ _ ?_; clear hQ' Q'; try simp only [AExit.then, AExit.inBlock, reduceIte, Nat.reduceEqDiff])
          | (refine hQ' _ ?_; clear hQ' Q'; try simp only [AExit.then, AExit.inBlock, reduceIte, Nat.reduceEqDiff])
          | (with_reducible refine Branch.split (fun h => ?_) (fun h => ?_) <;> (try simp only [decide_eq_true_eq, decide_eq_false_iff_not, Bool.not_true, Bool.not_false, Bool.true_eq_false, Bool.false_eq_true] at h) <;> (try contradiction) <;> (simp (disch := omega) only [go_sem, Nat.reduceBEq, Nat.reduceLT, Nat.reduceEqDiff, reduceIte, Nat.reduceAdd, Nat.reduceMul, Nat.reduceSub, Nat.reduceLeDiff, Int.reduceToNat, Int.reducePow, Int.reduceLT, Int.reduceEq, Int.reduceNeg, Nat.reducePow, List.reduceReplicate, Int.reduceLE, h, hl, hl3, hcc, hcc', eq_self]))
          | (with_reducible intro h; try simp only [h, go_sem, Nat.reduceBEq, Nat.reduceLT, Nat.reduceEqDiff, reduceIte, Nat.reduceAdd, Nat.reduceMul, Nat.reduceSub, Nat.reduceLeDiff, Int.reduceToNat, Int.reducePow, Int.reduceLT, Int.reduceEq, Int.reduceNeg, Nat.reducePow, List.reduceReplicate, Int.reduceLE, hl, hl3, hcc, hcc', eq_self])
          | ((first | (with_reducible refine acall.det (alive_spec _) ?_) | (with_reducible refine qcall.det (alive_spec _) ?_) | (with_reducible refine acall.det (g1 _) ?_) | (with_reducible refine qcall.det (g1 _) ?_) | (with_reducible refine acall.det (e1 _) ?_) | (with_reducible refine qcall.det (e1 _) ?_) | (with_reducible refine acall.det (d1 _) ?_) | (with_reducible refine qcall.det (d1 _) ?_) | (with_reducible refine acall.det (d2 _) ?_) | (with_reducible refine qcall.det (d2 _) ?_) | (with_reducible refine acall.det (d3 _) ?_) | (with_reducible refine qcall.det (d3 _) ?_) | (with_reducible refine acall.det (e2 _) ?_) | (with_reducible refine qcall.det (e2 _) ?_) | (with_reducible refine acall.det (hs3 _) ?_) | (with_reducible refine qcall.det (hs3 _) ?_) | (with_reducible refine acall.det (q _) ?_) | (with_reducible refine qcall.det (q _) ?_)); try simp (disch := omega) only [go_sem, Nat.reduceBEq, Nat.reduceLT, Nat.reduceEqDiff, reduceIte, Nat.reduceAdd, Nat.reduceMul, Nat.reduceSub, Nat.reduceLeDiff, Int.reduceToNat, Int.reducePow, Int.reduceLT, Int.reduceEq, Int.reduceNeg, Nat.reducePow, List.reduceReplicate, Int.reduceLE, hl, hl3, hcc, hcc', eq_self]))
        simp only [bodyQ, go_sem, Nat.reduceBEq, Nat.reduceLT, Nat.reduceEqDiff, reduceIte, Nat.reduceAdd, Nat.reduceMul, Nat.reduceSub, Nat.reduceLeDiff, Int.reduceToNat, Int.reducePow, Int.reduceLT, Int.reduceEq, Int.reduceNeg, Nat.reducePow, List.reduceReplicate, Int.reduceLE]
        exact Fin.cut (.v _) ⟨rfl, rfl⟩
    | false =>
      rw [if_neg (by rw [hr]; decide)] at e1
      obtain ⟨k, c, n, p⟩ := f
      try simp only [frV] at *
      intro base
      refine acall_body Try.func4 rfl (fun a w => Try.call4 a w) Try.ntmps4 Try.results4 (by simp) ?_
      intro w β hI
      simp only [number]
      repeat' (first
        | (refine AWP.seq ?_)
        | (refine AWP.block ?_)
        | (refine AWP.region_k fun Q' hQ' => ?_)
        | (refine AWP.draw_k rfl (by kernel_rfl) fun Q' hQ' => ?_)
        | (with_reducible refine aops.step fun T hT => ?_; simp (disch := omega) only [go_sem, Nat.reduceBEq, Nat.reduceLT, Nat.reduceEqDiff, reduceIte, Nat.reduceAdd, Nat.reduceMul, Nat.reduceSub, Nat.reduceLeDiff, Int.reduceToNat, Int.reducePow, Int.reduceLT, Int.reduceEq, Int.reduceNeg, Nat.reducePow, List.reduceReplicate, Int.reduceLE, hl, hl3, eq_self])
        | (with_reducible refine qops.step fun T hT => ?_; simp (disch := omega) only [go_sem, Nat.reduceBEq, Nat.reduceLT, Nat.reduceEqDiff, reduceIte, Nat.reduceAdd, Nat.reduceMul, Nat.reduceSub, Nat.reduceLeDiff, Int.reduceToNat, Int.reducePow, Int.reduceLT, Int.reduceEq, Int.reduceNeg, Nat.reducePow, List.reduceReplicate, Int.reduceLE, hl, hl3, eq_self])
        | (with_reducible refine aops.nil ?_)
        | (with_reducible refine qops.nil ?_)
        | (with_reducible refine hT _ ?_; clear hT T)
        | (refine AWP.skip ?_; try simp only [AExit.then, AExit.inBlock, reduceIte, Nat.reduceEqDiff])
        | (refine AWP.exit ?_; try simp only [AExit.then, AExit.inBlock, reduceIte, Nat.reduceEqDiff])
        | (refine AWP.ret ?_; try simp only [AExit.then, AExit.inBlock, reduceIte, Nat.reduceEqDiff])
        | (refine AWP.cond rfl (fun h => ?_) (fun h => ?_) <;> (try simp only [decide_eq_true_eq, decide_eq_false_iff_not, Bool.true_eq_false, Bool.false_eq_true] at h) <;> (try contradiction))
        | (refine hQ' _ _ ?_; clear hQ' Q'; try simp only [AExit.then, AExit.inBlock, reduceIte, Nat.reduceEqDiff])
        | (refine hQ' _ ?_; clear hQ' Q'; try simp only [AExit.then, AExit.inBlock, reduceIte, Nat.reduceEqDiff])
        | (with_reducible refine Branch.split (fun h => ?_) (fun h => ?_) <;> (try simp only [decide_eq_true_eq, decide_eq_false_iff_not, Bool.not_true, Bool.not_false, Bool.true_eq_false, Bool.false_eq_true] at h) <;> (try contradiction) <;> (simp (disch := omega) only [go_sem, Nat.reduceBEq, Nat.reduceLT, Nat.reduceEqDiff, reduceIte, Nat.reduceAdd, Nat.reduceMul, Nat.reduceSub, Nat.reduceLeDiff, Int.reduceToNat, Int.reducePow, Int.reduceLT, Int.reduceEq, Int.reduceNeg, Nat.reducePow, List.reduceReplicate, Int.reduceLE, h, hl, hl3, eq_self]))
        | (with_reducible intro h; try simp only [h, go_sem, Nat.reduceBEq, Nat.reduceLT, Nat.reduceEqDiff, reduceIte, Nat.reduceAdd, Nat.reduceMul, Nat.reduceSub, Nat.reduceLeDiff, Int.reduceToNat, Int.reducePow, Int.reduceLT, Int.reduceEq, Int.reduceNeg, Nat.reducePow, List.reduceReplicate, Int.reduceLE, hl, hl3, eq_self])
        | ((first | (with_reducible refine acall.det (alive_spec _) ?_) | (with_reducible refine qcall.det (alive_spec _) ?_) | (with_reducible refine acall.det (g1 _) ?_) | (with_reducible refine qcall.det (g1 _) ?_) | (with_reducible refine acall.det (e1 _) ?_) | (with_reducible refine qcall.det (e1 _) ?_) | (with_reducible refine acall.det (d1 _) ?_) | (with_reducible refine qcall.det (d1 _) ?_) | (with_reducible refine acall.det (e2 _) ?_) | (with_reducible refine qcall.det (e2 _) ?_) | (with_reducible refine acall.det (q _) ?_) | (with_reducible refine qcall.det (q _) ?_)); try simp (disch := omega) only [go_sem, Nat.reduceBEq, Nat.reduceLT, Nat.reduceEqDiff, reduceIte, Nat.reduceAdd, Nat.reduceMul, Nat.reduceSub, Nat.reduceLeDiff, Int.reduceToNat, Int.reducePow, Int.reduceLT, Int.reduceEq, Int.reduceNeg, Nat.reducePow, List.reduceReplicate, Int.reduceLE, hl, hl3, eq_self]))
      simp only [bodyQ, go_sem, Nat.reduceBEq, Nat.reduceLT, Nat.reduceEqDiff, reduceIte, Nat.reduceAdd, Nat.reduceMul, Nat.reduceSub, Nat.reduceLeDiff, Int.reduceToNat, Int.reducePow, Int.reduceLT, Int.reduceEq, Int.reduceNeg, Nat.reducePow, List.reduceReplicate, Int.reduceLE]
      exact Fin.cut (.v _) ⟨rfl, rfl⟩
  · have hz := hz he2
    obtain ⟨rfl, rfl, rfl, rfl⟩ : k2 = 0 ∧ c2 = [] ∧ n2 = 0 ∧ p2 = [] := by
      injection hz with a b c d
      exact ⟨a, b, c, d⟩
    cases hr : frRight f with
    | true =>
      have hbl := frB_length f hr
      rw [if_pos hr] at e1
      have d2 := decode_frB f hr
      by_cases hcc : f.c = cl
      · subst hcc
        generalize frB f = x at e1 d2 hbl
        obtain ⟨k, c, n, p⟩ := f
        try simp only [frV] at *
        intro base
        refine acall_body Try.func4 rfl (fun a w => Try.call4 a w) Try.ntmps4 Try.results4 (by simp) ?_
        intro w β hI
        simp only [number]
        repeat' (first
          | (refine AWP.seq ?_)
          | (refine AWP.block ?_)
          | (refine AWP.region_k fun Q' hQ' => ?_)
          | (refine AWP.draw_k rfl (by kernel_rfl) fun Q' hQ' => ?_)
          | (with_reducible refine aops.step fun T hT => ?_; simp (disch := omega) only [go_sem, Nat.reduceBEq, Nat.reduceLT, Nat.reduceEqDiff, reduceIte, Nat.reduceAdd, Nat.reduceMul, Nat.reduceSub, Nat.reduceLeDiff, Int.reduceToNat, Int.reducePow, Int.reduceLT, Int.reduceEq, Int.reduceNeg, Nat.reducePow, List.reduceReplicate, Int.reduceLE, hl, hl3, he2, eq_self])
          | (with_reducible refine qops.step fun T hT => ?_; simp (disch := omega) only [go_sem, Nat.reduceBEq, Nat.reduceLT, Nat.reduceEqDiff, reduceIte, Nat.reduceAdd, Nat.reduceMul, Nat.reduceSub, Nat.reduceLeDiff, Int.reduceToNat, Int.reducePow, Int.reduceLT, Int.reduceEq, Int.reduceNeg, Nat.reducePow, List.reduceReplicate, Int.reduceLE, hl, hl3, he2, eq_self])
          | (with_reducible refine aops.nil ?_)
          | (with_reducible refine qops.nil ?_)
          | (with_reducible refine hT _ ?_; clear hT T)
          | (refine AWP.skip ?_; try simp only [AExit.then, AExit.inBlock, reduceIte, Nat.reduceEqDiff])
          | (refine AWP.exit ?_; try simp only [AExit.then, AExit.inBlock, reduceIte, Nat.reduceEqDiff])
          | (refine AWP.ret ?_; try simp only [AExit.then, AExit.inBlock, reduceIte, Nat.reduceEqDiff])
          | (refine AWP.cond rfl (fun h => ?_) (fun h => ?_) <;> (try simp only [decide_eq_true_eq, decide_eq_false_iff_not, Bool.true_eq_false, Bool.false_eq_true] at h) <;> (try contradiction))
          | (refine hQ' _ _ ?_; clear hQ' Q'; try simp only [AExit.then, AExit.inBlock, reduceIte, Nat.reduceEqDiff])
          | (refine hQ' _ ?_; clear hQ' Q'; try simp only [AExit.then, AExit.inBlock, reduceIte, Nat.reduceEqDiff])
          | (with_reducible refine Branch.split (fun h => ?_) (fun h => ?_) <;> (try simp only [decide_eq_true_eq, decide_eq_false_iff_not, Bool.not_true, Bool.not_false, Bool.true_eq_false, Bool.false_eq_true] at h) <;> (try contradiction) <;> (simp (disch := omega) only [go_sem, Nat.reduceBEq, Nat.reduceLT, Nat.reduceEqDiff, reduceIte, Nat.reduceAdd, Nat.reduceMul, Nat.reduceSub, Nat.reduceLeDiff, Int.reduceToNat, Int.reducePow, Int.reduceLT, Int.reduceEq, Int.reduceNeg, Nat.reducePow, List.reduceReplicate, Int.reduceLE, h, hl, hl3, he2, eq_self]))
          | (with_reducible intro h; try simp only [h, go_sem, Nat.reduceBEq, Nat.reduceLT, Nat.reduceEqDiff, reduceIte, Nat.reduceAdd, Nat.reduceMul, Nat.reduceSub, Nat.reduceLeDiff, Int.reduceToNat, Int.reducePow, Int.reduceLT, Int.reduceEq, Int.reduceNeg, Nat.reducePow, List.reduceReplicate, Int.reduceLE, hl, hl3, he2, eq_self])
          | ((first | (with_reducible refine acall.det (alive_spec _) ?_) | (with_reducible refine qcall.det (alive_spec _) ?_) | (with_reducible refine acall.det (g1 _) ?_) | (with_reducible refine qcall.det (g1 _) ?_) | (with_reducible refine acall.det (e1 _) ?_) | (with_reducible refine qcall.det (e1 _) ?_) | (with_reducible refine acall.det (d1 _) ?_) | (with_reducible refine qcall.det (d1 _) ?_) | (with_reducible refine acall.det (d2 _) ?_) | (with_reducible refine qcall.det (d2 _) ?_) | (with_reducible refine acall.det (hs3 _) ?_) | (with_reducible refine qcall.det (hs3 _) ?_)); try simp (disch := omega) only [go_sem, Nat.reduceBEq, Nat.reduceLT, Nat.reduceEqDiff, reduceIte, Nat.reduceAdd, Nat.reduceMul, Nat.reduceSub, Nat.reduceLeDiff, Int.reduceToNat, Int.reducePow, Int.reduceLT, Int.reduceEq, Int.reduceNeg, Nat.reducePow, List.reduceReplicate, Int.reduceLE, hl, hl3, he2, eq_self]))
        simp only [bodyQ, go_sem, Nat.reduceBEq, Nat.reduceLT, Nat.reduceEqDiff, reduceIte, Nat.reduceAdd, Nat.reduceMul, Nat.reduceSub, Nat.reduceLeDiff, Int.reduceToNat, Int.reducePow, Int.reduceLT, Int.reduceEq, Int.reduceNeg, Nat.reducePow, List.reduceReplicate, Int.reduceLE]
        exact Fin.cut (.v _) ⟨rfl, rfl⟩
      · have d3 := decode_frB' f hr cl hcc
        have hcc' : ¬ cl = f.c := fun h => hcc h.symm
        generalize frB f = x at e1 d2 d3 hbl
        obtain ⟨k, c, n, p⟩ := f
        try simp only [frV] at *
        intro base
        refine acall_body Try.func4 rfl (fun a w => Try.call4 a w) Try.ntmps4 Try.results4 (by simp) ?_
        intro w β hI
        simp only [number]
        repeat' (first
          | (refine AWP.seq ?_)
          | (refine AWP.block ?_)
          | (refine AWP.region_k fun Q' hQ' => ?_)
          | (refine AWP.draw_k rfl (by kernel_rfl) fun Q' hQ' => ?_)
          | (with_reducible refine aops.step fun T hT => ?_; simp (disch := omega) only [go_sem, Nat.reduceBEq, Nat.reduceLT, Nat.reduceEqDiff, reduceIte, Nat.reduceAdd, Nat.reduceMul, Nat.reduceSub, Nat.reduceLeDiff, Int.reduceToNat, Int.reducePow, Int.reduceLT, Int.reduceEq, Int.reduceNeg, Nat.reducePow, List.reduceReplicate, Int.reduceLE, hl, hl3, he2, hcc, hcc', eq_self])
          | (with_reducible refine qops.step fun T hT => ?_; simp (disch := omega) only [go_sem, Nat.reduceBEq, Nat.reduceLT, Nat.reduceEqDiff, reduceIte, Nat.reduceAdd, Nat.reduceMul, Nat.reduceSub, Nat.reduceLeDiff, Int.reduceToNat, Int.reducePow, Int.reduceLT, Int.reduceEq, Int.reduceNeg, Nat.reducePow, List.reduceReplicate, Int.reduceLE, hl, hl3, he2, hcc, hcc', eq_self])
          | (with_reducible refine aops.nil ?_)
          | (with_reducible refine qops.nil ?_)
          | (with_reducible refine hT _ ?_; clear hT T)
          | (refine AWP.skip ?_; try simp only [AExit.then, AExit.inBlock, reduceIte, Nat.reduceEqDiff])
          | (refine AWP.exit ?_; try simp only [AExit.then, AExit.inBlock, reduceIte, Nat.reduceEqDiff])
          | (refine AWP.ret ?_; try simp only [AExit.then, AExit.inBlock, reduceIte, Nat.reduceEqDiff])
          | (refine AWP.cond rfl (fun h => ?_) (fun h => ?_) <;> (try simp only [decide_eq_true_eq, decide_eq_false_iff_not, Bool.true_eq_false, Bool.false_eq_true] at h) <;> (try contradiction))
          | (refine hQ' _ _ ?_; clear hQ' Q'; try simp only [AExit.then, AExit.inBlock, reduceIte, Nat.reduceEqDiff])
          | (refine hQ' _ ?_; clear hQ' Q'; try simp only [AExit.then, AExit.inBlock, reduceIte, Nat.reduceEqDiff])
          | (with_reducible refine Branch.split (fun h => ?_) (fun h => ?_) <;> (try simp only [decide_eq_true_eq, decide_eq_false_iff_not, Bool.not_true, Bool.not_false, Bool.true_eq_false, Bool.false_eq_true] at h) <;> (try contradiction) <;> (simp (disch := omega) only [go_sem, Nat.reduceBEq, Nat.reduceLT, Nat.reduceEqDiff, reduceIte, Nat.reduceAdd, Nat.reduceMul, Nat.reduceSub, Nat.reduceLeDiff, Int.reduceToNat, Int.reducePow, Int.reduceLT, Int.reduceEq, Int.reduceNeg, Nat.reducePow, List.reduceReplicate, Int.reduceLE, h, hl, hl3, he2, hcc, hcc', eq_self]))
          | (with_reducible intro h; try simp only [h, go_sem, Nat.reduceBEq, Nat.reduceLT, Nat.reduceEqDiff, reduceIte, Nat.reduceAdd, Nat.reduceMul, Nat.reduceSub, Nat.reduceLeDiff, Int.reduceToNat, Int.reducePow, Int.reduceLT, Int.reduceEq, Int.reduceNeg, Nat.reducePow, List.reduceReplicate, Int.reduceLE, hl, hl3, he2, hcc, hcc', eq_self])
          | ((first | (with_reducible refine acall.det (alive_spec _) ?_) | (with_reducible refine qcall.det (alive_spec _) ?_) | (with_reducible refine acall.det (g1 _) ?_) | (with_reducible refine qcall.det (g1 _) ?_) | (with_reducible refine acall.det (e1 _) ?_) | (with_reducible refine qcall.det (e1 _) ?_) | (with_reducible refine acall.det (d1 _) ?_) | (with_reducible refine qcall.det (d1 _) ?_) | (with_reducible refine acall.det (d2 _) ?_) | (with_reducible refine qcall.det (d2 _) ?_) | (with_reducible refine acall.det (d3 _) ?_) | (with_reducible refine qcall.det (d3 _) ?_) | (with_reducible refine acall.det (hs3 _) ?_) | (with_reducible refine qcall.det (hs3 _) ?_)); try simp (disch := omega) only [go_sem, Nat.reduceBEq, Nat.reduceLT, Nat.reduceEqDiff, reduceIte, Nat.reduceAdd, Nat.reduceMul, Nat.reduceSub, Nat.reduceLeDiff, Int.reduceToNat, Int.reducePow, Int.reduceLT, Int.reduceEq, Int.reduceNeg, Nat.reducePow, List.reduceReplicate, Int.reduceLE, hl, hl3, he2, hcc, hcc', eq_self]))
        simp only [bodyQ, go_sem, Nat.reduceBEq, Nat.reduceLT, Nat.reduceEqDiff, reduceIte, Nat.reduceAdd, Nat.reduceMul, Nat.reduceSub, Nat.reduceLeDiff, Int.reduceToNat, Int.reducePow, Int.reduceLT, Int.reduceEq, Int.reduceNeg, Nat.reducePow, List.reduceReplicate, Int.reduceLE]
        exact Fin.cut (.v _) ⟨rfl, rfl⟩
    | false =>
      rw [if_neg (by rw [hr]; decide)] at e1
      obtain ⟨k, c, n, p⟩ := f
      try simp only [frV] at *
      intro base
      refine acall_body Try.func4 rfl (fun a w => Try.call4 a w) Try.ntmps4 Try.results4 (by simp) ?_
      intro w β hI
      simp only [number]
      repeat' (first
        | (refine AWP.seq ?_)
        | (refine AWP.block ?_)
        | (refine AWP.region_k fun Q' hQ' => ?_)
        | (refine AWP.draw_k rfl (by kernel_rfl) fun Q' hQ' => ?_)
        | (with_reducible refine aops.step fun T hT => ?_; simp (disch := omega) only [go_sem, Nat.reduceBEq, Nat.reduceLT, Nat.reduceEqDiff, reduceIte, Nat.reduceAdd, Nat.reduceMul, Nat.reduceSub, Nat.reduceLeDiff, Int.reduceToNat, Int.reducePow, Int.reduceLT, Int.reduceEq, Int.reduceNeg, Nat.reducePow, List.reduceReplicate, Int.reduceLE, hl, hl3, he2, eq_self])
        | (with_reducible refine qops.step fun T hT => ?_; simp (disch := omega) only [go_sem, Nat.reduceBEq, Nat.reduceLT, Nat.reduceEqDiff, reduceIte, Nat.reduceAdd, Nat.reduceMul, Nat.reduceSub, Nat.reduceLeDiff, Int.reduceToNat, Int.reducePow, Int.reduceLT, Int.reduceEq, Int.reduceNeg, Nat.reducePow, List.reduceReplicate, Int.reduceLE, hl, hl3, he2, eq_self])
        | (with_reducible refine aops.nil ?_)
        | (with_reducible refine qops.nil ?_)
        | (with_reducible refine hT _ ?_; clear hT T)
        | (refine AWP.skip ?_; try simp only [AExit.then, AExit.inBlock, reduceIte, Nat.reduceEqDiff])
        | (refine AWP.exit ?_; try simp only [AExit.then, AExit.inBlock, reduceIte, Nat.reduceEqDiff])
        | (refine AWP.ret ?_; try simp only [AExit.then, AExit.inBlock, reduceIte, Nat.reduceEqDiff])
        | (refine AWP.cond rfl (fun h => ?_) (fun h => ?_) <;> (try simp only [decide_eq_true_eq, decide_eq_false_iff_not, Bool.true_eq_false, Bool.false_eq_true] at h) <;> (try contradiction))
        | (refine hQ' _ _ ?_; clear hQ' Q'; try simp only [AExit.then, AExit.inBlock, reduceIte, Nat.reduceEqDiff])
        | (refine hQ' _ ?_; clear hQ' Q'; try simp only [AExit.then, AExit.inBlock, reduceIte, Nat.reduceEqDiff])
        | (with_reducible refine Branch.split (fun h => ?_) (fun h => ?_) <;> (try simp only [decide_eq_true_eq, decide_eq_false_iff_not, Bool.not_true, Bool.not_false, Bool.true_eq_false, Bool.false_eq_true] at h) <;> (try contradiction) <;> (simp (disch := omega) only [go_sem, Nat.reduceBEq, Nat.reduceLT, Nat.reduceEqDiff, reduceIte, Nat.reduceAdd, Nat.reduceMul, Nat.reduceSub, Nat.reduceLeDiff, Int.reduceToNat, Int.reducePow, Int.reduceLT, Int.reduceEq, Int.reduceNeg, Nat.reducePow, List.reduceReplicate, Int.reduceLE, h, hl, hl3, he2, eq_self]))
        | (with_reducible intro h; try simp only [h, go_sem, Nat.reduceBEq, Nat.reduceLT, Nat.reduceEqDiff, reduceIte, Nat.reduceAdd, Nat.reduceMul, Nat.reduceSub, Nat.reduceLeDiff, Int.reduceToNat, Int.reducePow, Int.reduceLT, Int.reduceEq, Int.reduceNeg, Nat.reducePow, List.reduceReplicate, Int.reduceLE, hl, hl3, he2, eq_self])
        | ((first | (with_reducible refine acall.det (alive_spec _) ?_) | (with_reducible refine qcall.det (alive_spec _) ?_) | (with_reducible refine acall.det (g1 _) ?_) | (with_reducible refine qcall.det (g1 _) ?_) | (with_reducible refine acall.det (e1 _) ?_) | (with_reducible refine qcall.det (e1 _) ?_) | (with_reducible refine acall.det (d1 _) ?_) | (with_reducible refine qcall.det (d1 _) ?_)); try simp (disch := omega) only [go_sem, Nat.reduceBEq, Nat.reduceLT, Nat.reduceEqDiff, reduceIte, Nat.reduceAdd, Nat.reduceMul, Nat.reduceSub, Nat.reduceLeDiff, Int.reduceToNat, Int.reducePow, Int.reduceLT, Int.reduceEq, Int.reduceNeg, Nat.reducePow, List.reduceReplicate, Int.reduceLE, hl, hl3, he2, eq_self]))
      simp only [bodyQ, go_sem, Nat.reduceBEq, Nat.reduceLT, Nat.reduceEqDiff, reduceIte, Nat.reduceAdd, Nat.reduceMul, Nat.reduceSub, Nat.reduceLeDiff, Int.reduceToNat, Int.reducePow, Int.reduceLT, Int.reduceEq, Int.reduceNeg, Nat.reducePow, List.reduceReplicate, Int.reduceLE]
      exact Fin.cut (.v _) ⟨rfl, rfl⟩

end Go.Proofs.Ytgnafjnaombikaa.VL
