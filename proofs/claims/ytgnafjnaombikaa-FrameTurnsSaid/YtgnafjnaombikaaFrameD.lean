/- Layer 3: the laws of decoding, encoding, and there and back. -/
import Derived.Test.YtgnafjnaombikaaFrameC
-- STEPWISE
set_option linter.unusedVariables false
set_option linter.unusedSimpArgs false
set_option maxRecDepth 10000
namespace Go.Proofs.Ytgnafjnaombikaa.VL
open Go Go.RowKit Go.Lib

abbrev frDW (k : Int) (c : List UInt8) (n : Int) (p : List UInt8) (e : Int) : AV := .tup [.agg [vi k, vs c, vi n, vB p], vi e]

set_option maxHeartbeats 2000000 in
theorem frameDecodes_spec (bs cl : List UInt8) (hcl : cl.length ≤ 9223372036854775807) (H : List Box) : ASpec Try.prog 3 [vB bs, vs cl] H (Gives (vb true) H) := by
  by_cases hl : (4000 : Int) < (bs.length : Int)
  · intro base
    refine acall_body Try.func3 rfl (fun a w => Try.call3 a w) Try.ntmps3 Try.results3 (by simp) ?_
    intro w β hI
    simp only [number]
    repeat' (first
      | (refine AWP.seq ?_)
      | (refine AWP.block ?_)
      | (refine AWP.region_k fun Q' hQ' => ?_)
      | (refine AWP.draw_k rfl (by kernel_rfl) fun Q' hQ' => ?_)
      | (with_reducible refine aops.step fun T hT => ?_; simp (disch := omega) only [go_sem, Nat.reduceBEq, Nat.reduceLT, Nat.reduceEqDiff, reduceIte, Nat.reduceAdd, Nat.reduceMul, Nat.reduceSub, Nat.reduceLeDiff, Int.reduceToNat, Int.reducePow, Int.reduceLT, Int.reduceEq, Int.reduceNeg, Nat.reducePow, List.reduceReplicate, Int.reduceLE, hl])
      | (with_reducible refine qops.step fun T hT => ?_; simp (disch := omega) only [go_sem, Nat.reduceBEq, Nat.reduceLT, Nat.reduceEqDiff, reduceIte, Nat.reduceAdd, Nat.reduceMul, Nat.reduceSub, Nat.reduceLeDiff, Int.reduceToNat, Int.reducePow, Int.reduceLT, Int.reduceEq, Int.reduceNeg, Nat.reducePow, List.reduceReplicate, Int.reduceLE, hl])
      | (with_reducible refine aops.nil ?_)
      | (with_reducible refine qops.nil ?_)
      | (with_reducible refine hT _ ?_; clear hT T)
      | (refine AWP.skip ?_; try simp only [AExit.then, AExit.inBlock, reduceIte, Nat.reduceEqDiff])
      | (refine AWP.exit ?_; try simp only [AExit.then, AExit.inBlock, reduceIte, Nat.reduceEqDiff])
      | (refine AWP.ret ?_; try simp only [AExit.then, AExit.inBlock, reduceIte, Nat.reduceEqDiff])
      | (refine AWP.cond rfl (fun h => ?_) (fun h => ?_) <;> (try simp only [decide_eq_true_eq, decide_eq_false_iff_not, Bool.true_eq_false, Bool.false_eq_true] at h) <;> (try contradiction))
      | (refine hQ' _ _ ?_; clear hQ' Q'; try simp only [AExit.then, AExit.inBlock, reduceIte, Nat.reduceEqDiff])
      | (refine hQ' _ ?_; clear hQ' Q'; try simp only [AExit.then, AExit.inBlock, reduceIte, Nat.reduceEqDiff])
      | (with_reducible refine Branch.split (fun h => ?_) (fun h => ?_) <;> (try simp only [decide_eq_true_eq, decide_eq_false_iff_not, Bool.not_true, Bool.not_false, Bool.true_eq_false, Bool.false_eq_true] at h) <;> (try contradiction) <;> (simp (disch := omega) only [go_sem, Nat.reduceBEq, Nat.reduceLT, Nat.reduceEqDiff, reduceIte, Nat.reduceAdd, Nat.reduceMul, Nat.reduceSub, Nat.reduceLeDiff, Int.reduceToNat, Int.reducePow, Int.reduceLT, Int.reduceEq, Int.reduceNeg, Nat.reducePow, List.reduceReplicate, Int.reduceLE, h, hl]))
      | (with_reducible intro h; try simp only [h, go_sem, Nat.reduceBEq, Nat.reduceLT, Nat.reduceEqDiff, reduceIte, Nat.reduceAdd, Nat.reduceMul, Nat.reduceSub, Nat.reduceLeDiff, Int.reduceToNat, Int.reducePow, Int.reduceLT, Int.reduceEq, Int.reduceNeg, Nat.reducePow, List.reduceReplicate, Int.reduceLE, hl])
      | ((first | (with_reducible refine acall.det (alive_spec _) ?_) | (with_reducible refine qcall.det (alive_spec _) ?_)); try simp (disch := omega) only [go_sem, Nat.reduceBEq, Nat.reduceLT, Nat.reduceEqDiff, reduceIte, Nat.reduceAdd, Nat.reduceMul, Nat.reduceSub, Nat.reduceLeDiff, Int.reduceToNat, Int.reducePow, Int.reduceLT, Int.reduceEq, Int.reduceNeg, Nat.reducePow, List.reduceReplicate, Int.reduceLE, hl]))
    simp only [bodyQ, go_sem, Nat.reduceBEq, Nat.reduceLT, Nat.reduceEqDiff, reduceIte, Nat.reduceAdd, Nat.reduceMul, Nat.reduceSub, Nat.reduceLeDiff, Int.reduceToNat, Int.reducePow, Int.reduceLT, Int.reduceEq, Int.reduceNeg, Nat.reducePow, List.reduceReplicate, Int.reduceLE]
    exact Fin.same ⟨rfl, rfl⟩
  by_cases hc : (300 : Int) < (cl.length : Int)
  · intro base
    refine acall_body Try.func3 rfl (fun a w => Try.call3 a w) Try.ntmps3 Try.results3 (by simp) ?_
    intro w β hI
    simp only [number]
    repeat' (first
      | (refine AWP.seq ?_)
      | (refine AWP.block ?_)
      | (refine AWP.region_k fun Q' hQ' => ?_)
      | (refine AWP.draw_k rfl (by kernel_rfl) fun Q' hQ' => ?_)
      | (with_reducible refine aops.step fun T hT => ?_; simp (disch := omega) only [go_sem, Nat.reduceBEq, Nat.reduceLT, Nat.reduceEqDiff, reduceIte, Nat.reduceAdd, Nat.reduceMul, Nat.reduceSub, Nat.reduceLeDiff, Int.reduceToNat, Int.reducePow, Int.reduceLT, Int.reduceEq, Int.reduceNeg, Nat.reducePow, List.reduceReplicate, Int.reduceLE, hl, hc])
      | (with_reducible refine qops.step fun T hT => ?_; simp (disch := omega) only [go_sem, Nat.reduceBEq, Nat.reduceLT, Nat.reduceEqDiff, reduceIte, Nat.reduceAdd, Nat.reduceMul, Nat.reduceSub, Nat.reduceLeDiff, Int.reduceToNat, Int.reducePow, Int.reduceLT, Int.reduceEq, Int.reduceNeg, Nat.reducePow, List.reduceReplicate, Int.reduceLE, hl, hc])
      | (with_reducible refine aops.nil ?_)
      | (with_reducible refine qops.nil ?_)
      | (with_reducible refine hT _ ?_; clear hT T)
      | (refine AWP.skip ?_; try simp only [AExit.then, AExit.inBlock, reduceIte, Nat.reduceEqDiff])
      | (refine AWP.exit ?_; try simp only [AExit.then, AExit.inBlock, reduceIte, Nat.reduceEqDiff])
      | (refine AWP.ret ?_; try simp only [AExit.then, AExit.inBlock, reduceIte, Nat.reduceEqDiff])
      | (refine AWP.cond rfl (fun h => ?_) (fun h => ?_) <;> (try simp only [decide_eq_true_eq, decide_eq_false_iff_not, Bool.true_eq_false, Bool.false_eq_true] at h) <;> (try contradiction))
      | (refine hQ' _ _ ?_; clear hQ' Q'; try simp only [AExit.then, AExit.inBlock, reduceIte, Nat.reduceEqDiff])
      | (refine hQ' _ ?_; clear hQ' Q'; try simp only [AExit.then, AExit.inBlock, reduceIte, Nat.reduceEqDiff])
      | (with_reducible refine Branch.split (fun h => ?_) (fun h => ?_) <;> (try simp only [decide_eq_true_eq, decide_eq_false_iff_not, Bool.not_true, Bool.not_false, Bool.true_eq_false, Bool.false_eq_true] at h) <;> (try contradiction) <;> (simp (disch := omega) only [go_sem, Nat.reduceBEq, Nat.reduceLT, Nat.reduceEqDiff, reduceIte, Nat.reduceAdd, Nat.reduceMul, Nat.reduceSub, Nat.reduceLeDiff, Int.reduceToNat, Int.reducePow, Int.reduceLT, Int.reduceEq, Int.reduceNeg, Nat.reducePow, List.reduceReplicate, Int.reduceLE, h, hl, hc]))
      | (with_reducible intro h; try simp only [h, go_sem, Nat.reduceBEq, Nat.reduceLT, Nat.reduceEqDiff, reduceIte, Nat.reduceAdd, Nat.reduceMul, Nat.reduceSub, Nat.reduceLeDiff, Int.reduceToNat, Int.reducePow, Int.reduceLT, Int.reduceEq, Int.reduceNeg, Nat.reducePow, List.reduceReplicate, Int.reduceLE, hl, hc])
      | ((first | (with_reducible refine acall.det (alive_spec _) ?_) | (with_reducible refine qcall.det (alive_spec _) ?_)); try simp (disch := omega) only [go_sem, Nat.reduceBEq, Nat.reduceLT, Nat.reduceEqDiff, reduceIte, Nat.reduceAdd, Nat.reduceMul, Nat.reduceSub, Nat.reduceLeDiff, Int.reduceToNat, Int.reducePow, Int.reduceLT, Int.reduceEq, Int.reduceNeg, Nat.reducePow, List.reduceReplicate, Int.reduceLE, hl, hc]))
    simp only [bodyQ, go_sem, Nat.reduceBEq, Nat.reduceLT, Nat.reduceEqDiff, reduceIte, Nat.reduceAdd, Nat.reduceMul, Nat.reduceSub, Nat.reduceLeDiff, Int.reduceToNat, Int.reducePow, Int.reduceLT, Int.reduceEq, Int.reduceNeg, Nat.reducePow, List.reduceReplicate, Int.reduceLE]
    exact Fin.same ⟨rfl, rfl⟩
  have h1 := fun H => decode_spec bs cl (by omega) H
  have h2 := fun H => refDecode_spec bs cl (by omega) H
  have hlen := frD_len bs cl
  generalize frD bs cl = d at h1 h2 hlen
  obtain ⟨⟨k, c, n, p⟩, e⟩ := d
  dsimp only at hlen
  have h1 : ∀ H, ASpec Try.prog 12 [vB bs, vs cl] H (Gives (frDW k c n p e) H) := h1
  have h2 : ∀ H, ASpec Try.prog 13 [vB bs, vs cl] H (Gives (frDW k c n p e) H) := h2
  have h3 : ∀ H, ASpec Try.prog 14 [.agg [vi k, vs c, vi n, vB p], .agg [vi k, vs c, vi n, vB p]] H (Gives (vb true) H) := fun H => by
    have := refSame_spec ⟨k, c, n, p⟩ ⟨k, c, n, p⟩ (by dsimp only; omega) (by dsimp only; omega) H
    rw [frSame_self] at this
    exact this
  intro base
  refine acall_body Try.func3 rfl (fun a w => Try.call3 a w) Try.ntmps3 Try.results3 (by simp) ?_
  intro w β hI
  simp only [number]
  repeat' (first
    | (refine AWP.seq ?_)
    | (refine AWP.block ?_)
    | (refine AWP.region_k fun Q' hQ' => ?_)
    | (refine AWP.draw_k rfl (by kernel_rfl) fun Q' hQ' => ?_)
    | (with_reducible refine aops.step fun T hT => ?_; simp (disch := omega) only [go_sem, Nat.reduceBEq, Nat.reduceLT, Nat.reduceEqDiff, reduceIte, Nat.reduceAdd, Nat.reduceMul, Nat.reduceSub, Nat.reduceLeDiff, Int.reduceToNat, Int.reducePow, Int.reduceLT, Int.reduceEq, Int.reduceNeg, Nat.reducePow, List.reduceReplicate, Int.reduceLE, hl, hc, eq_self])
    | (with_reducible refine qops.step fun T hT => ?_; simp (disch := omega) only [go_sem, Nat.reduceBEq, Nat.reduceLT, Nat.reduceEqDiff, reduceIte, Nat.reduceAdd, Nat.reduceMul, Nat.reduceSub, Nat.reduceLeDiff, Int.reduceToNat, Int.reducePow, Int.reduceLT, Int.reduceEq, Int.reduceNeg, Nat.reducePow, List.reduceReplicate, Int.reduceLE, hl, hc, eq_self])
    | (with_reducible refine aops.nil ?_)
    | (with_reducible refine qops.nil ?_)
    | (with_reducible refine hT _ ?_; clear hT T)
    | (refine AWP.skip ?_; try simp only [AExit.then, AExit.inBlock, reduceIte, Nat.reduceEqDiff])
    | (refine AWP.exit ?_; try simp only [AExit.then, AExit.inBlock, reduceIte, Nat.reduceEqDiff])
    | (refine AWP.ret ?_; try simp only [AExit.then, AExit.inBlock, reduceIte, Nat.reduceEqDiff])
    | (refine AWP.cond rfl (fun h => ?_) (fun h => ?_) <;> (try simp only [decide_eq_true_eq, decide_eq_false_iff_not, Bool.true_eq_false, Bool.false_eq_true] at h) <;> (try contradiction))
    | (refine hQ' _ _ ?_; clear hQ' Q'; try simp only [AExit.then, AExit.inBlock, reduceIte, Nat.reduceEqDiff])
    | (refine hQ' _ ?_; clear hQ' Q'; try simp only [AExit.then, AExit.inBlock, reduceIte, Nat.reduceEqDiff])
    | (with_reducible refine Branch.split (fun h => ?_) (fun h => ?_) <;> (try simp only [decide_eq_true_eq, decide_eq_false_iff_not, Bool.not_true, Bool.not_false, Bool.true_eq_false, Bool.false_eq_true] at h) <;> (try contradiction) <;> (simp (disch := omega) only [go_sem, Nat.reduceBEq, Nat.reduceLT, Nat.reduceEqDiff, reduceIte, Nat.reduceAdd, Nat.reduceMul, Nat.reduceSub, Nat.reduceLeDiff, Int.reduceToNat, Int.reducePow, Int.reduceLT, Int.reduceEq, Int.reduceNeg, Nat.reducePow, List.reduceReplicate, Int.reduceLE, h, hl, hc, eq_self]))
    | (with_reducible intro h; try simp only [h, go_sem, Nat.reduceBEq, Nat.reduceLT, Nat.reduceEqDiff, reduceIte, Nat.reduceAdd, Nat.reduceMul, Nat.reduceSub, Nat.reduceLeDiff, Int.reduceToNat, Int.reducePow, Int.reduceLT, Int.reduceEq, Int.reduceNeg, Nat.reducePow, List.reduceReplicate, Int.reduceLE, hl, hc, eq_self])
    | ((first | (with_reducible refine acall.det (alive_spec _) ?_) | (with_reducible refine qcall.det (alive_spec _) ?_) | (with_reducible refine acall.det (h1 _) ?_) | (with_reducible refine qcall.det (h1 _) ?_) | (with_reducible refine acall.det (h2 _) ?_) | (with_reducible refine qcall.det (h2 _) ?_) | (with_reducible refine acall.det (h3 _) ?_) | (with_reducible refine qcall.det (h3 _) ?_)); try simp (disch := omega) only [go_sem, Nat.reduceBEq, Nat.reduceLT, Nat.reduceEqDiff, reduceIte, Nat.reduceAdd, Nat.reduceMul, Nat.reduceSub, Nat.reduceLeDiff, Int.reduceToNat, Int.reducePow, Int.reduceLT, Int.reduceEq, Int.reduceNeg, Nat.reducePow, List.reduceReplicate, Int.reduceLE, hl, hc, eq_self]))
  simp only [bodyQ, go_sem, Nat.reduceBEq, Nat.reduceLT, Nat.reduceEqDiff, reduceIte, Nat.reduceAdd, Nat.reduceMul, Nat.reduceSub, Nat.reduceLeDiff, Int.reduceToNat, Int.reducePow, Int.reduceLT, Int.reduceEq, Int.reduceNeg, Nat.reducePow, List.reduceReplicate, Int.reduceLE]
  exact Fin.cut (.v _) ⟨rfl, rfl⟩

theorem frGreat_false {f : Fr} (h : frGreat f = false) : f.c.length ≤ 300 ∧ f.p.length ≤ 3000 := by
  simp [frGreat] at h
  omega

set_option maxHeartbeats 4000000 in
theorem frameEncodes_spec (f g : Fr) (hf : f.p.length ≤ 9223372036854775807) (hc : f.c.length ≤ 9223372036854775807) (hf' : g.p.length ≤ 9223372036854775807) (hc' : g.c.length ≤ 9223372036854775807) (H : List Box) :
    ASpec Try.prog 6 [frV f, frV g] H (Gives (vb true) H) := by
  have g1 := fun H => great_spec f hf hc H
  have g2 := fun H => great_spec g hf' hc' H
  cases hg : frGreat f with
  | true =>
    rw [hg] at g1
    obtain ⟨k, c, n, p⟩ := f
    obtain ⟨k', c', n', p'⟩ := g
    try simp only [frV] at *
    intro base
    refine acall_body Try.func6 rfl (fun a w => Try.call6 a w) Try.ntmps6 Try.results6 (by simp) ?_
    intro w β hI
    simp only [number]
    repeat' (first
      | (refine AWP.seq ?_)
      | (refine AWP.block ?_)
      | (refine AWP.region_k fun Q' hQ' => ?_)
      | (refine AWP.draw_k rfl (by kernel_rfl) fun Q' hQ' => ?_)
      | (with_reducible refine aops.step fun T hT => ?_; simp (disch := omega) only [go_sem, Nat.reduceBEq, Nat.reduceLT, Nat.reduceEqDiff, reduceIte, Nat.reduceAdd, Nat.reduceMul, Nat.reduceSub, Nat.reduceLeDiff, Int.reduceToNat, Int.reducePow, Int.reduceLT, Int.reduceEq, Int.reduceNeg, Nat.reducePow, List.reduceReplicate, Int.reduceLE])
      | (with_reducible refine qops.step fun T hT => ?_; simp (disch := omega) only [go_sem, Nat.reduceBEq, Nat.reduceLT, Nat.reduceEqDiff, reduceIte, Nat.reduceAdd, Nat.reduceMul, Nat.reduceSub, Nat.reduceLeDiff, Int.reduceToNat, Int.reducePow, Int.reduceLT, Int.reduceEq, Int.reduceNeg, Nat.reducePow, List.reduceReplicate, Int.reduceLE])
      | (with_reducible refine aops.nil ?_)
      | (with_reducible refine qops.nil ?_)
      | (with_reducible refine hT _ ?_; clear hT T)
      | (refine AWP.skip ?_; try simp only [AExit.then, AExit.inBlock, reduceIte, Nat.reduceEqDiff])
      | (refine AWP.exit ?_; try simp only [AExit.then, AExit.inBlock, reduceIte, Nat.reduceEqDiff])
      | (refine AWP.ret ?_; try simp only [AExit.then, AExit.inBlock, reduceIte, Nat.reduceEqDiff])
      | (refine AWP.cond rfl (fun h => ?_) (fun h => ?_) <;> (try simp only [decide_eq_true_eq, decide_eq_false_iff_not, Bool.true_eq_false, Bool.false_eq_true] at h) <;> (try contradiction))
      | (refine hQ' _ _ ?_; clear hQ' Q'; try simp only [AExit.then, AExit.inBlock, reduceIte, Nat.reduceEqDiff])
      | (refine hQ' _ ?_; clear hQ' Q'; try simp only [AExit.then, AExit.inBlock, reduceIte, Nat.reduceEqDiff])
      | (with_reducible refine Branch.split (fun h => ?_) (fun h => ?_) <;> (try simp only [decide_eq_true_eq, decide_eq_false_iff_not, Bool.not_true, Bool.not_false, Bool.true_eq_false, Bool.false_eq_true] at h) <;> (try contradiction) <;> (simp (disch := omega) only [go_sem, Nat.reduceBEq, Nat.reduceLT, Nat.reduceEqDiff, reduceIte, Nat.reduceAdd, Nat.reduceMul, Nat.reduceSub, Nat.reduceLeDiff, Int.reduceToNat, Int.reducePow, Int.reduceLT, Int.reduceEq, Int.reduceNeg, Nat.reducePow, List.reduceReplicate, Int.reduceLE, h]))
      | (with_reducible intro h; try simp only [h, go_sem, Nat.reduceBEq, Nat.reduceLT, Nat.reduceEqDiff, reduceIte, Nat.reduceAdd, Nat.reduceMul, Nat.reduceSub, Nat.reduceLeDiff, Int.reduceToNat, Int.reducePow, Int.reduceLT, Int.reduceEq, Int.reduceNeg, Nat.reducePow, List.reduceReplicate, Int.reduceLE])
      | ((first | (with_reducible refine acall.det (alive_spec _) ?_) | (with_reducible refine qcall.det (alive_spec _) ?_) | (with_reducible refine acall.det (g1 _) ?_) | (with_reducible refine qcall.det (g1 _) ?_) | (with_reducible refine acall.det (g2 _) ?_) | (with_reducible refine qcall.det (g2 _) ?_)); try simp (disch := omega) only [go_sem, Nat.reduceBEq, Nat.reduceLT, Nat.reduceEqDiff, reduceIte, Nat.reduceAdd, Nat.reduceMul, Nat.reduceSub, Nat.reduceLeDiff, Int.reduceToNat, Int.reducePow, Int.reduceLT, Int.reduceEq, Int.reduceNeg, Nat.reducePow, List.reduceReplicate, Int.reduceLE]))
    simp only [bodyQ, go_sem, Nat.reduceBEq, Nat.reduceLT, Nat.reduceEqDiff, reduceIte, Nat.reduceAdd, Nat.reduceMul, Nat.reduceSub, Nat.reduceLeDiff, Int.reduceToNat, Int.reducePow, Int.reduceLT, Int.reduceEq, Int.reduceNeg, Nat.reducePow, List.reduceReplicate, Int.reduceLE]
    exact Fin.cut (.v _) ⟨rfl, rfl⟩
  | false =>
  cases hg' : frGreat g with
  | true =>
    rw [hg] at g1
    rw [hg'] at g2
    obtain ⟨k, c, n, p⟩ := f
    obtain ⟨k', c', n', p'⟩ := g
    try simp only [frV] at *
    intro base
    refine acall_body Try.func6 rfl (fun a w => Try.call6 a w) Try.ntmps6 Try.results6 (by simp) ?_
    intro w β hI
    simp only [number]
    repeat' (first
      | (refine AWP.seq ?_)
      | (refine AWP.block ?_)
      | (refine AWP.region_k fun Q' hQ' => ?_)
      | (refine AWP.draw_k rfl (by kernel_rfl) fun Q' hQ' => ?_)
      | (with_reducible refine aops.step fun T hT => ?_; simp (disch := omega) only [go_sem, Nat.reduceBEq, Nat.reduceLT, Nat.reduceEqDiff, reduceIte, Nat.reduceAdd, Nat.reduceMul, Nat.reduceSub, Nat.reduceLeDiff, Int.reduceToNat, Int.reducePow, Int.reduceLT, Int.reduceEq, Int.reduceNeg, Nat.reducePow, List.reduceReplicate, Int.reduceLE])
      | (with_reducible refine qops.step fun T hT => ?_; simp (disch := omega) only [go_sem, Nat.reduceBEq, Nat.reduceLT, Nat.reduceEqDiff, reduceIte, Nat.reduceAdd, Nat.reduceMul, Nat.reduceSub, Nat.reduceLeDiff, Int.reduceToNat, Int.reducePow, Int.reduceLT, Int.reduceEq, Int.reduceNeg, Nat.reducePow, List.reduceReplicate, Int.reduceLE])
      | (with_reducible refine aops.nil ?_)
      | (with_reducible refine qops.nil ?_)
      | (with_reducible refine hT _ ?_; clear hT T)
      | (refine AWP.skip ?_; try simp only [AExit.then, AExit.inBlock, reduceIte, Nat.reduceEqDiff])
      | (refine AWP.exit ?_; try simp only [AExit.then, AExit.inBlock, reduceIte, Nat.reduceEqDiff])
      | (refine AWP.ret ?_; try simp only [AExit.then, AExit.inBlock, reduceIte, Nat.reduceEqDiff])
      | (refine AWP.cond rfl (fun h => ?_) (fun h => ?_) <;> (try simp only [decide_eq_true_eq, decide_eq_false_iff_not, Bool.true_eq_false, Bool.false_eq_true] at h) <;> (try contradiction))
      | (refine hQ' _ _ ?_; clear hQ' Q'; try simp only [AExit.then, AExit.inBlock, reduceIte, Nat.reduceEqDiff])
      | (refine hQ' _ ?_; clear hQ' Q'; try simp only [AExit.then, AExit.inBlock, reduceIte, Nat.reduceEqDiff])
      | (with_reducible refine Branch.split (fun h => ?_) (fun h => ?_) <;> (try simp only [decide_eq_true_eq, decide_eq_false_iff_not, Bool.not_true, Bool.not_false, Bool.true_eq_false, Bool.false_eq_true] at h) <;> (try contradiction) <;> (simp (disch := omega) only [go_sem, Nat.reduceBEq, Nat.reduceLT, Nat.reduceEqDiff, reduceIte, Nat.reduceAdd, Nat.reduceMul, Nat.reduceSub, Nat.reduceLeDiff, Int.reduceToNat, Int.reducePow, Int.reduceLT, Int.reduceEq, Int.reduceNeg, Nat.reducePow, List.reduceReplicate, Int.reduceLE, h]))
      | (with_reducible intro h; try simp only [h, go_sem, Nat.reduceBEq, Nat.reduceLT, Nat.reduceEqDiff, reduceIte, Nat.reduceAdd, Nat.reduceMul, Nat.reduceSub, Nat.reduceLeDiff, Int.reduceToNat, Int.reducePow, Int.reduceLT, Int.reduceEq, Int.reduceNeg, Nat.reducePow, List.reduceReplicate, Int.reduceLE])
      | ((first | (with_reducible refine acall.det (alive_spec _) ?_) | (with_reducible refine qcall.det (alive_spec _) ?_) | (with_reducible refine acall.det (g1 _) ?_) | (with_reducible refine qcall.det (g1 _) ?_) | (with_reducible refine acall.det (g2 _) ?_) | (with_reducible refine qcall.det (g2 _) ?_)); try simp (disch := omega) only [go_sem, Nat.reduceBEq, Nat.reduceLT, Nat.reduceEqDiff, reduceIte, Nat.reduceAdd, Nat.reduceMul, Nat.reduceSub, Nat.reduceLeDiff, Int.reduceToNat, Int.reducePow, Int.reduceLT, Int.reduceEq, Int.reduceNeg, Nat.reducePow, List.reduceReplicate, Int.reduceLE]))
    simp only [bodyQ, go_sem, Nat.reduceBEq, Nat.reduceLT, Nat.reduceEqDiff, reduceIte, Nat.reduceAdd, Nat.reduceMul, Nat.reduceSub, Nat.reduceLeDiff, Int.reduceToNat, Int.reducePow, Int.reduceLT, Int.reduceEq, Int.reduceNeg, Nat.reducePow, List.reduceReplicate, Int.reduceLE]
    exact Fin.cut (.v _) ⟨rfl, rfl⟩
  | false =>
  rw [hg] at g1
  rw [hg'] at g2
  have b1 := frGreat_false hg
  have b2 := frGreat_false hg'
  have e1 := fun H => encode_spec f (by omega) (by omega) H
  have e2 := fun H => refEncode_spec f (by omega) (by omega) H
  have r1 := fun H => right_spec f (by omega) (by omega) H
  have r2 := fun H => refRight_spec f (by omega) (by omega) H
  have s1 := fun H => frameSame_spec f g (by omega) (by omega) H
  have s2 := fun H => refSame_spec f g (by omega) (by omega) H
  have s3 := fun H => frameSame_spec f f (by omega) (by omega) H
  rw [frSame_self] at s3
  unfold encV at e1 e2
  cases hr : frRight f with
  | true =>
    have hbl := frB_length f hr
    rw [if_pos hr] at e1 e2
    rw [hr] at r1 r2
    have q := fun H => same_spec (frB f) (frB f) (by omega) (by omega) H
    simp only [decide_true] at q
    generalize frB f = bs at e1 e2 q
    generalize frSame f g = s at s1 s2
    obtain ⟨k, c, n, p⟩ := f
    obtain ⟨k', c', n', p'⟩ := g
    try simp only [frV] at *
    intro base
    refine acall_body Try.func6 rfl (fun a w => Try.call6 a w) Try.ntmps6 Try.results6 (by simp) ?_
    intro w β hI
    simp only [number]
    repeat' (first
      | (refine AWP.seq ?_)
      | (refine AWP.block ?_)
      | (refine AWP.region_k fun Q' hQ' => ?_)
      | (refine AWP.draw_k rfl (by kernel_rfl) fun Q' hQ' => ?_)
      | (with_reducible refine aops.step fun T hT => ?_; simp (disch := omega) only [go_sem, Nat.reduceBEq, Nat.reduceLT, Nat.reduceEqDiff, reduceIte, Nat.reduceAdd, Nat.reduceMul, Nat.reduceSub, Nat.reduceLeDiff, Int.reduceToNat, Int.reducePow, Int.reduceLT, Int.reduceEq, Int.reduceNeg, Nat.reducePow, List.reduceReplicate, Int.reduceLE, eq_self])
      | (with_reducible refine qops.step fun T hT => ?_; simp (disch := omega) only [go_sem, Nat.reduceBEq, Nat.reduceLT, Nat.reduceEqDiff, reduceIte, Nat.reduceAdd, Nat.reduceMul, Nat.reduceSub, Nat.reduceLeDiff, Int.reduceToNat, Int.reducePow, Int.reduceLT, Int.reduceEq, Int.reduceNeg, Nat.reducePow, List.reduceReplicate, Int.reduceLE, eq_self])
      | (with_reducible refine aops.nil ?_)
      | (with_reducible refine qops.nil ?_)
      | (with_reducible refine hT _ ?_; clear hT T)
      | (refine AWP.skip ?_; try simp only [AExit.then, AExit.inBlock, reduceIte, Nat.reduceEqDiff])
      | (refine AWP.exit ?_; try simp only [AExit.then, AExit.inBlock, reduceIte, Nat.reduceEqDiff])
      | (refine AWP.ret ?_; try simp only [AExit.then, AExit.inBlock, reduceIte, Nat.reduceEqDiff])
      | (refine AWP.cond rfl (fun h => ?_) (fun h => ?_) <;> (try simp only [decide_eq_true_eq, decide_eq_false_iff_not, Bool.true_eq_false, Bool.false_eq_true] at h) <;> (try contradiction))
      | (refine hQ' _ _ ?_; clear hQ' Q'; try simp only [AExit.then, AExit.inBlock, reduceIte, Nat.reduceEqDiff])
      | (refine hQ' _ ?_; clear hQ' Q'; try simp only [AExit.then, AExit.inBlock, reduceIte, Nat.reduceEqDiff])
      | (with_reducible refine Branch.split (fun h => ?_) (fun h => ?_) <;> (try simp only [decide_eq_true_eq, decide_eq_false_iff_not, Bool.not_true, Bool.not_false, Bool.true_eq_false, Bool.false_eq_true] at h) <;> (try contradiction) <;> (simp (disch := omega) only [go_sem, Nat.reduceBEq, Nat.reduceLT, Nat.reduceEqDiff, reduceIte, Nat.reduceAdd, Nat.reduceMul, Nat.reduceSub, Nat.reduceLeDiff, Int.reduceToNat, Int.reducePow, Int.reduceLT, Int.reduceEq, Int.reduceNeg, Nat.reducePow, List.reduceReplicate, Int.reduceLE, h, eq_self]))
      | (with_reducible intro h; try simp only [h, go_sem, Nat.reduceBEq, Nat.reduceLT, Nat.reduceEqDiff, reduceIte, Nat.reduceAdd, Nat.reduceMul, Nat.reduceSub, Nat.reduceLeDiff, Int.reduceToNat, Int.reducePow, Int.reduceLT, Int.reduceEq, Int.reduceNeg, Nat.reducePow, List.reduceReplicate, Int.reduceLE, eq_self])
      | ((first | (with_reducible refine acall.det (alive_spec _) ?_) | (with_reducible refine qcall.det (alive_spec _) ?_) | (with_reducible refine acall.det (g1 _) ?_) | (with_reducible refine qcall.det (g1 _) ?_) | (with_reducible refine acall.det (g2 _) ?_) | (with_reducible refine qcall.det (g2 _) ?_) | (with_reducible refine acall.det (e1 _) ?_) | (with_reducible refine qcall.det (e1 _) ?_) | (with_reducible refine acall.det (e2 _) ?_) | (with_reducible refine qcall.det (e2 _) ?_) | (with_reducible refine acall.det (r1 _) ?_) | (with_reducible refine qcall.det (r1 _) ?_) | (with_reducible refine acall.det (r2 _) ?_) | (with_reducible refine qcall.det (r2 _) ?_) | (with_reducible refine acall.det (s1 _) ?_) | (with_reducible refine qcall.det (s1 _) ?_) | (with_reducible refine acall.det (s2 _) ?_) | (with_reducible refine qcall.det (s2 _) ?_) | (with_reducible refine acall.det (s3 _) ?_) | (with_reducible refine qcall.det (s3 _) ?_) | (with_reducible refine acall.det (q _) ?_) | (with_reducible refine qcall.det (q _) ?_)); try simp (disch := omega) only [go_sem, Nat.reduceBEq, Nat.reduceLT, Nat.reduceEqDiff, reduceIte, Nat.reduceAdd, Nat.reduceMul, Nat.reduceSub, Nat.reduceLeDiff, Int.reduceToNat, Int.reducePow, Int.reduceLT, Int.reduceEq, Int.reduceNeg, Nat.reducePow, List.reduceReplicate, Int.reduceLE, eq_self])
      | (with_reducible refine acall.em0 ?_)
      | (with_reducible refine acall.em1 ?_)
      | (with_reducible refine qcall.em0 ?_)
      | (with_reducible refine qcall.em1 ?_)
      | ((first | (with_reducible refine acall.fz0 ?_) | (with_reducible refine acall.fz1 ?_)); simp (disch := omega) only [go_sem, Nat.reduceBEq, Nat.reduceLT, Nat.reduceEqDiff, reduceIte, Nat.reduceAdd, Nat.reduceMul, Nat.reduceSub, Nat.reduceLeDiff, Int.reduceToNat, Int.reducePow, Int.reduceLT, Int.reduceEq, Int.reduceNeg, Nat.reducePow, List.reduceReplicate, Int.reduceLE, eq_self]))
    simp only [bodyQ, go_sem, Nat.reduceBEq, Nat.reduceLT, Nat.reduceEqDiff, reduceIte, Nat.reduceAdd, Nat.reduceMul, Nat.reduceSub, Nat.reduceLeDiff, Int.reduceToNat, Int.reducePow, Int.reduceLT, Int.reduceEq, Int.reduceNeg, Nat.reducePow, List.reduceReplicate, Int.reduceLE]
    exact Fin.cut (.v _) ⟨rfl, rfl⟩
  | false =>
    rw [if_neg (by rw [hr]; decide)] at e1 e2
    rw [hr] at r1 r2
    have q := fun H => same_spec [] [] (by decide) (by decide) H
    simp only [decide_true] at q
    generalize frSame f g = s at s1 s2
    obtain ⟨k, c, n, p⟩ := f
    obtain ⟨k', c', n', p'⟩ := g
    try simp only [frV] at *
    intro base
    refine acall_body Try.func6 rfl (fun a w => Try.call6 a w) Try.ntmps6 Try.results6 (by simp) ?_
    intro w β hI
    simp only [number]
    repeat' (first
      | (refine AWP.seq ?_)
      | (refine AWP.block ?_)
      | (refine AWP.region_k fun Q' hQ' => ?_)
      | (refine AWP.draw_k rfl (by kernel_rfl) fun Q' hQ' => ?_)
      | (with_reducible refine aops.step fun T hT => ?_; simp (disch := omega) only [go_sem, Nat.reduceBEq, Nat.reduceLT, Nat.reduceEqDiff, reduceIte, Nat.reduceAdd, Nat.reduceMul, Nat.reduceSub, Nat.reduceLeDiff, Int.reduceToNat, Int.reducePow, Int.reduceLT, Int.reduceEq, Int.reduceNeg, Nat.reducePow, List.reduceReplicate, Int.reduceLE, eq_self])
      | (with_reducible refine qops.step fun T hT => ?_; simp (disch := omega) only [go_sem, Nat.reduceBEq, Nat.reduceLT, Nat.reduceEqDiff, reduceIte, Nat.reduceAdd, Nat.reduceMul, Nat.reduceSub, Nat.reduceLeDiff, Int.reduceToNat, Int.reducePow, Int.reduceLT, Int.reduceEq, Int.reduceNeg, Nat.reducePow, List.reduceReplicate, Int.reduceLE, eq_self])
      | (with_reducible refine aops.nil ?_)
      | (with_reducible refine qops.nil ?_)
      | (with_reducible refine hT _ ?_; clear hT T)
      | (refine AWP.skip ?_; try simp only [AExit.then, AExit.inBlock, reduceIte, Nat.reduceEqDiff])
      | (refine AWP.exit ?_; try simp only [AExit.then, AExit.inBlock, reduceIte, Nat.reduceEqDiff])
      | (refine AWP.ret ?_; try simp only [AExit.then, AExit.inBlock, reduceIte, Nat.reduceEqDiff])
      | (refine AWP.cond rfl (fun h => ?_) (fun h => ?_) <;> (try simp only [decide_eq_true_eq, decide_eq_false_iff_not, Bool.true_eq_false, Bool.false_eq_true] at h) <;> (try contradiction))
      | (refine hQ' _ _ ?_; clear hQ' Q'; try simp only [AExit.then, AExit.inBlock, reduceIte, Nat.reduceEqDiff])
      | (refine hQ' _ ?_; clear hQ' Q'; try simp only [AExit.then, AExit.inBlock, reduceIte, Nat.reduceEqDiff])
      | (with_reducible refine Branch.split (fun h => ?_) (fun h => ?_) <;> (try simp only [decide_eq_true_eq, decide_eq_false_iff_not, Bool.not_true, Bool.not_false, Bool.true_eq_false, Bool.false_eq_true] at h) <;> (try contradiction) <;> (simp (disch := omega) only [go_sem, Nat.reduceBEq, Nat.reduceLT, Nat.reduceEqDiff, reduceIte, Nat.reduceAdd, Nat.reduceMul, Nat.reduceSub, Nat.reduceLeDiff, Int.reduceToNat, Int.reducePow, Int.reduceLT, Int.reduceEq, Int.reduceNeg, Nat.reducePow, List.reduceReplicate, Int.reduceLE, h, eq_self]))
      | (with_reducible intro h; try simp only [h, go_sem, Nat.reduceBEq, Nat.reduceLT, Nat.reduceEqDiff, reduceIte, Nat.reduceAdd, Nat.reduceMul, Nat.reduceSub, Nat.reduceLeDiff, Int.reduceToNat, Int.reducePow, Int.reduceLT, Int.reduceEq, Int.reduceNeg, Nat.reducePow, List.reduceReplicate, Int.reduceLE, eq_self])
      | ((first | (with_reducible refine acall.det (alive_spec _) ?_) | (with_reducible refine qcall.det (alive_spec _) ?_) | (with_reducible refine acall.det (g1 _) ?_) | (with_reducible refine qcall.det (g1 _) ?_) | (with_reducible refine acall.det (g2 _) ?_) | (with_reducible refine qcall.det (g2 _) ?_) | (with_reducible refine acall.det (e1 _) ?_) | (with_reducible refine qcall.det (e1 _) ?_) | (with_reducible refine acall.det (e2 _) ?_) | (with_reducible refine qcall.det (e2 _) ?_) | (with_reducible refine acall.det (r1 _) ?_) | (with_reducible refine qcall.det (r1 _) ?_) | (with_reducible refine acall.det (r2 _) ?_) | (with_reducible refine qcall.det (r2 _) ?_) | (with_reducible refine acall.det (s1 _) ?_) | (with_reducible refine qcall.det (s1 _) ?_) | (with_reducible refine acall.det (s2 _) ?_) | (with_reducible refine qcall.det (s2 _) ?_) | (with_reducible refine acall.det (s3 _) ?_) | (with_reducible refine qcall.det (s3 _) ?_) | (with_reducible refine acall.det (q _) ?_) | (with_reducible refine qcall.det (q _) ?_)); try simp (disch := omega) only [go_sem, Nat.reduceBEq, Nat.reduceLT, Nat.reduceEqDiff, reduceIte, Nat.reduceAdd, Nat.reduceMul, Nat.reduceSub, Nat.reduceLeDiff, Int.reduceToNat, Int.reducePow, Int.reduceLT, Int.reduceEq, Int.reduceNeg, Nat.reducePow, List.reduceReplicate, Int.reduceLE, eq_self])
      | (with_reducible refine acall.em0 ?_)
      | (with_reducible refine acall.em1 ?_)
      | (with_reducible refine qcall.em0 ?_)
      | (with_reducible refine qcall.em1 ?_)
      | ((first | (with_reducible refine acall.fz0 ?_) | (with_reducible refine acall.fz1 ?_)); simp (disch := omega) only [go_sem, Nat.reduceBEq, Nat.reduceLT, Nat.reduceEqDiff, reduceIte, Nat.reduceAdd, Nat.reduceMul, Nat.reduceSub, Nat.reduceLeDiff, Int.reduceToNat, Int.reducePow, Int.reduceLT, Int.reduceEq, Int.reduceNeg, Nat.reducePow, List.reduceReplicate, Int.reduceLE, eq_self]))
    simp only [bodyQ, go_sem, Nat.reduceBEq, Nat.reduceLT, Nat.reduceEqDiff, reduceIte, Nat.reduceAdd, Nat.reduceMul, Nat.reduceSub, Nat.reduceLeDiff, Int.reduceToNat, Int.reducePow, Int.reduceLT, Int.reduceEq, Int.reduceNeg, Nat.reducePow, List.reduceReplicate, Int.reduceLE]
    exact Fin.cut (.v _) ⟨rfl, rfl⟩

end Go.Proofs.Ytgnafjnaombikaa.VL
