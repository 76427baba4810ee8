/- Layer 2: rows put together; seals laid. -/
import Derived.Test.YtjkdahpoalnjjaaDoorZSa
-- STEPWISE
set_option linter.unusedVariables false
set_option linter.unusedSimpArgs false
set_option maxRecDepth 10000
namespace Go.Proofs.YtjkdahpoalnjjaaDoor.VL
open Go Go.RowKit Go.Lib

/-- Rows of rows of bytes. -/
abbrev bsG (l : List (List UInt8)) : List (List AV) := l.map fun bs => [vB bs]
@[go_sem] theorem bsG_length (l : List (List UInt8)) : (bsG l).length = l.length := by simp [bsG]
@[go_sem] theorem bsG_get (l : List (List UInt8)) (i : Nat) : (bsG l)[i]? = (l[i]?).map fun bs => [vB bs] := by simp [bsG]

theorem grow_spec (n : Int) (h0 : 0 < n) (hn : n ≤ 70368744177664) (H : List Box) : ASpec Tryd.prog 99 [.emp, vi n] H (fun o H' => o = .ret (.sl H.length 0 0 0 1 false) ∧ H' = H ++ [⟨[], 0, 0, true⟩]) := by
  have hneg : ¬ n < 0 := by omega
  intro base
  refine acall_body Tryd.func99 rfl (fun a w => Tryd.call99 a w) Tryd.ntmps99 Tryd.results99 (by simp) ?_
  intro w β hI
  simp only [number]
  repeat' (first
    | (refine AWP.seq ?_)
    | (refine AWP.block ?_)
    | (refine AWP.region_k fun Q' hQ' => ?_)
    | (refine AWP.draw_k rfl (by kernel_rfl) fun Q' hQ' => ?_)
    | (with_reducible refine aops.step fun T hT => ?_; simp (disch := omega) only [go_sem, Nat.reduceBEq, Nat.reduceLT, Nat.reduceEqDiff, reduceIte, Nat.reduceAdd, Nat.reduceMul, Nat.reduceSub, Nat.reduceLeDiff, Int.reduceToNat, Int.reducePow, Int.reduceLT, Int.reduceEq, Int.reduceNeg, Nat.reducePow, List.reduceReplicate, Int.reduceLE, hneg, h0, Int.sub_zero, Int.sub_self])
    | (with_reducible refine qops.step fun T hT => ?_; simp (disch := omega) only [go_sem, Nat.reduceBEq, Nat.reduceLT, Nat.reduceEqDiff, reduceIte, Nat.reduceAdd, Nat.reduceMul, Nat.reduceSub, Nat.reduceLeDiff, Int.reduceToNat, Int.reducePow, Int.reduceLT, Int.reduceEq, Int.reduceNeg, Nat.reducePow, List.reduceReplicate, Int.reduceLE, hneg, h0, Int.sub_zero, Int.sub_self])
    | (with_reducible refine aops.nil ?_)
    | (with_reducible refine qops.nil ?_)
    | (with_reducible refine hT _ ?_; clear hT T)
    | (refine AWP.skip ?_; try simp only [AExit.then, AExit.inBlock, reduceIte, Nat.reduceEqDiff])
    | (refine AWP.exit ?_; try simp only [AExit.then, AExit.inBlock, reduceIte, Nat.reduceEqDiff])
    | (refine AWP.ret ?_; try simp only [AExit.then, AExit.inBlock, reduceIte, Nat.reduceEqDiff])
    | (refine AWP.cond rfl (fun h => ?_) (fun h => ?_) <;> (try simp only [decide_eq_true_eq, decide_eq_false_iff_not, Bool.true_eq_false, Bool.false_eq_true] at h) <;> (try contradiction))
    | (refine hQ' _ _ ?_; clear hQ' Q'; try simp only [AExit.then, AExit.inBlock, reduceIte, Nat.reduceEqDiff])
    | (refine hQ' _ ?_; clear hQ' Q'; try simp only [AExit.then, AExit.inBlock, reduceIte, Nat.reduceEqDiff])
    | (with_reducible refine Branch.split (fun h => ?_) (fun h => ?_) <;> (try simp only [decide_eq_true_eq, decide_eq_false_iff_not, Bool.not_true, Bool.not_false, Bool.true_eq_false, Bool.false_eq_true] at h) <;> (try contradiction) <;> (simp (disch := omega) only [go_sem, Nat.reduceBEq, Nat.reduceLT, Nat.reduceEqDiff, reduceIte, Nat.reduceAdd, Nat.reduceMul, Nat.reduceSub, Nat.reduceLeDiff, Int.reduceToNat, Int.reducePow, Int.reduceLT, Int.reduceEq, Int.reduceNeg, Nat.reducePow, List.reduceReplicate, Int.reduceLE, h, hneg, h0, Int.sub_zero, Int.sub_self]))
    | (with_reducible intro h; try simp only [h, go_sem, Nat.reduceBEq, Nat.reduceLT, Nat.reduceEqDiff, reduceIte, Nat.reduceAdd, Nat.reduceMul, Nat.reduceSub, Nat.reduceLeDiff, Int.reduceToNat, Int.reducePow, Int.reduceLT, Int.reduceEq, Int.reduceNeg, Nat.reducePow, List.reduceReplicate, Int.reduceLE, hneg, h0, Int.sub_zero, Int.sub_self]))
  simp only [bodyQ, go_sem, Nat.reduceBEq, Nat.reduceLT, Nat.reduceEqDiff, reduceIte, Nat.reduceAdd, Nat.reduceMul, Nat.reduceSub, Nat.reduceLeDiff, Int.reduceToNat, Int.reducePow, Int.reduceLT, Int.reduceEq, Int.reduceNeg, Nat.reducePow, List.reduceReplicate, Int.reduceLE]
  exact ⟨_, _, Shed.refl _ _ _, rfl, rfl⟩

theorem flatten_take_succ {l : List (List UInt8)} {i : Nat} {c : List UInt8} (h : l[i]? = some c) : (l.take (i + 1)).flatten = (l.take i).flatten ++ c := by
  have hi := (List.getElem?_eq_some_iff.1 h).1
  rw [List.take_add_one, h, List.flatten_append]
  simp
theorem flatten_take_le (l : List (List UInt8)) (i : Nat) : (l.take i).flatten.length ≤ l.flatten.length := by
  have := congrArg (fun x : List (List UInt8) => x.flatten.length) (List.take_append_drop i l)
  simp only [List.flatten_append, List.length_append] at this
  omega

set_option maxHeartbeats 1000000 in
theorem concat_spec (l : List (List UInt8)) (hp : 0 < l.flatten.length) (hl : l.flatten.length ≤ 70368744177664) (hn : l.length ≤ 1099511627776) (H : List Box) : ASpec Tryd.prog 86 [.lst 1 (bsG l)] H (Owns l.flatten H) := by
  intro base
  refine acall_body Tryd.func86 rfl (fun a w => Tryd.call86 a w) Tryd.ntmps86 Tryd.results86 (by simp) ?_
  intro w β hI
  simp only [number]
  repeat' (first
    | (refine AWP.seq ?_)
    | (refine AWP.block ?_)
    | (refine AWP.region_k fun Q' hQ' => ?_)
    | (refine AWP.draw_k rfl (by kernel_rfl) fun Q' hQ' => ?_)
    | (with_reducible refine aops.step fun T hT => ?_; simp (disch := omega) only [go_sem, Nat.reduceBEq, Nat.reduceLT, Nat.reduceEqDiff, reduceIte, Nat.reduceAdd, Nat.reduceMul, Nat.reduceSub, Nat.reduceLeDiff, Int.reduceToNat, Int.reducePow, Int.reduceLT, Int.reduceEq, Int.reduceNeg, Nat.reducePow, List.reduceReplicate, Int.reduceLE])
    | (with_reducible refine qops.step fun T hT => ?_; simp (disch := omega) only [go_sem, Nat.reduceBEq, Nat.reduceLT, Nat.reduceEqDiff, reduceIte, Nat.reduceAdd, Nat.reduceMul, Nat.reduceSub, Nat.reduceLeDiff, Int.reduceToNat, Int.reducePow, Int.reduceLT, Int.reduceEq, Int.reduceNeg, Nat.reducePow, List.reduceReplicate, Int.reduceLE])
    | (with_reducible refine aops.nil ?_)
    | (with_reducible refine qops.nil ?_)
    | (with_reducible refine hT _ ?_; clear hT T)
    | (refine AWP.skip ?_; try simp only [AExit.then, AExit.inBlock, reduceIte, Nat.reduceEqDiff])
    | (refine AWP.exit ?_; try simp only [AExit.then, AExit.inBlock, reduceIte, Nat.reduceEqDiff])
    | (refine AWP.ret ?_; try simp only [AExit.then, AExit.inBlock, reduceIte, Nat.reduceEqDiff])
    | (refine AWP.cond rfl (fun h => ?_) (fun h => ?_) <;> (try simp only [decide_eq_true_eq, decide_eq_false_iff_not, Bool.true_eq_false, Bool.false_eq_true] at h) <;> (try contradiction))
    | (refine hQ' _ _ ?_; clear hQ' Q'; try simp only [AExit.then, AExit.inBlock, reduceIte, Nat.reduceEqDiff])
    | (refine hQ' _ ?_; clear hQ' Q'; try simp only [AExit.then, AExit.inBlock, reduceIte, Nat.reduceEqDiff])
    | (with_reducible refine Branch.split (fun h => ?_) (fun h => ?_) <;> (try simp only [decide_eq_true_eq, decide_eq_false_iff_not, Bool.not_true, Bool.not_false, Bool.true_eq_false, Bool.false_eq_true] at h) <;> (try contradiction) <;> (simp (disch := omega) only [go_sem, Nat.reduceBEq, Nat.reduceLT, Nat.reduceEqDiff, reduceIte, Nat.reduceAdd, Nat.reduceMul, Nat.reduceSub, Nat.reduceLeDiff, Int.reduceToNat, Int.reducePow, Int.reduceLT, Int.reduceEq, Int.reduceNeg, Nat.reducePow, List.reduceReplicate, Int.reduceLE, h]))
    | (with_reducible intro h; try simp only [h, go_sem, Nat.reduceBEq, Nat.reduceLT, Nat.reduceEqDiff, reduceIte, Nat.reduceAdd, Nat.reduceMul, Nat.reduceSub, Nat.reduceLeDiff, Int.reduceToNat, Int.reducePow, Int.reduceLT, Int.reduceEq, Int.reduceNeg, Nat.reducePow, List.reduceReplicate, Int.reduceLE]))
  refine AWP.loop (ι := {p : Nat × Nat // p.1 ≤ l.length ∧ p.2 = (l.take p.1).flatten.length})
    (fun p => ⟨[(0, .lst 1 (bsG l)), (3, vi p.1.2), (9, .lst 1 (bsG l)), (10, vi l.length), (11, vi p.1.1)], H⟩) (fun p => l.length - p.1.1) ⟨(0, 0), Nat.zero_le _, rfl⟩ ?_ ?_
  · dsimp only
    refine Coe.keep ?_; simp (disch := omega) only [Keeps, List.mem_cons, List.not_mem_nil, or_false, forall_eq_or_imp, forall_eq, List.length_append, Int.natCast_add, Int.natCast_one, Int.add_sub_cancel, Int.reduceSub, Int.reduceAdd, go_sem, Nat.reduceBEq, Nat.reduceLT, Nat.reduceEqDiff, reduceIte, Nat.reduceAdd, Nat.reduceMul, Nat.reduceSub, Nat.reduceLeDiff, Int.reduceToNat, Int.reducePow, Int.reduceLT, Int.reduceEq, Int.reduceNeg, Nat.reducePow, List.reduceReplicate, Int.reduceLE]
  · rintro ⟨⟨i, s⟩, hi, hs⟩
    dsimp only at hi hs ⊢
    by_cases hc : (i : Int) < (l.length : Int)
    · have hg : l[i]? = some l[i] := List.getElem?_eq_getElem (by omega)
      generalize l[i] = c at hg
      have ht := congrArg List.length (flatten_take_succ hg)
      have hle := flatten_take_le l (i + 1)
      rw [List.length_append, ← hs] at ht
      have hneg : ¬ ((s : Int) + (c.length : Int) < 0) := by omega
      repeat' (first
        | (refine AWP.seq ?_)
        | (refine AWP.block ?_)
        | (refine AWP.region_k fun Q' hQ' => ?_)
        | (refine AWP.draw_k rfl (by kernel_rfl) fun Q' hQ' => ?_)
        | (with_reducible refine aops.step fun T hT => ?_; simp (disch := omega) only [go_sem, Nat.reduceBEq, Nat.reduceLT, Nat.reduceEqDiff, reduceIte, Nat.reduceAdd, Nat.reduceMul, Nat.reduceSub, Nat.reduceLeDiff, Int.reduceToNat, Int.reducePow, Int.reduceLT, Int.reduceEq, Int.reduceNeg, Nat.reducePow, List.reduceReplicate, Int.reduceLE, hc, hg, hneg])
        | (with_reducible refine qops.step fun T hT => ?_; simp (disch := omega) only [go_sem, Nat.reduceBEq, Nat.reduceLT, Nat.reduceEqDiff, reduceIte, Nat.reduceAdd, Nat.reduceMul, Nat.reduceSub, Nat.reduceLeDiff, Int.reduceToNat, Int.reducePow, Int.reduceLT, Int.reduceEq, Int.reduceNeg, Nat.reducePow, List.reduceReplicate, Int.reduceLE, hc, hg, hneg])
        | (with_reducible refine aops.nil ?_)
        | (with_reducible refine qops.nil ?_)
        | (with_reducible refine hT _ ?_; clear hT T)
        | (refine AWP.skip ?_; try simp only [AExit.then, AExit.inBlock, reduceIte, Nat.reduceEqDiff])
        | (refine AWP.exit ?_; try simp only [AExit.then, AExit.inBlock, reduceIte, Nat.reduceEqDiff])
        | (refine AWP.ret ?_; try simp only [AExit.then, AExit.inBlock, reduceIte, Nat.reduceEqDiff])
        | (refine AWP.cond rfl (fun h => ?_) (fun h => ?_) <;> (try simp only [decide_eq_true_eq, decide_eq_false_iff_not, Bool.true_eq_false, Bool.false_eq_true] at h) <;> (try contradiction))
        | (refine hQ' _ _ ?_; clear hQ' Q'; try simp only [AExit.then, AExit.inBlock, reduceIte, Nat.reduceEqDiff])
        | (refine hQ' _ ?_; clear hQ' Q'; try simp only [AExit.then, AExit.inBlock, reduceIte, Nat.reduceEqDiff])
        | (with_reducible refine Branch.split (fun h => ?_) (fun h => ?_) <;> (try simp only [decide_eq_true_eq, decide_eq_false_iff_not, Bool.not_true, Bool.not_false, Bool.true_eq_false, Bool.false_eq_true] at h) <;> (try contradiction) <;> (simp (disch := omega) only [go_sem, Nat.reduceBEq, Nat.reduceLT, Nat.reduceEqDiff, reduceIte, Nat.reduceAdd, Nat.reduceMul, Nat.reduceSub, Nat.reduceLeDiff, Int.reduceToNat, Int.reducePow, Int.reduceLT, Int.reduceEq, Int.reduceNeg, Nat.reducePow, List.reduceReplicate, Int.reduceLE, h, hc, hg, hneg]))
        | (with_reducible intro h; try simp only [h, go_sem, Nat.reduceBEq, Nat.reduceLT, Nat.reduceEqDiff, reduceIte, Nat.reduceAdd, Nat.reduceMul, Nat.reduceSub, Nat.reduceLeDiff, Int.reduceToNat, Int.reducePow, Int.reduceLT, Int.reduceEq, Int.reduceNeg, Nat.reducePow, List.reduceReplicate, Int.reduceLE, hc, hg, hneg]))
      refine ⟨⟨(i + 1, s + c.length), ?_, ?_⟩, ?_, ?_⟩ <;> dsimp only
      · omega
      · exact ht.symm
      · refine Coe.keep ?_; simp (disch := omega) only [Keeps, List.mem_cons, List.not_mem_nil, or_false, forall_eq_or_imp, forall_eq, List.length_append, Int.natCast_add, Int.natCast_one, Int.add_sub_cancel, Int.reduceSub, Int.reduceAdd, go_sem, Nat.reduceBEq, Nat.reduceLT, Nat.reduceEqDiff, reduceIte, Nat.reduceAdd, Nat.reduceMul, Nat.reduceSub, Nat.reduceLeDiff, Int.reduceToNat, Int.reducePow, Int.reduceLT, Int.reduceEq, Int.reduceNeg, Nat.reducePow, List.reduceReplicate, Int.reduceLE]
      · omega
    · have hil : i = l.length := by omega
      subst hil
      rw [List.take_length] at hs
      subst hs
      repeat' (first
        | (refine AWP.seq ?_)
        | (refine AWP.block ?_)
        | (refine AWP.region_k fun Q' hQ' => ?_)
        | (refine AWP.draw_k rfl (by kernel_rfl) fun Q' hQ' => ?_)
        | (with_reducible refine aops.step fun T hT => ?_; simp (disch := omega) only [go_sem, Nat.reduceBEq, Nat.reduceLT, Nat.reduceEqDiff, reduceIte, Nat.reduceAdd, Nat.reduceMul, Nat.reduceSub, Nat.reduceLeDiff, Int.reduceToNat, Int.reducePow, Int.reduceLT, Int.reduceEq, Int.reduceNeg, Nat.reducePow, List.reduceReplicate, Int.reduceLE, hc])
        | (with_reducible refine qops.step fun T hT => ?_; simp (disch := omega) only [go_sem, Nat.reduceBEq, Nat.reduceLT, Nat.reduceEqDiff, reduceIte, Nat.reduceAdd, Nat.reduceMul, Nat.reduceSub, Nat.reduceLeDiff, Int.reduceToNat, Int.reducePow, Int.reduceLT, Int.reduceEq, Int.reduceNeg, Nat.reducePow, List.reduceReplicate, Int.reduceLE, hc])
        | (with_reducible refine aops.nil ?_)
        | (with_reducible refine qops.nil ?_)
        | (with_reducible refine hT _ ?_; clear hT T)
        | (refine AWP.skip ?_; try simp only [AExit.then, AExit.inBlock, reduceIte, Nat.reduceEqDiff])
        | (refine AWP.exit ?_; try simp only [AExit.then, AExit.inBlock, reduceIte, Nat.reduceEqDiff])
        | (refine AWP.ret ?_; try simp only [AExit.then, AExit.inBlock, reduceIte, Nat.reduceEqDiff])
        | (refine AWP.cond rfl (fun h => ?_) (fun h => ?_) <;> (try simp only [decide_eq_true_eq, decide_eq_false_iff_not, Bool.true_eq_false, Bool.false_eq_true] at h) <;> (try contradiction))
        | (refine hQ' _ _ ?_; clear hQ' Q'; try simp only [AExit.then, AExit.inBlock, reduceIte, Nat.reduceEqDiff])
        | (refine hQ' _ ?_; clear hQ' Q'; try simp only [AExit.then, AExit.inBlock, reduceIte, Nat.reduceEqDiff])
        | (with_reducible refine Branch.split (fun h => ?_) (fun h => ?_) <;> (try simp only [decide_eq_true_eq, decide_eq_false_iff_not, Bool.not_true, Bool.not_false, Bool.true_eq_false, Bool.false_eq_true] at h) <;> (try contradiction) <;> (simp (disch := omega) only [go_sem, Nat.reduceBEq, Nat.reduceLT, Nat.reduceEqDiff, reduceIte, Nat.reduceAdd, Nat.reduceMul, Nat.reduceSub, Nat.reduceLeDiff, Int.reduceToNat, Int.reducePow, Int.reduceLT, Int.reduceEq, Int.reduceNeg, Nat.reducePow, List.reduceReplicate, Int.reduceLE, h, hc]))
        | (with_reducible intro h; try simp only [h, go_sem, Nat.reduceBEq, Nat.reduceLT, Nat.reduceEqDiff, reduceIte, Nat.reduceAdd, Nat.reduceMul, Nat.reduceSub, Nat.reduceLeDiff, Int.reduceToNat, Int.reducePow, Int.reduceLT, Int.reduceEq, Int.reduceNeg, Nat.reducePow, List.reduceReplicate, Int.reduceLE, hc])
        | ((first | (with_reducible refine acall.det (grow_spec (l.flatten.length : Int) (by omega) (by omega) _) ?_) | (with_reducible refine qcall.det (grow_spec (l.flatten.length : Int) (by omega) (by omega) _) ?_)); try simp (disch := omega) only [go_sem, Nat.reduceBEq, Nat.reduceLT, Nat.reduceEqDiff, reduceIte, Nat.reduceAdd, Nat.reduceMul, Nat.reduceSub, Nat.reduceLeDiff, Int.reduceToNat, Int.reducePow, Int.reduceLT, Int.reduceEq, Int.reduceNeg, Nat.reducePow, List.reduceReplicate, Int.reduceLE, hc]))
      refine AWP.loop (ι := {p : Nat × Nat × List UInt8 // p.1 ≤ l.length ∧ p.2.2 = (l.take p.1).flatten})
        (fun p => ⟨[(6, .sl H.length p.1.2.1 0 p.1.2.2.length 1 false), (25, .lst 1 (bsG l)), (26, vi l.length), (27, vi p.1.1)], H ++ [⟨bytesC p.1.2.2, 0, p.1.2.1, true⟩]⟩) (fun p => l.length - p.1.1) ⟨(0, 0, []), Nat.zero_le _, rfl⟩ ?_ ?_
      · dsimp only
        refine Coe.keep ?_; simp (disch := omega) only [Keeps, List.mem_cons, List.not_mem_nil, or_false, forall_eq_or_imp, forall_eq, List.length_append, Int.natCast_add, Int.natCast_one, Int.add_sub_cancel, Int.reduceSub, Int.reduceAdd, go_sem, Nat.reduceBEq, Nat.reduceLT, Nat.reduceEqDiff, reduceIte, Nat.reduceAdd, Nat.reduceMul, Nat.reduceSub, Nat.reduceLeDiff, Int.reduceToNat, Int.reducePow, Int.reduceLT, Int.reduceEq, Int.reduceNeg, Nat.reducePow, List.reduceReplicate, Int.reduceLE]
      · rintro ⟨⟨i, g, acc⟩, hi, hs⟩
        dsimp only at hi hs ⊢
        by_cases hc : (i : Int) < (l.length : Int)
        · have hg : l[i]? = some l[i] := List.getElem?_eq_getElem (by omega)
          generalize l[i] = c at hg
          have ht := flatten_take_succ hg
          have hle := flatten_take_le l (i + 1)
          rw [ht, List.length_append, ← hs] at hle
          repeat' (first
            | (refine AWP.seq ?_)
            | (refine AWP.block ?_)
            | (refine AWP.region_k fun Q' hQ' => ?_)
            | (refine AWP.draw_k rfl (by kernel_rfl) fun Q' hQ' => ?_)
            | (with_reducible refine aops.step fun T hT => ?_; simp (disch := omega) only [go_sem, Nat.reduceBEq, Nat.reduceLT, Nat.reduceEqDiff, reduceIte, Nat.reduceAdd, Nat.reduceMul, Nat.reduceSub, Nat.reduceLeDiff, Int.reduceToNat, Int.reducePow, Int.reduceLT, Int.reduceEq, Int.reduceNeg, Nat.reducePow, List.reduceReplicate, Int.reduceLE, hc, hg])
            | (with_reducible refine qops.step fun T hT => ?_; simp (disch := omega) only [go_sem, Nat.reduceBEq, Nat.reduceLT, Nat.reduceEqDiff, reduceIte, Nat.reduceAdd, Nat.reduceMul, Nat.reduceSub, Nat.reduceLeDiff, Int.reduceToNat, Int.reducePow, Int.reduceLT, Int.reduceEq, Int.reduceNeg, Nat.reducePow, List.reduceReplicate, Int.reduceLE, hc, hg])
            | (with_reducible refine aops.nil ?_)
            | (with_reducible refine qops.nil ?_)
            | (with_reducible refine hT _ ?_; clear hT T)
            | (refine AWP.skip ?_; try simp only [AExit.then, AExit.inBlock, reduceIte, Nat.reduceEqDiff])
            | (refine AWP.exit ?_; try simp only [AExit.then, AExit.inBlock, reduceIte, Nat.reduceEqDiff])
            | (refine AWP.ret ?_; try simp only [AExit.then, AExit.inBlock, reduceIte, Nat.reduceEqDiff])
            | (refine AWP.cond rfl (fun h => ?_) (fun h => ?_) <;> (try simp only [decide_eq_true_eq, decide_eq_false_iff_not, Bool.true_eq_false, Bool.false_eq_true] at h) <;> (try contradiction))
            | (refine hQ' _ _ ?_; clear hQ' Q'; try simp only [AExit.then, AExit.inBlock, reduceIte, Nat.reduceEqDiff])
            | (refine hQ' _ ?_; clear hQ' Q'; try simp only [AExit.then, AExit.inBlock, reduceIte, Nat.reduceEqDiff])
            | (with_reducible refine Branch.split (fun h => ?_) (fun h => ?_) <;> (try simp only [decide_eq_true_eq, decide_eq_false_iff_not, Bool.not_true, Bool.not_false, Bool.true_eq_false, Bool.false_eq_true] at h) <;> (try contradiction) <;> (simp (disch := omega) only [go_sem, Nat.reduceBEq, Nat.reduceLT, Nat.reduceEqDiff, reduceIte, Nat.reduceAdd, Nat.reduceMul, Nat.reduceSub, Nat.reduceLeDiff, Int.reduceToNat, Int.reducePow, Int.reduceLT, Int.reduceEq, Int.reduceNeg, Nat.reducePow, List.reduceReplicate, Int.reduceLE, h, hc, hg]))
            | (with_reducible intro h; try simp only [h, go_sem, Nat.reduceBEq, Nat.reduceLT, Nat.reduceEqDiff, reduceIte, Nat.reduceAdd, Nat.reduceMul, Nat.reduceSub, Nat.reduceLeDiff, Int.reduceToNat, Int.reducePow, Int.reduceLT, Int.reduceEq, Int.reduceNeg, Nat.reducePow, List.reduceReplicate, Int.reduceLE, hc, hg]))
          refine ⟨⟨(i + 1, g + 1, acc ++ c), ?_, ?_⟩, ?_, ?_⟩ <;> dsimp only
          · omega
          · rw [ht, hs]
          · refine Coe.keep ?_; simp (disch := omega) only [Keeps, List.mem_cons, List.not_mem_nil, or_false, forall_eq_or_imp, forall_eq, List.length_append, Int.natCast_add, Int.natCast_one, Int.add_sub_cancel, Int.reduceSub, Int.reduceAdd, go_sem, Nat.reduceBEq, Nat.reduceLT, Nat.reduceEqDiff, reduceIte, Nat.reduceAdd, Nat.reduceMul, Nat.reduceSub, Nat.reduceLeDiff, Int.reduceToNat, Int.reducePow, Int.reduceLT, Int.reduceEq, Int.reduceNeg, Nat.reducePow, List.reduceReplicate, Int.reduceLE]
          · omega
        · repeat' (first
            | (refine AWP.seq ?_)
            | (refine AWP.block ?_)
            | (refine AWP.region_k fun Q' hQ' => ?_)
            | (refine AWP.draw_k rfl (by kernel_rfl) fun Q' hQ' => ?_)
            | (with_reducible refine aops.step fun T hT => ?_; simp (disch := omega) only [go_sem, Nat.reduceBEq, Nat.reduceLT, Nat.reduceEqDiff, reduceIte, Nat.reduceAdd, Nat.reduceMul, Nat.reduceSub, Nat.reduceLeDiff, Int.reduceToNat, Int.reducePow, Int.reduceLT, Int.reduceEq, Int.reduceNeg, Nat.reducePow, List.reduceReplicate, Int.reduceLE, hc])
            | (with_reducible refine qops.step fun T hT => ?_; simp (disch := omega) only [go_sem, Nat.reduceBEq, Nat.reduceLT, Nat.reduceEqDiff, reduceIte, Nat.reduceAdd, Nat.reduceMul, Nat.reduceSub, Nat.reduceLeDiff, Int.reduceToNat, Int.reducePow, Int.reduceLT, Int.reduceEq, Int.reduceNeg, Nat.reducePow, List.reduceReplicate, Int.reduceLE, hc])
            | (with_reducible refine aops.nil ?_)
            | (with_reducible refine qops.nil ?_)
            | (with_reducible refine hT _ ?_; clear hT T)
            | (refine AWP.skip ?_; try simp only [AExit.then, AExit.inBlock, reduceIte, Nat.reduceEqDiff])
            | (refine AWP.exit ?_; try simp only [AExit.then, AExit.inBlock, reduceIte, Nat.reduceEqDiff])
            | (refine AWP.ret ?_; try simp only [AExit.then, AExit.inBlock, reduceIte, Nat.reduceEqDiff])
            | (refine AWP.cond rfl (fun h => ?_) (fun h => ?_) <;> (try simp only [decide_eq_true_eq, decide_eq_false_iff_not, Bool.true_eq_false, Bool.false_eq_true] at h) <;> (try contradiction))
            | (refine hQ' _ _ ?_; clear hQ' Q'; try simp only [AExit.then, AExit.inBlock, reduceIte, Nat.reduceEqDiff])
            | (refine hQ' _ ?_; clear hQ' Q'; try simp only [AExit.then, AExit.inBlock, reduceIte, Nat.reduceEqDiff])
            | (with_reducible refine Branch.split (fun h => ?_) (fun h => ?_) <;> (try simp only [decide_eq_true_eq, decide_eq_false_iff_not, Bool.not_true, Bool.not_false, Bool.true_eq_false, Bool.false_eq_true] at h) <;> (try contradiction) <;> (simp (disch := omega) only [go_sem, Nat.reduceBEq, Nat.reduceLT, Nat.reduceEqDiff, reduceIte, Nat.reduceAdd, Nat.reduceMul, Nat.reduceSub, Nat.reduceLeDiff, Int.reduceToNat, Int.reducePow, Int.reduceLT, Int.reduceEq, Int.reduceNeg, Nat.reducePow, List.reduceReplicate, Int.reduceLE, h, hc]))
            | (with_reducible intro h; try simp only [h, go_sem, Nat.reduceBEq, Nat.reduceLT, Nat.reduceEqDiff, reduceIte, Nat.reduceAdd, Nat.reduceMul, Nat.reduceSub, Nat.reduceLeDiff, Int.reduceToNat, Int.reducePow, Int.reduceLT, Int.reduceEq, Int.reduceNeg, Nat.reducePow, List.reduceReplicate, Int.reduceLE, hc]))
          simp only [bodyQ, go_sem, Nat.reduceBEq, Nat.reduceLT, Nat.reduceEqDiff, reduceIte, Nat.reduceAdd, Nat.reduceMul, Nat.reduceSub, Nat.reduceLeDiff, Int.reduceToNat, Int.reducePow, Int.reduceLT, Int.reduceEq, Int.reduceNeg, Nat.reducePow, List.reduceReplicate, Int.reduceLE]
          refine Fin.owned ?_
          rw [hs, List.take_of_length_le (by omega)]

theorem wrap8 (n : Nat) : IntKind.u8.wrap (n : Int) = ((UInt8.ofNat n).toNat : Int) := by
  simp [IntKind.wrap, IntKind.bits, IntKind.signed, UInt8.toNat_ofNat']

theorem seal_spec (bs : List UInt8) (hl : bs.length ≤ 1099511627776) (H : List Box) : ASpec Tryd.prog 64 [vB bs] H (Owns (sealB bs) H) := by
  have h1 := crc_lt bs
  have hsum := fun H => sum_spec bs hl H
  have hcc : ∀ H, ASpec Tryd.prog 86 [.lst 1 [[vB bs], [.lst 1 [[.v (.int .u8 (UInt8.ofNat (crc bs)).toNat)], [.v (.int .u8 (UInt8.ofNat (crc bs / 256)).toNat)], [.v (.int .u8 (UInt8.ofNat (crc bs / 65536)).toNat)], [.v (.int .u8 (UInt8.ofNat (crc bs / 16777216)).toNat)]]]]] H (Owns (sealB bs) H) := fun H => by
    have h := concat_spec [bs, le4 (crc bs)] (by simp [le4]) (by simp [le4]; omega) (by simp) H
    have e : [bs, le4 (crc bs)].flatten = sealB bs := by simp [sealB]
    rw [e] at h
    exact h
  generalize hc : crc bs = c at h1 hsum hcc
  have w0 := wrap8 c
  have w1 := wrap8 (c / 256)
  have w2 := wrap8 (c / 65536)
  have w3 := wrap8 (c / 16777216)
  have d1 : (c : Int) / 256 = ((c / 256 : Nat) : Int) := by omega
  have d2 : (c : Int) / 65536 = ((c / 65536 : Nat) : Int) := by omega
  have d3 : (c : Int) / 16777216 = ((c / 16777216 : Nat) : Int) := by omega
  intro base
  refine acall_body Tryd.func64 rfl (fun a w => Tryd.call64 a w) Tryd.ntmps64 Tryd.results64 (by simp) ?_
  intro w β hI
  simp only [number]
  repeat' (first
    | (refine AWP.seq ?_)
    | (refine AWP.block ?_)
    | (refine AWP.region_k fun Q' hQ' => ?_)
    | (refine AWP.draw_k rfl (by kernel_rfl) fun Q' hQ' => ?_)
    | (with_reducible refine aops.step fun T hT => ?_; simp (disch := omega) only [go_sem, Nat.reduceBEq, Nat.reduceLT, Nat.reduceEqDiff, reduceIte, Nat.reduceAdd, Nat.reduceMul, Nat.reduceSub, Nat.reduceLeDiff, Int.reduceToNat, Int.reducePow, Int.reduceLT, Int.reduceEq, Int.reduceNeg, Nat.reducePow, List.reduceReplicate, Int.reduceLE, w0, w1, w2, w3, d1, d2, d3])
    | (with_reducible refine qops.step fun T hT => ?_; simp (disch := omega) only [go_sem, Nat.reduceBEq, Nat.reduceLT, Nat.reduceEqDiff, reduceIte, Nat.reduceAdd, Nat.reduceMul, Nat.reduceSub, Nat.reduceLeDiff, Int.reduceToNat, Int.reducePow, Int.reduceLT, Int.reduceEq, Int.reduceNeg, Nat.reducePow, List.reduceReplicate, Int.reduceLE, w0, w1, w2, w3, d1, d2, d3])
    | (with_reducible refine aops.nil ?_)
    | (with_reducible refine qops.nil ?_)
    | (with_reducible refine hT _ ?_; clear hT T)
    | (refine AWP.skip ?_; try simp only [AExit.then, AExit.inBlock, reduceIte, Nat.reduceEqDiff])
    | (refine AWP.exit ?_; try simp only [AExit.then, AExit.inBlock, reduceIte, Nat.reduceEqDiff])
    | (refine AWP.ret ?_; try simp only [AExit.then, AExit.inBlock, reduceIte, Nat.reduceEqDiff])
    | (refine AWP.cond rfl (fun h => ?_) (fun h => ?_) <;> (try simp only [decide_eq_true_eq, decide_eq_false_iff_not, Bool.true_eq_false, Bool.false_eq_true] at h) <;> (try contradiction))
    | (refine hQ' _ _ ?_; clear hQ' Q'; try simp only [AExit.then, AExit.inBlock, reduceIte, Nat.reduceEqDiff])
    | (refine hQ' _ ?_; clear hQ' Q'; try simp only [AExit.then, AExit.inBlock, reduceIte, Nat.reduceEqDiff])
    | (with_reducible refine Branch.split (fun h => ?_) (fun h => ?_) <;> (try simp only [decide_eq_true_eq, decide_eq_false_iff_not, Bool.not_true, Bool.not_false, Bool.true_eq_false, Bool.false_eq_true] at h) <;> (try contradiction) <;> (simp (disch := omega) only [go_sem, Nat.reduceBEq, Nat.reduceLT, Nat.reduceEqDiff, reduceIte, Nat.reduceAdd, Nat.reduceMul, Nat.reduceSub, Nat.reduceLeDiff, Int.reduceToNat, Int.reducePow, Int.reduceLT, Int.reduceEq, Int.reduceNeg, Nat.reducePow, List.reduceReplicate, Int.reduceLE, h, w0, w1, w2, w3, d1, d2, d3]))
    | (with_reducible intro h; try simp only [h, go_sem, Nat.reduceBEq, Nat.reduceLT, Nat.reduceEqDiff, reduceIte, Nat.reduceAdd, Nat.reduceMul, Nat.reduceSub, Nat.reduceLeDiff, Int.reduceToNat, Int.reducePow, Int.reduceLT, Int.reduceEq, Int.reduceNeg, Nat.reducePow, List.reduceReplicate, Int.reduceLE, w0, w1, w2, w3, d1, d2, d3])
    | ((first | (with_reducible refine acall.det (hsum _) ?_) | (with_reducible refine qcall.det (hsum _) ?_) | (with_reducible refine acall.det (hcc _) ?_) | (with_reducible refine qcall.det (hcc _) ?_)); try simp (disch := omega) only [go_sem, Nat.reduceBEq, Nat.reduceLT, Nat.reduceEqDiff, reduceIte, Nat.reduceAdd, Nat.reduceMul, Nat.reduceSub, Nat.reduceLeDiff, Int.reduceToNat, Int.reducePow, Int.reduceLT, Int.reduceEq, Int.reduceNeg, Nat.reducePow, List.reduceReplicate, Int.reduceLE, w0, w1, w2, w3, d1, d2, d3]))
  simp only [bodyQ, go_sem, Nat.reduceBEq, Nat.reduceLT, Nat.reduceEqDiff, reduceIte, Nat.reduceAdd, Nat.reduceMul, Nat.reduceSub, Nat.reduceLeDiff, Int.reduceToNat, Int.reducePow, Int.reduceLT, Int.reduceEq, Int.reduceNeg, Nat.reducePow, List.reduceReplicate, Int.reduceLE]
  exact Fin.owned rfl

/-- So many bytes of a number, the lowest first. -/
def leK : Nat → Nat → List UInt8
  | 0, _ => []
  | k + 1, s => UInt8.ofNat s :: leK k (s / 256)
theorem leK_length : ∀ (k s : Nat), (leK k s).length = k := by
  intro k
  induction k with
  | zero => intro s; rfl
  | succ k ih => intro s; simp [leK, ih]
theorem leK4 (s : Nat) : leK 4 s = le4 s := by
  simp [leK, le4, Nat.div_div_eq_div_mul]
theorem ofNat_mod (s : Nat) : UInt8.ofNat (s % 256) = UInt8.ofNat s := by
  apply UInt8.toNat_inj.1
  simp [UInt8.toNat_ofNat']

theorem refSeal_spec (bs : List UInt8) (hl : bs.length ≤ 1099511627776) (H : List Box) : ASpec Tryd.prog 65 [vB bs] H (Owns (sealB bs) H) := by
  have h1 := crc_lt bs
  have hsum := fun H => refSum_spec bs hl H
  unfold sealB
  rw [← leK4]
  generalize crc bs = c at h1 hsum ⊢
  intro base
  refine acall_body Tryd.func65 rfl (fun a w => Tryd.call65 a w) Tryd.ntmps65 Tryd.results65 (by simp) ?_
  intro w β hI
  simp only [number]
  repeat' (first
    | (refine AWP.seq ?_)
    | (refine AWP.block ?_)
    | (refine AWP.region_k fun Q' hQ' => ?_)
    | (refine AWP.draw_k rfl (by kernel_rfl) fun Q' hQ' => ?_)
    | (with_reducible refine aops.step fun T hT => ?_; simp (disch := omega) only [go_sem, Nat.reduceBEq, Nat.reduceLT, Nat.reduceEqDiff, reduceIte, Nat.reduceAdd, Nat.reduceMul, Nat.reduceSub, Nat.reduceLeDiff, Int.reduceToNat, Int.reducePow, Int.reduceLT, Int.reduceEq, Int.reduceNeg, Nat.reducePow, List.reduceReplicate, Int.reduceLE])
    | (with_reducible refine qops.step fun T hT => ?_; simp (disch := omega) only [go_sem, Nat.reduceBEq, Nat.reduceLT, Nat.reduceEqDiff, reduceIte, Nat.reduceAdd, Nat.reduceMul, Nat.reduceSub, Nat.reduceLeDiff, Int.reduceToNat, Int.reducePow, Int.reduceLT, Int.reduceEq, Int.reduceNeg, Nat.reducePow, List.reduceReplicate, Int.reduceLE])
    | (with_reducible refine aops.nil ?_)
    | (with_reducible refine qops.nil ?_)
    | (with_reducible refine hT _ ?_; clear hT T)
    | (refine AWP.skip ?_; try simp only [AExit.then, AExit.inBlock, reduceIte, Nat.reduceEqDiff])
    | (refine AWP.exit ?_; try simp only [AExit.then, AExit.inBlock, reduceIte, Nat.reduceEqDiff])
    | (refine AWP.ret ?_; try simp only [AExit.then, AExit.inBlock, reduceIte, Nat.reduceEqDiff])
    | (refine AWP.cond rfl (fun h => ?_) (fun h => ?_) <;> (try simp only [decide_eq_true_eq, decide_eq_false_iff_not, Bool.true_eq_false, Bool.false_eq_true] at h) <;> (try contradiction))
    | (refine hQ' _ _ ?_; clear hQ' Q'; try simp only [AExit.then, AExit.inBlock, reduceIte, Nat.reduceEqDiff])
    | (refine hQ' _ ?_; clear hQ' Q'; try simp only [AExit.then, AExit.inBlock, reduceIte, Nat.reduceEqDiff])
    | (with_reducible refine Branch.split (fun h => ?_) (fun h => ?_) <;> (try simp only [decide_eq_true_eq, decide_eq_false_iff_not, Bool.not_true, Bool.not_false, Bool.true_eq_false, Bool.false_eq_true] at h) <;> (try contradiction) <;> (simp (disch := omega) only [go_sem, Nat.reduceBEq, Nat.reduceLT, Nat.reduceEqDiff, reduceIte, Nat.reduceAdd, Nat.reduceMul, Nat.reduceSub, Nat.reduceLeDiff, Int.reduceToNat, Int.reducePow, Int.reduceLT, Int.reduceEq, Int.reduceNeg, Nat.reducePow, List.reduceReplicate, Int.reduceLE, h]))
    | (with_reducible intro h; try simp only [h, go_sem, Nat.reduceBEq, Nat.reduceLT, Nat.reduceEqDiff, reduceIte, Nat.reduceAdd, Nat.reduceMul, Nat.reduceSub, Nat.reduceLeDiff, Int.reduceToNat, Int.reducePow, Int.reduceLT, Int.reduceEq, Int.reduceNeg, Nat.reducePow, List.reduceReplicate, Int.reduceLE])
    | ((first | (with_reducible refine acall.det (hsum _) ?_) | (with_reducible refine qcall.det (hsum _) ?_)); try simp (disch := omega) only [go_sem, Nat.reduceBEq, Nat.reduceLT, Nat.reduceEqDiff, reduceIte, Nat.reduceAdd, Nat.reduceMul, Nat.reduceSub, Nat.reduceLeDiff, Int.reduceToNat, Int.reducePow, Int.reduceLT, Int.reduceEq, Int.reduceNeg, Nat.reducePow, List.reduceReplicate, Int.reduceLE]))
  refine AWP.loop (ι := {p : Nat × Nat × List UInt8 × Nat // p.1 ≤ 4 ∧ p.2.2.2 < 4294967296 ∧ p.2.2.1 ++ leK (4 - p.1) p.2.2.2 = bs ++ leK 4 c})
    (fun p => ⟨[(3, .sl H.length p.1.2.1 0 p.1.2.2.1.length 1 false), (4, .v (.int .u32 p.1.2.2.2)), (5, vi p.1.1)], H ++ [⟨bytesC p.1.2.2.1, 0, p.1.2.1, true⟩]⟩) (fun p => 4 - p.1.1) ⟨(0, 0, bs, c), Nat.zero_le _, h1, rfl⟩ ?_ ?_
  · dsimp only
    refine Coe.keep ?_; simp (disch := omega) only [Keeps, List.mem_cons, List.not_mem_nil, or_false, forall_eq_or_imp, forall_eq, List.length_append, Int.natCast_add, Int.natCast_one, Int.add_sub_cancel, Int.reduceSub, Int.reduceAdd, go_sem, Nat.reduceBEq, Nat.reduceLT, Nat.reduceEqDiff, reduceIte, Nat.reduceAdd, Nat.reduceMul, Nat.reduceSub, Nat.reduceLeDiff, Int.reduceToNat, Int.reducePow, Int.reduceLT, Int.reduceEq, Int.reduceNeg, Nat.reducePow, List.reduceReplicate, Int.reduceLE]
  · rintro ⟨⟨k, g, acc, s⟩, hk, hs, hp⟩
    dsimp only at hk hs hp ⊢
    have hpl : acc.length ≤ bs.length + 4 := by
      have := congrArg List.length hp
      simp only [List.length_append, leK_length] at this
      omega
    by_cases h4 : (k : Int) < 4
    · repeat' (first
        | (refine AWP.seq ?_)
        | (refine AWP.block ?_)
        | (refine AWP.region_k fun Q' hQ' => ?_)
        | (refine AWP.draw_k rfl (by kernel_rfl) fun Q' hQ' => ?_)
        | (with_reducible refine aops.step fun T hT => ?_; simp (disch := omega) only [go_sem, Nat.reduceBEq, Nat.reduceLT, Nat.reduceEqDiff, reduceIte, Nat.reduceAdd, Nat.reduceMul, Nat.reduceSub, Nat.reduceLeDiff, Int.reduceToNat, Int.reducePow, Int.reduceLT, Int.reduceEq, Int.reduceNeg, Nat.reducePow, List.reduceReplicate, Int.reduceLE, h4])
        | (with_reducible refine qops.step fun T hT => ?_; simp (disch := omega) only [go_sem, Nat.reduceBEq, Nat.reduceLT, Nat.reduceEqDiff, reduceIte, Nat.reduceAdd, Nat.reduceMul, Nat.reduceSub, Nat.reduceLeDiff, Int.reduceToNat, Int.reducePow, Int.reduceLT, Int.reduceEq, Int.reduceNeg, Nat.reducePow, List.reduceReplicate, Int.reduceLE, h4])
        | (with_reducible refine aops.nil ?_)
        | (with_reducible refine qops.nil ?_)
        | (with_reducible refine hT _ ?_; clear hT T)
        | (refine AWP.skip ?_; try simp only [AExit.then, AExit.inBlock, reduceIte, Nat.reduceEqDiff])
        | (refine AWP.exit ?_; try simp only [AExit.then, AExit.inBlock, reduceIte, Nat.reduceEqDiff])
        | (refine AWP.ret ?_; try simp only [AExit.then, AExit.inBlock, reduceIte, Nat.reduceEqDiff])
        | (refine AWP.cond rfl (fun h => ?_) (fun h => ?_) <;> (try simp only [decide_eq_true_eq, decide_eq_false_iff_not, Bool.true_eq_false, Bool.false_eq_true] at h) <;> (try contradiction))
        | (refine hQ' _ _ ?_; clear hQ' Q'; try simp only [AExit.then, AExit.inBlock, reduceIte, Nat.reduceEqDiff])
        | (refine hQ' _ ?_; clear hQ' Q'; try simp only [AExit.then, AExit.inBlock, reduceIte, Nat.reduceEqDiff])
        | (with_reducible refine Branch.split (fun h => ?_) (fun h => ?_) <;> (try simp only [decide_eq_true_eq, decide_eq_false_iff_not, Bool.not_true, Bool.not_false, Bool.true_eq_false, Bool.false_eq_true] at h) <;> (try contradiction) <;> (simp (disch := omega) only [go_sem, Nat.reduceBEq, Nat.reduceLT, Nat.reduceEqDiff, reduceIte, Nat.reduceAdd, Nat.reduceMul, Nat.reduceSub, Nat.reduceLeDiff, Int.reduceToNat, Int.reducePow, Int.reduceLT, Int.reduceEq, Int.reduceNeg, Nat.reducePow, List.reduceReplicate, Int.reduceLE, h, h4]))
        | (with_reducible intro h; try simp only [h, go_sem, Nat.reduceBEq, Nat.reduceLT, Nat.reduceEqDiff, reduceIte, Nat.reduceAdd, Nat.reduceMul, Nat.reduceSub, Nat.reduceLeDiff, Int.reduceToNat, Int.reducePow, Int.reduceLT, Int.reduceEq, Int.reduceNeg, Nat.reducePow, List.reduceReplicate, Int.reduceLE, h4]))
      refine ⟨⟨(k + 1, g + 1, acc ++ [UInt8.ofNat s], s / 256), ?_, ?_, ?_⟩, ?_, ?_⟩ <;> dsimp only
      · omega
      · omega
      · rw [show 4 - k = (4 - (k + 1)) + 1 by omega, leK] at hp
        rw [← hp]
        simp
      · rw [show ((s : Int) % 256).toNat = s % 256 by omega, ofNat_mod]
        refine Coe.keep ?_; simp (disch := omega) only [Keeps, List.mem_cons, List.not_mem_nil, or_false, forall_eq_or_imp, forall_eq, List.length_append, Int.natCast_add, Int.natCast_one, Int.add_sub_cancel, Int.reduceSub, Int.reduceAdd, go_sem, Nat.reduceBEq, Nat.reduceLT, Nat.reduceEqDiff, reduceIte, Nat.reduceAdd, Nat.reduceMul, Nat.reduceSub, Nat.reduceLeDiff, Int.reduceToNat, Int.reducePow, Int.reduceLT, Int.reduceEq, Int.reduceNeg, Nat.reducePow, List.reduceReplicate, Int.reduceLE]
        simp
      · omega
    · repeat' (first
        | (refine AWP.seq ?_)
        | (refine AWP.block ?_)
        | (refine AWP.region_k fun Q' hQ' => ?_)
        | (refine AWP.draw_k rfl (by kernel_rfl) fun Q' hQ' => ?_)
        | (with_reducible refine aops.step fun T hT => ?_; simp (disch := omega) only [go_sem, Nat.reduceBEq, Nat.reduceLT, Nat.reduceEqDiff, reduceIte, Nat.reduceAdd, Nat.reduceMul, Nat.reduceSub, Nat.reduceLeDiff, Int.reduceToNat, Int.reducePow, Int.reduceLT, Int.reduceEq, Int.reduceNeg, Nat.reducePow, List.reduceReplicate, Int.reduceLE, h4])
        | (with_reducible refine qops.step fun T hT => ?_; simp (disch := omega) only [go_sem, Nat.reduceBEq, Nat.reduceLT, Nat.reduceEqDiff, reduceIte, Nat.reduceAdd, Nat.reduceMul, Nat.reduceSub, Nat.reduceLeDiff, Int.reduceToNat, Int.reducePow, Int.reduceLT, Int.reduceEq, Int.reduceNeg, Nat.reducePow, List.reduceReplicate, Int.reduceLE, h4])
        | (with_reducible refine aops.nil ?_)
        | (with_reducible refine qops.nil ?_)
        | (with_reducible refine hT _ ?_; clear hT T)
        | (refine AWP.skip ?_; try simp only [AExit.then, AExit.inBlock, reduceIte, Nat.reduceEqDiff])
        | (refine AWP.exit ?_; try simp only [AExit.then, AExit.inBlock, reduceIte, Nat.reduceEqDiff])
        | (refine AWP.ret ?_; try simp only [AExit.then, AExit.inBlock, reduceIte, Nat.reduceEqDiff])
        | (refine AWP.cond rfl (fun h => ?_) (fun h => ?_) <;> (try simp only [decide_eq_true_eq, decide_eq_false_iff_not, Bool.true_eq_false, Bool.false_eq_true] at h) <;> (try contradiction))
        | (refine hQ' _ _ ?_; clear hQ' Q'; try simp only [AExit.then, AExit.inBlock, reduceIte, Nat.reduceEqDiff])
        | (refine hQ' _ ?_; clear hQ' Q'; try simp only [AExit.then, AExit.inBlock, reduceIte, Nat.reduceEqDiff])
        | (with_reducible refine Branch.split (fun h => ?_) (fun h => ?_) <;> (try simp only [decide_eq_true_eq, decide_eq_false_iff_not, Bool.not_true, Bool.not_false, Bool.true_eq_false, Bool.false_eq_true] at h) <;> (try contradiction) <;> (simp (disch := omega) only [go_sem, Nat.reduceBEq, Nat.reduceLT, Nat.reduceEqDiff, reduceIte, Nat.reduceAdd, Nat.reduceMul, Nat.reduceSub, Nat.reduceLeDiff, Int.reduceToNat, Int.reducePow, Int.reduceLT, Int.reduceEq, Int.reduceNeg, Nat.reducePow, List.reduceReplicate, Int.reduceLE, h, h4]))
        | (with_reducible intro h; try simp only [h, go_sem, Nat.reduceBEq, Nat.reduceLT, Nat.reduceEqDiff, reduceIte, Nat.reduceAdd, Nat.reduceMul, Nat.reduceSub, Nat.reduceLeDiff, Int.reduceToNat, Int.reducePow, Int.reduceLT, Int.reduceEq, Int.reduceNeg, Nat.reducePow, List.reduceReplicate, Int.reduceLE, h4]))
      simp only [bodyQ, go_sem, Nat.reduceBEq, Nat.reduceLT, Nat.reduceEqDiff, reduceIte, Nat.reduceAdd, Nat.reduceMul, Nat.reduceSub, Nat.reduceLeDiff, Int.reduceToNat, Int.reducePow, Int.reduceLT, Int.reduceEq, Int.reduceNeg, Nat.reducePow, List.reduceReplicate, Int.reduceLE]
      rw [show 4 - k = 0 by omega, leK, List.append_nil] at hp
      exact Fin.owned hp

end Go.Proofs.YtjkdahpoalnjjaaDoor.VL
