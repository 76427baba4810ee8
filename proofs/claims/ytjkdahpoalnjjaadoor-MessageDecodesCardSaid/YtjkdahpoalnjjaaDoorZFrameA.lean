/- Layer 3: what the functions on frames compute. -/
import Derived.Test.YtjkdahpoalnjjaaDoorZCd
import Derived.Test.YtjkdahpoalnjjaaDoorZFrameM
import Derived.Test.YtjkdahpoalnjjaaDoorZQb
-- STEPWISE
-- WK
set_option linter.unusedVariables false
set_option linter.unusedSimpArgs false
set_option maxRecDepth 10000
namespace Go.Proofs.YtjkdahpoalnjjaaDoor.VL
open Go Go.RowKit Go.Lib

theorem hasPrefix_spec (a b : List UInt8) (ha : a.length ≤ 1099511627776) (hb : b.length ≤ 1099511627776) (H : List Box) : ASpec Tryd.prog 79 [vB a, vB b] H (Gives (vb (decide (a.take b.length = b))) H) := by
  by_cases hc : (b.length : Int) ≤ (a.length : Int)
  · have he := fun H => bytesEqual_spec (a.take b.length) b (by simp; omega) hb H
    refine ASpec.enter Tryd.func79 rfl (fun a w => Tryd.call79 a w) Tryd.ntmps79 Tryd.results79 fun base w β hI => ?_
    refine wk (wA hc wT) (wA he (wA DrM.mk wT)) ?_
    refine wkEnd wT ?_
    exact Fin.same ⟨rfl, rfl⟩
  · refine ASpec.enter Tryd.func79 rfl (fun a w => Tryd.call79 a w) Tryd.ntmps79 Tryd.results79 fun base w β hI => ?_
    refine wk (wA hc wT) (wA DrM.mk wT) ?_
    refine wkEnd wT ?_
    refine Fin.same ⟨?_, rfl⟩
    have : ¬ a.take b.length = b := by
      intro h
      have := congrArg List.length h
      rw [List.length_take] at this
      omega
    simp [this]
theorem cutPrefix_spec (a b : List UInt8) (ha : a.length ≤ 1099511627776) (hb : b.length ≤ 1099511627776) (H : List Box) : ASpec Tryd.prog 57 [vB a, vB b] H (Gives (.tup [vB (if a.take b.length = b then a.drop b.length else a), vb (decide (a.take b.length = b))]) H) := by
  have hh := fun H => hasPrefix_spec a b ha hb H
  by_cases hc : a.take b.length = b
  · have hle : b.length ≤ a.length := by
      have := congrArg List.length hc
      rw [List.length_take] at this
      omega
    have hc' := eq_true hc
    refine ASpec.enter Tryd.func57 rfl (fun a w => Tryd.call57 a w) Tryd.ntmps57 Tryd.results57 fun base w β hI => ?_
    refine wk (wA hc' wT) (wA hh (wA DrM.mk wT)) ?_
    refine wkEnd wT ?_
    exact Fin.same ⟨by simp [hc], rfl⟩
  · refine ASpec.enter Tryd.func57 rfl (fun a w => Tryd.call57 a w) Tryd.ntmps57 Tryd.results57 fun base w β hI => ?_
    refine wk (wA hc wT) (wA hh (wA DrM.mk wT)) ?_
    refine wkEnd wT ?_
    exact Fin.same ⟨by simp [hc], rfl⟩

theorem cut_frame {E : Ent} {N : List Box} {a b c d : Value} {bs : List UInt8} {K : AV → List Box → Prop} (h : K (.tup [.agg [.v a, .v b, .v c, vB bs], .v d]) E.H) : Fin E (.tup [.agg [.v a, .v b, .v c, vB bs], .v d]) (E.H ++ N) K := by
  refine Fin.cut (.tup _ fun i c hc => ?_) h
  rcases i with _ | _ | i
  · simp at hc; subst hc
    refine .agg _ fun j c hc => ?_
    rcases j with _ | _ | _ | _ | j
    · simp at hc; subst hc; exact .v _
    · simp at hc; subst hc; exact .v _
    · simp at hc; subst hc; exact .v _
    · simp at hc; subst hc; exact lt_bytes bs
    · simp at hc
  · simp at hc; subst hc; exact .v _
  · simp at hc
theorem Rep.agg4 {w : World} {H : List Box} {β : Pl} {a b c d e : Value} {x : Value} (h : Rep w H β (.tup [.agg [.v a, .v b, .v c, .emp], .v d]) x) : Rep w H β (.tup [.agg [.v a, .v b, .v c, vB []], .v d]) x := by
  cases h with
  | tup cs vs hl h =>
    refine .tup _ vs (by simpa using hl) fun i c' x hc hx => ?_
    rcases i with _ | _ | i
    · simp at hc; subst hc
      have := h 0 _ x rfl hx
      cases this with
      | agg cs vs hl h =>
        refine .agg _ vs (by simpa using hl) fun j c' x hc hx => ?_
        rcases j with _ | _ | _ | _ | j
        · simp at hc; subst hc; exact h 0 _ x rfl hx
        · simp at hc; subst hc; exact h 1 _ x rfl hx
        · simp at hc; subst hc; exact h 2 _ x rfl hx
        · simp at hc; subst hc
          have := h 3 _ x rfl hx
          cases this with
          | emp a => exact .lst0 _ _ _
        · simp at hc
    · simp at hc; subst hc; exact h 1 _ x rfl hx
    · simp at hc
theorem cut_frame0 {E : Ent} {N : List Box} {a b c d : Value} {K : AV → List Box → Prop} (h : K (.tup [.agg [.v a, .v b, .v c, vB []], .v d]) E.H) : Fin E (.tup [.agg [.v a, .v b, .v c, .emp], .v d]) (E.H ++ N) K := by
  obtain ⟨r', H', h1, h2⟩ := cut_frame (E := E) (N := N) h
  exact ⟨r', H', fun w β v g1 g2 g3 => h1 w β v g1 g2 (Rep.agg4 (e := a) g3), h2⟩

set_option maxHeartbeats 1000000 in
theorem right_spec (f : Fr) (hf : f.p.length ≤ 1099511627776) (hc : f.c.length ≤ 9223372036854775807) (H : List Box) : ASpec Tryd.prog 60 [frV f] H (Gives (vb (frRight f)) H) := by
  obtain ⟨k, c, n, p⟩ := f
  dsimp only at hf hc ⊢
  rcases Nat.eq_zero_or_pos c.length with h0 | h0
  · have hc0 := List.eq_nil_of_length_eq_zero h0
    subst hc0
    refine ASpec.enter Tryd.func60 rfl (fun a w => Tryd.call60 a w) Tryd.ntmps60 Tryd.results60 fun base w β hI => ?_
    repeat' (first
      | (refine AWP.seq ?_)
      | (refine AWP.block ?_)
      | (refine AWP.region_k fun Q' hQ' => ?_)
      | (refine AWP.draw_k rfl (by kernel_rfl) fun Q' hQ' => ?_)
      | (with_reducible refine aops.step fun T hT => ?_; simp (disch := omega) only [go_sem, Nat.reduceBEq, Nat.reduceLT, Nat.reduceEqDiff, reduceIte, Nat.reduceAdd, Nat.reduceMul, Nat.reduceSub, Nat.reduceLeDiff, Int.reduceToNat, Int.reducePow, Int.reduceLT, Int.reduceEq, Int.reduceNeg, Nat.reducePow, List.reduceReplicate, Int.reduceLE])
      | (with_reducible refine qops.step fun T hT => ?_; simp (disch := omega) only [go_sem, Nat.reduceBEq, Nat.reduceLT, Nat.reduceEqDiff, reduceIte, Nat.reduceAdd, Nat.reduceMul, Nat.reduceSub, Nat.reduceLeDiff, Int.reduceToNat, Int.reducePow, Int.reduceLT, Int.reduceEq, Int.reduceNeg, Nat.reducePow, List.reduceReplicate, Int.reduceLE])
      | (with_reducible refine aops.nil ?_)
      | (with_reducible refine qops.nil ?_)
      | (with_reducible refine hT _ ?_; clear hT T)
      | (refine AWP.skip ?_; try simp only [AExit.then, AExit.inBlock, reduceIte, Nat.reduceEqDiff])
      | (refine AWP.exit ?_; try simp only [AExit.then, AExit.inBlock, reduceIte, Nat.reduceEqDiff])
      | (refine AWP.ret ?_; try simp only [AExit.then, AExit.inBlock, reduceIte, Nat.reduceEqDiff])
      | (refine AWP.cond rfl (fun h => ?_) (fun h => ?_) <;> (try simp only [decide_eq_true_eq, decide_eq_false_iff_not, Bool.true_eq_false, Bool.false_eq_true] at h) <;> (try contradiction))
      | (refine hQ' _ _ ?_; clear hQ' Q'; try simp only [AExit.then, AExit.inBlock, reduceIte, Nat.reduceEqDiff])
      | (refine hQ' _ ?_; clear hQ' Q'; try simp only [AExit.then, AExit.inBlock, reduceIte, Nat.reduceEqDiff])
      | (with_reducible refine Branch.split (fun h => ?_) (fun h => ?_) <;> (try simp only [decide_eq_true_eq, decide_eq_false_iff_not, Bool.not_true, Bool.not_false, Bool.true_eq_false, Bool.false_eq_true] at h) <;> (try contradiction) <;> (simp (disch := omega) only [go_sem, Nat.reduceBEq, Nat.reduceLT, Nat.reduceEqDiff, reduceIte, Nat.reduceAdd, Nat.reduceMul, Nat.reduceSub, Nat.reduceLeDiff, Int.reduceToNat, Int.reducePow, Int.reduceLT, Int.reduceEq, Int.reduceNeg, Nat.reducePow, List.reduceReplicate, Int.reduceLE, h]))
      | (with_reducible intro h; try simp only [h, go_sem, Nat.reduceBEq, Nat.reduceLT, Nat.reduceEqDiff, reduceIte, Nat.reduceAdd, Nat.reduceMul, Nat.reduceSub, Nat.reduceLeDiff, Int.reduceToNat, Int.reducePow, Int.reduceLT, Int.reduceEq, Int.reduceNeg, Nat.reducePow, List.reduceReplicate, Int.reduceLE]))
    all_goals
      first
      | (exfalso; omega)
      | (simp only [bodyQ, go_sem, Nat.reduceBEq, Nat.reduceLT, Nat.reduceEqDiff, reduceIte, Nat.reduceAdd, Nat.reduceMul, Nat.reduceSub, Nat.reduceLeDiff, Int.reduceToNat, Int.reducePow, Int.reduceLT, Int.reduceEq, Int.reduceNeg, Nat.reducePow, List.reduceReplicate, Int.reduceLE]
         refine Fin.cut (.v _) ⟨congrArg (fun x => Out.ret (vb x)) ?_, rfl⟩
         rw [Bool.eq_iff_iff]
         simp only [frRight, decide_eq_true_eq, Bool.false_eq_true, false_iff, true_iff, List.length_nil]
         omega)
  · have hne : (c = []) = False := eq_false fun h => by rw [h] at h0; simp at h0
    refine ASpec.enter Tryd.func60 rfl (fun a w => Tryd.call60 a w) Tryd.ntmps60 Tryd.results60 fun base w β hI => ?_
    repeat' (first
      | (refine AWP.seq ?_)
      | (refine AWP.block ?_)
      | (refine AWP.region_k fun Q' hQ' => ?_)
      | (refine AWP.draw_k rfl (by kernel_rfl) fun Q' hQ' => ?_)
      | (with_reducible refine aops.step fun T hT => ?_; simp (disch := omega) only [go_sem, Nat.reduceBEq, Nat.reduceLT, Nat.reduceEqDiff, reduceIte, Nat.reduceAdd, Nat.reduceMul, Nat.reduceSub, Nat.reduceLeDiff, Int.reduceToNat, Int.reducePow, Int.reduceLT, Int.reduceEq, Int.reduceNeg, Nat.reducePow, List.reduceReplicate, Int.reduceLE, hne])
      | (with_reducible refine qops.step fun T hT => ?_; simp (disch := omega) only [go_sem, Nat.reduceBEq, Nat.reduceLT, Nat.reduceEqDiff, reduceIte, Nat.reduceAdd, Nat.reduceMul, Nat.reduceSub, Nat.reduceLeDiff, Int.reduceToNat, Int.reducePow, Int.reduceLT, Int.reduceEq, Int.reduceNeg, Nat.reducePow, List.reduceReplicate, Int.reduceLE, hne])
      | (with_reducible refine aops.nil ?_)
      | (with_reducible refine qops.nil ?_)
      | (with_reducible refine hT _ ?_; clear hT T)
      | (refine AWP.skip ?_; try simp only [AExit.then, AExit.inBlock, reduceIte, Nat.reduceEqDiff])
      | (refine AWP.exit ?_; try simp only [AExit.then, AExit.inBlock, reduceIte, Nat.reduceEqDiff])
      | (refine AWP.ret ?_; try simp only [AExit.then, AExit.inBlock, reduceIte, Nat.reduceEqDiff])
      | (refine AWP.cond rfl (fun h => ?_) (fun h => ?_) <;> (try simp only [decide_eq_true_eq, decide_eq_false_iff_not, Bool.true_eq_false, Bool.false_eq_true] at h) <;> (try contradiction))
      | (refine hQ' _ _ ?_; clear hQ' Q'; try simp only [AExit.then, AExit.inBlock, reduceIte, Nat.reduceEqDiff])
      | (refine hQ' _ ?_; clear hQ' Q'; try simp only [AExit.then, AExit.inBlock, reduceIte, Nat.reduceEqDiff])
      | (with_reducible refine Branch.split (fun h => ?_) (fun h => ?_) <;> (try simp only [decide_eq_true_eq, decide_eq_false_iff_not, Bool.not_true, Bool.not_false, Bool.true_eq_false, Bool.false_eq_true] at h) <;> (try contradiction) <;> (simp (disch := omega) only [go_sem, Nat.reduceBEq, Nat.reduceLT, Nat.reduceEqDiff, reduceIte, Nat.reduceAdd, Nat.reduceMul, Nat.reduceSub, Nat.reduceLeDiff, Int.reduceToNat, Int.reducePow, Int.reduceLT, Int.reduceEq, Int.reduceNeg, Nat.reducePow, List.reduceReplicate, Int.reduceLE, h, hne]))
      | (with_reducible intro h; try simp only [h, go_sem, Nat.reduceBEq, Nat.reduceLT, Nat.reduceEqDiff, reduceIte, Nat.reduceAdd, Nat.reduceMul, Nat.reduceSub, Nat.reduceLeDiff, Int.reduceToNat, Int.reducePow, Int.reduceLT, Int.reduceEq, Int.reduceNeg, Nat.reducePow, List.reduceReplicate, Int.reduceLE, hne]))
    all_goals
      first
      | (exfalso; omega)
      | (simp only [bodyQ, go_sem, Nat.reduceBEq, Nat.reduceLT, Nat.reduceEqDiff, reduceIte, Nat.reduceAdd, Nat.reduceMul, Nat.reduceSub, Nat.reduceLeDiff, Int.reduceToNat, Int.reducePow, Int.reduceLT, Int.reduceEq, Int.reduceNeg, Nat.reducePow, List.reduceReplicate, Int.reduceLE]
         refine Fin.cut (.v _) ⟨congrArg (fun x => Out.ret (vb x)) ?_, rfl⟩
         rw [Bool.eq_iff_iff]
         simp only [frRight, decide_eq_true_eq, Bool.false_eq_true, false_iff, true_iff]
         omega)

set_option maxHeartbeats 1000000 in
theorem refRight_spec (f : Fr) (hf : f.p.length ≤ 1099511627776) (hc : f.c.length ≤ 9223372036854775807) (H : List Box) : ASpec Tryd.prog 41 [frV f] H (Gives (vb (frRight f)) H) := by
  obtain ⟨k, c, n, p⟩ := f
  dsimp only at hf hc ⊢
  rcases Nat.eq_zero_or_pos c.length with h0 | h0
  · have hc0 := List.eq_nil_of_length_eq_zero h0
    subst hc0
    refine ASpec.enter Tryd.func41 rfl (fun a w => Tryd.call41 a w) Tryd.ntmps41 Tryd.results41 fun base w β hI => ?_
    repeat' (first
      | (refine AWP.seq ?_)
      | (refine AWP.block ?_)
      | (refine AWP.region_k fun Q' hQ' => ?_)
      | (refine AWP.draw_k rfl (by kernel_rfl) fun Q' hQ' => ?_)
      | (with_reducible refine aops.step fun T hT => ?_; simp (disch := omega) only [go_sem, Nat.reduceBEq, Nat.reduceLT, Nat.reduceEqDiff, reduceIte, Nat.reduceAdd, Nat.reduceMul, Nat.reduceSub, Nat.reduceLeDiff, Int.reduceToNat, Int.reducePow, Int.reduceLT, Int.reduceEq, Int.reduceNeg, Nat.reducePow, List.reduceReplicate, Int.reduceLE])
      | (with_reducible refine qops.step fun T hT => ?_; simp (disch := omega) only [go_sem, Nat.reduceBEq, Nat.reduceLT, Nat.reduceEqDiff, reduceIte, Nat.reduceAdd, Nat.reduceMul, Nat.reduceSub, Nat.reduceLeDiff, Int.reduceToNat, Int.reducePow, Int.reduceLT, Int.reduceEq, Int.reduceNeg, Nat.reducePow, List.reduceReplicate, Int.reduceLE])
      | (with_reducible refine aops.nil ?_)
      | (with_reducible refine qops.nil ?_)
      | (with_reducible refine hT _ ?_; clear hT T)
      | (refine AWP.skip ?_; try simp only [AExit.then, AExit.inBlock, reduceIte, Nat.reduceEqDiff])
      | (refine AWP.exit ?_; try simp only [AExit.then, AExit.inBlock, reduceIte, Nat.reduceEqDiff])
      | (refine AWP.ret ?_; try simp only [AExit.then, AExit.inBlock, reduceIte, Nat.reduceEqDiff])
      | (refine AWP.cond rfl (fun h => ?_) (fun h => ?_) <;> (try simp only [decide_eq_true_eq, decide_eq_false_iff_not, Bool.true_eq_false, Bool.false_eq_true] at h) <;> (try contradiction))
      | (refine hQ' _ _ ?_; clear hQ' Q'; try simp only [AExit.then, AExit.inBlock, reduceIte, Nat.reduceEqDiff])
      | (refine hQ' _ ?_; clear hQ' Q'; try simp only [AExit.then, AExit.inBlock, reduceIte, Nat.reduceEqDiff])
      | (with_reducible refine Branch.split (fun h => ?_) (fun h => ?_) <;> (try simp only [decide_eq_true_eq, decide_eq_false_iff_not, Bool.not_true, Bool.not_false, Bool.true_eq_false, Bool.false_eq_true] at h) <;> (try contradiction) <;> (simp (disch := omega) only [go_sem, Nat.reduceBEq, Nat.reduceLT, Nat.reduceEqDiff, reduceIte, Nat.reduceAdd, Nat.reduceMul, Nat.reduceSub, Nat.reduceLeDiff, Int.reduceToNat, Int.reducePow, Int.reduceLT, Int.reduceEq, Int.reduceNeg, Nat.reducePow, List.reduceReplicate, Int.reduceLE, h]))
      | (with_reducible intro h; try simp only [h, go_sem, Nat.reduceBEq, Nat.reduceLT, Nat.reduceEqDiff, reduceIte, Nat.reduceAdd, Nat.reduceMul, Nat.reduceSub, Nat.reduceLeDiff, Int.reduceToNat, Int.reducePow, Int.reduceLT, Int.reduceEq, Int.reduceNeg, Nat.reducePow, List.reduceReplicate, Int.reduceLE]))
    all_goals
      first
      | (exfalso; omega)
      | (simp only [bodyQ, go_sem, Nat.reduceBEq, Nat.reduceLT, Nat.reduceEqDiff, reduceIte, Nat.reduceAdd, Nat.reduceMul, Nat.reduceSub, Nat.reduceLeDiff, Int.reduceToNat, Int.reducePow, Int.reduceLT, Int.reduceEq, Int.reduceNeg, Nat.reducePow, List.reduceReplicate, Int.reduceLE]
         refine Fin.cut (.v _) ⟨congrArg (fun x => Out.ret (vb x)) ?_, rfl⟩
         rw [Bool.eq_iff_iff]
         simp only [frRight, decide_eq_true_eq, Bool.false_eq_true, false_iff, true_iff, List.length_nil]
         omega)
  · have hne : (c = []) = False := eq_false fun h => by rw [h] at h0; simp at h0
    refine ASpec.enter Tryd.func41 rfl (fun a w => Tryd.call41 a w) Tryd.ntmps41 Tryd.results41 fun base w β hI => ?_
    repeat' (first
      | (refine AWP.seq ?_)
      | (refine AWP.block ?_)
      | (refine AWP.region_k fun Q' hQ' => ?_)
      | (refine AWP.draw_k rfl (by kernel_rfl) fun Q' hQ' => ?_)
      | (with_reducible refine aops.step fun T hT => ?_; simp (disch := omega) only [go_sem, Nat.reduceBEq, Nat.reduceLT, Nat.reduceEqDiff, reduceIte, Nat.reduceAdd, Nat.reduceMul, Nat.reduceSub, Nat.reduceLeDiff, Int.reduceToNat, Int.reducePow, Int.reduceLT, Int.reduceEq, Int.reduceNeg, Nat.reducePow, List.reduceReplicate, Int.reduceLE, hne])
      | (with_reducible refine qops.step fun T hT => ?_; simp (disch := omega) only [go_sem, Nat.reduceBEq, Nat.reduceLT, Nat.reduceEqDiff, reduceIte, Nat.reduceAdd, Nat.reduceMul, Nat.reduceSub, Nat.reduceLeDiff, Int.reduceToNat, Int.reducePow, Int.reduceLT, Int.reduceEq, Int.reduceNeg, Nat.reducePow, List.reduceReplicate, Int.reduceLE, hne])
      | (with_reducible refine aops.nil ?_)
      | (with_reducible refine qops.nil ?_)
      | (with_reducible refine hT _ ?_; clear hT T)
      | (refine AWP.skip ?_; try simp only [AExit.then, AExit.inBlock, reduceIte, Nat.reduceEqDiff])
      | (refine AWP.exit ?_; try simp only [AExit.then, AExit.inBlock, reduceIte, Nat.reduceEqDiff])
      | (refine AWP.ret ?_; try simp only [AExit.then, AExit.inBlock, reduceIte, Nat.reduceEqDiff])
      | (refine AWP.cond rfl (fun h => ?_) (fun h => ?_) <;> (try simp only [decide_eq_true_eq, decide_eq_false_iff_not, Bool.true_eq_false, Bool.false_eq_true] at h) <;> (try contradiction))
      | (refine hQ' _ _ ?_; clear hQ' Q'; try simp only [AExit.then, AExit.inBlock, reduceIte, Nat.reduceEqDiff])
      | (refine hQ' _ ?_; clear hQ' Q'; try simp only [AExit.then, AExit.inBlock, reduceIte, Nat.reduceEqDiff])
      | (with_reducible refine Branch.split (fun h => ?_) (fun h => ?_) <;> (try simp only [decide_eq_true_eq, decide_eq_false_iff_not, Bool.not_true, Bool.not_false, Bool.true_eq_false, Bool.false_eq_true] at h) <;> (try contradiction) <;> (simp (disch := omega) only [go_sem, Nat.reduceBEq, Nat.reduceLT, Nat.reduceEqDiff, reduceIte, Nat.reduceAdd, Nat.reduceMul, Nat.reduceSub, Nat.reduceLeDiff, Int.reduceToNat, Int.reducePow, Int.reduceLT, Int.reduceEq, Int.reduceNeg, Nat.reducePow, List.reduceReplicate, Int.reduceLE, h, hne]))
      | (with_reducible intro h; try simp only [h, go_sem, Nat.reduceBEq, Nat.reduceLT, Nat.reduceEqDiff, reduceIte, Nat.reduceAdd, Nat.reduceMul, Nat.reduceSub, Nat.reduceLeDiff, Int.reduceToNat, Int.reducePow, Int.reduceLT, Int.reduceEq, Int.reduceNeg, Nat.reducePow, List.reduceReplicate, Int.reduceLE, hne]))
    all_goals
      first
      | (exfalso; omega)
      | (simp only [bodyQ, go_sem, Nat.reduceBEq, Nat.reduceLT, Nat.reduceEqDiff, reduceIte, Nat.reduceAdd, Nat.reduceMul, Nat.reduceSub, Nat.reduceLeDiff, Int.reduceToNat, Int.reducePow, Int.reduceLT, Int.reduceEq, Int.reduceNeg, Nat.reducePow, List.reduceReplicate, Int.reduceLE]
         refine Fin.cut (.v _) ⟨congrArg (fun x => Out.ret (vb x)) ?_, rfl⟩
         rw [Bool.eq_iff_iff]
         simp only [frRight, decide_eq_true_eq, Bool.false_eq_true, false_iff, true_iff]
         omega)

def frSame (f g : Fr) : Bool := decide (f.k = g.k) && (decide (f.c = g.c) && (decide (f.n = g.n) && decide (f.p = g.p)))
def encV (f : Fr) : AV := if frRight f = true then .tup [vB (frB f), vi 0] else .tup [.emp, vi 1]
theorem lt_bytes_err (bs : List UInt8) (e : Int) : Lt 0 (.tup [vB bs, vi e]) := .tup _ fun i c hc => by
  rcases i with _ | _ | i
  · simp at hc; subst hc; exact lt_bytes bs
  · simp at hc; subst hc; exact .v _
  · simp at hc
theorem lt_emp_err (e : Int) : Lt 0 (.tup [.emp, vi e]) := .tup _ fun i c hc => by
  rcases i with _ | _ | i
  · simp at hc; subst hc; exact .emp
  · simp at hc; subst hc; exact .v _
  · simp at hc

set_option maxHeartbeats 1000000 in
theorem encode_spec (f : Fr) (hf : f.p.length ≤ 1099511627) (hc : f.c.length ≤ 9223372036854775807) (H : List Box) : ASpec Tryd.prog 37 [frV f] H (Gives (encV f) H) := by
  have hr := fun H => right_spec f (by omega) hc H
  have hs : frRight f = true → f.c.length ≤ 30 ∧ f.p.length ≤ 30000 := fun h => by have := frRight_spec h; omega
  unfold encV frB frIn textB
  obtain ⟨k, c, n, p⟩ := f
  dsimp only at hf hr hc hs ⊢
  by_cases h : frRight ⟨k, c, n, p⟩ = true
  · have hb := hs h
    have n1 := fun H => (num1_spec [66, 87, 1] (by simp) k H).froz
    have l1 := numB_length_le k
    have l2 := numB_length_le c.length
    have l3 := numB_length_le n
    have l4 := numB_length_le p.length
    have n2 := fun H => (text_spec ([66, 87, 1] ++ numB k) c (by simp; omega) (by omega) H).froz
    have n3 := fun H => (num1_spec ([66, 87, 1] ++ numB k ++ (numB c.length ++ c)) (by simp; omega) n H).froz
    have n4 := fun H => (text_spec ([66, 87, 1] ++ numB k ++ (numB c.length ++ c) ++ numB n) p (by simp; omega) (by omega) H).froz
    have n5 := fun H => (seal_spec ([66, 87, 1] ++ numB k ++ (numB c.length ++ c) ++ numB n ++ (numB p.length ++ p)) (by simp; omega) H).froz
    have n1 : ∀ H, ASpec Tryd.prog 42 [.lst 1 [[.v (.int .u8 66)], [.v (.int .u8 87)], [.v (.int .u8 1)]], .lst 1 [[vi k]]] H (Gives (vB ([66, 87, 1] ++ numB k)) H) := n1
    generalize hx1 : [66, 87, 1] ++ numB k = x1 at n1 n2 n3 n4 n5
    generalize hx2 : x1 ++ (numB c.length ++ c) = x2 at n2 n3 n4 n5
    generalize hx3 : x2 ++ numB n = x3 at n3 n4 n5
    generalize hx4 : x3 ++ (numB p.length ++ p) = x4 at n4 n5
    rw [if_pos h, show [66, 87, 1] ++ (numB k ++ ((numB c.length ++ c) ++ (numB n ++ (numB p.length ++ p)))) = x4 by rw [← hx4, ← hx3, ← hx2, ← hx1]; simp]
    refine ASpec.enter Tryd.func37 rfl (fun a w => Tryd.call37 a w) Tryd.ntmps37 Tryd.results37 fun base w β hI => ?_
    refine wk (wA h wT) (wA hr (wA n1 (wA n2 (wA n3 (wA n4 (wA n5 (wA DrM.mk wT))))))) ?_
    refine wkEnd wT ?_
    exact Fin.cut (lt_bytes_err _ _) ⟨rfl, rfl⟩
  · rw [if_neg h]
    simp only [Bool.not_eq_true] at h
    refine ASpec.enter Tryd.func37 rfl (fun a w => Tryd.call37 a w) Tryd.ntmps37 Tryd.results37 fun base w β hI => ?_
    refine wk (wA h wT) (wA hr (wA DrM.mk wT)) ?_
    refine wkEnd wT ?_
    exact Fin.cut (lt_emp_err _) ⟨rfl, rfl⟩

set_option maxHeartbeats 1000000 in
theorem refEncode_spec (f : Fr) (hf : f.p.length ≤ 1099511627) (hc : f.c.length ≤ 9223372036854775807) (H : List Box) : ASpec Tryd.prog 49 [frV f] H (Gives (encV f) H) := by
  have hr := fun H => refRight_spec f (by omega) hc H
  have hs : frRight f = true → f.c.length ≤ 30 ∧ f.p.length ≤ 30000 := fun h => by have := frRight_spec h; omega
  unfold encV frB frIn textB
  obtain ⟨k, c, n, p⟩ := f
  dsimp only at hf hr hc hs ⊢
  by_cases h : frRight ⟨k, c, n, p⟩ = true
  · have hb := hs h
    have n1 := fun H => (refNum_spec [66, 87, 1] (by simp) k H).froz
    have l1 := numB_length_le k
    have l2 := numB_length_le c.length
    have l3 := numB_length_le n
    have l4 := numB_length_le p.length
    have n2 := fun H => (refText_spec ([66, 87, 1] ++ numB k) c (by simp; omega) (by omega) H).froz
    have n3 := fun H => (refNum_spec ([66, 87, 1] ++ numB k ++ (numB c.length ++ c)) (by simp; omega) n H).froz
    have n4 := fun H => (refText_spec ([66, 87, 1] ++ numB k ++ (numB c.length ++ c) ++ numB n) p (by simp; omega) (by omega) H).froz
    have n5 := fun H => (refSeal_spec ([66, 87, 1] ++ numB k ++ (numB c.length ++ c) ++ numB n ++ (numB p.length ++ p)) (by simp; omega) H).froz
    have n1 : ∀ H, ASpec Tryd.prog 71 [.lst 1 [[.v (.int .u8 66)], [.v (.int .u8 87)], [.v (.int .u8 1)]], vi k] H (Gives (vB ([66, 87, 1] ++ numB k)) H) := n1
    generalize hx1 : [66, 87, 1] ++ numB k = x1 at n1 n2 n3 n4 n5
    generalize hx2 : x1 ++ (numB c.length ++ c) = x2 at n2 n3 n4 n5
    generalize hx3 : x2 ++ numB n = x3 at n3 n4 n5
    generalize hx4 : x3 ++ (numB p.length ++ p) = x4 at n4 n5
    rw [if_pos h, show [66, 87, 1] ++ (numB k ++ ((numB c.length ++ c) ++ (numB n ++ (numB p.length ++ p)))) = x4 by rw [← hx4, ← hx3, ← hx2, ← hx1]; simp]
    refine ASpec.enter Tryd.func49 rfl (fun a w => Tryd.call49 a w) Tryd.ntmps49 Tryd.results49 fun base w β hI => ?_
    refine wk (wA h wT) (wA hr (wA n1 (wA n2 (wA n3 (wA n4 (wA n5 (wA DrM.mk wT))))))) ?_
    refine wkEnd wT ?_
    exact Fin.cut (lt_bytes_err _ _) ⟨rfl, rfl⟩
  · rw [if_neg h]
    simp only [Bool.not_eq_true] at h
    refine ASpec.enter Tryd.func49 rfl (fun a w => Tryd.call49 a w) Tryd.ntmps49 Tryd.results49 fun base w β hI => ?_
    refine wk (wA h wT) (wA hr (wA DrM.mk wT)) ?_
    refine wkEnd wT ?_
    exact Fin.cut (lt_emp_err _) ⟨rfl, rfl⟩

end Go.Proofs.YtjkdahpoalnjjaaDoor.VL
