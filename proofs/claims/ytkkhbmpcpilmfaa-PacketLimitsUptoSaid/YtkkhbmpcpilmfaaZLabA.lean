/- Layer 16: a name's labels, as the program takes them. -/
import Derived.Test.YtkkhbmpcpilmfaaZCd
import Derived.Test.YtkkhbmpcpilmfaaZSa
-- STEPWISE
-- WK
-- HOLE 8 0 [(.same, []), (.same, []), (.same, []), (.same, []), (.same, []), (.same, []), (.wr 0, []), (.same, [0]), (.same, [0]), (.same, [0]), (.same, [0]), (.same, []), (.same, [])]
set_option linter.unusedVariables false
set_option linter.unusedSimpArgs false
set_option maxRecDepth 10000
namespace Go.Proofs.Ytkkhbmpcpilmfaa.VL
open Go Go.RowKit Go.Lib

theorem holM_LabA_8 : HolM 8 0 [(.same, []), (.same, []), (.same, []), (.same, []), (.same, []), (.same, []), (.wr 0, []), (.same, [0]), (.same, [0]), (.same, [0]), (.same, [0]), (.same, []), (.same, [])] := ⟨⟩

set_option maxHeartbeats 4000000 in
theorem split_spec (s : List UInt8) (hs : s.length ≤ 9223372036854775807) (H : List Box) : ASpec Try.prog 76 [vs s] H (Gives (labV (lab s)) H) := by
  by_cases h255 : (255 : Int) < (s.length : Int)
  · rw [lab, if_pos (by omega)]
    refine ASpec.enter Try.func76 rfl (fun a w => Try.call76 a w) Try.ntmps76 Try.results76 fun base w β hI => ?_
    refine wk (wA h255 wT) (wA holM_LabA_8 wT) ?_
    refine wkEnd wT ?_
    exact Fin.dead00 ⟨rfl, rfl⟩
  rw [lab_of (by omega)]
  refine ASpec.enter Try.func76 rfl (fun a w => Try.call76 a w) Try.ntmps76 Try.results76 fun base w β hI => ?_
  refine wk (wA h255 wT) (wA holM_LabA_8 wT) ?_
  refine AWP.coe (Coe.emp0 (t := 2) (sz := 1) (l' := [(0, vs s), (2, .sl H.length 0 0 0 1 false), (3, vb false)]) rfl ?_) ?_
  · simp only [Keeps, List.mem_cons, List.not_mem_nil, or_false, forall_eq_or_imp, forall_eq, go_sem, Nat.reduceBEq, Nat.reduceLT, Nat.reduceEqDiff, reduceIte, Nat.reduceAdd, Nat.reduceMul, Nat.reduceSub, Nat.reduceLeDiff, Int.reduceToNat, Int.reducePow, Int.reduceLT, Int.reduceEq, Int.reduceNeg, Nat.reducePow, List.reduceReplicate, Int.reduceLE]
  refine AWP.loop (ι := {p : List (List UInt8) × List UInt8 × Nat // labS s = (labS p.2.1).map (p.1 ++ ·) ∧ p.2.1.length ≤ 255 ∧ p.1.length ≤ s.length ∧ p.1.length + p.2.1.length ≤ s.length})
    (fun p => ⟨[(0, vs p.1.2.1), (2, .sl H.length p.1.2.2 0 p.1.1.length 1 false)], H ++ [⟨strC p.1.1, 0, p.1.2.2, true⟩]⟩) (fun p => p.1.2.1.length) ⟨([], s, 0), by cases labS s <;> rfl, by dsimp only; omega, by simp, by simp⟩ ?_ ?_
  · dsimp only [strC, List.map_nil, List.length_nil]
    exact Coe.kp
  · rintro ⟨⟨ls, t, g⟩, hlab, hlen, hll, hls⟩
    dsimp only at hlab hlen hll hls ⊢
    cases t with
    | nil =>
      rw [labS_nil] at hlab
      rw [hlab]
      refine wk wT (wA holM_LabA_8 wT) ?_
      refine wkEnd wT ?_
      exact Fin.dead0 ⟨rfl, rfl⟩
    | cons c r =>
      have hc : (c.toNat : Int) ≤ 255 := by have := c.toNat_lt; omega
      have hne : ¬ (c :: r) = [] := by simp
      have h0 : (c :: r)[0]? = some c := rfl
      simp only [List.length_cons] at hlen hls
      by_cases hz : (c.toNat : Int) = 0
      · rw [labS_zero (by omega)] at hlab
        have hcz : c = 0 := by
          apply UInt8.toNat_inj.1
          show c.toNat = 0
          omega
        subst hcz
        by_cases hr : r = []
        · subst hr
          rw [if_pos rfl] at hlab
          have hl2 : labS s = some ls := by rw [hlab]; simp
          rw [hl2]
          refine wk (wA hne (wA hz wT)) (wA holM_LabA_8 wT) ?_
          refine wkEnd wT ?_
          exact fin_strs (k := 0) rfl rfl ⟨rfl, rfl⟩
        · rw [if_neg hr] at hlab
          rw [hlab]
          have hr2 : ¬ (0 :: r : List UInt8) = [0] := by simpa using hr
          refine wk (wA hne (wA hz (wA hr2 wT))) (wA holM_LabA_8 wT) ?_
          refine wkEnd wT ?_
          exact Fin.dead0 ⟨rfl, rfl⟩
      · by_cases h63 : (63 : Int) < (c.toNat : Int)
        · rw [labS_bad (by omega) (.inl (by omega))] at hlab
          rw [hlab]
          refine wk (wA hne (wA hz (wA h0 (wA h63 (wA strSize wT))))) (wA holM_LabA_8 wT) ?_
          refine wkEnd wT ?_
          exact Fin.dead0 ⟨rfl, rfl⟩
        by_cases hn : ((r.length : Int) + 1) ≤ (c.toNat : Int)
        · rw [labS_bad (by omega) (.inr (by omega))] at hlab
          rw [hlab]
          repeat' (first
            | (refine AWP.seq ?_)
            | (refine AWP.block ?_)
            | (refine AWP.drawH_k (id := 8) 0 [(.same, []), (.same, []), (.same, []), (.same, []), (.same, []), (.same, []), (.wr 0, []), (.same, [0]), (.same, [0]), (.same, [0]), (.same, [0]), (.same, []), (.same, [])] rfl (by decide +kernel) fun Q' hQ' => ?_)
            | (refine AWP.drawH0_k (id := 8) 0 [(.same, []), (.same, []), (.same, []), (.same, []), (.same, []), (.same, []), (.wr 0, []), (.same, [0]), (.same, [0]), (.same, [0]), (.same, [0]), (.same, []), (.same, [])] rfl (by decide +kernel) fun Q' hQ' => ?_)
            | (with_reducible refine hops.step fun T hT => ?_; simp (disch := omega) only [hone, hskip, patch, hole, List.headD_cons, List.tail_cons, Prod.mk.injEq, eq_self, and_assoc, exists_and_left, List.append_cancel_left_eq, List.cons.injEq, go_sem, Nat.reduceBEq, Nat.reduceLT, Nat.reduceEqDiff, reduceIte, Nat.reduceAdd, Nat.reduceMul, Nat.reduceSub, Nat.reduceLeDiff, Int.reduceToNat, Int.reducePow, Int.reduceLT, Int.reduceEq, Int.reduceNeg, Nat.reducePow, List.reduceReplicate, Int.reduceLE, hne, hz, h0, h63, hn, List.length_cons, Int.natCast_add, Int.natCast_one])
            | (with_reducible refine hops.nil ?_)
            | (with_reducible refine hT _ _ ?_; clear hT T)
            | (refine AWP.region_k fun Q' hQ' => ?_)
            | (refine AWP.draw_k rfl (by kernel_rfl) fun Q' hQ' => ?_)
            | (with_reducible refine aops.step fun T hT => ?_; simp (disch := omega) only [go_sem, Nat.reduceBEq, Nat.reduceLT, Nat.reduceEqDiff, reduceIte, Nat.reduceAdd, Nat.reduceMul, Nat.reduceSub, Nat.reduceLeDiff, Int.reduceToNat, Int.reducePow, Int.reduceLT, Int.reduceEq, Int.reduceNeg, Nat.reducePow, List.reduceReplicate, Int.reduceLE, hne, hz, h0, h63, hn, List.length_cons, Int.natCast_add, Int.natCast_one])
            | (with_reducible refine qops.step fun T hT => ?_; simp (disch := omega) only [go_sem, Nat.reduceBEq, Nat.reduceLT, Nat.reduceEqDiff, reduceIte, Nat.reduceAdd, Nat.reduceMul, Nat.reduceSub, Nat.reduceLeDiff, Int.reduceToNat, Int.reducePow, Int.reduceLT, Int.reduceEq, Int.reduceNeg, Nat.reducePow, List.reduceReplicate, Int.reduceLE, hne, hz, h0, h63, hn, List.length_cons, Int.natCast_add, Int.natCast_one])
            | (with_reducible refine aops.nil ?_)
            | (with_reducible refine qops.nil ?_)
            | (with_reducible refine hT _ ?_; clear hT T)
            | (refine AWP.skip ?_; try simp only [AExit.then, AExit.inBlock, reduceIte, Nat.reduceEqDiff])
            | (refine AWP.exit ?_; try simp only [AExit.then, AExit.inBlock, reduceIte, Nat.reduceEqDiff])
            | (refine AWP.ret ?_; try simp only [AExit.then, AExit.inBlock, reduceIte, Nat.reduceEqDiff])
            | (refine AWP.cond rfl (fun h => ?_) (fun h => ?_) <;> (try simp only [decide_eq_true_eq, decide_eq_false_iff_not, Bool.true_eq_false, Bool.false_eq_true] at h) <;> (try contradiction))
            | (refine hQ' _ _ ?_; clear hQ' Q'; try simp only [AExit.then, AExit.inBlock, reduceIte, Nat.reduceEqDiff])
            | (refine hQ' _ ?_; clear hQ' Q'; try simp only [AExit.then, AExit.inBlock, reduceIte, Nat.reduceEqDiff])
            | (with_reducible refine Branch.split (fun h => ?_) (fun h => ?_) <;> (try simp only [decide_eq_true_eq, decide_eq_false_iff_not, Bool.not_true, Bool.not_false, Bool.true_eq_false, Bool.false_eq_true] at h) <;> (try contradiction) <;> (simp (disch := omega) only [go_sem, Nat.reduceBEq, Nat.reduceLT, Nat.reduceEqDiff, reduceIte, Nat.reduceAdd, Nat.reduceMul, Nat.reduceSub, Nat.reduceLeDiff, Int.reduceToNat, Int.reducePow, Int.reduceLT, Int.reduceEq, Int.reduceNeg, Nat.reducePow, List.reduceReplicate, Int.reduceLE, h, hne, hz, h0, h63, hn, List.length_cons, Int.natCast_add, Int.natCast_one]))
            | (with_reducible intro h; try simp only [h, go_sem, Nat.reduceBEq, Nat.reduceLT, Nat.reduceEqDiff, reduceIte, Nat.reduceAdd, Nat.reduceMul, Nat.reduceSub, Nat.reduceLeDiff, Int.reduceToNat, Int.reducePow, Int.reduceLT, Int.reduceEq, Int.reduceNeg, Nat.reducePow, List.reduceReplicate, Int.reduceLE, hne, hz, h0, h63, hn, List.length_cons, Int.natCast_add, Int.natCast_one]))
          refine wkEnd wT ?_
          exact Fin.dead0 ⟨rfl, rfl⟩
        rw [labS_more (by omega) (by omega)] at hlab
        repeat' (first
          | (refine AWP.seq ?_)
          | (refine AWP.block ?_)
          | (refine AWP.drawH_k (id := 8) 0 [(.same, []), (.same, []), (.same, []), (.same, []), (.same, []), (.same, []), (.wr 0, []), (.same, [0]), (.same, [0]), (.same, [0]), (.same, [0]), (.same, []), (.same, [])] rfl (by decide +kernel) fun Q' hQ' => ?_)
          | (refine AWP.drawH0_k (id := 8) 0 [(.same, []), (.same, []), (.same, []), (.same, []), (.same, []), (.same, []), (.wr 0, []), (.same, [0]), (.same, [0]), (.same, [0]), (.same, [0]), (.same, []), (.same, [])] rfl (by decide +kernel) fun Q' hQ' => ?_)
          | (with_reducible refine hops.step fun T hT => ?_; simp (disch := omega) only [hone, hskip, patch, hole, List.headD_cons, List.tail_cons, Prod.mk.injEq, eq_self, and_assoc, exists_and_left, List.append_cancel_left_eq, List.cons.injEq, go_sem, Nat.reduceBEq, Nat.reduceLT, Nat.reduceEqDiff, reduceIte, Nat.reduceAdd, Nat.reduceMul, Nat.reduceSub, Nat.reduceLeDiff, Int.reduceToNat, Int.reducePow, Int.reduceLT, Int.reduceEq, Int.reduceNeg, Nat.reducePow, List.reduceReplicate, Int.reduceLE, hne, hz, h0, h63, hn, List.length_cons, Int.natCast_add, Int.natCast_one])
          | (with_reducible refine hops.nil ?_)
          | (with_reducible refine hT _ _ ?_; clear hT T)
          | (refine AWP.region_k fun Q' hQ' => ?_)
          | (refine AWP.draw_k rfl (by kernel_rfl) fun Q' hQ' => ?_)
          | (with_reducible refine aops.step fun T hT => ?_; simp (disch := omega) only [go_sem, Nat.reduceBEq, Nat.reduceLT, Nat.reduceEqDiff, reduceIte, Nat.reduceAdd, Nat.reduceMul, Nat.reduceSub, Nat.reduceLeDiff, Int.reduceToNat, Int.reducePow, Int.reduceLT, Int.reduceEq, Int.reduceNeg, Nat.reducePow, List.reduceReplicate, Int.reduceLE, hne, hz, h0, h63, hn, List.length_cons, Int.natCast_add, Int.natCast_one])
          | (with_reducible refine qops.step fun T hT => ?_; simp (disch := omega) only [go_sem, Nat.reduceBEq, Nat.reduceLT, Nat.reduceEqDiff, reduceIte, Nat.reduceAdd, Nat.reduceMul, Nat.reduceSub, Nat.reduceLeDiff, Int.reduceToNat, Int.reducePow, Int.reduceLT, Int.reduceEq, Int.reduceNeg, Nat.reducePow, List.reduceReplicate, Int.reduceLE, hne, hz, h0, h63, hn, List.length_cons, Int.natCast_add, Int.natCast_one])
          | (with_reducible refine aops.nil ?_)
          | (with_reducible refine qops.nil ?_)
          | (with_reducible refine hT _ ?_; clear hT T)
          | (refine AWP.skip ?_; try simp only [AExit.then, AExit.inBlock, reduceIte, Nat.reduceEqDiff])
          | (refine AWP.exit ?_; try simp only [AExit.then, AExit.inBlock, reduceIte, Nat.reduceEqDiff])
          | (refine AWP.ret ?_; try simp only [AExit.then, AExit.inBlock, reduceIte, Nat.reduceEqDiff])
          | (refine AWP.cond rfl (fun h => ?_) (fun h => ?_) <;> (try simp only [decide_eq_true_eq, decide_eq_false_iff_not, Bool.true_eq_false, Bool.false_eq_true] at h) <;> (try contradiction))
          | (refine hQ' _ _ ?_; clear hQ' Q'; try simp only [AExit.then, AExit.inBlock, reduceIte, Nat.reduceEqDiff])
          | (refine hQ' _ ?_; clear hQ' Q'; try simp only [AExit.then, AExit.inBlock, reduceIte, Nat.reduceEqDiff])
          | (with_reducible refine Branch.split (fun h => ?_) (fun h => ?_) <;> (try simp only [decide_eq_true_eq, decide_eq_false_iff_not, Bool.not_true, Bool.not_false, Bool.true_eq_false, Bool.false_eq_true] at h) <;> (try contradiction) <;> (simp (disch := omega) only [go_sem, Nat.reduceBEq, Nat.reduceLT, Nat.reduceEqDiff, reduceIte, Nat.reduceAdd, Nat.reduceMul, Nat.reduceSub, Nat.reduceLeDiff, Int.reduceToNat, Int.reducePow, Int.reduceLT, Int.reduceEq, Int.reduceNeg, Nat.reducePow, List.reduceReplicate, Int.reduceLE, h, hne, hz, h0, h63, hn, List.length_cons, Int.natCast_add, Int.natCast_one]))
          | (with_reducible intro h; try simp only [h, go_sem, Nat.reduceBEq, Nat.reduceLT, Nat.reduceEqDiff, reduceIte, Nat.reduceAdd, Nat.reduceMul, Nat.reduceSub, Nat.reduceLeDiff, Int.reduceToNat, Int.reducePow, Int.reduceLT, Int.reduceEq, Int.reduceNeg, Nat.reducePow, List.reduceReplicate, Int.reduceLE, hne, hz, h0, h63, hn, List.length_cons, Int.natCast_add, Int.natCast_one]))
        have e1 : ((c.toNat : Int) + 1).toNat = c.toNat + 1 := by omega
        rw [e1, List.drop_succ_cons, List.take_succ_cons, List.drop_succ_cons, List.drop_zero]
        refine ⟨⟨(ls ++ [r.take c.toNat], r.drop c.toNat, g + 1), ?_, ?_, ?_, ?_⟩, ?_, ?_⟩
        · dsimp only
          rw [hlab]
          cases labS (r.drop c.toNat) <;> simp
        · dsimp only; rw [List.length_drop]; omega
        · dsimp only
          rw [List.length_append, List.length_singleton]
          omega
        · dsimp only
          rw [List.length_append, List.length_singleton, List.length_drop]
          omega
        · dsimp only
          rw [List.length_append, List.length_singleton]
          exact Coe.kp
        · dsimp only
          rw [List.length_drop, List.length_cons]
          omega

theorem labRight_spec (s : List UInt8) (hs : s.length ≤ 9223372036854775807) (H : List Box) : ASpec Try.prog 65 [vs s] H (Gives (vb (lab s).isSome) H) := by
  have hl := fun H => split_spec s hs H
  cases hlb : lab s with
  | none =>
    rw [hlb] at hl
    have hl : ∀ H, ASpec Try.prog 76 [vs s] H (Gives (.tup [.dead, vb false]) H) := hl
    refine ASpec.enter Try.func65 rfl (fun a w => Try.call65 a w) Try.ntmps65 Try.results65 fun base w β hI => ?_
    refine wk wT (wA hl (wA holM_LabA_8 wT)) ?_
    refine wkEnd wT ?_
    exact Fin.same ⟨rfl, rfl⟩
  | some l =>
    rw [hlb] at hl
    have hl : ∀ H, ASpec Try.prog 76 [vs s] H (Gives (.tup [.lst 1 (strG l), vb true]) H) := hl
    refine ASpec.enter Try.func65 rfl (fun a w => Try.call65 a w) Try.ntmps65 Try.results65 fun base w β hI => ?_
    refine wk wT (wA hl (wA holM_LabA_8 wT)) ?_
    refine wkEnd wT ?_
    exact Fin.same ⟨rfl, rfl⟩

end Go.Proofs.Ytkkhbmpcpilmfaa.VL
