/- Layer 17: whether records are the first ones of others. -/
import Derived.Test.YtkkhbmpcpilmfaaZCd
import Derived.Test.YtkkhbmpcpilmfaaZPf
import Derived.Test.YtkkhbmpcpilmfaaZPktRA
import Derived.Test.YtkkhbmpcpilmfaaZLabD
-- STEPWISE
-- WK
-- HOLE 4 2 [(.same, [0, 1]), (.same, [0, 1]), (.same, [0, 1]), (.same, [0, 1]), (.same, [0, 1]), (.same, [0, 1]), (.same, [0, 1]), (.same, [0, 1]), (.new 0, [1]), (.new 1, [0]), (.wr 0, []), (.wr 1, [])]
set_option linter.unusedVariables false
set_option linter.unusedSimpArgs false
set_option maxRecDepth 10000
namespace Go.Proofs.Ytkkhbmpcpilmfaa.VL
open Go Go.RowKit Go.Lib

theorem holM_PktRE_4 : HolM 4 2 [(.same, [0, 1]), (.same, [0, 1]), (.same, [0, 1]), (.same, [0, 1]), (.same, [0, 1]), (.same, [0, 1]), (.same, [0, 1]), (.same, [0, 1]), (.new 0, [1]), (.new 1, [0]), (.wr 0, []), (.wr 1, [])] := ⟨⟩

theorem drop_get {α : Type} {l : List α} {i : Nat} {x : α} (h : l[i]? = some x) : l.drop i = x :: l.drop (i + 1) := by
  have hi := (List.getElem?_eq_some_iff.1 h).1
  rw [List.drop_eq_getElem_cons hi, (List.getElem?_eq_some_iff.1 h).2]
/-- New boxes are forgotten at a round's end. -/
theorem Coe.cut0 {E : Ent} {l l' : List (Nat × AV)} {N : List Box} (h : Keeps l l') (hlt : ∀ p ∈ l', Lt E.H.length p.2) : Coe E ⟨l, E.H ++ N⟩ ⟨l', E.H⟩ := by
  have := Coe.cutN (E := E) (M := []) (N := N) h (by simpa using hlt) (by simp)
  simpa using this
set_option maxHeartbeats 8000000 in
theorem begins_spec (x y : List Rr) (hx : x.length ≤ 9223372036854775807) (hy : y.length ≤ 9223372036854775807) (nx : ∀ r ∈ x, r.n.length ≤ 1048576) (ny : ∀ r ∈ y, r.n.length ≤ 1048576) (H : List Box) :
    ASpec Try.prog 14 [.lst 5 (rrG x), .lst 5 (rrG y)] H (Gives (vb (bgn x y)) H) := by
  have hsm := fun a b ha hb H => refSame16_spec a b ha hb H
  refine ASpec.enter Try.func14 rfl (fun a w => Try.call14 a w) Try.ntmps14 Try.results14 fun base w β hI => ?_
  refine wk wT (wA holM_PktRE_4 wT) ?_
  refine AWP.loop (ι := {i : Nat // i ≤ x.length ∧ i ≤ y.length ∧ bgn x y = bgn (x.drop i) (y.drop i)})
    (fun p => ⟨[(0, .lst 5 (rrG x)), (1, .lst 5 (rrG y)), (5, vi p.1)], H⟩) (fun p => x.length - p.1) ⟨0, Nat.zero_le _, Nat.zero_le _, by simp⟩ ?_ ?_
  · dsimp only
    exact Coe.kp
  · rintro ⟨i, hi, hi2, he⟩
    dsimp only
    by_cases hc : (i : Int) < (x.length : Int)
    · have hg : x[i]? = some x[i] := List.getElem?_eq_getElem (by omega)
      have mx := nx x[i] (List.getElem_mem _)
      generalize x[i] = a at hg mx
      rw [drop_get hg] at he
      by_cases hc2 : (i : Int) < (y.length : Int)
      · have hg2 : y[i]? = some y[i] := List.getElem?_eq_getElem (by omega)
        have my := ny y[i] (List.getElem_mem _)
        generalize y[i] = b at hg2 my
        rw [drop_get hg2, bgn, bgn1] at he
        have hs := fun H => hsm a.n b.n (by omega) (by omega) H
        obtain ⟨xn, xt, xc, xl, xd⟩ := a
        obtain ⟨yn, yt, yc, yl, yd⟩ := b
        dsimp only at hs he
        cases d1 : sameN xn yn
        · rw [d1, Bool.false_and, Bool.false_and] at he
          rw [he]
          refine wk (wA hc (wA hc2 (wA hg (wA hg2 (wA d1 wT))))) (wA hs (wA holM_PktRE_4 wT)) ?_
          refine wkEnd wT ?_
          exact Fin.cut (.v _) ⟨rfl, rfl⟩
        rw [d1, Bool.true_and] at he
        by_cases d2 : xt = yt
        rotate_left
        · rw [decide_eq_false d2, Bool.false_and, Bool.false_and] at he
          rw [he]
          refine wk (wA hc (wA hc2 (wA hg (wA hg2 (wA d1 (wA d2 wT)))))) (wA hs (wA holM_PktRE_4 wT)) ?_
          refine wkEnd wT ?_
          exact Fin.cut (.v _) ⟨rfl, rfl⟩
        subst d2
        rw [decide_eq_true rfl, Bool.true_and] at he
        by_cases d3 : xc = yc
        rotate_left
        · rw [decide_eq_false d3, Bool.false_and, Bool.false_and] at he
          rw [he]
          refine wk (wA hc (wA hc2 (wA hg (wA hg2 (wA d1 (wA d3 wT)))))) (wA hs (wA holM_PktRE_4 wT)) ?_
          refine wkEnd wT ?_
          exact Fin.cut (.v _) ⟨rfl, rfl⟩
        subst d3
        rw [decide_eq_true rfl, Bool.true_and] at he
        by_cases d4 : xl = yl
        rotate_left
        · rw [decide_eq_false d4, Bool.false_and, Bool.false_and] at he
          rw [he]
          refine wk (wA hc (wA hc2 (wA hg (wA hg2 (wA d1 (wA d4 wT)))))) (wA hs (wA holM_PktRE_4 wT)) ?_
          refine wkEnd wT ?_
          exact Fin.cut (.v _) ⟨rfl, rfl⟩
        subst d4
        rw [decide_eq_true rfl, Bool.true_and] at he
        by_cases d5 : xd = yd
        rotate_left
        · rw [decide_eq_false d5, Bool.false_and] at he
          rw [he]
          refine wk (wA hc (wA hc2 (wA hg (wA hg2 (wA d1 (wA d5 wT)))))) (wA hs (wA holM_PktRE_4 wT)) ?_
          refine wkEnd wT ?_
          exact Fin.cut (.v _) ⟨rfl, rfl⟩
        subst d5
        rw [decide_eq_true rfl, Bool.true_and] at he
        refine wk (wA hc (wA hc2 (wA hg (wA hg2 (wA d1 wT))))) (wA hs (wA holM_PktRE_4 wT)) ?_
        refine ⟨⟨i + 1, by omega, by omega, he⟩, ?_, by dsimp only; omega⟩
        dsimp only
        refine Coe.cut0 ?_ ?_
        · simp (disch := omega) only [Keeps, List.mem_cons, List.not_mem_nil, or_false, forall_eq_or_imp, forall_eq, Int.natCast_add, Int.natCast_one, go_sem, Nat.reduceBEq, Nat.reduceLT, Nat.reduceEqDiff, reduceIte, Nat.reduceAdd, Nat.reduceMul, Nat.reduceSub, Nat.reduceLeDiff, Int.reduceToNat, Int.reducePow, Int.reduceLT, Int.reduceEq, Int.reduceNeg, Nat.reducePow, List.reduceReplicate, Int.reduceLE]
        · simp only [List.mem_cons, List.not_mem_nil, or_false, forall_eq_or_imp, forall_eq]
          exact ⟨lt_rr _, lt_rr _, .v _⟩
      · have hdr : y.drop i = [] := List.drop_of_length_le (by omega)
        rw [hdr, bgn] at he
        have hle : ¬ (x.length : Int) ≤ (y.length : Int) := by omega
        rw [he]
        refine wk (wA hc (wA hc2 (wA hle wT))) (wA holM_PktRE_4 wT) ?_
        refine wkEnd wT ?_
        exact Fin.same ⟨rfl, rfl⟩
    · have hdr : x.drop i = [] := List.drop_of_length_le (by omega)
      rw [hdr, bgn] at he
      have hle : (x.length : Int) ≤ (y.length : Int) := by omega
      rw [he]
      refine wk (wA hc (wA hle wT)) (wA holM_PktRE_4 wT) ?_
      refine wkEnd wT ?_
      exact Fin.same ⟨rfl, rfl⟩

end Go.Proofs.Ytkkhbmpcpilmfaa.VL
