/- Layer 17: whether a packet may be, as the reference says. -/
import Derived.Test.YtkkhbmpcpilmfaaZCd
import Derived.Test.YtkkhbmpcpilmfaaZPktRA
import Derived.Test.YtkkhbmpcpilmfaaZPb
-- STEPWISE
-- WK
set_option linter.unusedVariables false
set_option linter.unusedSimpArgs false
set_option maxRecDepth 10000
namespace Go.Proofs.Ytkkhbmpcpilmfaa.VL
open Go Go.RowKit Go.Lib

theorem szP_parts {p : Pk} {n : Nat} (h : szP p ≤ n) : p.q.length ≤ n ∧ p.a.length ≤ n ∧ p.u.length ≤ n ∧ p.m.length ≤ n ∧ szQ p.q ≤ n ∧ szR p.a ≤ n ∧ szR p.u ≤ n ∧ szR p.m ≤ n := by
  unfold szP at h; omega

set_option maxHeartbeats 8000000 in
theorem refRight17_spec (p : Pk) (hp : szP p ≤ 1048576) (H : List Box) : ASpec Try.prog 11 [.agg (pkC p)] H (Gives (vb (pOk p)) H) := by
  obtain ⟨lq, la, lu, lm, sq, sa, su, sm⟩ := szP_parts hp
  have hrt := fun (s : List UInt8) hs H => refRight16_spec s hs H
  have htw := fun n H => refTwo17_spec n H
  have ra := fun H => records_spec p.a la sa H
  have ru := fun H => records_spec p.u lu su H
  have rm := fun H => records_spec p.m lm sm H
  have hpk : pOk p = (win p.id 65535 && (win p.fl 65535 && ((decide (p.q.length ≤ 100) && p.q.all qOk) && (rsOk p.a && (rsOk p.u && rsOk p.m))))) := rfl
  obtain ⟨id, fl, q, a, u, m⟩ := p
  dsimp only at *
  have t1 := fun H => htw id H
  have t2 := fun H => htw fl H
  generalize win id 65535 = x1 at *
  generalize win fl 65535 = x2 at *
  generalize rsOk a = x4 at *
  generalize rsOk u = x5 at *
  generalize rsOk m = x6 at *
  generalize hP : pOk ⟨id, fl, q, a, u, m⟩ = P at *
  generalize hPX : (⟨pkC ⟨id, fl, q, a, u, m⟩, 0, 0, false⟩ : Box) = PX at *
  have hPG : ∀ N : List Box, (H ++ (PX :: N))[H.length]? = some ⟨[vi id, vi fl, .lst 3 (qnG q), .lst 5 (rrG a), .lst 5 (rrG u), .lst 5 (rrG m)], 0, 0, false⟩ := fun N => by rw [← hPX]; simp
  refine ASpec.enter Try.func11 rfl (fun a w => Try.call11 a w) Try.ntmps11 Try.results11 fun base w β hI => ?_
  refine wk (wA hPX wT) wT ?_
  refine AWP.loop (ι := {i : Nat // i ≤ q.length ∧ i ≤ 101 ∧ (q.take i).all qOk = true}) (fun p => ⟨[(1, .ptr H.length 0 0), (3, vi p.1)], H ++ [PX]⟩) (fun p => q.length - p.1) ⟨0, Nat.zero_le _, by omega, by simp⟩ ?_ ?_
  · dsimp only
    exact Coe.kp
  · rintro ⟨i, hi, hi2, hall⟩
    dsimp only
    by_cases hc : (i : Int) < (q.length : Int)
    · by_cases hc2 : (i : Int) < 101
      · have hg : q[i]? = some q[i] := List.getElem?_eq_getElem (by omega)
        have hm := szQ_mem (List.getElem_mem (l := q) (n := i) (by omega))
        generalize q[i] = r at hg hm
        have hrt1 := fun H => hrt r.n (by omega) H
        have htw1 := fun H => htw r.t H
        have htw2 := fun H => htw r.c H
        have hfail : qOk r = false → P = false := fun h => by rw [hpk, all_not hg h]; simp
        have hrk : qOk r = ((lab r.n).isSome && (win r.t 65535 && win r.c 65535)) := rfl
        obtain ⟨n, t, c⟩ := r
        dsimp only at hrt1 htw1 htw2 hrk hm
        generalize win t 65535 = w1 at *
        generalize win c 65535 = w2 at *
        cases d1 : (lab n).isSome
        · rw [hfail (by rw [hrk, d1]; rfl)]
          refine wk (wA hPG (wA hc (wA hc2 (wA hg (wA d1 wT))))) (wA hrt1 (wA htw1 (wA htw2 wT))) ?_
          refine wkEnd wT ?_
          exact Fin.cut (.v _) ⟨rfl, rfl⟩
        cases w1
        · rw [hfail (by rw [hrk]; simp)]
          refine wk (wA hPG (wA hc (wA hc2 (wA hg (wA d1 wT))))) (wA hrt1 (wA htw1 (wA htw2 wT))) ?_
          refine wkEnd wT ?_
          exact Fin.cut (.v _) ⟨rfl, rfl⟩
        cases w2
        · rw [hfail (by rw [hrk]; simp)]
          refine wk (wA hPG (wA hc (wA hc2 (wA hg (wA d1 wT))))) (wA hrt1 (wA htw1 (wA htw2 wT))) ?_
          refine wkEnd wT ?_
          exact Fin.cut (.v _) ⟨rfl, rfl⟩
        have hok : qOk ⟨n, t, c⟩ = true := by rw [hrk, d1]; rfl
        refine wk (wA hPG (wA hc (wA hc2 (wA hg (wA d1 wT))))) (wA hrt1 (wA htw1 (wA htw2 wT))) ?_
        refine ⟨⟨i + 1, by omega, by omega, all_snoc hall hg hok⟩, ?_, by dsimp only; omega⟩
        dsimp only
        refine Coe.cutN (M := [PX]) ?_ ?_ ?_
        · simp (disch := omega) only [Keeps, List.mem_cons, List.not_mem_nil, or_false, forall_eq_or_imp, forall_eq, Int.natCast_add, Int.natCast_one, go_sem, Nat.reduceBEq, Nat.reduceLT, Nat.reduceEqDiff, reduceIte, Nat.reduceAdd, Nat.reduceMul, Nat.reduceSub, Nat.reduceLeDiff, Int.reduceToNat, Int.reducePow, Int.reduceLT, Int.reduceEq, Int.reduceNeg, Nat.reducePow, List.reduceReplicate, Int.reduceLE]
        · simp only [List.mem_cons, List.not_mem_nil, or_false, forall_eq_or_imp, forall_eq, List.length_cons, List.length_nil]
          exact ⟨.ptr _ _ _ (by omega), .v _⟩
        · simp only [List.mem_cons, List.not_mem_nil, or_false, forall_eq_or_imp, forall_eq, List.length_cons, List.length_nil]
          rw [← hPX]
          exact lt_pkC _
      · have hlong : ¬ (q.length : Int) ≤ 100 := by omega
        have hPf : P = false := by rw [hpk, decide_eq_false (show ¬ q.length ≤ 100 by omega)]; simp
        rw [hPf]
        cases x1
        · refine wk (wA hPG (wA hc (wA hc2 (wA hlong wT)))) (wA t1 (wA t2 wT)) ?_
          refine wkEnd wT ?_
          exact Fin.cut (.v _) ⟨rfl, rfl⟩
        cases x2
        · refine wk (wA hPG (wA hc (wA hc2 (wA hlong wT)))) (wA t1 (wA t2 wT)) ?_
          refine wkEnd wT ?_
          exact Fin.cut (.v _) ⟨rfl, rfl⟩
        refine wk (wA hPG (wA hc (wA hc2 (wA hlong wT)))) (wA t1 (wA t2 wT)) ?_
        refine wkEnd wT ?_
        exact Fin.cut (.v _) ⟨rfl, rfl⟩
    · have : i = q.length := by omega
      subst this
      rw [List.take_length] at hall
      rw [hall, Bool.and_true] at hpk
      cases x1
      · rw [hpk]
        refine wk (wA hPG (wA hc wT)) (wA t1 (wA t2 wT)) ?_
        refine wkEnd wT ?_
        exact Fin.cut (.v _) ⟨rfl, rfl⟩
      cases x2
      · rw [hpk]
        refine wk (wA hPG (wA hc wT)) (wA t1 (wA t2 wT)) ?_
        refine wkEnd wT ?_
        exact Fin.cut (.v _) ⟨rfl, rfl⟩
      by_cases hl : (q.length : Int) ≤ 100
      rotate_left
      · rw [hpk, decide_eq_false (show ¬ q.length ≤ 100 by omega)]
        refine wk (wA hPG (wA hc (wA hl wT))) (wA t1 (wA t2 wT)) ?_
        refine wkEnd wT ?_
        exact Fin.cut (.v _) ⟨rfl, rfl⟩
      rw [decide_eq_true (show q.length ≤ 100 by omega)] at hpk
      cases x4
      · rw [hpk]
        refine wk (wA hPG (wA hc (wA hl wT))) (wA t1 (wA t2 (wA ra wT))) ?_
        refine wkEnd wT ?_
        exact Fin.cut (.v _) ⟨rfl, rfl⟩
      cases x5
      · rw [hpk]
        refine wk (wA hPG (wA hc (wA hl wT))) (wA t1 (wA t2 (wA ra (wA ru wT)))) ?_
        refine wkEnd wT ?_
        exact Fin.cut (.v _) ⟨rfl, rfl⟩
      rw [hpk]
      refine wk (wA hPG (wA hc (wA hl wT))) (wA t1 (wA t2 (wA ra (wA ru (wA rm wT))))) ?_
      refine wkEnd wT ?_
      exact Fin.cut (.v _) ⟨rfl, rfl⟩

end Go.Proofs.Ytkkhbmpcpilmfaa.VL
