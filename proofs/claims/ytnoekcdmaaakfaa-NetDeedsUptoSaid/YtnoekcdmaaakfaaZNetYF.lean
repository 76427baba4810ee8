/- Layer 25: the document's function that delivers a mail. -/
import Derived.Test.YtnoekcdmaaakfaaZNetYD
-- STEPWISE
-- WK
-- HWR
-- HOLE 7 0 [(.same, []), (.same, []), (.same, []), (.same, [1]), (.wr 1, []), (.wr 2, []), (.same, [])]
set_option linter.unusedVariables false
set_option linter.unusedSimpArgs false
set_option maxRecDepth 10000
namespace Go.Proofs.Ytnoekcdmaaakfaa.VL
open Go Go.RowKit Go.Lib

theorem holM_NetYF_7 : HolM 7 0 [(.same, []), (.same, []), (.same, []), (.same, [1]), (.wr 1, []), (.wr 2, []), (.same, [])] := ⟨⟩

set_option maxHeartbeats 8000000 in
theorem refDeliver_spec (n : Nt) (hn : NtL n) (x : Int) (H : List Box) : ASpec Try.prog 14 [ntV n, vi x] H (Gives (.tup [ntV (delivN n x).1, mlV (delivN n x).2.1, vi (delivN n x).2.2]) H) := by
  have hcu := hn.cu
  have hfl := hn.fl
  have hq := fun H => asked_spec n (by omega) (by omega) x H
  unfold delivN
  by_cases ha : askN n x = 0
  · obtain ⟨p, rfl, hp, _⟩ := ask0 ha
    rw [if_pos ha, Int.toNat_natCast]
    rw [ha] at hq
    clear ha
    have hp' : (p : Int) < (n.fl.length : Int) := by omega
    have hw := fun H => without_spec n (by omega) (by omega) hn.d p hp H
    generalize dropN n p = dn at *
    have hg : n.fl[p]? = some n.fl[p] := List.getElem?_eq_getElem hp
    have hm := hn.d n.fl[p] (List.getElem_mem _)
    rw [List.getD_eq_getElem?_getD, hg, Option.getD_some]
    generalize n.fl[p] = m at *
    have ho := fun H => refOwn_spec m hm H
    have hb := fun H => refBlocked_spec n m.f m.t (by omega) H
    generalize blk n m.f m.t = z at *
    obtain ⟨f, t, d⟩ := m
    obtain ⟨fl, cu⟩ := n
    obtain ⟨dfl, dcu⟩ := dn
    dsimp only at *
    cases z with
    | true =>
      rw [if_pos rfl]
      refine ASpec.enter Try.func14 rfl (fun a w => Try.call14 a w) Try.ntmps14 Try.results14 fun base w β hI => ?_
      refine wk (wA hp' (wA hg wT)) (wA hq (wA ho (wA hb (wA hw (wA holM_NetYF_7 (wA DrM.mk wT)))))) ?_
      refine wkEnd wT ?_
      exact Fin.zml (lt_nt ⟨dfl, dcu⟩) (.v _) ⟨rfl, rfl⟩
    | false =>
      rw [if_neg (by simp)]
      refine ASpec.enter Try.func14 rfl (fun a w => Try.call14 a w) Try.ntmps14 Try.results14 fun base w β hI => ?_
      refine wk (wA hp' (wA hg wT)) (wA hq (wA ho (wA hb (wA hw (wA holM_NetYF_7 (wA DrM.mk wT)))))) ?_
      refine wkEnd wT ?_
      exact Fin.cut (.cons_tup (lt_nt ⟨dfl, dcu⟩) (.cons_tup (lt_mlv ⟨f, t, d⟩) (.cons_tup (.v _) .nil_tup))) ⟨rfl, rfl⟩
  · rw [if_neg ha]
    generalize askN n x = e at *
    obtain ⟨fl, cu⟩ := n
    refine ASpec.enter Try.func14 rfl (fun a w => Try.call14 a w) Try.ntmps14 Try.results14 fun base w β hI => ?_
    refine wk (wA ha wT) (wA hq (wA holM_NetYF_7 (wA DrM.mk wT))) ?_
    refine wkEnd wT ?_
    exact Fin.zml (lt_nt ⟨fl, cu⟩) (.v _) ⟨rfl, rfl⟩

end Go.Proofs.Ytnoekcdmaaakfaa.VL
