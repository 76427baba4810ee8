/- Layer 25: the document's function that doubles a mail. -/
import Derived.Test.YtnoekcdmaaakfaaZNetYD
-- STEPWISE
-- WK
-- HWR
-- HOLE 7 0 [(.same, []), (.same, []), (.same, []), (.same, []), (.same, []), (.same, []), (.same, []), (.same, []), (.same, []), (.wr 5, []), (.same, []), (.wr 7, [])]
set_option linter.unusedVariables false
set_option linter.unusedSimpArgs false
set_option maxRecDepth 10000
namespace Go.Proofs.Ytnoekcdmaaakfaa.VL
open Go Go.RowKit Go.Lib

theorem holM_NetYE_7 : HolM 7 0 [(.same, []), (.same, []), (.same, []), (.same, []), (.same, []), (.same, []), (.same, []), (.same, []), (.same, []), (.wr 5, []), (.same, []), (.wr 7, [])] := ⟨⟩

set_option maxHeartbeats 8000000 in
theorem refDouble_spec (n : Nt) (hn : NtL n) (x : Int) (H : List Box) : ASpec Try.prog 18 [ntV n, vi x] H (Gives (.tup [ntV (dblN n x).1, vi (dblN n x).2]) H) := by
  have hcu := hn.cu
  have hfl := hn.fl
  have hq := fun H => asked_spec n (by omega) (by omega) x H
  unfold dblN
  by_cases ha : askN n x = 0
  · obtain ⟨p, rfl, hp, _⟩ := ask0 ha
    rw [if_pos ha, Int.toNat_natCast]
    rw [ha] at hq
    clear ha
    have hp' : (p : Int) < (n.fl.length : Int) := by omega
    by_cases h60 : n.fl.length = 60
    · rw [if_pos h60]
      have h6 : (n.fl.length : Int) = 60 := by omega
      obtain ⟨fl, cu⟩ := n
      dsimp only at *
      refine ASpec.enter Try.func18 rfl (fun a w => Try.call18 a w) Try.ntmps18 Try.results18 fun base w β hI => ?_
      refine wk (wA (eq_true h6) wT) (wA hq (wA holM_NetYE_7 (wA DrM.mk wT))) ?_
      refine wkEnd wT ?_
      exact Fin.cut (.cons_tup (lt_nt ⟨fl, cu⟩) (.cons_tup (.v _) .nil_tup)) ⟨rfl, rfl⟩
    · rw [if_neg h60]
      have h6 : ¬ (n.fl.length : Int) = 60 := by omega
      have hcp := fun H => copy_spec n (by omega) (by omega) hn.d H
      have hg : n.fl[p]? = some n.fl[p] := List.getElem?_eq_getElem hp
      have hm := hn.d n.fl[p] (List.getElem_mem _)
      rw [List.getD_eq_getElem?_getD, hg, Option.getD_some]
      generalize n.fl[p] = m at *
      have ho := fun H => refOwn_spec m hm H
      have hsn := mlF_snoc n.fl m
      have hml := mlF_length n.fl
      have hbb : (n.fl.length + 1) * 40 ≤ 140737488355328 := by omega
      obtain ⟨f, t, d⟩ := m
      obtain ⟨fl, cu⟩ := n
      dsimp only at *
      have k5 : H.length + 2 + 3 = H.length + 5 := rfl
      have k6 : H.length + 2 + 4 = H.length + 6 := rfl
      refine ASpec.enter Try.func18 rfl (fun a w => Try.call18 a w) Try.ntmps18 Try.results18 fun base w β hI => ?_
      refine wk (wA h6 (wA hp' (wA k5 (wA k6 (wA hg (wA hml (wA hbb (wA (Eq.symm hsn) wT)))))))) (wA hq (wA hcp (wA ho (wA holM_NetYE_7 (wA DrM.mk wT))))) ?_
      refine wkEnd wT ?_
      exact Fin.netG (n := ⟨fl ++ [⟨f, t, d⟩], cu⟩) (app_at _ _ 5 rfl) (app_at _ _ 6 rfl) (by dsimp only; omega) (by dsimp only; omega) (by omega) rfl rfl (by dsimp only; rw [mlF_length]; simp) (by dsimp only; rw [ctF_length]; omega) (by have := chunk_mlF (fl ++ [⟨f, t, d⟩]); simpa using this) (chunk_ctF _) (.cons_tup (.v _) .nil_tup) ⟨rfl, rfl⟩
  · rw [if_neg ha]
    generalize askN n x = e at *
    obtain ⟨fl, cu⟩ := n
    refine ASpec.enter Try.func18 rfl (fun a w => Try.call18 a w) Try.ntmps18 Try.results18 fun base w β hI => ?_
    refine wk (wA ha wT) (wA hq (wA holM_NetYE_7 (wA DrM.mk wT))) ?_
    refine wkEnd wT ?_
    exact Fin.cut (.cons_tup (lt_nt ⟨fl, cu⟩) (.cons_tup (.v _) .nil_tup)) ⟨rfl, rfl⟩

end Go.Proofs.Ytnoekcdmaaakfaa.VL
