/- Layer 25: the document's functions that lose, deliver and double a mail. -/
import Derived.Test.YtnoekcdmaaakfaaZNetYB
-- STEPWISE
-- WK
-- HWR
set_option linter.unusedVariables false
set_option linter.unusedSimpArgs false
set_option maxRecDepth 10000
namespace Go.Proofs.Ytnoekcdmaaakfaa.VL
open Go Go.RowKit Go.Lib

theorem ask0 {n : Nt} {x : Int} (h : askN n x = 0) : ∃ p : Nat, x = p ∧ p < n.fl.length ∧ ntOk n = true := by
  unfold askN at h
  split at h
  · cases h
  · rename_i hok
    split at h
    · cases h
    · rename_i hx
      exact ⟨x.toNat, by omega, by omega, by simpa using hok⟩

set_option maxHeartbeats 8000000 in
theorem refLose_spec (n : Nt) (hn : NtL n) (x : Int) (H : List Box) : ASpec Try.prog 16 [ntV n, vi x] H (Gives (.tup [ntV (loseN n x).1, vi (loseN n x).2]) H) := by
  have hcu := hn.cu
  have hfl := hn.fl
  have hq := fun H => asked_spec n (by omega) (by omega) x H
  unfold loseN
  by_cases ha : askN n x = 0
  · obtain ⟨p, rfl, hp, _⟩ := ask0 ha
    rw [if_pos ha, Int.toNat_natCast]
    rw [ha] at hq
    have hw := fun H => without_spec n (by omega) (by omega) hn.d p hp H
    generalize dropN n p = dn at *
    clear ha
    obtain ⟨fl, cu⟩ := n
    obtain ⟨dfl, dcu⟩ := dn
    refine ASpec.enter Try.func16 rfl (fun a w => Try.call16 a w) Try.ntmps16 Try.results16 fun base w β hI => ?_
    refine wk wT (wA hq (wA hw (wA DrM.mk wT))) ?_
    refine wkEnd wT ?_
    exact Fin.cut (.cons_tup (lt_nt ⟨dfl, dcu⟩) (.cons_tup (.v _) .nil_tup)) ⟨rfl, rfl⟩
  · rw [if_neg ha]
    generalize askN n x = e at *
    obtain ⟨fl, cu⟩ := n
    refine ASpec.enter Try.func16 rfl (fun a w => Try.call16 a w) Try.ntmps16 Try.results16 fun base w β hI => ?_
    refine wk (wA ha wT) (wA hq (wA DrM.mk wT)) ?_
    refine wkEnd wT ?_
    exact Fin.cut (.cons_tup (lt_nt ⟨fl, cu⟩) (.cons_tup (.v _) .nil_tup)) ⟨rfl, rfl⟩

end Go.Proofs.Ytnoekcdmaaakfaa.VL
