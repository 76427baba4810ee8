/- Layer 25: a mail comes, is lost, comes twice. -/
import Derived.Test.YtnoekcdmaaakfaaZNetG
-- STEPWISE
-- WK
set_option linter.unusedVariables false
set_option linter.unusedSimpArgs false
set_option maxRecDepth 10000
namespace Go.Proofs.Ytnoekcdmaaakfaa.VL
open Go Go.RowKit Go.Lib

theorem holH4 : HolM 4 0 [(.same, []), (.same, [1]), (.same, [1, 2]), (.wr 1, []), (.wr 2, []), (.same, [])] := ⟨⟩
set_option maxHeartbeats 8000000 in
theorem deliver_spec (n : Nt) (hn : NtL n) (x : Int) (H : List Box) : ASpec Try.prog 10 [ntV n, vi x] H (Gives (.tup [ntV (delivN n x).1, mlV (delivN n x).2.1, vi (delivN n x).2.2]) H) := by
  have hcu := hn.cu
  have ht := fun H => take25_spec n hn x H
  have hb := fun a b H => blocked_spec n a b (by omega) H
  unfold delivN
  unfold takeNt at ht
  by_cases ha : askN n x = 0
  · rw [if_pos ha] at ht ⊢
    generalize dropN n x.toNat = dn at *
    generalize n.fl.getD x.toNat mlZ = m at *
    have hb1 := fun H => hb m.f m.t H
    generalize blk n m.f m.t = bk at *
    obtain ⟨f, t, d⟩ := m
    obtain ⟨fl, cu⟩ := n
    obtain ⟨dfl, dcu⟩ := dn
    dsimp only at *
    cases bk with
    | true =>
      rw [if_pos rfl]
      refine ASpec.enter Try.func10 rfl (fun a w => Try.call10 a w) Try.ntmps10 Try.results10 fun base w β hI => ?_
      refine wk wT (wA ht (wA hb1 (wA holH4 (wA DrM.mk wT)))) ?_
      refine wkEnd wT ?_
      exact Fin.zml (lt_nt ⟨dfl, dcu⟩) (.v _) ⟨rfl, rfl⟩
    | false =>
      rw [if_neg (by simp)]
      refine ASpec.enter Try.func10 rfl (fun a w => Try.call10 a w) Try.ntmps10 Try.results10 fun base w β hI => ?_
      refine wk wT (wA ht (wA hb1 (wA holH4 (wA DrM.mk wT)))) ?_
      refine wkEnd wT ?_
      exact Fin.cut (.cons_tup (lt_nt ⟨dfl, dcu⟩) (.cons_tup (lt_mlv ⟨f, t, d⟩) (.cons_tup (.v _) .nil_tup))) ⟨rfl, rfl⟩
  · rw [if_neg ha] at ht ⊢
    generalize askN n x = e at *
    obtain ⟨fl, cu⟩ := n
    dsimp only at *
    refine ASpec.enter Try.func10 rfl (fun a w => Try.call10 a w) Try.ntmps10 Try.results10 fun base w β hI => ?_
    refine wk (wA ha wT) (wA ht (wA holH4 (wA DrM.mk wT))) ?_
    refine wkEnd wT ?_
    exact Fin.cut (.cons_tup (lt_nt ⟨fl, cu⟩) (.cons_tup (lt_mlv mlZ) (.cons_tup (.v _) .nil_tup))) ⟨rfl, rfl⟩
theorem lose_spec (n : Nt) (hn : NtL n) (x : Int) (H : List Box) : ASpec Try.prog 15 [ntV n, vi x] H (Gives (.tup [ntV (loseN n x).1, vi (loseN n x).2]) H) := by
  have ht := fun H => take25_spec n hn x H
  have e : loseN n x = ((takeNt n x).1, (takeNt n x).2.2) := by unfold loseN takeNt; split <;> rfl
  rw [e]
  generalize takeNt n x = z at *
  obtain ⟨⟨zf, zc⟩, ⟨f, t, d⟩, e⟩ := z
  obtain ⟨fl, cu⟩ := n
  dsimp only at *
  refine ASpec.enter Try.func15 rfl (fun a w => Try.call15 a w) Try.ntmps15 Try.results15 fun base w β hI => ?_
  refine wk wT (wA ht (wA DrM.mk wT)) ?_
  refine wkEnd wT ?_
  exact Fin.cut (.cons_tup (lt_nt ⟨zf, zc⟩) (.cons_tup (.v _) .nil_tup)) ⟨rfl, rfl⟩

end Go.Proofs.Ytnoekcdmaaakfaa.VL
