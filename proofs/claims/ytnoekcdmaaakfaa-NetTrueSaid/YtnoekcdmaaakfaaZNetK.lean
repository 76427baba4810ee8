/- Layer 25: ways are cut and healed, as far as the law's fixed fact needs it. -/
import Derived.Test.YtnoekcdmaaakfaaZNetJ
import Derived.Test.YtnoekcdmaaakfaaZCe
-- STEPWISE
-- WK
set_option linter.unusedVariables false
set_option linter.unusedSimpArgs false
set_option maxRecDepth 10000
namespace Go.Proofs.Ytnoekcdmaaakfaa.VL
open Go Go.RowKit Go.Lib

def wayN (n : Nt) (a b : Int) (is : Bool) : Int := if ntOk n = false ∨ nodeOk a = false ∨ nodeOk b = false ∨ a = b then 1 else if blk n a b ≠ is then 14 else 0
set_option maxHeartbeats 4000000 in
theorem way_spec (n : Nt) (hl : n.fl.length ≤ 9223372036854775807) (hc : n.cu.length ≤ 9223372036854775807) (a b : Int) (is : Bool) (H : List Box) : ASpec Try.prog 38 [ntV n, vi a, vi b, vb is] H (Gives (vi (wayN n a b is)) H) := by
  have hr := fun H => netRight_spec n hl hc H
  have h1 := fun H => node_spec a H
  have h2 := fun H => node_spec b H
  have hb := fun H => blocked_spec n a b hc H
  unfold wayN
  generalize blk n a b = bk at *
  cases d1 : ntOk n with
  | false =>
    rw [d1] at hr
    rw [if_pos (.inl rfl)]
    clear d1
    obtain ⟨fl, cu⟩ := n
    refine ASpec.enter Try.func38 rfl (fun a w => Try.call38 a w) Try.ntmps38 Try.results38 fun base w β hI => ?_
    refine wk wT (wA hr (wA DrM.mk wT)) ?_
    refine wkEnd wT ?_
    exact Fin.cut (.v _) ⟨rfl, rfl⟩
  | true =>
    rw [d1] at hr
    clear d1
    obtain ⟨fl, cu⟩ := n
    dsimp only at *
    cases d2 : nodeOk a with
    | false =>
      rw [if_pos (.inr (.inl rfl))]
      refine ASpec.enter Try.func38 rfl (fun a w => Try.call38 a w) Try.ntmps38 Try.results38 fun base w β hI => ?_
      refine wk (wA d2 wT) (wA hr (wA h1 (wA DrM.mk wT))) ?_
      refine wkEnd wT ?_
      exact Fin.cut (.v _) ⟨rfl, rfl⟩
    | true =>
      cases d3 : nodeOk b with
      | false =>
        rw [if_pos (.inr (.inr (.inl rfl)))]
        refine ASpec.enter Try.func38 rfl (fun a w => Try.call38 a w) Try.ntmps38 Try.results38 fun base w β hI => ?_
        refine wk (wA d2 (wA d3 wT)) (wA hr (wA h1 (wA h2 (wA DrM.mk wT)))) ?_
        refine wkEnd wT ?_
        exact Fin.cut (.v _) ⟨rfl, rfl⟩
      | true =>
        by_cases d4 : a = b
        · rw [if_pos (.inr (.inr (.inr d4)))]
          refine ASpec.enter Try.func38 rfl (fun a w => Try.call38 a w) Try.ntmps38 Try.results38 fun base w β hI => ?_
          refine wk (wA d2 (wA d3 (wA (eq_true d4) wT))) (wA hr (wA h1 (wA h2 (wA DrM.mk wT)))) ?_
          refine wkEnd wT ?_
          exact Fin.cut (.v _) ⟨rfl, rfl⟩
        · rw [if_neg (by simp [d4])]
          by_cases d5 : bk = is
          · rw [if_neg (by simp [d5])]
            subst d5
            refine ASpec.enter Try.func38 rfl (fun a w => Try.call38 a w) Try.ntmps38 Try.results38 fun base w β hI => ?_
            refine wk (wA d2 (wA d3 (wA d4 wT))) (wA hr (wA h1 (wA h2 (wA hb (wA DrM.mk wT))))) ?_
            refine wkEnd wT ?_
            exact Fin.cut (.v _) ⟨rfl, rfl⟩
          · rw [if_pos d5]
            refine ASpec.enter Try.func38 rfl (fun a w => Try.call38 a w) Try.ntmps38 Try.results38 fun base w β hI => ?_
            refine wk (wA d2 (wA d3 (wA d4 (wA d5 wT)))) (wA hr (wA h1 (wA h2 (wA hb (wA DrM.mk wT))))) ?_
            refine wkEnd wT ?_
            exact Fin.cut (.v _) ⟨rfl, rfl⟩

end Go.Proofs.Ytnoekcdmaaakfaa.VL
