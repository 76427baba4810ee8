/- Layer 25: a net of new memory. -/
import Derived.Test.YtnoekcdmaaakfaaZNetC
import Derived.Test.YtnoekcdmaaakfaaZVLInto
-- STEPWISE
-- WK
-- HWR
-- HOLE 1 2 [(.same, []), (.same, []), (.wr 2, []), (.same, [2]), (.same, [2]), (.wr 3, []), (.same, []), (.wr 1, [])]
set_option linter.unusedVariables false
set_option linter.unusedSimpArgs false
set_option maxRecDepth 10000
namespace Go.Proofs.Ytnoekcdmaaakfaa.VL
open Go Go.RowKit Go.Lib

theorem holM_NetD_1 : HolM 1 2 [(.same, []), (.same, []), (.wr 2, []), (.same, [2]), (.same, [2]), (.wr 3, []), (.same, []), (.wr 1, [])] := ⟨⟩

/-- What is handed back of a net of new memory: boxes behind the caller's. -/
abbrev freshV (H : List Box) (fl cu : Nat) : AV := .agg [.sl (H.length + 2) 1 0 fl 3 false, .sl (H.length + 3) 1 0 cu 2 false]
abbrev freshH (H : List Box) (n : Nt) : List Box := H ++ [⟨ntC n, 0, 0, false⟩, ⟨[.sl (H.length + 2) 1 0 n.fl.length 3 false, .sl (H.length + 3) 1 0 n.cu.length 2 false], 0, 0, false⟩, ⟨mlF n.fl, 0, 1, true⟩, ⟨ctF n.cu, 0, 1, true⟩]
set_option maxHeartbeats 8000000 in
theorem fresh_spec (n : Nt) (hl : n.fl.length ≤ 1099511627776) (hc : n.cu.length ≤ 1099511627776) (hd : ∀ m ∈ n.fl, m.d.length ≤ 70368744177664) (H : List Box) :
    ASpec Try.prog 27 [.agg (ntC n)] H (fun o H' => o = .ret (freshV H n.fl.length n.cu.length) ∧ H' = freshH H n) := by
  have ho : ∀ x0 x1 : Box, ASpec Try.prog 28 [.lst 3 (mlG n.fl)] (H ++ [x0, x1, hole, hole]) (fun o H' => o = .ret (.sl (H.length + 2) 1 0 n.fl.length 3 false) ∧ H' = H ++ [x0, x1, ⟨mlF n.fl, 0, 1, true⟩, hole]) := fun x0 x1 => by
    have h := (own_spec n.fl hl hd (H ++ [x0, x1, hole, hole])).into (k := H.length + 2) (bk := hole) (app_at _ _ 2 rfl) (lt_mlF _)
    rw [List.set_append_right _ _ (by omega), Nat.add_sub_cancel_left] at h
    exact h
  have hk : ∀ x0 x1 x2 : Box, ASpec Try.prog 45 [.lst 2 (ctG n.cu)] (H ++ [x0, x1, x2, hole]) (fun o H' => o = .ret (.sl (H.length + 3) 1 0 n.cu.length 2 false) ∧ H' = H ++ [x0, x1, x2, ⟨ctF n.cu, 0, 1, true⟩]) := fun x0 x1 x2 => by
    have h := (cloneC_spec n.cu hc (H ++ [x0, x1, x2, hole])).into (k := H.length + 3) (bk := hole) (app_at _ _ 3 rfl) (lt_ctF _)
    rw [List.set_append_right _ _ (by omega), Nat.add_sub_cancel_left] at h
    exact h
  obtain ⟨fl, cu⟩ := n
  dsimp only at *
  refine ASpec.enter Try.func27 rfl (fun a w => Try.call27 a w) Try.ntmps27 Try.results27 fun base w β hI => ?_
  refine wk wT (wA ho (wA hk (wA holM_NetD_1 (wA DrM.mk wT)))) ?_
  refine wkEnd wT ?_
  exact ⟨_, _, Shed.refl _ _ _, rfl, rfl⟩

end Go.Proofs.Ytnoekcdmaaakfaa.VL
