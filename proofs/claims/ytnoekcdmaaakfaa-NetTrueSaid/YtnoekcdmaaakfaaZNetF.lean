/- Layer 25: whether a way is cut. -/
import Derived.Test.YtnoekcdmaaakfaaZNetE
-- STEPWISE
-- WK
set_option linter.unusedVariables false
set_option linter.unusedSimpArgs false
set_option maxRecDepth 10000
namespace Go.Proofs.Ytnoekcdmaaakfaa.VL
open Go Go.RowKit Go.Lib

theorem cut_spec25 (a b : Int) (H : List Box) : ASpec Try.prog 37 [vi a, vi b] H (Gives (.agg (ctC (cutC a b))) H) := by
  have e1 : (if b < a then b else a) = min a b := by split <;> omega
  have e2 : (if a < b then b else a) = max a b := by split <;> omega
  refine ASpec.enter Try.func37 rfl (fun a w => Try.call37 a w) Try.ntmps37 Try.results37 fun base w β hI => ?_
  refine wk (wA e1 (wA e2 wT)) (wA DrM.mk wT) ?_
  refine wkEnd wT ?_
  exact Fin.cut (.cons_agg (.v _) (.cons_agg (.v _) .nil_agg)) ⟨rfl, rfl⟩

theorem ixCut_spec (l : List Ct) (v : Ct) (hl : l.length ≤ 9223372036854775807) (H : List Box) :
    ASpec Try.prog 50 [.lst 2 (ctG l), .agg (ctC v)] H (Gives (vi (fstIx (fun c => decide (v = c)) l 0)) H) := by
  obtain ⟨va, vb'⟩ := v
  refine ASpec.enter Try.func50 rfl (fun a w => Try.call50 a w) Try.ntmps50 Try.results50 fun base w β hI => ?_
  refine wk wT (wA DrM.mk wT) ?_
  refine AWP.loop (ι := {i : Nat // i ≤ l.length ∧ fstIx (fun c => decide ((⟨va, vb'⟩ : Ct) = c)) l 0 = fstIx (fun c => decide ((⟨va, vb'⟩ : Ct) = c)) (l.drop i) i})
    (fun p => ⟨[(0, .lst 2 (ctG l)), (3, .ptr H.length 0 0), (7, vi l.length), (8, vi p.1)], H ++ [⟨ctC ⟨va, vb'⟩, 0, 0, false⟩]⟩) (fun p => l.length - p.1) ⟨0, Nat.zero_le _, by simp⟩ ?_ ?_
  · dsimp only
    exact Coe.kp
  · rintro ⟨i, hi, he⟩
    dsimp only
    by_cases hc : (i : Int) < (l.length : Int)
    · have hg : l[i]? = some l[i] := List.getElem?_eq_getElem (by omega)
      generalize l[i] = q at hg
      rw [fstIx_drop _ hg] at he
      obtain ⟨a, b⟩ := q
      by_cases h1 : va = a
      · by_cases h2 : vb' = b
        · subst h1
          subst h2
          rw [decide_eq_true rfl, if_pos rfl] at he
          rw [he]
          refine wk (wA hc (wA hg wT)) (wA DrM.mk wT) ?_
          refine wkEnd wT ?_
          exact Fin.cut (.v _) ⟨rfl, rfl⟩
        · rw [decide_eq_false (fun e => h2 (by injection e)), if_neg (by simp)] at he
          subst h1
          refine wk (wA hc (wA hg (wA h2 wT))) (wA DrM.mk wT) ?_
          refine ⟨⟨i + 1, by omega, he⟩, ?_, by dsimp only; omega⟩
          dsimp only
          exact Coe.kp
      · rw [decide_eq_false (fun e => h1 (by injection e)), if_neg (by simp)] at he
        refine wk (wA hc (wA hg (wA h1 wT))) (wA DrM.mk wT) ?_
        refine ⟨⟨i + 1, by omega, he⟩, ?_, by dsimp only; omega⟩
        dsimp only
        exact Coe.kp
    · rw [List.drop_of_length_le (by omega)] at he
      rw [he]
      refine wk (wA hc wT) (wA DrM.mk wT) ?_
      refine wkEnd wT ?_
      exact Fin.cut (.v _) ⟨rfl, rfl⟩
theorem hasCut_spec (l : List Ct) (v : Ct) (hl : l.length ≤ 9223372036854775807) (H : List Box) :
    ASpec Try.prog 36 [.lst 2 (ctG l), .agg (ctC v)] H (Gives (vb (l.any fun c => decide (v = c))) H) := by
  have hi := fun H => ixCut_spec l v hl H
  rw [← fstIx_any (fun c => decide (v = c)) l 0]
  generalize fstIx (fun c => decide (v = c)) l 0 = z at *
  obtain ⟨va, vb'⟩ := v
  refine ASpec.enter Try.func36 rfl (fun a w => Try.call36 a w) Try.ntmps36 Try.results36 fun base w β hI => ?_
  refine wk wT (wA hi (wA DrM.mk wT)) ?_
  refine wkEnd wT ?_
  exact Fin.cut (.v _) ⟨rfl, rfl⟩
theorem blocked_spec (n : Nt) (a b : Int) (hc : n.cu.length ≤ 9223372036854775807) (H : List Box) : ASpec Try.prog 20 [.agg (ntC n), vi a, vi b] H (Gives (vb (blk n a b)) H) := by
  have h1 := fun H => cut_spec25 a b H
  have h2 := fun H => hasCut_spec n.cu (cutC a b) hc H
  unfold blk
  obtain ⟨fl, cu⟩ := n
  dsimp only at *
  generalize (cu.any fun c => decide (cutC a b = c)) = z at *
  generalize cutC a b = v at *
  obtain ⟨va, vb'⟩ := v
  refine ASpec.enter Try.func20 rfl (fun a w => Try.call20 a w) Try.ntmps20 Try.results20 fun base w β hI => ?_
  refine wk wT (wA h1 (wA h2 (wA DrM.mk wT))) ?_
  refine wkEnd wT ?_
  exact Fin.cut (.v _) ⟨rfl, rfl⟩

end Go.Proofs.Ytnoekcdmaaakfaa.VL
