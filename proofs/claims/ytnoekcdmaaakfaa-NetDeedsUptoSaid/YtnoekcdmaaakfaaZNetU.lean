/- Layer 25: the document's functions: one's own mail; whether a way is cut; whether a net may be; what is asked of a place. -/
import Derived.Test.YtnoekcdmaaakfaaZNetP
-- STEPWISE
-- WK
set_option linter.unusedVariables false
set_option linter.unusedSimpArgs false
set_option maxRecDepth 10000
namespace Go.Proofs.Ytnoekcdmaaakfaa.VL
open Go Go.RowKit Go.Lib

theorem rep_mlD {w : World} {H : List Box} {β : Pl} {v : Value} {f t c c' : AV} (hc : ∀ x, Rep w H β c x → Rep w H β c' x) (h : Rep w H β (.agg [f, t, c]) v) : Rep w H β (.agg [f, t, c']) v := by
  cases h with
  | agg _ vs hl h =>
    refine .agg _ _ (by simpa using hl) fun i x y hx hy => ?_
    rcases i with _ | _ | _ | i
    · simp at hx; subst hx; exact h 0 _ y rfl hy
    · simp at hx; subst hx; exact h 1 _ y rfl hy
    · simp at hx; subst hx; exact hc y (h 2 _ y rfl hy)
    · simp at hx
theorem refOwn_spec (m : Ml) (hd : m.d.length ≤ 70368744177664) (H : List Box) : ASpec Try.prog 30 [mlV m] H (Gives (mlV m) H) := by
  obtain ⟨f, t, d⟩ := m
  dsimp only at hd
  refine ASpec.enter Try.func30 rfl (fun a w => Try.call30 a w) Try.ntmps30 Try.results30 fun base w β hI => ?_
  refine wk wT (wA DrM.mk wT) ?_
  refine wkEnd wT ?_
  exact Fin.frozG (app_at _ _ 2 rfl) (by omega) rfl (by dsimp only; rw [bytesC_length]; omega) (chunk_bytesC d _ rfl) (fun w H β v hx hr => rep_mlD hx hr) (lt_mlv ⟨f, t, d⟩) ⟨rfl, rfl⟩

theorem refBlocked_spec (n : Nt) (a b : Int) (hc : n.cu.length ≤ 9223372036854775807) (H : List Box) : ASpec Try.prog 34 [ntV n, vi a, vi b] H (Gives (vb (blk n a b)) H) := by
  have e1 : (if b < a then b else a) = min a b := by split <;> omega
  have e2 : (if a < b then b else a) = max a b := by split <;> omega
  unfold blk
  obtain ⟨fl, cu⟩ := n
  dsimp only at *
  have hcd : cutC a b = ⟨min a b, max a b⟩ := rfl
  generalize min a b = lo at *
  generalize max a b = hi' at *
  rw [hcd]
  refine ASpec.enter Try.func34 rfl (fun a w => Try.call34 a w) Try.ntmps34 Try.results34 fun base w β hI => ?_
  refine wk wT (wA DrM.mk wT) ?_
  refine AWP.loop (ι := {i : Nat // i ≤ cu.length ∧ (cu.any fun c => decide ((⟨lo, hi'⟩ : Ct) = c)) = ((cu.drop i).any fun c => decide ((⟨lo, hi'⟩ : Ct) = c))})
    (fun p => ⟨[(1, vi a), (2, vi b), (3, .ptr H.length 0 0), (7, vi p.1)], H ++ [⟨ntC ⟨fl, cu⟩, 0, 0, false⟩]⟩) (fun p => cu.length - p.1) ⟨0, Nat.zero_le _, rfl⟩ ?_ ?_
  · dsimp only
    exact Coe.kp
  · rintro ⟨i, hi, he⟩
    dsimp only
    by_cases hc : (i : Int) < (cu.length : Int)
    · have hg : cu[i]? = some cu[i] := List.getElem?_eq_getElem (by omega)
      generalize cu[i] = q at hg
      rw [drop_get' hg, List.any_cons] at he
      obtain ⟨x, y⟩ := q
      by_cases h1 : x = lo
      · by_cases h2 : y = hi'
        · subst h1
          subst h2
          rw [decide_eq_true rfl, Bool.true_or] at he
          rw [he]
          refine wk (wA hc (wA hg (wA e1 (wA e2 wT)))) (wA DrM.mk wT) ?_
          refine wkEnd wT ?_
          exact Fin.cut (.v _) ⟨rfl, rfl⟩
        · rw [decide_eq_false (fun e => h2 (by injection e with e3 e4; exact e4.symm)), Bool.false_or] at he
          subst h1
          refine wk (wA hc (wA hg (wA e1 (wA e2 (wA h2 wT))))) (wA DrM.mk wT) ?_
          refine ⟨⟨i + 1, by omega, he⟩, ?_, by dsimp only; omega⟩
          dsimp only
          exact Coe.kp
      · rw [decide_eq_false (fun e => h1 (by injection e with e3 e4; exact e3.symm)), Bool.false_or] at he
        refine wk (wA hc (wA hg (wA e1 (wA e2 (wA h1 wT))))) (wA DrM.mk wT) ?_
        refine ⟨⟨i + 1, by omega, he⟩, ?_, by dsimp only; omega⟩
        dsimp only
        exact Coe.kp
    · rw [List.drop_of_length_le (by omega)] at he
      rw [he]
      refine wk (wA hc wT) (wA DrM.mk wT) ?_
      refine wkEnd wT ?_
      exact Fin.cut (.v _) ⟨rfl, rfl⟩

end Go.Proofs.Ytnoekcdmaaakfaa.VL
