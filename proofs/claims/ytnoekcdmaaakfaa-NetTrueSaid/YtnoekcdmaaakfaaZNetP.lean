/- Layer 25: whether mails are the same; whether a net is great. -/
import Derived.Test.YtnoekcdmaaakfaaZNetO
-- STEPWISE
-- WK
set_option linter.unusedVariables false
set_option linter.unusedSimpArgs false
set_option maxRecDepth 10000
namespace Go.Proofs.Ytnoekcdmaaakfaa.VL
open Go Go.RowKit Go.Lib

theorem ml_ne {a b : Ml} (h : a.f ≠ b.f ∨ a.t ≠ b.t ∨ a.d ≠ b.d) : ¬ a = b := fun e => by subst e; simp at h
theorem sameMail_spec (a b : Ml) (H : List Box) : ASpec Try.prog 11 [mlV a, mlV b] H (Gives (vb (decide (a = b))) H) := by
  obtain ⟨f, t, d⟩ := a
  obtain ⟨f', t', d'⟩ := b
  by_cases h1 : f = f'
  rotate_left
  · rw [decide_eq_false (ml_ne (.inl h1))]
    refine ASpec.enter Try.func11 rfl (fun a w => Try.call11 a w) Try.ntmps11 Try.results11 fun base w β hI => ?_
    refine wk (wA h1 wT) (wA DrM.mk wT) ?_
    refine wkEnd wT ?_
    exact Fin.cut (.v _) ⟨rfl, rfl⟩
  subst h1
  by_cases h2 : t = t'
  rotate_left
  · rw [decide_eq_false (ml_ne (.inr (.inl h2)))]
    refine ASpec.enter Try.func11 rfl (fun a w => Try.call11 a w) Try.ntmps11 Try.results11 fun base w β hI => ?_
    refine wk (wA h2 wT) (wA DrM.mk wT) ?_
    refine wkEnd wT ?_
    exact Fin.cut (.v _) ⟨rfl, rfl⟩
  subst h2
  by_cases h3 : d = d'
  rotate_left
  · rw [decide_eq_false (ml_ne (.inr (.inr h3)))]
    refine ASpec.enter Try.func11 rfl (fun a w => Try.call11 a w) Try.ntmps11 Try.results11 fun base w β hI => ?_
    refine wk (wA h3 wT) (wA DrM.mk wT) ?_
    refine wkEnd wT ?_
    exact Fin.cut (.v _) ⟨rfl, rfl⟩
  subst h3
  rw [decide_eq_true rfl]
  refine ASpec.enter Try.func11 rfl (fun a w => Try.call11 a w) Try.ntmps11 Try.results11 fun base w β hI => ?_
  refine wk wT (wA DrM.mk wT) ?_
  refine wkEnd wT ?_
  exact Fin.cut (.v _) ⟨rfl, rfl⟩

/-- How much is looked at of mails. -/
def grK : Int → List Ml → Int
  | k, [] => k
  | k, m :: l => if k ≤ 5000 then grK (IntKind.i64.wrap (k + m.d.length)) l else k
def grN (n : Nt) : Bool := decide (5000 < grK (IntKind.i64.wrap (n.fl.length + n.cu.length)) n.fl)
set_option maxHeartbeats 4000000 in
theorem great25_spec (n : Nt) (hl : n.fl.length ≤ 9223372036854775807) (H : List Box) : ASpec Try.prog 24 [ntV n] H (Gives (vb (grN n)) H) := by
  unfold grN
  obtain ⟨fl, cu⟩ := n
  dsimp only at *
  generalize hk : IntKind.i64.wrap ((fl.length : Int) + (cu.length : Int)) = k0
  refine ASpec.enter Try.func24 rfl (fun a w => Try.call24 a w) Try.ntmps24 Try.results24 fun base w β hI => ?_
  refine wk (wA hk wT) (wA DrM.mk wT) ?_
  refine AWP.loop (ι := {s : Nat × Int // s.1 ≤ fl.length ∧ grK k0 fl = grK s.2 (fl.drop s.1)}) (fun s => ⟨[(1, .ptr H.length 0 0), (3, vi s.1.2), (4, vi s.1.1)], H ++ [⟨ntC ⟨fl, cu⟩, 0, 0, false⟩]⟩) (fun s => fl.length - s.1.1) ⟨(0, k0), Nat.zero_le _, rfl⟩ ?_ ?_
  · dsimp only
    exact Coe.kp
  · rintro ⟨⟨i, k⟩, hi, he⟩
    dsimp only at hi he ⊢
    by_cases hc : (i : Int) < (fl.length : Int)
    · have hg : fl[i]? = some fl[i] := List.getElem?_eq_getElem (by omega)
      generalize fl[i] = m at hg
      rw [drop_get' hg, grK] at he
      obtain ⟨f, t, d⟩ := m
      dsimp only at he
      by_cases h5 : k ≤ 5000
      · rw [if_pos h5] at he
        generalize hw : IntKind.i64.wrap (k + (d.length : Int)) = k' at he
        refine wk (wA hc (wA hg (wA h5 (wA hw wT)))) (wA DrM.mk wT) ?_
        refine ⟨⟨(i + 1, k'), by dsimp only; omega, he⟩, ?_, by dsimp only; omega⟩
        dsimp only
        exact Coe.kp
      · rw [if_neg h5] at he
        rw [he]
        refine wk (wA hc (wA h5 wT)) (wA DrM.mk wT) ?_
        refine wkEnd wT ?_
        exact Fin.cut (.v _) ⟨rfl, rfl⟩
    · rw [List.drop_of_length_le (by omega), grK] at he
      rw [he]
      refine wk (wA hc wT) (wA DrM.mk wT) ?_
      refine wkEnd wT ?_
      exact Fin.cut (.v _) ⟨rfl, rfl⟩
theorem rep_ntE {w : World} {H : List Box} {β : Pl} {v : Value} {l : List Ml} (h : Rep w H β (.agg [.lst 3 (mlG l), .emp]) v) : Rep w H β (ntV ⟨l, []⟩) v := by
  cases h with
  | agg _ vs hl h =>
    refine .agg _ _ hl fun i c x hc hx => ?_
    rcases i with _ | _ | i
    · simp at hc; subst hc
      exact h 0 _ x rfl hx
    · simp at hc; subst hc
      have := h 1 _ x rfl hx
      cases this with
      | emp a => exact .lst0 _ _ _
    · simp at hc
theorem greatLaw_spec (n : Nt) (l : List Ml) (hn : n.fl.length ≤ 9223372036854775807) (hl : l.length ≤ 9223372036854775807) (H : List Box) :
    ASpec Try.prog 8 [ntV n, .lst 3 (mlG l)] H (Gives (vb (grN n || grN ⟨l, []⟩)) H) := by
  have h1 := fun H => great25_spec n hn H
  have h2 := fun H => great25_spec ⟨l, []⟩ hl H
  have h2' : ∀ H, ASpec Try.prog 24 [.agg [.lst 3 (mlG l), .emp]] H (Gives (vb (grN ⟨l, []⟩)) H) := fun H => ASpec.weakA (fun w β x hx => rep_ntE hx) (h2 H)
  generalize grN n = x at *
  generalize grN ⟨l, []⟩ = y at *
  obtain ⟨fl, cu⟩ := n
  cases x with
  | true =>
    refine ASpec.enter Try.func8 rfl (fun a w => Try.call8 a w) Try.ntmps8 Try.results8 fun base w β hI => ?_
    refine wk wT (wA h1 (wA DrM.mk wT)) ?_
    refine wkEnd wT ?_
    exact Fin.cut (.v _) ⟨rfl, rfl⟩
  | false =>
    refine ASpec.enter Try.func8 rfl (fun a w => Try.call8 a w) Try.ntmps8 Try.results8 fun base w β hI => ?_
    refine wk wT (wA h1 (wA h2' (wA DrM.mk wT))) ?_
    refine wkEnd wT ?_
    exact Fin.cut (.v _) ⟨rfl, rfl⟩

end Go.Proofs.Ytnoekcdmaaakfaa.VL
