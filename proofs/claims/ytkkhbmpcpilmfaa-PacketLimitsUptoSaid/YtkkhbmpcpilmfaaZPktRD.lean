/- Layer 17: whether rows of questions and of records are the same. -/
import Derived.Test.YtkkhbmpcpilmfaaZPktRA
import Derived.Test.YtkkhbmpcpilmfaaZCd
-- STEPWISE
-- WK
set_option linter.unusedVariables false
set_option linter.unusedSimpArgs false
set_option maxRecDepth 10000
namespace Go.Proofs.Ytkkhbmpcpilmfaa.VL
open Go Go.RowKit Go.Lib

set_option maxHeartbeats 4000000 in
theorem refSameQ_spec (a b : List Qn) (ha : a.length ≤ 9223372036854775807) (hb : b.length ≤ 9223372036854775807) (H : List Box) : ASpec Try.prog 13 [.lst 3 (qnG a), .lst 3 (qnG b)] H (Gives (vb (decide (a = b))) H) := by
  by_cases hl : a.length = b.length
  rotate_left
  · have hn : ¬ a = b := fun e => hl (by rw [e])
    have hl' : ¬ (a.length : Int) = (b.length : Int) := by omega
    rw [decide_eq_false hn]
    refine ASpec.enter Try.func13 rfl (fun a w => Try.call13 a w) Try.ntmps13 Try.results13 fun base w β hI => ?_
    refine wk (wA hl' wT) wT ?_
    refine wkEnd wT ?_
    exact Fin.same ⟨rfl, rfl⟩
  · have hl' : (a.length : Int) = (b.length : Int) := by omega
    have hl2 := eq_true hl'
    refine ASpec.enter Try.func13 rfl (fun a w => Try.call13 a w) Try.ntmps13 Try.results13 fun base w β hI => ?_
    refine wk (wA hl2 wT) wT ?_
    refine AWP.loop (ι := {i : Nat // i ≤ a.length ∧ a.take i = b.take i})
      (fun p => ⟨[(0, .lst 3 (qnG a)), (1, .lst 3 (qnG b)), (5, vi p.1)], H⟩) (fun p => a.length - p.1) ⟨0, Nat.zero_le _, by simp⟩ ?_ ?_
    · dsimp only
      exact Coe.kp
    · rintro ⟨i, hi, he⟩
      dsimp only
      by_cases hc : (i : Int) < (a.length : Int)
      · have hg : a[i]? = some a[i] := List.getElem?_eq_getElem (by omega)
        have hg2 : b[i]? = some b[i] := List.getElem?_eq_getElem (by omega)
        generalize a[i] = x at hg
        generalize b[i] = y at hg2
        have s1 := take_snoc hg
        have s2 := take_snoc hg2
        have hn : x ≠ y → ¬ a = b := fun hx e => hx (by rw [e, hg2] at hg; injection hg with hg; exact hg.symm)
        obtain ⟨xn, xt, xc⟩ := x
        obtain ⟨yn, yt, yc⟩ := y
        by_cases dn : xn = yn
        rotate_left
        · rw [decide_eq_false (hn fun e => dn (by injection e))]
          refine wk (wA hc (wA hg (wA hg2 (wA dn wT)))) wT ?_
          refine wkEnd wT ?_
          exact Fin.same ⟨rfl, rfl⟩
        subst dn
        by_cases dt : xt = yt
        rotate_left
        · rw [decide_eq_false (hn fun e => dt (by injection e))]
          refine wk (wA hc (wA hg (wA hg2 (wA dt wT)))) wT ?_
          refine wkEnd wT ?_
          exact Fin.same ⟨rfl, rfl⟩
        subst dt
        by_cases dc : xc = yc
        rotate_left
        · rw [decide_eq_false (hn fun e => dc (by injection e))]
          refine wk (wA hc (wA hg (wA hg2 (wA dc wT)))) wT ?_
          refine wkEnd wT ?_
          exact Fin.same ⟨rfl, rfl⟩
        subst dc
        refine wk (wA hc (wA hg (wA hg2 wT))) wT ?_
        refine ⟨⟨i + 1, by omega, by rw [s1, s2, he]⟩, ?_, by dsimp only; omega⟩
        dsimp only
        exact Coe.kp
      · rw [List.take_of_length_le (by omega), List.take_of_length_le (by omega)] at he
        rw [decide_eq_true he]
        refine wk (wA hc wT) wT ?_
        refine wkEnd wT ?_
        exact Fin.same ⟨rfl, rfl⟩

set_option maxHeartbeats 4000000 in
theorem refSameR_spec (a b : List Rr) (ha : a.length ≤ 9223372036854775807) (hb : b.length ≤ 9223372036854775807) (H : List Box) : ASpec Try.prog 53 [.lst 5 (rrG a), .lst 5 (rrG b)] H (Gives (vb (decide (a = b))) H) := by
  by_cases hl : a.length = b.length
  rotate_left
  · have hn : ¬ a = b := fun e => hl (by rw [e])
    have hl' : ¬ (a.length : Int) = (b.length : Int) := by omega
    rw [decide_eq_false hn]
    refine ASpec.enter Try.func53 rfl (fun a w => Try.call53 a w) Try.ntmps53 Try.results53 fun base w β hI => ?_
    refine wk (wA hl' wT) wT ?_
    refine wkEnd wT ?_
    exact Fin.same ⟨rfl, rfl⟩
  · have hl' : (a.length : Int) = (b.length : Int) := by omega
    have hl2 := eq_true hl'
    refine ASpec.enter Try.func53 rfl (fun a w => Try.call53 a w) Try.ntmps53 Try.results53 fun base w β hI => ?_
    refine wk (wA hl2 wT) wT ?_
    refine AWP.loop (ι := {i : Nat // i ≤ a.length ∧ a.take i = b.take i})
      (fun p => ⟨[(0, .lst 5 (rrG a)), (1, .lst 5 (rrG b)), (5, vi p.1)], H⟩) (fun p => a.length - p.1) ⟨0, Nat.zero_le _, by simp⟩ ?_ ?_
    · dsimp only
      exact Coe.kp
    · rintro ⟨i, hi, he⟩
      dsimp only
      by_cases hc : (i : Int) < (a.length : Int)
      · have hg : a[i]? = some a[i] := List.getElem?_eq_getElem (by omega)
        have hg2 : b[i]? = some b[i] := List.getElem?_eq_getElem (by omega)
        generalize a[i] = x at hg
        generalize b[i] = y at hg2
        have s1 := take_snoc hg
        have s2 := take_snoc hg2
        have hn : x ≠ y → ¬ a = b := fun hx e => hx (by rw [e, hg2] at hg; injection hg with hg; exact hg.symm)
        obtain ⟨xn, xt, xc, xl, xd⟩ := x
        obtain ⟨yn, yt, yc, yl, yd⟩ := y
        by_cases dn : xn = yn
        rotate_left
        · rw [decide_eq_false (hn fun e => dn (by injection e))]
          refine wk (wA hc (wA hg (wA hg2 (wA dn wT)))) wT ?_
          refine wkEnd wT ?_
          exact Fin.same ⟨rfl, rfl⟩
        subst dn
        by_cases dt : xt = yt
        rotate_left
        · rw [decide_eq_false (hn fun e => dt (by injection e))]
          refine wk (wA hc (wA hg (wA hg2 (wA dt wT)))) wT ?_
          refine wkEnd wT ?_
          exact Fin.same ⟨rfl, rfl⟩
        subst dt
        by_cases dc : xc = yc
        rotate_left
        · rw [decide_eq_false (hn fun e => dc (by injection e))]
          refine wk (wA hc (wA hg (wA hg2 (wA dc wT)))) wT ?_
          refine wkEnd wT ?_
          exact Fin.same ⟨rfl, rfl⟩
        subst dc
        by_cases dl : xl = yl
        rotate_left
        · rw [decide_eq_false (hn fun e => dl (by injection e))]
          refine wk (wA hc (wA hg (wA hg2 (wA dl wT)))) wT ?_
          refine wkEnd wT ?_
          exact Fin.same ⟨rfl, rfl⟩
        subst dl
        by_cases dd : xd = yd
        rotate_left
        · rw [decide_eq_false (hn fun e => dd (by injection e))]
          refine wk (wA hc (wA hg (wA hg2 (wA dd wT)))) wT ?_
          refine wkEnd wT ?_
          exact Fin.same ⟨rfl, rfl⟩
        subst dd
        refine wk (wA hc (wA hg (wA hg2 wT))) wT ?_
        refine ⟨⟨i + 1, by omega, by rw [s1, s2, he]⟩, ?_, by dsimp only; omega⟩
        dsimp only
        exact Coe.kp
      · rw [List.take_of_length_le (by omega), List.take_of_length_le (by omega)] at he
        rw [decide_eq_true he]
        refine wk (wA hc wT) wT ?_
        refine wkEnd wT ?_
        exact Fin.same ⟨rfl, rfl⟩

set_option maxHeartbeats 4000000 in
theorem eqQ_spec (a b : List Qn) (ha : a.length ≤ 9223372036854775807) (hb : b.length ≤ 9223372036854775807) (H : List Box) : ASpec Try.prog 51 [.lst 3 (qnG a), .lst 3 (qnG b)] H (Gives (vb (decide (a = b))) H) := by
  by_cases hl : a.length = b.length
  rotate_left
  · have hn : ¬ a = b := fun e => hl (by rw [e])
    have hl' : ¬ (a.length : Int) = (b.length : Int) := by omega
    rw [decide_eq_false hn]
    refine ASpec.enter Try.func51 rfl (fun a w => Try.call51 a w) Try.ntmps51 Try.results51 fun base w β hI => ?_
    refine wk (wA hl' wT) wT ?_
    refine wkEnd wT ?_
    exact Fin.same ⟨rfl, rfl⟩
  · have hl' : (a.length : Int) = (b.length : Int) := by omega
    have hl2 := eq_true hl'
    refine ASpec.enter Try.func51 rfl (fun a w => Try.call51 a w) Try.ntmps51 Try.results51 fun base w β hI => ?_
    refine wk (wA hl2 wT) wT ?_
    refine AWP.loop (ι := {i : Nat // i ≤ a.length ∧ a.take i = b.take i})
      (fun p => ⟨[(0, .lst 3 (qnG a)), (1, .lst 3 (qnG b)), (12, vi a.length), (13, vi p.1)], H⟩) (fun p => a.length - p.1) ⟨0, Nat.zero_le _, by simp⟩ ?_ ?_
    · dsimp only
      exact Coe.kp
    · rintro ⟨i, hi, he⟩
      dsimp only
      by_cases hc : (i : Int) < (a.length : Int)
      · have hg : a[i]? = some a[i] := List.getElem?_eq_getElem (by omega)
        have hg2 : b[i]? = some b[i] := List.getElem?_eq_getElem (by omega)
        generalize a[i] = x at hg
        generalize b[i] = y at hg2
        have s1 := take_snoc hg
        have s2 := take_snoc hg2
        have hn : x ≠ y → ¬ a = b := fun hx e => hx (by rw [e, hg2] at hg; injection hg with hg; exact hg.symm)
        obtain ⟨xn, xt, xc⟩ := x
        obtain ⟨yn, yt, yc⟩ := y
        by_cases dn : xn = yn
        rotate_left
        · rw [decide_eq_false (hn fun e => dn (by injection e))]
          refine wk (wA hc (wA hg (wA hg2 (wA dn wT)))) wT ?_
          refine wkEnd wT ?_
          exact Fin.same ⟨rfl, rfl⟩
        subst dn
        by_cases dt : xt = yt
        rotate_left
        · rw [decide_eq_false (hn fun e => dt (by injection e))]
          refine wk (wA hc (wA hg (wA hg2 (wA dt wT)))) wT ?_
          refine wkEnd wT ?_
          exact Fin.same ⟨rfl, rfl⟩
        subst dt
        by_cases dc : xc = yc
        rotate_left
        · rw [decide_eq_false (hn fun e => dc (by injection e))]
          refine wk (wA hc (wA hg (wA hg2 (wA dc wT)))) wT ?_
          refine wkEnd wT ?_
          exact Fin.same ⟨rfl, rfl⟩
        subst dc
        refine wk (wA hc (wA hg (wA hg2 wT))) wT ?_
        refine ⟨⟨i + 1, by omega, by rw [s1, s2, he]⟩, ?_, by dsimp only; omega⟩
        dsimp only
        exact Coe.kp
      · rw [List.take_of_length_le (by omega), List.take_of_length_le (by omega)] at he
        rw [decide_eq_true he]
        refine wk (wA hc wT) wT ?_
        refine wkEnd wT ?_
        exact Fin.same ⟨rfl, rfl⟩

set_option maxHeartbeats 4000000 in
theorem eqR_spec (a b : List Rr) (ha : a.length ≤ 9223372036854775807) (hb : b.length ≤ 9223372036854775807) (H : List Box) : ASpec Try.prog 52 [.lst 5 (rrG a), .lst 5 (rrG b)] H (Gives (vb (decide (a = b))) H) := by
  by_cases hl : a.length = b.length
  rotate_left
  · have hn : ¬ a = b := fun e => hl (by rw [e])
    have hl' : ¬ (a.length : Int) = (b.length : Int) := by omega
    rw [decide_eq_false hn]
    refine ASpec.enter Try.func52 rfl (fun a w => Try.call52 a w) Try.ntmps52 Try.results52 fun base w β hI => ?_
    refine wk (wA hl' wT) wT ?_
    refine wkEnd wT ?_
    exact Fin.same ⟨rfl, rfl⟩
  · have hl' : (a.length : Int) = (b.length : Int) := by omega
    have hl2 := eq_true hl'
    refine ASpec.enter Try.func52 rfl (fun a w => Try.call52 a w) Try.ntmps52 Try.results52 fun base w β hI => ?_
    refine wk (wA hl2 wT) wT ?_
    refine AWP.loop (ι := {i : Nat // i ≤ a.length ∧ a.take i = b.take i})
      (fun p => ⟨[(0, .lst 5 (rrG a)), (1, .lst 5 (rrG b)), (12, vi a.length), (13, vi p.1)], H⟩) (fun p => a.length - p.1) ⟨0, Nat.zero_le _, by simp⟩ ?_ ?_
    · dsimp only
      exact Coe.kp
    · rintro ⟨i, hi, he⟩
      dsimp only
      by_cases hc : (i : Int) < (a.length : Int)
      · have hg : a[i]? = some a[i] := List.getElem?_eq_getElem (by omega)
        have hg2 : b[i]? = some b[i] := List.getElem?_eq_getElem (by omega)
        generalize a[i] = x at hg
        generalize b[i] = y at hg2
        have s1 := take_snoc hg
        have s2 := take_snoc hg2
        have hn : x ≠ y → ¬ a = b := fun hx e => hx (by rw [e, hg2] at hg; injection hg with hg; exact hg.symm)
        obtain ⟨xn, xt, xc, xl, xd⟩ := x
        obtain ⟨yn, yt, yc, yl, yd⟩ := y
        by_cases dn : xn = yn
        rotate_left
        · rw [decide_eq_false (hn fun e => dn (by injection e))]
          refine wk (wA hc (wA hg (wA hg2 (wA dn wT)))) wT ?_
          refine wkEnd wT ?_
          exact Fin.same ⟨rfl, rfl⟩
        subst dn
        by_cases dt : xt = yt
        rotate_left
        · rw [decide_eq_false (hn fun e => dt (by injection e))]
          refine wk (wA hc (wA hg (wA hg2 (wA dt wT)))) wT ?_
          refine wkEnd wT ?_
          exact Fin.same ⟨rfl, rfl⟩
        subst dt
        by_cases dc : xc = yc
        rotate_left
        · rw [decide_eq_false (hn fun e => dc (by injection e))]
          refine wk (wA hc (wA hg (wA hg2 (wA dc wT)))) wT ?_
          refine wkEnd wT ?_
          exact Fin.same ⟨rfl, rfl⟩
        subst dc
        by_cases dl : xl = yl
        rotate_left
        · rw [decide_eq_false (hn fun e => dl (by injection e))]
          refine wk (wA hc (wA hg (wA hg2 (wA dl wT)))) wT ?_
          refine wkEnd wT ?_
          exact Fin.same ⟨rfl, rfl⟩
        subst dl
        by_cases dd : xd = yd
        rotate_left
        · rw [decide_eq_false (hn fun e => dd (by injection e))]
          refine wk (wA hc (wA hg (wA hg2 (wA dd wT)))) wT ?_
          refine wkEnd wT ?_
          exact Fin.same ⟨rfl, rfl⟩
        subst dd
        refine wk (wA hc (wA hg (wA hg2 wT))) wT ?_
        refine ⟨⟨i + 1, by omega, by rw [s1, s2, he]⟩, ?_, by dsimp only; omega⟩
        dsimp only
        exact Coe.kp
      · rw [List.take_of_length_le (by omega), List.take_of_length_le (by omega)] at he
        rw [decide_eq_true he]
        refine wk (wA hc wT) wT ?_
        refine wkEnd wT ?_
        exact Fin.same ⟨rfl, rfl⟩

end Go.Proofs.Ytkkhbmpcpilmfaa.VL
