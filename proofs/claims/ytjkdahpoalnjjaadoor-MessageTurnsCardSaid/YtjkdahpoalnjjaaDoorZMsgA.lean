/- Layers 4, 7: rows of entries and of digests compared. -/
import Derived.Test.YtjkdahpoalnjjaaDoorZEa
import Derived.Test.YtjkdahpoalnjjaaDoorZCd
-- STEPWISE
-- WK
set_option linter.unusedVariables false
set_option linter.unusedSimpArgs false
set_option maxRecDepth 10000
namespace Go.Proofs.YtjkdahpoalnjjaaDoor.VL
open Go Go.RowKit Go.Lib

set_option maxHeartbeats 4000000 in
theorem dgSame_spec (a b : List Dg) (ha : a.length ≤ 9223372036854775807) (hb : b.length ≤ 9223372036854775807) (H : List Box) : ASpec Tryd.prog 72 [.lst 3 (dgG a), .lst 3 (dgG b)] H (Gives (vb (decide (a = b))) H) := by
  by_cases hl : a.length = b.length
  rotate_left
  · have hn : ¬ a = b := fun e => hl (by rw [e])
    have hl' : ¬ (a.length : Int) = (b.length : Int) := by omega
    rw [decide_eq_false hn]
    refine ASpec.enter Tryd.func72 rfl (fun a w => Tryd.call72 a w) Tryd.ntmps72 Tryd.results72 fun base w β hI => ?_
    refine wk (wA hl' wT) (wA DrM.mk wT) ?_
    refine wkEnd wT ?_
    exact Fin.same ⟨rfl, rfl⟩
  · have hl' : (a.length : Int) = (b.length : Int) := by omega
    have hl2 := eq_true hl'
    refine ASpec.enter Tryd.func72 rfl (fun a w => Tryd.call72 a w) Tryd.ntmps72 Tryd.results72 fun base w β hI => ?_
    refine wk (wA hl2 wT) (wA DrM.mk wT) ?_
    refine AWP.loop (ι := {i : Nat // i ≤ a.length ∧ a.take i = b.take i})
      (fun p => ⟨[(0, .lst 3 (dgG a)), (1, .lst 3 (dgG b)), (12, vi a.length), (13, vi p.1)], H⟩) (fun p => a.length - p.1) ⟨0, Nat.zero_le _, by simp⟩ ?_ ?_
    · dsimp only
      exact Coe.kp
    · rintro ⟨i, hi, he⟩
      dsimp only
      by_cases hc : (i : Int) < (a.length : Int)
      · have hg : a[i]? = some a[i] := List.getElem?_eq_getElem (by omega)
        have hg2 : b[i]? = some b[i] := List.getElem?_eq_getElem (by omega)
        generalize a[i] = x at hg
        generalize b[i] = y at hg2
        have s1 := take_snoc hg
        have s2 := take_snoc hg2
        have hn : x ≠ y → ¬ a = b := fun hx e => hx (by rw [e, hg2] at hg; injection hg with hg; exact hg.symm)
        obtain ⟨xn, xg, xv⟩ := x
        obtain ⟨yn, yg, yv⟩ := y
        by_cases dn : xn = yn
        rotate_left
        · rw [decide_eq_false (hn fun e => dn (by injection e))]
          refine wk (wA hc (wA hg (wA hg2 (wA dn wT)))) (wA DrM.mk wT) ?_
          refine wkEnd wT ?_
          exact Fin.same ⟨rfl, rfl⟩
        subst dn
        by_cases dg : xg = yg
        rotate_left
        · rw [decide_eq_false (hn fun e => dg (by injection e))]
          refine wk (wA hc (wA hg (wA hg2 (wA dg wT)))) (wA DrM.mk wT) ?_
          refine wkEnd wT ?_
          exact Fin.same ⟨rfl, rfl⟩
        subst dg
        by_cases dv : xv = yv
        rotate_left
        · rw [decide_eq_false (hn fun e => dv (by injection e))]
          refine wk (wA hc (wA hg (wA hg2 (wA dv wT)))) (wA DrM.mk wT) ?_
          refine wkEnd wT ?_
          exact Fin.same ⟨rfl, rfl⟩
        subst dv
        refine wk (wA hc (wA hg (wA hg2 wT))) (wA DrM.mk wT) ?_
        refine ⟨⟨i + 1, by omega, by rw [s1, s2, he]⟩, ?_, by dsimp only; omega⟩
        dsimp only
        exact Coe.kp
      · rw [List.take_of_length_le (by omega), List.take_of_length_le (by omega)] at he
        rw [decide_eq_true he]
        refine wk (wA hc wT) (wA DrM.mk wT) ?_
        refine wkEnd wT ?_
        exact Fin.same ⟨rfl, rfl⟩
set_option maxHeartbeats 4000000 in
theorem refDgSame_spec (a b : List Dg) (ha : a.length ≤ 9223372036854775807) (hb : b.length ≤ 9223372036854775807) (H : List Box) : ASpec Tryd.prog 33 [.lst 3 (dgG a), .lst 3 (dgG b)] H (Gives (vb (decide (a = b))) H) := by
  by_cases hl : a.length = b.length
  rotate_left
  · have hn : ¬ a = b := fun e => hl (by rw [e])
    have hl' : ¬ (a.length : Int) = (b.length : Int) := by omega
    rw [decide_eq_false hn]
    refine ASpec.enter Tryd.func33 rfl (fun a w => Tryd.call33 a w) Tryd.ntmps33 Tryd.results33 fun base w β hI => ?_
    refine wk (wA hl' wT) (wA DrM.mk wT) ?_
    refine wkEnd wT ?_
    exact Fin.same ⟨rfl, rfl⟩
  · have hl' : (a.length : Int) = (b.length : Int) := by omega
    have hl2 := eq_true hl'
    refine ASpec.enter Tryd.func33 rfl (fun a w => Tryd.call33 a w) Tryd.ntmps33 Tryd.results33 fun base w β hI => ?_
    refine wk (wA hl2 wT) (wA DrM.mk wT) ?_
    refine AWP.loop (ι := {i : Nat // i ≤ a.length ∧ a.take i = b.take i})
      (fun p => ⟨[(0, .lst 3 (dgG a)), (1, .lst 3 (dgG b)), (5, vi p.1)], H⟩) (fun p => a.length - p.1) ⟨0, Nat.zero_le _, by simp⟩ ?_ ?_
    · dsimp only
      exact Coe.kp
    · rintro ⟨i, hi, he⟩
      dsimp only
      by_cases hc : (i : Int) < (a.length : Int)
      · have hg : a[i]? = some a[i] := List.getElem?_eq_getElem (by omega)
        have hg2 : b[i]? = some b[i] := List.getElem?_eq_getElem (by omega)
        generalize a[i] = x at hg
        generalize b[i] = y at hg2
        have s1 := take_snoc hg
        have s2 := take_snoc hg2
        have hn : x ≠ y → ¬ a = b := fun hx e => hx (by rw [e, hg2] at hg; injection hg with hg; exact hg.symm)
        obtain ⟨xn, xg, xv⟩ := x
        obtain ⟨yn, yg, yv⟩ := y
        by_cases dn : xn = yn
        rotate_left
        · rw [decide_eq_false (hn fun e => dn (by injection e))]
          refine wk (wA hc (wA hg (wA hg2 (wA dn wT)))) (wA DrM.mk wT) ?_
          refine wkEnd wT ?_
          exact Fin.same ⟨rfl, rfl⟩
        subst dn
        by_cases dg : xg = yg
        rotate_left
        · rw [decide_eq_false (hn fun e => dg (by injection e))]
          refine wk (wA hc (wA hg (wA hg2 (wA dg wT)))) (wA DrM.mk wT) ?_
          refine wkEnd wT ?_
          exact Fin.same ⟨rfl, rfl⟩
        subst dg
        by_cases dv : xv = yv
        rotate_left
        · rw [decide_eq_false (hn fun e => dv (by injection e))]
          refine wk (wA hc (wA hg (wA hg2 (wA dv wT)))) (wA DrM.mk wT) ?_
          refine wkEnd wT ?_
          exact Fin.same ⟨rfl, rfl⟩
        subst dv
        refine wk (wA hc (wA hg (wA hg2 wT))) (wA DrM.mk wT) ?_
        refine ⟨⟨i + 1, by omega, by rw [s1, s2, he]⟩, ?_, by dsimp only; omega⟩
        dsimp only
        exact Coe.kp
      · rw [List.take_of_length_le (by omega), List.take_of_length_le (by omega)] at he
        rw [decide_eq_true he]
        refine wk (wA hc wT) (wA DrM.mk wT) ?_
        refine wkEnd wT ?_
        exact Fin.same ⟨rfl, rfl⟩
set_option maxHeartbeats 4000000 in
theorem enSame_spec (a b : List En) (ha : a.length ≤ 9223372036854775807) (hb : b.length ≤ 9223372036854775807) (H : List Box) : ASpec Tryd.prog 94 [.lst 3 (enG a), .lst 3 (enG b)] H (Gives (vb (decide (a = b))) H) := by
  by_cases hl : a.length = b.length
  rotate_left
  · have hn : ¬ a = b := fun e => hl (by rw [e])
    have hl' : ¬ (a.length : Int) = (b.length : Int) := by omega
    rw [decide_eq_false hn]
    refine ASpec.enter Tryd.func94 rfl (fun a w => Tryd.call94 a w) Tryd.ntmps94 Tryd.results94 fun base w β hI => ?_
    refine wk (wA hl' wT) (wA DrM.mk wT) ?_
    refine wkEnd wT ?_
    exact Fin.same ⟨rfl, rfl⟩
  · have hl' : (a.length : Int) = (b.length : Int) := by omega
    have hl2 := eq_true hl'
    refine ASpec.enter Tryd.func94 rfl (fun a w => Tryd.call94 a w) Tryd.ntmps94 Tryd.results94 fun base w β hI => ?_
    refine wk (wA hl2 wT) (wA DrM.mk wT) ?_
    refine AWP.loop (ι := {i : Nat // i ≤ a.length ∧ a.take i = b.take i})
      (fun p => ⟨[(0, .lst 3 (enG a)), (1, .lst 3 (enG b)), (12, vi a.length), (13, vi p.1)], H⟩) (fun p => a.length - p.1) ⟨0, Nat.zero_le _, by simp⟩ ?_ ?_
    · dsimp only
      exact Coe.kp
    · rintro ⟨i, hi, he⟩
      dsimp only
      by_cases hc : (i : Int) < (a.length : Int)
      · have hg : a[i]? = some a[i] := List.getElem?_eq_getElem (by omega)
        have hg2 : b[i]? = some b[i] := List.getElem?_eq_getElem (by omega)
        generalize a[i] = x at hg
        generalize b[i] = y at hg2
        have s1 := take_snoc hg
        have s2 := take_snoc hg2
        have hn : x ≠ y → ¬ a = b := fun hx e => hx (by rw [e, hg2] at hg; injection hg with hg; exact hg.symm)
        obtain ⟨xk, xv, xs⟩ := x
        obtain ⟨yk, yv, ys⟩ := y
        by_cases dk : xk = yk
        rotate_left
        · rw [decide_eq_false (hn fun e => dk (by injection e))]
          refine wk (wA hc (wA hg (wA hg2 (wA dk wT)))) (wA DrM.mk wT) ?_
          refine wkEnd wT ?_
          exact Fin.same ⟨rfl, rfl⟩
        subst dk
        by_cases dv : xv = yv
        rotate_left
        · rw [decide_eq_false (hn fun e => dv (by injection e))]
          refine wk (wA hc (wA hg (wA hg2 (wA dv wT)))) (wA DrM.mk wT) ?_
          refine wkEnd wT ?_
          exact Fin.same ⟨rfl, rfl⟩
        subst dv
        by_cases ds : xs = ys
        rotate_left
        · rw [decide_eq_false (hn fun e => ds (by injection e))]
          refine wk (wA hc (wA hg (wA hg2 (wA ds wT)))) (wA DrM.mk wT) ?_
          refine wkEnd wT ?_
          exact Fin.same ⟨rfl, rfl⟩
        subst ds
        refine wk (wA hc (wA hg (wA hg2 wT))) (wA DrM.mk wT) ?_
        refine ⟨⟨i + 1, by omega, by rw [s1, s2, he]⟩, ?_, by dsimp only; omega⟩
        dsimp only
        exact Coe.kp
      · rw [List.take_of_length_le (by omega), List.take_of_length_le (by omega)] at he
        rw [decide_eq_true he]
        refine wk (wA hc wT) (wA DrM.mk wT) ?_
        refine wkEnd wT ?_
        exact Fin.same ⟨rfl, rfl⟩
set_option maxHeartbeats 4000000 in
theorem refEnSame_spec (a b : List En) (ha : a.length ≤ 9223372036854775807) (hb : b.length ≤ 9223372036854775807) (H : List Box) : ASpec Tryd.prog 82 [.lst 3 (enG a), .lst 3 (enG b)] H (Gives (vb (decide (a = b))) H) := by
  by_cases hl : a.length = b.length
  rotate_left
  · have hn : ¬ a = b := fun e => hl (by rw [e])
    have hl' : ¬ (a.length : Int) = (b.length : Int) := by omega
    rw [decide_eq_false hn]
    refine ASpec.enter Tryd.func82 rfl (fun a w => Tryd.call82 a w) Tryd.ntmps82 Tryd.results82 fun base w β hI => ?_
    refine wk (wA hl' wT) (wA DrM.mk wT) ?_
    refine wkEnd wT ?_
    exact Fin.same ⟨rfl, rfl⟩
  · have hl' : (a.length : Int) = (b.length : Int) := by omega
    have hl2 := eq_true hl'
    refine ASpec.enter Tryd.func82 rfl (fun a w => Tryd.call82 a w) Tryd.ntmps82 Tryd.results82 fun base w β hI => ?_
    refine wk (wA hl2 wT) (wA DrM.mk wT) ?_
    refine AWP.loop (ι := {i : Nat // i ≤ a.length ∧ a.take i = b.take i})
      (fun p => ⟨[(0, .lst 3 (enG a)), (1, .lst 3 (enG b)), (5, vi p.1)], H⟩) (fun p => a.length - p.1) ⟨0, Nat.zero_le _, by simp⟩ ?_ ?_
    · dsimp only
      exact Coe.kp
    · rintro ⟨i, hi, he⟩
      dsimp only
      by_cases hc : (i : Int) < (a.length : Int)
      · have hg : a[i]? = some a[i] := List.getElem?_eq_getElem (by omega)
        have hg2 : b[i]? = some b[i] := List.getElem?_eq_getElem (by omega)
        generalize a[i] = x at hg
        generalize b[i] = y at hg2
        have s1 := take_snoc hg
        have s2 := take_snoc hg2
        have hn : x ≠ y → ¬ a = b := fun hx e => hx (by rw [e, hg2] at hg; injection hg with hg; exact hg.symm)
        obtain ⟨xk, xv, xs⟩ := x
        obtain ⟨yk, yv, ys⟩ := y
        by_cases dk : xk = yk
        rotate_left
        · rw [decide_eq_false (hn fun e => dk (by injection e))]
          refine wk (wA hc (wA hg (wA hg2 (wA dk wT)))) (wA DrM.mk wT) ?_
          refine wkEnd wT ?_
          exact Fin.same ⟨rfl, rfl⟩
        subst dk
        by_cases dv : xv = yv
        rotate_left
        · rw [decide_eq_false (hn fun e => dv (by injection e))]
          refine wk (wA hc (wA hg (wA hg2 (wA dv wT)))) (wA DrM.mk wT) ?_
          refine wkEnd wT ?_
          exact Fin.same ⟨rfl, rfl⟩
        subst dv
        by_cases ds : xs = ys
        rotate_left
        · rw [decide_eq_false (hn fun e => ds (by injection e))]
          refine wk (wA hc (wA hg (wA hg2 (wA ds wT)))) (wA DrM.mk wT) ?_
          refine wkEnd wT ?_
          exact Fin.same ⟨rfl, rfl⟩
        subst ds
        refine wk (wA hc (wA hg (wA hg2 wT))) (wA DrM.mk wT) ?_
        refine ⟨⟨i + 1, by omega, by rw [s1, s2, he]⟩, ?_, by dsimp only; omega⟩
        dsimp only
        exact Coe.kp
      · rw [List.take_of_length_le (by omega), List.take_of_length_le (by omega)] at he
        rw [decide_eq_true he]
        refine wk (wA hc wT) (wA DrM.mk wT) ?_
        refine wkEnd wT ?_
        exact Fin.same ⟨rfl, rfl⟩

end Go.Proofs.YtjkdahpoalnjjaaDoor.VL
