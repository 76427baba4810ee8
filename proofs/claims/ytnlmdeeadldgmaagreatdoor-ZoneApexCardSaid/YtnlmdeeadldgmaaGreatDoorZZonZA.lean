/- Layer 18: what the laws let in; the law of what is told. -/
import Derived.Test.YtnlmdeeadldgmaaGreatDoorZG37
import Derived.Test.YtnlmdeeadldgmaaGreatDoorZG40
import Derived.Test.YtnlmdeeadldgmaaGreatDoorZG42
import Derived.Test.YtnlmdeeadldgmaaGreatDoorZG34
import Derived.Test.YtnlmdeeadldgmaaGreatDoorZG36
-- STEPWISE
-- WK
set_option linter.unusedVariables false
set_option linter.unusedSimpArgs false
set_option maxRecDepth 10000
namespace Go.Proofs.YtnlmdeeadldgmaaGreatDoor.VL
open Go Go.RowKit Go.Lib

theorem sc_in {s : Sc} (hg : great18 s = false) (hv : ndOk s.v = true) : ScIn s ∧ s.d.length ≤ 500 ∧ s.a.length ≤ 50 ∧ s.v.length ≤ 8 := by
  unfold great18 at hg
  simp only [Bool.or_eq_false_iff, decide_eq_false_iff_not] at hg
  have hl := ndOk_len hv
  refine ⟨⟨by omega, fun x hx => ?_, by omega, by omega⟩, by omega, by omega, hl⟩
  have h := (ndOk_mem hv hx).2.2
  have ht := (stOk_iff.1 h).2.2.2.2
  have h1 := tabOk_len ht
  exact ⟨by omega, fun e he => by have := (mayE_iff.1 (tabOk_may ht e he)).2.2.2.2; omega⟩
theorem numsN_len {s : Sc} (h : ScIn s) : (numsN s).length ≤ 1048576 := by
  unfold numsN
  rw [List.length_map]
  exact Nat.le_trans (List.length_filter_le _ _) h.v
theorem tellN_len {s : Sc} (h : ScIn s) (name : List UInt8) (t : Int) : (tellN s name t).length ≤ 2000000000000 := by
  rw [tellN_eq, List.length_append]
  have h1 := accN_len (s := s) (name := name) (t := t) (C := cntL s) fun x hx => h.c hx
  have h2 : (cntL s).length ≤ 1048576 := Nat.le_trans (List.length_filter_le _ _) h.v
  have h3 : (accN s name t (cntL s)).length ≤ 1048576 * 1048576 := Nat.le_trans h1 (Nat.mul_le_mul h2 (Nat.le_refl _))
  have h4 : (tlN name t (if (t = 2 ∨ t = 6) ∧ sameN name s.d = true then (if (apexN s.d t).2 then [(apexN s.d t).1] else []) else [])).length ≤ 1 := by
    simp only [tlN, List.length_map]
    split
    · split <;> simp
    · simp
  omega

set_option maxHeartbeats 8000000 in
theorem zoneTells_spec (s : Sc) (name : List UInt8) (t : Int) (hs : ScAny s) (hn : name.length ≤ 9223372036854775807) (H : List Box) : ASpec Tryz.prog 3 [.agg (scC s), vs name, vi t] H (Gives (vb true) H) := by
  have ha := fun H => alive18_spec H
  have g1 := fun H => great18_spec s hs.v hs.n hs.a hs.d H
  have g2 := fun H => right6_spec s.v hs.v hs.n H
  cases hg : great18 s with
  | true =>
    rw [hg] at g1
    obtain ⟨v, a, d⟩ := s
    refine ASpec.enter Tryz.func3 rfl (fun a w => Tryz.call3 a w) Tryz.ntmps3 Tryz.results3 fun base w β hI => ?_
    refine wk wT (wA ha (wA g1 (wA DrM.mk wT))) ?_
    refine wkEnd wT ?_
    exact Fin.cut (.v _) ⟨rfl, rfl⟩
  | false =>
  rw [hg] at g1
  by_cases h5 : (500 : Int) < (name.length : Int)
  · obtain ⟨v, a, d⟩ := s
    refine ASpec.enter Tryz.func3 rfl (fun a w => Tryz.call3 a w) Tryz.ntmps3 Tryz.results3 fun base w β hI => ?_
    refine wk (wA h5 wT) (wA ha (wA g1 (wA DrM.mk wT))) ?_
    refine wkEnd wT ?_
    exact Fin.cut (.v _) ⟨rfl, rfl⟩
  cases hv : ndOk s.v with
  | false =>
    rw [hv] at g2
    obtain ⟨v, a, d⟩ := s
    refine ASpec.enter Tryz.func3 rfl (fun a w => Tryz.call3 a w) Tryz.ntmps3 Tryz.results3 fun base w β hI => ?_
    refine wk (wA h5 wT) (wA ha (wA g1 (wA g2 (wA DrM.mk wT)))) ?_
    refine wkEnd wT ?_
    exact Fin.cut (.v _) ⟨rfl, rfl⟩
  | true =>
  rw [hv] at g2
  obtain ⟨hi, hd, _, _⟩ := sc_in hg hv
  have e1 := fun H => host_spec s t (by omega) H
  have e2 := fun H => host18_spec s t (by omega) H
  have e3 := fun H => start_spec s (by omega) H
  have e4 := fun H => start18_spec s (by omega) H
  have e5 := fun H => counts_spec s hi H
  have e6 := fun H => counts18_spec s hi H
  have e7 := fun H => ints6_spec (numsN s) (numsN s) (by have := numsN_len hi; omega) (by have := numsN_len hi; omega) H
  have e8 := fun H => exists_spec s name hi hn H
  have e9 := fun H => exists18_spec s name hi (by omega) H
  have e10 := fun H => tell_spec s name t hi hn H
  have e11 := fun H => tell18_spec s name t hi (by omega) H
  have e12 := fun H => refSameR_spec (tellN s name t) (tellN s name t) (by have := tellN_len hi name t; omega) (by have := tellN_len hi name t; omega) H
  rw [decide_eq_true rfl] at e7 e12
  rw [refExists_eq hv] at e9
  rw [show tlN name t (refTellD s name t) = tellN s name t by rw [refTellD_eq hv]; rfl] at e11
  generalize tellN s name t = L at *
  generalize numsN s = M at *
  generalize existsN s name = q at *
  generalize hostN s.d t = h at *
  generalize startN s.d = x at *
  obtain ⟨h, ok⟩ := h
  obtain ⟨⟨x1, x2, x3, x4, x5⟩, ok2⟩ := x
  clear hi hd hv hg hs hn
  obtain ⟨v, a, d⟩ := s
  dsimp only at *
  refine ASpec.enter Tryz.func3 rfl (fun a w => Tryz.call3 a w) Tryz.ntmps3 Tryz.results3 fun base w β hI => ?_
  refine wk (wA h5 wT) (wA ha (wA g1 (wA g2 (wA e1 (wA e2 (wA e3 (wA e4 (wA e5 (wA e6 (wA e7 (wA e8 (wA e9 (wA e10 (wA e11 (wA e12 (wA DrM.mk wT)))))))))))))))) ?_
  skip
  refine wkEnd wT ?_
  exact Fin.cut (.v _) ⟨rfl, rfl⟩

end Go.Proofs.YtnlmdeeadldgmaaGreatDoor.VL
