/- Layer 18: the laws of the domain itself, and of small letters. -/
import Derived.Test.YtnlmdeeadldgmaaGreatDoorZZonZA
import Derived.Test.YtnlmdeeadldgmaaGreatDoorZG42
import Derived.Test.YtnlmdeeadldgmaaGreatDoorZG38
-- STEPWISE
-- WK
set_option linter.unusedVariables false
set_option linter.unusedSimpArgs false
set_option maxRecDepth 10000
namespace Go.Proofs.YtnlmdeeadldgmaaGreatDoor.VL
open Go Go.RowKit Go.Lib

set_option maxHeartbeats 8000000 in
theorem zoneApex_spec (s : Sc) (t : Int) (h0 : 0 ≤ t) (h255 : t ≤ 255) (hs : ScAny s) (H : List Box) : ASpec Tryz.prog 7 [.agg (scC s), .v (.int .u8 t)] H (Gives (vb true) H) := by
  have ha := fun H => alive18_spec H
  have g1 := fun H => great18_spec s hs.v hs.n hs.a hs.d H
  have g2 := fun H => right6_spec s.v hs.v hs.n H
  cases hg : great18 s with
  | true =>
    rw [hg] at g1
    obtain ⟨v, a, d⟩ := s
    refine ASpec.enter Tryz.func7 rfl (fun a w => Tryz.call7 a w) Tryz.ntmps7 Tryz.results7 fun base w β hI => ?_
    refine wk wT (wA ha (wA g1 (wA DrM.mk wT))) ?_
    refine wkEnd wT ?_
    exact Fin.cut (.v _) ⟨rfl, rfl⟩
  | false =>
  rw [hg] at g1
  cases hv : ndOk s.v with
  | false =>
    rw [hv] at g2
    obtain ⟨v, a, d⟩ := s
    refine ASpec.enter Tryz.func7 rfl (fun a w => Tryz.call7 a w) Tryz.ntmps7 Tryz.results7 fun base w β hI => ?_
    refine wk wT (wA ha (wA g1 (wA g2 (wA DrM.mk wT)))) ?_
    refine wkEnd wT ?_
    exact Fin.cut (.v _) ⟨rfl, rfl⟩
  | true =>
  rw [hv] at g2
  obtain ⟨hi, hd, _, _⟩ := sc_in hg hv
  have e1 := fun H => tell_spec s s.d t hi (by omega) H
  have e2 := fun H => start_spec s (by omega) H
  have e3 := fun H => refRight16_spec s.d (by omega) H
  have e4 := fun H => exists_spec s s.d hi (by omega) H
  unfold tellN at e1
  clear hi hd hv hg hs
  cases hl : lab s.d with
  | none =>
    obtain ⟨a1, a2, a3⟩ := apex_none hl t
    rw [hl] at e3
    rw [a3] at e4
    rw [a2] at e1
    rw [a1] at e2
    generalize (startN s.d).1 = x at *
    obtain ⟨x1, x2, x3, x4, x5⟩ := x
    clear hl a1 a2 a3
    obtain ⟨v, a, d⟩ := s
    dsimp only [List.map_nil, rrG, Option.isSome] at *
    refine ASpec.enter Tryz.func7 rfl (fun a w => Tryz.call7 a w) Tryz.ntmps7 Tryz.results7 fun base w β hI => ?_
    refine wk wT (wA ha (wA g1 (wA g2 (wA e1 (wA e2 (wA e3 (wA e4 (wA DrM.mk wT)))))))) ?_
    refine wkEnd wT ?_
    exact Fin.cut (.v _) ⟨rfl, rfl⟩
  | some ls =>
    obtain ⟨a1, a2, a3, a4⟩ := apex_some hl t
    rw [hl] at e3
    rw [a1] at e4
    generalize tellD s s.d t = D at *
    cases D with
    | nil =>
      by_cases h6 : t = 6
      · have a5 := a4 h6
        have hok : (startN s.d).2 = false := by
          cases h : (startN s.d).2 with
          | false => rfl
          | true => rw [h] at a5; simp at a5
        rw [hok] at e2
        generalize (startN s.d).1 = x at *
        obtain ⟨x1, x2, x3, x4, x5⟩ := x
        subst h6
        clear hl a1 a2 a3 a4 a5 hok
        obtain ⟨v, a, d⟩ := s
        dsimp only [List.map_nil, rrG, Option.isSome] at *
        refine ASpec.enter Tryz.func7 rfl (fun a w => Tryz.call7 a w) Tryz.ntmps7 Tryz.results7 fun base w β hI => ?_
        refine wk wT (wA ha (wA g1 (wA g2 (wA e1 (wA e2 (wA e3 (wA e4 (wA DrM.mk wT)))))))) ?_
        refine wkEnd wT ?_
        exact Fin.cut (.v _) ⟨rfl, rfl⟩
      · generalize startN s.d = x at *
        obtain ⟨⟨x1, x2, x3, x4, x5⟩, ok⟩ := x
        clear hl a1 a2 a3 a4
        obtain ⟨v, a, d⟩ := s
        dsimp only [List.map_nil, rrG, Option.isSome] at *
        refine ASpec.enter Tryz.func7 rfl (fun a w => Tryz.call7 a w) Tryz.ntmps7 Tryz.results7 fun base w β hI => ?_
        refine wk (wA h6 wT) (wA ha (wA g1 (wA g2 (wA e1 (wA e2 (wA e3 (wA e4 (wA DrM.mk wT)))))))) ?_
        refine wkEnd wT ?_
        exact Fin.cut (.v _) ⟨rfl, rfl⟩
    | cons y D =>
      have hD : D = [] := by
        cases D with
        | nil => rfl
        | cons z D => simp at a2
      subst hD
      rcases a3 rfl with h2 | h6
      · subst h2
        generalize startN s.d = x at *
        obtain ⟨⟨x1, x2, x3, x4, x5⟩, ok⟩ := x
        clear hl a1 a2 a3 a4
        obtain ⟨v, a, d⟩ := s
        dsimp only [List.map_cons, List.map_nil, rrG, Option.isSome, toldN] at *
        refine ASpec.enter Tryz.func7 rfl (fun a w => Tryz.call7 a w) Tryz.ntmps7 Tryz.results7 fun base w β hI => ?_
        refine wk wT (wA ha (wA g1 (wA g2 (wA e1 (wA e2 (wA e3 (wA e4 (wA DrM.mk wT)))))))) ?_
        refine wkEnd wT ?_
        exact Fin.cut (.v _) ⟨rfl, rfl⟩
      · subst h6
        have a5 := a4 rfl
        have hok : (startN s.d).2 = true := by
          cases h : (startN s.d).2 with
          | true => rfl
          | false => rw [h] at a5; simp at a5
        rw [hok, if_pos rfl] at a5
        have hst : (startN s.d).1 = toldN s.d 6 y := by
          injection a5 with a5 _
          subst a5
          unfold startN at hok ⊢
          split
          · rfl
          · rename_i hc; rw [if_neg hc] at hok; cases hok
        rw [hok, hst] at e2
        have e2 : ∀ H, ASpec Tryz.prog 18 [.agg (scC s)] H (Gives (.tup [.agg [vs s.d, vi 6, vi 1, vi 5, vs y], vb true]) H) := e2
        have e1 : ∀ H, ASpec Tryz.prog 26 [.agg (scC s), vs s.d, vi 6] H (Gives (.lst 5 [[vs s.d, vi 6, vi 1, vi 5, vs y]]) H) := e1
        clear hl a1 a2 a3 a4 a5 hok hst
        obtain ⟨v, a, d⟩ := s
        dsimp only [List.map_cons, List.map_nil, rrG, Option.isSome, toldN] at *
        refine ASpec.enter Tryz.func7 rfl (fun a w => Tryz.call7 a w) Tryz.ntmps7 Tryz.results7 fun base w β hI => ?_
        refine wk wT (wA ha (wA g1 (wA g2 (wA e1 (wA e2 (wA e3 (wA e4 (wA DrM.mk wT)))))))) ?_
        refine wkEnd wT ?_
        exact Fin.cut (.v _) ⟨rfl, rfl⟩

theorem tlN_get (name : List UInt8) (t : Int) (D : List (List UInt8)) (i : Nat) : (tlN name t D)[i]? = (D[i]?).map (toldN name t) := by simp [tlN]

set_option maxHeartbeats 8000000 in
theorem zoneLetters_spec (s : Sc) (name : List UInt8) (t : Int) (h0 : 0 ≤ t) (h255 : t ≤ 255) (hs : ScAny s) (hn : name.length ≤ 9223372036854775807) (H : List Box) : ASpec Tryz.prog 5 [.agg (scC s), vs name, .v (.int .u8 t)] H (Gives (vb true) H) := by
  have ha := fun H => alive18_spec H
  have g1 := fun H => great18_spec s hs.v hs.n hs.a hs.d H
  have g2 := fun H => right6_spec s.v hs.v hs.n H
  cases hg : great18 s with
  | true =>
    rw [hg] at g1
    obtain ⟨v, a, d⟩ := s
    refine ASpec.enter Tryz.func5 rfl (fun a w => Tryz.call5 a w) Tryz.ntmps5 Tryz.results5 fun base w β hI => ?_
    refine wk wT (wA ha (wA g1 (wA DrM.mk wT))) ?_
    refine wkEnd wT ?_
    exact Fin.cut (.v _) ⟨rfl, rfl⟩
  | false =>
  rw [hg] at g1
  by_cases h5 : (500 : Int) < (name.length : Int)
  · obtain ⟨v, a, d⟩ := s
    refine ASpec.enter Tryz.func5 rfl (fun a w => Tryz.call5 a w) Tryz.ntmps5 Tryz.results5 fun base w β hI => ?_
    refine wk (wA h5 wT) (wA ha (wA g1 (wA DrM.mk wT))) ?_
    refine wkEnd wT ?_
    exact Fin.cut (.v _) ⟨rfl, rfl⟩
  cases hv : ndOk s.v with
  | false =>
    rw [hv] at g2
    obtain ⟨v, a, d⟩ := s
    refine ASpec.enter Tryz.func5 rfl (fun a w => Tryz.call5 a w) Tryz.ntmps5 Tryz.results5 fun base w β hI => ?_
    refine wk (wA h5 wT) (wA ha (wA g1 (wA g2 (wA DrM.mk wT)))) ?_
    refine wkEnd wT ?_
    exact Fin.cut (.v _) ⟨rfl, rfl⟩
  | true =>
  rw [hv] at g2
  obtain ⟨hi, hd, _, _⟩ := sc_in hg hv
  have hll := lowB_length name
  have e1 := fun H => refLower_spec name (by omega) H
  have e2 := fun H => tell_spec s name t hi (by omega) H
  have e3 := fun H => tell_spec s (lowB name) t hi (by omega) H
  have e4 := fun H => exists_spec s name hi (by omega) H
  have e5 := fun H => exists_spec s (lowB name) hi (by omega) H
  rw [existsN_low] at e5
  have hex := tell_exists (s := s) (name := name) (t := t)
  have hA : tellN s name t = tlN name t (tellD s name t) := rfl
  have hB : tellN s (lowB name) t = tlN (lowB name) t (tellD s name t) := by rw [tellN, tellD_low]; rfl
  have hle := tellN_len hi name t
  rw [hA] at e2 hle
  rw [hB] at e3
  have hAg := tlN_get name t (tellD s name t)
  have hBg := tlN_get (lowB name) t (tellD s name t)
  have hAl : (tlN name t (tellD s name t)).length = (tellD s name t).length := by simp [tlN]
  have hBl : (tlN (lowB name) t (tellD s name t)).length = (tellD s name t).length := by simp [tlN]
  clear hA hB hi hd hv hg hs hll
  generalize tlN name t (tellD s name t) = A at *
  generalize tlN (lowB name) t (tellD s name t) = B at *
  generalize tellD s name t = D at *
  generalize lowB name = low at *
  generalize existsN s name = q at *
  have hEq : ((A.length : Int) = (B.length : Int)) := by omega
  obtain ⟨v, a, d⟩ := s
  dsimp only at *
  refine ASpec.enter Tryz.func5 rfl (fun a w => Tryz.call5 a w) Tryz.ntmps5 Tryz.results5 fun base w β hI => ?_
  refine wk (wA h5 (wA (eq_true hEq) wT)) (wA ha (wA g1 (wA g2 (wA e1 (wA e2 (wA e3 (wA e4 (wA e5 (wA DrM.mk wT))))))))) ?_
  refine AWP.loop (ι := {i : Nat // i ≤ A.length}) (fun p => ⟨[(1, vs name), (2, .v (.int .u8 t)), (3, .ptr H.length 0 0), (7, vs low), (8, .lst 5 (rrG A)), (9, .lst 5 (rrG B)), (10, vi p.1)], H ++ [⟨scC ⟨v, a, d⟩, 0, 0, false⟩]⟩) (fun p => A.length - p.1) ⟨0, Nat.zero_le _⟩ ?_ ?_
  · dsimp only
    exact Coe.kp
  · rintro ⟨i, hi⟩
    dsimp only
    clear e2 e3 e1 e5 g1 g2 ha
    by_cases hc : (i : Int) < (A.length : Int)
    · have hcB : (i : Int) < (B.length : Int) := by omega
      have hgD : D[i]? = some D[i] := List.getElem?_eq_getElem (by omega)
      have hgA := hAg i
      have hgB := hBg i
      rw [hgD] at hgA hgB
      dsimp only [Option.map_some, toldN] at hgA hgB
      generalize D[i] = y at *
      clear hAg hBg hgD hex e4
      refine wk (wA hc (wA hcB (wA hgA (wA hgB wT)))) (wA DrM.mk wT) ?_
      refine ⟨⟨i + 1, by omega⟩, ?_, by dsimp only; omega⟩
      dsimp only
      exact Coe.kp
    · clear hAg hBg
      cases D with
      | nil =>
        have hz : (A.length : Int) = 0 := by rw [hAl]; rfl
        refine wk (wA hc (wA (eq_true hz) wT)) (wA DrM.mk wT) ?_
        refine wkEnd wT ?_
        exact Fin.cut (.v _) ⟨rfl, rfl⟩
      | cons y D =>
        have hz : ¬ (A.length : Int) = 0 := by rw [hAl, List.length_cons]; omega
        rw [hex (by simp)] at e4
        refine wk (wA hc (wA hz wT)) (wA e4 (wA DrM.mk wT)) ?_
        refine wkEnd wT ?_
        exact Fin.cut (.v _) ⟨rfl, rfl⟩

end Go.Proofs.YtnlmdeeadldgmaaGreatDoor.VL
