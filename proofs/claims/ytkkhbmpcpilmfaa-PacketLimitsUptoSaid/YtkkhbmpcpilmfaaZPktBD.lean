/- Layer 17: the law on limits. -/
import Derived.Test.YtkkhbmpcpilmfaaZCd
import Derived.Test.YtkkhbmpcpilmfaaZPktBC
import Derived.Test.YtkkhbmpcpilmfaaZQa
-- STEPWISE
-- WK
set_option linter.unusedVariables false
set_option linter.unusedSimpArgs false
set_option maxRecDepth 10000
namespace Go.Proofs.Ytkkhbmpcpilmfaa.VL
open Go Go.RowKit Go.Lib

def loT (x y : Int) : Int := if y < x then y else x
def hiT (x y : Int) : Int := if x < y then y else x
set_option maxHeartbeats 16000000 in
theorem packetLimits_spec (p : Pk) (hp : szP p ≤ 1048576) (x y : Int) (hx : 0 ≤ x ∧ x ≤ 65535) (hy : 0 ≤ y ∧ y ≤ 65535) (H : List Box) :
    ASpec Try.prog 4 [.agg (pkC p), .agg [.v (.int .u16 x), .v (.int .u16 y)]] H (Gives (vb true) H) := by
  have ha := fun H => alive17_spec H
  have hg := fun H => great_spec p hp H
  have hr := fun H => refRight17_spec p hp H
  by_cases hgr : 3000 < szP p
  · rw [decide_eq_true hgr] at hg
    refine ASpec.enter Try.func4 rfl (fun a w => Try.call4 a w) Try.ntmps4 Try.results4 fun base w β hI => ?_
    refine wk wT (wA ha (wA hg wT)) ?_
    refine wkEnd wT ?_
    exact Fin.cut (.v _) ⟨rfl, rfl⟩
  rw [decide_eq_false hgr] at hg
  cases hok : pOk p with
  | false =>
    rw [hok] at hr
    refine ASpec.enter Try.func4 rfl (fun a w => Try.call4 a w) Try.ntmps4 Try.results4 fun base w β hI => ?_
    refine wk wT (wA ha (wA hg (wA hr wT))) ?_
    refine wkEnd wT ?_
    exact Fin.cut (.v _) ⟨rfl, rfl⟩
  | true =>
    rw [hok] at hr
    have elo : (if y < x then y else x) = loT x y := rfl
    have ehi : (if x < y then y else x) = hiT x y := rfl
    have hlh : loT x y ≤ hiT x y := by unfold loT hiT; split <;> split <;> omega
    have hlb : 0 ≤ loT x y ∧ hiT x y ≤ 65535 := by unfold loT hiT; split <;> split <;> omega
    have hlaw := lim_law hok hlh hlb.2
    have bl := fun H => pktBuild_spec p (szP_pkL hp) (loT x y) H
    have bh := fun H => pktBuild_spec p (szP_pkL hp) (hiT x y) H
    have bc := fun H => pktBuild_spec p (szP_pkL hp) 1048576 H
    generalize loT x y = lo at *
    generalize hiT x y = hi at *
    obtain ⟨l1, l2, l3, l4, l5, l6, l7, l8, l9, l10, l11, l12⟩ := hlaw
    unfold bldV at bl bh bc
    rw [l1, if_pos rfl] at bc
    generalize (bldP p 1048576).1 = C at *
    by_cases e1 : (bldP p lo).2 = 0
    rotate_left
    · rw [if_neg e1, l4 e1] at bl
      by_cases e2 : (bldP p hi).2 = 0
      · rw [if_pos e2, e2] at bh
        generalize (bldP p hi).1 = B at *
        clear l2 l3 l4 l5 l6 l7 l8 l9 l10 l11
        refine ASpec.enter Try.func4 rfl (fun a w => Try.call4 a w) Try.ntmps4 Try.results4 fun base w β hI => ?_
        refine wk (wA elo (wA ehi wT)) (wA ha (wA hg (wA hr (wA bl (wA bh (wA bc wT)))))) ?_
        refine wkEnd wT ?_
        exact Fin.cut (.v _) ⟨rfl, rfl⟩
      · rw [if_neg e2, l3 e2] at bh
        clear l2 l3 l4 l5 l6 l7 l8 l9 l10 l11
        refine ASpec.enter Try.func4 rfl (fun a w => Try.call4 a w) Try.ntmps4 Try.results4 fun base w β hI => ?_
        refine wk (wA elo (wA ehi wT)) (wA ha (wA hg (wA hr (wA bl (wA bh (wA bc wT)))))) ?_
        refine wkEnd wT ?_
        exact Fin.cut (.v _) ⟨rfl, rfl⟩
    have e2 := l2 e1
    rw [if_pos e1, e1] at bl
    rw [if_pos e2, e2] at bh
    replace l5 := l5 e1
    replace l6 := l6 e1
    replace l7 := l7 e1
    replace l8 := l8 e1
    replace l9 := l9 e1
    replace l10 := l10 e1
    replace l11 := l11 e1
    clear l1 l2 l3 l4
    generalize (bldP p hi).1 = B at *
    generalize (bldP p lo).1 = A at *
    have n1 : ¬ hi < (B.length : Int) := by omega
    have n2 : ¬ (B.length : Int) < (A.length : Int) := by omega
    have n3 : (12 : Int) ≤ (A.length : Int) := by omega
    have n4 : (A.length : Int) ≤ (B.length : Int) := by omega
    have n5 : (B.length : Int) ≤ (C.length : Int) := by omega
    have n6 : (12 : Int) ≤ (B.length : Int) := by omega
    have s1 := fun H => same_spec (A.drop 12) ((B.take A.length).drop 12) (by rw [List.length_drop]; omega) (by rw [List.length_drop, List.length_take]; omega) H
    have s2 := fun H => same_spec (B.drop 12) ((C.take B.length).drop 12) (by rw [List.length_drop]; omega) (by rw [List.length_drop, List.length_take]; omega) H
    rw [decide_eq_true l10] at s1
    rw [decide_eq_true l11] at s2
    have tA : A.take A.length = A := List.take_length
    have tB : B.take B.length = B := List.take_length
    by_cases hc : (C.length : Int) ≤ hi
    · have hBC := l5 hc
      have s3 := fun H => same_spec B C (by omega) (by omega) H
      rw [decide_eq_true hBC] at s3
      clear l5 l10 l11
      refine ASpec.enter Try.func4 rfl (fun a w => Try.call4 a w) Try.ntmps4 Try.results4 fun base w β hI => ?_
      refine wk (wA elo (wA ehi (wA hc (wA n1 (wA n2 (wA n3 (wA n4 (wA n5 (wA n6 (wA tA (wA tB wT))))))))))) (wA ha (wA hg (wA hr (wA bl (wA bh (wA bc (wA s3 (wA s1 (wA s2 wT))))))))) ?_
      refine wkEnd wT ?_
      exact Fin.cut (.v _) ⟨rfl, rfl⟩
    · clear l5 l10 l11
      refine ASpec.enter Try.func4 rfl (fun a w => Try.call4 a w) Try.ntmps4 Try.results4 fun base w β hI => ?_
      refine wk (wA elo (wA ehi (wA hc (wA n1 (wA n2 (wA n3 (wA n4 (wA n5 (wA n6 (wA tA (wA tB wT))))))))))) (wA ha (wA hg (wA hr (wA bl (wA bh (wA bc (wA s1 (wA s2 wT)))))))) ?_
      refine wkEnd wT ?_
      exact Fin.cut (.v _) ⟨rfl, rfl⟩

end Go.Proofs.Ytkkhbmpcpilmfaa.VL
