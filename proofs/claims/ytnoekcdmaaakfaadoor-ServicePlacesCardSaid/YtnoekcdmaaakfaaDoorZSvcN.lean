/- Layer 15: the laws of services' values. -/
import Derived.Test.YtnoekcdmaaakfaaDoorZSvcL
-- STEPWISE
-- WK
set_option linter.unusedVariables false
set_option linter.unusedSimpArgs false
set_option maxRecDepth 10000
namespace Go.Proofs.YtnoekcdmaaakfaaDoor.VL
open Go Go.RowKit Go.Lib

set_option maxHeartbeats 8000000 in
theorem values_spec (s : Sv) (v : List UInt8) (hn : s.n.length ≤ 9223372036854775807) (hp : s.p.length ≤ 9223372036854775807) (hv : v.length ≤ 9223372036854775807) (H : List Box) :
    ASpec Tryd.prog 3 [.agg (svC s), vs v] H (Gives (vb true) H) := by
  have ha := fun H => alive15_spec H
  have e1 := fun H => encode_spec s hn hp H
  have e2 := fun H => refEncode_spec s hn hp H
  have r1 := fun H => right_spec s hn hp H
  have r2 := fun H => refRight15_spec s hn hp H
  have w1 := fun H => word_spec v hv H
  have w2 := fun H => refWord_spec v hv H
  by_cases h1 : (1000 : Int) < (v.length : Int)
  · obtain ⟨n, p, o, i, w, l⟩ := s
    dsimp only at *
    refine ASpec.enter Tryd.func3 rfl (fun a w => Tryd.call3 a w) Tryd.ntmps3 Tryd.results3 fun base w β hI => ?_
    refine wk (wA h1 wT) (wA ha (wA DrM.mk wT)) ?_
    refine wkEnd wT ?_
    exact Fin.cut (.v _) ⟨rfl, rfl⟩
  · have d1 := fun H => decode_spec v (by omega) H
    have d2 := fun H => refDecode_spec v (by omega) H
    generalize encS s = E at *
    generalize decS v = D at *
    generalize svOk s = b1 at *
    generalize wordOk v = b2 at *
    obtain ⟨ea, eb⟩ := E
    obtain ⟨⟨dn, dp, d3, d4, d5, d6⟩, d7⟩ := D
    have e1 : ∀ H, ASpec Tryd.prog 7 [.agg (svC s)] H (Gives (.tup [vs ea, vi eb]) H) := e1
    have e2 : ∀ H, ASpec Tryd.prog 8 [.agg (svC s)] H (Gives (.tup [vs ea, vi eb]) H) := e2
    have d1 : ∀ H, ASpec Tryd.prog 9 [vs v] H (Gives (.tup [.agg [vs dn, vs dp, vi d3, vi d4, vi d5, vb d6], vi d7]) H) := d1
    have d2 : ∀ H, ASpec Tryd.prog 10 [vs v] H (Gives (.tup [.agg [vs dn, vs dp, vi d3, vi d4, vi d5, vb d6], vi d7]) H) := d2
    obtain ⟨n, p, o, i, w, l⟩ := s
    dsimp only at *
    generalize hS : IntKind.i64.wrap ((n.length : Int) + (p.length : Int)) = S
    by_cases h2 : (1000 : Int) < S
    · refine ASpec.enter Tryd.func3 rfl (fun a w => Tryd.call3 a w) Tryd.ntmps3 Tryd.results3 fun base w β hI => ?_
      refine wk (wA h1 (wA hS (wA h2 wT))) (wA ha (wA DrM.mk wT)) ?_
      refine wkEnd wT ?_
      exact Fin.cut (.v _) ⟨rfl, rfl⟩
    · refine ASpec.enter Tryd.func3 rfl (fun a w => Tryd.call3 a w) Tryd.ntmps3 Tryd.results3 fun base w β hI => ?_
      refine wk (wA h1 (wA hS (wA h2 wT))) (wA ha (wA e1 (wA e2 (wA d1 (wA d2 (wA r1 (wA r2 (wA w1 (wA w2 (wA DrM.mk wT)))))))))) ?_
      refine wkEnd wT ?_
      exact Fin.cut (.v _) ⟨rfl, rfl⟩

set_option maxHeartbeats 8000000 in
theorem sback_spec (s : Sv) (v : List UInt8) (hn : s.n.length ≤ 9223372036854775807) (hp : s.p.length ≤ 9223372036854775807) (hv : v.length ≤ 9223372036854775807) (H : List Box) :
    ASpec Tryd.prog 4 [.agg (svC s), vs v] H (Gives (vb true) H) := by
  have ha := fun H => alive15_spec H
  have e1 := fun H => encode_spec s hn hp H
  by_cases h1 : (1000 : Int) < (v.length : Int)
  · obtain ⟨n, p, o, i, w, l⟩ := s
    dsimp only at *
    refine ASpec.enter Tryd.func4 rfl (fun a w => Tryd.call4 a w) Tryd.ntmps4 Tryd.results4 fun base w β hI => ?_
    refine wk (wA h1 wT) (wA ha (wA DrM.mk wT)) ?_
    refine wkEnd wT ?_
    exact Fin.cut (.v _) ⟨rfl, rfl⟩
  · have d1 := fun H => decode_spec v (by omega) H
    have hbad := decS_bad (v := v)
    have hgood : (decS v).2 = 0 → ∀ H, ASpec Tryd.prog 7 [.agg (svC (decS v).1)] H (Gives (.tup [vs v, vi 0]) H) := fun h H => by
      obtain ⟨g1, g2⟩ := enc_dec h
      have g3 := g1
      unfold svOk at g3
      simp only [Bool.and_eq_true] at g3
      have := encode_spec (decS v).1 (by have := (wordOk_len g3.1).2; omega) (by have := (wordOk_len g3.2.1).2; omega) H
      rw [encS, if_pos g1, g2] at this
      exact this
    generalize decS v = D at *
    obtain ⟨⟨dn, dp, d3, d4, d5, d6⟩, d7⟩ := D
    have d1 : ∀ H, ASpec Tryd.prog 9 [vs v] H (Gives (.tup [.agg [vs dn, vs dp, vi d3, vi d4, vi d5, vb d6], vi d7]) H) := d1
    dsimp only at hbad hgood
    have henc : (∃ ea, (∀ H, ASpec Tryd.prog 7 [.agg (svC s)] H (Gives (.tup [vs ea, vi 0]) H)) ∧ (∀ H, ASpec Tryd.prog 9 [vs ea] H (Gives (.tup [.agg (svC s), vi 0]) H)) ∧ ea.length ≤ 200) ∨
        (∀ H, ASpec Tryd.prog 7 [.agg (svC s)] H (Gives (.tup [vs [], vi 1]) H)) := by
      cases ho : svOk s with
      | true =>
        left
        obtain ⟨g1, g2⟩ := dec_enc ho
        refine ⟨encB s, fun H => ?_, fun H => ?_, g2⟩
        · have := e1 H
          rw [encS, if_pos ho] at this
          exact this
        · have := decode_spec (encB s) (by omega) H
          rw [g1] at this
          exact this
      | false =>
        right
        intro H
        have := e1 H
        rw [encS, if_neg (by simp [ho])] at this
        exact this
    clear e1
    obtain ⟨n, p, o, i, w, l⟩ := s
    dsimp only at *
    generalize hS : IntKind.i64.wrap ((n.length : Int) + (p.length : Int)) = S
    by_cases h2 : (1000 : Int) < S
    · clear henc
      refine ASpec.enter Tryd.func4 rfl (fun a w => Tryd.call4 a w) Tryd.ntmps4 Tryd.results4 fun base w β hI => ?_
      refine wk (wA h1 (wA hS (wA h2 wT))) (wA ha (wA DrM.mk wT)) ?_
      refine wkEnd wT ?_
      exact Fin.cut (.v _) ⟨rfl, rfl⟩
    · rcases henc with ⟨ea, e1, e2, e3⟩ | e1
      · have h3 : ¬ (200 : Int) < (ea.length : Int) := by omega
        by_cases h7 : d7 = 0
        · subst h7
          have e4 := hgood rfl
          refine ASpec.enter Tryd.func4 rfl (fun a w => Tryd.call4 a w) Tryd.ntmps4 Tryd.results4 fun base w β hI => ?_
          refine wk (wA h1 (wA hS (wA h2 (wA h3 wT)))) (wA ha (wA e1 (wA e2 (wA d1 (wA e4 (wA DrM.mk wT)))))) ?_
          refine wkEnd wT ?_
          exact Fin.cut (.v _) ⟨rfl, rfl⟩
        · have e5 := hbad h7
          injection e5 with a1 a2 a3 a4 a5 a6
          subst a1 a2 a3 a4 a5 a6
          refine ASpec.enter Tryd.func4 rfl (fun a w => Tryd.call4 a w) Tryd.ntmps4 Tryd.results4 fun base w β hI => ?_
          refine wk (wA h1 (wA hS (wA h2 (wA h3 (wA h7 wT))))) (wA ha (wA e1 (wA e2 (wA d1 (wA DrM.mk wT))))) ?_
          refine wkEnd wT ?_
          exact Fin.cut (.v _) ⟨rfl, rfl⟩
      · by_cases h7 : d7 = 0
        · subst h7
          have e4 := hgood rfl
          refine ASpec.enter Tryd.func4 rfl (fun a w => Tryd.call4 a w) Tryd.ntmps4 Tryd.results4 fun base w β hI => ?_
          refine wk (wA h1 (wA hS (wA h2 wT))) (wA ha (wA e1 (wA d1 (wA e4 (wA DrM.mk wT))))) ?_
          refine wkEnd wT ?_
          exact Fin.cut (.v _) ⟨rfl, rfl⟩
        · have e5 := hbad h7
          injection e5 with a1 a2 a3 a4 a5 a6
          subst a1 a2 a3 a4 a5 a6
          refine ASpec.enter Tryd.func4 rfl (fun a w => Tryd.call4 a w) Tryd.ntmps4 Tryd.results4 fun base w β hI => ?_
          refine wk (wA h1 (wA hS (wA h2 (wA h7 wT)))) (wA ha (wA e1 (wA d1 (wA DrM.mk wT)))) ?_
          refine wkEnd wT ?_
          exact Fin.cut (.v _) ⟨rfl, rfl⟩

end Go.Proofs.YtnoekcdmaaakfaaDoor.VL
