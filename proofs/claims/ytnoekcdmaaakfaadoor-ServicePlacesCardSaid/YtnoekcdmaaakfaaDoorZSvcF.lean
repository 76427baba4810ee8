/- Layer 15: a value's service, as the reference reads it. -/
import Derived.Test.YtnoekcdmaaakfaaDoorZSvcE
-- STEPWISE
-- WK
-- HOLE 14 0 [(.same, []), (.same, []), (.same, [1]), (.same, [1]), (.same, [1]), (.same, [1]), (.same, [1]), (.same, [1]), (.same, [1]), (.same, []), (.wr 1, []), (.same, []), (.wr 1, []), (.same, []), (.wr 1, []), (.same, []), (.wr 1, [])]
set_option linter.unusedVariables false
set_option linter.unusedSimpArgs false
set_option maxRecDepth 10000
namespace Go.Proofs.YtnoekcdmaaakfaaDoor.VL
open Go Go.RowKit Go.Lib

theorem holM_SvcF_14 : HolM 14 0 [(.same, []), (.same, []), (.same, [1]), (.same, [1]), (.same, [1]), (.same, [1]), (.same, [1]), (.same, [1]), (.same, [1]), (.same, []), (.wr 1, []), (.same, []), (.wr 1, []), (.same, []), (.wr 1, []), (.same, []), (.wr 1, [])] := ⟨⟩

set_option maxHeartbeats 8000000 in
theorem refDecode_spec (v : List UInt8) (hv : v.length ≤ 1099511627776) (H : List Box) : ASpec Tryd.prog 10 [vs v] H (Gives (svV (decS v)) H) := by
  have t1 := fun H => refTakeText_spec' v 20 hv H
  have f1 := tt_facts v 20
  unfold decS
  generalize tt v 20 = x1 at *
  obtain ⟨n, r1, e1⟩ := x1
  dsimp only at f1 ⊢
  by_cases h1 : e1 = 0
  · subst h1
    rw [if_neg (by simp)]
    have t2 := fun H => refTakeText_spec' r1 20 (by omega) H
    have er1 : rs r1 0 = r1 := rfl
    rw [er1] at t1
    have f2 := tt_facts r1 20
    generalize tt r1 20 = x2 at *
    obtain ⟨p, r2, e2⟩ := x2
    dsimp only at f2 ⊢
    have e0 : tk4 r2 e2 0 = ([0, 0, 0, 0], r2, e2) := rfl
    refine ASpec.enter Tryd.func10 rfl (fun a w => Tryd.call10 a w) Tryd.ntmps10 Tryd.results10 fun base w β hI => ?_
    refine wk wT (wA t1 (wA t2 (wA holM_SvcF_14 (wA DrM.mk wT)))) ?_
    refine AWP.loop (ι := {i : Nat // i ≤ 4})
      (fun i => ⟨[(2, .ptr H.length 0 0), (4, .ptr (H.length + 1) 0 0), (5, .ptr (H.length + 2) 0 0), (6, vB (rs (tk4 r2 e2 i.1).2.1 (tk4 r2 e2 i.1).2.2)), (7, vi (tk4 r2 e2 i.1).2.2), (8, vi i.1)], H ++ [⟨svC svZ, 0, 0, false⟩, ⟨svC ⟨n, p, 0, 0, 0, false⟩, 0, 0, false⟩, ⟨intC (tk4 r2 e2 i.1).1, 0, 0, false⟩]⟩) (fun i => 4 - i.1) ⟨0, by decide⟩ ?_ ?_
    · dsimp only
      rw [e0]
      exact Coe.kp
    · rintro ⟨i, hi⟩
      dsimp only
      have hlen := tk4_len r2 e2 i
      have hrest := tk4_rest r2 e2 i
      have hs : tk4 r2 e2 (i + 1) = if (tk4 r2 e2 i).2.2 = 0 then ((tk4 r2 e2 i).1.set i ((tk (tk4 r2 e2 i).2.1).1 : Int), (tk (tk4 r2 e2 i).2.1).2.1, (tk (tk4 r2 e2 i).2.1).2.2) else tk4 r2 e2 i := rfl
      have h4 : (tk4 r2 e2 i).2.2 ≠ 0 → tk4 r2 e2 4 = tk4 r2 e2 i := fun he => by
        have := tk4_err r2 e2 he (4 - i)
        rwa [show i + (4 - i) = 4 by omega] at this
      by_cases he : (tk4 r2 e2 i).2.2 = 0
      · clear h4
        by_cases hc : (i : Int) < 4
        · generalize tk4 r2 e2 i = S at *
          obtain ⟨L, r, e⟩ := S
          dsimp only at hlen hrest hs he ⊢
          subst he
          have t3 := fun H => refTake_spec' r (by omega) H
          rw [if_pos rfl] at hs
          generalize tk r = y at *
          obtain ⟨k, r', e'⟩ := y
          dsimp only at hs
          have er : rs r 0 = r := rfl
          rw [er]
          refine wk (wA hc (wA hlen wT)) (wA t3 (wA holM_SvcF_14 (wA DrM.mk wT))) ?_
          refine ⟨⟨i + 1, by omega⟩, ?_, by dsimp only; omega⟩
          dsimp only
          rw [hs]
          exact Coe.kp
        · obtain rfl : i = 4 := by omega
          clear hs
          generalize tk4 r2 e2 4 = S at *
          obtain ⟨L, r, e⟩ := S
          dsimp only at hlen hrest he ⊢
          subst he
          obtain ⟨a, b, c, d, rfl⟩ := list4 hlen
          have em : mkSv n p [a, b, c, d] = ⟨n, p, a, b, c, decide (d = 1)⟩ := rfl
          have ei : intC [a, b, c, d] = [vi a, vi b, vi c, vi d] := rfl
          have ed : [a, b, c, d].getD 3 0 = d := rfl
          have er : rs r 0 = r := rfl
          rw [em, ei, ed, er]
          rw [if_neg (by simp)]
          by_cases hr : (0 : Int) < (r.length : Int)
          · rw [if_pos (.inl (by omega))]
            refine wk (wA hr wT) (wA holM_SvcF_14 (wA DrM.mk wT)) ?_
            refine wkEnd wT ?_
            exact Fin.cut (ltS6 _ _ _ _ _ _ _) ⟨rfl, rfl⟩
          · by_cases hd : (1 : Int) < d
            · rw [if_pos (.inr (.inl hd))]
              refine wk (wA hr (wA hd wT)) (wA holM_SvcF_14 (wA DrM.mk wT)) ?_
              refine wkEnd wT ?_
              exact Fin.cut (ltS6 _ _ _ _ _ _ _) ⟨rfl, rfl⟩
            · have h7 := fun H => refRight15_spec ⟨n, p, a, b, c, decide (d = 1)⟩ (by dsimp only; omega) (by dsimp only; omega) H
              cases ho : svOk ⟨n, p, a, b, c, decide (d = 1)⟩ with
              | false =>
                rw [ho] at h7
                rw [if_pos (.inr (.inr rfl))]
                refine wk (wA hr (wA hd wT)) (wA h7 (wA holM_SvcF_14 (wA DrM.mk wT))) ?_
                refine wkEnd wT ?_
                exact Fin.cut (ltS6 _ _ _ _ _ _ _) ⟨rfl, rfl⟩
              | true =>
                rw [ho] at h7
                rw [if_neg (by intro h; rcases h with h | h | h <;> first | omega | cases h)]
                refine wk (wA hr (wA hd wT)) (wA h7 (wA holM_SvcF_14 (wA DrM.mk wT))) ?_
                refine wkEnd wT ?_
                exact Fin.cut (ltS6 _ _ _ _ _ _ _) ⟨rfl, rfl⟩
      · rw [h4 he]
        clear h4 hs
        generalize tk4 r2 e2 i = S at *
        obtain ⟨L, r, e⟩ := S
        dsimp only at he ⊢
        rw [if_pos he]
        by_cases hc : (i : Int) < 4
        · refine wk (wA hc (wA he wT)) (wA holM_SvcF_14 (wA DrM.mk wT)) ?_
          refine wkEnd wT ?_
          exact Fin.cut (ltS6 _ _ _ _ _ _ _) ⟨rfl, rfl⟩
        · refine wk (wA hc (wA he wT)) (wA holM_SvcF_14 (wA DrM.mk wT)) ?_
          refine wkEnd wT ?_
          exact Fin.cut (ltS6 _ _ _ _ _ _ _) ⟨rfl, rfl⟩
  · rw [if_pos h1]
    refine ASpec.enter Tryd.func10 rfl (fun a w => Tryd.call10 a w) Tryd.ntmps10 Tryd.results10 fun base w β hI => ?_
    refine wk (wA h1 wT) (wA t1 (wA holM_SvcF_14 (wA DrM.mk wT))) ?_
    refine AWP.loop (ι := Unit) (fun _ => ⟨[(2, .ptr H.length 0 0), (7, vi e1), (8, vi 0)], H ++ [⟨svC svZ, 0, 0, false⟩, ⟨svC ⟨n, [], 0, 0, 0, false⟩, 0, 0, false⟩, ⟨intC [0, 0, 0, 0], 0, 0, false⟩]⟩) (fun _ => 0) () ?_ ?_
    · exact Coe.kp
    · intro _
      refine wk (wA h1 wT) (wA holM_SvcF_14 (wA DrM.mk wT)) ?_
      refine wkEnd wT ?_
      exact Fin.cut (ltS6 _ _ _ _ _ _ _) ⟨rfl, rfl⟩

end Go.Proofs.YtnoekcdmaaakfaaDoor.VL
