/- Layer 8: whether deltas may be, as the reference looks at them: the loop. -/
import Derived.Test.YtjkdahpoalnjjaaDoorZMa
-- STEPWISE
-- WK
set_option linter.unusedVariables false
set_option linter.unusedSimpArgs false
set_option maxRecDepth 10000
namespace Go.Proofs.YtjkdahpoalnjjaaDoor.VL
open Go Go.RowKit Go.Lib

set_option maxHeartbeats 4000000 in
theorem refDlRight_spec (l : List Dl) (hl : l.length ≤ 9223372036854775807) (hd : ∀ d ∈ l, DlIn d) (H : List Box) : ASpec Tryd.prog 36 [.lst 5 (dlG l)] H (Gives (vb (dlOk l)) H) := by
  refine ASpec.enter Tryd.func36 rfl (fun a w => Tryd.call36 a w) Tryd.ntmps36 Tryd.results36 fun base w β hI => ?_
  refine wk wT (wA DrM.mk wT) ?_
  refine AWP.loop (ι := {p : Nat × Int // p.1 ≤ l.length ∧ dlOk l = dlGo p.2 (l.drop p.1) ∧ (p.1 = 0 → p.2 = -1) ∧ (∀ d, p.1 ≠ 0 → l[p.1 - 1]? = some d → d.n = p.2)}) (fun p => ⟨[(0, .lst 5 (dlG l)), (3, vi p.1.1)], H⟩) (fun p => l.length - p.1.1) ⟨(0, -1), Nat.zero_le _, rfl, fun _ => rfl, fun _ h => absurd rfl h⟩ ?_ ?_
  · dsimp only
    exact Coe.kp
  · rintro ⟨⟨i, last⟩, hi, he, h0, h1⟩
    dsimp only at hi he h0 h1 ⊢
    by_cases hc : (i : Int) < (l.length : Int)
    · have hg : l[i]? = some l[i] := List.getElem?_eq_getElem (by omega)
      have hin := hd l[i] (List.getElem_mem _)
      rw [dlGo_drop hg] at he
      generalize l[i] = x at *
      have hr := fun H => refStRight_spec x.s hin.1 hin.2 H
      have ha := fun (hst : stOk x.s = true) H => refAbove5_spec x.s x.f (stOk_len hst) H
      have haa := aboveL_all x.f x.s.a
      have hla := aboveL_len x.f x.s.a
      obtain ⟨n, f, g, b, a⟩ := x
      have hM : mayD ⟨n, f, g, b, a⟩ = (decide (0 ≤ n) && (decide (n < 8) && (decide (0 ≤ f) && (decide (f ≤ 1099511627776) && (stOk ⟨g, b, a⟩ && aboveAll f a))))) := rfl
      rw [hM] at he
      dsimp only at he hr ha haa hla hin
      rw [haa] at he
      generalize hA : aboveL f a = A at *
      have hal : a.length ≤ 9223372036854775807 := hin.1
      clear hA haa hd hin hM
      rcases i with _ | j
      · have hlast : last = -1 := h0 rfl
        subst hlast
        clear h0 h1
        by_cases q0 : n < 0
        · rw [decide_eq_false (show ¬ 0 ≤ n by omega)] at he
          simp only [Bool.false_and, Bool.and_false] at he
          rw [he]
          clear hr ha
          refine wk (wA hc (wA hg (wA q0 wT))) (wA DrM.mk wT) ?_
          refine wkEnd wT ?_
          exact Fin.cut (.v _) ⟨rfl, rfl⟩
        · rw [decide_eq_true (show 0 ≤ n by omega)] at he
          try simp only [Bool.true_and] at he
          by_cases q1 : 8 ≤ n
          · rw [decide_eq_false (show ¬ n < 8 by omega)] at he
            simp only [Bool.false_and, Bool.and_false] at he
            rw [he]
            clear hr ha
            refine wk (wA hc (wA hg (wA q0 (wA q1 wT)))) (wA DrM.mk wT) ?_
            refine wkEnd wT ?_
            exact Fin.cut (.v _) ⟨rfl, rfl⟩
          · rw [decide_eq_true (show n < 8 by omega)] at he
            try simp only [Bool.true_and] at he
            by_cases q2 : f < 0
            · rw [decide_eq_false (show ¬ 0 ≤ f by omega)] at he
              simp only [Bool.false_and, Bool.and_false] at he
              rw [he]
              clear hr ha
              refine wk (wA hc (wA hg (wA q0 (wA q1 (wA q2 wT))))) (wA DrM.mk wT) ?_
              refine wkEnd wT ?_
              exact Fin.cut (.v _) ⟨rfl, rfl⟩
            · rw [decide_eq_true (show 0 ≤ f by omega)] at he
              try simp only [Bool.true_and] at he
              by_cases q3 : (1099511627776 : Int) < f
              · rw [decide_eq_false (show ¬ f ≤ 1099511627776 by omega)] at he
                simp only [Bool.false_and, Bool.and_false] at he
                rw [he]
                clear hr ha
                refine wk (wA hc (wA hg (wA q0 (wA q1 (wA q2 (wA q3 wT)))))) (wA DrM.mk wT) ?_
                refine wkEnd wT ?_
                exact Fin.cut (.v _) ⟨rfl, rfl⟩
              · rw [decide_eq_true (show f ≤ 1099511627776 by omega)] at he
                try simp only [Bool.true_and] at he
                rw [decide_eq_true (show -1 < n by omega)] at he
                try simp only [Bool.true_and] at he
                cases hst : stOk ⟨g, b, a⟩ with
                | false =>
                  rw [hst] at hr he
                  simp only [Bool.false_and, Bool.and_false] at he
                  rw [he]
                  clear ha
                  refine wk (wA hc (wA hg (wA q0 (wA q1 (wA q2 (wA q3 wT)))))) (wA hr (wA DrM.mk wT)) ?_
                  refine wkEnd wT ?_
                  exact Fin.cut (.v _) ⟨rfl, rfl⟩
                | true =>
                  have ha := ha hst
                  rw [hst] at hr he
                  simp only [Bool.true_and] at he
                  by_cases ql : A.length = a.length
                  · rw [decide_eq_true ql] at he
                    try simp only [Bool.true_and] at he
                    refine wk (wA hc (wA hg (wA q0 (wA q1 (wA q2 (wA q3 (wA ql wT))))))) (wA hr (wA ha (wA DrM.mk wT))) ?_
                    refine ⟨⟨(1, n), by dsimp only; omega, he, fun h => by simp at h, fun d _ h => by simp only [Nat.sub_self] at h; rw [hg] at h; obtain rfl := Option.some.inj h; rfl⟩, ?_, by dsimp only; omega⟩
                    dsimp only
                    exact Coe.cut0 (Keeps.kp wT) (fun p hp => by simp only [List.mem_cons, List.not_mem_nil, or_false] at hp; rcases hp with rfl | rfl <;> first | exact .v _ | exact lt_dl _)
                  · rw [decide_eq_false ql] at he
                    simp only [Bool.false_and, Bool.and_false] at he
                    rw [he]
                    have ql' : ¬ (A.length : Int) = (a.length : Int) := by omega
                    refine wk (wA hc (wA hg (wA q0 (wA q1 (wA q2 (wA q3 (wA ql' wT))))))) (wA hr (wA ha (wA DrM.mk wT))) ?_
                    refine wkEnd wT ?_
                    exact Fin.cut (.v _) ⟨rfl, rfl⟩
      · generalize hj : j + 1 = k at *
        have hk : (0 : Int) < (k : Int) := by omega
        obtain ⟨y, hy⟩ : ∃ y, l[k - 1]? = some y := ⟨_, List.getElem?_eq_getElem (by omega)⟩
        have hl' := h1 y (by omega) hy
        obtain ⟨yn, yf, yg, yb, ya⟩ := y
        have hz : ((k : Int) - 1).toNat = k - 1 := by omega
        dsimp only at hl'
        subst hl'
        clear h0 h1
        by_cases q0 : n < 0
        · rw [decide_eq_false (show ¬ 0 ≤ n by omega)] at he
          simp only [Bool.false_and, Bool.and_false] at he
          rw [he]
          clear hr ha
          refine wk (wA hc (wA hg (wA hk (wA hz (wA hy (wA q0 wT)))))) (wA DrM.mk wT) ?_
          refine wkEnd wT ?_
          exact Fin.cut (.v _) ⟨rfl, rfl⟩
        · rw [decide_eq_true (show 0 ≤ n by omega)] at he
          try simp only [Bool.true_and] at he
          by_cases q1 : 8 ≤ n
          · rw [decide_eq_false (show ¬ n < 8 by omega)] at he
            simp only [Bool.false_and, Bool.and_false] at he
            rw [he]
            clear hr ha
            refine wk (wA hc (wA hg (wA hk (wA hz (wA hy (wA q0 (wA q1 wT))))))) (wA DrM.mk wT) ?_
            refine wkEnd wT ?_
            exact Fin.cut (.v _) ⟨rfl, rfl⟩
          · rw [decide_eq_true (show n < 8 by omega)] at he
            try simp only [Bool.true_and] at he
            by_cases q2 : n ≤ yn
            · rw [decide_eq_false (show ¬ yn < n by omega)] at he
              simp only [Bool.false_and, Bool.and_false] at he
              rw [he]
              clear hr ha
              refine wk (wA hc (wA hg (wA hk (wA hz (wA hy (wA q0 (wA q1 (wA q2 wT)))))))) (wA DrM.mk wT) ?_
              refine wkEnd wT ?_
              exact Fin.cut (.v _) ⟨rfl, rfl⟩
            · rw [decide_eq_true (show yn < n by omega)] at he
              try simp only [Bool.true_and] at he
              by_cases q3 : f < 0
              · rw [decide_eq_false (show ¬ 0 ≤ f by omega)] at he
                simp only [Bool.false_and, Bool.and_false] at he
                rw [he]
                clear hr ha
                refine wk (wA hc (wA hg (wA hk (wA hz (wA hy (wA q0 (wA q1 (wA q2 (wA q3 wT))))))))) (wA DrM.mk wT) ?_
                refine wkEnd wT ?_
                exact Fin.cut (.v _) ⟨rfl, rfl⟩
              · rw [decide_eq_true (show 0 ≤ f by omega)] at he
                try simp only [Bool.true_and] at he
                by_cases q4 : (1099511627776 : Int) < f
                · rw [decide_eq_false (show ¬ f ≤ 1099511627776 by omega)] at he
                  simp only [Bool.false_and, Bool.and_false] at he
                  rw [he]
                  clear hr ha
                  refine wk (wA hc (wA hg (wA hk (wA hz (wA hy (wA q0 (wA q1 (wA q2 (wA q3 (wA q4 wT)))))))))) (wA DrM.mk wT) ?_
                  refine wkEnd wT ?_
                  exact Fin.cut (.v _) ⟨rfl, rfl⟩
                · rw [decide_eq_true (show f ≤ 1099511627776 by omega)] at he
                  try simp only [Bool.true_and] at he
                  cases hst : stOk ⟨g, b, a⟩ with
                  | false =>
                    rw [hst] at hr he
                    simp only [Bool.false_and, Bool.and_false] at he
                    rw [he]
                    clear ha
                    refine wk (wA hc (wA hg (wA hk (wA hz (wA hy (wA q0 (wA q1 (wA q2 (wA q3 (wA q4 wT)))))))))) (wA hr (wA DrM.mk wT)) ?_
                    refine wkEnd wT ?_
                    exact Fin.cut (.v _) ⟨rfl, rfl⟩
                  | true =>
                    have ha := ha hst
                    rw [hst] at hr he
                    simp only [Bool.true_and] at he
                    by_cases ql : A.length = a.length
                    · rw [decide_eq_true ql] at he
                      try simp only [Bool.true_and] at he
                      refine wk (wA hc (wA hg (wA hk (wA hz (wA hy (wA q0 (wA q1 (wA q2 (wA q3 (wA q4 (wA ql wT))))))))))) (wA hr (wA ha (wA DrM.mk wT))) ?_
                      refine ⟨⟨(k + 1, n), by dsimp only; omega, he, fun h => by simp at h, fun d _ h => by simp only [Nat.add_sub_cancel] at h; rw [hg] at h; obtain rfl := Option.some.inj h; rfl⟩, ?_, by dsimp only; omega⟩
                      dsimp only
                      exact Coe.cut0 (Keeps.kp wT) (fun p hp => by simp only [List.mem_cons, List.not_mem_nil, or_false] at hp; rcases hp with rfl | rfl <;> first | exact .v _ | exact lt_dl _)
                    · rw [decide_eq_false ql] at he
                      simp only [Bool.false_and, Bool.and_false] at he
                      rw [he]
                      have ql' : ¬ (A.length : Int) = (a.length : Int) := by omega
                      refine wk (wA hc (wA hg (wA hk (wA hz (wA hy (wA q0 (wA q1 (wA q2 (wA q3 (wA q4 (wA ql' wT))))))))))) (wA hr (wA ha (wA DrM.mk wT))) ?_
                      refine wkEnd wT ?_
                      exact Fin.cut (.v _) ⟨rfl, rfl⟩
    · rw [List.drop_of_length_le (by omega)] at he
      rw [he]
      refine wk (wA hc wT) (wA DrM.mk wT) ?_
      refine wkEnd wT ?_
      exact Fin.same ⟨rfl, rfl⟩

end Go.Proofs.YtjkdahpoalnjjaaDoor.VL
