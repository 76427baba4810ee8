/- Layers 4, 7: whether digests and entries may be, as the program and the reference look at them. -/
import Derived.Test.YtjkdahpoalnjjaaDoorZEa
import Derived.Test.YtjkdahpoalnjjaaDoorZCd
import Derived.Test.YtjkdahpoalnjjaaDoorZEntA
-- STEPWISE
-- WK
set_option linter.unusedVariables false
set_option linter.unusedSimpArgs false
set_option maxRecDepth 10000
namespace Go.Proofs.YtjkdahpoalnjjaaDoor.VL
open Go Go.RowKit Go.Lib

set_option maxHeartbeats 4000000 in
theorem dgRight_spec (l : List Dg) (hl : l.length ≤ 9223372036854775807) (H : List Box) : ASpec Tryd.prog 44 [.lst 3 (dgG l)] H (Gives (vb (dgOk l)) H) := by
  refine ASpec.enter Tryd.func44 rfl (fun a w => Tryd.call44 a w) Tryd.ntmps44 Tryd.results44 fun base w β hI => ?_
  refine wk wT (wA DrM.mk wT) ?_
  refine AWP.loop (ι := {p : Nat × Int // p.1 ≤ l.length ∧ -1 ≤ p.2 ∧ dgOk l = dgGo p.2 (l.drop p.1)}) (fun p => ⟨[(3, vi p.1.2), (6, .lst 3 (dgG l)), (7, vi l.length), (8, vi p.1.1)], H⟩) (fun p => l.length - p.1.1) ⟨(0, -1), Nat.zero_le _, Int.le_refl _, rfl⟩ ?_ ?_
  · dsimp only
    exact Coe.kp
  · rintro ⟨⟨i, last⟩, hi, h0, he⟩
    dsimp only at hi h0 he ⊢
    by_cases hc : (i : Int) < (l.length : Int)
    · have hg : l[i]? = some l[i] := List.getElem?_eq_getElem (by omega)
      rw [dgGo_drop hg] at he
      generalize l[i] = x at *
      obtain ⟨n, g, v⟩ := x
      dsimp only at he
      by_cases q0 : n ≤ last
      · rw [decide_eq_false (show ¬ last < n by omega)] at he
        simp only [Bool.false_and, Bool.and_false] at he
        rw [he]
        refine wk (wA hc (wA hg (wA q0 wT))) (wA DrM.mk wT) ?_
        refine wkEnd wT ?_
        exact Fin.cut (.v _) ⟨rfl, rfl⟩
      · rw [decide_eq_true (show last < n by omega)] at he
        simp only [Bool.true_and] at he
        by_cases q1 : (8 : Int) ≤ n
        · rw [decide_eq_false (show ¬ n < 8 by omega)] at he
          simp only [Bool.false_and, Bool.and_false] at he
          rw [he]
          refine wk (wA hc (wA hg (wA q0 (wA q1 wT)))) (wA DrM.mk wT) ?_
          refine wkEnd wT ?_
          exact Fin.cut (.v _) ⟨rfl, rfl⟩
        · rw [decide_eq_true (show n < 8 by omega)] at he
          simp only [Bool.true_and] at he
          by_cases q2 : g < 1
          · rw [decide_eq_false (show ¬ 1 ≤ g by omega)] at he
            simp only [Bool.false_and, Bool.and_false] at he
            rw [he]
            refine wk (wA hc (wA hg (wA q0 (wA q1 (wA q2 wT))))) (wA DrM.mk wT) ?_
            refine wkEnd wT ?_
            exact Fin.cut (.v _) ⟨rfl, rfl⟩
          · rw [decide_eq_true (show 1 ≤ g by omega)] at he
            simp only [Bool.true_and] at he
            by_cases q3 : (1099511627776 : Int) < g
            · rw [decide_eq_false (show ¬ g ≤ 1099511627776 by omega)] at he
              simp only [Bool.false_and, Bool.and_false] at he
              rw [he]
              refine wk (wA hc (wA hg (wA q0 (wA q1 (wA q2 (wA q3 wT)))))) (wA DrM.mk wT) ?_
              refine wkEnd wT ?_
              exact Fin.cut (.v _) ⟨rfl, rfl⟩
            · rw [decide_eq_true (show g ≤ 1099511627776 by omega)] at he
              simp only [Bool.true_and] at he
              by_cases q4 : v < 0
              · rw [decide_eq_false (show ¬ 0 ≤ v by omega)] at he
                simp only [Bool.false_and, Bool.and_false] at he
                rw [he]
                refine wk (wA hc (wA hg (wA q0 (wA q1 (wA q2 (wA q3 (wA q4 wT))))))) (wA DrM.mk wT) ?_
                refine wkEnd wT ?_
                exact Fin.cut (.v _) ⟨rfl, rfl⟩
              · rw [decide_eq_true (show 0 ≤ v by omega)] at he
                simp only [Bool.true_and] at he
                by_cases q5 : (1099511627776 : Int) < v
                · rw [decide_eq_false (show ¬ v ≤ 1099511627776 by omega)] at he
                  simp only [Bool.false_and, Bool.and_false] at he
                  rw [he]
                  refine wk (wA hc (wA hg (wA q0 (wA q1 (wA q2 (wA q3 (wA q4 (wA q5 wT)))))))) (wA DrM.mk wT) ?_
                  refine wkEnd wT ?_
                  exact Fin.cut (.v _) ⟨rfl, rfl⟩
                · rw [decide_eq_true (show v ≤ 1099511627776 by omega)] at he
                  simp only [Bool.true_and] at he
                  refine wk (wA hc (wA hg (wA q0 (wA q1 (wA q2 (wA q3 (wA q4 (wA q5 wT)))))))) (wA DrM.mk wT) ?_
                  refine ⟨⟨(i + 1, n), by dsimp only; omega, by dsimp only; omega, he⟩, ?_, by dsimp only; omega⟩
                  dsimp only
                  exact Coe.cut0 (Keeps.kp wT) (fun p hp => by simp only [List.mem_cons, List.not_mem_nil, or_false] at hp; rcases hp with rfl | rfl | rfl | rfl <;> first | exact .v _ | exact lt_dg _)
    · rw [List.drop_of_length_le (by omega), dgGo] at he
      rw [he]
      refine wk (wA hc wT) (wA DrM.mk wT) ?_
      refine wkEnd wT ?_
      exact Fin.same ⟨rfl, rfl⟩

set_option maxHeartbeats 8000000 in
theorem refDgRight_spec (l : List Dg) (hl : l.length ≤ 9223372036854775807) (H : List Box) : ASpec Tryd.prog 35 [.lst 3 (dgG l)] H (Gives (vb (dgOk l)) H) := by
  refine ASpec.enter Tryd.func35 rfl (fun a w => Tryd.call35 a w) Tryd.ntmps35 Tryd.results35 fun base w β hI => ?_
  refine wk wT (wA DrM.mk wT) ?_
  refine AWP.loop (ι := {p : Nat × Int // p.1 ≤ l.length ∧ -1 ≤ p.2 ∧ dgOk l = dgGo p.2 (l.drop p.1) ∧ (p.1 ≠ 0 → p.2 = (l[p.1 - 1]?.getD dgZ).n) ∧ (p.1 = 0 → p.2 = -1)}) (fun p => ⟨[(0, .lst 3 (dgG l)), (3, vi p.1.1)], H⟩) (fun p => l.length - p.1.1) ⟨(0, -1), Nat.zero_le _, Int.le_refl _, rfl, fun h => absurd rfl h, fun _ => rfl⟩ ?_ ?_
  · dsimp only
    exact Coe.kp
  · rintro ⟨⟨i, last⟩, hi, h0, he, hp, hz⟩
    dsimp only at hi h0 he hp hz ⊢
    by_cases hc : (i : Int) < (l.length : Int)
    · have hg : l[i]? = some l[i] := List.getElem?_eq_getElem (by omega)
      rw [dgGo_drop hg] at he
      by_cases hi0 : (0 : Int) < (i : Int)
      · have hgp : l[i - 1]? = some l[i - 1] := List.getElem?_eq_getElem (by omega)
        have hlast := hp (by omega)
        generalize l[i] = x at *
        generalize l[i - 1] = y at hgp
        rw [hgp] at hlast
        obtain ⟨n, g, v⟩ := x
        obtain ⟨n', g', v'⟩ := y
        have hlast : last = n' := hlast
        subst hlast
        have hn1 : ((i : Int) - 1).toNat = i - 1 := by omega
        dsimp only at he
        clear hp hz
        by_cases qa : n < 0
        · rw [decide_eq_false (show ¬ last < n by omega)] at he
          simp only [Bool.false_and, Bool.and_false] at he
          rw [he]
          refine wk (wA hc (wA hg (wA qa wT))) (wA DrM.mk wT) ?_
          refine wkEnd wT ?_
          exact Fin.cut (.v _) ⟨rfl, rfl⟩
        · by_cases qb : (8 : Int) ≤ n
          · have hf : dgOk l = false := by
              rw [he, decide_eq_false (show ¬ n < 8 by omega)]
              simp only [Bool.false_and, Bool.and_false]
            rw [hf]
            refine wk (wA hc (wA hg (wA qa (wA qb wT)))) (wA DrM.mk wT) ?_
            refine wkEnd wT ?_
            exact Fin.cut (.v _) ⟨rfl, rfl⟩
          · rw [decide_eq_true (show n < 8 by omega)] at he
            simp only [Bool.true_and] at he
            by_cases q0 : n ≤ last
            · rw [decide_eq_false (show ¬ last < n by omega)] at he
              simp only [Bool.false_and, Bool.and_false] at he
              rw [he]
              refine wk (wA hc (wA hg (wA qa (wA qb (wA hi0 (wA hn1 (wA hgp (wA q0 wT)))))))) (wA DrM.mk wT) ?_
              refine wkEnd wT ?_
              exact Fin.cut (.v _) ⟨rfl, rfl⟩
            · rw [decide_eq_true (show last < n by omega)] at he
              simp only [Bool.true_and] at he
              by_cases q1 : g < 1
              · rw [decide_eq_false (show ¬ 1 ≤ g by omega)] at he
                simp only [Bool.false_and, Bool.and_false] at he
                rw [he]
                refine wk (wA hc (wA hg (wA qa (wA qb (wA hi0 (wA hn1 (wA hgp (wA q0 (wA q1 wT))))))))) (wA DrM.mk wT) ?_
                refine wkEnd wT ?_
                exact Fin.cut (.v _) ⟨rfl, rfl⟩
              · rw [decide_eq_true (show 1 ≤ g by omega)] at he
                simp only [Bool.true_and] at he
                by_cases q2 : (1099511627776 : Int) < g
                · rw [decide_eq_false (show ¬ g ≤ 1099511627776 by omega)] at he
                  simp only [Bool.false_and, Bool.and_false] at he
                  rw [he]
                  refine wk (wA hc (wA hg (wA qa (wA qb (wA hi0 (wA hn1 (wA hgp (wA q0 (wA q1 (wA q2 wT)))))))))) (wA DrM.mk wT) ?_
                  refine wkEnd wT ?_
                  exact Fin.cut (.v _) ⟨rfl, rfl⟩
                · rw [decide_eq_true (show g ≤ 1099511627776 by omega)] at he
                  simp only [Bool.true_and] at he
                  by_cases q3 : v < 0
                  · rw [decide_eq_false (show ¬ 0 ≤ v by omega)] at he
                    simp only [Bool.false_and, Bool.and_false] at he
                    rw [he]
                    refine wk (wA hc (wA hg (wA qa (wA qb (wA hi0 (wA hn1 (wA hgp (wA q0 (wA q1 (wA q2 (wA q3 wT))))))))))) (wA DrM.mk wT) ?_
                    refine wkEnd wT ?_
                    exact Fin.cut (.v _) ⟨rfl, rfl⟩
                  · rw [decide_eq_true (show 0 ≤ v by omega)] at he
                    simp only [Bool.true_and] at he
                    by_cases q4 : (1099511627776 : Int) < v
                    · rw [decide_eq_false (show ¬ v ≤ 1099511627776 by omega)] at he
                      simp only [Bool.false_and, Bool.and_false] at he
                      rw [he]
                      refine wk (wA hc (wA hg (wA qa (wA qb (wA hi0 (wA hn1 (wA hgp (wA q0 (wA q1 (wA q2 (wA q3 (wA q4 wT)))))))))))) (wA DrM.mk wT) ?_
                      refine wkEnd wT ?_
                      exact Fin.cut (.v _) ⟨rfl, rfl⟩
                    · rw [decide_eq_true (show v ≤ 1099511627776 by omega)] at he
                      simp only [Bool.true_and] at he
                      have he2 := he
                      refine wk (wA hc (wA hg (wA qa (wA qb (wA hi0 (wA hn1 (wA hgp (wA q0 (wA q1 (wA q2 (wA q3 (wA q4 wT)))))))))))) (wA DrM.mk wT) ?_
                      refine ⟨⟨(i + 1, n), by dsimp only; omega, by dsimp only; omega, he2, fun h => by dsimp only; rw [Nat.add_sub_cancel, hg]; rfl, fun h => absurd h (Nat.succ_ne_zero i)⟩, ?_, by dsimp only; omega⟩
                      dsimp only
                      exact Coe.cut0 (Keeps.kp wT) (fun p hp => by simp only [List.mem_cons, List.not_mem_nil, or_false] at hp; rcases hp with rfl | rfl <;> first | exact .v _ | exact lt_dg _)
      · obtain rfl : i = 0 := by omega
        obtain rfl := hz rfl
        generalize l[0] = x at *
        obtain ⟨n, g, v⟩ := x
        dsimp only at he
        clear hp hz
        have hmem := hg
        by_cases q0 : n < 0
        · rw [decide_eq_false (show ¬ (-1 : Int) < n by omega)] at he
          simp only [Bool.false_and, Bool.and_false] at he
          rw [he]
          refine wk (wA hc (wA hg (wA hi0 (wA q0 wT)))) (wA DrM.mk wT) ?_
          refine wkEnd wT ?_
          exact Fin.cut (.v _) ⟨rfl, rfl⟩
        · rw [decide_eq_true (show (-1 : Int) < n by omega)] at he
          simp only [Bool.true_and] at he
          by_cases q1 : (8 : Int) ≤ n
          · rw [decide_eq_false (show ¬ n < 8 by omega)] at he
            simp only [Bool.false_and, Bool.and_false] at he
            rw [he]
            refine wk (wA hc (wA hg (wA hi0 (wA q0 (wA q1 wT))))) (wA DrM.mk wT) ?_
            refine wkEnd wT ?_
            exact Fin.cut (.v _) ⟨rfl, rfl⟩
          · rw [decide_eq_true (show n < 8 by omega)] at he
            simp only [Bool.true_and] at he
            by_cases q2 : g < 1
            · rw [decide_eq_false (show ¬ 1 ≤ g by omega)] at he
              simp only [Bool.false_and, Bool.and_false] at he
              rw [he]
              refine wk (wA hc (wA hg (wA hi0 (wA q0 (wA q1 (wA q2 wT)))))) (wA DrM.mk wT) ?_
              refine wkEnd wT ?_
              exact Fin.cut (.v _) ⟨rfl, rfl⟩
            · rw [decide_eq_true (show 1 ≤ g by omega)] at he
              simp only [Bool.true_and] at he
              by_cases q3 : (1099511627776 : Int) < g
              · rw [decide_eq_false (show ¬ g ≤ 1099511627776 by omega)] at he
                simp only [Bool.false_and, Bool.and_false] at he
                rw [he]
                refine wk (wA hc (wA hg (wA hi0 (wA q0 (wA q1 (wA q2 (wA q3 wT))))))) (wA DrM.mk wT) ?_
                refine wkEnd wT ?_
                exact Fin.cut (.v _) ⟨rfl, rfl⟩
              · rw [decide_eq_true (show g ≤ 1099511627776 by omega)] at he
                simp only [Bool.true_and] at he
                by_cases q4 : v < 0
                · rw [decide_eq_false (show ¬ 0 ≤ v by omega)] at he
                  simp only [Bool.false_and, Bool.and_false] at he
                  rw [he]
                  refine wk (wA hc (wA hg (wA hi0 (wA q0 (wA q1 (wA q2 (wA q3 (wA q4 wT)))))))) (wA DrM.mk wT) ?_
                  refine wkEnd wT ?_
                  exact Fin.cut (.v _) ⟨rfl, rfl⟩
                · rw [decide_eq_true (show 0 ≤ v by omega)] at he
                  simp only [Bool.true_and] at he
                  by_cases q5 : (1099511627776 : Int) < v
                  · rw [decide_eq_false (show ¬ v ≤ 1099511627776 by omega)] at he
                    simp only [Bool.false_and, Bool.and_false] at he
                    rw [he]
                    refine wk (wA hc (wA hg (wA hi0 (wA q0 (wA q1 (wA q2 (wA q3 (wA q4 (wA q5 wT))))))))) (wA DrM.mk wT) ?_
                    refine wkEnd wT ?_
                    exact Fin.cut (.v _) ⟨rfl, rfl⟩
                  · rw [decide_eq_true (show v ≤ 1099511627776 by omega)] at he
                    simp only [Bool.true_and] at he
                    have he2 := he
                    refine wk (wA hc (wA hg (wA hi0 (wA q0 (wA q1 (wA q2 (wA q3 (wA q4 (wA q5 wT))))))))) (wA DrM.mk wT) ?_
                    refine ⟨⟨(0 + 1, n), by dsimp only; omega, by dsimp only; omega, he2, fun h => by dsimp only; rw [Nat.add_sub_cancel, hg]; rfl, fun h => absurd h (Nat.succ_ne_zero 0)⟩, ?_, by dsimp only; omega⟩
                    dsimp only
                    exact Coe.cut0 (Keeps.kp wT) (fun p hp => by simp only [List.mem_cons, List.not_mem_nil, or_false] at hp; rcases hp with rfl | rfl <;> first | exact .v _ | exact lt_dg _)
    · rw [List.drop_of_length_le (by omega), dgGo] at he
      rw [he]
      refine wk (wA hc wT) (wA DrM.mk wT) ?_
      refine wkEnd wT ?_
      exact Fin.same ⟨rfl, rfl⟩

set_option maxHeartbeats 1000000 in
theorem enMay_spec (x : En) (hs : x.s.length ≤ 9223372036854775807) (H : List Box) : ASpec Tryd.prog 104 [.agg (enC x)] H (Gives (vb (mayE x)) H) := by
  obtain ⟨k, v, s⟩ := x
  dsimp only at hs
  have he : mayE ⟨k, v, s⟩ = (decide (0 ≤ k) && (decide (k < 12) && (decide (1 ≤ v) && (decide (v ≤ 1099511627776) && decide (s.length ≤ 200))))) := rfl
  generalize hm : mayE ⟨k, v, s⟩ = m at *
  clear hm
  by_cases q0 : 0 ≤ k
  · rw [decide_eq_true (show 0 ≤ k by omega)] at he
    try simp only [Bool.true_and] at he
    by_cases q1 : k < 12
    · rw [decide_eq_true (show k < 12 by omega)] at he
      try simp only [Bool.true_and] at he
      by_cases q2 : 1 ≤ v
      · rw [decide_eq_true (show 1 ≤ v by omega)] at he
        try simp only [Bool.true_and] at he
        by_cases q3 : v ≤ 1099511627776
        · rw [decide_eq_true (show v ≤ 1099511627776 by omega)] at he
          try simp only [Bool.true_and] at he
          by_cases q4 : (s.length : Int) ≤ 200
          · rw [decide_eq_true (show s.length ≤ 200 by omega)] at he
            try simp only [Bool.true_and] at he
            rw [he]
            refine ASpec.enter Tryd.func104 rfl (fun a w => Tryd.call104 a w) Tryd.ntmps104 Tryd.results104 fun base w β hI => ?_
            refine wk (wA q0 (wA q1 (wA q2 (wA q3 (wA q4 wT))))) (wA DrM.mk wT) ?_
            refine wkEnd wT ?_
            exact Fin.cut (.v _) ⟨rfl, rfl⟩
          · rw [decide_eq_false (show ¬ s.length ≤ 200 by omega)] at he
            try simp only [Bool.false_and, Bool.and_false] at he
            rw [he]
            refine ASpec.enter Tryd.func104 rfl (fun a w => Tryd.call104 a w) Tryd.ntmps104 Tryd.results104 fun base w β hI => ?_
            refine wk (wA q0 (wA q1 (wA q2 (wA q3 (wA q4 wT))))) (wA DrM.mk wT) ?_
            refine wkEnd wT ?_
            exact Fin.cut (.v _) ⟨rfl, rfl⟩
        · rw [decide_eq_false (show ¬ v ≤ 1099511627776 by omega)] at he
          try simp only [Bool.false_and, Bool.and_false] at he
          rw [he]
          refine ASpec.enter Tryd.func104 rfl (fun a w => Tryd.call104 a w) Tryd.ntmps104 Tryd.results104 fun base w β hI => ?_
          refine wk (wA q0 (wA q1 (wA q2 (wA q3 wT)))) (wA DrM.mk wT) ?_
          refine wkEnd wT ?_
          exact Fin.cut (.v _) ⟨rfl, rfl⟩
      · rw [decide_eq_false (show ¬ 1 ≤ v by omega)] at he
        try simp only [Bool.false_and, Bool.and_false] at he
        rw [he]
        refine ASpec.enter Tryd.func104 rfl (fun a w => Tryd.call104 a w) Tryd.ntmps104 Tryd.results104 fun base w β hI => ?_
        refine wk (wA q0 (wA q1 (wA q2 wT))) (wA DrM.mk wT) ?_
        refine wkEnd wT ?_
        exact Fin.cut (.v _) ⟨rfl, rfl⟩
    · rw [decide_eq_false (show ¬ k < 12 by omega)] at he
      try simp only [Bool.false_and, Bool.and_false] at he
      rw [he]
      refine ASpec.enter Tryd.func104 rfl (fun a w => Tryd.call104 a w) Tryd.ntmps104 Tryd.results104 fun base w β hI => ?_
      refine wk (wA q0 (wA q1 wT)) (wA DrM.mk wT) ?_
      refine wkEnd wT ?_
      exact Fin.cut (.v _) ⟨rfl, rfl⟩
  · rw [decide_eq_false (show ¬ 0 ≤ k by omega)] at he
    try simp only [Bool.false_and, Bool.and_false] at he
    rw [he]
    refine ASpec.enter Tryd.func104 rfl (fun a w => Tryd.call104 a w) Tryd.ntmps104 Tryd.results104 fun base w β hI => ?_
    refine wk (wA q0 wT) (wA DrM.mk wT) ?_
    refine wkEnd wT ?_
    exact Fin.cut (.v _) ⟨rfl, rfl⟩

set_option maxHeartbeats 2000000 in
theorem enRight_spec (l : List En) (hl : l.length ≤ 9223372036854775807) (hs : ∀ x ∈ l, x.s.length ≤ 9223372036854775807) (H : List Box) : ASpec Tryd.prog 102 [.lst 3 (enG l)] H (Gives (vb (tabOk l)) H) := by
  refine ASpec.enter Tryd.func102 rfl (fun a w => Tryd.call102 a w) Tryd.ntmps102 Tryd.results102 fun base w β hI => ?_
  refine wk wT (wA DrM.mk wT) ?_
  refine AWP.loop (ι := {p : Nat × Int // p.1 ≤ l.length ∧ tabOk l = tabGo p.2 (l.drop p.1)}) (fun p => ⟨[(3, vi p.1.2), (6, .lst 3 (enG l)), (7, vi l.length), (8, vi p.1.1)], H⟩) (fun p => l.length - p.1.1) ⟨(0, -1), Nat.zero_le _, rfl⟩ ?_ ?_
  · dsimp only
    exact Coe.kp
  · rintro ⟨⟨i, last⟩, hi, he⟩
    dsimp only at hi he ⊢
    by_cases hc : (i : Int) < (l.length : Int)
    · have hg : l[i]? = some l[i] := List.getElem?_eq_getElem (by omega)
      have hm := fun H => enMay_spec l[i] (hs _ (List.getElem_mem _)) H
      rw [tabGo_drop hg] at he
      generalize l[i] = x at *
      cases hmx : mayE x with
      | false =>
        rw [hmx] at hm he
        simp only [Bool.false_and, Bool.and_false] at he
        rw [he]
        obtain ⟨k, v, s⟩ := x
        by_cases q0 : k ≤ last
        · refine wk (wA hc (wA hg (wA q0 wT))) (wA hm (wA DrM.mk wT)) ?_
          refine wkEnd wT ?_
          exact Fin.cut (.v _) ⟨rfl, rfl⟩
        · refine wk (wA hc (wA hg (wA q0 wT))) (wA hm (wA DrM.mk wT)) ?_
          refine wkEnd wT ?_
          exact Fin.cut (.v _) ⟨rfl, rfl⟩
      | true =>
        rw [hmx] at hm he
        rw [Bool.true_and] at he
        obtain ⟨k, v, s⟩ := x
        dsimp only at he
        by_cases q0 : k ≤ last
        · rw [decide_eq_false (show ¬ last < k by omega), Bool.false_and] at he
          rw [he]
          refine wk (wA hc (wA hg (wA q0 wT))) (wA hm (wA DrM.mk wT)) ?_
          refine wkEnd wT ?_
          exact Fin.cut (.v _) ⟨rfl, rfl⟩
        · rw [decide_eq_true (show last < k by omega), Bool.true_and] at he
          refine wk (wA hc (wA hg (wA q0 wT))) (wA hm (wA DrM.mk wT)) ?_
          refine ⟨⟨(i + 1, k), by dsimp only; omega, he⟩, ?_, by dsimp only; omega⟩
          dsimp only
          exact Coe.cut0 (Keeps.kp wT) (fun p hp => by simp only [List.mem_cons, List.not_mem_nil, or_false] at hp; rcases hp with rfl | rfl | rfl | rfl <;> first | exact .v _ | exact lt_en _)
    · rw [List.drop_of_length_le (by omega), tabGo] at he
      rw [he]
      refine wk (wA hc wT) (wA DrM.mk wT) ?_
      refine wkEnd wT ?_
      exact Fin.same ⟨rfl, rfl⟩

end Go.Proofs.YtjkdahpoalnjjaaDoor.VL
