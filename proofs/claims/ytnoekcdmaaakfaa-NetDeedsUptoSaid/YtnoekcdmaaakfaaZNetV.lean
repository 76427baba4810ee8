/- Layer 25: the document's function that tells whether a net may be; what is asked of a place. -/
import Derived.Test.YtnoekcdmaaakfaaZNetU
-- STEPWISE
-- WK
set_option linter.unusedVariables false
set_option linter.unusedSimpArgs false
set_option maxRecDepth 10000
namespace Go.Proofs.Ytnoekcdmaaakfaa.VL
open Go Go.RowKit Go.Lib

theorem ord8 (p c : Ct) (p1 : 0 ≤ p.a ∧ p.a < 8) (p2 : 0 ≤ p.b ∧ p.b < 8) (c1 : 0 ≤ c.a ∧ c.a < 8) (c2 : 0 ≤ c.b ∧ c.b < 8) : decide (ordC p c < 0) = decide (8 * p.a + p.b < 8 * c.a + c.b) := by
  refine decide_eq_decide.2 ?_
  unfold ordC
  split <;> constructor <;> intro h <;> omega

set_option maxHeartbeats 16000000 in
theorem refRight_spec (n : Nt) (hl : n.fl.length ≤ 9223372036854775807) (hc : n.cu.length ≤ 9223372036854775807) (H : List Box) : ASpec Try.prog 31 [ntV n] H (Gives (vb (ntOk n)) H) := by
  have hnd := fun a H => refNode_spec a H
  obtain ⟨fl, cu⟩ := n
  have hn : ntOk ⟨fl, cu⟩ = (decide (fl.length ≤ 60) && (decide (cu.length ≤ 28) && (fl.all mlOk && chainOk none cu))) := rfl
  dsimp only at *
  refine ASpec.enter Try.func31 rfl (fun a w => Try.call31 a w) Try.ntmps31 Try.results31 fun base w β hI => ?_
  refine wk wT (wA DrM.mk wT) ?_
  refine AWP.loop (ι := {i : Nat // i ≤ fl.length ∧ i ≤ 61 ∧ (fl.take i).all mlOk = true})
    (fun p => ⟨[(1, .ptr H.length 0 0), (3, vi p.1)], H ++ [⟨ntC ⟨fl, cu⟩, 0, 0, false⟩]⟩) (fun p => fl.length - p.1) ⟨0, Nat.zero_le _, Nat.zero_le _, rfl⟩ ?_ ?_
  · dsimp only
    exact Coe.kp
  · rintro ⟨i, hi, hi61, ha⟩
    dsimp only
    by_cases hc : (i : Int) < (fl.length : Int)
    · by_cases hc61 : (i : Int) < 61
      · have hg : fl[i]? = some fl[i] := List.getElem?_eq_getElem (by omega)
        have hmem : fl[i] ∈ fl := List.getElem_mem _
        have htk : fl.take (i + 1) = fl.take i ++ [fl[i]] := List.take_succ_eq_append_getElem (by omega)
        generalize fl[i] = m at *
        have hm := fun H => refMail_spec m H
        cases hmk : mlOk m
        · rw [hmk] at hm
          have hall : fl.all mlOk = false := by
            cases hx : fl.all mlOk
            · rfl
            · rw [List.all_eq_true.1 hx m hmem] at hmk; cases hmk
          rw [hn, hall, Bool.false_and, Bool.and_false, Bool.and_false]
          clear hmk htk
          obtain ⟨f, t, d⟩ := m
          refine wk (wA hc (wA hc61 (wA hg wT))) (wA hm (wA DrM.mk wT)) ?_
          refine wkEnd wT ?_
          exact Fin.cut (.v _) ⟨rfl, rfl⟩
        · rw [hmk] at hm
          have hnx : (fl.take (i + 1)).all mlOk = true := by rw [htk, List.all_append, ha]; simp [hmk]
          clear hmk htk
          obtain ⟨f, t, d⟩ := m
          refine wk (wA hc (wA hc61 (wA hg wT))) (wA hm (wA DrM.mk wT)) ?_
          refine ⟨⟨i + 1, by omega, by omega, hnx⟩, ?_, by dsimp only; omega⟩
          dsimp only
          exact Coe.kp
      · have hn2 : ntOk ⟨fl, cu⟩ = (decide (fl.length ≤ 60) && (decide (cu.length ≤ 28) && chainOk none cu)) := by rw [hn, decide_eq_false (show ¬ fl.length ≤ 60 by omega), Bool.false_and, Bool.false_and]
        have hlong : 61 ≤ fl.length := by omega
        refine wk (wA hc (wA hc61 wT)) (wA DrM.mk wT) ?_
        clear hn ha hc hc61 hi hi61
        refine AWP.loop (ι := {i : Nat // i ≤ cu.length ∧ i ≤ 29 ∧ chainOk none cu = chainOk (prevC cu i) (cu.drop i) ∧ ∀ p, prevC cu i = some p → ctOk p = true})
          (fun p => ⟨[(1, .ptr H.length 0 0), (4, vi p.1)], H ++ [⟨ntC ⟨fl, cu⟩, 0, 0, false⟩]⟩) (fun p => cu.length - p.1) ⟨0, Nat.zero_le _, Nat.zero_le _, rfl, fun p h => by cases h⟩ ?_ ?_
        · dsimp only
          exact Coe.kp
        · rintro ⟨j, hj, hj29, he, hp⟩
          dsimp only
          have hstep : ∀ (c0 : Ct) (k : List (Nat × AV)), Keeps k [(1, .ptr H.length 0 0), (4, vi ((j + 1 : Nat) : Int))] → Coe ⟨base, 96, w, H, β, hI⟩ ⟨k, H ++ [⟨ntC ⟨fl, cu⟩, 0, 0, false⟩, ⟨ctC c0, 0, 0, false⟩]⟩ ⟨[(1, .ptr H.length 0 0), (4, vi ((j + 1 : Nat) : Int))], H ++ [⟨ntC ⟨fl, cu⟩, 0, 0, false⟩]⟩ := fun c0 k hk => by
            refine Coe.cutN (M := [_]) hk ?_ ?_
            · simp only [List.mem_cons, List.not_mem_nil, or_false, forall_eq_or_imp, forall_eq, List.length_cons, List.length_nil]
              exact ⟨.ptr _ _ _ (by omega), .v _⟩
            · intro c hc
              rcases List.mem_singleton.1 hc with rfl
              simp only [List.mem_cons, List.not_mem_nil, or_false, forall_eq_or_imp, forall_eq]
              exact ⟨lt_ml _, lt_ct _⟩
          by_cases hc : (j : Int) < (cu.length : Int)
          · by_cases hc29 : (j : Int) < 29
            · have hg : cu[j]? = some cu[j] := List.getElem?_eq_getElem (by omega)
              generalize cu[j] = c at hg
              rw [drop_get' hg] at he
              have n1 := fun H => hnd c.a H
              have n2 := fun H => hnd c.b H
              have hck : ctOk c = (nodeOk c.a && (nodeOk c.b && decide (c.a < c.b))) := rfl
              have hfail : ctOk c = false → ntOk ⟨fl, cu⟩ = false := fun h => by rw [hn2, he, chain_bad h, Bool.and_false, Bool.and_false]
              obtain ⟨a, b⟩ := c
              dsimp only at n1 n2 hck
              cases h1 : nodeOk a
              · rw [hfail (by rw [hck, h1]; rfl)]
                refine wk (wA hc (wA hc29 (wA hg (wA h1 wT)))) (wA n1 (wA n2 (wA DrM.mk wT))) ?_
                refine wkEnd wT ?_
                exact Fin.cut (.v _) ⟨rfl, rfl⟩
              cases h2 : nodeOk b
              · rw [hfail (by rw [hck, h1, h2]; rfl)]
                refine wk (wA hc (wA hc29 (wA hg (wA h1 (wA h2 wT))))) (wA n1 (wA n2 (wA DrM.mk wT))) ?_
                refine wkEnd wT ?_
                exact Fin.cut (.v _) ⟨rfl, rfl⟩
              by_cases h3 : b ≤ a
              · rw [hfail (by rw [hck, h1, h2, decide_eq_false (by omega)]; rfl)]
                refine wk (wA hc (wA hc29 (wA hg (wA h1 (wA h2 (wA h3 wT)))))) (wA n1 (wA n2 (wA DrM.mk wT))) ?_
                refine wkEnd wT ?_
                exact Fin.cut (.v _) ⟨rfl, rfl⟩
              have hok : ctOk ⟨a, b⟩ = true := by rw [hck, h1, h2, decide_eq_true (by omega)]; rfl
              rcases j with _ | j
              · rw [prevC, chain_none hok] at he
                have hz : ¬ (0 : Int) < 0 := by omega
                have hc0 : (0 : Int) < (cu.length : Int) := by omega
                refine wk (wA hc (wA hc0 (wA hc29 (wA hg (wA h1 (wA h2 (wA h3 (wA hz wT)))))))) (wA n1 (wA n2 (wA DrM.mk wT))) ?_
                exact ⟨⟨1, by omega, by omega, by rw [prevC, hg]; exact he, fun p hp => by rw [prevC, hg] at hp; injection hp with hp; rw [← hp]; exact hok⟩, hstep ⟨a, b⟩ _ (Keeps.kp wT), by dsimp only; omega⟩
              · have hgp : cu[j]? = some cu[j] := List.getElem?_eq_getElem (by omega)
                generalize cu[j] = p at hgp
                have hpk := hp p (by rw [prevC, hgp])
                obtain ⟨p1, p2, p3⟩ := ctOk_le hpk
                have c1 := nodeOk_le h1
                have c2 := nodeOk_le h2
                rw [prevC, hgp, chain_some hok, ord8 p ⟨a, b⟩ p1 p2 c1 c2] at he
                obtain ⟨pa, pb⟩ := p
                dsimp only at he p1 p2 p3
                have e1 : ((j + 1 : Nat) : Int) - 1 = (j : Int) := by omega
                have e2 : (0 : Int) < ((j + 1 : Nat) : Int) := by omega
                have w1 : IntKind.i64.wrap (8 * pa) = 8 * pa := wi64 (by omega) (by omega)
                have w2 : IntKind.i64.wrap (8 * pa + pb) = 8 * pa + pb := wi64 (by omega) (by omega)
                have w3 : IntKind.i64.wrap (8 * a) = 8 * a := wi64 (by omega) (by omega)
                have w4 : IntKind.i64.wrap (8 * a + b) = 8 * a + b := wi64 (by omega) (by omega)
                have w5 : IntKind.i64.wrap (j : Int) = (j : Int) := wi64 (by omega) (by omega)
                by_cases h4 : 8 * a + b ≤ 8 * pa + pb
                · rw [decide_eq_false (by omega), Bool.false_and] at he
                  rw [hn2, he, Bool.and_false, Bool.and_false]
                  refine wk (wA hc (wA hc29 (wA hg (wA hgp (wA h1 (wA h2 (wA h3 (wA e1 (wA e2 (wA h4 (wA w1 (wA w2 (wA w3 (wA w4 (wA w5 wT))))))))))))))) (wA n1 (wA n2 (wA DrM.mk wT))) ?_
                  refine wkEnd wT ?_
                  exact Fin.cut (.v _) ⟨rfl, rfl⟩
                rw [decide_eq_true (by omega), Bool.true_and] at he
                refine wk (wA hc (wA hc29 (wA hg (wA hgp (wA h1 (wA h2 (wA h3 (wA e1 (wA e2 (wA h4 (wA w1 (wA w2 (wA w3 (wA w4 (wA w5 wT))))))))))))))) (wA n1 (wA n2 (wA DrM.mk wT))) ?_
                exact ⟨⟨j + 1 + 1, by omega, by omega, by rw [prevC, hg]; exact he, fun p hp => by rw [prevC, hg] at hp; injection hp with hp; rw [← hp]; exact hok⟩, hstep ⟨a, b⟩ _ (Keeps.kp wT), by dsimp only; omega⟩
            · have f1 : ¬ (cu.length : Int) ≤ 28 := by omega
              rw [hn2, decide_eq_false (show ¬ cu.length ≤ 28 by omega), Bool.false_and, Bool.and_false]
              by_cases f2 : (fl.length : Int) ≤ 60
              · exact absurd f2 (by omega)
              · refine wk (wA hc (wA hc29 (wA f1 (wA f2 wT)))) (wA DrM.mk wT) ?_
                refine wkEnd wT ?_
                exact Fin.cut (.v _) ⟨rfl, rfl⟩
          · have : j = cu.length := by omega
            subst this
            rw [List.drop_length, chainOk] at he
            rw [hn2, he, Bool.and_true]
            by_cases f2 : (fl.length : Int) ≤ 60
            · exact absurd f2 (by omega)
            · rw [decide_eq_false (show ¬ fl.length ≤ 60 by omega), Bool.false_and]
              refine wk (wA hc (wA f2 wT)) (wA DrM.mk wT) ?_
              refine wkEnd wT ?_
              exact Fin.cut (.v _) ⟨rfl, rfl⟩
    · have hil : i = fl.length := by omega
      rw [hil, List.take_length] at ha
      have hn2 : ntOk ⟨fl, cu⟩ = (decide (fl.length ≤ 60) && (decide (cu.length ≤ 28) && chainOk none cu)) := by rw [hn, ha, Bool.true_and]
      refine wk (wA hc wT) (wA DrM.mk wT) ?_
      refine AWP.loop (ι := {i : Nat // i ≤ cu.length ∧ i ≤ 29 ∧ chainOk none cu = chainOk (prevC cu i) (cu.drop i) ∧ ∀ p, prevC cu i = some p → ctOk p = true})
        (fun p => ⟨[(1, .ptr H.length 0 0), (4, vi p.1)], H ++ [⟨ntC ⟨fl, cu⟩, 0, 0, false⟩]⟩) (fun p => cu.length - p.1) ⟨0, Nat.zero_le _, Nat.zero_le _, rfl, fun p h => by cases h⟩ ?_ ?_
      · dsimp only
        exact Coe.kp
      · rintro ⟨j, hj, hj29, he, hp⟩
        dsimp only
        have hstep : ∀ (c0 : Ct) (k : List (Nat × AV)), Keeps k [(1, .ptr H.length 0 0), (4, vi ((j + 1 : Nat) : Int))] → Coe ⟨base, 96, w, H, β, hI⟩ ⟨k, H ++ [⟨ntC ⟨fl, cu⟩, 0, 0, false⟩, ⟨ctC c0, 0, 0, false⟩]⟩ ⟨[(1, .ptr H.length 0 0), (4, vi ((j + 1 : Nat) : Int))], H ++ [⟨ntC ⟨fl, cu⟩, 0, 0, false⟩]⟩ := fun c0 k hk => by
          refine Coe.cutN (M := [_]) hk ?_ ?_
          · simp only [List.mem_cons, List.not_mem_nil, or_false, forall_eq_or_imp, forall_eq, List.length_cons, List.length_nil]
            exact ⟨.ptr _ _ _ (by omega), .v _⟩
          · intro c hc
            rcases List.mem_singleton.1 hc with rfl
            simp only [List.mem_cons, List.not_mem_nil, or_false, forall_eq_or_imp, forall_eq]
            exact ⟨lt_ml _, lt_ct _⟩
        by_cases hc : (j : Int) < (cu.length : Int)
        · by_cases hc29 : (j : Int) < 29
          · have hg : cu[j]? = some cu[j] := List.getElem?_eq_getElem (by omega)
            generalize cu[j] = c at hg
            rw [drop_get' hg] at he
            have n1 := fun H => hnd c.a H
            have n2 := fun H => hnd c.b H
            have hck : ctOk c = (nodeOk c.a && (nodeOk c.b && decide (c.a < c.b))) := rfl
            have hfail : ctOk c = false → ntOk ⟨fl, cu⟩ = false := fun h => by rw [hn2, he, chain_bad h, Bool.and_false, Bool.and_false]
            obtain ⟨a, b⟩ := c
            dsimp only at n1 n2 hck
            cases h1 : nodeOk a
            · rw [hfail (by rw [hck, h1]; rfl)]
              refine wk (wA hc (wA hc29 (wA hg (wA h1 wT)))) (wA n1 (wA n2 (wA DrM.mk wT))) ?_
              refine wkEnd wT ?_
              exact Fin.cut (.v _) ⟨rfl, rfl⟩
            cases h2 : nodeOk b
            · rw [hfail (by rw [hck, h1, h2]; rfl)]
              refine wk (wA hc (wA hc29 (wA hg (wA h1 (wA h2 wT))))) (wA n1 (wA n2 (wA DrM.mk wT))) ?_
              refine wkEnd wT ?_
              exact Fin.cut (.v _) ⟨rfl, rfl⟩
            by_cases h3 : b ≤ a
            · rw [hfail (by rw [hck, h1, h2, decide_eq_false (by omega)]; rfl)]
              refine wk (wA hc (wA hc29 (wA hg (wA h1 (wA h2 (wA h3 wT)))))) (wA n1 (wA n2 (wA DrM.mk wT))) ?_
              refine wkEnd wT ?_
              exact Fin.cut (.v _) ⟨rfl, rfl⟩
            have hok : ctOk ⟨a, b⟩ = true := by rw [hck, h1, h2, decide_eq_true (by omega)]; rfl
            rcases j with _ | j
            · rw [prevC, chain_none hok] at he
              have hz : ¬ (0 : Int) < 0 := by omega
              have hc0 : (0 : Int) < (cu.length : Int) := by omega
              refine wk (wA hc (wA hc0 (wA hc29 (wA hg (wA h1 (wA h2 (wA h3 (wA hz wT)))))))) (wA n1 (wA n2 (wA DrM.mk wT))) ?_
              exact ⟨⟨1, by omega, by omega, by rw [prevC, hg]; exact he, fun p hp => by rw [prevC, hg] at hp; injection hp with hp; rw [← hp]; exact hok⟩, hstep ⟨a, b⟩ _ (Keeps.kp wT), by dsimp only; omega⟩
            · have hgp : cu[j]? = some cu[j] := List.getElem?_eq_getElem (by omega)
              generalize cu[j] = p at hgp
              have hpk := hp p (by rw [prevC, hgp])
              obtain ⟨p1, p2, p3⟩ := ctOk_le hpk
              have c1 := nodeOk_le h1
              have c2 := nodeOk_le h2
              rw [prevC, hgp, chain_some hok, ord8 p ⟨a, b⟩ p1 p2 c1 c2] at he
              obtain ⟨pa, pb⟩ := p
              dsimp only at he p1 p2 p3
              have e1 : ((j + 1 : Nat) : Int) - 1 = (j : Int) := by omega
              have e2 : (0 : Int) < ((j + 1 : Nat) : Int) := by omega
              have w1 : IntKind.i64.wrap (8 * pa) = 8 * pa := wi64 (by omega) (by omega)
              have w2 : IntKind.i64.wrap (8 * pa + pb) = 8 * pa + pb := wi64 (by omega) (by omega)
              have w3 : IntKind.i64.wrap (8 * a) = 8 * a := wi64 (by omega) (by omega)
              have w4 : IntKind.i64.wrap (8 * a + b) = 8 * a + b := wi64 (by omega) (by omega)
              have w5 : IntKind.i64.wrap (j : Int) = (j : Int) := wi64 (by omega) (by omega)
              by_cases h4 : 8 * a + b ≤ 8 * pa + pb
              · rw [decide_eq_false (by omega), Bool.false_and] at he
                rw [hn2, he, Bool.and_false, Bool.and_false]
                refine wk (wA hc (wA hc29 (wA hg (wA hgp (wA h1 (wA h2 (wA h3 (wA e1 (wA e2 (wA h4 (wA w1 (wA w2 (wA w3 (wA w4 (wA w5 wT))))))))))))))) (wA n1 (wA n2 (wA DrM.mk wT))) ?_
                refine wkEnd wT ?_
                exact Fin.cut (.v _) ⟨rfl, rfl⟩
              rw [decide_eq_true (by omega), Bool.true_and] at he
              refine wk (wA hc (wA hc29 (wA hg (wA hgp (wA h1 (wA h2 (wA h3 (wA e1 (wA e2 (wA h4 (wA w1 (wA w2 (wA w3 (wA w4 (wA w5 wT))))))))))))))) (wA n1 (wA n2 (wA DrM.mk wT))) ?_
              exact ⟨⟨j + 1 + 1, by omega, by omega, by rw [prevC, hg]; exact he, fun p hp => by rw [prevC, hg] at hp; injection hp with hp; rw [← hp]; exact hok⟩, hstep ⟨a, b⟩ _ (Keeps.kp wT), by dsimp only; omega⟩
          · have f1 : ¬ (cu.length : Int) ≤ 28 := by omega
            rw [hn2, decide_eq_false (show ¬ cu.length ≤ 28 by omega), Bool.false_and, Bool.and_false]
            by_cases f2 : (fl.length : Int) ≤ 60
            · refine wk (wA hc (wA hc29 (wA f1 (wA f2 wT)))) (wA DrM.mk wT) ?_
              refine wkEnd wT ?_
              exact Fin.cut (.v _) ⟨rfl, rfl⟩
            · refine wk (wA hc (wA hc29 (wA f1 (wA f2 wT)))) (wA DrM.mk wT) ?_
              refine wkEnd wT ?_
              exact Fin.cut (.v _) ⟨rfl, rfl⟩
        · have : j = cu.length := by omega
          subst this
          rw [List.drop_length, chainOk] at he
          rw [hn2, he, Bool.and_true]
          by_cases f2 : (fl.length : Int) ≤ 60
          · rw [decide_eq_true (show fl.length ≤ 60 by omega), Bool.true_and]
            by_cases f1 : (cu.length : Int) ≤ 28
            · rw [decide_eq_true (show cu.length ≤ 28 by omega)]
              refine wk (wA hc (wA f1 (wA f2 wT))) (wA DrM.mk wT) ?_
              refine wkEnd wT ?_
              exact Fin.cut (.v _) ⟨rfl, rfl⟩
            · rw [decide_eq_false (show ¬ cu.length ≤ 28 by omega)]
              refine wk (wA hc (wA f1 (wA f2 wT))) (wA DrM.mk wT) ?_
              refine wkEnd wT ?_
              exact Fin.cut (.v _) ⟨rfl, rfl⟩
          · rw [decide_eq_false (show ¬ fl.length ≤ 60 by omega), Bool.false_and]
            refine wk (wA hc (wA f2 wT)) (wA DrM.mk wT) ?_
            refine wkEnd wT ?_
            exact Fin.cut (.v _) ⟨rfl, rfl⟩
theorem asked_spec (n : Nt) (hl : n.fl.length ≤ 9223372036854775807) (hc : n.cu.length ≤ 9223372036854775807) (x : Int) (H : List Box) : ASpec Try.prog 33 [ntV n, vi x] H (Gives (vi (askN n x)) H) := by
  have hr := fun H => refRight_spec n hl hc H
  unfold askN
  cases hok : ntOk n with
  | false =>
    rw [hok] at hr
    rw [if_pos rfl]
    clear hok
    obtain ⟨fl, cu⟩ := n
    refine ASpec.enter Try.func33 rfl (fun a w => Try.call33 a w) Try.ntmps33 Try.results33 fun base w β hI => ?_
    refine wk wT (wA hr (wA DrM.mk wT)) ?_
    refine wkEnd wT ?_
    exact Fin.cut (.v _) ⟨rfl, rfl⟩
  | true =>
    rw [hok] at hr
    rw [if_neg (by simp)]
    clear hok
    obtain ⟨fl, cu⟩ := n
    dsimp only at *
    by_cases h1 : x < 0
    · rw [if_pos (.inl h1)]
      refine ASpec.enter Try.func33 rfl (fun a w => Try.call33 a w) Try.ntmps33 Try.results33 fun base w β hI => ?_
      refine wk (wA h1 wT) (wA hr (wA DrM.mk wT)) ?_
      refine wkEnd wT ?_
      exact Fin.cut (.v _) ⟨rfl, rfl⟩
    · by_cases h2 : (fl.length : Int) ≤ x
      · rw [if_pos (.inr h2)]
        refine ASpec.enter Try.func33 rfl (fun a w => Try.call33 a w) Try.ntmps33 Try.results33 fun base w β hI => ?_
        refine wk (wA h1 (wA h2 wT)) (wA hr (wA DrM.mk wT)) ?_
        refine wkEnd wT ?_
        exact Fin.cut (.v _) ⟨rfl, rfl⟩
      · rw [if_neg (by omega)]
        refine ASpec.enter Try.func33 rfl (fun a w => Try.call33 a w) Try.ntmps33 Try.results33 fun base w β hI => ?_
        refine wk (wA h1 (wA h2 wT)) (wA hr (wA DrM.mk wT)) ?_
        refine wkEnd wT ?_
        exact Fin.cut (.v _) ⟨rfl, rfl⟩

end Go.Proofs.Ytnoekcdmaaakfaa.VL
