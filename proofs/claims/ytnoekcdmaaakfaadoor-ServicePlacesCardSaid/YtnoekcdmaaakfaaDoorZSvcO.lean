/- Layer 15: the law of services put in their places. -/
import Derived.Test.YtnoekcdmaaakfaaDoorZSvcL
-- STEPWISE
-- WK
set_option linter.unusedVariables false
set_option linter.unusedSimpArgs false
set_option maxRecDepth 10000
namespace Go.Proofs.YtnoekcdmaaakfaaDoor.VL
open Go Go.RowKit Go.Lib

theorem any_snoc {α : Type} {l : List α} {i : Nat} {x : α} (f : α → Bool) (h : l[i]? = some x) : (l.take (i + 1)).any f = ((l.take i).any f || f x) := by
  rw [List.take_add_one, h, List.any_append]; simp

set_option maxHeartbeats 16000000 in
theorem splaces_spec (l : List En) (s : Sv) (hl : l.length ≤ 9223372036854775807) (hs : ∀ x ∈ l, x.s.length ≤ 9223372036854775807) (hn : s.n.length ≤ 9223372036854775807) (hp : s.p.length ≤ 9223372036854775807) (H : List Box) :
    ASpec Tryd.prog 5 [.lst 3 (enG l), .agg (svC s)] H (Gives (vb true) H) := by
  have ha := fun H => alive15_spec H
  have g1 := fun H => refGreat4_spec l hl hs H
  have g2 := fun H => refRight4_spec l hl hs H
  have g3 := fun H => refRight15_spec s hn hp H
  generalize decide (4000 < grE l.length l) = b0 at *
  cases b0 with
  | true =>
    obtain ⟨n, p, o, i, u, f⟩ := s
    refine ASpec.enter Tryd.func5 rfl (fun a w => Tryd.call5 a w) Tryd.ntmps5 Tryd.results5 fun base w β hI => ?_
    refine wk wT (wA ha (wA g1 (wA DrM.mk wT))) ?_
    refine wkEnd wT ?_
    exact Fin.cut (.v _) ⟨rfl, rfl⟩
  | false =>
  cases ht : tabOk l with
  | false =>
    rw [ht] at g2
    obtain ⟨n, p, o, i, u, f⟩ := s
    refine ASpec.enter Tryd.func5 rfl (fun a w => Tryd.call5 a w) Tryd.ntmps5 Tryd.results5 fun base w β hI => ?_
    refine wk wT (wA ha (wA g1 (wA g2 (wA DrM.mk wT)))) ?_
    refine wkEnd wT ?_
    exact Fin.cut (.v _) ⟨rfl, rfl⟩
  | true =>
  rw [ht] at g2
  cases hw : svOk s with
  | false =>
    rw [hw] at g3
    obtain ⟨n, p, o, i, u, f⟩ := s
    refine ASpec.enter Tryd.func5 rfl (fun a w => Tryd.call5 a w) Tryd.ntmps5 Tryd.results5 fun base w β hI => ?_
    refine wk wT (wA ha (wA g1 (wA g2 (wA g3 (wA DrM.mk wT))))) ?_
    refine wkEnd wT ?_
    exact Fin.cut (.v _) ⟨rfl, rfl⟩
  | true =>
  rw [hw] at g3
  have hlen := tabOk_len ht
  have hmay := tabOk_may ht
  have h200 : ∀ x ∈ l, x.s.length ≤ 200 := fun x hx => (mayE_iff.1 (hmay x hx)).2.2.2.2
  have k1 := fun H => key_spec l s.n s.p (by omega) (fun x hx => by have := h200 x hx; omega) H
  have k2 := fun H => placeS_spec l hl H
  have hfull := place_full (l := l)
  have hplain := places_plain ht hw
  have e1 := fun H => encode_spec s hn hp H
  rw [encS, if_pos hw] at e1
  have e1 : ∀ H, ASpec Tryd.prog 7 [.agg (svC s)] H (Gives (.tup [vs (encB s), vi 0]) H) := e1
  have hB := (dec_enc hw).2
  have p1 := fun k H => refPut_spec l ⟨k, 1, encB s⟩ (by omega) H
  have hpl := fun k => putGo_len ⟨k, 1, encB s⟩ l false
  have hpm : ∀ (k : Int) (x : En), x ∈ putGo ⟨k, 1, encB s⟩ l false → x.s.length ≤ 1099511627776 := fun k x hx => by
    obtain ⟨A, C, B, q1, _, q3⟩ := put_split ⟨k, 1, encB s⟩ l (-1) ht
    rw [q3] at hx
    rcases List.mem_append.1 hx with hx | hx
    · have := h200 x (by rw [q1]; exact List.mem_append.2 (.inl hx)); omega
    · rcases List.mem_cons.1 hx with rfl | hx
      · dsimp only; omega
      · have := h200 x (by rw [q1]; exact List.mem_append.2 (.inr (List.mem_append.2 (.inr hx)))); omega
  have k3 := fun k H => key_spec (putGo ⟨k, 1, encB s⟩ l false) s.n s.p (by have := hpl k; omega) (hpm k) H
  have a1 := fun k H => all_spec (putGo ⟨k, 1, encB s⟩ l false) (by have := hpl k; omega) (hpm k) H
  have a2 := fun H => all_spec l (by omega) (fun x hx => by have := h200 x hx; omega) H
  have al1 : ∀ k, (allS (putGo ⟨k, 1, encB s⟩ l false)).length = (prs (putGo ⟨k, 1, encB s⟩ l false)).length := fun k => List.length_map _
  have al2 : (allS l).length = (prs l).length := List.length_map _
  have pl2 := prs_len l
  generalize hkk : keyS s.n s.p (prs l) = kk at *
  generalize hpp : placeS l = pp at *
  obtain ⟨k0, there⟩ := kk
  obtain ⟨k, ok⟩ := pp
  dsimp only at *
  cases ok with
  | false =>
    have h9 := hfull rfl
    have h9' : (9 : Int) ≤ (l.length : Int) := by omega
    obtain ⟨n, p, o, i, u, f⟩ := s
    dsimp only at *
    clear hplain p1 hpl hpm k3 a1 a2 al1 al2 hfull hmay h200 e1
    refine ASpec.enter Tryd.func5 rfl (fun a w => Tryd.call5 a w) Tryd.ntmps5 Tryd.results5 fun base w β hI => ?_
    cases there with
    | true =>
      refine wk (wA h9' wT) (wA ha (wA g1 (wA g2 (wA g3 (wA k1 (wA k2 (wA DrM.mk wT))))))) ?_
      refine wkEnd wT ?_
      exact Fin.cut (.v _) ⟨rfl, rfl⟩
    | false =>
      refine wk (wA h9' wT) (wA ha (wA g1 (wA g2 (wA g3 (wA k1 (wA k2 (wA DrM.mk wT))))))) ?_
      refine wkEnd wT ?_
      exact Fin.cut (.v _) ⟨rfl, rfl⟩
  | true =>
    cases there with
    | true =>
      obtain ⟨n, p, o, i, u, f⟩ := s
      dsimp only at *
      clear hplain p1 hpl hpm k3 a1 a2 al1 al2 hfull hmay h200 e1
      refine ASpec.enter Tryd.func5 rfl (fun a w => Tryd.call5 a w) Tryd.ntmps5 Tryd.results5 fun base w β hI => ?_
      refine wk wT (wA ha (wA g1 (wA g2 (wA g3 (wA k1 (wA k2 (wA DrM.mk wT))))))) ?_
      refine wkEnd wT ?_
      exact Fin.cut (.v _) ⟨rfl, rfl⟩
    | false =>
      obtain ⟨r1, r2, r3, r4, r5⟩ := hplain rfl rfl
      have p1' := p1 k
      have k3' := k3 k
      have a1' := a1 k
      have al1' := al1 k
      rw [r1] at k3'
      clear p1 k3 a1 al1 hpm
      have r2 : s ∈ allS (putGo ⟨k, 1, encB s⟩ l false) := r2
      have hpl' := hpl k
      clear hpl
      generalize putGo ⟨k, 1, encB s⟩ l false = M at *
      have hAl : (allS M).length ≤ 13 := by have := prs_len M; omega
      have hAe : ((allS M).length : Int) = ((allS l).length : Int) + 1 := by omega
      have hAb : (allS l).length ≤ 12 := by omega
      generalize allS M = A at *
      generalize allS l = A0 at *
      generalize encB s = eb at *
      clear hfull hmay h200 hkk hpp hn hp hw ht al1' al2
      obtain ⟨n, p, o, i, u, f⟩ := s
      dsimp only at *
      have p1 : ∀ H, ASpec Tryd.prog 19 [.lst 3 (enG l), .agg [vi k, vi 1, vs eb]] H (Gives (.lst 3 (enG M)) H) := p1'
      have k3 : ∀ H, ASpec Tryd.prog 17 [.lst 3 (enG M), vs n, vs p] H (Gives (.tup [vi k, vb true]) H) := k3'
      refine ASpec.enter Tryd.func5 rfl (fun a w => Tryd.call5 a w) Tryd.ntmps5 Tryd.results5 fun base w β hI => ?_
      refine wk wT (wA ha (wA g1 (wA g2 (wA g3 (wA k1 (wA k2 (wA e1 (wA p1 (wA k3 (wA a1' (wA DrM.mk wT))))))))))) ?_
      refine AWP.loop (ι := {j : Nat // j ≤ A.length}) (fun j => ⟨[(0, .lst 3 (enG l)), (3, .ptr H.length 0 0), (7, vi k), (10, vi 0), (12, vi k), (13, vb true), (14, .lst 6 (svG A)), (15, vb ((A.take j.1).any fun x => decide (x = ⟨n, p, o, i, u, f⟩))), (16, vi j.1)], H ++ [⟨svC ⟨n, p, o, i, u, f⟩, 0, 0, false⟩]⟩) (fun j => A.length - j.1) ⟨0, Nat.zero_le _⟩ ?_ ?_
      · dsimp only
        exact Coe.kp
      · rintro ⟨j, hj⟩
        dsimp only
        clear r1
        by_cases hc : (j : Int) < (A.length : Int)
        · have hg : A[j]? = some A[j] := List.getElem?_eq_getElem (by omega)
          generalize A[j] = x at hg
          have hst := any_snoc (fun x => decide (x = (⟨n, p, o, i, u, f⟩ : Sv))) hg
          generalize (A.take j).any (fun x => decide (x = (⟨n, p, o, i, u, f⟩ : Sv))) = t at *
          obtain ⟨xn, xp, xo, xi, xw, xf⟩ := x
          cases t with
          | true =>
            rw [Bool.true_or] at hst
            refine wk (wA hc wT) (wA DrM.mk wT) ?_
            refine ⟨⟨j + 1, by omega⟩, ?_, by dsimp only; omega⟩
            dsimp only
            rw [hst]
            exact Coe.kp
          | false =>
            rw [Bool.false_or] at hst
            by_cases q1 : xn = n
            · subst q1
              by_cases q2 : xp = p
              · subst q2
                by_cases q3 : xo = o
                · subst q3
                  by_cases q4 : xi = i
                  · subst q4
                    by_cases q5 : xw = u
                    · subst q5
                      by_cases q6 : xf = f
                      · subst q6
                        rw [decide_eq_true rfl] at hst
                        refine wk (wA hc (wA hg wT)) (wA DrM.mk wT) ?_
                        refine ⟨⟨j + 1, by omega⟩, ?_, by dsimp only; omega⟩
                        dsimp only
                        rw [hst]
                        exact Coe.kp
                      · rw [decide_eq_false (by simp [q6])] at hst
                        refine wk (wA hc (wA hg (wA q6 wT))) (wA DrM.mk wT) ?_
                        refine ⟨⟨j + 1, by omega⟩, ?_, by dsimp only; omega⟩
                        dsimp only
                        rw [hst]
                        exact Coe.kp
                    · rw [decide_eq_false (by simp [q5])] at hst
                      refine wk (wA hc (wA hg (wA q5 wT))) (wA DrM.mk wT) ?_
                      refine ⟨⟨j + 1, by omega⟩, ?_, by dsimp only; omega⟩
                      dsimp only
                      rw [hst]
                      exact Coe.kp
                  · rw [decide_eq_false (by simp [q4])] at hst
                    refine wk (wA hc (wA hg (wA q4 wT))) (wA DrM.mk wT) ?_
                    refine ⟨⟨j + 1, by omega⟩, ?_, by dsimp only; omega⟩
                    dsimp only
                    rw [hst]
                    exact Coe.kp
                · rw [decide_eq_false (by simp [q3])] at hst
                  refine wk (wA hc (wA hg (wA q3 wT))) (wA DrM.mk wT) ?_
                  refine ⟨⟨j + 1, by omega⟩, ?_, by dsimp only; omega⟩
                  dsimp only
                  rw [hst]
                  exact Coe.kp
              · rw [decide_eq_false (by simp [q2])] at hst
                refine wk (wA hc (wA hg (wA q2 wT))) (wA DrM.mk wT) ?_
                refine ⟨⟨j + 1, by omega⟩, ?_, by dsimp only; omega⟩
                dsimp only
                rw [hst]
                exact Coe.kp
            · rw [decide_eq_false (by simp [q1])] at hst
              refine wk (wA hc (wA hg (wA q1 wT))) (wA DrM.mk wT) ?_
              refine ⟨⟨j + 1, by omega⟩, ?_, by dsimp only; omega⟩
              dsimp only
              rw [hst]
              exact Coe.kp
        · obtain rfl : j = A.length := by omega
          have hany : (A.take A.length).any (fun x => decide (x = (⟨n, p, o, i, u, f⟩ : Sv))) = true := by
            rw [List.take_length]
            exact List.any_eq_true.2 ⟨_, r2, decide_eq_true rfl⟩
          rw [hany]
          clear hany
          have hAe' := eq_true hAe
          refine wk (wA hc (wA r3 (wA r4 (wA hAe' wT)))) (wA a2 (wA DrM.mk wT)) ?_
          refine wkEnd wT ?_
          exact Fin.cut (.v _) ⟨rfl, rfl⟩

end Go.Proofs.YtnoekcdmaaakfaaDoor.VL
