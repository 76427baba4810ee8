/- Layer 17: all lists of records, as the program parses them. -/
import Derived.Test.YtkkhbmpcpilmfaaZCd
import Derived.Test.YtkkhbmpcpilmfaaZPd
-- STEPWISE
-- WK
set_option linter.unusedVariables false
set_option linter.unusedSimpArgs false
set_option maxRecDepth 10000
namespace Go.Proofs.Ytkkhbmpcpilmfaa.VL
open Go Go.RowKit Go.Lib

/-- The boxes of a packet that is being parsed. -/
def psH (H : List Box) (b : List UInt8) (id fl : Int) (gq : Nat) (q : List Qn) (s : Nat × Int) (ga : Nat) (a : List Rr) (gu : Nat) (u : List Rr) (gm : Nat) (m : List Rr) (c0 c1 c2 : Int) : List Box :=
  H ++ [⟨[vi 0, vi 0, .emp, .emp, .emp, .emp], 0, 0, false⟩, rdX b s, ⟨[vi id, vi fl, .sl (H.length + 4) gq 0 q.length 3 false, .sl (H.length + 5) ga 0 a.length 5 false, .sl (H.length + 6) gu 0 u.length 5 false, .sl (H.length + 7) gm 0 m.length 5 false], 0, 0, false⟩, ⟨[vi c0, vi c1, vi c2], 0, 0, false⟩,
    ⟨qnF q, 0, gq, true⟩, ⟨rrF a, 0, ga, true⟩, ⟨rrF u, 0, gu, true⟩, ⟨rrF m, 0, gm, true⟩]
theorem lt_zero6 {n : Nat} : ∀ c ∈ [vi 0, vi 0, AV.emp, AV.emp, AV.emp, AV.emp], Lt n c := by
  simp only [List.mem_cons, List.not_mem_nil, or_false, forall_eq_or_imp, forall_eq]
  exact ⟨.v _, .v _, .emp, .emp, .emp, .emp⟩

set_option maxHeartbeats 8000000 in
theorem psP_loop (b : List UInt8) (hbl : b.length ≤ 65535) (id fl : Int) (gq : Nat) (q : List Qn) (na nu nm : Nat) (hna : na ≤ 65535) (hnu : nu ≤ 65535) (hnm : nm ≤ 65535) (s0 : Nat × Int) (hs0 : s0.1 ≤ b.length)
    (E : Ent) (hE : E.n = 132) (Q : AExit → ASt → Prop) (body : Code) (hbody : (Try.f12.body).bind lastLoop = some body)
    (hQ : ∀ k ga gu gm (ra ru rm : Nat), Keeps k [(0, vB b), (2, .ptr E.H.length 0 0), (4, .ptr (E.H.length + 1) 0 0), (5, .ptr (E.H.length + 2) 0 0)] →
      (rsR b nm (rsR b nu (rsR b na s0 []).2 []).2 []).2.1 ≤ b.length → (rsR b na s0 []).1.length ≤ 65535 → (rsR b nu (rsR b na s0 []).2 []).1.length ≤ 65535 → (rsR b nm (rsR b nu (rsR b na s0 []).2 []).2 []).1.length ≤ 65535 →
      Q (.exit 3) ⟨k, psH E.H b id fl gq q (rsR b nm (rsR b nu (rsR b na s0 []).2 []).2 []).2 ga (rsR b na s0 []).1 gu (rsR b nu (rsR b na s0 []).2 []).1 gm (rsR b nm (rsR b nu (rsR b na s0 []).2 []).2 []).1 ra ru rm⟩) :
    AWP Try.prog E (.loop body) Q ⟨[(0, vB b), (2, .ptr E.H.length 0 0), (3, vi 0), (4, .ptr (E.H.length + 1) 0 0), (5, .ptr (E.H.length + 2) 0 0), (7, .ptr (E.H.length + 3) 0 0), (61, .agg [.ptr (E.H.length + 2) 0 3, .ptr (E.H.length + 2) 0 4, .ptr (E.H.length + 2) 0 5]), (62, vi 0)],
      psH E.H b id fl gq q s0 0 [] 0 [] 0 [] na nu nm⟩ := by
  obtain ⟨base, n, w, H, β, hI⟩ := E
  dsimp only at *
  subst hE
  dsimp only [lastLoop, firstLoop, Option.bind, Try.f12] at hbody
  injection hbody with hbody
  subst hbody
  have hA := fun hs => rsP_loop0 b hbl id fl (.sl (H.length + 4) gq 0 q.length 3 false) (.sl (H.length + 6) 0 0 0 5 false) (.sl (H.length + 7) 0 0 0 5 false) (.agg [.ptr (H.length + 2) 0 3, .ptr (H.length + 2) 0 4, .ptr (H.length + 2) 0 5]) ⟨[vi 0, vi 0, .emp, .emp, .emp, .emp], 0, 0, false⟩ ⟨qnF q, 0, gq, true⟩ ⟨rrF [], 0, 0, true⟩ ⟨rrF [], 0, 0, true⟩ nu nm na hna s0 hs ⟨base, 132, w, H, β, hI⟩
  have hUU := fun ga a c0 s hs => rsP_loop1 b hbl id fl (.sl (H.length + 4) gq 0 q.length 3 false) (.sl (H.length + 5) ga 0 (List.length a) 5 false) (.sl (H.length + 7) 0 0 0 5 false) (.agg [.ptr (H.length + 2) 0 3, .ptr (H.length + 2) 0 4, .ptr (H.length + 2) 0 5]) ⟨[vi 0, vi 0, .emp, .emp, .emp, .emp], 0, 0, false⟩ ⟨qnF q, 0, gq, true⟩ ⟨rrF a, 0, ga, true⟩ ⟨rrF [], 0, 0, true⟩ c0 nm nu hnu s hs ⟨base, 132, w, H, β, hI⟩
  have hMM := fun ga a gu u c0 c1 s hs => rsP_loop2 b hbl id fl (.sl (H.length + 4) gq 0 q.length 3 false) (.sl (H.length + 5) ga 0 (List.length a) 5 false) (.sl (H.length + 6) gu 0 (List.length u) 5 false) (.agg [.ptr (H.length + 2) 0 3, .ptr (H.length + 2) 0 4, .ptr (H.length + 2) 0 5]) ⟨[vi 0, vi 0, .emp, .emp, .emp, .emp], 0, 0, false⟩ ⟨qnF q, 0, gq, true⟩ ⟨rrF a, 0, ga, true⟩ ⟨rrF u, 0, gu, true⟩ c0 c1 nm hnm s hs ⟨base, 132, w, H, β, hI⟩
  generalize hAe : rsR b na s0 [] = A at *
  generalize hUe : rsR b nu A.2 [] = U at *
  generalize hMe : rsR b nm U.2 [] = M at *
  have hLA : Lt (H.length + 8) (.agg [.ptr (H.length + 2) 0 3, .ptr (H.length + 2) 0 4, .ptr (H.length + 2) 0 5]) := (Lt.ptr _ _ _ (by omega)).cons_agg ((Lt.ptr _ _ _ (by omega)).cons_agg ((Lt.ptr _ _ _ (by omega)).cons_agg .nil_agg))
  refine AWP.loop (ι := {s : Nat × Nat × Nat × Nat × Nat × Nat × Nat // s.1 ≤ 3 ∧ (1 ≤ s.1 → A.2.1 ≤ b.length ∧ A.1.length ≤ 65535) ∧ (2 ≤ s.1 → U.2.1 ≤ b.length ∧ U.1.length ≤ 65535) ∧ (3 ≤ s.1 → M.2.1 ≤ b.length ∧ M.1.length ≤ 65535)})
    (fun s => ⟨[(0, vB b), (2, .ptr H.length 0 0), (3, vi 0), (4, .ptr (H.length + 1) 0 0), (5, .ptr (H.length + 2) 0 0), (7, .ptr (H.length + 3) 0 0), (61, .agg [.ptr (H.length + 2) 0 3, .ptr (H.length + 2) 0 4, .ptr (H.length + 2) 0 5]), (62, vi s.1.1)],
      match s.1 with
      | (0, _, _, _, _, _, _) => psH H b id fl gq q s0 0 [] 0 [] 0 [] na nu nm
      | (1, ga, ra, _, _, _, _) => psH H b id fl gq q A.2 ga A.1 0 [] 0 [] ra nu nm
      | (2, ga, ra, gu, ru, _, _) => psH H b id fl gq q U.2 ga A.1 gu U.1 0 [] ra ru nm
      | (_, ga, ra, gu, ru, gm, rm) => psH H b id fl gq q M.2 ga A.1 gu U.1 gm M.1 ra ru rm⟩) (fun s => 3 - s.1.1) ⟨(0, 0, 0, 0, 0, 0, 0), by dsimp only; omega, by simp, by simp, by simp⟩ ?_ ?_
  · dsimp only
    exact Coe.kp
  · rintro ⟨⟨i, ga, ra, gu, ru, gm, rm⟩, hi, h1, h2, h3⟩
    dsimp only at hi h1 h2 h3
    rcases i with _ | _ | _ | _ | i
    · dsimp only [psH]
      refine wk wT wT ?_
      refine AWP.coe ?_ (hA hs0 ?_ ?_ hLA rfl _ _ rfl ?_)
      · exact Coe.kp
      · intro bx hbx c hc
        simp only [List.mem_cons, List.not_mem_nil, or_false] at hbx
        rcases hbx with rfl | rfl | rfl | rfl
        · exact lt_zero6 c hc
        · exact lt_qnF _ c hc
        · exact lt_rrF _ c hc
        · exact lt_rrF _ c hc
      · intro c hc
        simp only [List.mem_cons, List.not_mem_nil, or_false] at hc
        rcases hc with rfl | rfl | rfl <;> exact .sl _ _ _ _ _ _ (by dsimp only; omega)
      · intro k g r hk hle hlen
        simp only [Keeps, List.mem_cons, List.not_mem_nil, or_false, forall_eq_or_imp, forall_eq] at hk
        obtain ⟨k0, k2, k3, k4, k5, k7, k61, k62⟩ := hk
        refine wk (wA k62 wT) wT ?_
        refine ⟨⟨(1, g, r, 0, 0, 0, 0), by dsimp only; omega, fun _ => ⟨hle, hlen⟩, fun h => by dsimp only at h; omega, fun h => by dsimp only at h; omega⟩, ?_, by dsimp only; omega⟩
        dsimp only [psH]
        refine Coe.keep ?_
        simp (disch := omega) only [Keeps, List.mem_cons, List.not_mem_nil, or_false, forall_eq_or_imp, forall_eq, k0, k2, k3, k4, k5, k7, k61, k62, go_sem, Nat.reduceBEq, Nat.reduceLT, Nat.reduceEqDiff, reduceIte, Nat.reduceAdd, Nat.reduceMul, Nat.reduceSub, Nat.reduceLeDiff, Int.reduceToNat, Int.reducePow, Int.reduceLT, Int.reduceEq, Int.reduceNeg, Nat.reducePow, List.reduceReplicate, Int.reduceLE]
        all_goals rfl
    · dsimp only [psH]
      refine wk wT wT ?_
      refine AWP.coe ?_ (hUU ga A.1 ra A.2 (h1 (by omega)).1 ?_ ?_ hLA rfl _ _ rfl ?_)
      · exact Coe.kp
      · intro bx hbx c hc
        simp only [List.mem_cons, List.not_mem_nil, or_false] at hbx
        rcases hbx with rfl | rfl | rfl | rfl
        · exact lt_zero6 c hc
        · exact lt_qnF _ c hc
        · exact lt_rrF _ c hc
        · exact lt_rrF _ c hc
      · intro c hc
        simp only [List.mem_cons, List.not_mem_nil, or_false] at hc
        rcases hc with rfl | rfl | rfl <;> exact .sl _ _ _ _ _ _ (by dsimp only; omega)
      · intro k g r hk hle hlen
        simp only [hUe] at hle hlen ⊢
        simp only [Keeps, List.mem_cons, List.not_mem_nil, or_false, forall_eq_or_imp, forall_eq] at hk
        obtain ⟨k0, k2, k3, k4, k5, k7, k61, k62⟩ := hk
        refine wk (wA k62 wT) wT ?_
        refine ⟨⟨(2, ga, ra, g, r, 0, 0), by dsimp only; omega, fun _ => h1 (by omega), fun _ => ⟨hle, hlen⟩, fun h => by dsimp only at h; omega⟩, ?_, by dsimp only; omega⟩
        dsimp only [psH]
        refine Coe.keep ?_
        simp (disch := omega) only [Keeps, List.mem_cons, List.not_mem_nil, or_false, forall_eq_or_imp, forall_eq, k0, k2, k3, k4, k5, k7, k61, k62, go_sem, Nat.reduceBEq, Nat.reduceLT, Nat.reduceEqDiff, reduceIte, Nat.reduceAdd, Nat.reduceMul, Nat.reduceSub, Nat.reduceLeDiff, Int.reduceToNat, Int.reducePow, Int.reduceLT, Int.reduceEq, Int.reduceNeg, Nat.reducePow, List.reduceReplicate, Int.reduceLE]
        all_goals rfl
    · dsimp only [psH]
      refine wk wT wT ?_
      refine AWP.coe ?_ (hMM ga A.1 gu U.1 ra ru U.2 (h2 (by omega)).1 ?_ ?_ hLA rfl _ _ rfl ?_)
      · exact Coe.kp
      · intro bx hbx c hc
        simp only [List.mem_cons, List.not_mem_nil, or_false] at hbx
        rcases hbx with rfl | rfl | rfl | rfl
        · exact lt_zero6 c hc
        · exact lt_qnF _ c hc
        · exact lt_rrF _ c hc
        · exact lt_rrF _ c hc
      · intro c hc
        simp only [List.mem_cons, List.not_mem_nil, or_false] at hc
        rcases hc with rfl | rfl | rfl <;> exact .sl _ _ _ _ _ _ (by dsimp only; omega)
      · intro k g r hk hle hlen
        simp only [hMe] at hle hlen ⊢
        simp only [Keeps, List.mem_cons, List.not_mem_nil, or_false, forall_eq_or_imp, forall_eq] at hk
        obtain ⟨k0, k2, k3, k4, k5, k7, k61, k62⟩ := hk
        refine wk (wA k62 wT) wT ?_
        refine ⟨⟨(3, ga, ra, gu, ru, g, r), by dsimp only; omega, fun _ => h1 (by omega), fun _ => h2 (by omega), fun _ => ⟨hle, hlen⟩⟩, ?_, by dsimp only; omega⟩
        dsimp only [psH]
        refine Coe.keep ?_
        simp (disch := omega) only [Keeps, List.mem_cons, List.not_mem_nil, or_false, forall_eq_or_imp, forall_eq, k0, k2, k3, k4, k5, k7, k61, k62, go_sem, Nat.reduceBEq, Nat.reduceLT, Nat.reduceEqDiff, reduceIte, Nat.reduceAdd, Nat.reduceMul, Nat.reduceSub, Nat.reduceLeDiff, Int.reduceToNat, Int.reducePow, Int.reduceLT, Int.reduceEq, Int.reduceNeg, Nat.reducePow, List.reduceReplicate, Int.reduceLE]
        all_goals rfl
    · dsimp only [psH]
      refine wk wT wT ?_
      obtain ⟨ha1, ha2⟩ := h1 (by omega)
      obtain ⟨hu1, hu2⟩ := h2 (by omega)
      obtain ⟨hm1, hm2⟩ := h3 (by omega)
      refine hQ _ ga gu gm ra ru rm ?_ hm1 ha2 hu2 hm2
      simp (disch := omega) only [Keeps, List.mem_cons, List.not_mem_nil, or_false, forall_eq_or_imp, forall_eq, go_sem, Nat.reduceBEq, Nat.reduceLT, Nat.reduceEqDiff, reduceIte, Nat.reduceAdd, Nat.reduceMul, Nat.reduceSub, Nat.reduceLeDiff, Int.reduceToNat, Int.reducePow, Int.reduceLT, Int.reduceEq, Int.reduceNeg, Nat.reducePow, List.reduceReplicate, Int.reduceLE]
    · omega

end Go.Proofs.Ytkkhbmpcpilmfaa.VL
