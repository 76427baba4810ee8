/- Layer 17: whether a packet is great. -/
import Derived.Test.YtkkhbmpcpilmfaaZCd
import Derived.Test.YtkkhbmpcpilmfaaZPktRB
-- STEPWISE
-- WK
set_option linter.unusedVariables false
set_option linter.unusedSimpArgs false
set_option maxRecDepth 10000
namespace Go.Proofs.Ytkkhbmpcpilmfaa.VL
open Go Go.RowKit Go.Lib

/-- A count that stops behind 3000. -/
structure Cnt (tot n now : Nat) : Prop where
  le : n ≤ tot
  eq : n ≤ 3000 → n = now
theorem Cnt.end {tot n : Nat} (h : Cnt tot n tot) : (3000 < n) ↔ (3000 < tot) := by
  have := h.le
  constructor
  · omega
  · intro h1
    by_cases h2 : n ≤ 3000
    · have := h.eq h2; omega
    · omega
theorem Cnt.stop {tot n now now' : Nat} (h : Cnt tot n now) (hn : ¬ n ≤ 3000) : Cnt tot n now' := ⟨h.le, fun h2 => absurd h2 hn⟩
theorem Cnt.next {tot n now k : Nat} (h : Cnt tot n now) (hn : n ≤ 3000) (hk : now + k ≤ tot) : Cnt tot (n + k) (now + k) := ⟨by rw [h.eq hn]; exact hk, fun _ => by rw [h.eq hn]⟩

set_option maxHeartbeats 8000000 in
theorem great_inner (p : Pk) (tot : Nat) (htot : tot ≤ 1048576) (L : List Rr) (hL : L.length ≤ 1048576) (now : Nat) (hnow : now + szR L ≤ tot) (i : Nat) (hi : i < 3) (cs : List AV) (hcs : cs.length = 3) (hci : cs[i]? = some (.lst 5 (rrG L)))
    (E : Ent) (hE : E.n = 87) (PX : Box) (Q : AExit → ASt → Prop) (body : Code) (hbody : ((Try.f9.body).bind lastLoop).bind firstLoop = some body) (n0 : Nat) (hn0 : Cnt tot n0 now)
    (hQ : ∀ k n, Cnt tot n (now + szR L) → Keeps k [(3, vi n), (5, .ptr (E.H.length + 1) 0 0), (6, vi i)] → Q (.exit 4) ⟨k, E.H ++ [PX, ⟨cs, 0, 0, false⟩]⟩) :
    AWP Try.prog E (.loop body) Q ⟨[(3, vi n0), (5, .ptr (E.H.length + 1) 0 0), (6, vi i), (7, vi 0)], E.H ++ [PX, ⟨cs, 0, 0, false⟩]⟩ := by
  obtain ⟨base, n, w, H, β, hI⟩ := E
  dsimp only at *
  subst hE
  dsimp only [lastLoop, firstLoop, Option.bind, Try.f9] at hbody
  injection hbody with hbody
  subst hbody
  have hC : (H ++ [PX, ⟨cs, 0, 0, false⟩])[H.length + 1]? = some ⟨cs, 0, 0, false⟩ := by simp
  refine AWP.loop (ι := {s : Nat × Nat // s.1 ≤ L.length ∧ Cnt tot s.2 (now + szR (L.take s.1))}) (fun s => ⟨[(3, vi s.1.2), (5, .ptr (H.length + 1) 0 0), (6, vi i), (7, vi s.1.1)], H ++ [PX, ⟨cs, 0, 0, false⟩]⟩) (fun s => L.length - s.1.1) ⟨(0, n0), Nat.zero_le _, by simpa [szR] using hn0⟩ ?_ ?_
  · dsimp only
    exact Coe.kp
  · rintro ⟨⟨k, n⟩, hk, hn⟩
    dsimp only at hk hn ⊢
    have hnl := hn.le
    by_cases hc : (k : Int) < (L.length : Int)
    · by_cases hc2 : (n : Int) ≤ 3000
      · have hg : L[k]? = some L[k] := List.getElem?_eq_getElem (by omega)
        have hsn := szR_snoc (L.take k) L[k]
        rw [← take_snoc hg] at hsn
        have hle := szR_take L (k + 1)
        generalize L[k] = r at hg hsn
        have hnx := hn.next (k := r.n.length + r.d.length) (by omega) (by omega)
        have hnxl := hnx.le
        obtain ⟨rn, rt, rc, rl, rd⟩ := r
        dsimp only at hsn hnx hnxl
        refine wk (wA hC (wA hci (wA hc (wA hc2 (wA hg wT))))) wT ?_
        refine ⟨⟨(k + 1, n + (rn.length + rd.length)), by dsimp only; omega, by dsimp only; rw [hsn, ← Nat.add_assoc now]; exact hnx⟩, ?_, by dsimp only; omega⟩
        dsimp only
        rw [← Nat.add_assoc n]
        exact Coe.kp
      · refine wk (wA hC (wA hci (wA hc (wA hc2 wT)))) wT ?_
        refine hQ _ n (hn.stop (by omega)) ?_
        simp (disch := omega) only [Keeps, List.mem_cons, List.not_mem_nil, or_false, forall_eq_or_imp, forall_eq, go_sem, Nat.reduceBEq, Nat.reduceLT, Nat.reduceEqDiff, reduceIte, Nat.reduceAdd, Nat.reduceMul, Nat.reduceSub, Nat.reduceLeDiff, Int.reduceToNat, Int.reducePow, Int.reduceLT, Int.reduceEq, Int.reduceNeg, Nat.reducePow, List.reduceReplicate, Int.reduceLE]
    · have : k = L.length := by omega
      subst this
      rw [List.take_length] at hn
      refine wk (wA hC (wA hci (wA hc wT))) wT ?_
      refine hQ _ n hn ?_
      simp (disch := omega) only [Keeps, List.mem_cons, List.not_mem_nil, or_false, forall_eq_or_imp, forall_eq, go_sem, Nat.reduceBEq, Nat.reduceLT, Nat.reduceEqDiff, reduceIte, Nat.reduceAdd, Nat.reduceMul, Nat.reduceSub, Nat.reduceLeDiff, Int.reduceToNat, Int.reducePow, Int.reduceLT, Int.reduceEq, Int.reduceNeg, Nat.reducePow, List.reduceReplicate, Int.reduceLE]

def nowP (p : Pk) (i : Nat) : Nat := p.q.length + p.a.length + p.u.length + p.m.length + szQ p.q + (if 1 ≤ i then szR p.a else 0) + (if 2 ≤ i then szR p.u else 0) + (if 3 ≤ i then szR p.m else 0)

theorem now_next (p : Pk) : nowP p 1 = nowP p 0 + szR p.a ∧ nowP p 2 = nowP p 1 + szR p.u ∧ nowP p 3 = nowP p 2 + szR p.m ∧ nowP p 3 = szP p ∧ nowP p 0 = p.q.length + p.a.length + p.u.length + p.m.length + szQ p.q := by
  unfold nowP szP
  simp

set_option maxHeartbeats 8000000 in
theorem great_outer (p : Pk) (hp : szP p ≤ 1048576) (E : Ent) (hE : E.n = 87) (PX : Box) (Q : AExit → ASt → Prop) (body : Code) (hbody : (Try.f9.body).bind lastLoop = some body) (n0 : Nat) (hn0 : Cnt (szP p) n0 (nowP p 0))
    (hQ : ∀ k n, Cnt (szP p) n (szP p) → lk k 3 = vi n → Q (.exit 2) ⟨k, E.H ++ [PX, ⟨[.lst 5 (rrG p.a), .lst 5 (rrG p.u), .lst 5 (rrG p.m)], 0, 0, false⟩]⟩) :
    AWP Try.prog E (.loop body) Q ⟨[(3, vi n0), (5, .ptr (E.H.length + 1) 0 0), (6, vi 0)], E.H ++ [PX, ⟨[.lst 5 (rrG p.a), .lst 5 (rrG p.u), .lst 5 (rrG p.m)], 0, 0, false⟩]⟩ := by
  obtain ⟨lq, la, lu, lm, sq, sa, su, sm⟩ := szP_parts hp
  obtain ⟨w1, w2, w3, w4, w0⟩ := now_next p
  have hin := fun L hL now hnow i hi cs hcs hci E hE PX Q n0 hn0 => great_inner p (szP p) hp L hL now hnow i hi cs hcs hci E hE PX Q _ rfl n0 hn0
  generalize nowP p = now at *
  generalize szP p = tot at *
  obtain ⟨id, fl, q, a, u, m⟩ := p
  obtain ⟨base, n, w, H, β, hI⟩ := E
  dsimp only at *
  subst hE
  have i0 := hin a la (now 0) (by omega) 0 (by omega) [.lst 5 (rrG a), .lst 5 (rrG u), .lst 5 (rrG m)] rfl rfl ⟨base, 87, w, H, β, hI⟩ rfl PX
  have i1 := hin u lu (now 1) (by omega) 1 (by omega) [.lst 5 (rrG a), .lst 5 (rrG u), .lst 5 (rrG m)] rfl rfl ⟨base, 87, w, H, β, hI⟩ rfl PX
  have i2 := hin m lm (now 2) (by omega) 2 (by omega) [.lst 5 (rrG a), .lst 5 (rrG u), .lst 5 (rrG m)] rfl rfl ⟨base, 87, w, H, β, hI⟩ rfl PX
  rw [← w1] at i0
  rw [← w2] at i1
  rw [← w3] at i2
  dsimp only [lastLoop, firstLoop, Option.bind, Try.f9] at hbody
  injection hbody with hbody
  subst hbody
  refine AWP.loop (ι := {s : Nat × Nat // s.1 ≤ 3 ∧ Cnt tot s.2 (now s.1)}) (fun s => ⟨[(3, vi s.1.2), (5, .ptr (H.length + 1) 0 0), (6, vi s.1.1)], H ++ [PX, ⟨[.lst 5 (rrG a), .lst 5 (rrG u), .lst 5 (rrG m)], 0, 0, false⟩]⟩) (fun s => 3 - s.1.1) ⟨(0, n0), Nat.zero_le _, hn0⟩ ?_ ?_
  · dsimp only
    exact Coe.kp
  · rintro ⟨⟨i, n⟩, hi, hn⟩
    dsimp only at hi hn ⊢
    rcases i with _ | _ | _ | _ | i
    · refine wk wT wT ?_
      refine AWP.coe ?_ (i0 _ n hn ?_)
      · exact Coe.kp
      · intro k n' hn' hk
        simp only [Keeps, List.mem_cons, List.not_mem_nil, or_false, forall_eq_or_imp, forall_eq] at hk
        obtain ⟨h3, h5, h6⟩ := hk
        refine wk (wA h6 wT) wT ?_
        refine ⟨⟨(1, n'), by dsimp only; omega, hn'⟩, ?_, by dsimp only; omega⟩
        dsimp only
        refine Coe.keep ?_
        simp (disch := omega) only [Keeps, List.mem_cons, List.not_mem_nil, or_false, forall_eq_or_imp, forall_eq, h3, h5, h6, go_sem, Nat.reduceBEq, Nat.reduceLT, Nat.reduceEqDiff, reduceIte, Nat.reduceAdd, Nat.reduceMul, Nat.reduceSub, Nat.reduceLeDiff, Int.reduceToNat, Int.reducePow, Int.reduceLT, Int.reduceEq, Int.reduceNeg, Nat.reducePow, List.reduceReplicate, Int.reduceLE]
        all_goals rfl
    · refine wk wT wT ?_
      refine AWP.coe ?_ (i1 _ n hn ?_)
      · exact Coe.kp
      · intro k n' hn' hk
        simp only [Keeps, List.mem_cons, List.not_mem_nil, or_false, forall_eq_or_imp, forall_eq] at hk
        obtain ⟨h3, h5, h6⟩ := hk
        refine wk (wA h6 wT) wT ?_
        refine ⟨⟨(2, n'), by dsimp only; omega, hn'⟩, ?_, by dsimp only; omega⟩
        dsimp only
        refine Coe.keep ?_
        simp (disch := omega) only [Keeps, List.mem_cons, List.not_mem_nil, or_false, forall_eq_or_imp, forall_eq, h3, h5, h6, go_sem, Nat.reduceBEq, Nat.reduceLT, Nat.reduceEqDiff, reduceIte, Nat.reduceAdd, Nat.reduceMul, Nat.reduceSub, Nat.reduceLeDiff, Int.reduceToNat, Int.reducePow, Int.reduceLT, Int.reduceEq, Int.reduceNeg, Nat.reducePow, List.reduceReplicate, Int.reduceLE]
        all_goals rfl
    · refine wk wT wT ?_
      refine AWP.coe ?_ (i2 _ n hn ?_)
      · exact Coe.kp
      · intro k n' hn' hk
        simp only [Keeps, List.mem_cons, List.not_mem_nil, or_false, forall_eq_or_imp, forall_eq] at hk
        obtain ⟨h3, h5, h6⟩ := hk
        refine wk (wA h6 wT) wT ?_
        refine ⟨⟨(3, n'), by dsimp only; omega, hn'⟩, ?_, by dsimp only; omega⟩
        dsimp only
        refine Coe.keep ?_
        simp (disch := omega) only [Keeps, List.mem_cons, List.not_mem_nil, or_false, forall_eq_or_imp, forall_eq, h3, h5, h6, go_sem, Nat.reduceBEq, Nat.reduceLT, Nat.reduceEqDiff, reduceIte, Nat.reduceAdd, Nat.reduceMul, Nat.reduceSub, Nat.reduceLeDiff, Int.reduceToNat, Int.reducePow, Int.reduceLT, Int.reduceEq, Int.reduceNeg, Nat.reducePow, List.reduceReplicate, Int.reduceLE]
        all_goals rfl
    · rw [w4] at hn
      refine wk wT wT ?_
      exact hQ _ n hn rfl
    · omega

set_option maxHeartbeats 8000000 in
theorem great_spec (p : Pk) (hp : szP p ≤ 1048576) (H : List Box) : ASpec Try.prog 9 [.agg (pkC p)] H (Gives (vb (decide (3000 < szP p))) H) := by
  obtain ⟨lq, la, lu, lm, sq, sa, su, sm⟩ := szP_parts hp
  obtain ⟨_, _, _, _, w0⟩ := now_next p
  have htot : szP p = p.q.length + p.a.length + p.u.length + p.m.length + szQ p.q + szR p.a + szR p.u + szR p.m := rfl
  have hout := fun E hE PX Q n0 hn0 => great_outer p hp E hE PX Q _ rfl n0 hn0
  rw [w0] at hout
  generalize szP p = tot at *
  obtain ⟨id, fl, q, a, u, m⟩ := p
  dsimp only at *
  refine ASpec.enter Try.func9 rfl (fun a w => Try.call9 a w) Try.ntmps9 Try.results9 fun base w β hI => ?_
  have ho := hout ⟨base, 87, w, H, β, hI⟩ rfl ⟨[vi id, vi fl, .lst 3 (qnG q), .lst 5 (rrG a), .lst 5 (rrG u), .lst 5 (rrG m)], 0, 0, false⟩
  refine wk wT wT ?_
  refine AWP.loop (ι := {s : Nat × Nat // s.1 ≤ q.length ∧ Cnt tot s.2 (q.length + a.length + u.length + m.length + szQ (q.take s.1))}) (fun s => ⟨[(1, .ptr H.length 0 0), (3, vi s.1.2), (4, vi s.1.1)], H ++ [⟨[vi id, vi fl, .lst 3 (qnG q), .lst 5 (rrG a), .lst 5 (rrG u), .lst 5 (rrG m)], 0, 0, false⟩]⟩) (fun s => q.length - s.1.1) ⟨(0, q.length + a.length + u.length + m.length), Nat.zero_le _, by simp only [List.take_zero, szQ]; exact ⟨by omega, fun _ => rfl⟩⟩ ?_ ?_
  · dsimp only
    exact Coe.kp
  · rintro ⟨⟨k, n⟩, hk, hn⟩
    dsimp only at hk hn ⊢
    have hnl := hn.le
    by_cases hc : (k : Int) < (q.length : Int)
    · by_cases hc2 : (n : Int) ≤ 3000
      · have hg : q[k]? = some q[k] := List.getElem?_eq_getElem (by omega)
        have hsn := szQ_snoc (q.take k) q[k]
        rw [← take_snoc hg] at hsn
        have hle := szQ_take q (k + 1)
        generalize q[k] = r at hg hsn
        have hnx := hn.next (k := r.n.length) (by omega) (by omega)
        have hnxl := hnx.le
        obtain ⟨rn, rt, rc⟩ := r
        dsimp only at hsn hnx hnxl
        refine wk (wA hc (wA hc2 (wA hg wT))) wT ?_
        refine ⟨⟨(k + 1, n + rn.length), by dsimp only; omega, by rw [hsn, ← Nat.add_assoc]; exact hnx⟩, ?_, by dsimp only; omega⟩
        dsimp only
        exact Coe.kp
      · refine wk (wA hc (wA hc2 wT)) wT ?_
        refine AWP.coe ?_ (ho _ n (hn.stop (by omega)) ?_)
        · exact Coe.kp
        · intro k n' hn' h3
          have he := hn'.end
          rw [show decide (3000 < tot) = decide ((3000 : Int) < (n' : Int)) from decide_eq_decide.2 (by omega)]
          refine wk (wA h3 wT) wT ?_
          refine wkEnd wT ?_
          exact Fin.cut (.v _) ⟨rfl, rfl⟩
    · have : k = q.length := by omega
      subst this
      rw [List.take_length] at hn
      refine wk (wA hc wT) wT ?_
      refine AWP.coe ?_ (ho _ n hn ?_)
      · exact Coe.kp
      · intro k n' hn' h3
        have he := hn'.end
        rw [show decide (3000 < tot) = decide ((3000 : Int) < (n' : Int)) from decide_eq_decide.2 (by omega)]
        refine wk (wA h3 wT) wT ?_
        refine wkEnd wT ?_
        exact Fin.cut (.v _) ⟨rfl, rfl⟩

end Go.Proofs.Ytkkhbmpcpilmfaa.VL
