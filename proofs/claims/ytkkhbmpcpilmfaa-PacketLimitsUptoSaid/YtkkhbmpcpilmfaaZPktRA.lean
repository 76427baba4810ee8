/- Layer 17: whether a packet may be, and whether it is great, as the reference says. -/
import Derived.Test.YtkkhbmpcpilmfaaZCd
import Derived.Test.YtkkhbmpcpilmfaaZPb
import Derived.Test.YtkkhbmpcpilmfaaZLabB
-- STEPWISE
-- WK
set_option linter.unusedVariables false
set_option linter.unusedSimpArgs false
set_option maxRecDepth 10000
namespace Go.Proofs.Ytkkhbmpcpilmfaa.VL
open Go Go.RowKit Go.Lib

/-- How much is in records, in questions, in a packet. -/
def szR : List Rr → Nat
  | [] => 0
  | r :: l => (r.n.length + r.d.length) + szR l
def szQ : List Qn → Nat
  | [] => 0
  | q :: l => q.n.length + szQ l
def szP (p : Pk) : Nat := p.q.length + p.a.length + p.u.length + p.m.length + szQ p.q + szR p.a + szR p.u + szR p.m
theorem szR_snoc : ∀ (l : List Rr) (r : Rr), szR (l ++ [r]) = szR l + (r.n.length + r.d.length)
  | [], r => by simp [szR]
  | x :: l, r => by rw [List.cons_append, szR, szR, szR_snoc l r]; omega
theorem szQ_snoc : ∀ (l : List Qn) (r : Qn), szQ (l ++ [r]) = szQ l + r.n.length
  | [], r => by simp [szQ]
  | x :: l, r => by rw [List.cons_append, szQ, szQ, szQ_snoc l r]; omega
theorem szR_mem : ∀ {l : List Rr} {r : Rr}, r ∈ l → r.n.length + r.d.length ≤ szR l
  | x :: l, r, h => by
    rw [szR]
    rcases List.mem_cons.1 h with rfl | h
    · omega
    · have := szR_mem h; omega
theorem szQ_mem : ∀ {l : List Qn} {r : Qn}, r ∈ l → r.n.length ≤ szQ l
  | x :: l, r, h => by
    rw [szQ]
    rcases List.mem_cons.1 h with rfl | h
    · omega
    · have := szQ_mem h; omega
theorem szR_take : ∀ (l : List Rr) (k : Nat), szR (l.take k) ≤ szR l
  | [], k => by simp [szR]
  | r :: l, 0 => by simp [szR]
  | r :: l, k + 1 => by rw [List.take_succ_cons, szR, szR]; have := szR_take l k; omega
theorem szQ_take : ∀ (l : List Qn) (k : Nat), szQ (l.take k) ≤ szQ l
  | [], k => by simp [szQ]
  | r :: l, 0 => by simp [szQ]
  | r :: l, k + 1 => by rw [List.take_succ_cons, szQ, szQ]; have := szQ_take l k; omega

theorem refTwo17_spec (n : Int) (H : List Box) : ASpec Try.prog 34 [vi n] H (Gives (vb (win n 65535)) H) := by
  unfold win
  by_cases h : 0 ≤ n
  · refine ASpec.enter Try.func34 rfl (fun a w => Try.call34 a w) Try.ntmps34 Try.results34 fun base w β hI => ?_
    refine wk (wA h wT) wT ?_
    refine wkEnd wT ?_
    exact Fin.same ⟨by simp [h], rfl⟩
  · refine ASpec.enter Try.func34 rfl (fun a w => Try.call34 a w) Try.ntmps34 Try.results34 fun base w β hI => ?_
    refine wk (wA h wT) wT ?_
    refine wkEnd wT ?_
    exact Fin.same ⟨by simp [h], rfl⟩

theorem all_get {α : Type} {f : α → Bool} {l : List α} {i : Nat} {x : α} (h : l.all f = true) (hg : l[i]? = some x) : f x = true := List.all_eq_true.1 h x (List.mem_iff_getElem?.2 ⟨i, hg⟩)
theorem all_snoc {α : Type} {f : α → Bool} {l : List α} {i : Nat} {x : α} (h : (l.take i).all f = true) (hg : l[i]? = some x) (hx : f x = true) : (l.take (i + 1)).all f = true := by
  rw [take_snoc hg, List.all_append, h]; simp [hx]
theorem all_not {α : Type} {f : α → Bool} {l : List α} {i : Nat} {x : α} (hg : l[i]? = some x) (hx : f x = false) : l.all f = false := by
  cases h : l.all f with
  | false => rfl
  | true => rw [all_get h hg] at hx; cases hx

set_option maxHeartbeats 4000000 in
theorem records_spec (l : List Rr) (hl : l.length ≤ 1048576) (hs : szR l ≤ 1048576) (H : List Box) : ASpec Try.prog 35 [.lst 5 (rrG l)] H (Gives (vb (rsOk l)) H) := by
  have hrt := fun (s : List UInt8) hs H => refRight16_spec s hs H
  have htw := fun n H => refTwo17_spec n H
  refine ASpec.enter Try.func35 rfl (fun a w => Try.call35 a w) Try.ntmps35 Try.results35 fun base w β hI => ?_
  refine wk wT wT ?_
  refine AWP.loop (ι := {i : Nat // i ≤ l.length ∧ i ≤ 101 ∧ (l.take i).all rOk = true}) (fun p => ⟨[(0, .lst 5 (rrG l)), (3, vi p.1)], H⟩) (fun p => l.length - p.1) ⟨0, Nat.zero_le _, by omega, by simp⟩ ?_ ?_
  · dsimp only
    exact Coe.kp
  · rintro ⟨i, hi, hi2, hall⟩
    dsimp only
    by_cases hc : (i : Int) < (l.length : Int)
    · by_cases hc2 : (i : Int) < 101
      · have hg : l[i]? = some l[i] := List.getElem?_eq_getElem (by omega)
        have hm := szR_mem (List.getElem_mem (l := l) (n := i) (by omega))
        generalize l[i] = r at hg hm
        have hrt1 := fun H => hrt r.n (by omega) H
        have htw1 := fun H => htw r.t H
        have htw2 := fun H => htw r.c H
        have hfail : rOk r = false → rsOk l = false := fun h => by unfold rsOk; rw [all_not hg h, Bool.and_false]
        have hrk : rOk r = ((lab r.n).isSome && (win r.t 65535 && (win r.c 65535 && ((decide (0 ≤ r.l) && decide (r.l ≤ 2147483647)) && decide (r.d.length ≤ 1000))))) := rfl
        obtain ⟨n, t, c, tl, d⟩ := r
        dsimp only at hrt1 htw1 htw2 hrk hm
        generalize win t 65535 = w1 at *
        generalize win c 65535 = w2 at *
        cases d1 : (lab n).isSome
        · rw [hfail (by rw [hrk, d1]; rfl)]
          refine wk (wA hc (wA hc2 (wA hg (wA d1 wT)))) (wA hrt1 (wA htw1 (wA htw2 wT))) ?_
          refine wkEnd wT ?_
          exact Fin.same ⟨rfl, rfl⟩
        cases w1
        · rw [hfail (by rw [hrk]; simp)]
          refine wk (wA hc (wA hc2 (wA hg (wA d1 wT)))) (wA hrt1 (wA htw1 (wA htw2 wT))) ?_
          refine wkEnd wT ?_
          exact Fin.same ⟨rfl, rfl⟩
        cases w2
        · rw [hfail (by rw [hrk]; simp)]
          refine wk (wA hc (wA hc2 (wA hg (wA d1 wT)))) (wA hrt1 (wA htw1 (wA htw2 wT))) ?_
          refine wkEnd wT ?_
          exact Fin.same ⟨rfl, rfl⟩
        by_cases d4 : tl < 0
        · rw [hfail (by rw [hrk, show decide (0 ≤ tl) = false from decide_eq_false (by omega)]; simp)]
          refine wk (wA hc (wA hc2 (wA hg (wA d1 (wA d4 wT))))) (wA hrt1 (wA htw1 (wA htw2 wT))) ?_
          refine wkEnd wT ?_
          exact Fin.same ⟨rfl, rfl⟩
        by_cases d5 : 2147483647 < tl
        · rw [hfail (by rw [hrk, show decide (tl ≤ 2147483647) = false from decide_eq_false (by omega)]; simp)]
          refine wk (wA hc (wA hc2 (wA hg (wA d1 (wA d4 (wA d5 wT)))))) (wA hrt1 (wA htw1 (wA htw2 wT))) ?_
          refine wkEnd wT ?_
          exact Fin.same ⟨rfl, rfl⟩
        by_cases d6 : (1000 : Int) < (d.length : Int)
        · rw [hfail (by rw [hrk, show decide (d.length ≤ 1000) = false from decide_eq_false (by omega)]; simp)]
          refine wk (wA hc (wA hc2 (wA hg (wA d1 (wA d4 (wA d5 (wA d6 wT))))))) (wA hrt1 (wA htw1 (wA htw2 wT))) ?_
          refine wkEnd wT ?_
          exact Fin.same ⟨rfl, rfl⟩
        have hok : rOk ⟨n, t, c, tl, d⟩ = true := by rw [hrk, d1]; simp; omega
        refine wk (wA hc (wA hc2 (wA hg (wA d1 (wA d4 (wA d5 (wA d6 wT))))))) (wA hrt1 (wA htw1 (wA htw2 wT))) ?_
        refine ⟨⟨i + 1, by omega, by omega, all_snoc hall hg hok⟩, ?_, by dsimp only; omega⟩
        dsimp only
        exact Coe.kp
      · have hlong : ¬ (l.length : Int) ≤ 100 := by omega
        have : rsOk l = false := by unfold rsOk; rw [decide_eq_false (by omega), Bool.false_and]
        rw [this]
        refine wk (wA hc (wA hc2 (wA hlong wT))) wT ?_
        refine wkEnd wT ?_
        exact Fin.same ⟨rfl, rfl⟩
    · have : i = l.length := by omega
      subst this
      rw [List.take_length] at hall
      have : rsOk l = decide ((l.length : Int) ≤ 100) := by
        unfold rsOk; rw [hall, Bool.and_true]
        exact decide_eq_decide.2 (by omega)
      rw [this]
      refine wk (wA hc wT) wT ?_
      refine wkEnd wT ?_
      exact Fin.same ⟨rfl, rfl⟩

end Go.Proofs.Ytkkhbmpcpilmfaa.VL
