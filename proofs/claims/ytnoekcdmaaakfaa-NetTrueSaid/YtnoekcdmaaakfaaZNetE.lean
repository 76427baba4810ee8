/- Layer 25: whether a net may be. -/
import Derived.Test.YtnoekcdmaaakfaaZNetA
import Derived.Test.YtnoekcdmaaakfaaZNetC
-- STEPWISE
-- WK
set_option linter.unusedVariables false
set_option linter.unusedSimpArgs false
set_option maxRecDepth 10000
namespace Go.Proofs.Ytnoekcdmaaakfaa.VL
open Go Go.RowKit Go.Lib

theorem or2_spec (x y : Int) (H : List Box) : ASpec Try.prog 53 [.lst 1 [[vi x], [vi y]]] H (Gives (vi (if x ≠ 0 then x else y)) H) := by
  refine ASpec.enter Try.func53 rfl (fun a w => Try.call53 a w) Try.ntmps53 Try.results53 fun base w β hI => ?_
  refine wk wT (wA DrM.mk wT) ?_
  refine AWP.loop (ι := {i : Nat // i ≤ 2 ∧ (0 < i → x = 0) ∧ (1 < i → y = 0)}) (fun p => ⟨[(3, vi 0), (6, .lst 1 [[vi x], [vi y]]), (7, vi 2), (8, vi p.1)], H⟩) (fun p => 2 - p.1) ⟨0, by omega, by omega, by omega⟩ ?_ ?_
  · dsimp only
    exact Coe.kp
  · rintro ⟨i, hi, h0, h1⟩
    dsimp only
    rcases i with _ | _ | _ | i
    · by_cases hx : x = 0
      · subst hx
        refine wk wT (wA DrM.mk wT) ?_
        refine ⟨⟨1, by omega, fun _ => rfl, by omega⟩, ?_, by dsimp only; omega⟩
        dsimp only
        exact Coe.kp
      · rw [if_pos hx]
        refine wk (wA hx wT) (wA DrM.mk wT) ?_
        refine wkEnd wT ?_
        exact Fin.same ⟨rfl, rfl⟩
    · have hx := h0 (by omega)
      subst hx
      by_cases hy : y = 0
      · subst hy
        refine wk wT (wA DrM.mk wT) ?_
        refine ⟨⟨2, by omega, fun _ => rfl, fun _ => rfl⟩, ?_, by dsimp only; omega⟩
        dsimp only
        exact Coe.kp
      · rw [if_neg (by simp)]
        refine wk (wA hy wT) (wA DrM.mk wT) ?_
        refine wkEnd wT ?_
        exact Fin.same ⟨rfl, rfl⟩
    · have hx := h0 (by omega)
      have hy := h1 (by omega)
      subst hx
      subst hy
      rw [if_neg (by simp)]
      refine wk wT (wA DrM.mk wT) ?_
      refine wkEnd wT ?_
      exact Fin.same ⟨rfl, rfl⟩
    · omega
theorem nodeOk_le {n : Int} (h : nodeOk n = true) : 0 ≤ n ∧ n < 8 := by unfold nodeOk at h; simpa using h
theorem ctOk_le {c : Ct} (h : ctOk c = true) : (0 ≤ c.a ∧ c.a < 8) ∧ (0 ≤ c.b ∧ c.b < 8) ∧ c.a < c.b := by
  unfold ctOk at h
  simp only [Bool.and_eq_true, decide_eq_true_eq] at h
  exact ⟨nodeOk_le h.1, nodeOk_le h.2.1, h.2.2⟩
theorem order_spec (x y : Ct) (hx : (0 ≤ x.a ∧ x.a < 8) ∧ (0 ≤ x.b ∧ x.b < 8)) (hy : (0 ≤ y.a ∧ y.a < 8) ∧ (0 ≤ y.b ∧ y.b < 8)) (H : List Box) :
    ASpec Try.prog 40 [.agg (ctC x), .agg (ctC y)] H (Gives (vi (ordC x y)) H) := by
  have ho := fun H => or2_spec (x.a - y.a) (x.b - y.b) H
  unfold ordC
  obtain ⟨xa, xb⟩ := x
  obtain ⟨ya, yb⟩ := y
  dsimp only at *
  generalize (if xa - ya ≠ 0 then xa - ya else xb - yb) = z at *
  refine ASpec.enter Try.func40 rfl (fun a w => Try.call40 a w) Try.ntmps40 Try.results40 fun base w β hI => ?_
  refine wk wT (wA ho (wA DrM.mk wT)) ?_
  refine wkEnd wT ?_
  exact Fin.cut (.v _) ⟨rfl, rfl⟩

def prevC (l : List Ct) : Nat → Option Ct
  | 0 => none
  | i + 1 => l[i]?
theorem chain_bad {p : Option Ct} {c : Ct} {l : List Ct} (h : ctOk c = false) : chainOk p (c :: l) = false := by
  cases p <;> simp [chainOk, h]
theorem chain_none {c : Ct} {l : List Ct} (h : ctOk c = true) : chainOk none (c :: l) = chainOk (some c) l := by simp [chainOk, h]
theorem chain_some {p c : Ct} {l : List Ct} (h : ctOk c = true) : chainOk (some p) (c :: l) = (decide (ordC p c < 0) && chainOk (some c) l) := by simp [chainOk, h]
theorem drop_get' {α : Type} {l : List α} {i : Nat} {x : α} (h : l[i]? = some x) : l.drop i = x :: l.drop (i + 1) := by
  have hi := (List.getElem?_eq_some_iff.1 h).1
  rw [List.drop_eq_getElem_cons hi, (List.getElem?_eq_some_iff.1 h).2]

set_option maxHeartbeats 8000000 in
theorem netRight_spec (n : Nt) (hl : n.fl.length ≤ 9223372036854775807) (hc : n.cu.length ≤ 9223372036854775807) (H : List Box) : ASpec Try.prog 23 [.agg (ntC n)] H (Gives (vb (ntOk n)) H) := by
  have ho := fun H => hasOdd_spec n.fl hl H
  have hord := fun x y hx hy H => order_spec x y hx hy H
  have hnd := fun a H => node_spec a H
  obtain ⟨fl, cu⟩ := n
  have hn : ntOk ⟨fl, cu⟩ = (decide (fl.length ≤ 60) && (decide (cu.length ≤ 28) && (fl.all mlOk && chainOk none cu))) := rfl
  dsimp only at *
  by_cases d1 : (60 : Int) < (fl.length : Int)
  · rw [decide_eq_false (by omega), Bool.false_and] at hn
    rw [hn]
    refine ASpec.enter Try.func23 rfl (fun a w => Try.call23 a w) Try.ntmps23 Try.results23 fun base w β hI => ?_
    refine wk (wA d1 wT) (wA DrM.mk wT) ?_
    refine wkEnd wT ?_
    exact Fin.cut (.v _) ⟨rfl, rfl⟩
  rw [decide_eq_true (by omega), Bool.true_and] at hn
  by_cases d2 : (28 : Int) < (cu.length : Int)
  · rw [decide_eq_false (by omega), Bool.false_and] at hn
    rw [hn]
    refine ASpec.enter Try.func23 rfl (fun a w => Try.call23 a w) Try.ntmps23 Try.results23 fun base w β hI => ?_
    refine wk (wA d1 (wA d2 wT)) (wA DrM.mk wT) ?_
    refine wkEnd wT ?_
    exact Fin.cut (.v _) ⟨rfl, rfl⟩
  rw [decide_eq_true (by omega), Bool.true_and] at hn
  generalize fl.all mlOk = x3 at *
  cases x3 with
  | false =>
    rw [Bool.false_and] at hn
    rw [hn]
    rw [Bool.not_false] at ho
    refine ASpec.enter Try.func23 rfl (fun a w => Try.call23 a w) Try.ntmps23 Try.results23 fun base w β hI => ?_
    refine wk (wA d1 (wA d2 wT)) (wA ho (wA DrM.mk wT)) ?_
    refine wkEnd wT ?_
    exact Fin.cut (.v _) ⟨rfl, rfl⟩
  | true =>
    rw [Bool.true_and] at hn
    rw [hn]
    rw [Bool.not_true] at ho
    refine ASpec.enter Try.func23 rfl (fun a w => Try.call23 a w) Try.ntmps23 Try.results23 fun base w β hI => ?_
    refine wk (wA d1 (wA d2 wT)) (wA ho (wA DrM.mk wT)) ?_
    refine AWP.loop (ι := {i : Nat // i ≤ cu.length ∧ chainOk none cu = chainOk (prevC cu i) (cu.drop i) ∧ ∀ p, prevC cu i = some p → ctOk p = true})
      (fun p => ⟨[(1, .ptr H.length 0 0), (21, .lst 2 (ctG cu)), (22, vi cu.length), (23, vi p.1)], H ++ [⟨ntC ⟨fl, cu⟩, 0, 0, false⟩]⟩) (fun p => cu.length - p.1) ⟨0, Nat.zero_le _, rfl, fun p h => by cases h⟩ ?_ ?_
    · dsimp only
      exact Coe.kp
    · rintro ⟨i, hi, he, hp⟩
      dsimp only
      by_cases hc : (i : Int) < (cu.length : Int)
      · have hg : cu[i]? = some cu[i] := List.getElem?_eq_getElem (by omega)
        generalize cu[i] = c at hg
        rw [drop_get' hg] at he
        have n1 := fun H => hnd c.a H
        have n2 := fun H => hnd c.b H
        have hck : ctOk c = (nodeOk c.a && (nodeOk c.b && decide (c.a < c.b))) := rfl
        have hfail : ctOk c = false → chainOk none cu = false := fun h => by rw [he, chain_bad h]
        obtain ⟨a, b⟩ := c
        dsimp only at n1 n2 hck
        cases h1 : nodeOk a
        · rw [hfail (by rw [hck, h1]; rfl)]
          refine wk (wA hc (wA hg (wA h1 wT))) (wA n1 (wA n2 (wA DrM.mk wT))) ?_
          refine wkEnd wT ?_
          exact Fin.cut (.v _) ⟨rfl, rfl⟩
        cases h2 : nodeOk b
        · rw [hfail (by rw [hck, h1, h2]; rfl)]
          refine wk (wA hc (wA hg (wA h1 (wA h2 wT)))) (wA n1 (wA n2 (wA DrM.mk wT))) ?_
          refine wkEnd wT ?_
          exact Fin.cut (.v _) ⟨rfl, rfl⟩
        by_cases h3 : b ≤ a
        · rw [hfail (by rw [hck, h1, h2, decide_eq_false (by omega)]; rfl)]
          refine wk (wA hc (wA hg (wA h1 (wA h2 (wA h3 wT))))) (wA n1 (wA n2 (wA DrM.mk wT))) ?_
          refine wkEnd wT ?_
          exact Fin.cut (.v _) ⟨rfl, rfl⟩
        have hok : ctOk ⟨a, b⟩ = true := by rw [hck, h1, h2, decide_eq_true (by omega)]; rfl
        rcases i with _ | i
        · rw [prevC, chain_none hok] at he
          have hz : ¬ (0 : Int) < 0 := by omega
          refine wk (wA hc (wA hg (wA h1 (wA h2 (wA h3 (wA hz wT)))))) (wA n1 (wA n2 (wA DrM.mk wT))) ?_
          refine ⟨⟨1, by omega, by rw [prevC, hg]; exact he, fun p hp => by rw [prevC, hg] at hp; injection hp with hp; rw [← hp]; exact hok⟩, ?_, by dsimp only; omega⟩
          dsimp only
          refine Coe.cutN (M := [_]) ?_ ?_ ?_
          · exact Keeps.kp wT
          · simp only [List.mem_cons, List.not_mem_nil, or_false, forall_eq_or_imp, forall_eq, List.length_cons, List.length_nil]
            exact ⟨.ptr _ _ _ (by omega), lt_ct _, .v _, .v _⟩
          · simp only [List.mem_cons, List.not_mem_nil, or_false, forall_eq_or_imp, forall_eq]
            exact ⟨lt_ml _, lt_ct _⟩
        · have hgp : cu[i]? = some cu[i] := List.getElem?_eq_getElem (by omega)
          generalize cu[i] = p at hgp
          have hpk := hp p (by rw [prevC, hgp])
          obtain ⟨p1, p2, p3⟩ := ctOk_le hpk
          have c1 := nodeOk_le h1
          have c2 := nodeOk_le h2
          have ho := fun H => hord p ⟨a, b⟩ ⟨p1, p2⟩ ⟨c1, c2⟩ H
          rw [prevC, hgp, chain_some hok] at he
          generalize ordC p ⟨a, b⟩ = z at *
          obtain ⟨pa, pb⟩ := p
          have e1 : ((i + 1 : Nat) : Int) - 1 = (i : Int) := by omega
          have e2 : (0 : Int) < ((i + 1 : Nat) : Int) := by omega
          by_cases h4 : 0 ≤ z
          · rw [decide_eq_false (by omega), Bool.false_and] at he
            rw [he]
            refine wk (wA hc (wA hg (wA hgp (wA h1 (wA h2 (wA h3 (wA e1 (wA e2 (wA h4 wT))))))))) (wA n1 (wA n2 (wA ho (wA DrM.mk wT)))) ?_
            refine wkEnd wT ?_
            exact Fin.cut (.v _) ⟨rfl, rfl⟩
          rw [decide_eq_true (by omega), Bool.true_and] at he
          refine wk (wA hc (wA hg (wA hgp (wA h1 (wA h2 (wA h3 (wA e1 (wA e2 (wA h4 wT))))))))) (wA n1 (wA n2 (wA ho (wA DrM.mk wT)))) ?_
          refine ⟨⟨i + 1 + 1, by omega, by rw [prevC, hg]; exact he, fun p hp => by rw [prevC, hg] at hp; injection hp with hp; rw [← hp]; exact hok⟩, ?_, by dsimp only; omega⟩
          dsimp only
          refine Coe.cutN (M := [_]) ?_ ?_ ?_
          · exact Keeps.kp wT
          · simp only [List.mem_cons, List.not_mem_nil, or_false, forall_eq_or_imp, forall_eq, List.length_cons, List.length_nil]
            exact ⟨.ptr _ _ _ (by omega), lt_ct _, .v _, .v _⟩
          · simp only [List.mem_cons, List.not_mem_nil, or_false, forall_eq_or_imp, forall_eq]
            exact ⟨lt_ml _, lt_ct _⟩
      · have : i = cu.length := by omega
        subst this
        rw [List.drop_length, chainOk] at he
        rw [he]
        refine wk (wA hc wT) (wA DrM.mk wT) ?_
        refine wkEnd wT ?_
        exact Fin.cut (.v _) ⟨rfl, rfl⟩

end Go.Proofs.Ytnoekcdmaaakfaa.VL
