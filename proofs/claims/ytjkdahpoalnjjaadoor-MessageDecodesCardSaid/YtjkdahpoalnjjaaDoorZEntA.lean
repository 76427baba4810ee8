/- Layer 4: entries, as the program finds them, and as the reference looks at them. -/
import Derived.Test.YtjkdahpoalnjjaaDoorZEa
import Derived.Test.YtjkdahpoalnjjaaDoorZCd
-- STEPWISE
-- WK
set_option linter.unusedVariables false
set_option linter.unusedSimpArgs false
set_option maxRecDepth 10000
namespace Go.Proofs.YtjkdahpoalnjjaaDoor.VL
open Go Go.RowKit Go.Lib

theorem ixOf_find {α : Type} (f : α → Bool) : ∀ (l : List α) (i : Nat), (ixOf f l i = -1 ∧ l.find? f = none) ∨ ∃ (j : Nat) (x : α), ixOf f l i = ((i + j : Nat) : Int) ∧ l[j]? = some x ∧ f x = true ∧ l.find? f = some x
  | [], _ => .inl ⟨rfl, rfl⟩
  | x :: l, i => by
    rw [ixOf, List.find?_cons]
    cases h : f x with
    | true => exact .inr ⟨0, x, by simp, rfl, h, rfl⟩
    | false =>
      simp only [Bool.false_eq_true, if_false]
      rcases ixOf_find f l (i + 1) with h1 | ⟨j, y, h1, h2, h3, h4⟩
      · exact .inl h1
      · exact .inr ⟨j + 1, y, by rw [h1]; congr 1; omega, h2, h3, h4⟩

theorem ltE {n : Nat} (a b c d : Value) : Lt n (.tup [.agg [.v a, .v b, .v c], .v d]) := .tup _ fun i x hi => by
  rcases i with _ | _ | i <;> simp at hi <;> subst hi
  · exact .agg _ fun i x hi => by rcases i with _ | _ | _ | i <;> simp at hi <;> subst hi <;> exact .v _
  · exact .v _

set_option maxHeartbeats 1000000 in
theorem refMay_spec (x : En) (hs : x.s.length ≤ 9223372036854775807) (H : List Box) : ASpec Tryd.prog 98 [.agg (enC x)] H (Gives (vb (mayE x)) H) := by
  obtain ⟨k, v, s⟩ := x
  dsimp only at hs
  have hm : mayE ⟨k, v, s⟩ = (decide (0 ≤ k) && (decide (k < 12) && (decide (1 ≤ v) && (decide (v ≤ 1099511627776) && decide (s.length ≤ 200))))) := rfl
  rw [hm]
  by_cases h1 : 0 ≤ k
  · rw [decide_eq_true h1]
    by_cases h2 : k < 12
    · rw [decide_eq_true h2]
      by_cases h3 : 1 ≤ v
      · rw [decide_eq_true h3]
        by_cases h4 : v ≤ 1099511627776
        · rw [decide_eq_true h4]
          by_cases h5 : (s.length : Int) ≤ 200
          · rw [decide_eq_true (show s.length ≤ 200 by omega)]
            refine ASpec.enter Tryd.func98 rfl (fun a w => Tryd.call98 a w) Tryd.ntmps98 Tryd.results98 fun base w β hI => ?_
            refine wk (wA h1 (wA h2 (wA h3 (wA h4 (wA h5 wT))))) (wA DrM.mk wT) ?_
            refine wkEnd wT ?_
            exact Fin.cut (.v _) ⟨rfl, rfl⟩
          · rw [decide_eq_false (show ¬ s.length ≤ 200 by omega)]
            refine ASpec.enter Tryd.func98 rfl (fun a w => Tryd.call98 a w) Tryd.ntmps98 Tryd.results98 fun base w β hI => ?_
            refine wk (wA h1 (wA h2 (wA h3 (wA h4 (wA h5 wT))))) (wA DrM.mk wT) ?_
            refine wkEnd wT ?_
            exact Fin.cut (.v _) ⟨rfl, rfl⟩
        · rw [decide_eq_false h4]
          refine ASpec.enter Tryd.func98 rfl (fun a w => Tryd.call98 a w) Tryd.ntmps98 Tryd.results98 fun base w β hI => ?_
          refine wk (wA h1 (wA h2 (wA h3 (wA h4 wT)))) (wA DrM.mk wT) ?_
          refine wkEnd wT ?_
          exact Fin.cut (.v _) ⟨rfl, rfl⟩
      · rw [decide_eq_false h3]
        refine ASpec.enter Tryd.func98 rfl (fun a w => Tryd.call98 a w) Tryd.ntmps98 Tryd.results98 fun base w β hI => ?_
        refine wk (wA h1 (wA h2 (wA h3 wT))) (wA DrM.mk wT) ?_
        refine wkEnd wT ?_
        exact Fin.cut (.v _) ⟨rfl, rfl⟩
    · rw [decide_eq_false h2]
      refine ASpec.enter Tryd.func98 rfl (fun a w => Tryd.call98 a w) Tryd.ntmps98 Tryd.results98 fun base w β hI => ?_
      refine wk (wA h1 (wA h2 wT)) (wA DrM.mk wT) ?_
      refine wkEnd wT ?_
      exact Fin.cut (.v _) ⟨rfl, rfl⟩
  · rw [decide_eq_false h1]
    refine ASpec.enter Tryd.func98 rfl (fun a w => Tryd.call98 a w) Tryd.ntmps98 Tryd.results98 fun base w β hI => ?_
    refine wk (wA h1 wT) (wA DrM.mk wT) ?_
    refine wkEnd wT ?_
    exact Fin.cut (.v _) ⟨rfl, rfl⟩

set_option maxHeartbeats 2000000 in
theorem refRight4_spec (l : List En) (hl : l.length ≤ 9223372036854775807) (hs : ∀ x ∈ l, x.s.length ≤ 9223372036854775807) (H : List Box) : ASpec Tryd.prog 83 [.lst 3 (enG l)] H (Gives (vb (tabOk l)) H) := by
  refine ASpec.enter Tryd.func83 rfl (fun a w => Tryd.call83 a w) Tryd.ntmps83 Tryd.results83 fun base w β hI => ?_
  refine wk wT (wA DrM.mk wT) ?_
  refine AWP.loop (ι := {i : Nat // i ≤ l.length ∧ tabOk l = tabGo (if i = 0 then -1 else (l[i - 1]?.getD enZ).k) (l.drop i)}) (fun p => ⟨[(0, .lst 3 (enG l)), (3, vi p.1)], H⟩) (fun p => l.length - p.1) ⟨0, Nat.zero_le _, rfl⟩ ?_ ?_
  · dsimp only
    exact Coe.kp
  · rintro ⟨i, hi, he⟩
    dsimp only
    by_cases hc : (i : Int) < (l.length : Int)
    · have hg : l[i]? = some l[i] := List.getElem?_eq_getElem (by omega)
      have hm := fun H => refMay_spec l[i] (hs _ (List.getElem_mem _)) H
      rw [tabGo_drop hg] at he
      have hnext : ∀ x, l[i]? = some x → x.k = (if i + 1 = 0 then -1 else (l[i + 1 - 1]?.getD enZ).k) := fun x hx => by rw [if_neg (by omega), Nat.add_sub_cancel, hx]; rfl
      generalize l[i] = x at *
      have hnext := hnext x hg
      cases hmx : mayE x with
      | false =>
        rw [hmx] at hm he
        simp only [Bool.false_and, Bool.and_false] at he
        rw [he]
        obtain ⟨k, v, s⟩ := x
        clear hnext
        refine wk (wA hc (wA hg wT)) (wA hm (wA DrM.mk wT)) ?_
        refine wkEnd wT ?_
        exact Fin.same ⟨rfl, rfl⟩
      | true =>
        rw [hmx] at hm he
        rw [Bool.true_and] at he
        have hk := mayE_iff.1 hmx
        by_cases h0 : (0 : Int) < (i : Int)
        · rw [if_neg (by omega)] at he
          have hgp : l[i - 1]? = some l[i - 1] := List.getElem?_eq_getElem (by omega)
          generalize l[i - 1] = y at hgp
          rw [hgp] at he
          have hn1 : ((i : Int) - 1).toNat = i - 1 := by omega
          have he : tabOk l = (decide (y.k < x.k) && tabGo x.k (l.drop (i + 1))) := he
          obtain ⟨k, v, s⟩ := x
          obtain ⟨k', v', s'⟩ := y
          dsimp only at he hnext
          by_cases hlt : k ≤ k'
          · rw [decide_eq_false (by omega)] at he
            rw [he]
            clear hnext
            refine wk (wA hc (wA hg (wA h0 (wA hn1 (wA hgp (wA hlt wT)))))) (wA hm (wA DrM.mk wT)) ?_
            refine wkEnd wT ?_
            exact Fin.same ⟨rfl, rfl⟩
          · rw [decide_eq_true (by omega), Bool.true_and, hnext] at he
            clear hnext
            refine wk (wA hc (wA hg (wA h0 (wA hn1 (wA hgp (wA hlt wT)))))) (wA hm (wA DrM.mk wT)) ?_
            refine ⟨⟨i + 1, by omega, he⟩, ?_, by dsimp only; omega⟩
            dsimp only
            exact Coe.kp
        · obtain rfl : i = 0 := by omega
          rw [if_pos rfl, decide_eq_true (by omega), Bool.true_and, hnext] at he
          obtain ⟨k, v, s⟩ := x
          clear hnext
          refine wk (wA hc (wA hg (wA h0 wT))) (wA hm (wA DrM.mk wT)) ?_
          refine ⟨⟨0 + 1, by omega, he⟩, ?_, by dsimp only; omega⟩
          dsimp only
          exact Coe.kp
    · have : i = l.length := by omega
      subst this
      rw [List.drop_length] at he
      rw [he]
      refine wk (wA hc wT) (wA DrM.mk wT) ?_
      refine wkEnd wT ?_
      exact Fin.same ⟨rfl, rfl⟩

set_option maxHeartbeats 1000000 in
theorem refGreat4_spec (l : List En) (hl : l.length ≤ 9223372036854775807) (hs : ∀ x ∈ l, x.s.length ≤ 9223372036854775807) (H : List Box) : ASpec Tryd.prog 93 [.lst 3 (enG l)] H (Gives (vb (decide (4000 < grE l.length l))) H) := by
  refine ASpec.enter Tryd.func93 rfl (fun a w => Tryd.call93 a w) Tryd.ntmps93 Tryd.results93 fun base w β hI => ?_
  refine wk wT (wA DrM.mk wT) ?_
  refine AWP.loop (ι := {p : Nat × Int // p.1 ≤ l.length ∧ grE l.length l = grE p.2 (l.drop p.1)}) (fun p => ⟨[(0, .lst 3 (enG l)), (3, vi p.1.2), (4, vi p.1.1)], H⟩) (fun p => l.length - p.1.1) ⟨(0, l.length), Nat.zero_le _, rfl⟩ ?_ ?_
  · dsimp only
    exact Coe.kp
  · rintro ⟨⟨i, n⟩, hi, he⟩
    dsimp only at hi he ⊢
    by_cases hc : (i : Int) < (l.length : Int)
    · have hg : l[i]? = some l[i] := List.getElem?_eq_getElem (by omega)
      have hxs := hs l[i] (List.getElem_mem _)
      rw [List.drop_eq_getElem_cons (show i < l.length by omega), grE] at he
      generalize l[i] = x at *
      by_cases hn : n ≤ 4000
      · rw [if_pos hn] at he
        obtain ⟨k, v, s⟩ := x
        dsimp only at he hxs
        generalize hm : IntKind.i64.wrap (n + (s.length : Int)) = m at *
        refine wk (wA hc (wA hg (wA hn (wA hm wT)))) (wA DrM.mk wT) ?_
        refine ⟨⟨(i + 1, m), by dsimp only; omega, he⟩, ?_, by dsimp only; omega⟩
        dsimp only
        exact Coe.kp
      · rw [if_neg hn] at he
        rw [he]
        have h4 : (4000 : Int) < n := by omega
        rw [decide_eq_true h4]
        refine wk (wA hc (wA hn (wA h4 wT))) (wA DrM.mk wT) ?_
        refine wkEnd wT ?_
        exact Fin.same ⟨rfl, rfl⟩
    · rw [List.drop_of_length_le (by omega), grE] at he
      rw [he]
      by_cases h4 : (4000 : Int) < n
      · rw [decide_eq_true h4]
        refine wk (wA hc (wA h4 wT)) (wA DrM.mk wT) ?_
        refine wkEnd wT ?_
        exact Fin.same ⟨rfl, rfl⟩
      · rw [decide_eq_false h4]
        refine wk (wA hc (wA h4 wT)) (wA DrM.mk wT) ?_
        refine wkEnd wT ?_
        exact Fin.same ⟨rfl, rfl⟩

end Go.Proofs.YtjkdahpoalnjjaaDoor.VL
