/- The library's search in a row: []bellwether/api.Entry. -/
import Derived.Test.YtnlmdeeadldgmaaGreatDoorZG20
import Derived.Test.YtnlmdeeadldgmaaGreatDoorZG17
import Derived.Test.YtnlmdeeadldgmaaGreatDoorZVLWalk
import Derived.Test.YtnlmdeeadldgmaaGreatDoorZG24
import Derived.Test.YtnlmdeeadldgmaaGreatDoorZG21
-- STEPWISE
-- WK
set_option linter.unusedVariables false
set_option linter.unusedSimpArgs false
set_option maxRecDepth 10000
namespace Go.Proofs.YtnlmdeeadldgmaaGreatDoor.VL
open Go Go.RowKit Go.Lib

set_option maxHeartbeats 1000000 in
theorem ixFEn_spec (f : En → Bool) (fid : FuncId) (caps : List AV) (l : List En) (hl : l.length ≤ 9223372036854775807) (H : List Box) (hf : ∀ x, x ∈ l → ASpec Tryz.prog fid (.agg (enC x) :: caps) H (Gives (vb (f x)) H)) :
    ASpec Tryz.prog 154 [.lst 3 (enG l), .fn fid caps] H (Gives (vi (ixOf f l 0)) H) := by
  refine ASpec.enter Tryz.func154 rfl (fun a w => Tryz.call154 a w) Tryz.ntmps154 Tryz.results154 fun base w β hI => ?_
  refine wk wT (wA DrM.mk wT) ?_
  refine AWP.loop (ι := {i : Nat // i ≤ l.length ∧ ixOf f l 0 = ixOf f (l.drop i) i}) (fun p => ⟨[(0, .lst 3 (enG l)), (1, .fn fid caps), (7, vi l.length), (8, vi p.1)], H⟩) (fun p => l.length - p.1) ⟨0, Nat.zero_le _, by rw [List.drop_zero]⟩ ?_ ?_
  · dsimp only
    exact Coe.kp
  · rintro ⟨i, hi, he⟩
    dsimp only
    by_cases hc : (i : Int) < (l.length : Int)
    · have hg : l[i]? = some l[i] := List.getElem?_eq_getElem (by omega)
      have hs := hf l[i] (List.getElem_mem _)
      generalize l[i] = x at hg hs
      rw [ixOf_drop _ hg] at he
      by_cases hx : f x = true
      · rw [if_pos hx] at he
        rw [hx] at hs
        rw [he]
        obtain ⟨xk, xv, xs⟩ := x
        refine wk (wA hc (wA hg wT)) (wA hs (wA DrM.mk wT)) ?_
        refine wkEnd wT ?_
        exact Fin.same ⟨rfl, rfl⟩
      · rw [if_neg hx] at he
        rw [Bool.not_eq_true _ |>.mp hx] at hs
        obtain ⟨xk, xv, xs⟩ := x
        refine wk (wA hc (wA hg wT)) (wA hs (wA DrM.mk wT)) ?_
        refine ⟨⟨i + 1, by omega, he⟩, ?_, by dsimp only; omega⟩
        dsimp only
        exact Coe.kp
    · rw [List.drop_of_length_le (by omega)] at he
      rw [he]
      refine wk (wA hc wT) (wA DrM.mk wT) ?_
      refine wkEnd wT ?_
      exact Fin.same ⟨rfl, rfl⟩
end Go.Proofs.YtnlmdeeadldgmaaGreatDoor.VL

/- Layer 4: entries, as the program finds them, and as the reference looks at them. -/
-- STEPWISE
-- WK
set_option linter.unusedVariables false
set_option linter.unusedSimpArgs false
set_option maxRecDepth 10000
namespace Go.Proofs.YtnlmdeeadldgmaaGreatDoor.VL
open Go Go.RowKit Go.Lib

theorem ixOf_find {α : Type} (f : α → Bool) : ∀ (l : List α) (i : Nat), (ixOf f l i = -1 ∧ l.find? f = none) ∨ ∃ (j : Nat) (x : α), ixOf f l i = ((i + j : Nat) : Int) ∧ l[j]? = some x ∧ f x = true ∧ l.find? f = some x
  | [], _ => .inl ⟨rfl, rfl⟩
  | x :: l, i => by
    rw [ixOf, List.find?_cons]
    cases h : f x with
    | true => exact .inr ⟨0, x, by simp, rfl, h, rfl⟩
    | false =>
      simp only [Bool.false_eq_true, if_false]
      rcases ixOf_find f l (i + 1) with h1 | ⟨j, y, h1, h2, h3, h4⟩
      · exact .inl h1
      · exact .inr ⟨j + 1, y, by rw [h1]; congr 1; omega, h2, h3, h4⟩

theorem enPlace1_spec (x : En) (key : Int) (b : Nat) (H : List Box) (hb : H[b]? = some ⟨[vi key], 0, 0, false⟩) : ASpec Tryz.prog 155 [.agg (enC x), .ptr b 0 0] H (Gives (vb (decide (x.k = key))) H) := by
  have hb' := fun N : List Box => (List.getElem?_append_left (l₂ := N) (List.getElem?_eq_some_iff.1 hb).1).trans hb
  obtain ⟨k, v, s⟩ := x
  dsimp only
  by_cases h : k = key
  · rw [decide_eq_true h]
    refine ASpec.enter Tryz.func155 rfl (fun a w => Tryz.call155 a w) Tryz.ntmps155 Tryz.results155 fun base w β hI => ?_
    refine wk (wA hb' (wA h wT)) (wA DrM.mk wT) ?_
    refine wkEnd wT ?_
    exact Fin.cut (.v _) ⟨rfl, rfl⟩
  · rw [decide_eq_false h]
    refine ASpec.enter Tryz.func155 rfl (fun a w => Tryz.call155 a w) Tryz.ntmps155 Tryz.results155 fun base w β hI => ?_
    refine wk (wA hb' (wA h wT)) (wA DrM.mk wT) ?_
    refine wkEnd wT ?_
    exact Fin.cut (.v _) ⟨rfl, rfl⟩

theorem enPlace_spec (l : List En) (key : Int) (hl : l.length ≤ 9223372036854775807) (H : List Box) : ASpec Tryz.prog 138 [.lst 3 (enG l), vi key] H (Gives (vi (ixOf (fun x => decide (x.k = key)) l 0)) H) := by
  have h1 := ixFEn_spec (fun x => decide (x.k = key)) 155 [.ptr H.length 0 0] l hl (H ++ [⟨[vi key], 0, 0, false⟩]) (fun x _ => enPlace1_spec x key H.length _ (by simp))
  generalize ixOf (fun x => decide (x.k = key)) l 0 = r at *
  refine ASpec.enter Tryz.func138 rfl (fun a w => Tryz.call138 a w) Tryz.ntmps138 Tryz.results138 fun base w β hI => ?_
  refine wk wT (wA h1 (wA DrM.mk wT)) ?_
  refine wkEnd wT ?_
  exact Fin.cut (.v _) ⟨rfl, rfl⟩

theorem ltE {n : Nat} (a b c d : Value) : Lt n (.tup [.agg [.v a, .v b, .v c], .v d]) := .tup _ fun i x hi => by
  rcases i with _ | _ | i <;> simp at hi <;> subst hi
  · exact .agg _ fun i x hi => by rcases i with _ | _ | _ | i <;> simp at hi <;> subst hi <;> exact .v _
  · exact .v _

theorem enGet_spec (l : List En) (key : Int) (hl : l.length ≤ 9223372036854775807) (H : List Box) : ASpec Tryz.prog 108 [.lst 3 (enG l), vi key] H (Gives (getV (getE l key)) H) := by
  have h1 := fun H => enPlace_spec l key hl H
  unfold getV getE
  rcases ixOf_find (fun x : En => decide (x.k = key)) l 0 with ⟨e1, e2⟩ | ⟨j, x, e1, e2, _, e3⟩
  · rw [e1] at h1
    rw [e2]
    refine ASpec.enter Tryz.func108 rfl (fun a w => Tryz.call108 a w) Tryz.ntmps108 Tryz.results108 fun base w β hI => ?_
    refine wk wT (wA h1 (wA DrM.mk wT)) ?_
    refine wkEnd wT ?_
    exact Fin.cut (ltE _ _ _ _) ⟨rfl, rfl⟩
  · rw [e1, Nat.zero_add] at h1
    rw [e3]
    have hj := (List.getElem?_eq_some_iff.1 e2).1
    have hn : ¬ (j : Int) < 0 := by omega
    obtain ⟨k, v, s⟩ := x
    refine ASpec.enter Tryz.func108 rfl (fun a w => Tryz.call108 a w) Tryz.ntmps108 Tryz.results108 fun base w β hI => ?_
    refine wk (wA hn (wA e2 wT)) (wA h1 (wA DrM.mk wT)) ?_
    refine wkEnd wT ?_
    exact Fin.cut (ltE _ _ _ _) ⟨rfl, rfl⟩

set_option maxHeartbeats 1000000 in
theorem refMay_spec (x : En) (hs : x.s.length ≤ 9223372036854775807) (H : List Box) : ASpec Tryz.prog 127 [.agg (enC x)] H (Gives (vb (mayE x)) H) := by
  obtain ⟨k, v, s⟩ := x
  dsimp only at hs
  have hm : mayE ⟨k, v, s⟩ = (decide (0 ≤ k) && (decide (k < 12) && (decide (1 ≤ v) && (decide (v ≤ 1099511627776) && decide (s.length ≤ 200))))) := rfl
  rw [hm]
  by_cases h1 : 0 ≤ k
  · rw [decide_eq_true h1]
    by_cases h2 : k < 12
    · rw [decide_eq_true h2]
      by_cases h3 : 1 ≤ v
      · rw [decide_eq_true h3]
        by_cases h4 : v ≤ 1099511627776
        · rw [decide_eq_true h4]
          by_cases h5 : (s.length : Int) ≤ 200
          · rw [decide_eq_true (show s.length ≤ 200 by omega)]
            refine ASpec.enter Tryz.func127 rfl (fun a w => Tryz.call127 a w) Tryz.ntmps127 Tryz.results127 fun base w β hI => ?_
            refine wk (wA h1 (wA h2 (wA h3 (wA h4 (wA h5 wT))))) (wA DrM.mk wT) ?_
            refine wkEnd wT ?_
            exact Fin.cut (.v _) ⟨rfl, rfl⟩
          · rw [decide_eq_false (show ¬ s.length ≤ 200 by omega)]
            refine ASpec.enter Tryz.func127 rfl (fun a w => Tryz.call127 a w) Tryz.ntmps127 Tryz.results127 fun base w β hI => ?_
            refine wk (wA h1 (wA h2 (wA h3 (wA h4 (wA h5 wT))))) (wA DrM.mk wT) ?_
            refine wkEnd wT ?_
            exact Fin.cut (.v _) ⟨rfl, rfl⟩
        · rw [decide_eq_false h4]
          refine ASpec.enter Tryz.func127 rfl (fun a w => Tryz.call127 a w) Tryz.ntmps127 Tryz.results127 fun base w β hI => ?_
          refine wk (wA h1 (wA h2 (wA h3 (wA h4 wT)))) (wA DrM.mk wT) ?_
          refine wkEnd wT ?_
          exact Fin.cut (.v _) ⟨rfl, rfl⟩
      · rw [decide_eq_false h3]
        refine ASpec.enter Tryz.func127 rfl (fun a w => Tryz.call127 a w) Tryz.ntmps127 Tryz.results127 fun base w β hI => ?_
        refine wk (wA h1 (wA h2 (wA h3 wT))) (wA DrM.mk wT) ?_
        refine wkEnd wT ?_
        exact Fin.cut (.v _) ⟨rfl, rfl⟩
    · rw [decide_eq_false h2]
      refine ASpec.enter Tryz.func127 rfl (fun a w => Tryz.call127 a w) Tryz.ntmps127 Tryz.results127 fun base w β hI => ?_
      refine wk (wA h1 (wA h2 wT)) (wA DrM.mk wT) ?_
      refine wkEnd wT ?_
      exact Fin.cut (.v _) ⟨rfl, rfl⟩
  · rw [decide_eq_false h1]
    refine ASpec.enter Tryz.func127 rfl (fun a w => Tryz.call127 a w) Tryz.ntmps127 Tryz.results127 fun base w β hI => ?_
    refine wk (wA h1 wT) (wA DrM.mk wT) ?_
    refine wkEnd wT ?_
    exact Fin.cut (.v _) ⟨rfl, rfl⟩

set_option maxHeartbeats 2000000 in
theorem refRight4_spec (l : List En) (hl : l.length ≤ 9223372036854775807) (hs : ∀ x ∈ l, x.s.length ≤ 9223372036854775807) (H : List Box) : ASpec Tryz.prog 91 [.lst 3 (enG l)] H (Gives (vb (tabOk l)) H) := by
  refine ASpec.enter Tryz.func91 rfl (fun a w => Tryz.call91 a w) Tryz.ntmps91 Tryz.results91 fun base w β hI => ?_
  refine wk wT (wA DrM.mk wT) ?_
  refine AWP.loop (ι := {i : Nat // i ≤ l.length ∧ tabOk l = tabGo (if i = 0 then -1 else (l[i - 1]?.getD enZ).k) (l.drop i)}) (fun p => ⟨[(0, .lst 3 (enG l)), (3, vi p.1)], H⟩) (fun p => l.length - p.1) ⟨0, Nat.zero_le _, rfl⟩ ?_ ?_
  · dsimp only
    exact Coe.kp
  · rintro ⟨i, hi, he⟩
    dsimp only
    by_cases hc : (i : Int) < (l.length : Int)
    · have hg : l[i]? = some l[i] := List.getElem?_eq_getElem (by omega)
      have hm := fun H => refMay_spec l[i] (hs _ (List.getElem_mem _)) H
      rw [tabGo_drop hg] at he
      have hnext : ∀ x, l[i]? = some x → x.k = (if i + 1 = 0 then -1 else (l[i + 1 - 1]?.getD enZ).k) := fun x hx => by rw [if_neg (by omega), Nat.add_sub_cancel, hx]; rfl
      generalize l[i] = x at *
      have hnext := hnext x hg
      cases hmx : mayE x with
      | false =>
        rw [hmx] at hm he
        simp only [Bool.false_and, Bool.and_false] at he
        rw [he]
        obtain ⟨k, v, s⟩ := x
        clear hnext
        refine wk (wA hc (wA hg wT)) (wA hm (wA DrM.mk wT)) ?_
        refine wkEnd wT ?_
        exact Fin.same ⟨rfl, rfl⟩
      | true =>
        rw [hmx] at hm he
        rw [Bool.true_and] at he
        have hk := mayE_iff.1 hmx
        by_cases h0 : (0 : Int) < (i : Int)
        · rw [if_neg (by omega)] at he
          have hgp : l[i - 1]? = some l[i - 1] := List.getElem?_eq_getElem (by omega)
          generalize l[i - 1] = y at hgp
          rw [hgp] at he
          have hn1 : ((i : Int) - 1).toNat = i - 1 := by omega
          have he : tabOk l = (decide (y.k < x.k) && tabGo x.k (l.drop (i + 1))) := he
          obtain ⟨k, v, s⟩ := x
          obtain ⟨k', v', s'⟩ := y
          dsimp only at he hnext
          by_cases hlt : k ≤ k'
          · rw [decide_eq_false (by omega)] at he
            rw [he]
            clear hnext
            refine wk (wA hc (wA hg (wA h0 (wA hn1 (wA hgp (wA hlt wT)))))) (wA hm (wA DrM.mk wT)) ?_
            refine wkEnd wT ?_
            exact Fin.same ⟨rfl, rfl⟩
          · rw [decide_eq_true (by omega), Bool.true_and, hnext] at he
            clear hnext
            refine wk (wA hc (wA hg (wA h0 (wA hn1 (wA hgp (wA hlt wT)))))) (wA hm (wA DrM.mk wT)) ?_
            refine ⟨⟨i + 1, by omega, he⟩, ?_, by dsimp only; omega⟩
            dsimp only
            exact Coe.kp
        · obtain rfl : i = 0 := by omega
          rw [if_pos rfl, decide_eq_true (by omega), Bool.true_and, hnext] at he
          obtain ⟨k, v, s⟩ := x
          clear hnext
          refine wk (wA hc (wA hg (wA h0 wT))) (wA hm (wA DrM.mk wT)) ?_
          refine ⟨⟨0 + 1, by omega, he⟩, ?_, by dsimp only; omega⟩
          dsimp only
          exact Coe.kp
    · have : i = l.length := by omega
      subst this
      rw [List.drop_length] at he
      rw [he]
      refine wk (wA hc wT) (wA DrM.mk wT) ?_
      refine wkEnd wT ?_
      exact Fin.same ⟨rfl, rfl⟩

set_option maxHeartbeats 1000000 in
theorem refGreat4_spec (l : List En) (hl : l.length ≤ 9223372036854775807) (hs : ∀ x ∈ l, x.s.length ≤ 9223372036854775807) (H : List Box) : ASpec Tryz.prog 126 [.lst 3 (enG l)] H (Gives (vb (decide (4000 < grE l.length l))) H) := by
  refine ASpec.enter Tryz.func126 rfl (fun a w => Tryz.call126 a w) Tryz.ntmps126 Tryz.results126 fun base w β hI => ?_
  refine wk wT (wA DrM.mk wT) ?_
  refine AWP.loop (ι := {p : Nat × Int // p.1 ≤ l.length ∧ grE l.length l = grE p.2 (l.drop p.1)}) (fun p => ⟨[(0, .lst 3 (enG l)), (3, vi p.1.2), (4, vi p.1.1)], H⟩) (fun p => l.length - p.1.1) ⟨(0, l.length), Nat.zero_le _, rfl⟩ ?_ ?_
  · dsimp only
    exact Coe.kp
  · rintro ⟨⟨i, n⟩, hi, he⟩
    dsimp only at hi he ⊢
    by_cases hc : (i : Int) < (l.length : Int)
    · have hg : l[i]? = some l[i] := List.getElem?_eq_getElem (by omega)
      have hxs := hs l[i] (List.getElem_mem _)
      rw [List.drop_eq_getElem_cons (show i < l.length by omega), grE] at he
      generalize l[i] = x at *
      by_cases hn : n ≤ 4000
      · rw [if_pos hn] at he
        obtain ⟨k, v, s⟩ := x
        dsimp only at he hxs
        generalize hm : IntKind.i64.wrap (n + (s.length : Int)) = m at *
        refine wk (wA hc (wA hg (wA hn (wA hm wT)))) (wA DrM.mk wT) ?_
        refine ⟨⟨(i + 1, m), by dsimp only; omega, he⟩, ?_, by dsimp only; omega⟩
        dsimp only
        exact Coe.kp
      · rw [if_neg hn] at he
        rw [he]
        have h4 : (4000 : Int) < n := by omega
        rw [decide_eq_true h4]
        refine wk (wA hc (wA hn (wA h4 wT))) (wA DrM.mk wT) ?_
        refine wkEnd wT ?_
        exact Fin.same ⟨rfl, rfl⟩
    · rw [List.drop_of_length_le (by omega), grE] at he
      rw [he]
      by_cases h4 : (4000 : Int) < n
      · rw [decide_eq_true h4]
        refine wk (wA hc (wA h4 wT)) (wA DrM.mk wT) ?_
        refine wkEnd wT ?_
        exact Fin.same ⟨rfl, rfl⟩
      · rw [decide_eq_false h4]
        refine wk (wA hc (wA h4 wT)) (wA DrM.mk wT) ?_
        refine wkEnd wT ?_
        exact Fin.same ⟨rfl, rfl⟩

end Go.Proofs.YtnlmdeeadldgmaaGreatDoor.VL

/- Layer 15: a place for one more service; whether an endpoint is up. -/
-- STEPWISE
-- WK
set_option linter.unusedVariables false
set_option linter.unusedSimpArgs false
set_option maxRecDepth 10000
namespace Go.Proofs.YtnlmdeeadldgmaaGreatDoor.VL
open Go Go.RowKit Go.Lib

def plGo (l : List En) : Nat → Int → Int → Int × Bool
  | 0, _, e => (e, decide (e ≠ 0))
  | n + 1, k, e => match getE l k with
    | none => (k, true)
    | some x => plGo l n (k + 1) (if x.s = [] ∧ e = 0 then k else e)
/-- A key for one more service. -/
def placeS (l : List En) : Int × Bool := plGo l 9 3 0

/-- Is an endpoint up? -/
def upE (l : List En) : Bool := match getE l 0 with
  | some x => decide (x.s = [117, 112])
  | none => false
theorem svUp_spec (l : List En) (hl : l.length ≤ 9223372036854775807) (H : List Box) : ASpec Tryz.prog 102 [.lst 3 (enG l)] H (Gives (vb (upE l)) H) := by
  have hg := fun H => enGet_spec l 0 hl H
  unfold upE
  cases hx : getE l 0 with
  | none =>
    rw [hx] at hg
    have hg : ∀ H, ASpec Tryz.prog 108 [.lst 3 (enG l), vi 0] H (Gives (.tup [.agg [vi 0, vi 0, vs []], vb false]) H) := hg
    refine ASpec.enter Tryz.func102 rfl (fun a w => Tryz.call102 a w) Tryz.ntmps102 Tryz.results102 fun base w β hI => ?_
    refine wk wT (wA hg (wA DrM.mk wT)) ?_
    refine wkEnd wT ?_
    exact Fin.cut (.v _) ⟨rfl, rfl⟩
  | some x =>
    rw [hx] at hg
    obtain ⟨k', v', s⟩ := x
    have hg : ∀ H, ASpec Tryz.prog 108 [.lst 3 (enG l), vi 0] H (Gives (.tup [.agg [vi k', vi v', vs s], vb true]) H) := hg
    dsimp only
    by_cases hs : s = [117, 112]
    · rw [decide_eq_true hs]
      refine ASpec.enter Tryz.func102 rfl (fun a w => Tryz.call102 a w) Tryz.ntmps102 Tryz.results102 fun base w β hI => ?_
      refine wk (wA hs wT) (wA hg (wA DrM.mk wT)) ?_
      refine wkEnd wT ?_
      exact Fin.cut (.v _) ⟨rfl, rfl⟩
    · rw [decide_eq_false hs]
      refine ASpec.enter Tryz.func102 rfl (fun a w => Tryz.call102 a w) Tryz.ntmps102 Tryz.results102 fun base w β hI => ?_
      refine wk (wA hs wT) (wA hg (wA DrM.mk wT)) ?_
      refine wkEnd wT ?_
      exact Fin.cut (.v _) ⟨rfl, rfl⟩

end Go.Proofs.YtnlmdeeadldgmaaGreatDoor.VL

/- Layer 16: a name's labels, as the program takes them. -/
-- STEPWISE
-- WK
-- HOLE 8 0 [(.same, []), (.same, []), (.same, []), (.same, []), (.same, []), (.same, []), (.wr 0, []), (.same, [0]), (.same, [0]), (.same, [0]), (.same, [0]), (.same, []), (.same, [])]
set_option linter.unusedVariables false
set_option linter.unusedSimpArgs false
set_option maxRecDepth 10000
namespace Go.Proofs.YtnlmdeeadldgmaaGreatDoor.VL
open Go Go.RowKit Go.Lib

theorem holM_LabA_8 : HolM 8 0 [(.same, []), (.same, []), (.same, []), (.same, []), (.same, []), (.same, []), (.wr 0, []), (.same, [0]), (.same, [0]), (.same, [0]), (.same, [0]), (.same, []), (.same, [])] := ⟨⟩

set_option maxHeartbeats 4000000 in
theorem split_spec (s : List UInt8) (hs : s.length ≤ 9223372036854775807) (H : List Box) : ASpec Tryz.prog 119 [vs s] H (Gives (labV (lab s)) H) := by
  by_cases h255 : (255 : Int) < (s.length : Int)
  · rw [lab, if_pos (by omega)]
    refine ASpec.enter Tryz.func119 rfl (fun a w => Tryz.call119 a w) Tryz.ntmps119 Tryz.results119 fun base w β hI => ?_
    refine wk (wA h255 wT) (wA holM_LabA_8 (wA DrM.mk wT)) ?_
    refine wkEnd wT ?_
    exact Fin.dead00 ⟨rfl, rfl⟩
  rw [lab_of (by omega)]
  refine ASpec.enter Tryz.func119 rfl (fun a w => Tryz.call119 a w) Tryz.ntmps119 Tryz.results119 fun base w β hI => ?_
  refine wk (wA h255 wT) (wA holM_LabA_8 (wA DrM.mk wT)) ?_
  refine AWP.coe (Coe.emp0 (t := 2) (sz := 1) (l' := [(0, vs s), (2, .sl H.length 0 0 0 1 false), (3, vb false)]) rfl ?_) ?_
  · simp only [Keeps, List.mem_cons, List.not_mem_nil, or_false, forall_eq_or_imp, forall_eq, go_sem, Nat.reduceBEq, Nat.reduceLT, Nat.reduceEqDiff, reduceIte, Nat.reduceAdd, Nat.reduceMul, Nat.reduceSub, Nat.reduceLeDiff, Int.reduceToNat, Int.reducePow, Int.reduceLT, Int.reduceEq, Int.reduceBEq, Int.reduceNeg, Nat.reducePow, List.reduceReplicate, Int.reduceLE]
  refine AWP.loop (ι := {p : List (List UInt8) × List UInt8 × Nat // labS s = (labS p.2.1).map (p.1 ++ ·) ∧ p.2.1.length ≤ 255 ∧ p.1.length ≤ s.length ∧ p.1.length + p.2.1.length ≤ s.length})
    (fun p => ⟨[(0, vs p.1.2.1), (2, .sl H.length p.1.2.2 0 p.1.1.length 1 false)], H ++ [⟨strC p.1.1, 0, p.1.2.2, true⟩]⟩) (fun p => p.1.2.1.length) ⟨([], s, 0), by cases labS s <;> rfl, by dsimp only; omega, by simp, by simp⟩ ?_ ?_
  · dsimp only [strC, List.map_nil, List.length_nil]
    exact Coe.kp
  · rintro ⟨⟨ls, t, g⟩, hlab, hlen, hll, hls⟩
    dsimp only at hlab hlen hll hls ⊢
    cases t with
    | nil =>
      rw [labS_nil] at hlab
      rw [hlab]
      refine wk wT (wA holM_LabA_8 (wA DrM.mk wT)) ?_
      refine wkEnd wT ?_
      exact Fin.dead0 ⟨rfl, rfl⟩
    | cons c r =>
      have hc : (c.toNat : Int) ≤ 255 := by have := c.toNat_lt; omega
      have hne : ¬ (c :: r) = [] := by simp
      have h0 : (c :: r)[0]? = some c := rfl
      simp only [List.length_cons] at hlen hls
      by_cases hz : (c.toNat : Int) = 0
      · rw [labS_zero (by omega)] at hlab
        have hcz : c = 0 := by
          apply UInt8.toNat_inj.1
          show c.toNat = 0
          omega
        subst hcz
        by_cases hr : r = []
        · subst hr
          rw [if_pos rfl] at hlab
          have hl2 : labS s = some ls := by rw [hlab]; simp
          rw [hl2]
          refine wk (wA hne (wA hz wT)) (wA holM_LabA_8 (wA DrM.mk wT)) ?_
          refine wkEnd wT ?_
          exact fin_strs (k := 0) rfl rfl ⟨rfl, rfl⟩
        · rw [if_neg hr] at hlab
          rw [hlab]
          have hr2 : ¬ (0 :: r : List UInt8) = [0] := by simpa using hr
          refine wk (wA hne (wA hz (wA hr2 wT))) (wA holM_LabA_8 (wA DrM.mk wT)) ?_
          refine wkEnd wT ?_
          exact Fin.dead0 ⟨rfl, rfl⟩
      · by_cases h63 : (63 : Int) < (c.toNat : Int)
        · rw [labS_bad (by omega) (.inl (by omega))] at hlab
          rw [hlab]
          refine wk (wA hne (wA hz (wA h0 (wA h63 (wA strSize wT))))) (wA holM_LabA_8 (wA DrM.mk wT)) ?_
          refine wkEnd wT ?_
          exact Fin.dead0 ⟨rfl, rfl⟩
        by_cases hn : ((r.length : Int) + 1) ≤ (c.toNat : Int)
        · rw [labS_bad (by omega) (.inr (by omega))] at hlab
          rw [hlab]
          repeat' (first
            | (refine AWP.seq ?_)
            | (refine AWP.block ?_)
            | (refine AWP.drawH_k (id := 8) 0 [(.same, []), (.same, []), (.same, []), (.same, []), (.same, []), (.same, []), (.wr 0, []), (.same, [0]), (.same, [0]), (.same, [0]), (.same, [0]), (.same, []), (.same, [])] rfl (by decide +kernel) fun Q' hQ' => ?_)
            | (refine AWP.drawH0_k (id := 8) 0 [(.same, []), (.same, []), (.same, []), (.same, []), (.same, []), (.same, []), (.wr 0, []), (.same, [0]), (.same, [0]), (.same, [0]), (.same, [0]), (.same, []), (.same, [])] rfl (by decide +kernel) fun Q' hQ' => ?_)
            | (with_reducible refine hops.step fun T hT => ?_; simp (disch := omega) only [hone, hskip, patch, hole, List.headD_cons, List.tail_cons, Prod.mk.injEq, eq_self, and_assoc, exists_and_left, List.append_cancel_left_eq, List.cons.injEq, go_sem, Nat.reduceBEq, Nat.reduceLT, Nat.reduceEqDiff, reduceIte, Nat.reduceAdd, Nat.reduceMul, Nat.reduceSub, Nat.reduceLeDiff, Int.reduceToNat, Int.reducePow, Int.reduceLT, Int.reduceEq, Int.reduceBEq, Int.reduceNeg, Nat.reducePow, List.reduceReplicate, Int.reduceLE, hne, hz, h0, h63, hn, List.length_cons, Int.natCast_add, Int.natCast_one])
            | (with_reducible refine hops.nil ?_)
            | (with_reducible refine hT _ _ ?_; clear hT T)
            | (refine AWP.region_k fun Q' hQ' => ?_)
            | (refine AWP.draw_k rfl (by kernel_rfl) fun Q' hQ' => ?_)
            | (with_reducible refine aops.step fun T hT => ?_; simp (disch := omega) only [go_sem, Nat.reduceBEq, Nat.reduceLT, Nat.reduceEqDiff, reduceIte, Nat.reduceAdd, Nat.reduceMul, Nat.reduceSub, Nat.reduceLeDiff, Int.reduceToNat, Int.reducePow, Int.reduceLT, Int.reduceEq, Int.reduceBEq, Int.reduceNeg, Nat.reducePow, List.reduceReplicate, Int.reduceLE, hne, hz, h0, h63, hn, List.length_cons, Int.natCast_add, Int.natCast_one])
            | (with_reducible refine qops.step fun T hT => ?_; simp (disch := omega) only [go_sem, Nat.reduceBEq, Nat.reduceLT, Nat.reduceEqDiff, reduceIte, Nat.reduceAdd, Nat.reduceMul, Nat.reduceSub, Nat.reduceLeDiff, Int.reduceToNat, Int.reducePow, Int.reduceLT, Int.reduceEq, Int.reduceBEq, Int.reduceNeg, Nat.reducePow, List.reduceReplicate, Int.reduceLE, hne, hz, h0, h63, hn, List.length_cons, Int.natCast_add, Int.natCast_one])
            | (with_reducible refine aops.nil ?_)
            | (with_reducible refine qops.nil ?_)
            | (with_reducible refine hT _ ?_; clear hT T)
            | (refine AWP.skip ?_; try simp only [AExit.then, AExit.inBlock, reduceIte, Nat.reduceEqDiff])
            | (refine AWP.exit ?_; try simp only [AExit.then, AExit.inBlock, reduceIte, Nat.reduceEqDiff])
            | (refine AWP.ret ?_; try simp only [AExit.then, AExit.inBlock, reduceIte, Nat.reduceEqDiff])
            | (refine AWP.cond rfl (fun h => ?_) (fun h => ?_) <;> (try simp only [decide_eq_true_eq, decide_eq_false_iff_not, Bool.true_eq_false, Bool.false_eq_true] at h) <;> (try contradiction))
            | (refine hQ' _ _ ?_; clear hQ' Q'; try simp only [AExit.then, AExit.inBlock, reduceIte, Nat.reduceEqDiff])
            | (refine hQ' _ ?_; clear hQ' Q'; try simp only [AExit.then, AExit.inBlock, reduceIte, Nat.reduceEqDiff])
            | (with_reducible refine Branch.split (fun h => ?_) (fun h => ?_) <;> (try simp only [decide_eq_true_eq, decide_eq_false_iff_not, Bool.not_true, Bool.not_false, Bool.true_eq_false, Bool.false_eq_true] at h) <;> (try contradiction) <;> (simp (disch := omega) only [go_sem, Nat.reduceBEq, Nat.reduceLT, Nat.reduceEqDiff, reduceIte, Nat.reduceAdd, Nat.reduceMul, Nat.reduceSub, Nat.reduceLeDiff, Int.reduceToNat, Int.reducePow, Int.reduceLT, Int.reduceEq, Int.reduceBEq, Int.reduceNeg, Nat.reducePow, List.reduceReplicate, Int.reduceLE, h, hne, hz, h0, h63, hn, List.length_cons, Int.natCast_add, Int.natCast_one]))
            | (with_reducible intro h; try simp only [h, go_sem, Nat.reduceBEq, Nat.reduceLT, Nat.reduceEqDiff, reduceIte, Nat.reduceAdd, Nat.reduceMul, Nat.reduceSub, Nat.reduceLeDiff, Int.reduceToNat, Int.reducePow, Int.reduceLT, Int.reduceEq, Int.reduceBEq, Int.reduceNeg, Nat.reducePow, List.reduceReplicate, Int.reduceLE, hne, hz, h0, h63, hn, List.length_cons, Int.natCast_add, Int.natCast_one]))
          refine wkEnd wT ?_
          exact Fin.dead0 ⟨rfl, rfl⟩
        rw [labS_more (by omega) (by omega)] at hlab
        repeat' (first
          | (refine AWP.seq ?_)
          | (refine AWP.block ?_)
          | (refine AWP.drawH_k (id := 8) 0 [(.same, []), (.same, []), (.same, []), (.same, []), (.same, []), (.same, []), (.wr 0, []), (.same, [0]), (.same, [0]), (.same, [0]), (.same, [0]), (.same, []), (.same, [])] rfl (by decide +kernel) fun Q' hQ' => ?_)
          | (refine AWP.drawH0_k (id := 8) 0 [(.same, []), (.same, []), (.same, []), (.same, []), (.same, []), (.same, []), (.wr 0, []), (.same, [0]), (.same, [0]), (.same, [0]), (.same, [0]), (.same, []), (.same, [])] rfl (by decide +kernel) fun Q' hQ' => ?_)
          | (with_reducible refine hops.step fun T hT => ?_; simp (disch := omega) only [hone, hskip, patch, hole, List.headD_cons, List.tail_cons, Prod.mk.injEq, eq_self, and_assoc, exists_and_left, List.append_cancel_left_eq, List.cons.injEq, go_sem, Nat.reduceBEq, Nat.reduceLT, Nat.reduceEqDiff, reduceIte, Nat.reduceAdd, Nat.reduceMul, Nat.reduceSub, Nat.reduceLeDiff, Int.reduceToNat, Int.reducePow, Int.reduceLT, Int.reduceEq, Int.reduceBEq, Int.reduceNeg, Nat.reducePow, List.reduceReplicate, Int.reduceLE, hne, hz, h0, h63, hn, List.length_cons, Int.natCast_add, Int.natCast_one])
          | (with_reducible refine hops.nil ?_)
          | (with_reducible refine hT _ _ ?_; clear hT T)
          | (refine AWP.region_k fun Q' hQ' => ?_)
          | (refine AWP.draw_k rfl (by kernel_rfl) fun Q' hQ' => ?_)
          | (with_reducible refine aops.step fun T hT => ?_; simp (disch := omega) only [go_sem, Nat.reduceBEq, Nat.reduceLT, Nat.reduceEqDiff, reduceIte, Nat.reduceAdd, Nat.reduceMul, Nat.reduceSub, Nat.reduceLeDiff, Int.reduceToNat, Int.reducePow, Int.reduceLT, Int.reduceEq, Int.reduceBEq, Int.reduceNeg, Nat.reducePow, List.reduceReplicate, Int.reduceLE, hne, hz, h0, h63, hn, List.length_cons, Int.natCast_add, Int.natCast_one])
          | (with_reducible refine qops.step fun T hT => ?_; simp (disch := omega) only [go_sem, Nat.reduceBEq, Nat.reduceLT, Nat.reduceEqDiff, reduceIte, Nat.reduceAdd, Nat.reduceMul, Nat.reduceSub, Nat.reduceLeDiff, Int.reduceToNat, Int.reducePow, Int.reduceLT, Int.reduceEq, Int.reduceBEq, Int.reduceNeg, Nat.reducePow, List.reduceReplicate, Int.reduceLE, hne, hz, h0, h63, hn, List.length_cons, Int.natCast_add, Int.natCast_one])
          | (with_reducible refine aops.nil ?_)
          | (with_reducible refine qops.nil ?_)
          | (with_reducible refine hT _ ?_; clear hT T)
          | (refine AWP.skip ?_; try simp only [AExit.then, AExit.inBlock, reduceIte, Nat.reduceEqDiff])
          | (refine AWP.exit ?_; try simp only [AExit.then, AExit.inBlock, reduceIte, Nat.reduceEqDiff])
          | (refine AWP.ret ?_; try simp only [AExit.then, AExit.inBlock, reduceIte, Nat.reduceEqDiff])
          | (refine AWP.cond rfl (fun h => ?_) (fun h => ?_) <;> (try simp only [decide_eq_true_eq, decide_eq_false_iff_not, Bool.true_eq_false, Bool.false_eq_true] at h) <;> (try contradiction))
          | (refine hQ' _ _ ?_; clear hQ' Q'; try simp only [AExit.then, AExit.inBlock, reduceIte, Nat.reduceEqDiff])
          | (refine hQ' _ ?_; clear hQ' Q'; try simp only [AExit.then, AExit.inBlock, reduceIte, Nat.reduceEqDiff])
          | (with_reducible refine Branch.split (fun h => ?_) (fun h => ?_) <;> (try simp only [decide_eq_true_eq, decide_eq_false_iff_not, Bool.not_true, Bool.not_false, Bool.true_eq_false, Bool.false_eq_true] at h) <;> (try contradiction) <;> (simp (disch := omega) only [go_sem, Nat.reduceBEq, Nat.reduceLT, Nat.reduceEqDiff, reduceIte, Nat.reduceAdd, Nat.reduceMul, Nat.reduceSub, Nat.reduceLeDiff, Int.reduceToNat, Int.reducePow, Int.reduceLT, Int.reduceEq, Int.reduceBEq, Int.reduceNeg, Nat.reducePow, List.reduceReplicate, Int.reduceLE, h, hne, hz, h0, h63, hn, List.length_cons, Int.natCast_add, Int.natCast_one]))
          | (with_reducible intro h; try simp only [h, go_sem, Nat.reduceBEq, Nat.reduceLT, Nat.reduceEqDiff, reduceIte, Nat.reduceAdd, Nat.reduceMul, Nat.reduceSub, Nat.reduceLeDiff, Int.reduceToNat, Int.reducePow, Int.reduceLT, Int.reduceEq, Int.reduceBEq, Int.reduceNeg, Nat.reducePow, List.reduceReplicate, Int.reduceLE, hne, hz, h0, h63, hn, List.length_cons, Int.natCast_add, Int.natCast_one]))
        have e1 : ((c.toNat : Int) + 1).toNat = c.toNat + 1 := by omega
        rw [e1, List.drop_succ_cons, List.take_succ_cons, List.drop_succ_cons, List.drop_zero]
        refine ⟨⟨(ls ++ [r.take c.toNat], r.drop c.toNat, g + 1), ?_, ?_, ?_, ?_⟩, ?_, ?_⟩
        · dsimp only
          rw [hlab]
          cases labS (r.drop c.toNat) <;> simp
        · dsimp only; rw [List.length_drop]; omega
        · dsimp only
          rw [List.length_append, List.length_singleton]
          omega
        · dsimp only
          rw [List.length_append, List.length_singleton, List.length_drop]
          omega
        · dsimp only
          rw [List.length_append, List.length_singleton]
          exact Coe.kp
        · dsimp only
          rw [List.length_drop, List.length_cons]
          omega

theorem labRight_spec (s : List UInt8) (hs : s.length ≤ 9223372036854775807) (H : List Box) : ASpec Tryz.prog 95 [vs s] H (Gives (vb (lab s).isSome) H) := by
  have hl := fun H => split_spec s hs H
  cases hlb : lab s with
  | none =>
    rw [hlb] at hl
    have hl : ∀ H, ASpec Tryz.prog 119 [vs s] H (Gives (.tup [.dead, vb false]) H) := hl
    refine ASpec.enter Tryz.func95 rfl (fun a w => Tryz.call95 a w) Tryz.ntmps95 Tryz.results95 fun base w β hI => ?_
    refine wk wT (wA hl (wA holM_LabA_8 (wA DrM.mk wT))) ?_
    refine wkEnd wT ?_
    exact Fin.same ⟨rfl, rfl⟩
  | some l =>
    rw [hlb] at hl
    have hl : ∀ H, ASpec Tryz.prog 119 [vs s] H (Gives (.tup [.lst 1 (strG l), vb true]) H) := hl
    refine ASpec.enter Tryz.func95 rfl (fun a w => Tryz.call95 a w) Tryz.ntmps95 Tryz.results95 fun base w β hI => ?_
    refine wk wT (wA hl (wA holM_LabA_8 (wA DrM.mk wT))) ?_
    refine wkEnd wT ?_
    exact Fin.same ⟨rfl, rfl⟩

end Go.Proofs.YtnlmdeeadldgmaaGreatDoor.VL
