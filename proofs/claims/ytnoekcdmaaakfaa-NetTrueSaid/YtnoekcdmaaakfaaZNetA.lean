/- Layer 25: whether mails may be of a net. -/
import Derived.Test.YtnoekcdmaaakfaaZCd
import Derived.Test.YtnoekcdmaaakfaaZNetM
-- STEPWISE
-- WK
set_option linter.unusedVariables false
set_option linter.unusedSimpArgs false
set_option maxRecDepth 10000
namespace Go.Proofs.Ytnoekcdmaaakfaa.VL
open Go Go.RowKit Go.Lib

theorem node_spec (n : Int) (H : List Box) : ASpec Try.prog 43 [vi n] H (Gives (vb (nodeOk n)) H) := by
  unfold nodeOk
  by_cases h : 0 ≤ n
  · refine ASpec.enter Try.func43 rfl (fun a w => Try.call43 a w) Try.ntmps43 Try.results43 fun base w β hI => ?_
    refine wk (wA h wT) (wA DrM.mk wT) ?_
    refine wkEnd wT ?_
    exact Fin.same ⟨by simp [h], rfl⟩
  · refine ASpec.enter Try.func43 rfl (fun a w => Try.call43 a w) Try.ntmps43 Try.results43 fun base w β hI => ?_
    refine wk (wA h wT) (wA DrM.mk wT) ?_
    refine wkEnd wT ?_
    exact Fin.same ⟨by simp [h], rfl⟩
theorem refNode_spec (n : Int) (H : List Box) : ASpec Try.prog 49 [vi n] H (Gives (vb (nodeOk n)) H) := by
  unfold nodeOk
  by_cases h : 0 ≤ n
  · refine ASpec.enter Try.func49 rfl (fun a w => Try.call49 a w) Try.ntmps49 Try.results49 fun base w β hI => ?_
    refine wk (wA h wT) (wA DrM.mk wT) ?_
    refine wkEnd wT ?_
    exact Fin.same ⟨by simp [h], rfl⟩
  · refine ASpec.enter Try.func49 rfl (fun a w => Try.call49 a w) Try.ntmps49 Try.results49 fun base w β hI => ?_
    refine wk (wA h wT) (wA DrM.mk wT) ?_
    refine wkEnd wT ?_
    exact Fin.same ⟨by simp [h], rfl⟩
theorem odd_spec (m : Ml) (H : List Box) : ASpec Try.prog 26 [.agg (mlC m)] H (Gives (vb (!mlOk m)) H) := by
  obtain ⟨f, t, d⟩ := m
  have n1 := fun H => node_spec f H
  have n2 := fun H => node_spec t H
  unfold mlOk
  dsimp only
  cases h1 : nodeOk f
  · refine ASpec.enter Try.func26 rfl (fun a w => Try.call26 a w) Try.ntmps26 Try.results26 fun base w β hI => ?_
    refine wk (wA h1 wT) (wA n1 (wA n2 (wA DrM.mk wT))) ?_
    refine wkEnd wT ?_
    exact Fin.cut (.v _) ⟨rfl, rfl⟩
  cases h2 : nodeOk t
  · refine ASpec.enter Try.func26 rfl (fun a w => Try.call26 a w) Try.ntmps26 Try.results26 fun base w β hI => ?_
    refine wk (wA h1 (wA h2 wT)) (wA n1 (wA n2 (wA DrM.mk wT))) ?_
    refine wkEnd wT ?_
    exact Fin.cut (.v _) ⟨rfl, rfl⟩
  refine ASpec.enter Try.func26 rfl (fun a w => Try.call26 a w) Try.ntmps26 Try.results26 fun base w β hI => ?_
  refine wk (wA h1 (wA h2 wT)) (wA n1 (wA n2 (wA DrM.mk wT))) ?_
  refine wkEnd wT ?_
  refine Fin.cut (.v _) ⟨?_, rfl⟩
  have : decide ((40000 : Int) < (d.length : Int)) = !decide (d.length ≤ 40000) := by
    by_cases h : d.length ≤ 40000
    · rw [decide_eq_true h, decide_eq_false (by omega)]; rfl
    · rw [decide_eq_false h, decide_eq_true (by omega)]; rfl
  rw [this]
  simp
theorem refMail_spec (m : Ml) (H : List Box) : ASpec Try.prog 32 [.agg (mlC m)] H (Gives (vb (mlOk m)) H) := by
  obtain ⟨f, t, d⟩ := m
  have n1 := fun H => refNode_spec f H
  have n2 := fun H => refNode_spec t H
  unfold mlOk
  dsimp only
  cases h1 : nodeOk f
  · refine ASpec.enter Try.func32 rfl (fun a w => Try.call32 a w) Try.ntmps32 Try.results32 fun base w β hI => ?_
    refine wk (wA h1 wT) (wA n1 (wA n2 (wA DrM.mk wT))) ?_
    refine wkEnd wT ?_
    exact Fin.cut (.v _) ⟨rfl, rfl⟩
  cases h2 : nodeOk t
  · refine ASpec.enter Try.func32 rfl (fun a w => Try.call32 a w) Try.ntmps32 Try.results32 fun base w β hI => ?_
    refine wk (wA h1 (wA h2 wT)) (wA n1 (wA n2 (wA DrM.mk wT))) ?_
    refine wkEnd wT ?_
    exact Fin.cut (.v _) ⟨rfl, rfl⟩
  refine ASpec.enter Try.func32 rfl (fun a w => Try.call32 a w) Try.ntmps32 Try.results32 fun base w β hI => ?_
  refine wk (wA h1 (wA h2 wT)) (wA n1 (wA n2 (wA DrM.mk wT))) ?_
  refine wkEnd wT ?_
  refine Fin.cut (.v _) ⟨?_, rfl⟩
  have : decide ((d.length : Int) ≤ 40000) = decide (d.length ≤ 40000) := decide_eq_decide.2 (by omega)
  rw [this]
  simp

/-- The first place where f holds. -/
def fstIx {α : Type} (f : α → Bool) : List α → Nat → Int
  | [], _ => -1
  | x :: l, i => if f x then (i : Int) else fstIx f l (i + 1)
theorem fstIx_any {α : Type} (f : α → Bool) : ∀ (l : List α) (i : Nat), decide (0 ≤ fstIx f l i) = l.any f
  | [], _ => by simp [fstIx]
  | x :: l, i => by
    rw [fstIx, List.any_cons]
    by_cases h : f x = true
    · rw [if_pos h, h]; simp
    · rw [if_neg h, fstIx_any f l (i + 1)]
      simp [h]
theorem fstIx_drop {α : Type} (f : α → Bool) {l : List α} {i : Nat} {x : α} (h : l[i]? = some x) : fstIx f (l.drop i) i = if f x then (i : Int) else fstIx f (l.drop (i + 1)) (i + 1) := by
  have hi := (List.getElem?_eq_some_iff.1 h).1
  rw [List.drop_eq_getElem_cons hi, fstIx, (List.getElem?_eq_some_iff.1 h).2]
theorem any_not {α : Type} (f : α → Bool) (l : List α) : (l.any fun x => !f x) = !l.all f := by
  induction l with
  | nil => rfl
  | cons x l ih => simp only [List.any_cons, List.all_cons, ih]; cases f x <;> simp

theorem ixOdd_spec (l : List Ml) (hl : l.length ≤ 9223372036854775807) (H : List Box) :
    ASpec Try.prog 44 [.lst 3 (mlG l), .fn 26 []] H (Gives (vi (fstIx (fun m => !mlOk m) l 0)) H) := by
  refine ASpec.enter Try.func44 rfl (fun a w => Try.call44 a w) Try.ntmps44 Try.results44 fun base w β hI => ?_
  refine wk wT (wA DrM.mk wT) ?_
  refine AWP.loop (ι := {i : Nat // i ≤ l.length ∧ fstIx (fun m => !mlOk m) l 0 = fstIx (fun m => !mlOk m) (l.drop i) i})
    (fun p => ⟨[(0, .lst 3 (mlG l)), (1, .fn 26 []), (7, vi l.length), (8, vi p.1)], H⟩) (fun p => l.length - p.1) ⟨0, Nat.zero_le _, by simp⟩ ?_ ?_
  · dsimp only
    exact Coe.kp
  · rintro ⟨i, hi, he⟩
    dsimp only
    by_cases hc : (i : Int) < (l.length : Int)
    · have hg : l[i]? = some l[i] := List.getElem?_eq_getElem (by omega)
      generalize l[i] = q at hg
      have hs := fun H => odd_spec q H
      rw [fstIx_drop _ hg] at he
      generalize mlOk q = x at hs he
      obtain ⟨f, t, d⟩ := q
      cases x with
      | true =>
        have hs' : ∀ H, ASpec Try.prog 26 [.agg [vi f, vi t, vB d]] H (Gives (vb false) H) := hs
        refine wk (wA hc (wA hg wT)) (wA hs' (wA DrM.mk wT)) ?_
        refine ⟨⟨i + 1, by omega, by rw [he]; rfl⟩, ?_, by dsimp only; omega⟩
        dsimp only
        exact Coe.kp
      | false =>
        have hs' : ∀ H, ASpec Try.prog 26 [.agg [vi f, vi t, vB d]] H (Gives (vb true) H) := hs
        have he2 : fstIx (fun m => !mlOk m) l 0 = (i : Int) := by rw [he]; rfl
        rw [he2]
        refine wk (wA hc (wA hg wT)) (wA hs' (wA DrM.mk wT)) ?_
        refine wkEnd wT ?_
        exact Fin.same ⟨rfl, rfl⟩
    · rw [List.drop_of_length_le (by omega)] at he
      rw [he]
      refine wk (wA hc wT) (wA DrM.mk wT) ?_
      refine wkEnd wT ?_
      exact Fin.same ⟨rfl, rfl⟩
theorem hasOdd_spec (l : List Ml) (hl : l.length ≤ 9223372036854775807) (H : List Box) :
    ASpec Try.prog 25 [.lst 3 (mlG l), .fn 26 []] H (Gives (vb (!l.all mlOk)) H) := by
  have hi := fun H => ixOdd_spec l hl H
  have ha := fstIx_any (fun m => !mlOk m) l 0
  rw [any_not] at ha
  rw [← ha]
  refine ASpec.enter Try.func25 rfl (fun a w => Try.call25 a w) Try.ntmps25 Try.results25 fun base w β hI => ?_
  refine wk wT (wA hi (wA DrM.mk wT)) ?_
  refine wkEnd wT ?_
  exact Fin.same ⟨rfl, rfl⟩

end Go.Proofs.Ytnoekcdmaaakfaa.VL
