/- Layer 18: what it takes of the library: a number among others, texts put together, a view's copy. -/
import Derived.Test.YtnlmdeeadldgmaaGreatDoorZG28
import Derived.Test.YtnlmdeeadldgmaaGreatDoorZG29
import Derived.Test.YtnlmdeeadldgmaaGreatDoorZG17
import Derived.Test.YtnlmdeeadldgmaaGreatDoorZVLWalk
-- STEPWISE
-- WK
set_option linter.unusedVariables false
set_option linter.unusedSimpArgs false
set_option maxRecDepth 10000
namespace Go.Proofs.YtnlmdeeadldgmaaGreatDoor.VL
open Go Go.RowKit Go.Lib

abbrev inG (l : List Int) : List (List AV) := l.map fun n => [vi n]
@[go_sem] theorem inG_length (l : List Int) : (inG l).length = l.length := by simp [inG]
@[go_sem] theorem inG_get (l : List Int) (i : Nat) : (inG l)[i]? = (l[i]?).map fun n => [vi n] := by simp [inG]
set_option maxHeartbeats 1000000 in
theorem ixInt_spec (l : List Int) (s : Int) (hl : l.length ≤ 9223372036854775807) (H : List Box) : ASpec Tryz.prog 135 [.lst 1 (inG l), vi s] H (Gives (vi (ixOf (fun x => decide (s = x)) l 0)) H) := by
  refine ASpec.enter Tryz.func135 rfl (fun a w => Tryz.call135 a w) Tryz.ntmps135 Tryz.results135 fun base w β hI => ?_
  refine wk wT (wA DrM.mk wT) ?_
  refine AWP.loop (ι := {i : Nat // i ≤ l.length ∧ ixOf (fun x => decide (s = x)) l 0 = ixOf (fun x => decide (s = x)) (l.drop i) i})
    (fun p => ⟨[(0, .lst 1 (inG l)), (1, vi s), (7, vi l.length), (8, vi p.1)], H⟩) (fun p => l.length - p.1) ⟨0, Nat.zero_le _, by rw [List.drop_zero]⟩ ?_ ?_
  · dsimp only
    exact Coe.kp
  · rintro ⟨i, hi, he⟩
    dsimp only
    by_cases hc : (i : Int) < (l.length : Int)
    · have hg : l[i]? = some l[i] := List.getElem?_eq_getElem (by omega)
      generalize l[i] = x at hg
      rw [ixOf_drop _ hg] at he
      by_cases hx : s = x
      · have he2 : ixOf (fun x => decide (s = x)) l 0 = (i : Int) := by rw [he]; simp [hx]
        rw [he2]
        subst hx
        refine wk (wA hc (wA hg wT)) (wA DrM.mk wT) ?_
        refine wkEnd wT ?_
        exact Fin.same ⟨rfl, rfl⟩
      · refine wk (wA hc (wA hg (wA hx wT))) (wA DrM.mk wT) ?_
        refine ⟨⟨i + 1, by omega, by rw [he]; simp [hx]⟩, ?_, by dsimp only; omega⟩
        dsimp only
        exact Coe.kp
    · rw [List.drop_of_length_le (by omega)] at he
      rw [he]
      refine wk (wA hc wT) (wA DrM.mk wT) ?_
      refine wkEnd wT ?_
      exact Fin.same ⟨rfl, rfl⟩
theorem contains_any (l : List Int) (s : Int) : l.contains s = l.any (fun x => decide (s = x)) := by
  induction l with
  | nil => rfl
  | cons x l ih => rw [List.contains_cons, List.any_cons, ih]; congr 1
theorem hasInt_spec (l : List Int) (s : Int) (hl : l.length ≤ 9223372036854775807) (H : List Box) : ASpec Tryz.prog 101 [.lst 1 (inG l), vi s] H (Gives (vb (l.contains s)) H) := by
  have hs := fun H => ixInt_spec l s hl H
  have ha := ixOf_any (fun x => decide (s = x)) l 0
  generalize ixOf (fun x => decide (s = x)) l 0 = x at hs ha
  rw [contains_any, ← ha]
  refine ASpec.enter Tryz.func101 rfl (fun a w => Tryz.call101 a w) Tryz.ntmps101 Tryz.results101 fun base w β hI => ?_
  refine wk wT (wA hs (wA DrM.mk wT)) ?_
  refine wkEnd wT ?_
  exact Fin.same ⟨rfl, rfl⟩

/-- Rows of rows of texts. -/
abbrev ssG (l : List (List (List UInt8))) : List (List AV) := l.map fun ss => [.lst 1 (strG ss)]
@[go_sem] theorem ssG_length (l : List (List (List UInt8))) : (ssG l).length = l.length := by simp [ssG]
@[go_sem] theorem ssG_get (l : List (List (List UInt8))) (i : Nat) : (ssG l)[i]? = (l[i]?).map fun ss => [.lst 1 (strG ss)] := by simp [ssG]
theorem growS_spec (n : Int) (h0 : 0 < n) (hn : n ≤ 1048576) (H : List Box) : ASpec Tryz.prog 133 [.emp, vi n] H (fun o H' => o = .ret (.sl H.length 0 0 0 1 false) ∧ H' = H ++ [⟨[], 0, 0, true⟩]) := by
  have hneg : ¬ n < 0 := by omega
  refine ASpec.enter Tryz.func133 rfl (fun a w => Tryz.call133 a w) Tryz.ntmps133 Tryz.results133 fun base w β hI => ?_
  repeat' (first
    | (refine AWP.seq ?_)
    | (refine AWP.block ?_)
    | (refine AWP.region_k fun Q' hQ' => ?_)
    | (refine AWP.draw_k rfl (by kernel_rfl) fun Q' hQ' => ?_)
    | (with_reducible refine aops.step fun T hT => ?_; simp (disch := omega) only [go_sem, Nat.reduceBEq, Nat.reduceLT, Nat.reduceEqDiff, reduceIte, Nat.reduceAdd, Nat.reduceMul, Nat.reduceSub, Nat.reduceLeDiff, Int.reduceToNat, Int.reducePow, Int.reduceLT, Int.reduceEq, Int.reduceBEq, Int.reduceNeg, Nat.reducePow, List.reduceReplicate, Int.reduceLE, hneg, h0, Int.sub_zero, Int.sub_self])
    | (with_reducible refine qops.step fun T hT => ?_; simp (disch := omega) only [go_sem, Nat.reduceBEq, Nat.reduceLT, Nat.reduceEqDiff, reduceIte, Nat.reduceAdd, Nat.reduceMul, Nat.reduceSub, Nat.reduceLeDiff, Int.reduceToNat, Int.reducePow, Int.reduceLT, Int.reduceEq, Int.reduceBEq, Int.reduceNeg, Nat.reducePow, List.reduceReplicate, Int.reduceLE, hneg, h0, Int.sub_zero, Int.sub_self])
    | (with_reducible refine aops.nil ?_)
    | (with_reducible refine qops.nil ?_)
    | (with_reducible refine hT _ ?_; clear hT T)
    | (refine AWP.skip ?_; try simp only [AExit.then, AExit.inBlock, reduceIte, Nat.reduceEqDiff])
    | (refine AWP.exit ?_; try simp only [AExit.then, AExit.inBlock, reduceIte, Nat.reduceEqDiff])
    | (refine AWP.ret ?_; try simp only [AExit.then, AExit.inBlock, reduceIte, Nat.reduceEqDiff])
    | (refine AWP.cond rfl (fun h => ?_) (fun h => ?_) <;> (try simp only [decide_eq_true_eq, decide_eq_false_iff_not, Bool.true_eq_false, Bool.false_eq_true] at h) <;> (try contradiction))
    | (refine hQ' _ _ ?_; clear hQ' Q'; try simp only [AExit.then, AExit.inBlock, reduceIte, Nat.reduceEqDiff])
    | (refine hQ' _ ?_; clear hQ' Q'; try simp only [AExit.then, AExit.inBlock, reduceIte, Nat.reduceEqDiff])
    | (with_reducible refine Branch.split (fun h => ?_) (fun h => ?_) <;> (try simp only [decide_eq_true_eq, decide_eq_false_iff_not, Bool.not_true, Bool.not_false, Bool.true_eq_false, Bool.false_eq_true] at h) <;> (try contradiction) <;> (simp (disch := omega) only [go_sem, Nat.reduceBEq, Nat.reduceLT, Nat.reduceEqDiff, reduceIte, Nat.reduceAdd, Nat.reduceMul, Nat.reduceSub, Nat.reduceLeDiff, Int.reduceToNat, Int.reducePow, Int.reduceLT, Int.reduceEq, Int.reduceBEq, Int.reduceNeg, Nat.reducePow, List.reduceReplicate, Int.reduceLE, h, hneg, h0, Int.sub_zero, Int.sub_self]))
    | (with_reducible intro h; try simp only [h, go_sem, Nat.reduceBEq, Nat.reduceLT, Nat.reduceEqDiff, reduceIte, Nat.reduceAdd, Nat.reduceMul, Nat.reduceSub, Nat.reduceLeDiff, Int.reduceToNat, Int.reducePow, Int.reduceLT, Int.reduceEq, Int.reduceBEq, Int.reduceNeg, Nat.reducePow, List.reduceReplicate, Int.reduceLE, hneg, h0, Int.sub_zero, Int.sub_self]))
  refine wkEnd wT ?_
  exact ⟨_, _, Shed.refl _ _ _, rfl, rfl⟩
theorem flat_take_succ {α : Type} {l : List (List α)} {i : Nat} {c : List α} (h : l[i]? = some c) : (l.take (i + 1)).flatten = (l.take i).flatten ++ c := by
  have hi := (List.getElem?_eq_some_iff.1 h).1
  rw [List.take_add_one, h, List.flatten_append]
  simp
theorem flat_take_le {α : Type} (l : List (List α)) (i : Nat) : (l.take i).flatten.length ≤ l.flatten.length := by
  have := congrArg (fun x : List (List α) => x.flatten.length) (List.take_append_drop i l)
  simp only [List.flatten_append, List.length_append] at this
  omega
theorem strC_app (a b : List (List UInt8)) : strC a ++ strC b = strC (a ++ b) := by simp [strC]

set_option maxHeartbeats 2000000 in
theorem concatS_spec (l : List (List (List UInt8))) (hp : 0 < l.flatten.length) (hl : l.flatten.length ≤ 1048576) (hn : l.length ≤ 1048576) (H : List Box) : ASpec Tryz.prog 93 [.lst 1 (ssG l)] H (Gives (.lst 1 (strG l.flatten)) H) := by
  refine ASpec.enter Tryz.func93 rfl (fun a w => Tryz.call93 a w) Tryz.ntmps93 Tryz.results93 fun base w β hI => ?_
  refine wk wT (wA DrM.mk wT) ?_
  refine AWP.loop (ι := {p : Nat × Nat // p.1 ≤ l.length ∧ p.2 = (l.take p.1).flatten.length})
    (fun p => ⟨[(0, .lst 1 (ssG l)), (3, vi p.1.2), (9, .lst 1 (ssG l)), (10, vi l.length), (11, vi p.1.1)], H⟩) (fun p => l.length - p.1.1) ⟨(0, 0), Nat.zero_le _, rfl⟩ ?_ ?_
  · dsimp only
    exact Coe.kp
  · rintro ⟨⟨i, s⟩, hi, hs⟩
    dsimp only at hi hs ⊢
    by_cases hc : (i : Int) < (l.length : Int)
    · have hg : l[i]? = some l[i] := List.getElem?_eq_getElem (by omega)
      generalize l[i] = c at hg
      have ht := congrArg List.length (flat_take_succ hg)
      have hle := flat_take_le l (i + 1)
      rw [List.length_append, ← hs] at ht
      have hneg : ¬ ((s : Int) + (c.length : Int) < 0) := by omega
      have hsg : (strG c).length = c.length := by simp [strG]
      refine wk (wA hc (wA hg (wA hneg (wA hsg wT)))) (wA DrM.mk wT) ?_
      refine ⟨⟨(i + 1, s + c.length), ?_, ?_⟩, ?_, ?_⟩ <;> dsimp only
      · omega
      · exact ht.symm
      · exact Coe.kp
      · omega
    · have hil : i = l.length := by omega
      subst hil
      rw [List.take_length] at hs
      subst hs
      have hgr := fun H => growS_spec (l.flatten.length : Int) (by omega) (by omega) H
      refine wk (wA hc wT) (wA hgr (wA DrM.mk wT)) ?_
      refine AWP.loop (ι := {p : Nat × Nat × List (List UInt8) // p.1 ≤ l.length ∧ p.2.2 = (l.take p.1).flatten})
        (fun p => ⟨[(6, .sl H.length p.1.2.1 0 p.1.2.2.length 1 false), (25, .lst 1 (ssG l)), (26, vi l.length), (27, vi p.1.1)], H ++ [⟨strC p.1.2.2, 0, p.1.2.1, true⟩]⟩) (fun p => l.length - p.1.1) ⟨(0, 0, []), Nat.zero_le _, rfl⟩ ?_ ?_
      · dsimp only
        exact Coe.kp
      · rintro ⟨⟨i, g, acc⟩, hi, hs⟩
        dsimp only at hi hs ⊢
        by_cases hc : (i : Int) < (l.length : Int)
        · have hg : l[i]? = some l[i] := List.getElem?_eq_getElem (by omega)
          generalize l[i] = c at hg
          have ht := flat_take_succ hg
          have hle := flat_take_le l (i + 1)
          rw [ht, List.length_append, ← hs] at hle
          have hsg : (strG c).length = c.length := by simp [strG]
          have hap := strC_app acc c
          have hcap : (acc.length + c.length) * 16 ≤ 140737488355328 := by omega
          refine wk (wA hc (wA hg (wA hsg (wA hap (wA hcap wT))))) (wA DrM.mk wT) ?_
          refine ⟨⟨(i + 1, g + 1, acc ++ c), ?_, ?_⟩, ?_, ?_⟩ <;> dsimp only
          · omega
          · rw [ht, hs]
          · exact Coe.kp
          · omega
        · refine wk (wA hc wT) (wA DrM.mk wT) ?_
          refine wkEnd wT ?_
          rw [List.take_of_length_le (by omega)] at hs
          rw [← hs]
          exact Fin.frozG (G := strG acc) (b := H.length) (bx := ⟨strC acc, 0, g, true⟩) (by simp) (Nat.le_refl _) rfl (by simp [strC]) (chunk_strC acc _ rfl) (fun w H β v hx hr => hx v hr) (lt_str acc) ⟨rfl, rfl⟩

/-- A view of one's own. -/
abbrev OwnsNd (l : List Nd) (H : List Box) : Out → List Box → Prop := fun o H' => o = .ret (.sl H.length 0 0 l.length 4 false) ∧ H' = H ++ [⟨ndF l, 0, 0, true⟩]
theorem cloneNd_spec (l : List Nd) (hl : l.length ≤ 1048576) (H : List Box) : ASpec Tryz.prog 99 [.lst 4 (ndG l)] H (OwnsNd l H) := by
  refine ASpec.enter Tryz.func99 rfl (fun a w => Tryz.call99 a w) Tryz.ntmps99 Tryz.results99 fun base w β hI => ?_
  repeat' (first
    | (refine AWP.seq ?_)
    | (refine AWP.block ?_)
    | (refine AWP.region_k fun Q' hQ' => ?_)
    | (refine AWP.draw_k rfl (by kernel_rfl) fun Q' hQ' => ?_)
    | (with_reducible refine aops.step fun T hT => ?_; simp (disch := omega) only [go_sem, Nat.reduceBEq, Nat.reduceLT, Nat.reduceEqDiff, reduceIte, Nat.reduceAdd, Nat.reduceMul, Nat.reduceSub, Nat.reduceLeDiff, Int.reduceToNat, Int.reducePow, Int.reduceLT, Int.reduceEq, Int.reduceBEq, Int.reduceNeg, Nat.reducePow, List.reduceReplicate, Int.reduceLE])
    | (with_reducible refine qops.step fun T hT => ?_; simp (disch := omega) only [go_sem, Nat.reduceBEq, Nat.reduceLT, Nat.reduceEqDiff, reduceIte, Nat.reduceAdd, Nat.reduceMul, Nat.reduceSub, Nat.reduceLeDiff, Int.reduceToNat, Int.reducePow, Int.reduceLT, Int.reduceEq, Int.reduceBEq, Int.reduceNeg, Nat.reducePow, List.reduceReplicate, Int.reduceLE])
    | (with_reducible refine aops.nil ?_)
    | (with_reducible refine qops.nil ?_)
    | (with_reducible refine hT _ ?_; clear hT T)
    | (refine AWP.skip ?_; try simp only [AExit.then, AExit.inBlock, reduceIte, Nat.reduceEqDiff])
    | (refine AWP.exit ?_; try simp only [AExit.then, AExit.inBlock, reduceIte, Nat.reduceEqDiff])
    | (refine AWP.ret ?_; try simp only [AExit.then, AExit.inBlock, reduceIte, Nat.reduceEqDiff])
    | (refine AWP.cond rfl (fun h => ?_) (fun h => ?_) <;> (try simp only [decide_eq_true_eq, decide_eq_false_iff_not, Bool.true_eq_false, Bool.false_eq_true] at h) <;> (try contradiction))
    | (refine hQ' _ _ ?_; clear hQ' Q'; try simp only [AExit.then, AExit.inBlock, reduceIte, Nat.reduceEqDiff])
    | (refine hQ' _ ?_; clear hQ' Q'; try simp only [AExit.then, AExit.inBlock, reduceIte, Nat.reduceEqDiff])
    | (with_reducible refine Branch.split (fun h => ?_) (fun h => ?_) <;> (try simp only [decide_eq_true_eq, decide_eq_false_iff_not, Bool.not_true, Bool.not_false, Bool.true_eq_false, Bool.false_eq_true] at h) <;> (try contradiction) <;> (simp (disch := omega) only [go_sem, Nat.reduceBEq, Nat.reduceLT, Nat.reduceEqDiff, reduceIte, Nat.reduceAdd, Nat.reduceMul, Nat.reduceSub, Nat.reduceLeDiff, Int.reduceToNat, Int.reducePow, Int.reduceLT, Int.reduceEq, Int.reduceBEq, Int.reduceNeg, Nat.reducePow, List.reduceReplicate, Int.reduceLE, h]))
    | (with_reducible intro h; try simp only [h, go_sem, Nat.reduceBEq, Nat.reduceLT, Nat.reduceEqDiff, reduceIte, Nat.reduceAdd, Nat.reduceMul, Nat.reduceSub, Nat.reduceLeDiff, Int.reduceToNat, Int.reducePow, Int.reduceLT, Int.reduceEq, Int.reduceBEq, Int.reduceNeg, Nat.reducePow, List.reduceReplicate, Int.reduceLE]))
  · have hb : l = [] := by
      have := congrArg List.length (‹_ = true → ndG l = []› h)
      simpa [ndG] using this
    subst hb
    simp only [bodyQ, go_sem, Nat.reduceBEq, Nat.reduceLT, Nat.reduceEqDiff, reduceIte, Nat.reduceAdd, Nat.reduceMul, Nat.reduceSub, Nat.reduceLeDiff, Int.reduceToNat, Int.reducePow, Int.reduceLT, Int.reduceEq, Int.reduceBEq, Int.reduceNeg, Nat.reducePow, List.reduceReplicate, Int.reduceLE]
    exact ⟨_, _, Shed.emp, rfl, rfl⟩
  · simp only [bodyQ, go_sem, Nat.reduceBEq, Nat.reduceLT, Nat.reduceEqDiff, reduceIte, Nat.reduceAdd, Nat.reduceMul, Nat.reduceSub, Nat.reduceLeDiff, Int.reduceToNat, Int.reducePow, Int.reduceLT, Int.reduceEq, Int.reduceBEq, Int.reduceNeg, Nat.reducePow, List.reduceReplicate, Int.reduceLE]
    exact ⟨_, _, Shed.refl _ _ _, rfl, rfl⟩

end Go.Proofs.YtnlmdeeadldgmaaGreatDoor.VL

/- Layer 16: labels, texts, and what is under what, as the program and the reference do it. -/
-- STEPWISE
-- WK
set_option linter.unusedVariables false
set_option linter.unusedSimpArgs false
set_option maxRecDepth 10000
namespace Go.Proofs.YtnlmdeeadldgmaaGreatDoor.VL
open Go Go.RowKit Go.Lib

theorem lab_le {s : List UInt8} {l : List (List UInt8)} (h : lab s = some l) : s.length ≤ 255 ∧ l.length ≤ 254 ∧ lenS l ≤ 254 ∧ (joinB l).length ≤ 254 := by
  obtain ⟨h1, h2, h3⟩ := lab_some h
  have := joinB_length l
  refine ⟨?_, by omega, by omega, h3⟩
  rw [h1, List.length_append, List.length_singleton]
  omega

theorem labLabels_spec (s : List UInt8) (hs : s.length ≤ 9223372036854775807) (H : List Box) : ASpec Tryz.prog 94 [vs s] H (Gives (match lab s with | some l => .lst 1 (strG l) | none => .emp) H) := by
  have hl := fun H => split_spec s hs H
  cases hlb : lab s with
  | none =>
    rw [hlb] at hl
    have hl : ∀ H, ASpec Tryz.prog 119 [vs s] H (Gives (.tup [.dead, vb false]) H) := hl
    refine ASpec.enter Tryz.func94 rfl (fun a w => Tryz.call94 a w) Tryz.ntmps94 Tryz.results94 fun base w β hI => ?_
    refine wk wT (wA hl (wA DrM.mk wT)) ?_
    refine wkEnd wT ?_
    exact Fin.same ⟨rfl, rfl⟩
  | some l =>
    rw [hlb] at hl
    have hl : ∀ H, ASpec Tryz.prog 119 [vs s] H (Gives (.tup [.lst 1 (strG l), vb true]) H) := hl
    refine ASpec.enter Tryz.func94 rfl (fun a w => Tryz.call94 a w) Tryz.ntmps94 Tryz.results94 fun base w β hI => ?_
    refine wk wT (wA hl (wA DrM.mk wT)) ?_
    refine wkEnd wT ?_
    exact Fin.same ⟨rfl, rfl⟩
/-- As a row that is only read. -/
theorem labLabels_spec' (s : List UInt8) (hs : s.length ≤ 9223372036854775807) (H : List Box) : ASpec Tryz.prog 94 [vs s] H (Gives (.lst 1 (strG (labelsN s))) H) := by
  have := labLabels_spec s hs H
  unfold labelsN
  cases hl : lab s with
  | none =>
    rw [hl] at this
    exact this.shed fun E he => by
      subst he
      exact Shed.weak fun w β v h => by cases h with | emp a => exact .lst0 _ _ _
  | some l => rw [hl] at this; exact this

theorem joinS_length (l : List (List UInt8)) (h : l ≠ []) : (joinS [46] l).length + 1 = lenS l + l.length := by
  have := congrArg List.length (dotW_join l h)
  rw [List.length_append, List.length_singleton] at this
  rw [← this]
  clear this h
  induction l with
  | nil => rfl
  | cons s r ih => rw [show dotW (s :: r) = (s ++ [46]) ++ dotW r by simp [dotW], List.length_append, ih]; simp [lenS]; omega

set_option maxHeartbeats 1000000 in
theorem eqStr_spec (a b : List (List UInt8)) (ha : a.length ≤ 9223372036854775807) (hb : b.length ≤ 9223372036854775807) (H : List Box) : ASpec Tryz.prog 120 [.lst 1 (strG a), .lst 1 (strG b)] H (Gives (vb (decide (a = b))) H) := by
  by_cases hl : a.length = b.length
  rotate_left
  · have hn : ¬ a = b := fun e => hl (by rw [e])
    have hl' : ¬ (a.length : Int) = (b.length : Int) := by omega
    rw [decide_eq_false hn]
    refine ASpec.enter Tryz.func120 rfl (fun a w => Tryz.call120 a w) Tryz.ntmps120 Tryz.results120 fun base w β hI => ?_
    refine wk (wA hl' wT) (wA DrM.mk wT) ?_
    refine wkEnd wT ?_
    exact Fin.same ⟨rfl, rfl⟩
  · have hl' : (a.length : Int) = (b.length : Int) := by omega
    have hl2 := eq_true hl'
    refine ASpec.enter Tryz.func120 rfl (fun a w => Tryz.call120 a w) Tryz.ntmps120 Tryz.results120 fun base w β hI => ?_
    refine wk (wA hl2 wT) (wA DrM.mk wT) ?_
    refine AWP.loop (ι := {i : Nat // i ≤ a.length ∧ a.take i = b.take i})
      (fun p => ⟨[(0, .lst 1 (strG a)), (1, .lst 1 (strG b)), (12, vi a.length), (13, vi p.1)], H⟩) (fun p => a.length - p.1) ⟨0, Nat.zero_le _, by simp⟩ ?_ ?_
    · dsimp only
      exact Coe.kp
    · rintro ⟨i, hi, he⟩
      dsimp only
      by_cases hc : (i : Int) < (a.length : Int)
      · have hg : a[i]? = some a[i] := List.getElem?_eq_getElem (by omega)
        have hg2 : b[i]? = some b[i] := List.getElem?_eq_getElem (by omega)
        generalize a[i] = x at hg
        generalize b[i] = y at hg2
        have s1 := take_snoc hg
        have s2 := take_snoc hg2
        by_cases hx : x = y
        · subst hx
          refine wk (wA hc (wA hg (wA hg2 wT))) (wA DrM.mk wT) ?_
          refine ⟨⟨i + 1, by omega, by rw [s1, s2, he]⟩, ?_, by dsimp only; omega⟩
          dsimp only
          exact Coe.kp
        · have hn : ¬ a = b := fun e => hx (by rw [e, hg2] at hg; injection hg with hg; exact hg.symm)
          rw [decide_eq_false hn]
          refine wk (wA hc (wA hg (wA hg2 (wA hx wT)))) (wA DrM.mk wT) ?_
          refine wkEnd wT ?_
          exact Fin.same ⟨rfl, rfl⟩
      · rw [List.take_of_length_le (by omega), List.take_of_length_le (by omega)] at he
        rw [decide_eq_true he]
        refine wk (wA hc wT) (wA DrM.mk wT) ?_
        refine wkEnd wT ?_
        exact Fin.same ⟨rfl, rfl⟩

set_option maxHeartbeats 1000000 in
theorem labUnder_spec (a b : List UInt8) (ha : a.length ≤ 9223372036854775807) (hb : b.length ≤ 9223372036854775807) (H : List Box) : ASpec Tryz.prog 78 [vs a, vs b] H (Gives (vb (underN a b)) H) := by
  have h1 := fun H => labLower_spec a ha H
  have h2 := fun H => labLower_spec b hb H
  have low_len : ∀ s : List UInt8, (lowB s).length = s.length := fun s => by unfold lowB; split <;> simp
  have h3 := fun H => split_spec (lowB a) (by rw [low_len]; exact ha) H
  have h4 := fun H => split_spec (lowB b) (by rw [low_len]; exact hb) H
  unfold underN
  cases hx : lab (lowB a) with
  | none =>
    rw [hx] at h3
    have h3 : ∀ H, ASpec Tryz.prog 119 [vs (lowB a)] H (Gives (.tup [.dead, vb false]) H) := h3
    cases hy : lab (lowB b) with
    | none =>
      rw [hy] at h4
      have h4 : ∀ H, ASpec Tryz.prog 119 [vs (lowB b)] H (Gives (.tup [.dead, vb false]) H) := h4
      refine ASpec.enter Tryz.func78 rfl (fun a w => Tryz.call78 a w) Tryz.ntmps78 Tryz.results78 fun base w β hI => ?_
      refine wk wT (wA h1 (wA h2 (wA h3 (wA h4 (wA DrM.mk wT))))) ?_
      refine wkEnd wT ?_
      exact Fin.same ⟨rfl, rfl⟩
    | some m =>
      rw [hy] at h4
      have h4 : ∀ H, ASpec Tryz.prog 119 [vs (lowB b)] H (Gives (.tup [.lst 1 (strG m), vb true]) H) := h4
      refine ASpec.enter Tryz.func78 rfl (fun a w => Tryz.call78 a w) Tryz.ntmps78 Tryz.results78 fun base w β hI => ?_
      refine wk wT (wA h1 (wA h2 (wA h3 (wA h4 (wA DrM.mk wT))))) ?_
      refine wkEnd wT ?_
      exact Fin.same ⟨rfl, rfl⟩
  | some l =>
    rw [hx] at h3
    have h3 : ∀ H, ASpec Tryz.prog 119 [vs (lowB a)] H (Gives (.tup [.lst 1 (strG l), vb true]) H) := h3
    cases hy : lab (lowB b) with
    | none =>
      rw [hy] at h4
      have h4 : ∀ H, ASpec Tryz.prog 119 [vs (lowB b)] H (Gives (.tup [.dead, vb false]) H) := h4
      refine ASpec.enter Tryz.func78 rfl (fun a w => Tryz.call78 a w) Tryz.ntmps78 Tryz.results78 fun base w β hI => ?_
      refine wk wT (wA h1 (wA h2 (wA h3 (wA h4 (wA DrM.mk wT))))) ?_
      refine wkEnd wT ?_
      exact Fin.same ⟨rfl, rfl⟩
    | some m =>
      rw [hy] at h4
      have h4 : ∀ H, ASpec Tryz.prog 119 [vs (lowB b)] H (Gives (.tup [.lst 1 (strG m), vb true]) H) := h4
      obtain ⟨_, b2, _, _⟩ := lab_le hx
      obtain ⟨_, c2, _, _⟩ := lab_le hy
      dsimp only
      by_cases hlm : (m.length : Int) ≤ (l.length : Int)
      · have he := fun H => eqStr_spec (l.drop (l.length - m.length)) m (by rw [List.length_drop]; omega) (by omega) H
        rw [decide_eq_true (show m.length ≤ l.length by omega), Bool.true_and]
        have e1 : ((l.length : Int) - (m.length : Int)).toNat = l.length - m.length := by omega
        have e2 : List.drop (l.length - m.length) (List.take l.length (strG l)) = strG (l.drop (l.length - m.length)) := by rw [List.take_of_length_le (by simp)]; exact (List.map_drop).symm
        refine ASpec.enter Tryz.func78 rfl (fun a w => Tryz.call78 a w) Tryz.ntmps78 Tryz.results78 fun base w β hI => ?_
        refine wk (wA hlm (wA e1 (wA e2 wT))) (wA h1 (wA h2 (wA h3 (wA h4 (wA he (wA DrM.mk wT)))))) ?_
        refine wkEnd wT ?_
        exact Fin.same ⟨rfl, rfl⟩
      · rw [decide_eq_false (show ¬ m.length ≤ l.length by omega), Bool.false_and]
        refine ASpec.enter Tryz.func78 rfl (fun a w => Tryz.call78 a w) Tryz.ntmps78 Tryz.results78 fun base w β hI => ?_
        refine wk (wA hlm wT) (wA h1 (wA h2 (wA h3 (wA h4 (wA DrM.mk wT))))) ?_
        refine wkEnd wT ?_
        exact Fin.same ⟨rfl, rfl⟩

end Go.Proofs.YtnlmdeeadldgmaaGreatDoor.VL

/- Layer 16: the laws, in plain lists of bytes. -/
set_option linter.unusedVariables false
set_option linter.unusedSimpArgs false
namespace Go.Proofs.YtnlmdeeadldgmaaGreatDoor.VL
open Go Go.RowKit Go.Lib

theorem indexByte_pos {s : List UInt8} (h : ¬ 0 ≤ indexByte s 46) : ∀ c ∈ s, c ≠ 46 := by
  intro c hc he
  obtain ⟨i, hi⟩ := List.mem_iff_getElem?.1 hc
  have h1 := indexByte_ge s 46
  have h2 : indexByte s 46 = -1 := by omega
  clear h h1
  induction s generalizing i with
  | nil => simp at hc
  | cons b r ih =>
    unfold indexByte at h2
    split at h2
    · omega
    · rename_i hb
      split at h2
      · rename_i h3
        cases i with
        | zero => simp at hi; subst hi; subst he; simp at hb
        | succ i => exact ih (List.mem_of_getElem? (by simpa using hi)) i (by simpa using hi) (by simpa using h3)
      · rename_i h3
        have := indexByte_ge r 46
        simp at h3
        omega
theorem count_nodot {s : List UInt8} (h : ∀ c ∈ s, c ≠ 46) : s.count 46 = 0 := by
  rw [List.count_eq_zero]
  exact fun hc => h 46 hc rfl
theorem splitC_app {c : UInt8} : ∀ (s r : List UInt8), s.count c = 0 → splitC c (s ++ c :: r) = s :: splitC c r
  | [], r, _ => by simp [splitC]
  | b :: s, r, h => by
    rw [List.count_cons] at h
    have hb : ¬ b = c := fun e => by subst e; simp at h
    rw [List.cons_append, splitC, if_neg hb, splitC_app s r (by omega)]
theorem splitC_joinS : ∀ (l : List (List UInt8)), l ≠ [] → (∀ s ∈ l, s.count 46 = 0) → splitC 46 (joinS [46] l) = l
  | [], h, _ => absurd rfl h
  | [s], _, h => by
    rw [show joinS [46] [s] = s from rfl, splitC_none (h s (by simp))]
  | s :: t :: r, _, h => by
    rw [show joinS [46] (s :: t :: r) = s ++ [46] ++ joinS [46] (t :: r) from rfl, List.append_assoc, List.singleton_append, splitC_app s _ (h s (by simp)), splitC_joinS (t :: r) (by simp) (fun x hx => h x (by simp [hx]))]
theorem trimB_snoc (s : List UInt8) : trimB (s ++ [46]) 46 = s := by
  unfold trimB
  have : (s ++ [46]).length - 1 = s.length := by simp
  rw [this, List.drop_left, if_pos rfl, List.take_left]
theorem textN_err {n : List UInt8} (h : (textN n).2 ≠ 0) : (textN n).1 = [] := by
  unfold textN at h ⊢
  cases hl : lab n with
  | none => rfl
  | some l =>
    rw [hl] at h
    dsimp only at h ⊢
    by_cases h1 : l = []
    · rw [if_pos h1] at h; exact absurd rfl h
    · rw [if_neg h1] at h ⊢
      by_cases h2 : l.any (fun s => decide (0 ≤ indexByte s 46)) = true
      · rw [if_pos h2]
      · rw [if_neg h2] at h; exact absurd rfl h
/-- A text of a name is that name. -/
theorem textN_back {n t : List UInt8} (h : textN n = (t, 0)) : ofN t = (n, 0) ∧ joinN (labelsN n) = (n, 0) ∧ t.length ≤ 600 := by
  unfold textN at h
  cases hl : lab n with
  | none => rw [hl] at h; simp at h
  | some l =>
    rw [hl] at h
    dsimp only at h
    obtain ⟨h1, h2, h3⟩ := lab_some hl
    have hjn : joinN (labelsN n) = (n, 0) := by
      unfold labelsN
      rw [hl]
      dsimp only
      rw [joinN_ok h2 h3, h1]
    refine ⟨?_, hjn, ?_⟩
    · split at h
      · rename_i h0
        subst h0
        simp only [Prod.mk.injEq, and_true] at h
        subst h
        rw [h1]
        rfl
      · rename_i h0
        split at h
        · simp at h
        · rename_i hd
          simp only [Prod.mk.injEq, and_true] at h
          subst h
          have hcnt : ∀ s ∈ l, s.count 46 = 0 := fun s hs => count_nodot (indexByte_pos fun hh => hd (List.any_eq_true.2 ⟨s, hs, by simpa using hh⟩))
          obtain ⟨s0, r, rfl⟩ : ∃ s0 r, l = s0 :: r := by
            cases l with
            | nil => exact absurd rfl h0
            | cons s r => exact ⟨s, r, rfl⟩
          have hs0 := (h2 s0 (by simp)).1
          have hne : ¬ (dotW (s0 :: r) = [] ∨ dotW (s0 :: r) = [46]) := by
            have hp := List.length_pos_iff.2 hs0
            have hdl := dotW_length (s0 :: r)
            have hls : lenS (s0 :: r) = s0.length + lenS r := by simp [lenS]
            rw [List.length_cons] at hdl
            rintro (e | e)
            · rw [e] at hdl
              simp at hdl
            · rw [e] at hdl
              simp at hdl
              omega
          unfold ofN
          rw [if_neg hne, dotW_join _ (by simp), trimB_snoc, splitC_joinS _ (by simp) hcnt]
          unfold labelsN at hjn
          rw [hl] at hjn
          exact hjn
    · obtain ⟨_, b2, b3, _⟩ := lab_le hl
      split at h
      · simp only [Prod.mk.injEq, and_true] at h
        subst h
        simp
      · split at h
        · simp at h
        · simp only [Prod.mk.injEq, and_true] at h
          subst h
          have := dotW_length l
          omega
theorem lowB_idem (n : List UInt8) : lowB (lowB n) = lowB n := by
  cases hl : lab n with
  | none => rw [lab_low_none hl, lab_low_none hl]
  | some l =>
    obtain ⟨h1, h2⟩ := lab_low hl
    rw [(lab_low h2).1, h1, lowL_idem]
theorem lowB_length (n : List UInt8) : (lowB n).length = n.length := by unfold lowB; split <;> simp
theorem sameN_low {n : List UInt8} {l : List (List UInt8)} (h : lab n = some l) : sameN n (lowB n) = true := by
  rw [sameN_iff h (lab_low h).2, lowL_idem]
  simp
theorem underN_self {n : List UInt8} {l : List (List UInt8)} (h : lab n = some l) : underN n n = true := by
  rw [underN_some h h]
  simp
theorem underN_root {n : List UInt8} {l : List (List UInt8)} (h : lab n = some l) : underN n [0] = true := by
  rw [underN_some h (show lab [0] = some [] from rfl)]
  simp
theorem underN_trans {a b c : List UInt8} (h1 : underN a b = true) (h2 : underN b c = true) : underN a c = true := by
  cases ha : lab a with
  | none => rw [underN_none (.inl ha)] at h1; cases h1
  | some l =>
  cases hb : lab b with
  | none => rw [underN_none (.inr hb)] at h1; cases h1
  | some m =>
  cases hc : lab c with
  | none => rw [underN_none (.inr hc)] at h2; cases h2
  | some k =>
  rw [underN_some ha hb] at h1
  rw [underN_some hb hc] at h2
  rw [underN_some ha hc]
  simp only [Bool.and_eq_true, decide_eq_true_eq] at h1 h2 ⊢
  obtain ⟨h3, h4⟩ := h1
  obtain ⟨h5, h6⟩ := h2
  refine ⟨by omega, ?_⟩
  have e : l.drop (l.length - k.length) = (l.drop (l.length - m.length)).drop (m.length - k.length) := by
    rw [List.drop_drop]
    congr 1
    omega
  rw [e]
  unfold lowL at h4 h6 ⊢
  rw [← h6, List.map_drop, h4, List.map_drop]
theorem underN_anti {a b : List UInt8} (h1 : underN a b = true) (h2 : underN b a = true) : sameN a b = true := by
  cases ha : lab a with
  | none => rw [underN_none (.inl ha)] at h1; cases h1
  | some l =>
  cases hb : lab b with
  | none => rw [underN_none (.inr hb)] at h1; cases h1
  | some m =>
  rw [underN_some ha hb] at h1
  rw [underN_some hb ha] at h2
  rw [sameN_iff ha hb]
  simp only [Bool.and_eq_true, decide_eq_true_eq] at h1 h2 ⊢
  obtain ⟨h3, h4⟩ := h1
  rw [← h4, show l.length - m.length = 0 by omega, List.drop_zero]
/-- A label ahead of a name. -/
theorem ahead {a : List UInt8} {l : List (List UInt8)} (h : lab a = some l) (ha : a.length ≤ 200) : ∃ x, joinN ([120] :: l) = (x, 0) ∧ lab x = some ([120] :: l) ∧ underN x a = true ∧ underN a x = false ∧ underN x (lowB a) = true := by
  obtain ⟨h1, h2, h3⟩ := lab_some h
  have hok : okL ([120] :: l) := fun s hs => by
    rcases List.mem_cons.1 hs with rfl | hs
    · exact ⟨by simp, by simp⟩
    · exact h2 s hs
  have hal : a.length = (joinB l).length + 1 := by rw [h1]; simp
  have hl2 : (joinB ([120] :: l)).length ≤ 254 := by
    rw [joinB_cons]
    simp only [List.length_append, List.length_cons, List.length_nil]
    omega
  have hx := lab_joinB hok hl2
  refine ⟨_, joinN_ok hok hl2, hx, ?_, ?_, ?_⟩
  · rw [underN_some hx h]
    simp
  · rw [underN_some h hx, decide_eq_false (by simp), Bool.false_and]
  · rw [underN_some hx (lab_low h).2]
    have e : (lowL l).length = l.length := by simp [lowL]
    rw [e, lowL_idem]
    simp
theorem lowU_notbig (c : UInt8) : ¬ (65 ≤ (lowU c).toNat ∧ (lowU c).toNat ≤ 90) := by
  unfold lowU
  split
  · rename_i h
    rw [UInt8.toNat_ofNat']
    omega
  · rename_i h
    exact h
theorem lab_low_len {n : List UInt8} {l : List (List UInt8)} (h : lab n = some l) : (labelsN (lowB n)).length = (labelsN n).length := by
  unfold labelsN
  rw [(lab_low h).2, h]
  simp [lowL]
theorem labelsN_le (n : List UInt8) : (labelsN n).length ≤ 254 ∧ lenS (labelsN n) ≤ 254 := by
  unfold labelsN
  cases h : lab n with
  | none => simp [lenS]
  | some l => obtain ⟨_, b2, b3, _⟩ := lab_le h; exact ⟨b2, b3⟩

end Go.Proofs.YtnlmdeeadldgmaaGreatDoor.VL
