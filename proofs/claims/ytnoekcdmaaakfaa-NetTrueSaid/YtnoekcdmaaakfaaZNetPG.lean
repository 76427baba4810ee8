/- Layer 25: one cut is taken out of a row of one's own. -/
import Derived.Test.YtnoekcdmaaakfaaZNetPF
-- STEPWISE
-- WK
-- HWR
set_option linter.unusedVariables false
set_option linter.unusedSimpArgs false
set_option maxRecDepth 10000
namespace Go.Proofs.Ytnoekcdmaaakfaa.VL
open Go Go.RowKit Go.Lib

/-- Cuts on the way: what stands in the row as place j is reached. -/
def xC (cu : List Ct) (q j : Nat) : List Ct := cu.take q ++ ((cu.drop (q + 1)).take (j - 1 - q) ++ cu.drop (j - 1))
theorem xC_len {cu : List Ct} {q j : Nat} (hq : q < cu.length) (h1 : q + 1 ≤ j) (h2 : j ≤ cu.length) : (xC cu q j).length = cu.length := by
  simp only [xC, List.length_append, List.length_take, List.length_drop]; omega
theorem xC_0 {cu : List Ct} {q : Nat} (hq : q < cu.length) : xC cu q (q + 1) = cu := by
  have e1 : q + 1 - 1 - q = 0 := by omega
  have e2 : q + 1 - 1 = q := by omega
  rw [xC, e1, e2, List.take_zero, List.nil_append, List.take_append_drop]
theorem xC_get {cu : List Ct} {q j : Nat} (h1 : q + 1 ≤ j) (h2 : j < cu.length) : (xC cu q j)[j]? = cu[j]? := by
  have e1 : (cu.take q).length = q := by rw [List.length_take]; omega
  have e2 : ((cu.drop (q + 1)).take (j - 1 - q)).length = j - 1 - q := by rw [List.length_take, List.length_drop]; omega
  rw [xC, List.getElem?_append_right (by omega), List.getElem?_append_right (by omega), e1, e2, List.getElem?_drop]
  congr 1
  omega
theorem xC_set {cu : List Ct} {q j : Nat} {c : Ct} (h1 : q + 1 ≤ j) (h2 : cu[j]? = some c) : (xC cu q j).set (j - 1) c = xC cu q (j + 1) := by
  have h3 := (List.getElem?_eq_some_iff.1 h2).1
  have e1 : (cu.take q).length = q := by rw [List.length_take]; omega
  have e2 : ((cu.drop (q + 1)).take (j - 1 - q)).length = j - 1 - q := by rw [List.length_take, List.length_drop]; omega
  have e3 : (cu.drop (q + 1)).take (j + 1 - 1 - q) = (cu.drop (q + 1)).take (j - 1 - q) ++ [c] := by
    have e4 : j + 1 - 1 - q = (j - 1 - q) + 1 := by omega
    have e5 : (cu.drop (q + 1))[j - 1 - q]? = some c := by rw [List.getElem?_drop, ← h2]; congr 1; omega
    rw [e4, List.take_add_one, e5]
    rfl
  have e6 : j - 1 - q - (j - 1 - q) = 0 := by omega
  have e7 : cu.drop (j - 1) = cu[j - 1] :: cu.drop j := by
    have := List.drop_eq_getElem_cons (l := cu) (i := j - 1) (by omega)
    rwa [show j - 1 + 1 = j by omega] at this
  rw [xC, xC, e3, List.set_append_right _ _ (by omega), List.set_append_right _ _ (by omega), e1, e2, e6, e7, List.set_cons_zero, List.append_assoc, show j + 1 - 1 = j by omega]
  rfl
theorem xC_end {cu : List Ct} {q : Nat} (hq : q < cu.length) : (xC cu q cu.length).take (cu.length - 1) = cu.take q ++ cu.drop (q + 1) := by
  have e1 : (cu.take q).length = q := by rw [List.length_take]; omega
  have e2 : ((cu.drop (q + 1)).take (cu.length - 1 - q)) = cu.drop (q + 1) := List.take_of_length_le (by rw [List.length_drop]; omega)
  rw [xC, e2, ← List.append_assoc, List.take_append_of_le_length (by rw [List.length_append, e1, List.length_drop]; omega), List.take_of_length_le (by rw [List.length_append, e1, List.length_drop]; omega)]

/-- New boxes are forgotten, the caller's have changed. -/
theorem Coe.cutH {E : Ent} {l l' : List (Nat × AV)} {H' N : List Box} (h : Keeps l l') (hl : H'.length = E.H.length) (hlt : ∀ p ∈ l', Lt H'.length p.2) (hc : ∀ (i : Nat) (bx : Box), H'[i]? = some bx → ∀ (j : Nat) (c : AV), bx.cells[j]? = some c → Lt H'.length c) : Coe E ⟨l, H' ++ N⟩ ⟨l', H'⟩ := fun a w ⟨β, hs⟩ => by
  have hinv := hs.inv
  have hstp := hs.stp
  dsimp only at hinv hstp
  obtain ⟨g1, g2, g3⟩ := cut_inv hinv hstp hc (by omega)
  refine ⟨β, ⟨hs.defers, hs.size, g1, g2, fun k => ?_⟩⟩
  have hr := hs.tmps k
  dsimp only at hr
  rcases lk_keep h k with hk | hk
  · dsimp only
    by_cases hdead : lk l' k = .dead
    · rw [hdead]; exact .dead _
    · have : ∃ p ∈ l', p.2 = lk l' k := by
        clear h hr hk hlt
        induction l' with
        | nil => exact absurd rfl hdead
        | cons q r ih =>
          obtain ⟨n, v⟩ := q
          simp only [lk_cons] at hdead ⊢
          by_cases hq : n = k
          · rw [if_pos hq]; exact ⟨(n, v), by simp, rfl⟩
          · rw [if_neg hq] at hdead ⊢
            obtain ⟨p, hp, e⟩ := ih hdead
            exact ⟨p, by simp [hp], e⟩
      obtain ⟨p, hp, e⟩ := this
      have hl := hlt p hp
      rw [e] at hl
      rw [hk] at hl ⊢
      exact g3 _ _ hl hr
  · dsimp only
    rw [hk]; exact .dead _
theorem ctF_set {l : List Ct} {i : Nat} (c : Ct) (hi : i < l.length) : splice (ctF l) (i * 2) [vi c.a, vi c.b] = ctF (l.set i c) := by
  apply List.ext_getElem?
  intro t
  have h1 := ctF_length l
  have h2 := ctF_length (l.set i c)
  rw [List.length_set] at h2
  rw [splice_get _ _ _ _ (by simp only [List.length_cons, List.length_nil]; omega)]
  induction l generalizing i t with
  | nil => simp at hi
  | cons x l ih =>
    cases i with
    | zero =>
      rw [List.set_cons_zero, ctF_cons, ctF_cons]
      rcases t with _ | _ | t
      · simp
      · simp
      · rw [if_neg (by simp only [List.length_cons, List.length_nil]; omega)]; simp
    | succ i =>
      rw [List.set_cons_succ, ctF_cons, ctF_cons]
      rcases t with _ | _ | t
      · rw [if_neg (by omega)]; simp
      · rw [if_neg (by omega)]; simp
      · have := ih (i := i) (by simpa using hi) t (ctF_length l) (by rw [ctF_length, List.length_set])
        simp only [List.length_cons, List.length_nil, List.getElem?_cons_succ] at this ⊢
        rw [← this]
        by_cases hc : i * 2 ≤ t ∧ t < i * 2 + 2
        · rw [if_pos hc, if_pos (by omega)]; congr 1; omega
        · rw [if_neg hc, if_neg (by omega)]

set_option maxHeartbeats 8000000 in
theorem delf_spec (a b : Int) (cu : List Ct) (q : Nat) (hq : cu[q]? = some (cutC a b)) (hb4 : ∀ i c, i < q → cu[i]? = some c → c ≠ cutC a b) (haf : ∀ i c, q < i → cu[i]? = some c → c ≠ cutC a b) (hl : cu.length ≤ 1048576) (bb g p1 p2 : Nat) (H : List Box) (h1 : H[p1]? = some ⟨[vi a], 0, 0, false⟩) (h2 : H[p2]? = some ⟨[vi b], 0, 0, false⟩) (hb : H[bb]? = some ⟨ctF cu, 0, g, true⟩) (hn1 : p1 ≠ bb) (hn2 : p2 ≠ bb) :
    ASpec Try.prog 41 [.sl bb g 0 cu.length 2 false, .fn 42 [.ptr p1 0 0, .ptr p2 0 0]] H (fun o H' => o = .ret (.sl bb g 0 (cu.length - 1) 2 false) ∧ H' = H.set bb ⟨ctF (cu.take q ++ cu.drop (q + 1)) ++ [vi 0, vi 0], 0, g, true⟩) := by
  have hx := ixf_spec a b cu q hq hb4 hl bb g p1 p2 H h1 h2 hb
  have hbl : bb < H.length := (List.getElem?_eq_some_iff.1 hb).1
  have hql := (List.getElem?_eq_some_iff.1 hq).1
  have hs : ∀ x : Box, (H.set bb x)[bb]? = some x := fun x => List.getElem?_set_self hbl
  have g1 : ∀ x : Box, (H.set bb x)[p1]? = some ⟨[vi a], 0, 0, false⟩ := fun x => by rw [List.getElem?_set_ne (Ne.symm hn1)]; exact h1
  have g2 : ∀ x : Box, (H.set bb x)[p2]? = some ⟨[vi b], 0, 0, false⟩ := fun x => by rw [List.getElem?_set_ne (Ne.symm hn2)]; exact h2
  have hset0 : H = H.set bb ⟨ctF (xC cu q (q + 1)), 0, g, true⟩ := by rw [xC_0 hql]; exact (List.set_getElem_self hbl ▸ by rw [← (List.getElem?_eq_some_iff.1 hb).2]; simp)
  refine ASpec.enter Try.func41 rfl (fun a w => Try.call41 a w) Try.ntmps41 Try.results41 fun base w β hI => ?_
  refine wk (wA hb wT) (wA hx (wA DrM.mk wT)) ?_
  refine AWP.loop (ι := {j : Nat // q + 1 ≤ j ∧ j ≤ cu.length}) (fun p => ⟨[(0, .sl bb g 0 cu.length 2 false), (1, .fn 42 [.ptr p1 0 0, .ptr p2 0 0]), (5, vi ((p.1 - 1 : Nat) : Int)), (6, vi p.1)], H.set bb ⟨ctF (xC cu q p.1), 0, g, true⟩⟩) (fun p => cu.length - p.1) ⟨q + 1, by omega, by omega⟩ ?_ ?_
  · dsimp only
    rw [← hset0, show q + 1 - 1 = q by omega]
    exact Coe.kp
  · rintro ⟨j, hj1, hj2⟩
    dsimp only
    by_cases hc : (j : Int) < (cu.length : Int)
    · have hg : cu[j]? = some cu[j] := List.getElem?_eq_getElem (by omega)
      have hne := haf j cu[j] (by omega) hg
      generalize cu[j] = c at *
      have hrow := ctF_row ((xC_get hj1 (by omega)).trans hg)
      have hxs := xC_set hj1 hg
      have hst := ctF_set (l := xC cu q j) (i := j - 1) c (by rw [xC_len hql hj1 hj2]; omega)
      rw [hxs] at hst
      have hxl : (ctF (xC cu q j)).length = cu.length * 2 := by rw [ctF_length, xC_len hql hj1 hj2]
      have hh : ∀ (x y : Box), ASpec Try.prog 42 [.agg (ctC c), .ptr p1 0 0, .ptr p2 0 0] (H.set bb x ++ [y]) (Gives (vb false) (H.set bb x ++ [y])) := fun x y => by
        have h := healC_gen a b c p1 p2 (H.set bb x ++ [y]) (by rw [List.getElem?_append_left (by rw [List.length_set]; exact (List.getElem?_eq_some_iff.1 h1).1)]; exact g1 x) (by rw [List.getElem?_append_left (by rw [List.length_set]; exact (List.getElem?_eq_some_iff.1 h2).1)]; exact g2 x)
        rwa [decide_eq_false hne] at h
      obtain ⟨ca, cb⟩ := c
      dsimp only at hrow hst
      have hs2 : ∀ (x y : Box), (H.set bb x ++ [y])[bb]? = some x := fun x y => by rw [List.getElem?_append_left (by rw [List.length_set]; exact hbl)]; exact hs x
      have hs3 : ∀ (x y z : Box), (H.set bb x ++ [y]).set bb z = H.set bb z ++ [y] := fun x y z => by rw [List.set_append_left _ _ (by rw [List.length_set]; exact hbl), List.set_set]
      have hj0 : (0 : Int) ≤ ((j - 1 : Nat) : Int) := by omega
      have hjl : j - 1 < cu.length := by omega
      have hji : ((j - 1 : Nat) : Int) + 1 = (j : Int) := by omega
      refine wk (wA hc (wA hs (wA hs2 (wA hs3 (wA hxl (wA hrow (wA hst (wA hj0 (wA hjl (wA hji wT)))))))))) (wA hh (wA DrM.mk wT)) ?_
      refine ⟨⟨j + 1, by omega, by omega⟩, ?_, by dsimp only; omega⟩
      dsimp only
      rw [show j + 1 - 1 = j by omega, show ((ctF (xC cu q j)).set ((j - 1) * 2) (vi ca)).set ((j - 1) * 2 + 1) (vi cb) = ctF (xC cu q (j + 1)) from hst]
      refine Coe.cutH (Keeps.kp wT) (by rw [List.length_set]) ?_ ?_
      · have l1 := (List.getElem?_eq_some_iff.1 h1).1
        have l2 := (List.getElem?_eq_some_iff.1 h2).1
        rw [List.length_set]
        simp only [List.mem_cons, List.not_mem_nil, or_false, forall_eq_or_imp, forall_eq]
        refine ⟨.sl _ _ _ _ _ _ hbl, .fn _ _ fun i c hc => ?_, .v _, .v _⟩
        rcases i with _ | _ | i
        · simp at hc; subst hc; exact .ptr _ _ _ l1
        · simp at hc; subst hc; exact .ptr _ _ _ l2
        · simp at hc
      · intro i bx hi k c hk
        rw [List.length_set]
        by_cases hib : i = bb
        · subst hib
          rw [hs] at hi
          injection hi with hi
          subst hi
          exact lt_ctF _ c (List.mem_of_getElem? hk)
        · rw [List.getElem?_set_ne (Ne.symm hib)] at hi
          exact hI.ltCells hi hk
    · have hjn : j = cu.length := by omega
      subst hjn
      have hxl : (ctF (xC cu q cu.length)).length = cu.length * 2 := by rw [ctF_length, xC_len hql hj1 hj2]
      have hz0 : (0 : Int) ≤ ((cu.length - 1 : Nat) : Int) := by omega
      have hz1 : ((cu.length - 1 : Nat) : Int) ≤ (cu.length : Int) := by omega
      have hz2 : cu.length - (cu.length - 1) = 1 := by omega
      have hss : ∀ x y : Box, (H.set bb x).set bb y = H.set bb y := fun x y => List.set_set ..
      have hfin : ((ctF (xC cu q cu.length)).set ((cu.length - 1) * 2) (vi 0)).set ((cu.length - 1) * 2 + 1) (vi 0) = ctF (cu.take q ++ cu.drop (q + 1)) ++ [vi 0, vi 0] := by
        have h := ctF_set (l := xC cu q cu.length) (i := cu.length - 1) ⟨0, 0⟩ (by rw [xC_len hql hj1 hj2]; omega)
        have e : (xC cu q cu.length).set (cu.length - 1) ⟨0, 0⟩ = (cu.take q ++ cu.drop (q + 1)) ++ [⟨0, 0⟩] := by
          have d0 : (xC cu q cu.length).drop (cu.length - 1 + 1) = [] := List.drop_of_length_le (by rw [xC_len hql hj1 hj2]; omega)
          rw [List.set_eq_take_append_cons_drop, if_pos (by rw [xC_len hql hj1 hj2]; omega), xC_end hql, d0]
        rw [e] at h
        have e2 : ctF ((cu.take q ++ cu.drop (q + 1)) ++ [⟨0, 0⟩]) = ctF (cu.take q ++ cu.drop (q + 1)) ++ [vi 0, vi 0] := by simp [ctF, flat]
        rw [e2] at h
        exact h
      generalize ctF (cu.take q ++ cu.drop (q + 1)) ++ [vi 0, vi 0] = Z at *
      repeat' (first
        | (refine AWP.seq ?_)
        | (refine AWP.block ?_)
        | (refine AWP.region_k fun Q' hQ' => ?_)
        | (refine AWP.draw_k rfl (by kernel_rfl) fun Q' hQ' => ?_)
        | (with_reducible refine aops.step fun T hT => ?_; simp (disch := omega) only [go_sem, Nat.reduceBEq, Nat.reduceLT, Nat.reduceEqDiff, reduceIte, Nat.reduceAdd, Nat.reduceMul, Nat.reduceSub, Nat.reduceLeDiff, Int.reduceToNat, Int.reducePow, Int.reduceLT, Int.reduceEq, Int.reduceNeg, Nat.reducePow, List.reduceReplicate, Int.reduceLE, hc, hs, hss, hxl, hz0, hz1, hz2, hfin, Nat.sub_zero, Bool.false_and])
        | (with_reducible refine qops.step fun T hT => ?_; simp (disch := omega) only [go_sem, Nat.reduceBEq, Nat.reduceLT, Nat.reduceEqDiff, reduceIte, Nat.reduceAdd, Nat.reduceMul, Nat.reduceSub, Nat.reduceLeDiff, Int.reduceToNat, Int.reducePow, Int.reduceLT, Int.reduceEq, Int.reduceNeg, Nat.reducePow, List.reduceReplicate, Int.reduceLE, hc, hs, hss, hxl, hz0, hz1, hz2, hfin, Nat.sub_zero, Bool.false_and])
        | (with_reducible refine aops.nil ?_)
        | (with_reducible refine qops.nil ?_)
        | (with_reducible refine hT _ ?_; clear hT T)
        | (refine AWP.skip ?_; try simp only [AExit.then, AExit.inBlock, reduceIte, Nat.reduceEqDiff])
        | (refine AWP.exit ?_; try simp only [AExit.then, AExit.inBlock, reduceIte, Nat.reduceEqDiff])
        | (refine AWP.ret ?_; try simp only [AExit.then, AExit.inBlock, reduceIte, Nat.reduceEqDiff])
        | (refine AWP.cond rfl (fun h => ?_) (fun h => ?_) <;> (try simp only [decide_eq_true_eq, decide_eq_false_iff_not, Bool.true_eq_false, Bool.false_eq_true] at h) <;> (try contradiction))
        | (refine hQ' _ _ ?_; clear hQ' Q'; try simp only [AExit.then, AExit.inBlock, reduceIte, Nat.reduceEqDiff])
        | (refine hQ' _ ?_; clear hQ' Q'; try simp only [AExit.then, AExit.inBlock, reduceIte, Nat.reduceEqDiff])
        | (with_reducible refine Branch.split (fun h => ?_) (fun h => ?_) <;> (try simp only [decide_eq_true_eq, decide_eq_false_iff_not, Bool.not_true, Bool.not_false, Bool.true_eq_false, Bool.false_eq_true] at h) <;> (try contradiction) <;> (simp (disch := omega) only [go_sem, Nat.reduceBEq, Nat.reduceLT, Nat.reduceEqDiff, reduceIte, Nat.reduceAdd, Nat.reduceMul, Nat.reduceSub, Nat.reduceLeDiff, Int.reduceToNat, Int.reducePow, Int.reduceLT, Int.reduceEq, Int.reduceNeg, Nat.reducePow, List.reduceReplicate, Int.reduceLE, h, hc, hs, hss, hxl, hz0, hz1, hz2, hfin, Nat.sub_zero, Bool.false_and]))
        | (with_reducible intro h; try simp only [h, go_sem, Nat.reduceBEq, Nat.reduceLT, Nat.reduceEqDiff, reduceIte, Nat.reduceAdd, Nat.reduceMul, Nat.reduceSub, Nat.reduceLeDiff, Int.reduceToNat, Int.reducePow, Int.reduceLT, Int.reduceEq, Int.reduceNeg, Nat.reducePow, List.reduceReplicate, Int.reduceLE, hc, hs, hss, hxl, hz0, hz1, hz2, hfin, Nat.sub_zero, Bool.false_and]))
      refine wkEnd wT ?_
      exact ⟨_, _, Shed.refl _ _ _, rfl, rfl⟩

end Go.Proofs.Ytnoekcdmaaakfaa.VL
