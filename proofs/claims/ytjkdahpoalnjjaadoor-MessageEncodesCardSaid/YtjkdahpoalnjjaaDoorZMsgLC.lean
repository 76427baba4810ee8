/- Layer 20: the law of encoding. -/
import Derived.Test.YtjkdahpoalnjjaaDoorZMsgLB
-- STEPWISE
set_option linter.unusedVariables false
set_option linter.unusedSimpArgs false
set_option maxRecDepth 10000
namespace Go.Proofs.YtjkdahpoalnjjaaDoor.VL
open Go Go.RowKit Go.Lib

theorem Rep.tup0 {w : World} {H : List Box} {β : Pl} {c : AV} {x : Value} (h : Rep w H β (.tup [.emp, c]) x) : Rep w H β (.tup [vB [], c]) x := by
  cases h with
  | tup cs vs hl h =>
    refine .tup _ vs (by simpa using hl) fun j c' x hc hx => ?_
    rcases j with _ | j
    · simp at hc
      subst hc
      have := h 0 .emp x rfl hx
      cases this with
      | emp a => exact .lst0 _ _ _
    · exact h (j + 1) c' x hc hx
/-- What Wrap answers, an error as no bytes. -/
def wrapP (t : Tk) (c : List UInt8) (n : Int) : List UInt8 × Int := if tkOk t then (if frRight (frT t c n) then (frB (frT t c n), 0) else ([], 1)) else ([], 1)
theorem wrapP_le (t : Tk) (c : List UInt8) (n : Int) : (wrapP t c n).1.length ≤ 1099511627776 := by
  unfold wrapP
  split
  · split
    · rename_i h; exact frB_le h
    · simp
  · simp
theorem ASpec.wrapP {f : FuncId} {args : List AV} {H : List Box} {t : Tk} {c : List UInt8} {n : Int} (h : ASpec Tryd.prog f args H (Gives (wrapT t c n) H)) : ASpec Tryd.prog f args H (Gives (beV (wrapP t c n)) H) := by
  unfold wrapT encV at h
  unfold VL.wrapP
  cases hok : tkOk t with
  | false =>
    rw [hok, if_neg (by simp)] at h
    rw [if_neg (by simp)]
    exact h.shed fun E hE => by subst hE; exact Shed.weak fun w β v h => h.tup0
  | true =>
    rw [hok, if_pos rfl] at h
    rw [if_pos rfl]
    cases hr : frRight (frT t c n) with
    | false =>
      rw [hr, if_neg (by simp)] at h
      rw [if_neg (by simp)]
      exact h.shed fun E hE => by subst hE; exact Shed.weak fun w β v h => h.tup0
    | true =>
      rw [hr, if_pos rfl] at h
      rw [if_pos rfl]
      exact h

set_option maxHeartbeats 8000000 in
theorem messageEncodes_spec (s t : Tk) (hs : TkIn s) (ht : TkIn t) (kd : Int) (H : List Box) : ASpec Tryd.prog 8 [.agg (tkC s), .agg (tkC t), vi kd] H (Gives (vb true) H) := by
  have g1 := fun H => refGreat20_spec s hs H
  have g2 := fun H => refGreat20_spec t ht H
  cases hg1 : great20 s with
  | true =>
    rw [hg1] at g1
    clear hg1 g2
    obtain ⟨k, d, l⟩ := s
    obtain ⟨k2, d2, l2⟩ := t
    try dsimp only at g1
    intro base
    refine acall_body Tryd.func8 rfl (fun a w => Tryd.call8 a w) Tryd.ntmps8 Tryd.results8 (by simp) ?_
    intro w β hI
    simp only [number]
    repeat' (first
      | (refine AWP.seq ?_)
      | (refine AWP.block ?_)
      | (refine AWP.region_k fun Q' hQ' => ?_)
      | (refine AWP.draw_k rfl (by kernel_rfl) fun Q' hQ' => ?_)
      | (with_reducible refine aops.step fun T hT => ?_; simp (disch := omega) only [go_sem, Nat.reduceBEq, Nat.reduceLT, Nat.reduceEqDiff, reduceIte, Nat.reduceAdd, Nat.reduceMul, Nat.reduceSub, Nat.reduceLeDiff, Int.reduceToNat, Int.reducePow, Int.reduceLT, Int.reduceEq, Int.reduceNeg, Nat.reducePow, List.reduceReplicate, Int.reduceLE])
      | (with_reducible refine qops.step fun T hT => ?_; simp (disch := omega) only [go_sem, Nat.reduceBEq, Nat.reduceLT, Nat.reduceEqDiff, reduceIte, Nat.reduceAdd, Nat.reduceMul, Nat.reduceSub, Nat.reduceLeDiff, Int.reduceToNat, Int.reducePow, Int.reduceLT, Int.reduceEq, Int.reduceNeg, Nat.reducePow, List.reduceReplicate, Int.reduceLE])
      | (with_reducible refine aops.nil ?_)
      | (with_reducible refine qops.nil ?_)
      | (with_reducible refine hT _ ?_; clear hT T)
      | (refine AWP.skip ?_; try simp only [AExit.then, AExit.inBlock, reduceIte, Nat.reduceEqDiff])
      | (refine AWP.exit ?_; try simp only [AExit.then, AExit.inBlock, reduceIte, Nat.reduceEqDiff])
      | (refine AWP.ret ?_; try simp only [AExit.then, AExit.inBlock, reduceIte, Nat.reduceEqDiff])
      | (refine AWP.cond rfl (fun h => ?_) (fun h => ?_) <;> (try simp only [decide_eq_true_eq, decide_eq_false_iff_not, Bool.true_eq_false, Bool.false_eq_true] at h) <;> (try contradiction))
      | (refine hQ' _ _ ?_; clear hQ' Q'; try simp only [AExit.then, AExit.inBlock, reduceIte, Nat.reduceEqDiff])
      | (refine hQ' _ ?_; clear hQ' Q'; try simp only [AExit.then, AExit.inBlock, reduceIte, Nat.reduceEqDiff])
      | (with_reducible refine Branch.split (fun h => ?_) (fun h => ?_) <;> (try simp only [decide_eq_true_eq, decide_eq_false_iff_not, Bool.not_true, Bool.not_false, Bool.true_eq_false, Bool.false_eq_true] at h) <;> (try contradiction) <;> (simp (disch := omega) only [go_sem, Nat.reduceBEq, Nat.reduceLT, Nat.reduceEqDiff, reduceIte, Nat.reduceAdd, Nat.reduceMul, Nat.reduceSub, Nat.reduceLeDiff, Int.reduceToNat, Int.reducePow, Int.reduceLT, Int.reduceEq, Int.reduceNeg, Nat.reducePow, List.reduceReplicate, Int.reduceLE, h]))
      | (with_reducible intro h; try simp only [h, go_sem, Nat.reduceBEq, Nat.reduceLT, Nat.reduceEqDiff, reduceIte, Nat.reduceAdd, Nat.reduceMul, Nat.reduceSub, Nat.reduceLeDiff, Int.reduceToNat, Int.reducePow, Int.reduceLT, Int.reduceEq, Int.reduceNeg, Nat.reducePow, List.reduceReplicate, Int.reduceLE])
      | ((first | (with_reducible refine acall.det (alive20_spec _) ?_) | (with_reducible refine qcall.det (alive20_spec _) ?_) | (with_reducible refine acall.det (g1 _) ?_) | (with_reducible refine qcall.det (g1 _) ?_)); try simp (disch := omega) only [go_sem, Nat.reduceBEq, Nat.reduceLT, Nat.reduceEqDiff, reduceIte, Nat.reduceAdd, Nat.reduceMul, Nat.reduceSub, Nat.reduceLeDiff, Int.reduceToNat, Int.reducePow, Int.reduceLT, Int.reduceEq, Int.reduceNeg, Nat.reducePow, List.reduceReplicate, Int.reduceLE]))
    simp only [bodyQ, go_sem, Nat.reduceBEq, Nat.reduceLT, Nat.reduceEqDiff, reduceIte, Nat.reduceAdd, Nat.reduceMul, Nat.reduceSub, Nat.reduceLeDiff, Int.reduceToNat, Int.reducePow, Int.reduceLT, Int.reduceEq, Int.reduceNeg, Nat.reducePow, List.reduceReplicate, Int.reduceLE]
    exact Fin.cut (.v _) ⟨rfl, rfl⟩
  | false =>
  rw [hg1] at g1
  cases hg2 : great20 t with
  | true =>
    rw [hg2] at g2
    clear hg1 hg2
    obtain ⟨k, d, l⟩ := s
    obtain ⟨k2, d2, l2⟩ := t
    try dsimp only at g1 g2
    intro base
    refine acall_body Tryd.func8 rfl (fun a w => Tryd.call8 a w) Tryd.ntmps8 Tryd.results8 (by simp) ?_
    intro w β hI
    simp only [number]
    repeat' (first
      | (refine AWP.seq ?_)
      | (refine AWP.block ?_)
      | (refine AWP.region_k fun Q' hQ' => ?_)
      | (refine AWP.draw_k rfl (by kernel_rfl) fun Q' hQ' => ?_)
      | (with_reducible refine aops.step fun T hT => ?_; simp (disch := omega) only [go_sem, Nat.reduceBEq, Nat.reduceLT, Nat.reduceEqDiff, reduceIte, Nat.reduceAdd, Nat.reduceMul, Nat.reduceSub, Nat.reduceLeDiff, Int.reduceToNat, Int.reducePow, Int.reduceLT, Int.reduceEq, Int.reduceNeg, Nat.reducePow, List.reduceReplicate, Int.reduceLE])
      | (with_reducible refine qops.step fun T hT => ?_; simp (disch := omega) only [go_sem, Nat.reduceBEq, Nat.reduceLT, Nat.reduceEqDiff, reduceIte, Nat.reduceAdd, Nat.reduceMul, Nat.reduceSub, Nat.reduceLeDiff, Int.reduceToNat, Int.reducePow, Int.reduceLT, Int.reduceEq, Int.reduceNeg, Nat.reducePow, List.reduceReplicate, Int.reduceLE])
      | (with_reducible refine aops.nil ?_)
      | (with_reducible refine qops.nil ?_)
      | (with_reducible refine hT _ ?_; clear hT T)
      | (refine AWP.skip ?_; try simp only [AExit.then, AExit.inBlock, reduceIte, Nat.reduceEqDiff])
      | (refine AWP.exit ?_; try simp only [AExit.then, AExit.inBlock, reduceIte, Nat.reduceEqDiff])
      | (refine AWP.ret ?_; try simp only [AExit.then, AExit.inBlock, reduceIte, Nat.reduceEqDiff])
      | (refine AWP.cond rfl (fun h => ?_) (fun h => ?_) <;> (try simp only [decide_eq_true_eq, decide_eq_false_iff_not, Bool.true_eq_false, Bool.false_eq_true] at h) <;> (try contradiction))
      | (refine hQ' _ _ ?_; clear hQ' Q'; try simp only [AExit.then, AExit.inBlock, reduceIte, Nat.reduceEqDiff])
      | (refine hQ' _ ?_; clear hQ' Q'; try simp only [AExit.then, AExit.inBlock, reduceIte, Nat.reduceEqDiff])
      | (with_reducible refine Branch.split (fun h => ?_) (fun h => ?_) <;> (try simp only [decide_eq_true_eq, decide_eq_false_iff_not, Bool.not_true, Bool.not_false, Bool.true_eq_false, Bool.false_eq_true] at h) <;> (try contradiction) <;> (simp (disch := omega) only [go_sem, Nat.reduceBEq, Nat.reduceLT, Nat.reduceEqDiff, reduceIte, Nat.reduceAdd, Nat.reduceMul, Nat.reduceSub, Nat.reduceLeDiff, Int.reduceToNat, Int.reducePow, Int.reduceLT, Int.reduceEq, Int.reduceNeg, Nat.reducePow, List.reduceReplicate, Int.reduceLE, h]))
      | (with_reducible intro h; try simp only [h, go_sem, Nat.reduceBEq, Nat.reduceLT, Nat.reduceEqDiff, reduceIte, Nat.reduceAdd, Nat.reduceMul, Nat.reduceSub, Nat.reduceLeDiff, Int.reduceToNat, Int.reducePow, Int.reduceLT, Int.reduceEq, Int.reduceNeg, Nat.reducePow, List.reduceReplicate, Int.reduceLE])
      | ((first | (with_reducible refine acall.det (alive20_spec _) ?_) | (with_reducible refine qcall.det (alive20_spec _) ?_) | (with_reducible refine acall.det (g1 _) ?_) | (with_reducible refine qcall.det (g1 _) ?_) | (with_reducible refine acall.det (g2 _) ?_) | (with_reducible refine qcall.det (g2 _) ?_)); try simp (disch := omega) only [go_sem, Nat.reduceBEq, Nat.reduceLT, Nat.reduceEqDiff, reduceIte, Nat.reduceAdd, Nat.reduceMul, Nat.reduceSub, Nat.reduceLeDiff, Int.reduceToNat, Int.reducePow, Int.reduceLT, Int.reduceEq, Int.reduceNeg, Nat.reducePow, List.reduceReplicate, Int.reduceLE]))
    simp only [bodyQ, go_sem, Nat.reduceBEq, Nat.reduceLT, Nat.reduceEqDiff, reduceIte, Nat.reduceAdd, Nat.reduceMul, Nat.reduceSub, Nat.reduceLeDiff, Int.reduceToNat, Int.reducePow, Int.reduceLT, Int.reduceEq, Int.reduceNeg, Nat.reducePow, List.reduceReplicate, Int.reduceLE]
    exact Fin.cut (.v _) ⟨rfl, rfl⟩
  | false =>
  rw [hg2] at g2
  have e1 := fun H => tkEncode_spec s hs H
  have e2 := fun H => refTkEncode_spec s hs H
  have w1 := fun H => (wrap_spec s hs [119, 101, 115, 116] (by simp) kd H).wrapP
  have w2 := fun H => (refWrap_spec s hs [119, 101, 115, 116] (by simp) kd H).wrapP
  have r1 := fun H => tkRight_spec s hs H
  have r2 := fun H => refTkRight_spec s hs H
  have m1 := fun H => tkSame_spec s t hs ht H
  have m2 := fun H => refTkSame_spec s t hs ht H
  have m3 := fun H => tkSame_spec s s hs hs H
  rw [tkSame_self] at m3
  have hel : (encT s).1.length ≤ 1099511627776 := by
    unfold encT
    split
    · rename_i h; exact Nat.le_trans (tB_le h) (by omega)
    · simp
  have hwl := wrapP_le s [119, 101, 115, 116] kd
  have q1 := fun H => same_spec (encT s).1 (encT s).1 hel hel H
  have q2 := fun H => same_spec (wrapP s [119, 101, 115, 116] kd).1 (wrapP s [119, 101, 115, 116] kd).1 hwl hwl H
  simp only [decide_true] at q1 q2
  unfold beV at e1 e2 w1 w2
  generalize encT s = E at e1 e2 q1
  generalize wrapP s [119, 101, 115, 116] kd = W at w1 w2 q2
  obtain ⟨eb, ee⟩ := E
  obtain ⟨wb, we⟩ := W
  clear hel hwl hg1 hg2
  generalize tkOk s = ok at r1 r2
  generalize tkSame s t = sm at m1 m2
  obtain ⟨k, d, l⟩ := s
  obtain ⟨k2, d2, l2⟩ := t
  try dsimp only at *
  cases ok <;> cases sm
  all_goals
    intro base
    refine acall_body Tryd.func8 rfl (fun a w => Tryd.call8 a w) Tryd.ntmps8 Tryd.results8 (by simp) ?_
    intro w β hI
    simp only [number]
    repeat' (first
      | (refine AWP.seq ?_)
      | (refine AWP.block ?_)
      | (refine AWP.region_k fun Q' hQ' => ?_)
      | (refine AWP.draw_k rfl (by kernel_rfl) fun Q' hQ' => ?_)
      | (with_reducible refine aops.step fun T hT => ?_; simp (disch := omega) only [go_sem, Nat.reduceBEq, Nat.reduceLT, Nat.reduceEqDiff, reduceIte, Nat.reduceAdd, Nat.reduceMul, Nat.reduceSub, Nat.reduceLeDiff, Int.reduceToNat, Int.reducePow, Int.reduceLT, Int.reduceEq, Int.reduceNeg, Nat.reducePow, List.reduceReplicate, Int.reduceLE, eq_self])
      | (with_reducible refine qops.step fun T hT => ?_; simp (disch := omega) only [go_sem, Nat.reduceBEq, Nat.reduceLT, Nat.reduceEqDiff, reduceIte, Nat.reduceAdd, Nat.reduceMul, Nat.reduceSub, Nat.reduceLeDiff, Int.reduceToNat, Int.reducePow, Int.reduceLT, Int.reduceEq, Int.reduceNeg, Nat.reducePow, List.reduceReplicate, Int.reduceLE, eq_self])
      | (with_reducible refine aops.nil ?_)
      | (with_reducible refine qops.nil ?_)
      | (with_reducible refine hT _ ?_; clear hT T)
      | (refine AWP.skip ?_; try simp only [AExit.then, AExit.inBlock, reduceIte, Nat.reduceEqDiff])
      | (refine AWP.exit ?_; try simp only [AExit.then, AExit.inBlock, reduceIte, Nat.reduceEqDiff])
      | (refine AWP.ret ?_; try simp only [AExit.then, AExit.inBlock, reduceIte, Nat.reduceEqDiff])
      | (refine AWP.cond rfl (fun h => ?_) (fun h => ?_) <;> (try simp only [decide_eq_true_eq, decide_eq_false_iff_not, Bool.true_eq_false, Bool.false_eq_true] at h) <;> (try contradiction))
      | (refine hQ' _ _ ?_; clear hQ' Q'; try simp only [AExit.then, AExit.inBlock, reduceIte, Nat.reduceEqDiff])
      | (refine hQ' _ ?_; clear hQ' Q'; try simp only [AExit.then, AExit.inBlock, reduceIte, Nat.reduceEqDiff])
      | (with_reducible refine Branch.split (fun h => ?_) (fun h => ?_) <;> (try simp only [decide_eq_true_eq, decide_eq_false_iff_not, Bool.not_true, Bool.not_false, Bool.true_eq_false, Bool.false_eq_true] at h) <;> (try contradiction) <;> (simp (disch := omega) only [go_sem, Nat.reduceBEq, Nat.reduceLT, Nat.reduceEqDiff, reduceIte, Nat.reduceAdd, Nat.reduceMul, Nat.reduceSub, Nat.reduceLeDiff, Int.reduceToNat, Int.reducePow, Int.reduceLT, Int.reduceEq, Int.reduceNeg, Nat.reducePow, List.reduceReplicate, Int.reduceLE, h, eq_self]))
      | (with_reducible intro h; try simp only [h, go_sem, Nat.reduceBEq, Nat.reduceLT, Nat.reduceEqDiff, reduceIte, Nat.reduceAdd, Nat.reduceMul, Nat.reduceSub, Nat.reduceLeDiff, Int.reduceToNat, Int.reducePow, Int.reduceLT, Int.reduceEq, Int.reduceNeg, Nat.reducePow, List.reduceReplicate, Int.reduceLE, eq_self])
      | ((first | (with_reducible refine acall.det (alive20_spec _) ?_) | (with_reducible refine qcall.det (alive20_spec _) ?_) | (with_reducible refine acall.det (g1 _) ?_) | (with_reducible refine qcall.det (g1 _) ?_) | (with_reducible refine acall.det (g2 _) ?_) | (with_reducible refine qcall.det (g2 _) ?_) | (with_reducible refine acall.det (e1 _) ?_) | (with_reducible refine qcall.det (e1 _) ?_) | (with_reducible refine acall.det (e2 _) ?_) | (with_reducible refine qcall.det (e2 _) ?_) | (with_reducible refine acall.det (w1 _) ?_) | (with_reducible refine qcall.det (w1 _) ?_) | (with_reducible refine acall.det (w2 _) ?_) | (with_reducible refine qcall.det (w2 _) ?_) | (with_reducible refine acall.det (r1 _) ?_) | (with_reducible refine qcall.det (r1 _) ?_) | (with_reducible refine acall.det (r2 _) ?_) | (with_reducible refine qcall.det (r2 _) ?_) | (with_reducible refine acall.det (m1 _) ?_) | (with_reducible refine qcall.det (m1 _) ?_) | (with_reducible refine acall.det (m2 _) ?_) | (with_reducible refine qcall.det (m2 _) ?_) | (with_reducible refine acall.det (m3 _) ?_) | (with_reducible refine qcall.det (m3 _) ?_) | (with_reducible refine acall.det (q1 _) ?_) | (with_reducible refine qcall.det (q1 _) ?_) | (with_reducible refine acall.det (q2 _) ?_) | (with_reducible refine qcall.det (q2 _) ?_)); try simp (disch := omega) only [go_sem, Nat.reduceBEq, Nat.reduceLT, Nat.reduceEqDiff, reduceIte, Nat.reduceAdd, Nat.reduceMul, Nat.reduceSub, Nat.reduceLeDiff, Int.reduceToNat, Int.reducePow, Int.reduceLT, Int.reduceEq, Int.reduceNeg, Nat.reducePow, List.reduceReplicate, Int.reduceLE, eq_self]))
    simp only [bodyQ, go_sem, Nat.reduceBEq, Nat.reduceLT, Nat.reduceEqDiff, reduceIte, Nat.reduceAdd, Nat.reduceMul, Nat.reduceSub, Nat.reduceLeDiff, Int.reduceToNat, Int.reducePow, Int.reduceLT, Int.reduceEq, Int.reduceNeg, Nat.reducePow, List.reduceReplicate, Int.reduceLE]
    exact Fin.cut (.v _) ⟨rfl, rfl⟩

end Go.Proofs.YtjkdahpoalnjjaaDoor.VL
