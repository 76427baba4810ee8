/- Layer 13: the law of torn sectors. -/
import Derived.Test.YtadajfahlgekiaaJrnI
-- STEPWISE
-- TAIL
set_option linter.unusedVariables false
set_option linter.unusedSimpArgs false
set_option maxRecDepth 10000
namespace Go.Proofs.Ytadajfahlgekiaa.VL
open Go Go.RowKit Go.Lib

theorem jfind_unmarked {p : List UInt8} (h : p[63]? = some (UInt8.ofNat 0)) : jfind p = (R0, 10) := by
  apply jfind_bad
  intro h0
  obtain ⟨h1, h2⟩ := jfind_ok h0
  have := recB_last h1
  rw [h2, h] at this
  exact absurd this (by decide)

set_option maxHeartbeats 4000000 in
theorem jtorn_spec (x : Rc) (at_ to : Int) (ha0 : 0 ≤ at_) (ha1 : at_ ≤ 255) (ht0 : 0 ≤ to) (ht1 : to ≤ 255) (hn : x.n.length ≤ 9223372036854775807) (H : List Box) : ASpec Try.prog 7 [rcV x, .v (.int .u8 at_), .v (.int .u8 to)] H (Gives (vb true) H) := by
  have hz := zerosB_length 64
  by_cases hm : jmay x = true
  rotate_left
  · rw [Bool.not_eq_true] at hm
    have hzt : (zerosB 64).take 64 = zerosB 64 := List.take_of_length_le (by omega)
    have l1 := lay_no x hm hn
    obtain ⟨q, g, n⟩ := x
    dsimp only at *
    intro base
    refine acall_body Try.func7 rfl (fun a w => Try.call7 a w) Try.ntmps7 Try.results7 (by simp) ?_
    intro w β hI
    simp only [number]
    repeat' (first
      | (refine AWP.seq ?_)
      | (refine AWP.block ?_)
      | (refine AWP.region_k fun Q' hQ' => ?_)
      | (refine AWP.drawT_k rfl (by decide +kernel) fun Q' hQ' => ?_; simp only [List.length_cons, List.length_nil, Nat.reduceAdd, Nat.reduceSub, List.take_succ_cons, List.take_zero, List.drop_succ_cons, List.drop_zero])
      | (refine AWP.draw_k rfl (by kernel_rfl) fun Q' hQ' => ?_)
      | (with_reducible refine aops.step fun T hT => ?_; simp (disch := omega) only [go_sem, Nat.reduceBEq, Nat.reduceLT, Nat.reduceEqDiff, reduceIte, Nat.reduceAdd, Nat.reduceMul, Nat.reduceSub, Nat.reduceLeDiff, Int.reduceToNat, Int.reducePow, Int.reduceLT, Int.reduceEq, Int.reduceNeg, Nat.reducePow, List.reduceReplicate, Int.reduceLE, hz, hzt, eq_self])
      | (with_reducible refine qops.step fun T hT => ?_; simp (disch := omega) only [go_sem, Nat.reduceBEq, Nat.reduceLT, Nat.reduceEqDiff, reduceIte, Nat.reduceAdd, Nat.reduceMul, Nat.reduceSub, Nat.reduceLeDiff, Int.reduceToNat, Int.reducePow, Int.reduceLT, Int.reduceEq, Int.reduceNeg, Nat.reducePow, List.reduceReplicate, Int.reduceLE, hz, hzt, eq_self])
      | (with_reducible refine aops.nil ?_)
      | (with_reducible refine qops.nil ?_)
      | (with_reducible refine hT _ ?_; clear hT T)
      | (refine AWP.skip ?_; try simp only [AExit.then, AExit.inBlock, reduceIte, Nat.reduceEqDiff])
      | (refine AWP.exit ?_; try simp only [AExit.then, AExit.inBlock, reduceIte, Nat.reduceEqDiff])
      | (refine AWP.ret ?_; try simp only [AExit.then, AExit.inBlock, reduceIte, Nat.reduceEqDiff])
      | (refine AWP.cond rfl (fun h => ?_) (fun h => ?_) <;> (try simp only [decide_eq_true_eq, decide_eq_false_iff_not, Bool.true_eq_false, Bool.false_eq_true] at h) <;> (try contradiction))
      | (refine hQ' _ _ ?_; clear hQ' Q'; try simp only [AExit.then, AExit.inBlock, reduceIte, Nat.reduceEqDiff])
      | (refine hQ' _ ?_; clear hQ' Q'; try simp only [AExit.then, AExit.inBlock, reduceIte, Nat.reduceEqDiff])
      | (with_reducible refine Branch.split (fun h => ?_) (fun h => ?_) <;> (try simp only [decide_eq_true_eq, decide_eq_false_iff_not, Bool.not_true, Bool.not_false, Bool.true_eq_false, Bool.false_eq_true] at h) <;> (try contradiction) <;> (simp (disch := omega) only [go_sem, Nat.reduceBEq, Nat.reduceLT, Nat.reduceEqDiff, reduceIte, Nat.reduceAdd, Nat.reduceMul, Nat.reduceSub, Nat.reduceLeDiff, Int.reduceToNat, Int.reducePow, Int.reduceLT, Int.reduceEq, Int.reduceNeg, Nat.reducePow, List.reduceReplicate, Int.reduceLE, h, hz, hzt, eq_self]))
      | (with_reducible intro h; try simp only [h, go_sem, Nat.reduceBEq, Nat.reduceLT, Nat.reduceEqDiff, reduceIte, Nat.reduceAdd, Nat.reduceMul, Nat.reduceSub, Nat.reduceLeDiff, Int.reduceToNat, Int.reducePow, Int.reduceLT, Int.reduceEq, Int.reduceNeg, Nat.reducePow, List.reduceReplicate, Int.reduceLE, hz, hzt, eq_self])
      | ((first | (with_reducible refine acall.det (aliveJ_spec _) ?_) | (with_reducible refine qcall.det (aliveJ_spec _) ?_) | (with_reducible refine acall.det (l1 _) ?_) | (with_reducible refine qcall.det (l1 _) ?_)); try simp (disch := omega) only [go_sem, Nat.reduceBEq, Nat.reduceLT, Nat.reduceEqDiff, reduceIte, Nat.reduceAdd, Nat.reduceMul, Nat.reduceSub, Nat.reduceLeDiff, Int.reduceToNat, Int.reducePow, Int.reduceLT, Int.reduceEq, Int.reduceNeg, Nat.reducePow, List.reduceReplicate, Int.reduceLE, hz, hzt, eq_self]))
    simp only [bodyQ, go_sem, Nat.reduceBEq, Nat.reduceLT, Nat.reduceEqDiff, reduceIte, Nat.reduceAdd, Nat.reduceMul, Nat.reduceSub, Nat.reduceLeDiff, Int.reduceToNat, Int.reducePow, Int.reduceLT, Int.reduceEq, Int.reduceNeg, Nat.reducePow, List.reduceReplicate, Int.reduceLE]
    exact Fin.cut (.v _) ⟨rfl, rfl⟩
  have hs := jmay_spec hm
  have l1 := lay_ok x hm
  have hb := recB_length hm
  have hbt : (recB x).take 64 = recB x := List.take_of_length_le (by omega)
  have h30 : ¬ (30 : Int) < (x.n.length : Int) := by omega
  obtain ⟨k, hk⟩ : ∃ k : Nat, at_ % 64 = (k : Int) := ⟨(at_ % 64).toNat, by omega⟩
  have hk64 : k < 64 := by omega
  have f3 := find_recB x hm
  have hself : ∀ y : Rc, jmay y = true → recB y = (recB x).set k (UInt8.ofNat to.toNat) → y = x → (recB x)[k]? = some (UInt8.ofNat to.toNat) := fun y _ h1 h2 => by
    subst h2
    have := congrArg (fun l : List UInt8 => l[k]?) h1
    simp only [List.getElem?_set_self (show k < (recB y).length by omega)] at this
    exact this
  generalize recB x = b at l1 hb hbt f3 hself
  have hg : b[k]? = some b[k] := List.getElem?_eq_getElem (by omega)
  generalize b[k] = c at hg
  have hgc : (bytesC b)[k]? = some (.v (.int .u8 c.toNat)) := by rw [bytesC_getv, hg]; rfl
  have h256 := c.toNat_lt
  have htl : (b.set k (UInt8.ofNat to.toNat)).length = 64 := by rw [List.length_set, hb]
  have htt : (b.set k (UInt8.ofNat to.toNat)).take 64 = b.set k (UInt8.ofNat to.toNat) := List.take_of_length_le (by omega)
  have ft := find_spec (b.set k (UInt8.ofNat to.toNat)) htl
  have hto := jfind_ok (b := b.set k (UInt8.ofNat to.toNat))
  have hsame : to = (c.toNat : Int) → b.set k (UInt8.ofNat to.toNat) = b := fun h => by
    rw [h, Int.toNat_natCast]
    have e : UInt8.ofNat c.toNat = c := by simp
    rw [e]
    apply List.ext_getElem?
    intro j
    by_cases hj : j = k
    · subst hj; rw [List.getElem?_set_self (by omega), hg]
    · rw [List.getElem?_set_ne (Ne.symm hj)]
  obtain ⟨q, g, n⟩ := x
  dsimp only at *
  generalize ht : b.set k (UInt8.ofNat to.toNat) = t at *
  have hmain : ∀ (p : List UInt8), p.length = 64 → p[63]? = some (UInt8.ofNat 0) → ∀ H, ASpec Try.prog 11 [.agg (bytesC p)] H (Gives (.tup [.agg [vi 0, vi 0, vs []], vi 10]) H) := fun p h1 h2 H => by
    have := find_spec p h1 H
    rw [jfind_unmarked h2] at this
    exact this
  intro base
  refine acall_body Try.func7 rfl (fun a w => Try.call7 a w) Try.ntmps7 Try.results7 (by simp) ?_
  intro w β hI
  simp only [number]
  repeat' (first
    | (refine AWP.seq ?_)
    | (refine AWP.block ?_)
    | (refine AWP.region_k fun Q' hQ' => ?_)
    | (refine AWP.drawT_k rfl (by decide +kernel) fun Q' hQ' => ?_; simp only [List.length_cons, List.length_nil, Nat.reduceAdd, Nat.reduceSub, List.take_succ_cons, List.take_zero, List.drop_succ_cons, List.drop_zero])
    | (refine AWP.draw_k rfl (by kernel_rfl) fun Q' hQ' => ?_)
    | (with_reducible refine aops.step fun T hT => ?_; simp (disch := omega) only [go_sem, Nat.reduceBEq, Nat.reduceLT, Nat.reduceEqDiff, reduceIte, Nat.reduceAdd, Nat.reduceMul, Nat.reduceSub, Nat.reduceLeDiff, Int.reduceToNat, Int.reducePow, Int.reduceLT, Int.reduceEq, Int.reduceNeg, Nat.reducePow, List.reduceReplicate, Int.reduceLE, hz, hb, hbt, h30, hk, eq_self])
    | (with_reducible refine qops.step fun T hT => ?_; simp (disch := omega) only [go_sem, Nat.reduceBEq, Nat.reduceLT, Nat.reduceEqDiff, reduceIte, Nat.reduceAdd, Nat.reduceMul, Nat.reduceSub, Nat.reduceLeDiff, Int.reduceToNat, Int.reducePow, Int.reduceLT, Int.reduceEq, Int.reduceNeg, Nat.reducePow, List.reduceReplicate, Int.reduceLE, hz, hb, hbt, h30, hk, eq_self])
    | (with_reducible refine aops.nil ?_)
    | (with_reducible refine qops.nil ?_)
    | (with_reducible refine hT _ ?_; clear hT T)
    | (refine AWP.skip ?_; try simp only [AExit.then, AExit.inBlock, reduceIte, Nat.reduceEqDiff])
    | (refine AWP.exit ?_; try simp only [AExit.then, AExit.inBlock, reduceIte, Nat.reduceEqDiff])
    | (refine AWP.ret ?_; try simp only [AExit.then, AExit.inBlock, reduceIte, Nat.reduceEqDiff])
    | (refine AWP.cond rfl (fun h => ?_) (fun h => ?_) <;> (try simp only [decide_eq_true_eq, decide_eq_false_iff_not, Bool.true_eq_false, Bool.false_eq_true] at h) <;> (try contradiction))
    | (refine hQ' _ _ ?_; clear hQ' Q'; try simp only [AExit.then, AExit.inBlock, reduceIte, Nat.reduceEqDiff])
    | (refine hQ' _ ?_; clear hQ' Q'; try simp only [AExit.then, AExit.inBlock, reduceIte, Nat.reduceEqDiff])
    | (with_reducible refine Branch.split (fun h => ?_) (fun h => ?_) <;> (try simp only [decide_eq_true_eq, decide_eq_false_iff_not, Bool.not_true, Bool.not_false, Bool.true_eq_false, Bool.false_eq_true] at h) <;> (try contradiction) <;> (simp (disch := omega) only [go_sem, Nat.reduceBEq, Nat.reduceLT, Nat.reduceEqDiff, reduceIte, Nat.reduceAdd, Nat.reduceMul, Nat.reduceSub, Nat.reduceLeDiff, Int.reduceToNat, Int.reducePow, Int.reduceLT, Int.reduceEq, Int.reduceNeg, Nat.reducePow, List.reduceReplicate, Int.reduceLE, h, hz, hb, hbt, h30, hk, eq_self]))
    | (with_reducible intro h; try simp only [h, go_sem, Nat.reduceBEq, Nat.reduceLT, Nat.reduceEqDiff, reduceIte, Nat.reduceAdd, Nat.reduceMul, Nat.reduceSub, Nat.reduceLeDiff, Int.reduceToNat, Int.reducePow, Int.reduceLT, Int.reduceEq, Int.reduceNeg, Nat.reducePow, List.reduceReplicate, Int.reduceLE, hz, hb, hbt, h30, hk, eq_self])
    | ((first | (with_reducible refine acall.det (aliveJ_spec _) ?_) | (with_reducible refine qcall.det (aliveJ_spec _) ?_) | (with_reducible refine acall.det (l1 _) ?_) | (with_reducible refine qcall.det (l1 _) ?_)); try simp (disch := omega) only [go_sem, Nat.reduceBEq, Nat.reduceLT, Nat.reduceEqDiff, reduceIte, Nat.reduceAdd, Nat.reduceMul, Nat.reduceSub, Nat.reduceLeDiff, Int.reduceToNat, Int.reducePow, Int.reduceLT, Int.reduceEq, Int.reduceNeg, Nat.reducePow, List.reduceReplicate, Int.reduceLE, hz, hb, hbt, h30, hk, eq_self]))
  refine AWP.loop (ι := {y : Nat × List UInt8 // k ≤ y.1 ∧ y.1 ≤ 64 ∧ y.2.length = 64 ∧ (y.1 = 64 → y.2[63]? = some (UInt8.ofNat 0))})
    (fun y => ⟨[(2, .v (.int .u8 to)), (3, .ptr H.length 0 0), (7, .ptr (H.length + 1) 0 0), (9, vi k), (10, .ptr (H.length + 2) 0 0), (11, vi y.1.1)], H ++ [⟨[vi q, vi g, vs n], 0, 0, false⟩, ⟨bytesC b, 0, 0, false⟩, ⟨bytesC y.1.2, 0, 0, false⟩]⟩) (fun y => 64 - y.1.1) ⟨(k, b), Nat.le_refl _, by dsimp only; omega, hb, fun h => by dsimp only at h; omega⟩ ?_ ?_
  · dsimp only
    refine Coe.keep ?_; simp (disch := omega) only [Keeps, List.mem_cons, List.not_mem_nil, or_false, forall_eq_or_imp, forall_eq, List.length_append, Int.natCast_add, Int.natCast_one, Int.add_sub_cancel, Int.reduceSub, Int.reduceAdd, go_sem, Nat.reduceBEq, Nat.reduceLT, Nat.reduceEqDiff, reduceIte, Nat.reduceAdd, Nat.reduceMul, Nat.reduceSub, Nat.reduceLeDiff, Int.reduceToNat, Int.reducePow, Int.reduceLT, Int.reduceEq, Int.reduceNeg, Nat.reducePow, List.reduceReplicate, Int.reduceLE]
  · rintro ⟨⟨i, p⟩, hki, hi, hpl, hpe⟩
    dsimp only at hki hi hpl hpe ⊢
    by_cases hc : (i : Int) < 64
    · repeat' (first
        | (refine AWP.seq ?_)
        | (refine AWP.block ?_)
        | (refine AWP.region_k fun Q' hQ' => ?_)
        | (refine AWP.drawT_k rfl (by decide +kernel) fun Q' hQ' => ?_; simp only [List.length_cons, List.length_nil, Nat.reduceAdd, Nat.reduceSub, List.take_succ_cons, List.take_zero, List.drop_succ_cons, List.drop_zero])
        | (refine AWP.draw_k rfl (by kernel_rfl) fun Q' hQ' => ?_)
        | (with_reducible refine aops.step fun T hT => ?_; simp (disch := omega) only [go_sem, Nat.reduceBEq, Nat.reduceLT, Nat.reduceEqDiff, reduceIte, Nat.reduceAdd, Nat.reduceMul, Nat.reduceSub, Nat.reduceLeDiff, Int.reduceToNat, Int.reducePow, Int.reduceLT, Int.reduceEq, Int.reduceNeg, Nat.reducePow, List.reduceReplicate, Int.reduceLE, hz, hc, hpl])
        | (with_reducible refine qops.step fun T hT => ?_; simp (disch := omega) only [go_sem, Nat.reduceBEq, Nat.reduceLT, Nat.reduceEqDiff, reduceIte, Nat.reduceAdd, Nat.reduceMul, Nat.reduceSub, Nat.reduceLeDiff, Int.reduceToNat, Int.reducePow, Int.reduceLT, Int.reduceEq, Int.reduceNeg, Nat.reducePow, List.reduceReplicate, Int.reduceLE, hz, hc, hpl])
        | (with_reducible refine aops.nil ?_)
        | (with_reducible refine qops.nil ?_)
        | (with_reducible refine hT _ ?_; clear hT T)
        | (refine AWP.skip ?_; try simp only [AExit.then, AExit.inBlock, reduceIte, Nat.reduceEqDiff])
        | (refine AWP.exit ?_; try simp only [AExit.then, AExit.inBlock, reduceIte, Nat.reduceEqDiff])
        | (refine AWP.ret ?_; try simp only [AExit.then, AExit.inBlock, reduceIte, Nat.reduceEqDiff])
        | (refine AWP.cond rfl (fun h => ?_) (fun h => ?_) <;> (try simp only [decide_eq_true_eq, decide_eq_false_iff_not, Bool.true_eq_false, Bool.false_eq_true] at h) <;> (try contradiction))
        | (refine hQ' _ _ ?_; clear hQ' Q'; try simp only [AExit.then, AExit.inBlock, reduceIte, Nat.reduceEqDiff])
        | (refine hQ' _ ?_; clear hQ' Q'; try simp only [AExit.then, AExit.inBlock, reduceIte, Nat.reduceEqDiff])
        | (with_reducible refine Branch.split (fun h => ?_) (fun h => ?_) <;> (try simp only [decide_eq_true_eq, decide_eq_false_iff_not, Bool.not_true, Bool.not_false, Bool.true_eq_false, Bool.false_eq_true] at h) <;> (try contradiction) <;> (simp (disch := omega) only [go_sem, Nat.reduceBEq, Nat.reduceLT, Nat.reduceEqDiff, reduceIte, Nat.reduceAdd, Nat.reduceMul, Nat.reduceSub, Nat.reduceLeDiff, Int.reduceToNat, Int.reducePow, Int.reduceLT, Int.reduceEq, Int.reduceNeg, Nat.reducePow, List.reduceReplicate, Int.reduceLE, h, hz, hc, hpl]))
        | (with_reducible intro h; try simp only [h, go_sem, Nat.reduceBEq, Nat.reduceLT, Nat.reduceEqDiff, reduceIte, Nat.reduceAdd, Nat.reduceMul, Nat.reduceSub, Nat.reduceLeDiff, Int.reduceToNat, Int.reducePow, Int.reduceLT, Int.reduceEq, Int.reduceNeg, Nat.reducePow, List.reduceReplicate, Int.reduceLE, hz, hc, hpl]))
      refine ⟨⟨(i + 1, p.set i (UInt8.ofNat 0)), ?_, ?_, ?_, ?_⟩, ?_, ?_⟩ <;> dsimp only
      · omega
      · omega
      · rw [List.length_set]; exact hpl
      · intro h
        have : i = 63 := by omega
        subst this
        rw [List.getElem?_set_self (by omega)]
      · refine Coe.keep ?_; simp (disch := omega) only [Keeps, List.mem_cons, List.not_mem_nil, or_false, forall_eq_or_imp, forall_eq, List.length_append, Int.natCast_add, Int.natCast_one, Int.add_sub_cancel, Int.reduceSub, Int.reduceAdd, go_sem, Nat.reduceBEq, Nat.reduceLT, Nat.reduceEqDiff, reduceIte, Nat.reduceAdd, Nat.reduceMul, Nat.reduceSub, Nat.reduceLeDiff, Int.reduceToNat, Int.reducePow, Int.reduceLT, Int.reduceEq, Int.reduceNeg, Nat.reducePow, List.reduceReplicate, Int.reduceLE]
      · omega
    · have hi64 : i = 64 := by omega
      subst hi64
      have hpt : p.take 64 = p := List.take_of_length_le (by omega)
      have fp := hmain p hpl (hpe rfl)
      by_cases heq : to = (c.toNat : Int)
      · have heq' := eq_true heq
        have htb := hsame heq
        subst htb
        repeat' (first
          | (refine AWP.seq ?_)
          | (refine AWP.block ?_)
          | (refine AWP.region_k fun Q' hQ' => ?_)
          | (refine AWP.drawT_k rfl (by decide +kernel) fun Q' hQ' => ?_; simp only [List.length_cons, List.length_nil, Nat.reduceAdd, Nat.reduceSub, List.take_succ_cons, List.take_zero, List.drop_succ_cons, List.drop_zero])
          | (refine AWP.draw_k rfl (by kernel_rfl) fun Q' hQ' => ?_)
          | (with_reducible refine aops.step fun T hT => ?_; simp (disch := omega) only [go_sem, Nat.reduceBEq, Nat.reduceLT, Nat.reduceEqDiff, reduceIte, Nat.reduceAdd, Nat.reduceMul, Nat.reduceSub, Nat.reduceLeDiff, Int.reduceToNat, Int.reducePow, Int.reduceLT, Int.reduceEq, Int.reduceNeg, Nat.reducePow, List.reduceReplicate, Int.reduceLE, hz, hc, hpl, hpt, hb, hbt, hgc, ht, heq', eq_self])
          | (with_reducible refine qops.step fun T hT => ?_; simp (disch := omega) only [go_sem, Nat.reduceBEq, Nat.reduceLT, Nat.reduceEqDiff, reduceIte, Nat.reduceAdd, Nat.reduceMul, Nat.reduceSub, Nat.reduceLeDiff, Int.reduceToNat, Int.reducePow, Int.reduceLT, Int.reduceEq, Int.reduceNeg, Nat.reducePow, List.reduceReplicate, Int.reduceLE, hz, hc, hpl, hpt, hb, hbt, hgc, ht, heq', eq_self])
          | (with_reducible refine aops.nil ?_)
          | (with_reducible refine qops.nil ?_)
          | (with_reducible refine hT _ ?_; clear hT T)
          | (refine AWP.skip ?_; try simp only [AExit.then, AExit.inBlock, reduceIte, Nat.reduceEqDiff])
          | (refine AWP.exit ?_; try simp only [AExit.then, AExit.inBlock, reduceIte, Nat.reduceEqDiff])
          | (refine AWP.ret ?_; try simp only [AExit.then, AExit.inBlock, reduceIte, Nat.reduceEqDiff])
          | (refine AWP.cond rfl (fun h => ?_) (fun h => ?_) <;> (try simp only [decide_eq_true_eq, decide_eq_false_iff_not, Bool.true_eq_false, Bool.false_eq_true] at h) <;> (try contradiction))
          | (refine hQ' _ _ ?_; clear hQ' Q'; try simp only [AExit.then, AExit.inBlock, reduceIte, Nat.reduceEqDiff])
          | (refine hQ' _ ?_; clear hQ' Q'; try simp only [AExit.then, AExit.inBlock, reduceIte, Nat.reduceEqDiff])
          | (with_reducible refine Branch.split (fun h => ?_) (fun h => ?_) <;> (try simp only [decide_eq_true_eq, decide_eq_false_iff_not, Bool.not_true, Bool.not_false, Bool.true_eq_false, Bool.false_eq_true] at h) <;> (try contradiction) <;> (simp (disch := omega) only [go_sem, Nat.reduceBEq, Nat.reduceLT, Nat.reduceEqDiff, reduceIte, Nat.reduceAdd, Nat.reduceMul, Nat.reduceSub, Nat.reduceLeDiff, Int.reduceToNat, Int.reducePow, Int.reduceLT, Int.reduceEq, Int.reduceNeg, Nat.reducePow, List.reduceReplicate, Int.reduceLE, h, hz, hc, hpl, hpt, hb, hbt, hgc, ht, heq', eq_self]))
          | (with_reducible intro h; try simp only [h, go_sem, Nat.reduceBEq, Nat.reduceLT, Nat.reduceEqDiff, reduceIte, Nat.reduceAdd, Nat.reduceMul, Nat.reduceSub, Nat.reduceLeDiff, Int.reduceToNat, Int.reducePow, Int.reduceLT, Int.reduceEq, Int.reduceNeg, Nat.reducePow, List.reduceReplicate, Int.reduceLE, hz, hc, hpl, hpt, hb, hbt, hgc, ht, heq', eq_self])
          | ((first | (with_reducible refine acall.det (fp _) ?_) | (with_reducible refine qcall.det (fp _) ?_) | (with_reducible refine acall.det (f3 _) ?_) | (with_reducible refine qcall.det (f3 _) ?_)); try simp (disch := omega) only [go_sem, Nat.reduceBEq, Nat.reduceLT, Nat.reduceEqDiff, reduceIte, Nat.reduceAdd, Nat.reduceMul, Nat.reduceSub, Nat.reduceLeDiff, Int.reduceToNat, Int.reducePow, Int.reduceLT, Int.reduceEq, Int.reduceNeg, Nat.reducePow, List.reduceReplicate, Int.reduceLE, hz, hc, hpl, hpt, hb, hbt, hgc, ht, heq', eq_self]))
        simp only [bodyQ, go_sem, Nat.reduceBEq, Nat.reduceLT, Nat.reduceEqDiff, reduceIte, Nat.reduceAdd, Nat.reduceMul, Nat.reduceSub, Nat.reduceLeDiff, Int.reduceToNat, Int.reducePow, Int.reduceLT, Int.reduceEq, Int.reduceNeg, Nat.reducePow, List.reduceReplicate, Int.reduceLE]
        exact Fin.cut (.v _) ⟨rfl, rfl⟩
      · generalize jfind t = y at ft hto
        obtain ⟨⟨q', g', n'⟩, e⟩ := y
        dsimp only at hto
        have ft : ∀ H, ASpec Try.prog 11 [.agg (bytesC t)] H (Gives (.tup [.agg [vi q', vi g', vs n'], vi e]) H) := ft
        by_cases he : e = 0
        · have hne : ¬ (q' = q ∧ g' = g ∧ n' = n) := fun hh => by
            obtain ⟨m1, m2⟩ := hto he
            obtain ⟨rfl, rfl, rfl⟩ := hh
            have := hself _ m1 m2 rfl
            rw [hg] at this
            injection this with this
            apply heq
            rw [this, UInt8.toNat_ofNat']
            omega
          repeat' (first
            | (refine AWP.seq ?_)
            | (refine AWP.block ?_)
            | (refine AWP.region_k fun Q' hQ' => ?_)
            | (refine AWP.drawT_k rfl (by decide +kernel) fun Q' hQ' => ?_; simp only [List.length_cons, List.length_nil, Nat.reduceAdd, Nat.reduceSub, List.take_succ_cons, List.take_zero, List.drop_succ_cons, List.drop_zero])
            | (refine AWP.draw_k rfl (by kernel_rfl) fun Q' hQ' => ?_)
            | (with_reducible refine aops.step fun T hT => ?_; simp (disch := omega) only [go_sem, Nat.reduceBEq, Nat.reduceLT, Nat.reduceEqDiff, reduceIte, Nat.reduceAdd, Nat.reduceMul, Nat.reduceSub, Nat.reduceLeDiff, Int.reduceToNat, Int.reducePow, Int.reduceLT, Int.reduceEq, Int.reduceNeg, Nat.reducePow, List.reduceReplicate, Int.reduceLE, hz, hc, hpl, hpt, hb, hbt, hgc, htl, htt, ht, heq, he, eq_self])
            | (with_reducible refine qops.step fun T hT => ?_; simp (disch := omega) only [go_sem, Nat.reduceBEq, Nat.reduceLT, Nat.reduceEqDiff, reduceIte, Nat.reduceAdd, Nat.reduceMul, Nat.reduceSub, Nat.reduceLeDiff, Int.reduceToNat, Int.reducePow, Int.reduceLT, Int.reduceEq, Int.reduceNeg, Nat.reducePow, List.reduceReplicate, Int.reduceLE, hz, hc, hpl, hpt, hb, hbt, hgc, htl, htt, ht, heq, he, eq_self])
            | (with_reducible refine aops.nil ?_)
            | (with_reducible refine qops.nil ?_)
            | (with_reducible refine hT _ ?_; clear hT T)
            | (refine AWP.skip ?_; try simp only [AExit.then, AExit.inBlock, reduceIte, Nat.reduceEqDiff])
            | (refine AWP.exit ?_; try simp only [AExit.then, AExit.inBlock, reduceIte, Nat.reduceEqDiff])
            | (refine AWP.ret ?_; try simp only [AExit.then, AExit.inBlock, reduceIte, Nat.reduceEqDiff])
            | (refine AWP.cond rfl (fun h => ?_) (fun h => ?_) <;> (try simp only [decide_eq_true_eq, decide_eq_false_iff_not, Bool.true_eq_false, Bool.false_eq_true] at h) <;> (try contradiction))
            | (refine hQ' _ _ ?_; clear hQ' Q'; try simp only [AExit.then, AExit.inBlock, reduceIte, Nat.reduceEqDiff])
            | (refine hQ' _ ?_; clear hQ' Q'; try simp only [AExit.then, AExit.inBlock, reduceIte, Nat.reduceEqDiff])
            | (with_reducible refine Branch.split (fun h => ?_) (fun h => ?_) <;> (try simp only [decide_eq_true_eq, decide_eq_false_iff_not, Bool.not_true, Bool.not_false, Bool.true_eq_false, Bool.false_eq_true] at h) <;> (try contradiction) <;> (simp (disch := omega) only [go_sem, Nat.reduceBEq, Nat.reduceLT, Nat.reduceEqDiff, reduceIte, Nat.reduceAdd, Nat.reduceMul, Nat.reduceSub, Nat.reduceLeDiff, Int.reduceToNat, Int.reducePow, Int.reduceLT, Int.reduceEq, Int.reduceNeg, Nat.reducePow, List.reduceReplicate, Int.reduceLE, h, hz, hc, hpl, hpt, hb, hbt, hgc, htl, htt, ht, heq, he, eq_self]))
            | (with_reducible intro h; try simp only [h, go_sem, Nat.reduceBEq, Nat.reduceLT, Nat.reduceEqDiff, reduceIte, Nat.reduceAdd, Nat.reduceMul, Nat.reduceSub, Nat.reduceLeDiff, Int.reduceToNat, Int.reducePow, Int.reduceLT, Int.reduceEq, Int.reduceNeg, Nat.reducePow, List.reduceReplicate, Int.reduceLE, hz, hc, hpl, hpt, hb, hbt, hgc, htl, htt, ht, heq, he, eq_self])
            | ((first | (with_reducible refine acall.det (fp _) ?_) | (with_reducible refine qcall.det (fp _) ?_) | (with_reducible refine acall.det (ft _) ?_) | (with_reducible refine qcall.det (ft _) ?_)); try simp (disch := omega) only [go_sem, Nat.reduceBEq, Nat.reduceLT, Nat.reduceEqDiff, reduceIte, Nat.reduceAdd, Nat.reduceMul, Nat.reduceSub, Nat.reduceLeDiff, Int.reduceToNat, Int.reducePow, Int.reduceLT, Int.reduceEq, Int.reduceNeg, Nat.reducePow, List.reduceReplicate, Int.reduceLE, hz, hc, hpl, hpt, hb, hbt, hgc, htl, htt, ht, heq, he, eq_self]))
          simp only [bodyQ, go_sem, Nat.reduceBEq, Nat.reduceLT, Nat.reduceEqDiff, reduceIte, Nat.reduceAdd, Nat.reduceMul, Nat.reduceSub, Nat.reduceLeDiff, Int.reduceToNat, Int.reducePow, Int.reduceLT, Int.reduceEq, Int.reduceNeg, Nat.reducePow, List.reduceReplicate, Int.reduceLE]
          refine Fin.cut (.v _) ⟨congrArg (fun b => Out.ret (vb b)) ?_, rfl⟩
          by_cases e1 : q' = q <;> by_cases e2 : g' = g <;> by_cases e3 : n' = n <;> simp_all
        · repeat' (first
            | (refine AWP.seq ?_)
            | (refine AWP.block ?_)
            | (refine AWP.region_k fun Q' hQ' => ?_)
            | (refine AWP.drawT_k rfl (by decide +kernel) fun Q' hQ' => ?_; simp only [List.length_cons, List.length_nil, Nat.reduceAdd, Nat.reduceSub, List.take_succ_cons, List.take_zero, List.drop_succ_cons, List.drop_zero])
            | (refine AWP.draw_k rfl (by kernel_rfl) fun Q' hQ' => ?_)
            | (with_reducible refine aops.step fun T hT => ?_; simp (disch := omega) only [go_sem, Nat.reduceBEq, Nat.reduceLT, Nat.reduceEqDiff, reduceIte, Nat.reduceAdd, Nat.reduceMul, Nat.reduceSub, Nat.reduceLeDiff, Int.reduceToNat, Int.reducePow, Int.reduceLT, Int.reduceEq, Int.reduceNeg, Nat.reducePow, List.reduceReplicate, Int.reduceLE, hz, hc, hpl, hpt, hb, hbt, hgc, htl, htt, ht, heq, he, eq_self])
            | (with_reducible refine qops.step fun T hT => ?_; simp (disch := omega) only [go_sem, Nat.reduceBEq, Nat.reduceLT, Nat.reduceEqDiff, reduceIte, Nat.reduceAdd, Nat.reduceMul, Nat.reduceSub, Nat.reduceLeDiff, Int.reduceToNat, Int.reducePow, Int.reduceLT, Int.reduceEq, Int.reduceNeg, Nat.reducePow, List.reduceReplicate, Int.reduceLE, hz, hc, hpl, hpt, hb, hbt, hgc, htl, htt, ht, heq, he, eq_self])
            | (with_reducible refine aops.nil ?_)
            | (with_reducible refine qops.nil ?_)
            | (with_reducible refine hT _ ?_; clear hT T)
            | (refine AWP.skip ?_; try simp only [AExit.then, AExit.inBlock, reduceIte, Nat.reduceEqDiff])
            | (refine AWP.exit ?_; try simp only [AExit.then, AExit.inBlock, reduceIte, Nat.reduceEqDiff])
            | (refine AWP.ret ?_; try simp only [AExit.then, AExit.inBlock, reduceIte, Nat.reduceEqDiff])
            | (refine AWP.cond rfl (fun h => ?_) (fun h => ?_) <;> (try simp only [decide_eq_true_eq, decide_eq_false_iff_not, Bool.true_eq_false, Bool.false_eq_true] at h) <;> (try contradiction))
            | (refine hQ' _ _ ?_; clear hQ' Q'; try simp only [AExit.then, AExit.inBlock, reduceIte, Nat.reduceEqDiff])
            | (refine hQ' _ ?_; clear hQ' Q'; try simp only [AExit.then, AExit.inBlock, reduceIte, Nat.reduceEqDiff])
            | (with_reducible refine Branch.split (fun h => ?_) (fun h => ?_) <;> (try simp only [decide_eq_true_eq, decide_eq_false_iff_not, Bool.not_true, Bool.not_false, Bool.true_eq_false, Bool.false_eq_true] at h) <;> (try contradiction) <;> (simp (disch := omega) only [go_sem, Nat.reduceBEq, Nat.reduceLT, Nat.reduceEqDiff, reduceIte, Nat.reduceAdd, Nat.reduceMul, Nat.reduceSub, Nat.reduceLeDiff, Int.reduceToNat, Int.reducePow, Int.reduceLT, Int.reduceEq, Int.reduceNeg, Nat.reducePow, List.reduceReplicate, Int.reduceLE, h, hz, hc, hpl, hpt, hb, hbt, hgc, htl, htt, ht, heq, he, eq_self]))
            | (with_reducible intro h; try simp only [h, go_sem, Nat.reduceBEq, Nat.reduceLT, Nat.reduceEqDiff, reduceIte, Nat.reduceAdd, Nat.reduceMul, Nat.reduceSub, Nat.reduceLeDiff, Int.reduceToNat, Int.reducePow, Int.reduceLT, Int.reduceEq, Int.reduceNeg, Nat.reducePow, List.reduceReplicate, Int.reduceLE, hz, hc, hpl, hpt, hb, hbt, hgc, htl, htt, ht, heq, he, eq_self])
            | ((first | (with_reducible refine acall.det (fp _) ?_) | (with_reducible refine qcall.det (fp _) ?_) | (with_reducible refine acall.det (ft _) ?_) | (with_reducible refine qcall.det (ft _) ?_)); try simp (disch := omega) only [go_sem, Nat.reduceBEq, Nat.reduceLT, Nat.reduceEqDiff, reduceIte, Nat.reduceAdd, Nat.reduceMul, Nat.reduceSub, Nat.reduceLeDiff, Int.reduceToNat, Int.reducePow, Int.reduceLT, Int.reduceEq, Int.reduceNeg, Nat.reducePow, List.reduceReplicate, Int.reduceLE, hz, hc, hpl, hpt, hb, hbt, hgc, htl, htt, ht, heq, he, eq_self]))
          simp only [bodyQ, go_sem, Nat.reduceBEq, Nat.reduceLT, Nat.reduceEqDiff, reduceIte, Nat.reduceAdd, Nat.reduceMul, Nat.reduceSub, Nat.reduceLeDiff, Int.reduceToNat, Int.reducePow, Int.reduceLT, Int.reduceEq, Int.reduceNeg, Nat.reducePow, List.reduceReplicate, Int.reduceLE]
          exact Fin.cut (.v _) ⟨rfl, rfl⟩

end Go.Proofs.Ytadajfahlgekiaa.VL
