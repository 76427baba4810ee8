/- Layer 13: the law of deeds. -/
import Derived.Test.YtadajfahlgekiaaJrnK
-- STEPWISE
-- TAIL
set_option linter.unusedVariables false
set_option linter.unusedSimpArgs false
set_option maxRecDepth 10000
namespace Go.Proofs.Ytadajfahlgekiaa.VL
open Go Go.RowKit Go.Lib

theorem jput_keeps (D : Dk) (x : Rc) (h64 : all64 D.s) (hmx : D.f ≤ 9223372036854775807) : (jput D x).1.s.length = D.s.length ∧ all64 (jput D x).1.s := by
  unfold jput
  split
  · exact ⟨rfl, h64⟩
  · rename_i h
    have hm : jmay x = true := by simpa using h
    have := dput_keeps D (x.q % (D.s.length : Int)) (recB x) (recB_length hm) h64 hmx
    split
    · exact ⟨this.1, this.2.1⟩
    · exact ⟨this.1, this.2.1⟩
theorem jwrite_keeps (D : Dk) (gen : Int) (note : List UInt8) (h64 : all64 D.s) (hmx : D.f ≤ 9223372036854775807) : (jwrite D gen note).1.s.length = D.s.length ∧ all64 (jwrite D gen note).1.s := by
  unfold jwrite
  split
  · exact ⟨rfl, h64⟩
  · split
    · exact ⟨rfl, h64⟩
    · split
      · exact ⟨rfl, h64⟩
      · exact jput_keeps D _ h64 hmx
theorem jnext_keeps (D : Dk) (note : List UInt8) (h64 : all64 D.s) (hmx : D.f ≤ 9223372036854775807) : (jnext D note).1.s.length = D.s.length ∧ all64 (jnext D note).1.s := by
  unfold jnext
  split
  · exact ⟨rfl, h64⟩
  · split
    · exact ⟨rfl, h64⟩
    · exact jwrite_keeps D _ _ h64 hmx
theorem jformat_keeps (D : Dk) (note : List UInt8) (h64 : all64 D.s) (hmx : D.f ≤ 9223372036854775807) : (jformat D note).1.s.length = D.s.length ∧ all64 (jformat D note).1.s := by
  have hk := jfmt_keeps D h64 hmx D.s.length
  unfold jformat
  split
  · exact ⟨rfl, h64⟩
  · split
    · exact ⟨hk.1, hk.2.1⟩
    · have := jput_keeps (jfmt D D.s.length).1 ⟨1, 1, note⟩ hk.2.1 hk.2.2
      exact ⟨this.1.trans hk.1, this.2⟩

set_option maxHeartbeats 8000000 in
theorem deeds_spec (D : Dk) (gen : Int) (note : List UInt8) (hl : D.s.length ≤ 9223372036854775807) (hmx : D.f ≤ 9223372036854775807) (h64 : all64 D.s) (hno : note.length ≤ 9223372036854775807) (H : List Box) :
    ASpec Try.prog 4 [dkV D, vi gen, vs note] H (Gives (vb true) H) := by
  by_cases h100 : (100 : Int) < (D.s.length : Int)
  · obtain ⟨s, f, d⟩ := D
    dsimp only at *
    intro base
    refine acall_body Try.func4 rfl (fun a w => Try.call4 a w) Try.ntmps4 Try.results4 (by simp) ?_
    intro w β hI
    simp only [number]
    repeat' (first
      | (refine AWP.seq ?_)
      | (refine AWP.block ?_)
      | (refine AWP.region_k fun Q' hQ' => ?_)
      | (refine AWP.drawT_k rfl (by decide +kernel) fun Q' hQ' => ?_; simp only [List.length_cons, List.length_nil, Nat.reduceAdd, Nat.reduceSub, List.take_succ_cons, List.take_zero, List.drop_succ_cons, List.drop_zero])
      | (refine AWP.draw_k rfl (by kernel_rfl) fun Q' hQ' => ?_)
      | (with_reducible refine aops.step fun T hT => ?_; simp (disch := omega) only [go_sem, Nat.reduceBEq, Nat.reduceLT, Nat.reduceEqDiff, reduceIte, Nat.reduceAdd, Nat.reduceMul, Nat.reduceSub, Nat.reduceLeDiff, Int.reduceToNat, Int.reducePow, Int.reduceLT, Int.reduceEq, Int.reduceNeg, Nat.reducePow, List.reduceReplicate, Int.reduceLE, h100])
      | (with_reducible refine qops.step fun T hT => ?_; simp (disch := omega) only [go_sem, Nat.reduceBEq, Nat.reduceLT, Nat.reduceEqDiff, reduceIte, Nat.reduceAdd, Nat.reduceMul, Nat.reduceSub, Nat.reduceLeDiff, Int.reduceToNat, Int.reducePow, Int.reduceLT, Int.reduceEq, Int.reduceNeg, Nat.reducePow, List.reduceReplicate, Int.reduceLE, h100])
      | (with_reducible refine aops.nil ?_)
      | (with_reducible refine qops.nil ?_)
      | (with_reducible refine hT _ ?_; clear hT T)
      | (refine AWP.skip ?_; try simp only [AExit.then, AExit.inBlock, reduceIte, Nat.reduceEqDiff])
      | (refine AWP.exit ?_; try simp only [AExit.then, AExit.inBlock, reduceIte, Nat.reduceEqDiff])
      | (refine AWP.ret ?_; try simp only [AExit.then, AExit.inBlock, reduceIte, Nat.reduceEqDiff])
      | (refine AWP.cond rfl (fun h => ?_) (fun h => ?_) <;> (try simp only [decide_eq_true_eq, decide_eq_false_iff_not, Bool.true_eq_false, Bool.false_eq_true] at h) <;> (try contradiction))
      | (refine hQ' _ _ ?_; clear hQ' Q'; try simp only [AExit.then, AExit.inBlock, reduceIte, Nat.reduceEqDiff])
      | (refine hQ' _ ?_; clear hQ' Q'; try simp only [AExit.then, AExit.inBlock, reduceIte, Nat.reduceEqDiff])
      | (with_reducible refine Branch.split (fun h => ?_) (fun h => ?_) <;> (try simp only [decide_eq_true_eq, decide_eq_false_iff_not, Bool.not_true, Bool.not_false, Bool.true_eq_false, Bool.false_eq_true] at h) <;> (try contradiction) <;> (simp (disch := omega) only [go_sem, Nat.reduceBEq, Nat.reduceLT, Nat.reduceEqDiff, reduceIte, Nat.reduceAdd, Nat.reduceMul, Nat.reduceSub, Nat.reduceLeDiff, Int.reduceToNat, Int.reducePow, Int.reduceLT, Int.reduceEq, Int.reduceNeg, Nat.reducePow, List.reduceReplicate, Int.reduceLE, h, h100]))
      | (with_reducible intro h; try simp only [h, go_sem, Nat.reduceBEq, Nat.reduceLT, Nat.reduceEqDiff, reduceIte, Nat.reduceAdd, Nat.reduceMul, Nat.reduceSub, Nat.reduceLeDiff, Int.reduceToNat, Int.reducePow, Int.reduceLT, Int.reduceEq, Int.reduceNeg, Nat.reducePow, List.reduceReplicate, Int.reduceLE, h100])
      | ((first | (with_reducible refine acall.det (aliveJ_spec _) ?_) | (with_reducible refine qcall.det (aliveJ_spec _) ?_)); try simp (disch := omega) only [go_sem, Nat.reduceBEq, Nat.reduceLT, Nat.reduceEqDiff, reduceIte, Nat.reduceAdd, Nat.reduceMul, Nat.reduceSub, Nat.reduceLeDiff, Int.reduceToNat, Int.reducePow, Int.reduceLT, Int.reduceEq, Int.reduceNeg, Nat.reducePow, List.reduceReplicate, Int.reduceLE, h100]))
    simp only [bodyQ, go_sem, Nat.reduceBEq, Nat.reduceLT, Nat.reduceEqDiff, reduceIte, Nat.reduceAdd, Nat.reduceMul, Nat.reduceSub, Nat.reduceLeDiff, Int.reduceToNat, Int.reducePow, Int.reduceLT, Int.reduceEq, Int.reduceNeg, Nat.reducePow, List.reduceReplicate, Int.reduceLE]
    exact Fin.cut (.v _) ⟨rfl, rfl⟩
  by_cases h300 : (300 : Int) < (note.length : Int)
  · obtain ⟨s, f, d⟩ := D
    dsimp only at *
    intro base
    refine acall_body Try.func4 rfl (fun a w => Try.call4 a w) Try.ntmps4 Try.results4 (by simp) ?_
    intro w β hI
    simp only [number]
    repeat' (first
      | (refine AWP.seq ?_)
      | (refine AWP.block ?_)
      | (refine AWP.region_k fun Q' hQ' => ?_)
      | (refine AWP.drawT_k rfl (by decide +kernel) fun Q' hQ' => ?_; simp only [List.length_cons, List.length_nil, Nat.reduceAdd, Nat.reduceSub, List.take_succ_cons, List.take_zero, List.drop_succ_cons, List.drop_zero])
      | (refine AWP.draw_k rfl (by kernel_rfl) fun Q' hQ' => ?_)
      | (with_reducible refine aops.step fun T hT => ?_; simp (disch := omega) only [go_sem, Nat.reduceBEq, Nat.reduceLT, Nat.reduceEqDiff, reduceIte, Nat.reduceAdd, Nat.reduceMul, Nat.reduceSub, Nat.reduceLeDiff, Int.reduceToNat, Int.reducePow, Int.reduceLT, Int.reduceEq, Int.reduceNeg, Nat.reducePow, List.reduceReplicate, Int.reduceLE, h100, h300])
      | (with_reducible refine qops.step fun T hT => ?_; simp (disch := omega) only [go_sem, Nat.reduceBEq, Nat.reduceLT, Nat.reduceEqDiff, reduceIte, Nat.reduceAdd, Nat.reduceMul, Nat.reduceSub, Nat.reduceLeDiff, Int.reduceToNat, Int.reducePow, Int.reduceLT, Int.reduceEq, Int.reduceNeg, Nat.reducePow, List.reduceReplicate, Int.reduceLE, h100, h300])
      | (with_reducible refine aops.nil ?_)
      | (with_reducible refine qops.nil ?_)
      | (with_reducible refine hT _ ?_; clear hT T)
      | (refine AWP.skip ?_; try simp only [AExit.then, AExit.inBlock, reduceIte, Nat.reduceEqDiff])
      | (refine AWP.exit ?_; try simp only [AExit.then, AExit.inBlock, reduceIte, Nat.reduceEqDiff])
      | (refine AWP.ret ?_; try simp only [AExit.then, AExit.inBlock, reduceIte, Nat.reduceEqDiff])
      | (refine AWP.cond rfl (fun h => ?_) (fun h => ?_) <;> (try simp only [decide_eq_true_eq, decide_eq_false_iff_not, Bool.true_eq_false, Bool.false_eq_true] at h) <;> (try contradiction))
      | (refine hQ' _ _ ?_; clear hQ' Q'; try simp only [AExit.then, AExit.inBlock, reduceIte, Nat.reduceEqDiff])
      | (refine hQ' _ ?_; clear hQ' Q'; try simp only [AExit.then, AExit.inBlock, reduceIte, Nat.reduceEqDiff])
      | (with_reducible refine Branch.split (fun h => ?_) (fun h => ?_) <;> (try simp only [decide_eq_true_eq, decide_eq_false_iff_not, Bool.not_true, Bool.not_false, Bool.true_eq_false, Bool.false_eq_true] at h) <;> (try contradiction) <;> (simp (disch := omega) only [go_sem, Nat.reduceBEq, Nat.reduceLT, Nat.reduceEqDiff, reduceIte, Nat.reduceAdd, Nat.reduceMul, Nat.reduceSub, Nat.reduceLeDiff, Int.reduceToNat, Int.reducePow, Int.reduceLT, Int.reduceEq, Int.reduceNeg, Nat.reducePow, List.reduceReplicate, Int.reduceLE, h, h100, h300]))
      | (with_reducible intro h; try simp only [h, go_sem, Nat.reduceBEq, Nat.reduceLT, Nat.reduceEqDiff, reduceIte, Nat.reduceAdd, Nat.reduceMul, Nat.reduceSub, Nat.reduceLeDiff, Int.reduceToNat, Int.reducePow, Int.reduceLT, Int.reduceEq, Int.reduceNeg, Nat.reducePow, List.reduceReplicate, Int.reduceLE, h100, h300])
      | ((first | (with_reducible refine acall.det (aliveJ_spec _) ?_) | (with_reducible refine qcall.det (aliveJ_spec _) ?_)); try simp (disch := omega) only [go_sem, Nat.reduceBEq, Nat.reduceLT, Nat.reduceEqDiff, reduceIte, Nat.reduceAdd, Nat.reduceMul, Nat.reduceSub, Nat.reduceLeDiff, Int.reduceToNat, Int.reducePow, Int.reduceLT, Int.reduceEq, Int.reduceNeg, Nat.reducePow, List.reduceReplicate, Int.reduceLE, h100, h300]))
    simp only [bodyQ, go_sem, Nat.reduceBEq, Nat.reduceLT, Nat.reduceEqDiff, reduceIte, Nat.reduceAdd, Nat.reduceMul, Nat.reduceSub, Nat.reduceLeDiff, Int.reduceToNat, Int.reducePow, Int.reduceLT, Int.reduceEq, Int.reduceNeg, Nat.reducePow, List.reduceReplicate, Int.reduceLE]
    exact Fin.cut (.v _) ⟨rfl, rfl⟩
  have hl' : D.s.length ≤ 1099511627 := by omega
  have c0 := copyF_spec D hl' h64
  have w1 := write_spec D gen note hl' hmx h64 hno
  have w2 := refWrite_spec D gen note hl' hmx h64 hno
  have n1 := next_spec D note hl' hmx h64 hno
  have n2 := refNext_spec D note hl' hmx h64 hno
  have f1 := format_spec D note hl' hmx h64 hno
  have f2 := refFormat_spec D note hl' hmx h64 hno
  have a1 := last_spec D hl' h64
  have a2 := refLast_spec D hl' h64
  have s0 := same12_self D hl' h64
  have k1 := jwrite_keeps D gen note h64 hmx
  have k2 := jnext_keeps D note h64 hmx
  have k3 := jformat_keeps D note h64 hmx
  have s1 := same12_self (jwrite D gen note).1 (by omega) k1.2
  have s2 := same12_self (jnext D note).1 (by omega) k2.2
  have s3 := same12_self (jformat D note).1 (by omega) k3.2
  clear k1 k2 k3
  generalize jwrite D gen note = y1 at w1 w2 s1
  generalize jnext D note = y2 at n1 n2 s2
  generalize jformat D note = y3 at f1 f2 s3
  generalize jlast D = y4 at a1 a2
  obtain ⟨⟨t1, g1, d1⟩, ⟨q1, r1, m1⟩, e1⟩ := y1
  obtain ⟨⟨t2, g2, d2⟩, ⟨q2, r2, m2⟩, e2⟩ := y2
  obtain ⟨⟨t3, g3, d3⟩, ⟨q3, r3, m3⟩, e3⟩ := y3
  obtain ⟨⟨q4, r4, m4⟩, e4⟩ := y4
  obtain ⟨s, f, d⟩ := D
  dsimp only at *
  intro base
  refine acall_body Try.func4 rfl (fun a w => Try.call4 a w) Try.ntmps4 Try.results4 (by simp) ?_
  intro w β hI
  simp only [number]
  repeat' (first
    | (refine AWP.seq ?_)
    | (refine AWP.block ?_)
    | (refine AWP.region_k fun Q' hQ' => ?_)
    | (refine AWP.drawT_k rfl (by decide +kernel) fun Q' hQ' => ?_; simp only [List.length_cons, List.length_nil, Nat.reduceAdd, Nat.reduceSub, List.take_succ_cons, List.take_zero, List.drop_succ_cons, List.drop_zero])
    | (refine AWP.draw_k rfl (by kernel_rfl) fun Q' hQ' => ?_)
    | (with_reducible refine aops.step fun T hT => ?_; simp (disch := omega) only [go_sem, Nat.reduceBEq, Nat.reduceLT, Nat.reduceEqDiff, reduceIte, Nat.reduceAdd, Nat.reduceMul, Nat.reduceSub, Nat.reduceLeDiff, Int.reduceToNat, Int.reducePow, Int.reduceLT, Int.reduceEq, Int.reduceNeg, Nat.reducePow, List.reduceReplicate, Int.reduceLE, h100, h300, eq_self])
    | (with_reducible refine qops.step fun T hT => ?_; simp (disch := omega) only [go_sem, Nat.reduceBEq, Nat.reduceLT, Nat.reduceEqDiff, reduceIte, Nat.reduceAdd, Nat.reduceMul, Nat.reduceSub, Nat.reduceLeDiff, Int.reduceToNat, Int.reducePow, Int.reduceLT, Int.reduceEq, Int.reduceNeg, Nat.reducePow, List.reduceReplicate, Int.reduceLE, h100, h300, eq_self])
    | (with_reducible refine aops.nil ?_)
    | (with_reducible refine qops.nil ?_)
    | (with_reducible refine hT _ ?_; clear hT T)
    | (refine AWP.skip ?_; try simp only [AExit.then, AExit.inBlock, reduceIte, Nat.reduceEqDiff])
    | (refine AWP.exit ?_; try simp only [AExit.then, AExit.inBlock, reduceIte, Nat.reduceEqDiff])
    | (refine AWP.ret ?_; try simp only [AExit.then, AExit.inBlock, reduceIte, Nat.reduceEqDiff])
    | (refine AWP.cond rfl (fun h => ?_) (fun h => ?_) <;> (try simp only [decide_eq_true_eq, decide_eq_false_iff_not, Bool.true_eq_false, Bool.false_eq_true] at h) <;> (try contradiction))
    | (refine hQ' _ _ ?_; clear hQ' Q'; try simp only [AExit.then, AExit.inBlock, reduceIte, Nat.reduceEqDiff])
    | (refine hQ' _ ?_; clear hQ' Q'; try simp only [AExit.then, AExit.inBlock, reduceIte, Nat.reduceEqDiff])
    | (with_reducible refine Branch.split (fun h => ?_) (fun h => ?_) <;> (try simp only [decide_eq_true_eq, decide_eq_false_iff_not, Bool.not_true, Bool.not_false, Bool.true_eq_false, Bool.false_eq_true] at h) <;> (try contradiction) <;> (simp (disch := omega) only [go_sem, Nat.reduceBEq, Nat.reduceLT, Nat.reduceEqDiff, reduceIte, Nat.reduceAdd, Nat.reduceMul, Nat.reduceSub, Nat.reduceLeDiff, Int.reduceToNat, Int.reducePow, Int.reduceLT, Int.reduceEq, Int.reduceNeg, Nat.reducePow, List.reduceReplicate, Int.reduceLE, h, h100, h300, eq_self]))
    | (with_reducible intro h; try simp only [h, go_sem, Nat.reduceBEq, Nat.reduceLT, Nat.reduceEqDiff, reduceIte, Nat.reduceAdd, Nat.reduceMul, Nat.reduceSub, Nat.reduceLeDiff, Int.reduceToNat, Int.reducePow, Int.reduceLT, Int.reduceEq, Int.reduceNeg, Nat.reducePow, List.reduceReplicate, Int.reduceLE, h100, h300, eq_self])
    | ((first | (with_reducible refine acall.det (aliveJ_spec _) ?_) | (with_reducible refine qcall.det (aliveJ_spec _) ?_) | (with_reducible refine acall.det (c0 _) ?_) | (with_reducible refine qcall.det (c0 _) ?_) | (with_reducible refine acall.det (w1 _) ?_) | (with_reducible refine qcall.det (w1 _) ?_) | (with_reducible refine acall.det (w2 _) ?_) | (with_reducible refine qcall.det (w2 _) ?_) | (with_reducible refine acall.det (n1 _) ?_) | (with_reducible refine qcall.det (n1 _) ?_) | (with_reducible refine acall.det (n2 _) ?_) | (with_reducible refine qcall.det (n2 _) ?_) | (with_reducible refine acall.det (f1 _) ?_) | (with_reducible refine qcall.det (f1 _) ?_) | (with_reducible refine acall.det (f2 _) ?_) | (with_reducible refine qcall.det (f2 _) ?_) | (with_reducible refine acall.det (a1 _) ?_) | (with_reducible refine qcall.det (a1 _) ?_) | (with_reducible refine acall.det (a2 _) ?_) | (with_reducible refine qcall.det (a2 _) ?_) | (with_reducible refine acall.det (s0 _) ?_) | (with_reducible refine qcall.det (s0 _) ?_) | (with_reducible refine acall.det (s1 _) ?_) | (with_reducible refine qcall.det (s1 _) ?_) | (with_reducible refine acall.det (s2 _) ?_) | (with_reducible refine qcall.det (s2 _) ?_) | (with_reducible refine acall.det (s3 _) ?_) | (with_reducible refine qcall.det (s3 _) ?_)); try simp (disch := omega) only [go_sem, Nat.reduceBEq, Nat.reduceLT, Nat.reduceEqDiff, reduceIte, Nat.reduceAdd, Nat.reduceMul, Nat.reduceSub, Nat.reduceLeDiff, Int.reduceToNat, Int.reducePow, Int.reduceLT, Int.reduceEq, Int.reduceNeg, Nat.reducePow, List.reduceReplicate, Int.reduceLE, h100, h300, eq_self]))
  simp only [bodyQ, go_sem, Nat.reduceBEq, Nat.reduceLT, Nat.reduceEqDiff, reduceIte, Nat.reduceAdd, Nat.reduceMul, Nat.reduceSub, Nat.reduceLeDiff, Int.reduceToNat, Int.reducePow, Int.reduceLT, Int.reduceEq, Int.reduceNeg, Nat.reducePow, List.reduceReplicate, Int.reduceLE]
  exact Fin.cut (.v _) ⟨rfl, rfl⟩

end Go.Proofs.Ytadajfahlgekiaa.VL
