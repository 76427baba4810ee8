/- Layer 12: sectors written; copies. -/
import Derived.Test.YtkkhbmpcpilmfaaJrnC
-- STEPWISE
-- TAIL
set_option linter.unusedVariables false
set_option linter.unusedSimpArgs false
set_option maxRecDepth 10000
namespace Go.Proofs.Ytkkhbmpcpilmfaa.VL
open Go Go.RowKit Go.Lib

theorem fin_dk {E : Ent} {N : List Box} {k g n : Nat} {L : List (List UInt8)} {full : Bool} {f d e : Value} {K : AV → List Box → Prop} (hb : N[k]? = some ⟨bytesC L.flatten, 0, g, true⟩) (hn : n = L.length) (h64 : all64 L)
    (h : K (.tup [.agg [.lst 64 (secG L), .v f, .v d], .v e]) E.H) : Fin E (.tup [.agg [.sl (E.H.length + k) g 0 n 64 full, .v f, .v d], .v e]) (E.H ++ N) K :=
  Fin.froz (bx := ⟨bytesC L.flatten, 0, g, true⟩) (L := L) (by rw [getH]; exact hb) (by omega) rfl rfl hn h64
    (fun w H β v hsw hr => rep_tup_sw (fun x hx => rep_agg_sw hsw hx) hr)
    (((lt_sec L).cons_agg ((Lt.v _).cons_agg ((Lt.v _).cons_agg .nil_agg))).cons_tup ((Lt.v _).cons_tup .nil_tup)) h
theorem Fin.ownAgg {E : Ent} {N : List Box} {k g n sz : Nat} {full : Bool} {bx : Box} {f d : Value} {K : AV → List Box → Prop} (hb : N[k]? = some bx) (hg : bx.gen = g) (hc : ∀ (j : Nat) (c : AV), bx.cells[j]? = some c → Lt 0 c)
    (h : K (.agg [.sl E.H.length 0 0 n sz full, .v f, .v d]) (E.H ++ [⟨bx.cells, bx.ro, 0, bx.grow⟩])) : Fin E (.agg [.sl (E.H.length + k) g 0 n sz full, .v f, .v d]) (E.H ++ N) K :=
  ⟨_, _, fun w β v hI hs hr => by
    cases hr with
    | agg cs vs hl hh =>
      have hl3 : vs.size = 3 := by simpa using hl.symm
      have h0 := hh 0 _ vs[0] rfl (Array.getElem?_eq_getElem (by omega))
      obtain ⟨β', g1, g2, g3⟩ := Shed.own (b := E.H.length + k) (by rw [getH]; exact hb) hg (by omega) hc w β _ hI hs h0
      refine ⟨β', g1, g2, .agg _ vs (by simpa using hl) fun i c x hc' hx => ?_⟩
      rcases i with _ | _ | _ | i
      · simp at hc'; subst hc'
        rw [Array.getElem?_eq_getElem (by omega)] at hx
        injection hx with hx
        rw [← hx]
        exact g3
      · have := hh 1 _ x rfl hx
        simp at hc'; subst hc'
        cases this
        exact .v _
      · have := hh 2 _ x rfl hx
        simp at hc'; subst hc'
        cases this
        exact .v _
      · simp at hc', h⟩

theorem copy_spec (D : Dk) (hl : D.s.length ≤ 1099511627) (H : List Box) : ASpec Try.prog 58 [dkV D] H (fun o H' => o = .ret (.agg [.sl H.length 0 0 D.s.length 64 false, vi D.f, vb D.d]) ∧ H' = H ++ [⟨bytesC D.s.flatten, 0, 0, true⟩]) := by
  obtain ⟨s, f, d⟩ := D
  dsimp only at hl ⊢
  intro base
  refine acall_body Try.func58 rfl (fun a w => Try.call58 a w) Try.ntmps58 Try.results58 (by simp) ?_
  intro w β hI
  simp only [number]
  repeat' (first
    | (refine AWP.seq ?_)
    | (refine AWP.block ?_)
    | (refine AWP.region_k fun Q' hQ' => ?_)
    | (refine AWP.drawT_k rfl (by decide +kernel) fun Q' hQ' => ?_; simp only [List.length_cons, List.length_nil, Nat.reduceAdd, Nat.reduceSub, List.take_succ_cons, List.take_zero, List.drop_succ_cons, List.drop_zero])
    | (refine AWP.draw_k rfl (by kernel_rfl) fun Q' hQ' => ?_)
    | (with_reducible refine aops.step fun T hT => ?_; simp (disch := omega) only [go_sem, Nat.reduceBEq, Nat.reduceLT, Nat.reduceEqDiff, reduceIte, Nat.reduceAdd, Nat.reduceMul, Nat.reduceSub, Nat.reduceLeDiff, Int.reduceToNat, Int.reducePow, Int.reduceLT, Int.reduceEq, Int.reduceNeg, Nat.reducePow, List.reduceReplicate, Int.reduceLE])
    | (with_reducible refine qops.step fun T hT => ?_; simp (disch := omega) only [go_sem, Nat.reduceBEq, Nat.reduceLT, Nat.reduceEqDiff, reduceIte, Nat.reduceAdd, Nat.reduceMul, Nat.reduceSub, Nat.reduceLeDiff, Int.reduceToNat, Int.reducePow, Int.reduceLT, Int.reduceEq, Int.reduceNeg, Nat.reducePow, List.reduceReplicate, Int.reduceLE])
    | (with_reducible refine aops.nil ?_)
    | (with_reducible refine qops.nil ?_)
    | (with_reducible refine hT _ ?_; clear hT T)
    | (refine AWP.skip ?_; try simp only [AExit.then, AExit.inBlock, reduceIte, Nat.reduceEqDiff])
    | (refine AWP.exit ?_; try simp only [AExit.then, AExit.inBlock, reduceIte, Nat.reduceEqDiff])
    | (refine AWP.ret ?_; try simp only [AExit.then, AExit.inBlock, reduceIte, Nat.reduceEqDiff])
    | (refine AWP.cond rfl (fun h => ?_) (fun h => ?_) <;> (try simp only [decide_eq_true_eq, decide_eq_false_iff_not, Bool.true_eq_false, Bool.false_eq_true] at h) <;> (try contradiction))
    | (refine hQ' _ _ ?_; clear hQ' Q'; try simp only [AExit.then, AExit.inBlock, reduceIte, Nat.reduceEqDiff])
    | (refine hQ' _ ?_; clear hQ' Q'; try simp only [AExit.then, AExit.inBlock, reduceIte, Nat.reduceEqDiff])
    | (with_reducible refine Branch.split (fun h => ?_) (fun h => ?_) <;> (try simp only [decide_eq_true_eq, decide_eq_false_iff_not, Bool.not_true, Bool.not_false, Bool.true_eq_false, Bool.false_eq_true] at h) <;> (try contradiction) <;> (simp (disch := omega) only [go_sem, Nat.reduceBEq, Nat.reduceLT, Nat.reduceEqDiff, reduceIte, Nat.reduceAdd, Nat.reduceMul, Nat.reduceSub, Nat.reduceLeDiff, Int.reduceToNat, Int.reducePow, Int.reduceLT, Int.reduceEq, Int.reduceNeg, Nat.reducePow, List.reduceReplicate, Int.reduceLE, h]))
    | (with_reducible intro h; try simp only [h, go_sem, Nat.reduceBEq, Nat.reduceLT, Nat.reduceEqDiff, reduceIte, Nat.reduceAdd, Nat.reduceMul, Nat.reduceSub, Nat.reduceLeDiff, Int.reduceToNat, Int.reducePow, Int.reduceLT, Int.reduceEq, Int.reduceNeg, Nat.reducePow, List.reduceReplicate, Int.reduceLE]))
  simp only [bodyQ, go_sem, Nat.reduceBEq, Nat.reduceLT, Nat.reduceEqDiff, reduceIte, Nat.reduceAdd, Nat.reduceMul, Nat.reduceSub, Nat.reduceLeDiff, Int.reduceToNat, Int.reducePow, Int.reduceLT, Int.reduceEq, Int.reduceNeg, Nat.reducePow, List.reduceReplicate, Int.reduceLE]
  exact Fin.ownAgg (k := 2) (bx := ⟨bytesC s.flatten, 0, 0, true⟩) rfl rfl (bytesC_lt _) ⟨rfl, rfl⟩

theorem dasked_ok {D : Dk} {at_ : Int} (h : dasked D at_ = 0) : D.s.length ≤ 64 ∧ -1 ≤ D.f ∧ D.d = false ∧ 0 ≤ at_ ∧ at_ < (D.s.length : Int) := by
  unfold dasked at h
  split at h
  · cases h
  · rename_i h1
    have h1 : dright D = true := by simpa using h1
    simp only [dright, decide_eq_true_eq] at h1
    split at h
    · cases h
    · rename_i h2
      split at h
      · rename_i h3
        exact ⟨h1.1, h1.2, by simpa using h2, h3.1, h3.2⟩
      · cases h

set_option maxHeartbeats 2000000 in
theorem put_spec (D : Dk) (at_ : Int) (b : List UInt8) (hl : D.s.length ≤ 1099511627) (hmx : D.f ≤ 9223372036854775807) (h64 : all64 D.s) (hb : b.length = 64) (H : List Box) : ASpec Try.prog 55 [dkV D, vi at_, .agg (bytesC b)] H (Gives (dkT (dput D at_ b)) H) := by
  have hbt : b.take 64 = b := List.take_of_length_le (by omega)
  have ha := fun H => asked_spec D at_ (by omega) H
  have hcl := fun H => cloneS_spec D.s hl H
  unfold dput
  by_cases h0 : dasked D at_ = 0
  · obtain ⟨o1, o2, o3, o4, o5⟩ := dasked_ok h0
    rw [if_neg (by simpa using h0)]
    rw [h0] at ha
    obtain ⟨s, f, d⟩ := D
    dsimp only at *
    subst o3
    obtain ⟨a, rfl⟩ := Int.eq_ofNat_of_zero_le o4
    have hfl := flat64_length s h64
    have hset := flat64_set s a b h64 (by omega) hb
    have h64' := all64_set h64 a hb
    by_cases hf1 : f = -1
    · subst hf1
      rw [if_pos rfl]
      intro base
      refine acall_body Try.func55 rfl (fun a w => Try.call55 a w) Try.ntmps55 Try.results55 (by simp) ?_
      intro w β hI
      simp only [number]
      repeat' (first
        | (refine AWP.seq ?_)
        | (refine AWP.block ?_)
        | (refine AWP.region_k fun Q' hQ' => ?_)
        | (refine AWP.drawT_k rfl (by decide +kernel) fun Q' hQ' => ?_; simp only [List.length_cons, List.length_nil, Nat.reduceAdd, Nat.reduceSub, List.take_succ_cons, List.take_zero, List.drop_succ_cons, List.drop_zero])
        | (refine AWP.draw_k rfl (by kernel_rfl) fun Q' hQ' => ?_)
        | (with_reducible refine aops.step fun T hT => ?_; simp (disch := omega) only [go_sem, Nat.reduceBEq, Nat.reduceLT, Nat.reduceEqDiff, reduceIte, Nat.reduceAdd, Nat.reduceMul, Nat.reduceSub, Nat.reduceLeDiff, Int.reduceToNat, Int.reducePow, Int.reduceLT, Int.reduceEq, Int.reduceNeg, Nat.reducePow, List.reduceReplicate, Int.reduceLE, hb, hbt, hfl, hset])
        | (with_reducible refine qops.step fun T hT => ?_; simp (disch := omega) only [go_sem, Nat.reduceBEq, Nat.reduceLT, Nat.reduceEqDiff, reduceIte, Nat.reduceAdd, Nat.reduceMul, Nat.reduceSub, Nat.reduceLeDiff, Int.reduceToNat, Int.reducePow, Int.reduceLT, Int.reduceEq, Int.reduceNeg, Nat.reducePow, List.reduceReplicate, Int.reduceLE, hb, hbt, hfl, hset])
        | (with_reducible refine aops.nil ?_)
        | (with_reducible refine qops.nil ?_)
        | (with_reducible refine hT _ ?_; clear hT T)
        | (refine AWP.skip ?_; try simp only [AExit.then, AExit.inBlock, reduceIte, Nat.reduceEqDiff])
        | (refine AWP.exit ?_; try simp only [AExit.then, AExit.inBlock, reduceIte, Nat.reduceEqDiff])
        | (refine AWP.ret ?_; try simp only [AExit.then, AExit.inBlock, reduceIte, Nat.reduceEqDiff])
        | (refine AWP.cond rfl (fun h => ?_) (fun h => ?_) <;> (try simp only [decide_eq_true_eq, decide_eq_false_iff_not, Bool.true_eq_false, Bool.false_eq_true] at h) <;> (try contradiction))
        | (refine hQ' _ _ ?_; clear hQ' Q'; try simp only [AExit.then, AExit.inBlock, reduceIte, Nat.reduceEqDiff])
        | (refine hQ' _ ?_; clear hQ' Q'; try simp only [AExit.then, AExit.inBlock, reduceIte, Nat.reduceEqDiff])
        | (with_reducible refine Branch.split (fun h => ?_) (fun h => ?_) <;> (try simp only [decide_eq_true_eq, decide_eq_false_iff_not, Bool.not_true, Bool.not_false, Bool.true_eq_false, Bool.false_eq_true] at h) <;> (try contradiction) <;> (simp (disch := omega) only [go_sem, Nat.reduceBEq, Nat.reduceLT, Nat.reduceEqDiff, reduceIte, Nat.reduceAdd, Nat.reduceMul, Nat.reduceSub, Nat.reduceLeDiff, Int.reduceToNat, Int.reducePow, Int.reduceLT, Int.reduceEq, Int.reduceNeg, Nat.reducePow, List.reduceReplicate, Int.reduceLE, h, hb, hbt, hfl, hset]))
        | (with_reducible intro h; try simp only [h, go_sem, Nat.reduceBEq, Nat.reduceLT, Nat.reduceEqDiff, reduceIte, Nat.reduceAdd, Nat.reduceMul, Nat.reduceSub, Nat.reduceLeDiff, Int.reduceToNat, Int.reducePow, Int.reduceLT, Int.reduceEq, Int.reduceNeg, Nat.reducePow, List.reduceReplicate, Int.reduceLE, hb, hbt, hfl, hset])
        | ((first | (with_reducible refine acall.det (ha _) ?_) | (with_reducible refine qcall.det (ha _) ?_) | (with_reducible refine acall.det (hcl _) ?_) | (with_reducible refine qcall.det (hcl _) ?_)); try simp (disch := omega) only [go_sem, Nat.reduceBEq, Nat.reduceLT, Nat.reduceEqDiff, reduceIte, Nat.reduceAdd, Nat.reduceMul, Nat.reduceSub, Nat.reduceLeDiff, Int.reduceToNat, Int.reducePow, Int.reduceLT, Int.reduceEq, Int.reduceNeg, Nat.reducePow, List.reduceReplicate, Int.reduceLE, hb, hbt, hfl, hset]))
      simp only [bodyQ, go_sem, Nat.reduceBEq, Nat.reduceLT, Nat.reduceEqDiff, reduceIte, Nat.reduceAdd, Nat.reduceMul, Nat.reduceSub, Nat.reduceLeDiff, Int.reduceToNat, Int.reducePow, Int.reduceLT, Int.reduceEq, Int.reduceNeg, Nat.reducePow, List.reduceReplicate, Int.reduceLE]
      exact fin_dk (k := 3) (L := s.set a b) rfl (by simp) h64' ⟨by simp, rfl⟩
    · rw [if_neg hf1]
      by_cases hf2 : 64 ≤ f
      · rw [if_pos hf2]
        intro base
        refine acall_body Try.func55 rfl (fun a w => Try.call55 a w) Try.ntmps55 Try.results55 (by simp) ?_
        intro w β hI
        simp only [number]
        repeat' (first
          | (refine AWP.seq ?_)
          | (refine AWP.block ?_)
          | (refine AWP.region_k fun Q' hQ' => ?_)
          | (refine AWP.drawT_k rfl (by decide +kernel) fun Q' hQ' => ?_; simp only [List.length_cons, List.length_nil, Nat.reduceAdd, Nat.reduceSub, List.take_succ_cons, List.take_zero, List.drop_succ_cons, List.drop_zero])
          | (refine AWP.draw_k rfl (by kernel_rfl) fun Q' hQ' => ?_)
          | (with_reducible refine aops.step fun T hT => ?_; simp (disch := omega) only [go_sem, Nat.reduceBEq, Nat.reduceLT, Nat.reduceEqDiff, reduceIte, Nat.reduceAdd, Nat.reduceMul, Nat.reduceSub, Nat.reduceLeDiff, Int.reduceToNat, Int.reducePow, Int.reduceLT, Int.reduceEq, Int.reduceNeg, Nat.reducePow, List.reduceReplicate, Int.reduceLE, hb, hbt, hfl, hset, hf1, hf2])
          | (with_reducible refine qops.step fun T hT => ?_; simp (disch := omega) only [go_sem, Nat.reduceBEq, Nat.reduceLT, Nat.reduceEqDiff, reduceIte, Nat.reduceAdd, Nat.reduceMul, Nat.reduceSub, Nat.reduceLeDiff, Int.reduceToNat, Int.reducePow, Int.reduceLT, Int.reduceEq, Int.reduceNeg, Nat.reducePow, List.reduceReplicate, Int.reduceLE, hb, hbt, hfl, hset, hf1, hf2])
          | (with_reducible refine aops.nil ?_)
          | (with_reducible refine qops.nil ?_)
          | (with_reducible refine hT _ ?_; clear hT T)
          | (refine AWP.skip ?_; try simp only [AExit.then, AExit.inBlock, reduceIte, Nat.reduceEqDiff])
          | (refine AWP.exit ?_; try simp only [AExit.then, AExit.inBlock, reduceIte, Nat.reduceEqDiff])
          | (refine AWP.ret ?_; try simp only [AExit.then, AExit.inBlock, reduceIte, Nat.reduceEqDiff])
          | (refine AWP.cond rfl (fun h => ?_) (fun h => ?_) <;> (try simp only [decide_eq_true_eq, decide_eq_false_iff_not, Bool.true_eq_false, Bool.false_eq_true] at h) <;> (try contradiction))
          | (refine hQ' _ _ ?_; clear hQ' Q'; try simp only [AExit.then, AExit.inBlock, reduceIte, Nat.reduceEqDiff])
          | (refine hQ' _ ?_; clear hQ' Q'; try simp only [AExit.then, AExit.inBlock, reduceIte, Nat.reduceEqDiff])
          | (with_reducible refine Branch.split (fun h => ?_) (fun h => ?_) <;> (try simp only [decide_eq_true_eq, decide_eq_false_iff_not, Bool.not_true, Bool.not_false, Bool.true_eq_false, Bool.false_eq_true] at h) <;> (try contradiction) <;> (simp (disch := omega) only [go_sem, Nat.reduceBEq, Nat.reduceLT, Nat.reduceEqDiff, reduceIte, Nat.reduceAdd, Nat.reduceMul, Nat.reduceSub, Nat.reduceLeDiff, Int.reduceToNat, Int.reducePow, Int.reduceLT, Int.reduceEq, Int.reduceNeg, Nat.reducePow, List.reduceReplicate, Int.reduceLE, h, hb, hbt, hfl, hset, hf1, hf2]))
          | (with_reducible intro h; try simp only [h, go_sem, Nat.reduceBEq, Nat.reduceLT, Nat.reduceEqDiff, reduceIte, Nat.reduceAdd, Nat.reduceMul, Nat.reduceSub, Nat.reduceLeDiff, Int.reduceToNat, Int.reducePow, Int.reduceLT, Int.reduceEq, Int.reduceNeg, Nat.reducePow, List.reduceReplicate, Int.reduceLE, hb, hbt, hfl, hset, hf1, hf2])
          | ((first | (with_reducible refine acall.det (ha _) ?_) | (with_reducible refine qcall.det (ha _) ?_) | (with_reducible refine acall.det (hcl _) ?_) | (with_reducible refine qcall.det (hcl _) ?_)); try simp (disch := omega) only [go_sem, Nat.reduceBEq, Nat.reduceLT, Nat.reduceEqDiff, reduceIte, Nat.reduceAdd, Nat.reduceMul, Nat.reduceSub, Nat.reduceLeDiff, Int.reduceToNat, Int.reducePow, Int.reduceLT, Int.reduceEq, Int.reduceNeg, Nat.reducePow, List.reduceReplicate, Int.reduceLE, hb, hbt, hfl, hset, hf1, hf2]))
        simp only [bodyQ, go_sem, Nat.reduceBEq, Nat.reduceLT, Nat.reduceEqDiff, reduceIte, Nat.reduceAdd, Nat.reduceMul, Nat.reduceSub, Nat.reduceLeDiff, Int.reduceToNat, Int.reducePow, Int.reduceLT, Int.reduceEq, Int.reduceNeg, Nat.reducePow, List.reduceReplicate, Int.reduceLE]
        exact fin_dk (k := 3) (L := s.set a b) rfl (by simp) h64' ⟨by simp, rfl⟩
      · rw [if_neg hf2]
        obtain ⟨F, rfl⟩ := Int.eq_ofNat_of_zero_le (show 0 ≤ f by omega)
        rw [Int.toNat_natCast, Int.toNat_natCast]
        have hzl := zerosB_length (64 - F)
        have hsp : spl b F (zerosB (64 - F)) = b.take F ++ zerosB (64 - F) := by
          rw [spl, hzl, List.drop_eq_nil_of_le (by omega), List.append_nil]
        have hbl' : (b.take F ++ zerosB (64 - F)).length = 64 := by simp; omega
        have hbt' : (b.take F ++ zerosB (64 - F)).take 64 = b.take F ++ zerosB (64 - F) := List.take_of_length_le (by omega)
        have hset' := flat64_set s a (b.take F ++ zerosB (64 - F)) h64 (by omega) hbl'
        have h64'' := all64_set h64 a hbl'
        generalize b.take F ++ zerosB (64 - F) = b' at hsp hbl' hbt' hset' h64'' ⊢
        intro base
        refine acall_body Try.func55 rfl (fun a w => Try.call55 a w) Try.ntmps55 Try.results55 (by simp) ?_
        intro w β hI
        simp only [number]
        repeat' (first
          | (refine AWP.seq ?_)
          | (refine AWP.block ?_)
          | (refine AWP.region_k fun Q' hQ' => ?_)
          | (refine AWP.drawT_k rfl (by decide +kernel) fun Q' hQ' => ?_; simp only [List.length_cons, List.length_nil, Nat.reduceAdd, Nat.reduceSub, List.take_succ_cons, List.take_zero, List.drop_succ_cons, List.drop_zero])
          | (refine AWP.draw_k rfl (by kernel_rfl) fun Q' hQ' => ?_)
          | (with_reducible refine aops.step fun T hT => ?_; simp (disch := omega) only [go_sem, Nat.reduceBEq, Nat.reduceLT, Nat.reduceEqDiff, reduceIte, Nat.reduceAdd, Nat.reduceMul, Nat.reduceSub, Nat.reduceLeDiff, Int.reduceToNat, Int.reducePow, Int.reduceLT, Int.reduceEq, Int.reduceNeg, Nat.reducePow, List.reduceReplicate, Int.reduceLE, hb, hfl, hf1, hf2, hsp, hbl', hbt', hset'])
          | (with_reducible refine qops.step fun T hT => ?_; simp (disch := omega) only [go_sem, Nat.reduceBEq, Nat.reduceLT, Nat.reduceEqDiff, reduceIte, Nat.reduceAdd, Nat.reduceMul, Nat.reduceSub, Nat.reduceLeDiff, Int.reduceToNat, Int.reducePow, Int.reduceLT, Int.reduceEq, Int.reduceNeg, Nat.reducePow, List.reduceReplicate, Int.reduceLE, hb, hfl, hf1, hf2, hsp, hbl', hbt', hset'])
          | (with_reducible refine aops.nil ?_)
          | (with_reducible refine qops.nil ?_)
          | (with_reducible refine hT _ ?_; clear hT T)
          | (refine AWP.skip ?_; try simp only [AExit.then, AExit.inBlock, reduceIte, Nat.reduceEqDiff])
          | (refine AWP.exit ?_; try simp only [AExit.then, AExit.inBlock, reduceIte, Nat.reduceEqDiff])
          | (refine AWP.ret ?_; try simp only [AExit.then, AExit.inBlock, reduceIte, Nat.reduceEqDiff])
          | (refine AWP.cond rfl (fun h => ?_) (fun h => ?_) <;> (try simp only [decide_eq_true_eq, decide_eq_false_iff_not, Bool.true_eq_false, Bool.false_eq_true] at h) <;> (try contradiction))
          | (refine hQ' _ _ ?_; clear hQ' Q'; try simp only [AExit.then, AExit.inBlock, reduceIte, Nat.reduceEqDiff])
          | (refine hQ' _ ?_; clear hQ' Q'; try simp only [AExit.then, AExit.inBlock, reduceIte, Nat.reduceEqDiff])
          | (with_reducible refine Branch.split (fun h => ?_) (fun h => ?_) <;> (try simp only [decide_eq_true_eq, decide_eq_false_iff_not, Bool.not_true, Bool.not_false, Bool.true_eq_false, Bool.false_eq_true] at h) <;> (try contradiction) <;> (simp (disch := omega) only [go_sem, Nat.reduceBEq, Nat.reduceLT, Nat.reduceEqDiff, reduceIte, Nat.reduceAdd, Nat.reduceMul, Nat.reduceSub, Nat.reduceLeDiff, Int.reduceToNat, Int.reducePow, Int.reduceLT, Int.reduceEq, Int.reduceNeg, Nat.reducePow, List.reduceReplicate, Int.reduceLE, h, hb, hfl, hf1, hf2, hsp, hbl', hbt', hset']))
          | (with_reducible intro h; try simp only [h, go_sem, Nat.reduceBEq, Nat.reduceLT, Nat.reduceEqDiff, reduceIte, Nat.reduceAdd, Nat.reduceMul, Nat.reduceSub, Nat.reduceLeDiff, Int.reduceToNat, Int.reducePow, Int.reduceLT, Int.reduceEq, Int.reduceNeg, Nat.reducePow, List.reduceReplicate, Int.reduceLE, hb, hfl, hf1, hf2, hsp, hbl', hbt', hset'])
          | ((first | (with_reducible refine acall.det (ha _) ?_) | (with_reducible refine qcall.det (ha _) ?_) | (with_reducible refine acall.det (hcl _) ?_) | (with_reducible refine qcall.det (hcl _) ?_)); try simp (disch := omega) only [go_sem, Nat.reduceBEq, Nat.reduceLT, Nat.reduceEqDiff, reduceIte, Nat.reduceAdd, Nat.reduceMul, Nat.reduceSub, Nat.reduceLeDiff, Int.reduceToNat, Int.reducePow, Int.reduceLT, Int.reduceEq, Int.reduceNeg, Nat.reducePow, List.reduceReplicate, Int.reduceLE, hb, hfl, hf1, hf2, hsp, hbl', hbt', hset']))
        simp only [bodyQ, go_sem, Nat.reduceBEq, Nat.reduceLT, Nat.reduceEqDiff, reduceIte, Nat.reduceAdd, Nat.reduceMul, Nat.reduceSub, Nat.reduceLeDiff, Int.reduceToNat, Int.reducePow, Int.reduceLT, Int.reduceEq, Int.reduceNeg, Nat.reducePow, List.reduceReplicate, Int.reduceLE]
        exact fin_dk (k := 3) (L := s.set a b') rfl (by simp) h64'' ⟨by simp, rfl⟩
  · rw [if_pos h0]
    generalize dasked D at_ = e at ha h0
    obtain ⟨s, f, d⟩ := D
    dsimp only at *
    intro base
    refine acall_body Try.func55 rfl (fun a w => Try.call55 a w) Try.ntmps55 Try.results55 (by simp) ?_
    intro w β hI
    simp only [number]
    repeat' (first
      | (refine AWP.seq ?_)
      | (refine AWP.block ?_)
      | (refine AWP.region_k fun Q' hQ' => ?_)
      | (refine AWP.drawT_k rfl (by decide +kernel) fun Q' hQ' => ?_; simp only [List.length_cons, List.length_nil, Nat.reduceAdd, Nat.reduceSub, List.take_succ_cons, List.take_zero, List.drop_succ_cons, List.drop_zero])
      | (refine AWP.draw_k rfl (by kernel_rfl) fun Q' hQ' => ?_)
      | (with_reducible refine aops.step fun T hT => ?_; simp (disch := omega) only [go_sem, Nat.reduceBEq, Nat.reduceLT, Nat.reduceEqDiff, reduceIte, Nat.reduceAdd, Nat.reduceMul, Nat.reduceSub, Nat.reduceLeDiff, Int.reduceToNat, Int.reducePow, Int.reduceLT, Int.reduceEq, Int.reduceNeg, Nat.reducePow, List.reduceReplicate, Int.reduceLE, hb, hbt, h0])
      | (with_reducible refine qops.step fun T hT => ?_; simp (disch := omega) only [go_sem, Nat.reduceBEq, Nat.reduceLT, Nat.reduceEqDiff, reduceIte, Nat.reduceAdd, Nat.reduceMul, Nat.reduceSub, Nat.reduceLeDiff, Int.reduceToNat, Int.reducePow, Int.reduceLT, Int.reduceEq, Int.reduceNeg, Nat.reducePow, List.reduceReplicate, Int.reduceLE, hb, hbt, h0])
      | (with_reducible refine aops.nil ?_)
      | (with_reducible refine qops.nil ?_)
      | (with_reducible refine hT _ ?_; clear hT T)
      | (refine AWP.skip ?_; try simp only [AExit.then, AExit.inBlock, reduceIte, Nat.reduceEqDiff])
      | (refine AWP.exit ?_; try simp only [AExit.then, AExit.inBlock, reduceIte, Nat.reduceEqDiff])
      | (refine AWP.ret ?_; try simp only [AExit.then, AExit.inBlock, reduceIte, Nat.reduceEqDiff])
      | (refine AWP.cond rfl (fun h => ?_) (fun h => ?_) <;> (try simp only [decide_eq_true_eq, decide_eq_false_iff_not, Bool.true_eq_false, Bool.false_eq_true] at h) <;> (try contradiction))
      | (refine hQ' _ _ ?_; clear hQ' Q'; try simp only [AExit.then, AExit.inBlock, reduceIte, Nat.reduceEqDiff])
      | (refine hQ' _ ?_; clear hQ' Q'; try simp only [AExit.then, AExit.inBlock, reduceIte, Nat.reduceEqDiff])
      | (with_reducible refine Branch.split (fun h => ?_) (fun h => ?_) <;> (try simp only [decide_eq_true_eq, decide_eq_false_iff_not, Bool.not_true, Bool.not_false, Bool.true_eq_false, Bool.false_eq_true] at h) <;> (try contradiction) <;> (simp (disch := omega) only [go_sem, Nat.reduceBEq, Nat.reduceLT, Nat.reduceEqDiff, reduceIte, Nat.reduceAdd, Nat.reduceMul, Nat.reduceSub, Nat.reduceLeDiff, Int.reduceToNat, Int.reducePow, Int.reduceLT, Int.reduceEq, Int.reduceNeg, Nat.reducePow, List.reduceReplicate, Int.reduceLE, h, hb, hbt, h0]))
      | (with_reducible intro h; try simp only [h, go_sem, Nat.reduceBEq, Nat.reduceLT, Nat.reduceEqDiff, reduceIte, Nat.reduceAdd, Nat.reduceMul, Nat.reduceSub, Nat.reduceLeDiff, Int.reduceToNat, Int.reducePow, Int.reduceLT, Int.reduceEq, Int.reduceNeg, Nat.reducePow, List.reduceReplicate, Int.reduceLE, hb, hbt, h0])
      | ((first | (with_reducible refine acall.det (ha _) ?_) | (with_reducible refine qcall.det (ha _) ?_)); try simp (disch := omega) only [go_sem, Nat.reduceBEq, Nat.reduceLT, Nat.reduceEqDiff, reduceIte, Nat.reduceAdd, Nat.reduceMul, Nat.reduceSub, Nat.reduceLeDiff, Int.reduceToNat, Int.reducePow, Int.reduceLT, Int.reduceEq, Int.reduceNeg, Nat.reducePow, List.reduceReplicate, Int.reduceLE, hb, hbt, h0]))
    simp only [bodyQ, go_sem, Nat.reduceBEq, Nat.reduceLT, Nat.reduceEqDiff, reduceIte, Nat.reduceAdd, Nat.reduceMul, Nat.reduceSub, Nat.reduceLeDiff, Int.reduceToNat, Int.reducePow, Int.reduceLT, Int.reduceEq, Int.reduceNeg, Nat.reducePow, List.reduceReplicate, Int.reduceLE]
    exact Fin.cut (lt_dkT _ _ _ _) ⟨rfl, rfl⟩

/-- The first i bytes of a sector are written. -/
def half (b : List UInt8) (i : Nat) : List UInt8 := b.take i ++ zerosB (64 - i)
theorem half_length {b : List UInt8} (hb : b.length = 64) {i : Nat} (hi : i ≤ 64) : (half b i).length = 64 := by rw [half, List.length_append, List.length_take, zerosB_length]; omega
theorem half_zero (b : List UInt8) : half b 0 = zerosB 64 := by simp [half]
theorem half_all {b : List UInt8} (hb : b.length = 64) : half b 64 = b := by simp [half, zerosB, ← hb]
theorem half_step {b : List UInt8} (hb : b.length = 64) {i : Nat} (hi : i < 64) {c : UInt8} (hc : b[i]? = some c) : (half b i).set i c = half b (i + 1) := by
  apply List.ext_getElem?
  intro j
  have hlen := half_length hb (show i ≤ 64 by omega)
  by_cases hj : j = i
  · subst hj
    rw [List.getElem?_set_self (by omega), half, List.getElem?_append_left (by simp; omega), List.getElem?_take_of_lt (by omega), hc]
  · rw [List.getElem?_set_ne (Ne.symm hj)]
    simp only [half]
    by_cases hlt : j < i
    · rw [List.getElem?_append_left (by simp; omega), List.getElem?_append_left (by simp; omega), List.getElem?_take_of_lt hlt, List.getElem?_take_of_lt (by omega)]
    · rw [List.getElem?_append_right (by simp; omega), List.getElem?_append_right (by simp; omega)]
      simp only [List.length_take, zerosB, List.getElem?_replicate]
      rw [Nat.min_eq_left (by omega), Nat.min_eq_left (by omega)]
      by_cases hj64 : j < 64
      · rw [if_pos (by omega), if_pos (by omega)]
      · rw [if_neg (by omega), if_neg (by omega)]
theorem flat64_set1 : ∀ (l : List (List UInt8)) (a i : Nat) (u : List UInt8) (c : UInt8), all64 l → l[a]? = some u → i < 64 → l.flatten.set (a * 64 + i) c = (l.set a (u.set i c)).flatten := by
  intro l
  induction l with
  | nil => intro a i u c _ h; simp at h
  | cons x r ih =>
    intro a i u c h hu hi
    obtain ⟨h1, h2⟩ := all64_cons h
    cases a with
    | zero =>
      simp at hu
      subst hu
      rw [Nat.zero_mul, Nat.zero_add, List.set_cons_zero, List.flatten_cons, List.flatten_cons, List.set_append_left _ _ (by omega)]
    | succ a =>
      rw [List.set_cons_succ, List.flatten_cons, List.flatten_cons, show (a + 1) * 64 + i = x.length + (a * 64 + i) by omega, List.set_append_right _ _ (by omega), Nat.add_sub_cancel_left, ih a i u c h2 (by simpa using hu) hi]

end Go.Proofs.Ytkkhbmpcpilmfaa.VL
