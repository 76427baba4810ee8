/- Layer 13: the law of power that goes, further turns. -/
import Derived.Test.YtkkhbmpcpilmfaaJrnO
-- STEPWISE
-- TAIL
-- HOLE 15 0 [(.same, []), (.same, []), (.same, []), (.same, []), (.same, []), (.same, []), (.same, []), (.same, []), (.same, []), (.same, []), (.same, [0]), (.wr 0, [])]
-- HOLE 17 2 [(.same, [3, 4]), (.same, [3, 4]), (.same, [3, 4]), (.same, [3, 4]), (.same, [3, 4]), (.same, [3, 4]), (.same, [3, 4]), (.same, [3, 4]), (.same, [3, 4]), (.same, [3, 4]), (.same, [3, 4]), (.same, [3, 4]), (.same, [3, 4]), (.new 3, [4]), (.new 4, [3]), (.wr 3, []), (.wr 4, []), (.same, [])]
-- HOLE 19 0 [(.same, []), (.same, []), (.same, []), (.same, []), (.same, []), (.same, []), (.same, []), (.same, []), (.same, []), (.same, [3]), (.same, [3, 4]), (.wr 3, []), (.wr 4, []), (.same, [])]
-- HOLE 32 0 [(.same, []), (.same, [0]), (.wr 0, []), (.wr 1, [])]
set_option linter.unusedVariables false
set_option linter.unusedSimpArgs false
set_option maxRecDepth 10000
namespace Go.Proofs.Ytkkhbmpcpilmfaa.VL
open Go Go.RowKit Go.Lib


set_option maxHeartbeats 8000000 in
theorem nv_fter (l : List Tn) (i : Nat) (s : List (List UInt8)) (q g : Int) (no : List UInt8) (hl100 : ¬ (100 : Int) < (l.length : Int)) (hi : i ≤ l.length) (hgood : Good s ⟨q, g, no⟩) (hq : q ≤ (i : Int) + 1) (hgg : g ≤ (i : Int) + 1) (hc : (i : Int) < (l.length : Int))
    (fu : Int) (note : List UInt8) (hg : l[i]? = some ⟨true, fu, note⟩) (hf0 : 0 ≤ fu) (hf1 : fu ≤ 255) (hnl : note.length ≤ 9223372036854775807) (h30 : ¬ (30 : Int) < (note.length : Int)) (hfu : fu < 255)
    (s' : List (List UInt8)) (e : jput ⟨s, fu, false⟩ ⟨q + 1, g + 1, note⟩ = (⟨s', -1, true⟩, R0, 9)) (hG : Good s' ⟨q, g, no⟩)
    (base : Nat) (w : World) (H : List Box) (β : Pl) (hI : Inv base w H β) (Q : AExit → ASt → Prop) (body : Code) (hbody : (Try.f7.body).bind firstLoop = some body) :
    AWP Try.prog ⟨base, 161, w, H, β, hI⟩ body (AExit.then (fun σ' => ∃ i' : NvI l, Coe ⟨base, 161, w, H, β, hI⟩ σ' (nvS l H i') ∧ l.length - i'.1.1 < l.length - i) Q) (nvS l H ⟨(i, s, ⟨q, g, no⟩), hi, hgood, hq, hgg⟩) := by
  have hm := jmay_spec hgood.may
  dsimp only at hm
  have hy1 : jmay ⟨q + 1, g, note⟩ = true := by simp only [jmay, decide_eq_true_eq]; exact ⟨by omega, by omega, by omega, by omega, by omega⟩
  have hy2 : jmay ⟨q + 1, g + 1, note⟩ = true := by simp only [jmay, decide_eq_true_eq]; exact ⟨by omega, by omega, by omega, by omega, by omega⟩
  have hlen := hgood.len
  have hwr := fun H => write_spec ⟨s, fu, false⟩ g note (by dsimp only; omega) (by dsimp only; omega) hgood.a64 hnl H
  have harm := fun H => arm_spec s (-1) fu (by omega) hgood.a64 (by omega) (by omega) H
  have hnx := fun H => next_spec ⟨s, fu, false⟩ note (by dsimp only; omega) (by dsimp only; omega) hgood.a64 hnl H
  rw [hgood.next (f := fu) (by omega) (n := note) hy2] at hnx
  generalize jwrite ⟨s, fu, false⟩ g note = y at hwr
  obtain ⟨⟨s1, f1, d1⟩, ⟨q1, g1, n1⟩, e1⟩ := y
  have hwr : ∀ H, ASpec Try.prog 26 [.agg [.lst 64 (secG s), vi fu, vb false], vi g, vs note] H (Gives (.tup [.agg [.lst 64 (secG s1), vi f1, vb d1], .agg [vi q1, vi g1, vs n1], vi e1]) H) := hwr
  have hgl : ¬ g = g + 1 := by omega
  have hgl2 : ¬ g + 1 < g := by omega
  rw [e] at hnx
  obtain ⟨ha, hla, hwk⟩ := nv_fin s' _ hG
  have ha := ha (-1) (by omega)
  have hnx : ∀ H, ASpec Try.prog 27 [.agg [.lst 64 (secG s), vi fu, vb false], vs note] H (Gives (.tup [.agg [.lst 64 (secG s'), vi (-1), vb true], .agg [vi 0, vi 0, vs []], vi 9]) H) := hnx
  dsimp only at hla
  dsimp only [firstLoop, Option.bind, Try.f7] at hbody
  injection hbody with hbody
  subst hbody
  dsimp only [nvS]
  repeat' (first
    | (refine AWP.seq ?_)
    | (refine AWP.block ?_)
    | (refine AWP.drawH_k (id := 15) 0 [(.same, []), (.same, []), (.same, []), (.same, []), (.same, []), (.same, []), (.same, []), (.same, []), (.same, []), (.same, []), (.same, [0]), (.wr 0, [])] rfl (by decide +kernel) fun Q' hQ' => ?_)
    | (refine AWP.drawH0_k (id := 15) 0 [(.same, []), (.same, []), (.same, []), (.same, []), (.same, []), (.same, []), (.same, []), (.same, []), (.same, []), (.same, []), (.same, [0]), (.wr 0, [])] rfl (by decide +kernel) fun Q' hQ' => ?_)
    | (refine AWP.drawH_k (id := 17) 2 [(.same, [3, 4]), (.same, [3, 4]), (.same, [3, 4]), (.same, [3, 4]), (.same, [3, 4]), (.same, [3, 4]), (.same, [3, 4]), (.same, [3, 4]), (.same, [3, 4]), (.same, [3, 4]), (.same, [3, 4]), (.same, [3, 4]), (.same, [3, 4]), (.new 3, [4]), (.new 4, [3]), (.wr 3, []), (.wr 4, []), (.same, [])] rfl (by decide +kernel) fun Q' hQ' => ?_)
    | (refine AWP.drawH0_k (id := 17) 2 [(.same, [3, 4]), (.same, [3, 4]), (.same, [3, 4]), (.same, [3, 4]), (.same, [3, 4]), (.same, [3, 4]), (.same, [3, 4]), (.same, [3, 4]), (.same, [3, 4]), (.same, [3, 4]), (.same, [3, 4]), (.same, [3, 4]), (.same, [3, 4]), (.new 3, [4]), (.new 4, [3]), (.wr 3, []), (.wr 4, []), (.same, [])] rfl (by decide +kernel) fun Q' hQ' => ?_)
    | (refine AWP.drawH_k (id := 19) 0 [(.same, []), (.same, []), (.same, []), (.same, []), (.same, []), (.same, []), (.same, []), (.same, []), (.same, []), (.same, [3]), (.same, [3, 4]), (.wr 3, []), (.wr 4, []), (.same, [])] rfl (by decide +kernel) fun Q' hQ' => ?_)
    | (refine AWP.drawH0_k (id := 19) 0 [(.same, []), (.same, []), (.same, []), (.same, []), (.same, []), (.same, []), (.same, []), (.same, []), (.same, []), (.same, [3]), (.same, [3, 4]), (.wr 3, []), (.wr 4, []), (.same, [])] rfl (by decide +kernel) fun Q' hQ' => ?_)
    | (refine AWP.drawH_k (id := 32) 0 [(.same, []), (.same, [0]), (.wr 0, []), (.wr 1, [])] rfl (by decide +kernel) fun Q' hQ' => ?_)
    | (refine AWP.drawH0_k (id := 32) 0 [(.same, []), (.same, [0]), (.wr 0, []), (.wr 1, [])] rfl (by decide +kernel) fun Q' hQ' => ?_)
    | (with_reducible refine hops.step fun T hT => ?_; simp (disch := omega) only [hone, hskip, patch, hole, List.headD_cons, List.tail_cons, Prod.mk.injEq, eq_self, and_assoc, exists_and_left, List.append_cancel_left_eq, List.cons.injEq, go_sem, Nat.reduceBEq, Nat.reduceLT, Nat.reduceEqDiff, reduceIte, Nat.reduceAdd, Nat.reduceMul, Nat.reduceSub, Nat.reduceLeDiff, Int.reduceToNat, Int.reducePow, Int.reduceLT, Int.reduceEq, Int.reduceNeg, Nat.reducePow, List.reduceReplicate, Int.reduceLE, hc, hg, h30, hfu, hgl, hgl2, eq_self, Int.lt_irrefl])
    | (with_reducible refine hops.nil ?_)
    | (with_reducible refine hT _ _ ?_; clear hT T)
    | (refine AWP.region_k fun Q' hQ' => ?_)
    | (refine AWP.drawT_k rfl (by decide +kernel) fun Q' hQ' => ?_; simp only [List.length_cons, List.length_nil, Nat.reduceAdd, Nat.reduceSub, List.take_succ_cons, List.take_zero, List.drop_succ_cons, List.drop_zero])
    | (refine AWP.draw_k rfl (by kernel_rfl) fun Q' hQ' => ?_)
    | (with_reducible refine aops.step fun T hT => ?_; simp (disch := omega) only [go_sem, Nat.reduceBEq, Nat.reduceLT, Nat.reduceEqDiff, reduceIte, Nat.reduceAdd, Nat.reduceMul, Nat.reduceSub, Nat.reduceLeDiff, Int.reduceToNat, Int.reducePow, Int.reduceLT, Int.reduceEq, Int.reduceNeg, Nat.reducePow, List.reduceReplicate, Int.reduceLE, hc, hg, h30, hfu, hgl, hgl2, eq_self, Int.lt_irrefl])
    | (with_reducible refine qops.step fun T hT => ?_; simp (disch := omega) only [go_sem, Nat.reduceBEq, Nat.reduceLT, Nat.reduceEqDiff, reduceIte, Nat.reduceAdd, Nat.reduceMul, Nat.reduceSub, Nat.reduceLeDiff, Int.reduceToNat, Int.reducePow, Int.reduceLT, Int.reduceEq, Int.reduceNeg, Nat.reducePow, List.reduceReplicate, Int.reduceLE, hc, hg, h30, hfu, hgl, hgl2, eq_self, Int.lt_irrefl])
    | (with_reducible refine aops.nil ?_)
    | (with_reducible refine qops.nil ?_)
    | (with_reducible refine hT _ ?_; clear hT T)
    | (refine AWP.skip ?_; try simp only [AExit.then, AExit.inBlock, reduceIte, Nat.reduceEqDiff])
    | (refine AWP.exit ?_; try simp only [AExit.then, AExit.inBlock, reduceIte, Nat.reduceEqDiff])
    | (refine AWP.ret ?_; try simp only [AExit.then, AExit.inBlock, reduceIte, Nat.reduceEqDiff])
    | (refine AWP.cond rfl (fun h => ?_) (fun h => ?_) <;> (try simp only [decide_eq_true_eq, decide_eq_false_iff_not, Bool.true_eq_false, Bool.false_eq_true] at h) <;> (try contradiction))
    | (refine hQ' _ _ ?_; clear hQ' Q'; try simp only [AExit.then, AExit.inBlock, reduceIte, Nat.reduceEqDiff])
    | (refine hQ' _ ?_; clear hQ' Q'; try simp only [AExit.then, AExit.inBlock, reduceIte, Nat.reduceEqDiff])
    | (with_reducible refine Branch.split (fun h => ?_) (fun h => ?_) <;> (try simp only [decide_eq_true_eq, decide_eq_false_iff_not, Bool.not_true, Bool.not_false, Bool.true_eq_false, Bool.false_eq_true] at h) <;> (try contradiction) <;> (simp (disch := omega) only [go_sem, Nat.reduceBEq, Nat.reduceLT, Nat.reduceEqDiff, reduceIte, Nat.reduceAdd, Nat.reduceMul, Nat.reduceSub, Nat.reduceLeDiff, Int.reduceToNat, Int.reducePow, Int.reduceLT, Int.reduceEq, Int.reduceNeg, Nat.reducePow, List.reduceReplicate, Int.reduceLE, h, hc, hg, h30, hfu, hgl, hgl2, eq_self, Int.lt_irrefl]))
    | (with_reducible intro h; try simp only [h, go_sem, Nat.reduceBEq, Nat.reduceLT, Nat.reduceEqDiff, reduceIte, Nat.reduceAdd, Nat.reduceMul, Nat.reduceSub, Nat.reduceLeDiff, Int.reduceToNat, Int.reducePow, Int.reduceLT, Int.reduceEq, Int.reduceNeg, Nat.reducePow, List.reduceReplicate, Int.reduceLE, hc, hg, h30, hfu, hgl, hgl2, eq_self, Int.lt_irrefl])
    | ((first | (with_reducible refine acall.det (harm _) ?_) | (with_reducible refine qcall.det (harm _) ?_) | (with_reducible refine acall.det (hwr _) ?_) | (with_reducible refine qcall.det (hwr _) ?_) | (with_reducible refine acall.det (hnx _) ?_) | (with_reducible refine qcall.det (hnx _) ?_) | (with_reducible refine acall.det (hwk _) ?_) | (with_reducible refine qcall.det (hwk _) ?_) | (with_reducible refine acall.det (ha _) ?_) | (with_reducible refine qcall.det (ha _) ?_) | (with_reducible refine acall.det (hla _) ?_) | (with_reducible refine qcall.det (hla _) ?_)); try simp (disch := omega) only [go_sem, Nat.reduceBEq, Nat.reduceLT, Nat.reduceEqDiff, reduceIte, Nat.reduceAdd, Nat.reduceMul, Nat.reduceSub, Nat.reduceLeDiff, Int.reduceToNat, Int.reducePow, Int.reduceLT, Int.reduceEq, Int.reduceNeg, Nat.reducePow, List.reduceReplicate, Int.reduceLE, hc, hg, h30, hfu, hgl, hgl2, eq_self, Int.lt_irrefl])
    | ((first | (with_reducible refine hcall.det (fun _ => harm _) ?_) | (with_reducible refine hcall.det (fun _ => hwr _) ?_) | (with_reducible refine hcall.det (fun _ => hnx _) ?_) | (with_reducible refine hcall.det (fun _ => hwk _) ?_) | (with_reducible refine hcall.det (fun _ => ha _) ?_) | (with_reducible refine hcall.det (fun _ => hla _) ?_)); try simp (disch := omega) only [go_sem, Nat.reduceBEq, Nat.reduceLT, Nat.reduceEqDiff, reduceIte, Nat.reduceAdd, Nat.reduceMul, Nat.reduceSub, Nat.reduceLeDiff, Int.reduceToNat, Int.reducePow, Int.reduceLT, Int.reduceEq, Int.reduceNeg, Nat.reducePow, List.reduceReplicate, Int.reduceLE, hc, hg, h30, hfu, hgl, hgl2, eq_self, Int.lt_irrefl]))
  refine ⟨⟨(i + 1, s', ⟨q, g, no⟩), by dsimp only; omega, hG, by dsimp only; omega, by dsimp only; omega⟩, ?_, by dsimp only; omega⟩
  dsimp only [nvS]
  refine Coe.cutN (M := [_, _]) ?_ (lt_stN _ _ _ _ _ (by simp)) (lt_bx _ _ _ _ _ _ _)
  simp (disch := omega) only [Keeps, List.mem_cons, List.not_mem_nil, or_false, forall_eq_or_imp, forall_eq, Int.natCast_add, Int.natCast_one, go_sem, Nat.reduceBEq, Nat.reduceLT, Nat.reduceEqDiff, reduceIte, Nat.reduceAdd, Nat.reduceMul, Nat.reduceSub, Nat.reduceLeDiff, Int.reduceToNat, Int.reducePow, Int.reduceLT, Int.reduceEq, Int.reduceNeg, Nat.reducePow, List.reduceReplicate, Int.reduceLE]

set_option maxHeartbeats 8000000 in
theorem nv_ffer (l : List Tn) (i : Nat) (s : List (List UInt8)) (q g : Int) (no : List UInt8) (hl100 : ¬ (100 : Int) < (l.length : Int)) (hi : i ≤ l.length) (hgood : Good s ⟨q, g, no⟩) (hq : q ≤ (i : Int) + 1) (hgg : g ≤ (i : Int) + 1) (hc : (i : Int) < (l.length : Int))
    (fu : Int) (note : List UInt8) (hg : l[i]? = some ⟨false, fu, note⟩) (hf0 : 0 ≤ fu) (hf1 : fu ≤ 255) (hnl : note.length ≤ 9223372036854775807) (h30 : ¬ (30 : Int) < (note.length : Int)) (hfu : fu < 255)
    (s' : List (List UInt8)) (e : jput ⟨s, fu, false⟩ ⟨q + 1, g, note⟩ = (⟨s', -1, true⟩, R0, 9)) (hG : Good s' ⟨q, g, no⟩)
    (base : Nat) (w : World) (H : List Box) (β : Pl) (hI : Inv base w H β) (Q : AExit → ASt → Prop) (body : Code) (hbody : (Try.f7.body).bind firstLoop = some body) :
    AWP Try.prog ⟨base, 161, w, H, β, hI⟩ body (AExit.then (fun σ' => ∃ i' : NvI l, Coe ⟨base, 161, w, H, β, hI⟩ σ' (nvS l H i') ∧ l.length - i'.1.1 < l.length - i) Q) (nvS l H ⟨(i, s, ⟨q, g, no⟩), hi, hgood, hq, hgg⟩) := by
  have hm := jmay_spec hgood.may
  dsimp only at hm
  have hy1 : jmay ⟨q + 1, g, note⟩ = true := by simp only [jmay, decide_eq_true_eq]; exact ⟨by omega, by omega, by omega, by omega, by omega⟩
  have hy2 : jmay ⟨q + 1, g + 1, note⟩ = true := by simp only [jmay, decide_eq_true_eq]; exact ⟨by omega, by omega, by omega, by omega, by omega⟩
  have hlen := hgood.len
  have hwr := fun H => write_spec ⟨s, fu, false⟩ g note (by dsimp only; omega) (by dsimp only; omega) hgood.a64 hnl H
  have harm := fun H => arm_spec s (-1) fu (by omega) hgood.a64 (by omega) (by omega) H
  rw [hgood.write (f := fu) (by omega) (g := g) (n := note) (by dsimp only; omega) hy1] at hwr
  have hgl : ¬ g = g + 1 := by omega
  have hgl2 : ¬ g + 1 < g := by omega
  rw [e] at hwr
  obtain ⟨ha, hla, hwk⟩ := nv_fin s' _ hG
  have ha := ha (-1) (by omega)
  have hwr : ∀ H, ASpec Try.prog 26 [.agg [.lst 64 (secG s), vi fu, vb false], vi g, vs note] H (Gives (.tup [.agg [.lst 64 (secG s'), vi (-1), vb true], .agg [vi 0, vi 0, vs []], vi 9]) H) := hwr
  dsimp only at hla
  dsimp only [firstLoop, Option.bind, Try.f7] at hbody
  injection hbody with hbody
  subst hbody
  dsimp only [nvS]
  repeat' (first
    | (refine AWP.seq ?_)
    | (refine AWP.block ?_)
    | (refine AWP.drawH_k (id := 15) 0 [(.same, []), (.same, []), (.same, []), (.same, []), (.same, []), (.same, []), (.same, []), (.same, []), (.same, []), (.same, []), (.same, [0]), (.wr 0, [])] rfl (by decide +kernel) fun Q' hQ' => ?_)
    | (refine AWP.drawH0_k (id := 15) 0 [(.same, []), (.same, []), (.same, []), (.same, []), (.same, []), (.same, []), (.same, []), (.same, []), (.same, []), (.same, []), (.same, [0]), (.wr 0, [])] rfl (by decide +kernel) fun Q' hQ' => ?_)
    | (refine AWP.drawH_k (id := 17) 2 [(.same, [3, 4]), (.same, [3, 4]), (.same, [3, 4]), (.same, [3, 4]), (.same, [3, 4]), (.same, [3, 4]), (.same, [3, 4]), (.same, [3, 4]), (.same, [3, 4]), (.same, [3, 4]), (.same, [3, 4]), (.same, [3, 4]), (.same, [3, 4]), (.new 3, [4]), (.new 4, [3]), (.wr 3, []), (.wr 4, []), (.same, [])] rfl (by decide +kernel) fun Q' hQ' => ?_)
    | (refine AWP.drawH0_k (id := 17) 2 [(.same, [3, 4]), (.same, [3, 4]), (.same, [3, 4]), (.same, [3, 4]), (.same, [3, 4]), (.same, [3, 4]), (.same, [3, 4]), (.same, [3, 4]), (.same, [3, 4]), (.same, [3, 4]), (.same, [3, 4]), (.same, [3, 4]), (.same, [3, 4]), (.new 3, [4]), (.new 4, [3]), (.wr 3, []), (.wr 4, []), (.same, [])] rfl (by decide +kernel) fun Q' hQ' => ?_)
    | (refine AWP.drawH_k (id := 19) 0 [(.same, []), (.same, []), (.same, []), (.same, []), (.same, []), (.same, []), (.same, []), (.same, []), (.same, []), (.same, [3]), (.same, [3, 4]), (.wr 3, []), (.wr 4, []), (.same, [])] rfl (by decide +kernel) fun Q' hQ' => ?_)
    | (refine AWP.drawH0_k (id := 19) 0 [(.same, []), (.same, []), (.same, []), (.same, []), (.same, []), (.same, []), (.same, []), (.same, []), (.same, []), (.same, [3]), (.same, [3, 4]), (.wr 3, []), (.wr 4, []), (.same, [])] rfl (by decide +kernel) fun Q' hQ' => ?_)
    | (refine AWP.drawH_k (id := 32) 0 [(.same, []), (.same, [0]), (.wr 0, []), (.wr 1, [])] rfl (by decide +kernel) fun Q' hQ' => ?_)
    | (refine AWP.drawH0_k (id := 32) 0 [(.same, []), (.same, [0]), (.wr 0, []), (.wr 1, [])] rfl (by decide +kernel) fun Q' hQ' => ?_)
    | (with_reducible refine hops.step fun T hT => ?_; simp (disch := omega) only [hone, hskip, patch, hole, List.headD_cons, List.tail_cons, Prod.mk.injEq, eq_self, and_assoc, exists_and_left, List.append_cancel_left_eq, List.cons.injEq, go_sem, Nat.reduceBEq, Nat.reduceLT, Nat.reduceEqDiff, reduceIte, Nat.reduceAdd, Nat.reduceMul, Nat.reduceSub, Nat.reduceLeDiff, Int.reduceToNat, Int.reducePow, Int.reduceLT, Int.reduceEq, Int.reduceNeg, Nat.reducePow, List.reduceReplicate, Int.reduceLE, hc, hg, h30, hfu, hgl, hgl2, eq_self, Int.lt_irrefl])
    | (with_reducible refine hops.nil ?_)
    | (with_reducible refine hT _ _ ?_; clear hT T)
    | (refine AWP.region_k fun Q' hQ' => ?_)
    | (refine AWP.drawT_k rfl (by decide +kernel) fun Q' hQ' => ?_; simp only [List.length_cons, List.length_nil, Nat.reduceAdd, Nat.reduceSub, List.take_succ_cons, List.take_zero, List.drop_succ_cons, List.drop_zero])
    | (refine AWP.draw_k rfl (by kernel_rfl) fun Q' hQ' => ?_)
    | (with_reducible refine aops.step fun T hT => ?_; simp (disch := omega) only [go_sem, Nat.reduceBEq, Nat.reduceLT, Nat.reduceEqDiff, reduceIte, Nat.reduceAdd, Nat.reduceMul, Nat.reduceSub, Nat.reduceLeDiff, Int.reduceToNat, Int.reducePow, Int.reduceLT, Int.reduceEq, Int.reduceNeg, Nat.reducePow, List.reduceReplicate, Int.reduceLE, hc, hg, h30, hfu, hgl, hgl2, eq_self, Int.lt_irrefl])
    | (with_reducible refine qops.step fun T hT => ?_; simp (disch := omega) only [go_sem, Nat.reduceBEq, Nat.reduceLT, Nat.reduceEqDiff, reduceIte, Nat.reduceAdd, Nat.reduceMul, Nat.reduceSub, Nat.reduceLeDiff, Int.reduceToNat, Int.reducePow, Int.reduceLT, Int.reduceEq, Int.reduceNeg, Nat.reducePow, List.reduceReplicate, Int.reduceLE, hc, hg, h30, hfu, hgl, hgl2, eq_self, Int.lt_irrefl])
    | (with_reducible refine aops.nil ?_)
    | (with_reducible refine qops.nil ?_)
    | (with_reducible refine hT _ ?_; clear hT T)
    | (refine AWP.skip ?_; try simp only [AExit.then, AExit.inBlock, reduceIte, Nat.reduceEqDiff])
    | (refine AWP.exit ?_; try simp only [AExit.then, AExit.inBlock, reduceIte, Nat.reduceEqDiff])
    | (refine AWP.ret ?_; try simp only [AExit.then, AExit.inBlock, reduceIte, Nat.reduceEqDiff])
    | (refine AWP.cond rfl (fun h => ?_) (fun h => ?_) <;> (try simp only [decide_eq_true_eq, decide_eq_false_iff_not, Bool.true_eq_false, Bool.false_eq_true] at h) <;> (try contradiction))
    | (refine hQ' _ _ ?_; clear hQ' Q'; try simp only [AExit.then, AExit.inBlock, reduceIte, Nat.reduceEqDiff])
    | (refine hQ' _ ?_; clear hQ' Q'; try simp only [AExit.then, AExit.inBlock, reduceIte, Nat.reduceEqDiff])
    | (with_reducible refine Branch.split (fun h => ?_) (fun h => ?_) <;> (try simp only [decide_eq_true_eq, decide_eq_false_iff_not, Bool.not_true, Bool.not_false, Bool.true_eq_false, Bool.false_eq_true] at h) <;> (try contradiction) <;> (simp (disch := omega) only [go_sem, Nat.reduceBEq, Nat.reduceLT, Nat.reduceEqDiff, reduceIte, Nat.reduceAdd, Nat.reduceMul, Nat.reduceSub, Nat.reduceLeDiff, Int.reduceToNat, Int.reducePow, Int.reduceLT, Int.reduceEq, Int.reduceNeg, Nat.reducePow, List.reduceReplicate, Int.reduceLE, h, hc, hg, h30, hfu, hgl, hgl2, eq_self, Int.lt_irrefl]))
    | (with_reducible intro h; try simp only [h, go_sem, Nat.reduceBEq, Nat.reduceLT, Nat.reduceEqDiff, reduceIte, Nat.reduceAdd, Nat.reduceMul, Nat.reduceSub, Nat.reduceLeDiff, Int.reduceToNat, Int.reducePow, Int.reduceLT, Int.reduceEq, Int.reduceNeg, Nat.reducePow, List.reduceReplicate, Int.reduceLE, hc, hg, h30, hfu, hgl, hgl2, eq_self, Int.lt_irrefl])
    | ((first | (with_reducible refine acall.det (harm _) ?_) | (with_reducible refine qcall.det (harm _) ?_) | (with_reducible refine acall.det (hwr _) ?_) | (with_reducible refine qcall.det (hwr _) ?_) | (with_reducible refine acall.det (hwk _) ?_) | (with_reducible refine qcall.det (hwk _) ?_) | (with_reducible refine acall.det (ha _) ?_) | (with_reducible refine qcall.det (ha _) ?_) | (with_reducible refine acall.det (hla _) ?_) | (with_reducible refine qcall.det (hla _) ?_)); try simp (disch := omega) only [go_sem, Nat.reduceBEq, Nat.reduceLT, Nat.reduceEqDiff, reduceIte, Nat.reduceAdd, Nat.reduceMul, Nat.reduceSub, Nat.reduceLeDiff, Int.reduceToNat, Int.reducePow, Int.reduceLT, Int.reduceEq, Int.reduceNeg, Nat.reducePow, List.reduceReplicate, Int.reduceLE, hc, hg, h30, hfu, hgl, hgl2, eq_self, Int.lt_irrefl])
    | ((first | (with_reducible refine hcall.det (fun _ => harm _) ?_) | (with_reducible refine hcall.det (fun _ => hwr _) ?_) | (with_reducible refine hcall.det (fun _ => hwk _) ?_) | (with_reducible refine hcall.det (fun _ => ha _) ?_) | (with_reducible refine hcall.det (fun _ => hla _) ?_)); try simp (disch := omega) only [go_sem, Nat.reduceBEq, Nat.reduceLT, Nat.reduceEqDiff, reduceIte, Nat.reduceAdd, Nat.reduceMul, Nat.reduceSub, Nat.reduceLeDiff, Int.reduceToNat, Int.reducePow, Int.reduceLT, Int.reduceEq, Int.reduceNeg, Nat.reducePow, List.reduceReplicate, Int.reduceLE, hc, hg, h30, hfu, hgl, hgl2, eq_self, Int.lt_irrefl]))
  refine ⟨⟨(i + 1, s', ⟨q, g, no⟩), by dsimp only; omega, hG, by dsimp only; omega, by dsimp only; omega⟩, ?_, by dsimp only; omega⟩
  dsimp only [nvS]
  refine Coe.cutN (M := [_, _]) ?_ (lt_stN _ _ _ _ _ (by simp)) (lt_bx _ _ _ _ _ _ _)
  simp (disch := omega) only [Keeps, List.mem_cons, List.not_mem_nil, or_false, forall_eq_or_imp, forall_eq, Int.natCast_add, Int.natCast_one, go_sem, Nat.reduceBEq, Nat.reduceLT, Nat.reduceEqDiff, reduceIte, Nat.reduceAdd, Nat.reduceMul, Nat.reduceSub, Nat.reduceLeDiff, Int.reduceToNat, Int.reducePow, Int.reduceLT, Int.reduceEq, Int.reduceNeg, Nat.reducePow, List.reduceReplicate, Int.reduceLE]

set_option maxHeartbeats 8000000 in
theorem nv_nfok (l : List Tn) (i : Nat) (s : List (List UInt8)) (q g : Int) (no : List UInt8) (hl100 : ¬ (100 : Int) < (l.length : Int)) (hi : i ≤ l.length) (hgood : Good s ⟨q, g, no⟩) (hq : q ≤ (i : Int) + 1) (hgg : g ≤ (i : Int) + 1) (hc : (i : Int) < (l.length : Int))
    (fu : Int) (note : List UInt8) (hg : l[i]? = some ⟨false, fu, note⟩) (hf0 : 0 ≤ fu) (hf1 : fu ≤ 255) (hnl : note.length ≤ 9223372036854775807) (h30 : ¬ (30 : Int) < (note.length : Int)) (hfu : ¬ fu < 255)
    (s' : List (List UInt8)) (f' : Int) (e : jput ⟨s, (-1), false⟩ ⟨q + 1, g, note⟩ = (⟨s', f', false⟩, ⟨q + 1, g, note⟩, 0)) (hf' : -1 ≤ f') (hG : Good s' ⟨q + 1, g, note⟩)
    (base : Nat) (w : World) (H : List Box) (β : Pl) (hI : Inv base w H β) (Q : AExit → ASt → Prop) (body : Code) (hbody : (Try.f7.body).bind firstLoop = some body) :
    AWP Try.prog ⟨base, 161, w, H, β, hI⟩ body (AExit.then (fun σ' => ∃ i' : NvI l, Coe ⟨base, 161, w, H, β, hI⟩ σ' (nvS l H i') ∧ l.length - i'.1.1 < l.length - i) Q) (nvS l H ⟨(i, s, ⟨q, g, no⟩), hi, hgood, hq, hgg⟩) := by
  have hm := jmay_spec hgood.may
  dsimp only at hm
  have hy1 : jmay ⟨q + 1, g, note⟩ = true := by simp only [jmay, decide_eq_true_eq]; exact ⟨by omega, by omega, by omega, by omega, by omega⟩
  have hy2 : jmay ⟨q + 1, g + 1, note⟩ = true := by simp only [jmay, decide_eq_true_eq]; exact ⟨by omega, by omega, by omega, by omega, by omega⟩
  have hlen := hgood.len
  have hwr := fun H => write_spec ⟨s, (-1), false⟩ g note (by dsimp only; omega) (by dsimp only; omega) hgood.a64 hnl H
  rw [hgood.write (f := (-1)) (by omega) (g := g) (n := note) (by dsimp only; omega) hy1] at hwr
  have hgl : ¬ g = g + 1 := by omega
  have hgl2 : ¬ g + 1 < g := by omega
  rw [e] at hwr
  obtain ⟨ha, hla, hwk⟩ := nv_fin s' _ hG
  have ha := ha f' hf'
  have hwr : ∀ H, ASpec Try.prog 26 [.agg [.lst 64 (secG s), vi (-1), vb false], vi g, vs note] H (Gives (.tup [.agg [.lst 64 (secG s'), vi f', vb false], .agg [vi (q + 1), vi (g), vs note], vi 0]) H) := hwr
  dsimp only at hla
  dsimp only [firstLoop, Option.bind, Try.f7] at hbody
  injection hbody with hbody
  subst hbody
  dsimp only [nvS]
  repeat' (first
    | (refine AWP.seq ?_)
    | (refine AWP.block ?_)
    | (refine AWP.drawH_k (id := 15) 0 [(.same, []), (.same, []), (.same, []), (.same, []), (.same, []), (.same, []), (.same, []), (.same, []), (.same, []), (.same, []), (.same, [0]), (.wr 0, [])] rfl (by decide +kernel) fun Q' hQ' => ?_)
    | (refine AWP.drawH0_k (id := 15) 0 [(.same, []), (.same, []), (.same, []), (.same, []), (.same, []), (.same, []), (.same, []), (.same, []), (.same, []), (.same, []), (.same, [0]), (.wr 0, [])] rfl (by decide +kernel) fun Q' hQ' => ?_)
    | (refine AWP.drawH_k (id := 17) 2 [(.same, [3, 4]), (.same, [3, 4]), (.same, [3, 4]), (.same, [3, 4]), (.same, [3, 4]), (.same, [3, 4]), (.same, [3, 4]), (.same, [3, 4]), (.same, [3, 4]), (.same, [3, 4]), (.same, [3, 4]), (.same, [3, 4]), (.same, [3, 4]), (.new 3, [4]), (.new 4, [3]), (.wr 3, []), (.wr 4, []), (.same, [])] rfl (by decide +kernel) fun Q' hQ' => ?_)
    | (refine AWP.drawH0_k (id := 17) 2 [(.same, [3, 4]), (.same, [3, 4]), (.same, [3, 4]), (.same, [3, 4]), (.same, [3, 4]), (.same, [3, 4]), (.same, [3, 4]), (.same, [3, 4]), (.same, [3, 4]), (.same, [3, 4]), (.same, [3, 4]), (.same, [3, 4]), (.same, [3, 4]), (.new 3, [4]), (.new 4, [3]), (.wr 3, []), (.wr 4, []), (.same, [])] rfl (by decide +kernel) fun Q' hQ' => ?_)
    | (refine AWP.drawH_k (id := 19) 0 [(.same, []), (.same, []), (.same, []), (.same, []), (.same, []), (.same, []), (.same, []), (.same, []), (.same, []), (.same, [3]), (.same, [3, 4]), (.wr 3, []), (.wr 4, []), (.same, [])] rfl (by decide +kernel) fun Q' hQ' => ?_)
    | (refine AWP.drawH0_k (id := 19) 0 [(.same, []), (.same, []), (.same, []), (.same, []), (.same, []), (.same, []), (.same, []), (.same, []), (.same, []), (.same, [3]), (.same, [3, 4]), (.wr 3, []), (.wr 4, []), (.same, [])] rfl (by decide +kernel) fun Q' hQ' => ?_)
    | (refine AWP.drawH_k (id := 32) 0 [(.same, []), (.same, [0]), (.wr 0, []), (.wr 1, [])] rfl (by decide +kernel) fun Q' hQ' => ?_)
    | (refine AWP.drawH0_k (id := 32) 0 [(.same, []), (.same, [0]), (.wr 0, []), (.wr 1, [])] rfl (by decide +kernel) fun Q' hQ' => ?_)
    | (with_reducible refine hops.step fun T hT => ?_; simp (disch := omega) only [hone, hskip, patch, hole, List.headD_cons, List.tail_cons, Prod.mk.injEq, eq_self, and_assoc, exists_and_left, List.append_cancel_left_eq, List.cons.injEq, go_sem, Nat.reduceBEq, Nat.reduceLT, Nat.reduceEqDiff, reduceIte, Nat.reduceAdd, Nat.reduceMul, Nat.reduceSub, Nat.reduceLeDiff, Int.reduceToNat, Int.reducePow, Int.reduceLT, Int.reduceEq, Int.reduceNeg, Nat.reducePow, List.reduceReplicate, Int.reduceLE, hc, hg, h30, hfu, hgl, hgl2, eq_self, Int.lt_irrefl])
    | (with_reducible refine hops.nil ?_)
    | (with_reducible refine hT _ _ ?_; clear hT T)
    | (refine AWP.region_k fun Q' hQ' => ?_)
    | (refine AWP.drawT_k rfl (by decide +kernel) fun Q' hQ' => ?_; simp only [List.length_cons, List.length_nil, Nat.reduceAdd, Nat.reduceSub, List.take_succ_cons, List.take_zero, List.drop_succ_cons, List.drop_zero])
    | (refine AWP.draw_k rfl (by kernel_rfl) fun Q' hQ' => ?_)
    | (with_reducible refine aops.step fun T hT => ?_; simp (disch := omega) only [go_sem, Nat.reduceBEq, Nat.reduceLT, Nat.reduceEqDiff, reduceIte, Nat.reduceAdd, Nat.reduceMul, Nat.reduceSub, Nat.reduceLeDiff, Int.reduceToNat, Int.reducePow, Int.reduceLT, Int.reduceEq, Int.reduceNeg, Nat.reducePow, List.reduceReplicate, Int.reduceLE, hc, hg, h30, hfu, hgl, hgl2, eq_self, Int.lt_irrefl])
    | (with_reducible refine qops.step fun T hT => ?_; simp (disch := omega) only [go_sem, Nat.reduceBEq, Nat.reduceLT, Nat.reduceEqDiff, reduceIte, Nat.reduceAdd, Nat.reduceMul, Nat.reduceSub, Nat.reduceLeDiff, Int.reduceToNat, Int.reducePow, Int.reduceLT, Int.reduceEq, Int.reduceNeg, Nat.reducePow, List.reduceReplicate, Int.reduceLE, hc, hg, h30, hfu, hgl, hgl2, eq_self, Int.lt_irrefl])
    | (with_reducible refine aops.nil ?_)
    | (with_reducible refine qops.nil ?_)
    | (with_reducible refine hT _ ?_; clear hT T)
    | (refine AWP.skip ?_; try simp only [AExit.then, AExit.inBlock, reduceIte, Nat.reduceEqDiff])
    | (refine AWP.exit ?_; try simp only [AExit.then, AExit.inBlock, reduceIte, Nat.reduceEqDiff])
    | (refine AWP.ret ?_; try simp only [AExit.then, AExit.inBlock, reduceIte, Nat.reduceEqDiff])
    | (refine AWP.cond rfl (fun h => ?_) (fun h => ?_) <;> (try simp only [decide_eq_true_eq, decide_eq_false_iff_not, Bool.true_eq_false, Bool.false_eq_true] at h) <;> (try contradiction))
    | (refine hQ' _ _ ?_; clear hQ' Q'; try simp only [AExit.then, AExit.inBlock, reduceIte, Nat.reduceEqDiff])
    | (refine hQ' _ ?_; clear hQ' Q'; try simp only [AExit.then, AExit.inBlock, reduceIte, Nat.reduceEqDiff])
    | (with_reducible refine Branch.split (fun h => ?_) (fun h => ?_) <;> (try simp only [decide_eq_true_eq, decide_eq_false_iff_not, Bool.not_true, Bool.not_false, Bool.true_eq_false, Bool.false_eq_true] at h) <;> (try contradiction) <;> (simp (disch := omega) only [go_sem, Nat.reduceBEq, Nat.reduceLT, Nat.reduceEqDiff, reduceIte, Nat.reduceAdd, Nat.reduceMul, Nat.reduceSub, Nat.reduceLeDiff, Int.reduceToNat, Int.reducePow, Int.reduceLT, Int.reduceEq, Int.reduceNeg, Nat.reducePow, List.reduceReplicate, Int.reduceLE, h, hc, hg, h30, hfu, hgl, hgl2, eq_self, Int.lt_irrefl]))
    | (with_reducible intro h; try simp only [h, go_sem, Nat.reduceBEq, Nat.reduceLT, Nat.reduceEqDiff, reduceIte, Nat.reduceAdd, Nat.reduceMul, Nat.reduceSub, Nat.reduceLeDiff, Int.reduceToNat, Int.reducePow, Int.reduceLT, Int.reduceEq, Int.reduceNeg, Nat.reducePow, List.reduceReplicate, Int.reduceLE, hc, hg, h30, hfu, hgl, hgl2, eq_self, Int.lt_irrefl])
    | ((first | (with_reducible refine acall.det (hwr _) ?_) | (with_reducible refine qcall.det (hwr _) ?_) | (with_reducible refine acall.det (ha _) ?_) | (with_reducible refine qcall.det (ha _) ?_) | (with_reducible refine acall.det (hla _) ?_) | (with_reducible refine qcall.det (hla _) ?_)); try simp (disch := omega) only [go_sem, Nat.reduceBEq, Nat.reduceLT, Nat.reduceEqDiff, reduceIte, Nat.reduceAdd, Nat.reduceMul, Nat.reduceSub, Nat.reduceLeDiff, Int.reduceToNat, Int.reducePow, Int.reduceLT, Int.reduceEq, Int.reduceNeg, Nat.reducePow, List.reduceReplicate, Int.reduceLE, hc, hg, h30, hfu, hgl, hgl2, eq_self, Int.lt_irrefl])
    | ((first | (with_reducible refine hcall.det (fun _ => hwr _) ?_) | (with_reducible refine hcall.det (fun _ => ha _) ?_) | (with_reducible refine hcall.det (fun _ => hla _) ?_)); try simp (disch := omega) only [go_sem, Nat.reduceBEq, Nat.reduceLT, Nat.reduceEqDiff, reduceIte, Nat.reduceAdd, Nat.reduceMul, Nat.reduceSub, Nat.reduceLeDiff, Int.reduceToNat, Int.reducePow, Int.reduceLT, Int.reduceEq, Int.reduceNeg, Nat.reducePow, List.reduceReplicate, Int.reduceLE, hc, hg, h30, hfu, hgl, hgl2, eq_self, Int.lt_irrefl]))
  refine ⟨⟨(i + 1, s', ⟨q + 1, g, note⟩), by dsimp only; omega, hG, by dsimp only; omega, by dsimp only; omega⟩, ?_, by dsimp only; omega⟩
  dsimp only [nvS]
  refine Coe.cutN (M := [_, _]) ?_ (lt_stN _ _ _ _ _ (by simp)) (lt_bx _ _ _ _ _ _ _)
  simp (disch := omega) only [Keeps, List.mem_cons, List.not_mem_nil, or_false, forall_eq_or_imp, forall_eq, Int.natCast_add, Int.natCast_one, go_sem, Nat.reduceBEq, Nat.reduceLT, Nat.reduceEqDiff, reduceIte, Nat.reduceAdd, Nat.reduceMul, Nat.reduceSub, Nat.reduceLeDiff, Int.reduceToNat, Int.reducePow, Int.reduceLT, Int.reduceEq, Int.reduceNeg, Nat.reducePow, List.reduceReplicate, Int.reduceLE]

end Go.Proofs.Ytkkhbmpcpilmfaa.VL
