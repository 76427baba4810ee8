/- Layer 13: how sectors' records are found. -/
import Derived.Test.YtkkhbmpcpilmfaaJrnA
-- STEPWISE
-- TAIL
set_option linter.unusedVariables false
set_option linter.unusedSimpArgs false
set_option maxRecDepth 10000
namespace Go.Proofs.Ytkkhbmpcpilmfaa.VL
open Go Go.RowKit Go.Lib

abbrev rcT (x : Rc × Int) : AV := .tup [rcV x.1, vi x.2]
theorem lt_rcV (q g : Int) (n : List UInt8) : Lt 0 (.agg [vi q, vi g, vs n]) := (Lt.v _).cons_agg ((Lt.v _).cons_agg ((Lt.v _).cons_agg .nil_agg))
theorem lt_rcT (q g : Int) (n : List UInt8) (e : Int) : Lt 0 (.tup [.agg [vi q, vi g, vs n], vi e]) := (lt_rcV q g n).cons_tup ((Lt.v _).cons_tup .nil_tup)
theorem jfind_eq {b b2 b3 b4 n : List UInt8} {k g : Nat} {e1 e2 e3 : Int} (h1 : tk b = (k, b2, e1)) (h2 : tk b2 = (g, b3, e2)) (h3 : tt b3 30 = (n, b4, e3)) :
    jfind b = if e1 = 0 ∧ e2 = 0 ∧ e3 = 0 ∧ jmay ⟨k, g, n⟩ = true ∧ recB ⟨k, g, n⟩ = b then (⟨k, g, n⟩, 0) else (R0, 10) := by
  have hx : jx b = ⟨k, g, n⟩ := by simp only [jx, h1, h2, h3]
  unfold jfind
  by_cases hh : e1 = 0 ∧ e2 = 0 ∧ e3 = 0 ∧ jmay ⟨k, g, n⟩ = true ∧ recB ⟨k, g, n⟩ = b
  · rw [if_pos hh, if_pos (by
      unfold jgood
      rw [hx]
      simp only [h1, h2, h3]
      simp [hh]), hx]
  · rw [if_neg hh, if_neg (fun hg => hh (by
      have := jgood_spec hg
      rw [hx] at this
      simp only [h1, h2, h3] at this
      exact this))]
theorem jgood_rest' {b b2 b3 b4 n : List UInt8} {k g : Nat} (hb : b.length = 64) (h1 : tk b = (k, b2, 0)) (h2 : tk b2 = (g, b3, 0)) (h3 : tt b3 30 = (n, b4, 0)) (hm : jmay ⟨k, g, n⟩ = true) (he : recB ⟨k, g, n⟩ = b) : 5 ≤ b4.length := by
  have hx : jx b = ⟨k, g, n⟩ := by simp only [jx, h1, h2, h3]
  have := jgood_rest hb (by rw [h1]) (by rw [h1]; simp only [h2]) (by rw [h1]; simp only [h2, h3]) (by rw [hx]; exact hm) (by rw [hx]; exact he)
  simpa only [h1, h2, h3] using this

set_option maxHeartbeats 4000000 in
theorem find_spec (b : List UInt8) (hb : b.length = 64) (H : List Box) : ASpec Try.prog 59 [.agg (bytesC b)] H (Gives (rcT (jfind b)) H) := by
  have hbt : b.take 64 = b := List.take_of_length_le (by omega)
  have hz := zerosB_length 64
  have n1 := fun H => take_spec b (by omega) H
  have f1 : (tk b).2.1.length ≤ b.length ∧ (tk b).1 ≤ 4611686018427387904 ∧ 0 ≤ (tk b).2.2 ∧ (tk b).2.2 ≤ 3 := tkGo_facts 9 0 0 b
  generalize hx1 : tk b = x1 at n1 f1
  obtain ⟨k, b2, e1⟩ := x1
  dsimp only at f1
  have n2 := fun H => take_spec b2 (by omega) H
  have f2 : (tk b2).2.1.length ≤ b2.length ∧ (tk b2).1 ≤ 4611686018427387904 ∧ 0 ≤ (tk b2).2.2 ∧ (tk b2).2.2 ≤ 3 := tkGo_facts 9 0 0 b2
  generalize hx2 : tk b2 = x2 at n2 f2
  obtain ⟨g, b3, e2⟩ := x2
  dsimp only at f2
  have n3 := fun H => takeText_spec b3 30 (by omega) H
  have f3 := tt_facts b3 30
  generalize hx3 : tt b3 30 = x3 at n3 f3
  obtain ⟨n, b4, e3⟩ := x3
  dsimp only at f3
  rw [jfind_eq hx1 hx2 hx3]
  by_cases h1 : e1 = 0
  · by_cases h2 : e2 = 0
    · have n4 := fun H => lay_spec ⟨k, g, n⟩ (by dsimp only; omega) H
      have hjl := jlay_length ⟨k, g, n⟩
      by_cases hgood : e3 = 0 ∧ jmay ⟨k, g, n⟩ = true ∧ recB ⟨k, g, n⟩ = b
      · rw [if_pos ⟨h1, h2, hgood⟩]
        obtain ⟨h3, hm, hr⟩ := hgood
        have n4 : ∀ H, ASpec Try.prog 70 [.agg [vi k, vi g, vs n]] H (Gives (.tup [.agg (bytesC b), vi 0]) H) := fun H => by
          have := n4 H
          unfold layV jlay jlayE at this
          rw [if_pos hm, if_pos hm, hr] at this
          exact this
        subst h1; subst h2; subst h3
        intro base
        refine acall_body Try.func59 rfl (fun a w => Try.call59 a w) Try.ntmps59 Try.results59 (by simp) ?_
        intro w β hI
        simp only [number]
        repeat' (first
          | (refine AWP.seq ?_)
          | (refine AWP.block ?_)
          | (refine AWP.region_k fun Q' hQ' => ?_)
          | (refine AWP.drawT_k rfl (by decide +kernel) fun Q' hQ' => ?_; simp only [List.length_cons, List.length_nil, Nat.reduceAdd, Nat.reduceSub, List.take_succ_cons, List.take_zero, List.drop_succ_cons, List.drop_zero])
          | (refine AWP.draw_k rfl (by kernel_rfl) fun Q' hQ' => ?_)
          | (with_reducible refine aops.step fun T hT => ?_; simp (disch := omega) only [go_sem, Nat.reduceBEq, Nat.reduceLT, Nat.reduceEqDiff, reduceIte, Nat.reduceAdd, Nat.reduceMul, Nat.reduceSub, Nat.reduceLeDiff, Int.reduceToNat, Int.reducePow, Int.reduceLT, Int.reduceEq, Int.reduceNeg, Nat.reducePow, List.reduceReplicate, Int.reduceLE, hb, hbt, viewB, Nat.le_refl, tkV, ttV, eq_self])
          | (with_reducible refine qops.step fun T hT => ?_; simp (disch := omega) only [go_sem, Nat.reduceBEq, Nat.reduceLT, Nat.reduceEqDiff, reduceIte, Nat.reduceAdd, Nat.reduceMul, Nat.reduceSub, Nat.reduceLeDiff, Int.reduceToNat, Int.reducePow, Int.reduceLT, Int.reduceEq, Int.reduceNeg, Nat.reducePow, List.reduceReplicate, Int.reduceLE, hb, hbt, viewB, Nat.le_refl, tkV, ttV, eq_self])
          | (with_reducible refine aops.nil ?_)
          | (with_reducible refine qops.nil ?_)
          | (with_reducible refine hT _ ?_; clear hT T)
          | (refine AWP.skip ?_; try simp only [AExit.then, AExit.inBlock, reduceIte, Nat.reduceEqDiff])
          | (refine AWP.exit ?_; try simp only [AExit.then, AExit.inBlock, reduceIte, Nat.reduceEqDiff])
          | (refine AWP.ret ?_; try simp only [AExit.then, AExit.inBlock, reduceIte, Nat.reduceEqDiff])
          | (refine AWP.cond rfl (fun h => ?_) (fun h => ?_) <;> (try simp only [decide_eq_true_eq, decide_eq_false_iff_not, Bool.true_eq_false, Bool.false_eq_true] at h) <;> (try contradiction))
          | (refine hQ' _ _ ?_; clear hQ' Q'; try simp only [AExit.then, AExit.inBlock, reduceIte, Nat.reduceEqDiff])
          | (refine hQ' _ ?_; clear hQ' Q'; try simp only [AExit.then, AExit.inBlock, reduceIte, Nat.reduceEqDiff])
          | (with_reducible refine Branch.split (fun h => ?_) (fun h => ?_) <;> (try simp only [decide_eq_true_eq, decide_eq_false_iff_not, Bool.not_true, Bool.not_false, Bool.true_eq_false, Bool.false_eq_true] at h) <;> (try contradiction) <;> (simp (disch := omega) only [go_sem, Nat.reduceBEq, Nat.reduceLT, Nat.reduceEqDiff, reduceIte, Nat.reduceAdd, Nat.reduceMul, Nat.reduceSub, Nat.reduceLeDiff, Int.reduceToNat, Int.reducePow, Int.reduceLT, Int.reduceEq, Int.reduceNeg, Nat.reducePow, List.reduceReplicate, Int.reduceLE, h, hb, hbt, viewB, Nat.le_refl, tkV, ttV, eq_self]))
          | (with_reducible intro h; try simp only [h, go_sem, Nat.reduceBEq, Nat.reduceLT, Nat.reduceEqDiff, reduceIte, Nat.reduceAdd, Nat.reduceMul, Nat.reduceSub, Nat.reduceLeDiff, Int.reduceToNat, Int.reducePow, Int.reduceLT, Int.reduceEq, Int.reduceNeg, Nat.reducePow, List.reduceReplicate, Int.reduceLE, hb, hbt, viewB, Nat.le_refl, tkV, ttV, eq_self])
          | ((first | (with_reducible refine acall.det (n1 _) ?_) | (with_reducible refine qcall.det (n1 _) ?_) | (with_reducible refine acall.det (n2 _) ?_) | (with_reducible refine qcall.det (n2 _) ?_) | (with_reducible refine acall.det (n3 _) ?_) | (with_reducible refine qcall.det (n3 _) ?_) | (with_reducible refine acall.det (n4 _) ?_) | (with_reducible refine qcall.det (n4 _) ?_)); try simp (disch := omega) only [go_sem, Nat.reduceBEq, Nat.reduceLT, Nat.reduceEqDiff, reduceIte, Nat.reduceAdd, Nat.reduceMul, Nat.reduceSub, Nat.reduceLeDiff, Int.reduceToNat, Int.reducePow, Int.reduceLT, Int.reduceEq, Int.reduceNeg, Nat.reducePow, List.reduceReplicate, Int.reduceLE, hb, hbt, viewB, Nat.le_refl, tkV, ttV, eq_self])
          | (with_reducible refine acall.em0 ?_)
          | (with_reducible refine acall.em1 ?_)
          | (with_reducible refine qcall.em0 ?_)
          | (with_reducible refine qcall.em1 ?_)
          | ((first | (with_reducible refine acall.fz0 ?_) | (with_reducible refine acall.fz1 ?_)); simp (disch := omega) only [go_sem, Nat.reduceBEq, Nat.reduceLT, Nat.reduceEqDiff, reduceIte, Nat.reduceAdd, Nat.reduceMul, Nat.reduceSub, Nat.reduceLeDiff, Int.reduceToNat, Int.reducePow, Int.reduceLT, Int.reduceEq, Int.reduceNeg, Nat.reducePow, List.reduceReplicate, Int.reduceLE, hb, hbt, viewB, Nat.le_refl, tkV, ttV, eq_self]))
        simp only [bodyQ, go_sem, Nat.reduceBEq, Nat.reduceLT, Nat.reduceEqDiff, reduceIte, Nat.reduceAdd, Nat.reduceMul, Nat.reduceSub, Nat.reduceLeDiff, Int.reduceToNat, Int.reducePow, Int.reduceLT, Int.reduceEq, Int.reduceNeg, Nat.reducePow, List.reduceReplicate, Int.reduceLE]
        exact Fin.cut (lt_rcT _ _ _ _) ⟨rfl, rfl⟩
      · rw [if_neg (fun hh => hgood ⟨hh.2.2.1, hh.2.2.2.1, hh.2.2.2.2⟩)]
        have n4 : ∀ H, ASpec Try.prog 70 [.agg [vi k, vi g, vs n]] H (Gives (.tup [.agg (bytesC (jlay ⟨k, g, n⟩)), vi (jlayE ⟨k, g, n⟩)]) H) := n4
        have hbad : ¬ e3 = 0 ∨ ¬ jlayE ⟨k, g, n⟩ = 0 ∨ ¬ jlay ⟨k, g, n⟩ = b := by
          by_cases h3 : e3 = 0
          · by_cases hm : jmay ⟨k, g, n⟩ = true
            · refine .inr (.inr fun hr => hgood ⟨h3, hm, ?_⟩)
              rw [jlay, if_pos hm] at hr
              exact hr
            · refine .inr (.inl ?_)
              rw [jlayE, if_neg hm]; decide
          · exact .inl h3
        generalize jlay ⟨k, g, n⟩ = c at n4 hjl hbad
        generalize jlayE ⟨k, g, n⟩ = ce at n4 hbad
        have hct : c.take 64 = c := List.take_of_length_le (by omega)
        subst h1; subst h2
        by_cases h3 : e3 = 0
        · by_cases hce : ce = 0
          · have hcb : ¬ c = b := by
              rcases hbad with h | h | h
              · exact absurd h3 h
              · exact absurd hce h
              · exact h
            intro base
            refine acall_body Try.func59 rfl (fun a w => Try.call59 a w) Try.ntmps59 Try.results59 (by simp) ?_
            intro w β hI
            simp only [number]
            repeat' (first
              | (refine AWP.seq ?_)
              | (refine AWP.block ?_)
              | (refine AWP.region_k fun Q' hQ' => ?_)
              | (refine AWP.drawT_k rfl (by decide +kernel) fun Q' hQ' => ?_; simp only [List.length_cons, List.length_nil, Nat.reduceAdd, Nat.reduceSub, List.take_succ_cons, List.take_zero, List.drop_succ_cons, List.drop_zero])
              | (refine AWP.draw_k rfl (by kernel_rfl) fun Q' hQ' => ?_)
              | (with_reducible refine aops.step fun T hT => ?_; simp (disch := omega) only [go_sem, Nat.reduceBEq, Nat.reduceLT, Nat.reduceEqDiff, reduceIte, Nat.reduceAdd, Nat.reduceMul, Nat.reduceSub, Nat.reduceLeDiff, Int.reduceToNat, Int.reducePow, Int.reduceLT, Int.reduceEq, Int.reduceNeg, Nat.reducePow, List.reduceReplicate, Int.reduceLE, hb, hbt, hjl, hct, h3, hce, hcb, viewB, Nat.le_refl, tkV, ttV, eq_self])
              | (with_reducible refine qops.step fun T hT => ?_; simp (disch := omega) only [go_sem, Nat.reduceBEq, Nat.reduceLT, Nat.reduceEqDiff, reduceIte, Nat.reduceAdd, Nat.reduceMul, Nat.reduceSub, Nat.reduceLeDiff, Int.reduceToNat, Int.reducePow, Int.reduceLT, Int.reduceEq, Int.reduceNeg, Nat.reducePow, List.reduceReplicate, Int.reduceLE, hb, hbt, hjl, hct, h3, hce, hcb, viewB, Nat.le_refl, tkV, ttV, eq_self])
              | (with_reducible refine aops.nil ?_)
              | (with_reducible refine qops.nil ?_)
              | (with_reducible refine hT _ ?_; clear hT T)
              | (refine AWP.skip ?_; try simp only [AExit.then, AExit.inBlock, reduceIte, Nat.reduceEqDiff])
              | (refine AWP.exit ?_; try simp only [AExit.then, AExit.inBlock, reduceIte, Nat.reduceEqDiff])
              | (refine AWP.ret ?_; try simp only [AExit.then, AExit.inBlock, reduceIte, Nat.reduceEqDiff])
              | (refine AWP.cond rfl (fun h => ?_) (fun h => ?_) <;> (try simp only [decide_eq_true_eq, decide_eq_false_iff_not, Bool.true_eq_false, Bool.false_eq_true] at h) <;> (try contradiction))
              | (refine hQ' _ _ ?_; clear hQ' Q'; try simp only [AExit.then, AExit.inBlock, reduceIte, Nat.reduceEqDiff])
              | (refine hQ' _ ?_; clear hQ' Q'; try simp only [AExit.then, AExit.inBlock, reduceIte, Nat.reduceEqDiff])
              | (with_reducible refine Branch.split (fun h => ?_) (fun h => ?_) <;> (try simp only [decide_eq_true_eq, decide_eq_false_iff_not, Bool.not_true, Bool.not_false, Bool.true_eq_false, Bool.false_eq_true] at h) <;> (try contradiction) <;> (simp (disch := omega) only [go_sem, Nat.reduceBEq, Nat.reduceLT, Nat.reduceEqDiff, reduceIte, Nat.reduceAdd, Nat.reduceMul, Nat.reduceSub, Nat.reduceLeDiff, Int.reduceToNat, Int.reducePow, Int.reduceLT, Int.reduceEq, Int.reduceNeg, Nat.reducePow, List.reduceReplicate, Int.reduceLE, h, hb, hbt, hjl, hct, h3, hce, hcb, viewB, Nat.le_refl, tkV, ttV, eq_self]))
              | (with_reducible intro h; try simp only [h, go_sem, Nat.reduceBEq, Nat.reduceLT, Nat.reduceEqDiff, reduceIte, Nat.reduceAdd, Nat.reduceMul, Nat.reduceSub, Nat.reduceLeDiff, Int.reduceToNat, Int.reducePow, Int.reduceLT, Int.reduceEq, Int.reduceNeg, Nat.reducePow, List.reduceReplicate, Int.reduceLE, hb, hbt, hjl, hct, h3, hce, hcb, viewB, Nat.le_refl, tkV, ttV, eq_self])
              | ((first | (with_reducible refine acall.det (n1 _) ?_) | (with_reducible refine qcall.det (n1 _) ?_) | (with_reducible refine acall.det (n2 _) ?_) | (with_reducible refine qcall.det (n2 _) ?_) | (with_reducible refine acall.det (n3 _) ?_) | (with_reducible refine qcall.det (n3 _) ?_) | (with_reducible refine acall.det (n4 _) ?_) | (with_reducible refine qcall.det (n4 _) ?_)); try simp (disch := omega) only [go_sem, Nat.reduceBEq, Nat.reduceLT, Nat.reduceEqDiff, reduceIte, Nat.reduceAdd, Nat.reduceMul, Nat.reduceSub, Nat.reduceLeDiff, Int.reduceToNat, Int.reducePow, Int.reduceLT, Int.reduceEq, Int.reduceNeg, Nat.reducePow, List.reduceReplicate, Int.reduceLE, hb, hbt, hjl, hct, h3, hce, hcb, viewB, Nat.le_refl, tkV, ttV, eq_self])
              | (with_reducible refine acall.em0 ?_)
              | (with_reducible refine acall.em1 ?_)
              | (with_reducible refine qcall.em0 ?_)
              | (with_reducible refine qcall.em1 ?_)
              | ((first | (with_reducible refine acall.fz0 ?_) | (with_reducible refine acall.fz1 ?_)); simp (disch := omega) only [go_sem, Nat.reduceBEq, Nat.reduceLT, Nat.reduceEqDiff, reduceIte, Nat.reduceAdd, Nat.reduceMul, Nat.reduceSub, Nat.reduceLeDiff, Int.reduceToNat, Int.reducePow, Int.reduceLT, Int.reduceEq, Int.reduceNeg, Nat.reducePow, List.reduceReplicate, Int.reduceLE, hb, hbt, hjl, hct, h3, hce, hcb, viewB, Nat.le_refl, tkV, ttV, eq_self]))
            simp only [bodyQ, go_sem, Nat.reduceBEq, Nat.reduceLT, Nat.reduceEqDiff, reduceIte, Nat.reduceAdd, Nat.reduceMul, Nat.reduceSub, Nat.reduceLeDiff, Int.reduceToNat, Int.reducePow, Int.reduceLT, Int.reduceEq, Int.reduceNeg, Nat.reducePow, List.reduceReplicate, Int.reduceLE]
            exact Fin.cut (lt_rcT _ _ _ _) ⟨rfl, rfl⟩
          · intro base
            refine acall_body Try.func59 rfl (fun a w => Try.call59 a w) Try.ntmps59 Try.results59 (by simp) ?_
            intro w β hI
            simp only [number]
            repeat' (first
              | (refine AWP.seq ?_)
              | (refine AWP.block ?_)
              | (refine AWP.region_k fun Q' hQ' => ?_)
              | (refine AWP.drawT_k rfl (by decide +kernel) fun Q' hQ' => ?_; simp only [List.length_cons, List.length_nil, Nat.reduceAdd, Nat.reduceSub, List.take_succ_cons, List.take_zero, List.drop_succ_cons, List.drop_zero])
              | (refine AWP.draw_k rfl (by kernel_rfl) fun Q' hQ' => ?_)
              | (with_reducible refine aops.step fun T hT => ?_; simp (disch := omega) only [go_sem, Nat.reduceBEq, Nat.reduceLT, Nat.reduceEqDiff, reduceIte, Nat.reduceAdd, Nat.reduceMul, Nat.reduceSub, Nat.reduceLeDiff, Int.reduceToNat, Int.reducePow, Int.reduceLT, Int.reduceEq, Int.reduceNeg, Nat.reducePow, List.reduceReplicate, Int.reduceLE, hb, hbt, hjl, hct, h3, hce, viewB, Nat.le_refl, tkV, ttV, eq_self])
              | (with_reducible refine qops.step fun T hT => ?_; simp (disch := omega) only [go_sem, Nat.reduceBEq, Nat.reduceLT, Nat.reduceEqDiff, reduceIte, Nat.reduceAdd, Nat.reduceMul, Nat.reduceSub, Nat.reduceLeDiff, Int.reduceToNat, Int.reducePow, Int.reduceLT, Int.reduceEq, Int.reduceNeg, Nat.reducePow, List.reduceReplicate, Int.reduceLE, hb, hbt, hjl, hct, h3, hce, viewB, Nat.le_refl, tkV, ttV, eq_self])
              | (with_reducible refine aops.nil ?_)
              | (with_reducible refine qops.nil ?_)
              | (with_reducible refine hT _ ?_; clear hT T)
              | (refine AWP.skip ?_; try simp only [AExit.then, AExit.inBlock, reduceIte, Nat.reduceEqDiff])
              | (refine AWP.exit ?_; try simp only [AExit.then, AExit.inBlock, reduceIte, Nat.reduceEqDiff])
              | (refine AWP.ret ?_; try simp only [AExit.then, AExit.inBlock, reduceIte, Nat.reduceEqDiff])
              | (refine AWP.cond rfl (fun h => ?_) (fun h => ?_) <;> (try simp only [decide_eq_true_eq, decide_eq_false_iff_not, Bool.true_eq_false, Bool.false_eq_true] at h) <;> (try contradiction))
              | (refine hQ' _ _ ?_; clear hQ' Q'; try simp only [AExit.then, AExit.inBlock, reduceIte, Nat.reduceEqDiff])
              | (refine hQ' _ ?_; clear hQ' Q'; try simp only [AExit.then, AExit.inBlock, reduceIte, Nat.reduceEqDiff])
              | (with_reducible refine Branch.split (fun h => ?_) (fun h => ?_) <;> (try simp only [decide_eq_true_eq, decide_eq_false_iff_not, Bool.not_true, Bool.not_false, Bool.true_eq_false, Bool.false_eq_true] at h) <;> (try contradiction) <;> (simp (disch := omega) only [go_sem, Nat.reduceBEq, Nat.reduceLT, Nat.reduceEqDiff, reduceIte, Nat.reduceAdd, Nat.reduceMul, Nat.reduceSub, Nat.reduceLeDiff, Int.reduceToNat, Int.reducePow, Int.reduceLT, Int.reduceEq, Int.reduceNeg, Nat.reducePow, List.reduceReplicate, Int.reduceLE, h, hb, hbt, hjl, hct, h3, hce, viewB, Nat.le_refl, tkV, ttV, eq_self]))
              | (with_reducible intro h; try simp only [h, go_sem, Nat.reduceBEq, Nat.reduceLT, Nat.reduceEqDiff, reduceIte, Nat.reduceAdd, Nat.reduceMul, Nat.reduceSub, Nat.reduceLeDiff, Int.reduceToNat, Int.reducePow, Int.reduceLT, Int.reduceEq, Int.reduceNeg, Nat.reducePow, List.reduceReplicate, Int.reduceLE, hb, hbt, hjl, hct, h3, hce, viewB, Nat.le_refl, tkV, ttV, eq_self])
              | ((first | (with_reducible refine acall.det (n1 _) ?_) | (with_reducible refine qcall.det (n1 _) ?_) | (with_reducible refine acall.det (n2 _) ?_) | (with_reducible refine qcall.det (n2 _) ?_) | (with_reducible refine acall.det (n3 _) ?_) | (with_reducible refine qcall.det (n3 _) ?_) | (with_reducible refine acall.det (n4 _) ?_) | (with_reducible refine qcall.det (n4 _) ?_)); try simp (disch := omega) only [go_sem, Nat.reduceBEq, Nat.reduceLT, Nat.reduceEqDiff, reduceIte, Nat.reduceAdd, Nat.reduceMul, Nat.reduceSub, Nat.reduceLeDiff, Int.reduceToNat, Int.reducePow, Int.reduceLT, Int.reduceEq, Int.reduceNeg, Nat.reducePow, List.reduceReplicate, Int.reduceLE, hb, hbt, hjl, hct, h3, hce, viewB, Nat.le_refl, tkV, ttV, eq_self])
              | (with_reducible refine acall.em0 ?_)
              | (with_reducible refine acall.em1 ?_)
              | (with_reducible refine qcall.em0 ?_)
              | (with_reducible refine qcall.em1 ?_)
              | ((first | (with_reducible refine acall.fz0 ?_) | (with_reducible refine acall.fz1 ?_)); simp (disch := omega) only [go_sem, Nat.reduceBEq, Nat.reduceLT, Nat.reduceEqDiff, reduceIte, Nat.reduceAdd, Nat.reduceMul, Nat.reduceSub, Nat.reduceLeDiff, Int.reduceToNat, Int.reducePow, Int.reduceLT, Int.reduceEq, Int.reduceNeg, Nat.reducePow, List.reduceReplicate, Int.reduceLE, hb, hbt, hjl, hct, h3, hce, viewB, Nat.le_refl, tkV, ttV, eq_self]))
            simp only [bodyQ, go_sem, Nat.reduceBEq, Nat.reduceLT, Nat.reduceEqDiff, reduceIte, Nat.reduceAdd, Nat.reduceMul, Nat.reduceSub, Nat.reduceLeDiff, Int.reduceToNat, Int.reducePow, Int.reduceLT, Int.reduceEq, Int.reduceNeg, Nat.reducePow, List.reduceReplicate, Int.reduceLE]
            exact Fin.cut (lt_rcT _ _ _ _) ⟨rfl, rfl⟩
        · intro base
          refine acall_body Try.func59 rfl (fun a w => Try.call59 a w) Try.ntmps59 Try.results59 (by simp) ?_
          intro w β hI
          simp only [number]
          repeat' (first
            | (refine AWP.seq ?_)
            | (refine AWP.block ?_)
            | (refine AWP.region_k fun Q' hQ' => ?_)
            | (refine AWP.drawT_k rfl (by decide +kernel) fun Q' hQ' => ?_; simp only [List.length_cons, List.length_nil, Nat.reduceAdd, Nat.reduceSub, List.take_succ_cons, List.take_zero, List.drop_succ_cons, List.drop_zero])
            | (refine AWP.draw_k rfl (by kernel_rfl) fun Q' hQ' => ?_)
            | (with_reducible refine aops.step fun T hT => ?_; simp (disch := omega) only [go_sem, Nat.reduceBEq, Nat.reduceLT, Nat.reduceEqDiff, reduceIte, Nat.reduceAdd, Nat.reduceMul, Nat.reduceSub, Nat.reduceLeDiff, Int.reduceToNat, Int.reducePow, Int.reduceLT, Int.reduceEq, Int.reduceNeg, Nat.reducePow, List.reduceReplicate, Int.reduceLE, hb, hbt, hjl, hct, h3, viewB, Nat.le_refl, tkV, ttV, eq_self])
            | (with_reducible refine qops.step fun T hT => ?_; simp (disch := omega) only [go_sem, Nat.reduceBEq, Nat.reduceLT, Nat.reduceEqDiff, reduceIte, Nat.reduceAdd, Nat.reduceMul, Nat.reduceSub, Nat.reduceLeDiff, Int.reduceToNat, Int.reducePow, Int.reduceLT, Int.reduceEq, Int.reduceNeg, Nat.reducePow, List.reduceReplicate, Int.reduceLE, hb, hbt, hjl, hct, h3, viewB, Nat.le_refl, tkV, ttV, eq_self])
            | (with_reducible refine aops.nil ?_)
            | (with_reducible refine qops.nil ?_)
            | (with_reducible refine hT _ ?_; clear hT T)
            | (refine AWP.skip ?_; try simp only [AExit.then, AExit.inBlock, reduceIte, Nat.reduceEqDiff])
            | (refine AWP.exit ?_; try simp only [AExit.then, AExit.inBlock, reduceIte, Nat.reduceEqDiff])
            | (refine AWP.ret ?_; try simp only [AExit.then, AExit.inBlock, reduceIte, Nat.reduceEqDiff])
            | (refine AWP.cond rfl (fun h => ?_) (fun h => ?_) <;> (try simp only [decide_eq_true_eq, decide_eq_false_iff_not, Bool.true_eq_false, Bool.false_eq_true] at h) <;> (try contradiction))
            | (refine hQ' _ _ ?_; clear hQ' Q'; try simp only [AExit.then, AExit.inBlock, reduceIte, Nat.reduceEqDiff])
            | (refine hQ' _ ?_; clear hQ' Q'; try simp only [AExit.then, AExit.inBlock, reduceIte, Nat.reduceEqDiff])
            | (with_reducible refine Branch.split (fun h => ?_) (fun h => ?_) <;> (try simp only [decide_eq_true_eq, decide_eq_false_iff_not, Bool.not_true, Bool.not_false, Bool.true_eq_false, Bool.false_eq_true] at h) <;> (try contradiction) <;> (simp (disch := omega) only [go_sem, Nat.reduceBEq, Nat.reduceLT, Nat.reduceEqDiff, reduceIte, Nat.reduceAdd, Nat.reduceMul, Nat.reduceSub, Nat.reduceLeDiff, Int.reduceToNat, Int.reducePow, Int.reduceLT, Int.reduceEq, Int.reduceNeg, Nat.reducePow, List.reduceReplicate, Int.reduceLE, h, hb, hbt, hjl, hct, h3, viewB, Nat.le_refl, tkV, ttV, eq_self]))
            | (with_reducible intro h; try simp only [h, go_sem, Nat.reduceBEq, Nat.reduceLT, Nat.reduceEqDiff, reduceIte, Nat.reduceAdd, Nat.reduceMul, Nat.reduceSub, Nat.reduceLeDiff, Int.reduceToNat, Int.reducePow, Int.reduceLT, Int.reduceEq, Int.reduceNeg, Nat.reducePow, List.reduceReplicate, Int.reduceLE, hb, hbt, hjl, hct, h3, viewB, Nat.le_refl, tkV, ttV, eq_self])
            | ((first | (with_reducible refine acall.det (n1 _) ?_) | (with_reducible refine qcall.det (n1 _) ?_) | (with_reducible refine acall.det (n2 _) ?_) | (with_reducible refine qcall.det (n2 _) ?_) | (with_reducible refine acall.det (n3 _) ?_) | (with_reducible refine qcall.det (n3 _) ?_) | (with_reducible refine acall.det (n4 _) ?_) | (with_reducible refine qcall.det (n4 _) ?_)); try simp (disch := omega) only [go_sem, Nat.reduceBEq, Nat.reduceLT, Nat.reduceEqDiff, reduceIte, Nat.reduceAdd, Nat.reduceMul, Nat.reduceSub, Nat.reduceLeDiff, Int.reduceToNat, Int.reducePow, Int.reduceLT, Int.reduceEq, Int.reduceNeg, Nat.reducePow, List.reduceReplicate, Int.reduceLE, hb, hbt, hjl, hct, h3, viewB, Nat.le_refl, tkV, ttV, eq_self])
            | (with_reducible refine acall.em0 ?_)
            | (with_reducible refine acall.em1 ?_)
            | (with_reducible refine qcall.em0 ?_)
            | (with_reducible refine qcall.em1 ?_)
            | ((first | (with_reducible refine acall.fz0 ?_) | (with_reducible refine acall.fz1 ?_)); simp (disch := omega) only [go_sem, Nat.reduceBEq, Nat.reduceLT, Nat.reduceEqDiff, reduceIte, Nat.reduceAdd, Nat.reduceMul, Nat.reduceSub, Nat.reduceLeDiff, Int.reduceToNat, Int.reducePow, Int.reduceLT, Int.reduceEq, Int.reduceNeg, Nat.reducePow, List.reduceReplicate, Int.reduceLE, hb, hbt, hjl, hct, h3, viewB, Nat.le_refl, tkV, ttV, eq_self]))
          simp only [bodyQ, go_sem, Nat.reduceBEq, Nat.reduceLT, Nat.reduceEqDiff, reduceIte, Nat.reduceAdd, Nat.reduceMul, Nat.reduceSub, Nat.reduceLeDiff, Int.reduceToNat, Int.reducePow, Int.reduceLT, Int.reduceEq, Int.reduceNeg, Nat.reducePow, List.reduceReplicate, Int.reduceLE]
          exact Fin.cut (lt_rcT _ _ _ _) ⟨rfl, rfl⟩
    · rw [if_neg (fun hh => h2 hh.2.1)]
      subst h1
      intro base
      refine acall_body Try.func59 rfl (fun a w => Try.call59 a w) Try.ntmps59 Try.results59 (by simp) ?_
      intro w β hI
      simp only [number]
      repeat' (first
        | (refine AWP.seq ?_)
        | (refine AWP.block ?_)
        | (refine AWP.region_k fun Q' hQ' => ?_)
        | (refine AWP.drawT_k rfl (by decide +kernel) fun Q' hQ' => ?_; simp only [List.length_cons, List.length_nil, Nat.reduceAdd, Nat.reduceSub, List.take_succ_cons, List.take_zero, List.drop_succ_cons, List.drop_zero])
        | (refine AWP.draw_k rfl (by kernel_rfl) fun Q' hQ' => ?_)
        | (with_reducible refine aops.step fun T hT => ?_; simp (disch := omega) only [go_sem, Nat.reduceBEq, Nat.reduceLT, Nat.reduceEqDiff, reduceIte, Nat.reduceAdd, Nat.reduceMul, Nat.reduceSub, Nat.reduceLeDiff, Int.reduceToNat, Int.reducePow, Int.reduceLT, Int.reduceEq, Int.reduceNeg, Nat.reducePow, List.reduceReplicate, Int.reduceLE, hb, hbt, h2, viewB, Nat.le_refl, tkV, ttV, eq_self])
        | (with_reducible refine qops.step fun T hT => ?_; simp (disch := omega) only [go_sem, Nat.reduceBEq, Nat.reduceLT, Nat.reduceEqDiff, reduceIte, Nat.reduceAdd, Nat.reduceMul, Nat.reduceSub, Nat.reduceLeDiff, Int.reduceToNat, Int.reducePow, Int.reduceLT, Int.reduceEq, Int.reduceNeg, Nat.reducePow, List.reduceReplicate, Int.reduceLE, hb, hbt, h2, viewB, Nat.le_refl, tkV, ttV, eq_self])
        | (with_reducible refine aops.nil ?_)
        | (with_reducible refine qops.nil ?_)
        | (with_reducible refine hT _ ?_; clear hT T)
        | (refine AWP.skip ?_; try simp only [AExit.then, AExit.inBlock, reduceIte, Nat.reduceEqDiff])
        | (refine AWP.exit ?_; try simp only [AExit.then, AExit.inBlock, reduceIte, Nat.reduceEqDiff])
        | (refine AWP.ret ?_; try simp only [AExit.then, AExit.inBlock, reduceIte, Nat.reduceEqDiff])
        | (refine AWP.cond rfl (fun h => ?_) (fun h => ?_) <;> (try simp only [decide_eq_true_eq, decide_eq_false_iff_not, Bool.true_eq_false, Bool.false_eq_true] at h) <;> (try contradiction))
        | (refine hQ' _ _ ?_; clear hQ' Q'; try simp only [AExit.then, AExit.inBlock, reduceIte, Nat.reduceEqDiff])
        | (refine hQ' _ ?_; clear hQ' Q'; try simp only [AExit.then, AExit.inBlock, reduceIte, Nat.reduceEqDiff])
        | (with_reducible refine Branch.split (fun h => ?_) (fun h => ?_) <;> (try simp only [decide_eq_true_eq, decide_eq_false_iff_not, Bool.not_true, Bool.not_false, Bool.true_eq_false, Bool.false_eq_true] at h) <;> (try contradiction) <;> (simp (disch := omega) only [go_sem, Nat.reduceBEq, Nat.reduceLT, Nat.reduceEqDiff, reduceIte, Nat.reduceAdd, Nat.reduceMul, Nat.reduceSub, Nat.reduceLeDiff, Int.reduceToNat, Int.reducePow, Int.reduceLT, Int.reduceEq, Int.reduceNeg, Nat.reducePow, List.reduceReplicate, Int.reduceLE, h, hb, hbt, h2, viewB, Nat.le_refl, tkV, ttV, eq_self]))
        | (with_reducible intro h; try simp only [h, go_sem, Nat.reduceBEq, Nat.reduceLT, Nat.reduceEqDiff, reduceIte, Nat.reduceAdd, Nat.reduceMul, Nat.reduceSub, Nat.reduceLeDiff, Int.reduceToNat, Int.reducePow, Int.reduceLT, Int.reduceEq, Int.reduceNeg, Nat.reducePow, List.reduceReplicate, Int.reduceLE, hb, hbt, h2, viewB, Nat.le_refl, tkV, ttV, eq_self])
        | ((first | (with_reducible refine acall.det (n1 _) ?_) | (with_reducible refine qcall.det (n1 _) ?_) | (with_reducible refine acall.det (n2 _) ?_) | (with_reducible refine qcall.det (n2 _) ?_)); try simp (disch := omega) only [go_sem, Nat.reduceBEq, Nat.reduceLT, Nat.reduceEqDiff, reduceIte, Nat.reduceAdd, Nat.reduceMul, Nat.reduceSub, Nat.reduceLeDiff, Int.reduceToNat, Int.reducePow, Int.reduceLT, Int.reduceEq, Int.reduceNeg, Nat.reducePow, List.reduceReplicate, Int.reduceLE, hb, hbt, h2, viewB, Nat.le_refl, tkV, ttV, eq_self])
        | (with_reducible refine acall.em0 ?_)
        | (with_reducible refine acall.em1 ?_)
        | (with_reducible refine qcall.em0 ?_)
        | (with_reducible refine qcall.em1 ?_)
        | ((first | (with_reducible refine acall.fz0 ?_) | (with_reducible refine acall.fz1 ?_)); simp (disch := omega) only [go_sem, Nat.reduceBEq, Nat.reduceLT, Nat.reduceEqDiff, reduceIte, Nat.reduceAdd, Nat.reduceMul, Nat.reduceSub, Nat.reduceLeDiff, Int.reduceToNat, Int.reducePow, Int.reduceLT, Int.reduceEq, Int.reduceNeg, Nat.reducePow, List.reduceReplicate, Int.reduceLE, hb, hbt, h2, viewB, Nat.le_refl, tkV, ttV, eq_self]))
      simp only [bodyQ, go_sem, Nat.reduceBEq, Nat.reduceLT, Nat.reduceEqDiff, reduceIte, Nat.reduceAdd, Nat.reduceMul, Nat.reduceSub, Nat.reduceLeDiff, Int.reduceToNat, Int.reducePow, Int.reduceLT, Int.reduceEq, Int.reduceNeg, Nat.reducePow, List.reduceReplicate, Int.reduceLE]
      exact Fin.cut (lt_rcT _ _ _ _) ⟨rfl, rfl⟩
  · rw [if_neg (fun hh => h1 hh.1)]
    intro base
    refine acall_body Try.func59 rfl (fun a w => Try.call59 a w) Try.ntmps59 Try.results59 (by simp) ?_
    intro w β hI
    simp only [number]
    repeat' (first
      | (refine AWP.seq ?_)
      | (refine AWP.block ?_)
      | (refine AWP.region_k fun Q' hQ' => ?_)
      | (refine AWP.drawT_k rfl (by decide +kernel) fun Q' hQ' => ?_; simp only [List.length_cons, List.length_nil, Nat.reduceAdd, Nat.reduceSub, List.take_succ_cons, List.take_zero, List.drop_succ_cons, List.drop_zero])
      | (refine AWP.draw_k rfl (by kernel_rfl) fun Q' hQ' => ?_)
      | (with_reducible refine aops.step fun T hT => ?_; simp (disch := omega) only [go_sem, Nat.reduceBEq, Nat.reduceLT, Nat.reduceEqDiff, reduceIte, Nat.reduceAdd, Nat.reduceMul, Nat.reduceSub, Nat.reduceLeDiff, Int.reduceToNat, Int.reducePow, Int.reduceLT, Int.reduceEq, Int.reduceNeg, Nat.reducePow, List.reduceReplicate, Int.reduceLE, hb, hbt, h1, viewB, Nat.le_refl, tkV, ttV, eq_self])
      | (with_reducible refine qops.step fun T hT => ?_; simp (disch := omega) only [go_sem, Nat.reduceBEq, Nat.reduceLT, Nat.reduceEqDiff, reduceIte, Nat.reduceAdd, Nat.reduceMul, Nat.reduceSub, Nat.reduceLeDiff, Int.reduceToNat, Int.reducePow, Int.reduceLT, Int.reduceEq, Int.reduceNeg, Nat.reducePow, List.reduceReplicate, Int.reduceLE, hb, hbt, h1, viewB, Nat.le_refl, tkV, ttV, eq_self])
      | (with_reducible refine aops.nil ?_)
      | (with_reducible refine qops.nil ?_)
      | (with_reducible refine hT _ ?_; clear hT T)
      | (refine AWP.skip ?_; try simp only [AExit.then, AExit.inBlock, reduceIte, Nat.reduceEqDiff])
      | (refine AWP.exit ?_; try simp only [AExit.then, AExit.inBlock, reduceIte, Nat.reduceEqDiff])
      | (refine AWP.ret ?_; try simp only [AExit.then, AExit.inBlock, reduceIte, Nat.reduceEqDiff])
      | (refine AWP.cond rfl (fun h => ?_) (fun h => ?_) <;> (try simp only [decide_eq_true_eq, decide_eq_false_iff_not, Bool.true_eq_false, Bool.false_eq_true] at h) <;> (try contradiction))
      | (refine hQ' _ _ ?_; clear hQ' Q'; try simp only [AExit.then, AExit.inBlock, reduceIte, Nat.reduceEqDiff])
      | (refine hQ' _ ?_; clear hQ' Q'; try simp only [AExit.then, AExit.inBlock, reduceIte, Nat.reduceEqDiff])
      | (with_reducible refine Branch.split (fun h => ?_) (fun h => ?_) <;> (try simp only [decide_eq_true_eq, decide_eq_false_iff_not, Bool.not_true, Bool.not_false, Bool.true_eq_false, Bool.false_eq_true] at h) <;> (try contradiction) <;> (simp (disch := omega) only [go_sem, Nat.reduceBEq, Nat.reduceLT, Nat.reduceEqDiff, reduceIte, Nat.reduceAdd, Nat.reduceMul, Nat.reduceSub, Nat.reduceLeDiff, Int.reduceToNat, Int.reducePow, Int.reduceLT, Int.reduceEq, Int.reduceNeg, Nat.reducePow, List.reduceReplicate, Int.reduceLE, h, hb, hbt, h1, viewB, Nat.le_refl, tkV, ttV, eq_self]))
      | (with_reducible intro h; try simp only [h, go_sem, Nat.reduceBEq, Nat.reduceLT, Nat.reduceEqDiff, reduceIte, Nat.reduceAdd, Nat.reduceMul, Nat.reduceSub, Nat.reduceLeDiff, Int.reduceToNat, Int.reducePow, Int.reduceLT, Int.reduceEq, Int.reduceNeg, Nat.reducePow, List.reduceReplicate, Int.reduceLE, hb, hbt, h1, viewB, Nat.le_refl, tkV, ttV, eq_self])
      | ((first | (with_reducible refine acall.det (n1 _) ?_) | (with_reducible refine qcall.det (n1 _) ?_)); try simp (disch := omega) only [go_sem, Nat.reduceBEq, Nat.reduceLT, Nat.reduceEqDiff, reduceIte, Nat.reduceAdd, Nat.reduceMul, Nat.reduceSub, Nat.reduceLeDiff, Int.reduceToNat, Int.reducePow, Int.reduceLT, Int.reduceEq, Int.reduceNeg, Nat.reducePow, List.reduceReplicate, Int.reduceLE, hb, hbt, h1, viewB, Nat.le_refl, tkV, ttV, eq_self])
      | (with_reducible refine acall.em0 ?_)
      | (with_reducible refine acall.em1 ?_)
      | (with_reducible refine qcall.em0 ?_)
      | (with_reducible refine qcall.em1 ?_)
      | ((first | (with_reducible refine acall.fz0 ?_) | (with_reducible refine acall.fz1 ?_)); simp (disch := omega) only [go_sem, Nat.reduceBEq, Nat.reduceLT, Nat.reduceEqDiff, reduceIte, Nat.reduceAdd, Nat.reduceMul, Nat.reduceSub, Nat.reduceLeDiff, Int.reduceToNat, Int.reducePow, Int.reduceLT, Int.reduceEq, Int.reduceNeg, Nat.reducePow, List.reduceReplicate, Int.reduceLE, hb, hbt, h1, viewB, Nat.le_refl, tkV, ttV, eq_self]))
    simp only [bodyQ, go_sem, Nat.reduceBEq, Nat.reduceLT, Nat.reduceEqDiff, reduceIte, Nat.reduceAdd, Nat.reduceMul, Nat.reduceSub, Nat.reduceLeDiff, Int.reduceToNat, Int.reducePow, Int.reduceLT, Int.reduceEq, Int.reduceNeg, Nat.reducePow, List.reduceReplicate, Int.reduceLE]
    exact Fin.cut (lt_rcT _ _ _ _) ⟨rfl, rfl⟩

end Go.Proofs.Ytkkhbmpcpilmfaa.VL
