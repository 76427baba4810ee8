/- Library: strings.Builder's text. -/
import Derived.Test.YtkkhbmpcpilmfaaDoorStrB
-- STEPWISE
-- HOLE 1 0 [(.same, []), (.same, []), (.same, []), (.same, []), (.same, []), (.same, []), (.same, []), (.same, []), (.same, []), (.same, []), (.wr 1, []), (.same, [])]
set_option linter.unusedVariables false
set_option linter.unusedSimpArgs false
set_option maxRecDepth 100000
namespace Go.Proofs.YtkkhbmpcpilmfaaDoor.VL
open Go Go.RowKit Go.Lib

set_option maxHeartbeats 1000000 in
theorem bldString1_spec (g : Nat) (bs : List UInt8) (h0 : ¬ bs.length = 0) (hbs : bs.length ≤ 140737488355328) (H : List Box) :
    ASpec Tryd.prog 39 [.ptr H.length 0 0] (bldH H g bs) (Gives (vs bs) (H ++ [⟨[.bself H.length 0 45, .bs (H.length + 1) g bs.length 5], 0, 0, false⟩, ⟨bytesC bs, bs.length, g, true⟩])) := by
  simp only [bldH, bldB]
  intro base
  refine acall_body Tryd.func39 rfl (fun a w => Tryd.call39 a w) Tryd.ntmps39 Tryd.results39 (by simp) ?_
  intro w β hI
  simp only [number]
  repeat' (first
    | (refine AWP.seq ?_)
    | (refine AWP.block ?_)
    | (refine AWP.drawH_k (id := 1) 0 [(.same, []), (.same, []), (.same, []), (.same, []), (.same, []), (.same, []), (.same, []), (.same, []), (.same, []), (.same, []), (.wr 1, []), (.same, [])] rfl (by decide +kernel) fun Q' hQ' => ?_)
    | (refine AWP.drawH0_k (id := 1) 0 [(.same, []), (.same, []), (.same, []), (.same, []), (.same, []), (.same, []), (.same, []), (.same, []), (.same, []), (.same, []), (.wr 1, []), (.same, [])] rfl (by decide +kernel) fun Q' hQ' => ?_)
    | (with_reducible refine hops.step fun T hT => ?_; simp (disch := omega) only [hone, hskip, patch, hole, List.headD_cons, List.tail_cons, Prod.mk.injEq, eq_self, and_assoc, exists_and_left, List.append_cancel_left_eq, List.cons.injEq, go_sem, Nat.reduceBEq, Nat.reduceLT, Nat.reduceEqDiff, reduceIte, Nat.reduceAdd, Nat.reduceMul, Nat.reduceSub, Nat.reduceLeDiff, Int.reduceToNat, Int.reducePow, Int.reduceLT, Int.reduceEq, Int.reduceNeg, Nat.reducePow, List.reduceReplicate, Int.reduceLE, h0])
    | (with_reducible refine hops.nil ?_)
    | (with_reducible refine hT _ _ ?_; clear hT T)
    | (refine AWP.region_k fun Q' hQ' => ?_)
    | (refine AWP.draw_k rfl (by kernel_rfl) fun Q' hQ' => ?_)
    | (with_reducible refine aops.step fun T hT => ?_; simp (disch := omega) only [go_sem, Nat.reduceBEq, Nat.reduceLT, Nat.reduceEqDiff, reduceIte, Nat.reduceAdd, Nat.reduceMul, Nat.reduceSub, Nat.reduceLeDiff, Int.reduceToNat, Int.reducePow, Int.reduceLT, Int.reduceEq, Int.reduceNeg, Nat.reducePow, List.reduceReplicate, Int.reduceLE, h0])
    | (with_reducible refine qops.step fun T hT => ?_; simp (disch := omega) only [go_sem, Nat.reduceBEq, Nat.reduceLT, Nat.reduceEqDiff, reduceIte, Nat.reduceAdd, Nat.reduceMul, Nat.reduceSub, Nat.reduceLeDiff, Int.reduceToNat, Int.reducePow, Int.reduceLT, Int.reduceEq, Int.reduceNeg, Nat.reducePow, List.reduceReplicate, Int.reduceLE, h0])
    | (with_reducible refine aops.nil ?_)
    | (with_reducible refine qops.nil ?_)
    | (with_reducible refine hT _ ?_; clear hT T)
    | (refine AWP.skip ?_; try simp only [AExit.then, AExit.inBlock, reduceIte, Nat.reduceEqDiff])
    | (refine AWP.exit ?_; try simp only [AExit.then, AExit.inBlock, reduceIte, Nat.reduceEqDiff])
    | (refine AWP.ret ?_; try simp only [AExit.then, AExit.inBlock, reduceIte, Nat.reduceEqDiff])
    | (refine AWP.cond rfl (fun h => ?_) (fun h => ?_) <;> (try simp only [decide_eq_true_eq, decide_eq_false_iff_not, Bool.true_eq_false, Bool.false_eq_true] at h) <;> (try contradiction))
    | (refine hQ' _ _ ?_; clear hQ' Q'; try simp only [AExit.then, AExit.inBlock, reduceIte, Nat.reduceEqDiff])
    | (refine hQ' _ ?_; clear hQ' Q'; try simp only [AExit.then, AExit.inBlock, reduceIte, Nat.reduceEqDiff])
    | (with_reducible refine Branch.split (fun h => ?_) (fun h => ?_) <;> (try simp only [decide_eq_true_eq, decide_eq_false_iff_not, Bool.not_true, Bool.not_false, Bool.true_eq_false, Bool.false_eq_true] at h) <;> (try contradiction) <;> (simp (disch := omega) only [go_sem, Nat.reduceBEq, Nat.reduceLT, Nat.reduceEqDiff, reduceIte, Nat.reduceAdd, Nat.reduceMul, Nat.reduceSub, Nat.reduceLeDiff, Int.reduceToNat, Int.reducePow, Int.reduceLT, Int.reduceEq, Int.reduceNeg, Nat.reducePow, List.reduceReplicate, Int.reduceLE, h, h0]))
    | (with_reducible intro h; try simp only [h, go_sem, Nat.reduceBEq, Nat.reduceLT, Nat.reduceEqDiff, reduceIte, Nat.reduceAdd, Nat.reduceMul, Nat.reduceSub, Nat.reduceLeDiff, Int.reduceToNat, Int.reducePow, Int.reduceLT, Int.reduceEq, Int.reduceNeg, Nat.reducePow, List.reduceReplicate, Int.reduceLE, h0]))
  simp only [bodyQ, go_sem, Nat.reduceBEq, Nat.reduceLT, Nat.reduceEqDiff, reduceIte, Nat.reduceAdd, Nat.reduceMul, Nat.reduceSub, Nat.reduceLeDiff, Int.reduceToNat, Int.reducePow, Int.reduceLT, Int.reduceEq, Int.reduceNeg, Nat.reducePow, List.reduceReplicate, Int.reduceLE]
  exact ⟨_, _, Shed.refl _ _ _, rfl, rfl⟩
theorem bldString_spec (g : Nat) (bs : List UInt8) (hbs : bs.length ≤ 140737488355328) (H : List Box) :
    ASpec Tryd.prog 39 [.ptr H.length 0 0] (bldH H g bs) (Gives (vs bs) (H ++ [⟨[.bself H.length 0 45, .bs (H.length + 1) g bs.length 5], 0, 0, false⟩, ⟨bytesC bs, bs.length, g, true⟩])) := by
  by_cases h0 : bs.length = 0
  · have : bs = [] := List.eq_nil_of_length_eq_zero h0
    subst this
    exact bldString00_spec g H
  · exact bldString1_spec g bs h0 hbs H

/-- A fresh builder as one that holds no bytes. -/
theorem Coe.bld {E : Ent} {l : List (Nat × AV)} : Coe E ⟨l, E.H ++ [⟨[.bself E.H.length 0 45, .v (.slice none 0 0)], 0, 0, false⟩]⟩ ⟨l, bldH E.H 0 []⟩ := fun a w ⟨β, hs⟩ => by
  obtain ⟨i1, i2⟩ := newv hs.inv 0 0 rfl
  have hlen : (E.H ++ [(⟨[.bself E.H.length 0 45, .v (.slice none 0 0)], 0, 0, false⟩ : Box)]).length = E.H.length + 1 := by simp
  dsimp only at i1 i2
  rw [hlen, List.append_assoc] at i1 i2
  have hb : (E.H ++ ([(⟨[.bself E.H.length 0 45, .v (.slice none 0 0)], 0, 0, false⟩ : Box)] ++ [(⟨[], 0, 0, true⟩ : Box)]))[E.H.length]? = some ⟨[.bself E.H.length 0 45, .v (.slice none 0 0)], 0, 0, false⟩ := by simp
  have hd : (E.H ++ ([(⟨[.bself E.H.length 0 45, .v (.slice none 0 0)], 0, 0, false⟩ : Box)] ++ [(⟨[], 0, 0, true⟩ : Box)]))[E.H.length + 1]? = some ⟨[], 0, 0, true⟩ := by simp
  have hset : (E.H ++ ([(⟨[.bself E.H.length 0 45, .v (.slice none 0 0)], 0, 0, false⟩ : Box)] ++ [(⟨[], 0, 0, true⟩ : Box)])).set E.H.length (⟨[.bself E.H.length 0 45, .bs (E.H.length + 1) 0 0 5], 0, 0, false⟩ : Box) = bldH E.H 0 [] := by
    rw [List.set_append_right _ _ (Nat.le_refl _), Nat.sub_self]; rfl
  cases hβ : updn β (E.H.length + 1) E.H.length with
  | none =>
    have := i1.virt _ _ hb hβ
    simp at this
  | some p =>
    obtain ⟨k, s⟩ := p
    obtain ⟨q1, q2⟩ := i1.real _ _ _ _ hb hβ
    have hcells := i1.cells _ _ _ _ hb hβ
    obtain ⟨g1, g2⟩ := repl (w' := w) (bx' := ⟨[.bself E.H.length 0 45, .bs (E.H.length + 1) 0 0 5], 0, 0, false⟩) (k' := k) (s' := s) i1 hb (Wor.refl _) (fun _ _ => False) (fun _ _ h => h.elim) (fun _ _ _ _ => rfl)
      ⟨q1, q2⟩ (Nat.zero_le _) (.inr ⟨s, hβ, Nat.le_refl _, Nat.le_refl _, fun h => h, .inr (Nat.le_refl _)⟩) (Nat.le_refl _) (fun _ => hβ) (fun h => by omega) (fun j c hj => by
        rcases j with _ | _ | j
        · simp at hj
          subst hj
          exact hcells 0 _ rfl
        · obtain ⟨x, e1, e2, e3⟩ := hcells 1 _ rfl
          simp at hj
          subst hj
          cases e3
          refine ⟨_, e1, e2, .bs _ _ _ _ _ _ hd (Nat.le_refl _) ⟨_, _, _, rfl, .inl rfl⟩ (fun _ => ⟨none, 0, rfl, Nat.le_refl _, by simp, fun h => by omega⟩) fun a m cap ha h0 => ?_⟩
          injection ha with a1 a2 a3
          omega
        · simp at hj)
    rw [hset] at g1 g2
    exact ⟨_, ⟨hs.defers, hs.size, g1, hs.stp.trans (i2.trans g2), fun k => ((hs.tmps k).stp i2).stp g2⟩⟩

end Go.Proofs.YtkkhbmpcpilmfaaDoor.VL
