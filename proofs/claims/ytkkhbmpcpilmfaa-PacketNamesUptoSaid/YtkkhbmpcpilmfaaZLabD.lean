/- Layer 16: names in small letters, as the reference has them. -/
import Derived.Test.YtkkhbmpcpilmfaaZCd
import Derived.Test.YtkkhbmpcpilmfaaZLabC
-- STEPWISE
-- WK
-- OWN 1
set_option linter.unusedVariables false
set_option linter.unusedSimpArgs false
set_option maxRecDepth 10000
namespace Go.Proofs.Ytkkhbmpcpilmfaa.VL
open Go Go.RowKit Go.Lib

theorem set_same {α : Type} {l : List α} {i : Nat} {c : α} (h : l[i]? = some c) : l.set i c = l := by
  apply List.ext_getElem?
  intro k
  by_cases hk : k = i
  · subst hk; rw [List.getElem?_set_self (List.getElem?_eq_some_iff.1 h).1, h]
  · rw [List.getElem?_set_ne (Ne.symm hk)]

set_option maxHeartbeats 4000000 in
theorem refLower_spec (s : List UInt8) (hs : s.length ≤ 8796093022208) (H : List Box) : ASpec Try.prog 61 [vs s] H (Gives (vs (lowB s)) H) := by
  have hr := fun H => refRight16_spec s hs H
  unfold lowB
  have hch0 := chunk_bytesC s s.length rfl
  by_cases h0 : (0 : Int) < (s.length : Int)
  rotate_left
  · have hs0 : s = [] := List.eq_nil_of_length_eq_zero (by omega)
    subst hs0
    have hl : lab [] = none := rfl
    rw [hl, if_neg (by simp)]
    refine ASpec.enter Try.func61 rfl (fun a w => Try.call61 a w) Try.ntmps61 Try.results61 fun base w β hI => ?_
    refine wk wT (wA ((OwnM.mk (id := 1))) wT) ?_
    refine AWP.loop (ι := Unit) (fun p => ⟨[(3, .sl H.length 0 0 0 1 false), (4, vi 0)], H ++ [⟨bytesC [], 0, 0, false⟩]⟩) (fun p => 0) () ?_ ?_
    · exact Coe.kp
    · intro _
      have hbn : bytesOf [] = some [] := rfl
      repeat' (first
        | (refine AWP.seq ?_)
        | (refine AWP.block ?_)
        | (refine AWP.region_s (id := 1) fun Q' hQ' => ?_)
        | (with_reducible refine SOps.own fun T hT => ?_; simp (disch := omega) only [go_sem, Nat.reduceBEq, Nat.reduceLT, Nat.reduceEqDiff, reduceIte, Nat.reduceAdd, Nat.reduceMul, Nat.reduceSub, Nat.reduceLeDiff, Int.reduceToNat, Int.reducePow, Int.reduceLT, Int.reduceEq, Int.reduceNeg, Nat.reducePow, List.reduceReplicate, Int.reduceLE, hbn, Int.lt_irrefl])
        | (with_reducible refine SOps.step fun T hT => ?_; simp (disch := omega) only [go_sem, Nat.reduceBEq, Nat.reduceLT, Nat.reduceEqDiff, reduceIte, Nat.reduceAdd, Nat.reduceMul, Nat.reduceSub, Nat.reduceLeDiff, Int.reduceToNat, Int.reducePow, Int.reduceLT, Int.reduceEq, Int.reduceNeg, Nat.reducePow, List.reduceReplicate, Int.reduceLE, hbn, Int.lt_irrefl])
        | (with_reducible refine SOps.nil ?_)
        | (refine AWP.region_k fun Q' hQ' => ?_)
        | (refine AWP.draw_k rfl (by kernel_rfl) fun Q' hQ' => ?_)
        | (with_reducible refine aops.step fun T hT => ?_; simp (disch := omega) only [go_sem, Nat.reduceBEq, Nat.reduceLT, Nat.reduceEqDiff, reduceIte, Nat.reduceAdd, Nat.reduceMul, Nat.reduceSub, Nat.reduceLeDiff, Int.reduceToNat, Int.reducePow, Int.reduceLT, Int.reduceEq, Int.reduceNeg, Nat.reducePow, List.reduceReplicate, Int.reduceLE, hbn, Int.lt_irrefl])
        | (with_reducible refine qops.step fun T hT => ?_; simp (disch := omega) only [go_sem, Nat.reduceBEq, Nat.reduceLT, Nat.reduceEqDiff, reduceIte, Nat.reduceAdd, Nat.reduceMul, Nat.reduceSub, Nat.reduceLeDiff, Int.reduceToNat, Int.reducePow, Int.reduceLT, Int.reduceEq, Int.reduceNeg, Nat.reducePow, List.reduceReplicate, Int.reduceLE, hbn, Int.lt_irrefl])
        | (with_reducible refine aops.nil ?_)
        | (with_reducible refine qops.nil ?_)
        | (with_reducible refine hT _ ?_; clear hT T)
        | (refine AWP.skip ?_; try simp only [AExit.then, AExit.inBlock, reduceIte, Nat.reduceEqDiff])
        | (refine AWP.exit ?_; try simp only [AExit.then, AExit.inBlock, reduceIte, Nat.reduceEqDiff])
        | (refine AWP.ret ?_; try simp only [AExit.then, AExit.inBlock, reduceIte, Nat.reduceEqDiff])
        | (refine AWP.cond rfl (fun h => ?_) (fun h => ?_) <;> (try simp only [decide_eq_true_eq, decide_eq_false_iff_not, Bool.true_eq_false, Bool.false_eq_true] at h) <;> (try contradiction))
        | (refine hQ' _ _ ?_; clear hQ' Q'; try simp only [AExit.then, AExit.inBlock, reduceIte, Nat.reduceEqDiff])
        | (refine hQ' _ ?_; clear hQ' Q'; try simp only [AExit.then, AExit.inBlock, reduceIte, Nat.reduceEqDiff])
        | (with_reducible refine Branch.split (fun h => ?_) (fun h => ?_) <;> (try simp only [decide_eq_true_eq, decide_eq_false_iff_not, Bool.not_true, Bool.not_false, Bool.true_eq_false, Bool.false_eq_true] at h) <;> (try contradiction) <;> (simp (disch := omega) only [go_sem, Nat.reduceBEq, Nat.reduceLT, Nat.reduceEqDiff, reduceIte, Nat.reduceAdd, Nat.reduceMul, Nat.reduceSub, Nat.reduceLeDiff, Int.reduceToNat, Int.reducePow, Int.reduceLT, Int.reduceEq, Int.reduceNeg, Nat.reducePow, List.reduceReplicate, Int.reduceLE, h, hbn, Int.lt_irrefl]))
        | (with_reducible intro h; try simp only [h, go_sem, Nat.reduceBEq, Nat.reduceLT, Nat.reduceEqDiff, reduceIte, Nat.reduceAdd, Nat.reduceMul, Nat.reduceSub, Nat.reduceLeDiff, Int.reduceToNat, Int.reducePow, Int.reduceLT, Int.reduceEq, Int.reduceNeg, Nat.reducePow, List.reduceReplicate, Int.reduceLE, hbn, Int.lt_irrefl]))
      refine wkEnd wT ?_
      exact Fin.cut (.v _) ⟨rfl, rfl⟩
  cases hl : lab s with
  | none =>
    rw [hl] at hr
    have hr : ∀ H, ASpec Try.prog 16 [vs s] H (Gives (vb false) H) := hr
    refine ASpec.enter Try.func61 rfl (fun a w => Try.call61 a w) Try.ntmps61 Try.results61 fun base w β hI => ?_
    refine wk wT (wA hr (wA ((OwnM.mk (id := 1))) wT)) ?_
    refine AWP.loop (ι := Unit) (fun p => ⟨[(0, vs s), (3, .sl H.length 0 0 s.length 1 false), (4, vi 0)], H ++ [⟨bytesC s, 0, 0, false⟩]⟩) (fun p => 0) () ?_ ?_
    · exact Coe.kp
    · intro _
      refine wk (wA hch0 (wA h0 wT)) (wA hr (wA ((OwnM.mk (id := 1))) wT)) ?_
      refine wkEnd wT ?_
      exact Fin.cut (.v _) ⟨rfl, rfl⟩
  | some l =>
    rw [hl] at hr
    have hr : ∀ H, ASpec Try.prog 16 [vs s] H (Gives (vb true) H) := hr
    rw [if_pos (show (some l).isSome = true from rfl)]
    refine ASpec.enter Try.func61 rfl (fun a w => Try.call61 a w) Try.ntmps61 Try.results61 fun base w β hI => ?_
    refine wk wT (wA hr (wA ((OwnM.mk (id := 1))) wT)) ?_
    refine AWP.loop (ι := {i : Nat // i ≤ s.length})
      (fun p => ⟨[(0, vs s), (3, .sl H.length 0 0 s.length 1 false), (4, vi p.1)], H ++ [⟨bytesC (lowTo s p.1), 0, 0, false⟩]⟩) (fun p => s.length - p.1) ⟨0, Nat.zero_le _⟩ ?_ ?_
    · dsimp only
      rw [lowTo_zero]
      exact Coe.kp
    · rintro ⟨i, hi⟩
      dsimp only
      have hll := lowTo_length s i
      by_cases hc : (i : Int) < (s.length : Int)
      rotate_left
      · have hil : i = s.length := by omega
        subst hil
        rw [lowTo_all] at hll ⊢
        have hch := chunk_bytesC (s.map lowU) s.length hll.symm
        refine wk (wA hc (wA hll (wA hch wT))) (wA hr (wA ((OwnM.mk (id := 1))) wT)) ?_
        refine wkEnd wT ?_
        exact Fin.cut (.v _) ⟨rfl, rfl⟩
      have hg : s[i]? = some s[i] := List.getElem?_eq_getElem (by omega)
      generalize s[i] = c at hg
      have hgl := lowTo_get hg
      have hsu := lowTo_succ hg
      have hset := set_same hgl
      have hcb : (c.toNat : Int) ≤ 255 := by have := c.toNat_lt; omega
      by_cases h65 : (65 : Int) ≤ (c.toNat : Int)
      · by_cases h90 : (c.toNat : Int) ≤ 90
        · have hlu : UInt8.ofNat ((c.toNat : Int) + 32).toNat = lowU c := by
            rw [lowU, if_pos (by omega)]
            congr 1
          refine wk (wA hc (wA hll (wA bytesC_getv (wA hgl (wA h65 (wA h90 wT)))))) (wA hr (wA ((OwnM.mk (id := 1))) wT)) ?_
          refine ⟨⟨i + 1, by omega⟩, ?_, by dsimp only; omega⟩
          dsimp only
          rw [hlu, hsu]
          exact Coe.kp
        · have hlu : lowU c = c := by rw [lowU, if_neg (by omega)]
          refine wk (wA hc (wA hll (wA bytesC_getv (wA hgl (wA h65 (wA h90 wT)))))) (wA hr (wA ((OwnM.mk (id := 1))) wT)) ?_
          refine ⟨⟨i + 1, by omega⟩, ?_, by dsimp only; omega⟩
          dsimp only
          rw [hsu, hlu, hset]
          exact Coe.kp
      · have hlu : lowU c = c := by rw [lowU, if_neg (by omega)]
        refine wk (wA hc (wA hll (wA bytesC_getv (wA hgl (wA h65 wT))))) (wA hr (wA ((OwnM.mk (id := 1))) wT)) ?_
        refine ⟨⟨i + 1, by omega⟩, ?_, by dsimp only; omega⟩
        dsimp only
        rw [hsu, hlu, hset]
        exact Coe.kp

theorem refSame16_spec (a b : List UInt8) (ha : a.length ≤ 8796093022208) (hb : b.length ≤ 8796093022208) (H : List Box) : ASpec Try.prog 39 [vs a, vs b] H (Gives (vb (sameN a b)) H) := by
  have r1 := fun H => refRight16_spec a ha H
  have r2 := fun H => refRight16_spec b hb H
  have l1 := fun H => refLower_spec a ha H
  have l2 := fun H => refLower_spec b hb H
  unfold sameN
  cases h1 : (lab a).isSome with
  | false =>
    rw [h1] at r1
    refine ASpec.enter Try.func39 rfl (fun a w => Try.call39 a w) Try.ntmps39 Try.results39 fun base w β hI => ?_
    refine wk wT (wA r1 (wA ((OwnM.mk (id := 1))) wT)) ?_
    refine wkEnd wT ?_
    exact Fin.same ⟨rfl, rfl⟩
  | true =>
    rw [h1] at r1
    cases h2 : (lab b).isSome with
    | false =>
      rw [h2] at r2
      refine ASpec.enter Try.func39 rfl (fun a w => Try.call39 a w) Try.ntmps39 Try.results39 fun base w β hI => ?_
      refine wk wT (wA r1 (wA r2 (wA ((OwnM.mk (id := 1))) wT))) ?_
      refine wkEnd wT ?_
      exact Fin.same ⟨rfl, rfl⟩
    | true =>
      rw [h2] at r2
      refine ASpec.enter Try.func39 rfl (fun a w => Try.call39 a w) Try.ntmps39 Try.results39 fun base w β hI => ?_
      refine wk wT (wA r1 (wA r2 (wA l1 (wA l2 (wA ((OwnM.mk (id := 1))) wT))))) ?_
      refine wkEnd wT ?_
      exact Fin.same ⟨rfl, rfl⟩

end Go.Proofs.Ytkkhbmpcpilmfaa.VL
