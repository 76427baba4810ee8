/- Layer 16: a name's labels, as the reference takes them. -/
import Derived.Test.YtnlmdeeadldgmaaGreatDoorZVLWalk
import Derived.Test.YtnlmdeeadldgmaaGreatDoorZG21
import Derived.Test.YtnlmdeeadldgmaaGreatDoorZG27
import Derived.Test.YtnlmdeeadldgmaaGreatDoorZG22
import Derived.Test.YtnlmdeeadldgmaaGreatDoorZG26
-- STEPWISE
-- WK
set_option linter.unusedVariables false
set_option linter.unusedSimpArgs false
set_option maxRecDepth 10000
namespace Go.Proofs.YtnlmdeeadldgmaaGreatDoor.VL
open Go Go.RowKit Go.Lib

set_option maxHeartbeats 4000000 in
theorem cut_spec (s : List UInt8) (hs : s.length ≤ 8796093022208) (H : List Box) : ASpec Tryz.prog 72 [vs s] H (Gives (labE (lab s)) H) := by
  refine ASpec.enter Tryz.func72 rfl (fun a w => Tryz.call72 a w) Tryz.ntmps72 Tryz.results72 fun base w β hI => ?_
  refine wk wT (wA DrM.mk wT) ?_
  refine AWP.coe (Coe.emp0 (t := 4) (sz := 1) (l' := [(0, vs s), (4, .sl H.length 0 0 0 1 false), (5, vi 0)]) rfl ?_) ?_
  · simp only [Keeps, List.mem_cons, List.not_mem_nil, or_false, forall_eq_or_imp, forall_eq, go_sem, Nat.reduceBEq, Nat.reduceLT, Nat.reduceEqDiff, reduceIte, Nat.reduceAdd, Nat.reduceMul, Nat.reduceSub, Nat.reduceLeDiff, Int.reduceToNat, Int.reducePow, Int.reduceLT, Int.reduceEq, Int.reduceBEq, Int.reduceNeg, Nat.reducePow, List.reduceReplicate, Int.reduceLE]
  refine AWP.loop (ι := {p : List (List UInt8) × Nat × Nat // labS s = (labS (s.drop p.2.1)).map (p.1 ++ ·) ∧ p.2.1 ≤ s.length ∧ p.1.length ≤ p.2.1})
    (fun p => ⟨[(0, vs s), (4, .sl H.length p.1.2.2 0 p.1.1.length 1 false), (5, vi p.1.2.1)], H ++ [⟨strC p.1.1, 0, p.1.2.2, true⟩]⟩) (fun p => s.length - p.1.2.1) ⟨([], 0, 0), by rw [List.drop_zero]; cases labS s <;> rfl, by simp, by simp⟩ ?_ ?_
  · dsimp only [strC, List.map_nil, List.length_nil]
    exact Coe.kp
  · rintro ⟨⟨ls, i, g⟩, hlab, hi, hll⟩
    dsimp only at hlab hi hll ⊢
    by_cases hc : (i : Int) < (s.length : Int)
    rotate_left
    · rw [List.drop_of_length_le (by omega), labS_nil] at hlab
      have hl : lab s = none := by
        unfold lab
        split
        · rfl
        · exact hlab
      rw [hl]
      have hne : ¬ (i : Int) = (s.length : Int) - 1 := by omega
      refine wk (wA hc (wA hne wT)) (wA DrM.mk wT) ?_
      refine wkEnd wT ?_
      exact Fin.cut (Lt.emp.cons_tup ((Lt.v _).cons_tup .nil_tup)) ⟨rfl, rfl⟩
    have hg : s[i]? = some s[i] := List.getElem?_eq_getElem (by omega)
    have hd : s.drop i = s[i] :: s.drop (i + 1) := List.drop_eq_getElem_cons (by omega)
    generalize s[i] = c at hg hd
    rw [hd] at hlab
    have hcb : (c.toNat : Int) ≤ 255 := by have := c.toNat_lt; omega
    have hdl : (s.drop (i + 1)).length = s.length - (i + 1) := List.length_drop
    by_cases hz : (c.toNat : Int) = 0
    · rw [labS_zero (by omega)] at hlab
      have hcz : c = 0 := by
        apply UInt8.toNat_inj.1
        show c.toNat = 0
        omega
      subst hcz
      by_cases hl1 : (i : Int) = (s.length : Int) - 1
      · rw [if_pos (List.drop_of_length_le (by omega))] at hlab
        have hl2 : labS s = some ls := by rw [hlab]; simp
        by_cases h255 : (255 : Int) < (s.length : Int)
        · have hl : lab s = none := by rw [lab, if_pos (by omega)]
          rw [hl]
          have hl1' := eq_true hl1
          refine wk (wA hc (wA hg (wA hz (wA hl1' (wA h255 wT))))) (wA DrM.mk wT) ?_
          refine wkEnd wT ?_
          exact Fin.cut (Lt.emp.cons_tup ((Lt.v _).cons_tup .nil_tup)) ⟨rfl, rfl⟩
        · have hl : lab s = some ls := by rw [lab_of (by omega)]; exact hl2
          rw [hl]
          have hl1' := eq_true hl1
          refine wk (wA hc (wA hg (wA hz (wA hl1' (wA h255 wT))))) (wA DrM.mk wT) ?_
          refine wkEnd wT ?_
          exact fin_strs (k := 0) rfl rfl ⟨rfl, rfl⟩
      · rw [if_neg (fun h => by rw [h] at hdl; simp at hdl; omega)] at hlab
        have hl : lab s = none := by
          unfold lab
          split
          · rfl
          · exact hlab
        rw [hl]
        refine wk (wA hc (wA hg (wA hz (wA hl1 wT)))) (wA DrM.mk wT) ?_
        refine wkEnd wT ?_
        exact Fin.cut (Lt.emp.cons_tup ((Lt.v _).cons_tup .nil_tup)) ⟨rfl, rfl⟩
    · by_cases h63 : (63 : Int) < (c.toNat : Int)
      · rw [labS_bad (by omega) (.inl (by omega))] at hlab
        have hl : lab s = none := by
          unfold lab
          split
          · rfl
          · exact hlab
        rw [hl]
        refine wk (wA hc (wA hg (wA hz (wA h63 wT)))) (wA DrM.mk wT) ?_
        refine wkEnd wT ?_
        exact Fin.cut (Lt.emp.cons_tup ((Lt.v _).cons_tup .nil_tup)) ⟨rfl, rfl⟩
      by_cases hn : (s.length : Int) < (i : Int) + 1 + (c.toNat : Int)
      · rw [labS_bad (by omega) (.inr (by omega))] at hlab
        have hl : lab s = none := by
          unfold lab
          split
          · rfl
          · exact hlab
        rw [hl]
        refine wk (wA hc (wA hg (wA hz (wA h63 (wA hn wT))))) (wA DrM.mk wT) ?_
        refine wkEnd wT ?_
        exact Fin.cut (Lt.emp.cons_tup ((Lt.v _).cons_tup .nil_tup)) ⟨rfl, rfl⟩
      rw [labS_more (by omega) (by omega)] at hlab
      refine wk (wA hc (wA hg (wA hz (wA h63 (wA hn wT))))) (wA DrM.mk wT) ?_
      have e1 : ((i : Int) + 1 + (c.toNat : Int)).toNat = i + 1 + c.toNat := by omega
      have e2 : ((i : Int) + 1).toNat = i + 1 := by omega
      rw [e1, e2]
      have e3 : List.drop (i + 1) (List.take (i + 1 + c.toNat) s) = (s.drop (i + 1)).take c.toNat := by rw [List.take_drop]
      rw [e3]
      refine ⟨⟨(ls ++ [(s.drop (i + 1)).take c.toNat], i + 1 + c.toNat, g + 1), ?_, ?_, ?_⟩, ?_, ?_⟩
      · dsimp only
        rw [hlab, List.drop_drop]
        cases labS (s.drop (i + 1 + c.toNat)) <;> simp
      · dsimp only; omega
      · dsimp only
        rw [List.length_append, List.length_singleton]
        omega
      · dsimp only
        rw [List.length_append, List.length_singleton]
        exact Coe.kp
      · dsimp only
        omega

theorem refRight16_spec (s : List UInt8) (hs : s.length ≤ 8796093022208) (H : List Box) : ASpec Tryz.prog 34 [vs s] H (Gives (vb (lab s).isSome) H) := by
  have hl := fun H => cut_spec s hs H
  cases hlb : lab s with
  | none =>
    rw [hlb] at hl
    have hl : ∀ H, ASpec Tryz.prog 72 [vs s] H (Gives (.tup [.emp, vb false]) H) := hl
    refine ASpec.enter Tryz.func34 rfl (fun a w => Tryz.call34 a w) Tryz.ntmps34 Tryz.results34 fun base w β hI => ?_
    refine wk wT (wA hl (wA DrM.mk wT)) ?_
    refine wkEnd wT ?_
    exact Fin.same ⟨rfl, rfl⟩
  | some l =>
    rw [hlb] at hl
    have hl : ∀ H, ASpec Tryz.prog 72 [vs s] H (Gives (.tup [.lst 1 (strG l), vb true]) H) := hl
    refine ASpec.enter Tryz.func34 rfl (fun a w => Tryz.call34 a w) Tryz.ntmps34 Tryz.results34 fun base w β hI => ?_
    refine wk wT (wA hl (wA DrM.mk wT)) ?_
    refine wkEnd wT ?_
    exact Fin.same ⟨rfl, rfl⟩

end Go.Proofs.YtnlmdeeadldgmaaGreatDoor.VL

/- Layer 16: names in small letters; whether names are the same. -/
-- STEPWISE
-- WK
-- OWN 3
set_option linter.unusedVariables false
set_option linter.unusedSimpArgs false
set_option maxRecDepth 10000
namespace Go.Proofs.YtnlmdeeadldgmaaGreatDoor.VL
open Go Go.RowKit Go.Lib

/-- The first i bytes in small letters. -/
def lowTo (s : List UInt8) (i : Nat) : List UInt8 := (s.take i).map lowU ++ s.drop i
theorem lowTo_length (s : List UInt8) (i : Nat) : (lowTo s i).length = s.length := by
  rw [lowTo, List.length_append, List.length_map, List.length_take, List.length_drop]; omega
theorem lowTo_zero (s : List UInt8) : lowTo s 0 = s := by simp [lowTo]
theorem lowTo_all (s : List UInt8) : lowTo s s.length = s.map lowU := by simp [lowTo]
theorem lowTo_get {s : List UInt8} {i : Nat} {c : UInt8} (h : s[i]? = some c) : (lowTo s i)[i]? = some c := by
  have hi := (List.getElem?_eq_some_iff.1 h).1
  rw [lowTo, List.getElem?_append_right (by rw [List.length_map, List.length_take]; omega), List.length_map, List.length_take, List.getElem?_drop, show i + (i - min i s.length) = i by omega, h]
theorem lowTo_succ {s : List UInt8} {i : Nat} {c : UInt8} (h : s[i]? = some c) : lowTo s (i + 1) = (lowTo s i).set i (lowU c) := by
  have hi := (List.getElem?_eq_some_iff.1 h).1
  have hc : s[i] = c := (List.getElem?_eq_some_iff.1 h).2
  unfold lowTo
  rw [List.set_append_right _ _ (by rw [List.length_map, List.length_take]; omega), List.length_map, List.length_take, show i - min i s.length = 0 by omega, List.drop_eq_getElem_cons hi, List.set_cons_zero, List.take_succ_eq_append_getElem hi, List.map_append, List.map_singleton, hc, List.append_assoc]
  rfl

set_option maxHeartbeats 4000000 in
theorem labLower_spec (s : List UInt8) (hs : s.length ≤ 9223372036854775807) (H : List Box) : ASpec Tryz.prog 103 [vs s] H (Gives (vs (lowB s)) H) := by
  have hr := fun H => labRight_spec s hs H
  unfold lowB
  cases hl : lab s with
  | none =>
    rw [hl] at hr
    have hr : ∀ H, ASpec Tryz.prog 95 [vs s] H (Gives (vb false) H) := hr
    refine ASpec.enter Tryz.func103 rfl (fun a w => Tryz.call103 a w) Tryz.ntmps103 Tryz.results103 fun base w β hI => ?_
    refine wk wT (wA hr (wA ((OwnM.mk (id := 3))) (wA DrM.mk wT))) ?_
    refine wkEnd wT ?_
    exact Fin.same ⟨rfl, rfl⟩
  | some l =>
    rw [hl] at hr
    have hr : ∀ H, ASpec Tryz.prog 95 [vs s] H (Gives (vb true) H) := hr
    have hlen : s.length ≤ 255 := by
      refine Nat.le_of_not_lt fun h => ?_
      rw [lab, if_pos h] at hl
      cases hl
    rw [if_pos (show (some l).isSome = true from rfl)]
    refine ASpec.enter Tryz.func103 rfl (fun a w => Tryz.call103 a w) Tryz.ntmps103 Tryz.results103 fun base w β hI => ?_
    refine wk wT (wA hr (wA ((OwnM.mk (id := 3))) (wA DrM.mk wT))) ?_
    refine AWP.loop (ι := {i : Nat // i ≤ s.length})
      (fun p => ⟨[(3, .sl H.length 0 0 s.length 1 false), (12, .sl H.length 0 0 s.length 1 false), (13, vi s.length), (14, vi p.1)], H ++ [⟨bytesC (lowTo s p.1), 0, 0, false⟩]⟩) (fun p => s.length - p.1) ⟨0, Nat.zero_le _⟩ ?_ ?_
    · dsimp only
      rw [lowTo_zero]
      exact Coe.kp
    · rintro ⟨i, hi⟩
      dsimp only
      have hll := lowTo_length s i
      by_cases hc : (i : Int) < (s.length : Int)
      rotate_left
      · have hil : i = s.length := by omega
        subst hil
        rw [lowTo_all] at hll ⊢
        have hch := chunk_bytesC (s.map lowU) s.length hll.symm
        refine wk (wA hc (wA hll (wA hch wT))) (wA ((OwnM.mk (id := 3))) (wA DrM.mk wT)) ?_
        refine wkEnd wT ?_
        exact Fin.cut (.v _) ⟨rfl, rfl⟩
      have hg : s[i]? = some s[i] := List.getElem?_eq_getElem (by omega)
      generalize s[i] = c at hg
      have hgl := lowTo_get hg
      have hsu := lowTo_succ hg
      have hcb : (c.toNat : Int) ≤ 255 := by have := c.toNat_lt; omega
      by_cases h65 : (65 : Int) ≤ (c.toNat : Int)
      · by_cases h90 : (c.toNat : Int) ≤ 90
        · have hlu : UInt8.ofNat ((c.toNat : Int) + 97 - 65).toNat = lowU c := by
            rw [lowU, if_pos (by omega)]
            congr 1
            omega
          refine wk (wA hc (wA hll (wA bytesC_getv (wA hgl (wA h65 (wA h90 wT)))))) (wA ((OwnM.mk (id := 3))) (wA DrM.mk wT)) ?_
          refine ⟨⟨i + 1, by omega⟩, ?_, by dsimp only; omega⟩
          dsimp only
          rw [hlu, hsu]
          exact Coe.kp
        · have hlu : lowU c = c := by rw [lowU, if_neg (by omega)]
          have hset : (lowTo s i).set i c = lowTo s i := by
            apply List.ext_getElem?
            intro k
            by_cases hk : k = i
            · subst hk; rw [List.getElem?_set_self (by omega), hgl]
            · rw [List.getElem?_set_ne (Ne.symm hk)]
          refine wk (wA hc (wA hll (wA bytesC_getv (wA hgl (wA h65 (wA h90 wT)))))) (wA ((OwnM.mk (id := 3))) (wA DrM.mk wT)) ?_
          refine ⟨⟨i + 1, by omega⟩, ?_, by dsimp only; omega⟩
          dsimp only
          rw [hsu, hlu, hset]
          exact Coe.kp
      · have hlu : lowU c = c := by rw [lowU, if_neg (by omega)]
        have hset : (lowTo s i).set i c = lowTo s i := by
          apply List.ext_getElem?
          intro k
          by_cases hk : k = i
          · subst hk; rw [List.getElem?_set_self (by omega), hgl]
          · rw [List.getElem?_set_ne (Ne.symm hk)]
        refine wk (wA hc (wA hll (wA bytesC_getv (wA hgl (wA h65 wT))))) (wA ((OwnM.mk (id := 3))) (wA DrM.mk wT)) ?_
        refine ⟨⟨i + 1, by omega⟩, ?_, by dsimp only; omega⟩
        dsimp only
        rw [hsu, hlu, hset]
        exact Coe.kp

theorem labSame_spec (a b : List UInt8) (ha : a.length ≤ 9223372036854775807) (hb : b.length ≤ 9223372036854775807) (H : List Box) : ASpec Tryz.prog 59 [vs a, vs b] H (Gives (vb (sameN a b)) H) := by
  have r1 := fun H => labRight_spec a ha H
  have r2 := fun H => labRight_spec b hb H
  have l1 := fun H => labLower_spec a ha H
  have l2 := fun H => labLower_spec b hb H
  unfold sameN
  cases h1 : (lab a).isSome with
  | false =>
    rw [h1] at r1
    refine ASpec.enter Tryz.func59 rfl (fun a w => Tryz.call59 a w) Tryz.ntmps59 Tryz.results59 fun base w β hI => ?_
    refine wk wT (wA r1 (wA ((OwnM.mk (id := 3))) (wA DrM.mk wT))) ?_
    refine wkEnd wT ?_
    exact Fin.same ⟨rfl, rfl⟩
  | true =>
    rw [h1] at r1
    cases h2 : (lab b).isSome with
    | false =>
      rw [h2] at r2
      refine ASpec.enter Tryz.func59 rfl (fun a w => Tryz.call59 a w) Tryz.ntmps59 Tryz.results59 fun base w β hI => ?_
      refine wk wT (wA r1 (wA r2 (wA ((OwnM.mk (id := 3))) (wA DrM.mk wT)))) ?_
      refine wkEnd wT ?_
      exact Fin.same ⟨rfl, rfl⟩
    | true =>
      rw [h2] at r2
      refine ASpec.enter Tryz.func59 rfl (fun a w => Tryz.call59 a w) Tryz.ntmps59 Tryz.results59 fun base w β hI => ?_
      refine wk wT (wA r1 (wA r2 (wA l1 (wA l2 (wA ((OwnM.mk (id := 3))) (wA DrM.mk wT)))))) ?_
      refine wkEnd wT ?_
      exact Fin.same ⟨rfl, rfl⟩

end Go.Proofs.YtnlmdeeadldgmaaGreatDoor.VL

/- Layer 16: names in small letters, as the reference has them. -/
-- STEPWISE
-- WK
-- OWN 1
set_option linter.unusedVariables false
set_option linter.unusedSimpArgs false
set_option maxRecDepth 10000
namespace Go.Proofs.YtnlmdeeadldgmaaGreatDoor.VL
open Go Go.RowKit Go.Lib

theorem set_same {α : Type} {l : List α} {i : Nat} {c : α} (h : l[i]? = some c) : l.set i c = l := by
  apply List.ext_getElem?
  intro k
  by_cases hk : k = i
  · subst hk; rw [List.getElem?_set_self (List.getElem?_eq_some_iff.1 h).1, h]
  · rw [List.getElem?_set_ne (Ne.symm hk)]

set_option maxHeartbeats 4000000 in
theorem refLower_spec (s : List UInt8) (hs : s.length ≤ 8796093022208) (H : List Box) : ASpec Tryz.prog 30 [vs s] H (Gives (vs (lowB s)) H) := by
  have hr := fun H => refRight16_spec s hs H
  unfold lowB
  have hch0 := chunk_bytesC s s.length rfl
  by_cases h0 : (0 : Int) < (s.length : Int)
  rotate_left
  · have hs0 : s = [] := List.eq_nil_of_length_eq_zero (by omega)
    subst hs0
    have hl : lab [] = none := rfl
    rw [hl, if_neg (by simp)]
    refine ASpec.enter Tryz.func30 rfl (fun a w => Tryz.call30 a w) Tryz.ntmps30 Tryz.results30 fun base w β hI => ?_
    refine wk wT (wA ((OwnM.mk (id := 1))) (wA DrM.mk wT)) ?_
    refine AWP.loop (ι := Unit) (fun p => ⟨[(3, .sl H.length 0 0 0 1 false), (4, vi 0)], H ++ [⟨bytesC [], 0, 0, false⟩]⟩) (fun p => 0) () ?_ ?_
    · exact Coe.kp
    · intro _
      have hbn : bytesOf [] = some [] := rfl
      repeat' (first
        | (refine AWP.seq ?_)
        | (refine AWP.block ?_)
        | (refine AWP.region_s (id := 1) fun Q' hQ' => ?_)
        | (with_reducible refine SOps.own fun T hT => ?_; simp (disch := omega) only [go_sem, Nat.reduceBEq, Nat.reduceLT, Nat.reduceEqDiff, reduceIte, Nat.reduceAdd, Nat.reduceMul, Nat.reduceSub, Nat.reduceLeDiff, Int.reduceToNat, Int.reducePow, Int.reduceLT, Int.reduceEq, Int.reduceBEq, Int.reduceNeg, Nat.reducePow, List.reduceReplicate, Int.reduceLE, hbn, Int.lt_irrefl])
        | (with_reducible refine SOps.step fun T hT => ?_; simp (disch := omega) only [go_sem, Nat.reduceBEq, Nat.reduceLT, Nat.reduceEqDiff, reduceIte, Nat.reduceAdd, Nat.reduceMul, Nat.reduceSub, Nat.reduceLeDiff, Int.reduceToNat, Int.reducePow, Int.reduceLT, Int.reduceEq, Int.reduceBEq, Int.reduceNeg, Nat.reducePow, List.reduceReplicate, Int.reduceLE, hbn, Int.lt_irrefl])
        | (with_reducible refine SOps.nil ?_)
        | (refine AWP.region_k fun Q' hQ' => ?_)
        | (refine AWP.draw_k rfl (by kernel_rfl) fun Q' hQ' => ?_)
        | (with_reducible refine aops.step fun T hT => ?_; simp (disch := omega) only [go_sem, Nat.reduceBEq, Nat.reduceLT, Nat.reduceEqDiff, reduceIte, Nat.reduceAdd, Nat.reduceMul, Nat.reduceSub, Nat.reduceLeDiff, Int.reduceToNat, Int.reducePow, Int.reduceLT, Int.reduceEq, Int.reduceBEq, Int.reduceNeg, Nat.reducePow, List.reduceReplicate, Int.reduceLE, hbn, Int.lt_irrefl])
        | (with_reducible refine qops.step fun T hT => ?_; simp (disch := omega) only [go_sem, Nat.reduceBEq, Nat.reduceLT, Nat.reduceEqDiff, reduceIte, Nat.reduceAdd, Nat.reduceMul, Nat.reduceSub, Nat.reduceLeDiff, Int.reduceToNat, Int.reducePow, Int.reduceLT, Int.reduceEq, Int.reduceBEq, Int.reduceNeg, Nat.reducePow, List.reduceReplicate, Int.reduceLE, hbn, Int.lt_irrefl])
        | (with_reducible refine aops.nil ?_)
        | (with_reducible refine qops.nil ?_)
        | (with_reducible refine hT _ ?_; clear hT T)
        | (refine AWP.skip ?_; try simp only [AExit.then, AExit.inBlock, reduceIte, Nat.reduceEqDiff])
        | (refine AWP.exit ?_; try simp only [AExit.then, AExit.inBlock, reduceIte, Nat.reduceEqDiff])
        | (refine AWP.ret ?_; try simp only [AExit.then, AExit.inBlock, reduceIte, Nat.reduceEqDiff])
        | (refine AWP.cond rfl (fun h => ?_) (fun h => ?_) <;> (try simp only [decide_eq_true_eq, decide_eq_false_iff_not, Bool.true_eq_false, Bool.false_eq_true] at h) <;> (try contradiction))
        | (refine hQ' _ _ ?_; clear hQ' Q'; try simp only [AExit.then, AExit.inBlock, reduceIte, Nat.reduceEqDiff])
        | (refine hQ' _ ?_; clear hQ' Q'; try simp only [AExit.then, AExit.inBlock, reduceIte, Nat.reduceEqDiff])
        | (with_reducible refine Branch.split (fun h => ?_) (fun h => ?_) <;> (try simp only [decide_eq_true_eq, decide_eq_false_iff_not, Bool.not_true, Bool.not_false, Bool.true_eq_false, Bool.false_eq_true] at h) <;> (try contradiction) <;> (simp (disch := omega) only [go_sem, Nat.reduceBEq, Nat.reduceLT, Nat.reduceEqDiff, reduceIte, Nat.reduceAdd, Nat.reduceMul, Nat.reduceSub, Nat.reduceLeDiff, Int.reduceToNat, Int.reducePow, Int.reduceLT, Int.reduceEq, Int.reduceBEq, Int.reduceNeg, Nat.reducePow, List.reduceReplicate, Int.reduceLE, h, hbn, Int.lt_irrefl]))
        | (with_reducible intro h; try simp only [h, go_sem, Nat.reduceBEq, Nat.reduceLT, Nat.reduceEqDiff, reduceIte, Nat.reduceAdd, Nat.reduceMul, Nat.reduceSub, Nat.reduceLeDiff, Int.reduceToNat, Int.reducePow, Int.reduceLT, Int.reduceEq, Int.reduceBEq, Int.reduceNeg, Nat.reducePow, List.reduceReplicate, Int.reduceLE, hbn, Int.lt_irrefl]))
      refine wkEnd wT ?_
      exact Fin.cut (.v _) ⟨rfl, rfl⟩
  cases hl : lab s with
  | none =>
    rw [hl] at hr
    have hr : ∀ H, ASpec Tryz.prog 34 [vs s] H (Gives (vb false) H) := hr
    refine ASpec.enter Tryz.func30 rfl (fun a w => Tryz.call30 a w) Tryz.ntmps30 Tryz.results30 fun base w β hI => ?_
    refine wk wT (wA hr (wA ((OwnM.mk (id := 1))) (wA DrM.mk wT))) ?_
    refine AWP.loop (ι := Unit) (fun p => ⟨[(0, vs s), (3, .sl H.length 0 0 s.length 1 false), (4, vi 0)], H ++ [⟨bytesC s, 0, 0, false⟩]⟩) (fun p => 0) () ?_ ?_
    · exact Coe.kp
    · intro _
      refine wk (wA hch0 (wA h0 wT)) (wA hr (wA ((OwnM.mk (id := 1))) (wA DrM.mk wT))) ?_
      refine wkEnd wT ?_
      exact Fin.cut (.v _) ⟨rfl, rfl⟩
  | some l =>
    rw [hl] at hr
    have hr : ∀ H, ASpec Tryz.prog 34 [vs s] H (Gives (vb true) H) := hr
    rw [if_pos (show (some l).isSome = true from rfl)]
    refine ASpec.enter Tryz.func30 rfl (fun a w => Tryz.call30 a w) Tryz.ntmps30 Tryz.results30 fun base w β hI => ?_
    refine wk wT (wA hr (wA ((OwnM.mk (id := 1))) (wA DrM.mk wT))) ?_
    refine AWP.loop (ι := {i : Nat // i ≤ s.length})
      (fun p => ⟨[(0, vs s), (3, .sl H.length 0 0 s.length 1 false), (4, vi p.1)], H ++ [⟨bytesC (lowTo s p.1), 0, 0, false⟩]⟩) (fun p => s.length - p.1) ⟨0, Nat.zero_le _⟩ ?_ ?_
    · dsimp only
      rw [lowTo_zero]
      exact Coe.kp
    · rintro ⟨i, hi⟩
      dsimp only
      have hll := lowTo_length s i
      by_cases hc : (i : Int) < (s.length : Int)
      rotate_left
      · have hil : i = s.length := by omega
        subst hil
        rw [lowTo_all] at hll ⊢
        have hch := chunk_bytesC (s.map lowU) s.length hll.symm
        refine wk (wA hc (wA hll (wA hch wT))) (wA hr (wA ((OwnM.mk (id := 1))) (wA DrM.mk wT))) ?_
        refine wkEnd wT ?_
        exact Fin.cut (.v _) ⟨rfl, rfl⟩
      have hg : s[i]? = some s[i] := List.getElem?_eq_getElem (by omega)
      generalize s[i] = c at hg
      have hgl := lowTo_get hg
      have hsu := lowTo_succ hg
      have hset := set_same hgl
      have hcb : (c.toNat : Int) ≤ 255 := by have := c.toNat_lt; omega
      by_cases h65 : (65 : Int) ≤ (c.toNat : Int)
      · by_cases h90 : (c.toNat : Int) ≤ 90
        · have hlu : UInt8.ofNat ((c.toNat : Int) + 32).toNat = lowU c := by
            rw [lowU, if_pos (by omega)]
            congr 1
          refine wk (wA hc (wA hll (wA bytesC_getv (wA hgl (wA h65 (wA h90 wT)))))) (wA hr (wA ((OwnM.mk (id := 1))) (wA DrM.mk wT))) ?_
          refine ⟨⟨i + 1, by omega⟩, ?_, by dsimp only; omega⟩
          dsimp only
          rw [hlu, hsu]
          exact Coe.kp
        · have hlu : lowU c = c := by rw [lowU, if_neg (by omega)]
          refine wk (wA hc (wA hll (wA bytesC_getv (wA hgl (wA h65 (wA h90 wT)))))) (wA hr (wA ((OwnM.mk (id := 1))) (wA DrM.mk wT))) ?_
          refine ⟨⟨i + 1, by omega⟩, ?_, by dsimp only; omega⟩
          dsimp only
          rw [hsu, hlu, hset]
          exact Coe.kp
      · have hlu : lowU c = c := by rw [lowU, if_neg (by omega)]
        refine wk (wA hc (wA hll (wA bytesC_getv (wA hgl (wA h65 wT))))) (wA hr (wA ((OwnM.mk (id := 1))) (wA DrM.mk wT))) ?_
        refine ⟨⟨i + 1, by omega⟩, ?_, by dsimp only; omega⟩
        dsimp only
        rw [hsu, hlu, hset]
        exact Coe.kp

theorem refSame16_spec (a b : List UInt8) (ha : a.length ≤ 8796093022208) (hb : b.length ≤ 8796093022208) (H : List Box) : ASpec Tryz.prog 64 [vs a, vs b] H (Gives (vb (sameN a b)) H) := by
  have r1 := fun H => refRight16_spec a ha H
  have r2 := fun H => refRight16_spec b hb H
  have l1 := fun H => refLower_spec a ha H
  have l2 := fun H => refLower_spec b hb H
  unfold sameN
  cases h1 : (lab a).isSome with
  | false =>
    rw [h1] at r1
    refine ASpec.enter Tryz.func64 rfl (fun a w => Tryz.call64 a w) Tryz.ntmps64 Tryz.results64 fun base w β hI => ?_
    refine wk wT (wA r1 (wA ((OwnM.mk (id := 1))) (wA DrM.mk wT))) ?_
    refine wkEnd wT ?_
    exact Fin.same ⟨rfl, rfl⟩
  | true =>
    rw [h1] at r1
    cases h2 : (lab b).isSome with
    | false =>
      rw [h2] at r2
      refine ASpec.enter Tryz.func64 rfl (fun a w => Tryz.call64 a w) Tryz.ntmps64 Tryz.results64 fun base w β hI => ?_
      refine wk wT (wA r1 (wA r2 (wA ((OwnM.mk (id := 1))) (wA DrM.mk wT)))) ?_
      refine wkEnd wT ?_
      exact Fin.same ⟨rfl, rfl⟩
    | true =>
      rw [h2] at r2
      refine ASpec.enter Tryz.func64 rfl (fun a w => Tryz.call64 a w) Tryz.ntmps64 Tryz.results64 fun base w β hI => ?_
      refine wk wT (wA r1 (wA r2 (wA l1 (wA l2 (wA ((OwnM.mk (id := 1))) (wA DrM.mk wT)))))) ?_
      refine wkEnd wT ?_
      exact Fin.same ⟨rfl, rfl⟩

end Go.Proofs.YtnlmdeeadldgmaaGreatDoor.VL

/- Layer 17: packets of the domain system, as plain values. -/
set_option linter.unusedVariables false
set_option linter.unusedSimpArgs false
namespace Go.Proofs.YtnlmdeeadldgmaaGreatDoor.VL
open Go Go.RowKit Go.Lib

structure Qn where
  n : List UInt8
  t : Int
  c : Int
deriving DecidableEq
structure Rr where
  n : List UInt8
  t : Int
  c : Int
  l : Int
  d : List UInt8
deriving DecidableEq
structure Pk where
  id : Int
  fl : Int
  q : List Qn
  a : List Rr
  u : List Rr
  m : List Rr
deriving DecidableEq
abbrev qnC (q : Qn) : List AV := [vs q.n, vi q.t, vi q.c]
abbrev rrC (r : Rr) : List AV := [vs r.n, vi r.t, vi r.c, vi r.l, vs r.d]
abbrev qnG (l : List Qn) : List (List AV) := l.map qnC
abbrev rrG (l : List Rr) : List (List AV) := l.map rrC
abbrev pkC (p : Pk) : List AV := [vi p.id, vi p.fl, .lst 3 (qnG p.q), .lst 5 (rrG p.a), .lst 5 (rrG p.u), .lst 5 (rrG p.m)]
@[go_sem] theorem qnG_length (l : List Qn) : (qnG l).length = l.length := by simp [qnG]
@[go_sem] theorem qnG_get (l : List Qn) (i : Nat) : (qnG l)[i]? = (l[i]?).map qnC := by simp [qnG]
@[go_sem] theorem rrG_length (l : List Rr) : (rrG l).length = l.length := by simp [rrG]
@[go_sem] theorem rrG_get (l : List Rr) (i : Nat) : (rrG l)[i]? = (l[i]?).map rrC := by simp [rrG]
theorem lt_qn {n : Nat} (l : List Qn) : Lt n (.lst 3 (qnG l)) := .lst _ _ fun i j g c hi hj => by
  simp only [qnG, List.getElem?_map] at hi
  obtain ⟨b, _, rfl⟩ := Option.map_eq_some_iff.1 hi
  rcases j with _ | _ | _ | j <;> simp at hj <;> subst hj <;> exact .v _
theorem lt_rr {n : Nat} (l : List Rr) : Lt n (.lst 5 (rrG l)) := .lst _ _ fun i j g c hi hj => by
  simp only [rrG, List.getElem?_map] at hi
  obtain ⟨b, _, rfl⟩ := Option.map_eq_some_iff.1 hi
  rcases j with _ | _ | _ | _ | _ | j <;> simp at hj <;> subst hj <;> exact .v _

def win (n t : Int) : Bool := decide (0 ≤ n) && decide (n ≤ t)
def qOk (q : Qn) : Bool := (lab q.n).isSome && (win q.t 65535 && win q.c 65535)
def rOk (r : Rr) : Bool := (lab r.n).isSome && (win r.t 65535 && (win r.c 65535 && (win r.l 2147483647 && decide (r.d.length ≤ 1000))))
def qsOk (l : List Qn) : Bool := decide (l.length ≤ 100) && l.all qOk
def rsOk (l : List Rr) : Bool := decide (l.length ≤ 100) && l.all rOk
def pOk (p : Pk) : Bool := win p.id 65535 && (win p.fl 65535 && (qsOk p.q && (rsOk p.a && (rsOk p.u && rsOk p.m))))

/-- The first place where f holds. -/
def fstIx {α : Type} (f : α → Bool) : List α → Nat → Int
  | [], _ => -1
  | x :: l, i => if f x then (i : Int) else fstIx f l (i + 1)
theorem fstIx_any {α : Type} (f : α → Bool) : ∀ (l : List α) (i : Nat), decide (0 ≤ fstIx f l i) = l.any f
  | [], _ => by simp [fstIx]
  | x :: l, i => by
    rw [fstIx, List.any_cons]
    by_cases h : f x = true
    · rw [if_pos h, h]; simp
    · rw [if_neg h, fstIx_any f l (i + 1)]
      simp [h]
theorem fstIx_drop {α : Type} (f : α → Bool) {l : List α} {i : Nat} {x : α} (h : l[i]? = some x) : fstIx f (l.drop i) i = if f x then (i : Int) else fstIx f (l.drop (i + 1)) (i + 1) := by
  have hi := (List.getElem?_eq_some_iff.1 h).1
  rw [List.drop_eq_getElem_cons hi, fstIx, (List.getElem?_eq_some_iff.1 h).2]
theorem fstIx_le {α : Type} (f : α → Bool) : ∀ (l : List α) (i : Nat), fstIx f l i ≤ ((i + l.length : Nat) : Int) ∧ -1 ≤ fstIx f l i
  | [], i => by simp [fstIx]
  | x :: l, i => by
    rw [fstIx]
    have := fstIx_le f l (i + 1)
    split <;> simp only [List.length_cons] <;> omega
theorem any_not {α : Type} (f : α → Bool) (l : List α) : (!l.any fun x => !f x) = l.all f := by
  induction l with
  | nil => rfl
  | cons x l ih => simp only [List.any_cons, List.all_cons, ← ih]; cases f x <;> simp

end Go.Proofs.YtnlmdeeadldgmaaGreatDoor.VL

/- Layer 18: what a scene tells, in plain values. -/
set_option linter.unusedVariables false
set_option linter.unusedSimpArgs false
namespace Go.Proofs.YtnlmdeeadldgmaaGreatDoor.VL
open Go Go.RowKit Go.Lib

/-- An endpoint and its state. -/
structure Nd where
  n : Int
  s : St
deriving DecidableEq
abbrev ndC (x : Nd) : List AV := [vi x.n, vi x.s.g, vi x.s.b, .lst 3 (enG x.s.a)]
abbrev ndG (l : List Nd) : List (List AV) := l.map ndC
@[go_sem] theorem ndG_length (l : List Nd) : (ndG l).length = l.length := by simp [ndG]
@[go_sem] theorem ndG_get (l : List Nd) (i : Nat) : (ndG l)[i]? = (l[i]?).map ndC := by simp [ndG]
def ndF (l : List Nd) : List AV := flat (ndG l)
theorem ndF_cons (x : Nd) (l : List Nd) : ndF (x :: l) = ndC x ++ ndF l := by simp [ndF, flat]
theorem ndF_app (l m : List Nd) : ndF (l ++ m) = ndF l ++ ndF m := by simp [ndF, flat]
@[go_sem] theorem ndF_length : ∀ l : List Nd, (ndF l).length = l.length * 4
  | [] => rfl
  | x :: l => by rw [ndF_cons, List.length_append, ndF_length l, List.length_cons]; simp; omega
theorem chunk_ndF : ∀ l : List Nd, chunk 4 l.length (ndF l) = ndG l
  | [] => rfl
  | x :: l => by rw [ndF_cons]; simp only [List.length_cons, chunk]; rw [show (ndC x ++ ndF l).take 4 = ndC x from rfl, show (ndC x ++ ndF l).drop 4 = ndF l from rfl, chunk_ndF l]; rfl
theorem lt_nd {n : Nat} (l : List Nd) : Lt n (.lst 4 (ndG l)) := .lst _ _ fun i j g c hi hj => by
  simp only [ndG, List.getElem?_map] at hi
  obtain ⟨b, _, rfl⟩ := Option.map_eq_some_iff.1 hi
  rcases j with _ | _ | _ | _ | j <;> simp at hj <;> subst hj <;> first | exact .v _ | exact lt_en _
theorem lt_ndF {n : Nat} {l : List Nd} {c : AV} (h : c ∈ ndF l) : Lt n c := by
  unfold ndF flat ndG at h
  rw [List.mem_flatten] at h
  obtain ⟨g, hg, hc⟩ := h
  obtain ⟨x, _, rfl⟩ := List.mem_map.1 hg
  simp only [List.mem_cons, List.not_mem_nil, or_false] at hc
  rcases hc with rfl | rfl | rfl | rfl <;> first | exact .v _ | exact lt_en _
def svF (l : List Sv) : List AV := flat (svG l)
theorem svF_cons (x : Sv) (l : List Sv) : svF (x :: l) = svC x ++ svF l := by simp [svF, flat]
theorem svF_app (l m : List Sv) : svF (l ++ m) = svF l ++ svF m := by simp [svF, flat]
@[go_sem] theorem svF_length : ∀ l : List Sv, (svF l).length = l.length * 6
  | [] => rfl
  | x :: l => by rw [svF_cons, List.length_append, svF_length l, List.length_cons]; simp; omega
theorem chunk_svF : ∀ l : List Sv, chunk 6 l.length (svF l) = svG l
  | [] => rfl
  | x :: l => by rw [svF_cons]; simp only [List.length_cons, chunk]; rw [show (svC x ++ svF l).take 6 = svC x from rfl, show (svC x ++ svF l).drop 6 = svF l from rfl, chunk_svF l]; rfl
theorem lt_svF {n : Nat} {l : List Sv} {c : AV} (h : c ∈ svF l) : Lt n c := by
  unfold svF flat svG at h
  rw [List.mem_flatten] at h
  obtain ⟨g, hg, hc⟩ := h
  obtain ⟨x, _, rfl⟩ := List.mem_map.1 hg
  simp only [List.mem_cons, List.not_mem_nil, or_false] at hc
  rcases hc with rfl | rfl | rfl | rfl | rfl | rfl <;> exact .v _
/-- A view's endpoints stand in order. -/
def ndGo : Int → List Nd → Bool
  | _, [] => true
  | last, d :: l => decide (last < d.n) && (decide (d.n < 8) && (stOk d.s && ndGo d.n l))
def ndOk (l : List Nd) : Bool := ndGo (-1) l

/-- A scene. -/
structure Sc where
  v : List Nd
  a : List Int
  d : List UInt8
abbrev scC (s : Sc) : List AV := [.lst 4 (ndG s.v), .lst 1 (s.a.map fun n => [vi n]), vs s.d]

/-- Labels ahead of a domain. -/
def winN (d : List UInt8) (l : List (List UInt8)) : List UInt8 × Bool := if (lab d).isSome = true ∧ (joinN (l ++ labelsN d)).2 = 0 then ((joinN (l ++ labelsN d)).1, true) else ([], false)
def digN (n : Int) : List UInt8 := [110, UInt8.ofNat (48 + n.toNat)]
def hostN (d : List UInt8) (n : Int) : List UInt8 × Bool := if 0 ≤ n ∧ n < 8 then winN d [digN n] else ([], false)
def cntL (s : Sc) : List Nd := s.v.filter fun x => s.a.contains x.n && upE x.s.a
def offF (d name : List UInt8) (v : Sv) : Bool := (winN d [95 :: v.n, 95 :: v.p]).2 && (v.l && sameN (winN d [95 :: v.n, 95 :: v.p]).1 name)
def offL (d : List UInt8) (x : Nd) (name : List UInt8) : List Sv := (allS x.s.a).filter (offF d name)
def hosts (d : List UInt8) (x : Nd) (name : List UInt8) : Bool := (hostN d x.n).2 && sameN (hostN d x.n).1 name
def existsN (s : Sc) (name : List UInt8) : Bool := sameN name s.d || (cntL s).any fun x => hosts s.d x name || !(offL s.d x name).isEmpty
/-- Numbers of so many bytes each, the higher first. -/
def beK : Nat → Int → List UInt8
  | 0, _ => []
  | k + 1, n => UInt8.ofNat ((n / 2 ^ (8 * k)) % 256).toNat :: beK k n
def bes (k : Nat) (l : List Int) : List UInt8 := l.flatMap (beK k)
def soaB (d : List UInt8) : List UInt8 := (winN d [[110, 115]]).1 ++ (winN d [[114, 111, 111, 116]]).1 ++ bes 4 [1, 5, 5, 5, 5]
def startOk (d : List UInt8) : Bool := (winN d [[110, 115]]).2 && (winN d [[114, 111, 111, 116]]).2
def toldN (name : List UInt8) (t : Int) (data : List UInt8) : Rr := ⟨name, t, 1, 5, data⟩
def rrZ : Rr := ⟨[], 0, 0, 0, []⟩
def startN (d : List UInt8) : Rr × Bool := if startOk d then (toldN d 6 (soaB d), true) else (rrZ, false)
def addrE (a : List En) (key : Int) : List UInt8 × Bool := match getE a key with
  | some x => if (key = 1 ∧ x.s.length = 4) ∨ (key = 2 ∧ x.s.length = 16) then (x.s, true) else ([], false)
  | none => ([], false)
def keyN (t : Int) : Int × Bool := if t = 1 then (1, true) else if t = 28 then (2, true) else (0, false)
/-- What is told of a name by one endpoint. -/
def tellX (d : List UInt8) (name : List UInt8) (t : Int) (x : Nd) : List (List UInt8) :=
  if (keyN t).2 = true ∧ hosts d x name = true then (if (addrE x.s.a (keyN t).1).2 then [(addrE x.s.a (keyN t).1).1] else [])
  else if t = 33 then (if (hostN d x.n).2 then (offL d x name).map fun v => bes 2 [v.i, v.w, v.o] ++ (hostN d x.n).1 else []) else []
def apexN (d : List UInt8) (t : Int) : List UInt8 × Bool := if t = 2 then winN d [[110, 115]] else ((startN d).1.d, (startN d).2)
def tellD (s : Sc) (name : List UInt8) (t : Int) : List (List UInt8) :=
  (cntL s).flatMap (tellX s.d name t) ++ (if (t = 2 ∨ t = 6) ∧ sameN name s.d = true then (if (apexN s.d t).2 then [(apexN s.d t).1] else []) else [])
def tellN (s : Sc) (name : List UInt8) (t : Int) : List Rr := (tellD s name t).map (toldN name t)

end Go.Proofs.YtnlmdeeadldgmaaGreatDoor.VL
