/- Layer 16: a name's labels, as the reference takes them. -/
import Derived.Test.YtkkhbmpcpilmfaaZCd
import Derived.Test.YtkkhbmpcpilmfaaZSa
-- STEPWISE
-- WK
set_option linter.unusedVariables false
set_option linter.unusedSimpArgs false
set_option maxRecDepth 10000
namespace Go.Proofs.Ytkkhbmpcpilmfaa.VL
open Go Go.RowKit Go.Lib

set_option maxHeartbeats 4000000 in
theorem cut_spec (s : List UInt8) (hs : s.length ≤ 8796093022208) (H : List Box) : ASpec Try.prog 40 [vs s] H (Gives (labE (lab s)) H) := by
  refine ASpec.enter Try.func40 rfl (fun a w => Try.call40 a w) Try.ntmps40 Try.results40 fun base w β hI => ?_
  refine wk wT wT ?_
  refine AWP.coe (Coe.emp0 (t := 4) (sz := 1) (l' := [(0, vs s), (4, .sl H.length 0 0 0 1 false), (5, vi 0)]) rfl ?_) ?_
  · simp only [Keeps, List.mem_cons, List.not_mem_nil, or_false, forall_eq_or_imp, forall_eq, go_sem, Nat.reduceBEq, Nat.reduceLT, Nat.reduceEqDiff, reduceIte, Nat.reduceAdd, Nat.reduceMul, Nat.reduceSub, Nat.reduceLeDiff, Int.reduceToNat, Int.reducePow, Int.reduceLT, Int.reduceEq, Int.reduceNeg, Nat.reducePow, List.reduceReplicate, Int.reduceLE]
  refine AWP.loop (ι := {p : List (List UInt8) × Nat × Nat // labS s = (labS (s.drop p.2.1)).map (p.1 ++ ·) ∧ p.2.1 ≤ s.length ∧ p.1.length ≤ p.2.1})
    (fun p => ⟨[(0, vs s), (4, .sl H.length p.1.2.2 0 p.1.1.length 1 false), (5, vi p.1.2.1)], H ++ [⟨strC p.1.1, 0, p.1.2.2, true⟩]⟩) (fun p => s.length - p.1.2.1) ⟨([], 0, 0), by rw [List.drop_zero]; cases labS s <;> rfl, by simp, by simp⟩ ?_ ?_
  · dsimp only [strC, List.map_nil, List.length_nil]
    exact Coe.kp
  · rintro ⟨⟨ls, i, g⟩, hlab, hi, hll⟩
    dsimp only at hlab hi hll ⊢
    by_cases hc : (i : Int) < (s.length : Int)
    rotate_left
    · rw [List.drop_of_length_le (by omega), labS_nil] at hlab
      have hl : lab s = none := by
        unfold lab
        split
        · rfl
        · exact hlab
      rw [hl]
      have hne : ¬ (i : Int) = (s.length : Int) - 1 := by omega
      refine wk (wA hc (wA hne wT)) wT ?_
      refine wkEnd wT ?_
      exact Fin.cut (Lt.emp.cons_tup ((Lt.v _).cons_tup .nil_tup)) ⟨rfl, rfl⟩
    have hg : s[i]? = some s[i] := List.getElem?_eq_getElem (by omega)
    have hd : s.drop i = s[i] :: s.drop (i + 1) := List.drop_eq_getElem_cons (by omega)
    generalize s[i] = c at hg hd
    rw [hd] at hlab
    have hcb : (c.toNat : Int) ≤ 255 := by have := c.toNat_lt; omega
    have hdl : (s.drop (i + 1)).length = s.length - (i + 1) := List.length_drop
    by_cases hz : (c.toNat : Int) = 0
    · rw [labS_zero (by omega)] at hlab
      have hcz : c = 0 := by
        apply UInt8.toNat_inj.1
        show c.toNat = 0
        omega
      subst hcz
      by_cases hl1 : (i : Int) = (s.length : Int) - 1
      · rw [if_pos (List.drop_of_length_le (by omega))] at hlab
        have hl2 : labS s = some ls := by rw [hlab]; simp
        by_cases h255 : (255 : Int) < (s.length : Int)
        · have hl : lab s = none := by rw [lab, if_pos (by omega)]
          rw [hl]
          have hl1' := eq_true hl1
          refine wk (wA hc (wA hg (wA hz (wA hl1' (wA h255 wT))))) wT ?_
          refine wkEnd wT ?_
          exact Fin.cut (Lt.emp.cons_tup ((Lt.v _).cons_tup .nil_tup)) ⟨rfl, rfl⟩
        · have hl : lab s = some ls := by rw [lab_of (by omega)]; exact hl2
          rw [hl]
          have hl1' := eq_true hl1
          refine wk (wA hc (wA hg (wA hz (wA hl1' (wA h255 wT))))) wT ?_
          refine wkEnd wT ?_
          exact fin_strs (k := 0) rfl rfl ⟨rfl, rfl⟩
      · rw [if_neg (fun h => by rw [h] at hdl; simp at hdl; omega)] at hlab
        have hl : lab s = none := by
          unfold lab
          split
          · rfl
          · exact hlab
        rw [hl]
        refine wk (wA hc (wA hg (wA hz (wA hl1 wT)))) wT ?_
        refine wkEnd wT ?_
        exact Fin.cut (Lt.emp.cons_tup ((Lt.v _).cons_tup .nil_tup)) ⟨rfl, rfl⟩
    · by_cases h63 : (63 : Int) < (c.toNat : Int)
      · rw [labS_bad (by omega) (.inl (by omega))] at hlab
        have hl : lab s = none := by
          unfold lab
          split
          · rfl
          · exact hlab
        rw [hl]
        refine wk (wA hc (wA hg (wA hz (wA h63 wT)))) wT ?_
        refine wkEnd wT ?_
        exact Fin.cut (Lt.emp.cons_tup ((Lt.v _).cons_tup .nil_tup)) ⟨rfl, rfl⟩
      by_cases hn : (s.length : Int) < (i : Int) + 1 + (c.toNat : Int)
      · rw [labS_bad (by omega) (.inr (by omega))] at hlab
        have hl : lab s = none := by
          unfold lab
          split
          · rfl
          · exact hlab
        rw [hl]
        refine wk (wA hc (wA hg (wA hz (wA h63 (wA hn wT))))) wT ?_
        refine wkEnd wT ?_
        exact Fin.cut (Lt.emp.cons_tup ((Lt.v _).cons_tup .nil_tup)) ⟨rfl, rfl⟩
      rw [labS_more (by omega) (by omega)] at hlab
      refine wk (wA hc (wA hg (wA hz (wA h63 (wA hn wT))))) wT ?_
      have e1 : ((i : Int) + 1 + (c.toNat : Int)).toNat = i + 1 + c.toNat := by omega
      have e2 : ((i : Int) + 1).toNat = i + 1 := by omega
      rw [e1, e2]
      have e3 : List.drop (i + 1) (List.take (i + 1 + c.toNat) s) = (s.drop (i + 1)).take c.toNat := by rw [List.take_drop]
      rw [e3]
      refine ⟨⟨(ls ++ [(s.drop (i + 1)).take c.toNat], i + 1 + c.toNat, g + 1), ?_, ?_, ?_⟩, ?_, ?_⟩
      · dsimp only
        rw [hlab, List.drop_drop]
        cases labS (s.drop (i + 1 + c.toNat)) <;> simp
      · dsimp only; omega
      · dsimp only
        rw [List.length_append, List.length_singleton]
        omega
      · dsimp only
        rw [List.length_append, List.length_singleton]
        exact Coe.kp
      · dsimp only
        omega

theorem refRight16_spec (s : List UInt8) (hs : s.length ≤ 8796093022208) (H : List Box) : ASpec Try.prog 16 [vs s] H (Gives (vb (lab s).isSome) H) := by
  have hl := fun H => cut_spec s hs H
  cases hlb : lab s with
  | none =>
    rw [hlb] at hl
    have hl : ∀ H, ASpec Try.prog 40 [vs s] H (Gives (.tup [.emp, vb false]) H) := hl
    refine ASpec.enter Try.func16 rfl (fun a w => Try.call16 a w) Try.ntmps16 Try.results16 fun base w β hI => ?_
    refine wk wT (wA hl wT) ?_
    refine wkEnd wT ?_
    exact Fin.same ⟨rfl, rfl⟩
  | some l =>
    rw [hlb] at hl
    have hl : ∀ H, ASpec Try.prog 40 [vs s] H (Gives (.tup [.lst 1 (strG l), vb true]) H) := hl
    refine ASpec.enter Try.func16 rfl (fun a w => Try.call16 a w) Try.ntmps16 Try.results16 fun base w β hI => ?_
    refine wk wT (wA hl wT) ?_
    refine wkEnd wT ?_
    exact Fin.same ⟨rfl, rfl⟩

end Go.Proofs.Ytkkhbmpcpilmfaa.VL
