/- Layer 20: the reference's reader: a number, a text, how many; behind a wrong one nothing is read. -/
import Derived.Test.YtjkdahpoalnjjaaDoorZCd
import Derived.Test.YtjkdahpoalnjjaaDoorZMsgV
import Derived.Test.YtjkdahpoalnjjaaDoorZQb
-- STEPWISE
-- WK
set_option linter.unusedVariables false
set_option linter.unusedSimpArgs false
set_option maxRecDepth 10000
namespace Go.Proofs.YtjkdahpoalnjjaaDoor.VL
open Go Go.RowKit Go.Lib

/-- What a reader has: bytes, and what was wrong. -/
abbrev Sx := List UInt8 × Int
abbrev rsX (s : Sx) : Box := ⟨[vB s.1, vi s.2], 0, 0, false⟩
def sNum (s : Sx) : Int × Sx := if s.2 = 0 then ((tk s.1).1, (rs (tk s.1).2.1 (tk s.1).2.2, (tk s.1).2.2)) else (0, s)
def sText (s : Sx) : List UInt8 × Sx := if s.2 = 0 then ((tt s.1 200).1, (rs (tt s.1 200).2.1 (tt s.1 200).2.2, (tt s.1 200).2.2)) else ([], s)
def sCount (most : Int) (s : Sx) : Int × Sx :=
  if (sNum s).2.2 = 0 then (if most < (sNum s).1 then (0, ((sNum s).2.1, 4)) else sNum s) else (0, (sNum s).2)
theorem rs_len (r : List UInt8) (e : Int) : (rs r e).length ≤ r.length := by unfold rs; split <;> simp
theorem sNum_len (s : Sx) : (sNum s).2.1.length ≤ s.1.length := by
  unfold sNum
  split
  · have h1 := rs_len (tk s.1).2.1 (tk s.1).2.2
    have h2 : (tk s.1).2.1.length ≤ s.1.length := (tkGo_facts 9 0 0 s.1).1
    dsimp only; omega
  · exact Nat.le_refl _
theorem sText_len (s : Sx) : (sText s).2.1.length ≤ s.1.length := by
  unfold sText
  split
  · have h1 := rs_len (tt s.1 200).2.1 (tt s.1 200).2.2
    have h2 := (tt_facts s.1 200).1
    dsimp only; omega
  · exact Nat.le_refl _
theorem sCount_len (m : Int) (s : Sx) : (sCount m s).2.1.length ≤ s.1.length := by
  have h := sNum_len s
  unfold sCount
  split
  · split <;> exact h
  · exact h
theorem sNum_nn (s : Sx) : 0 ≤ (sNum s).1 := by
  unfold sNum
  split
  · exact Int.natCast_nonneg _
  · exact Int.le_refl _
theorem sCount_in {m : Int} (hm : 0 ≤ m) (s : Sx) : 0 ≤ (sCount m s).1 ∧ (sCount m s).1 ≤ m := by
  have h := sNum_nn s
  unfold sCount
  split
  · split
    · exact ⟨Int.le_refl _, hm⟩
    · exact ⟨h, by omega⟩
  · exact ⟨Int.le_refl _, hm⟩

abbrev Rds (r : AV) (H : List Box) (b : Nat) (s : Sx) : Out → List Box → Prop := fun o H' => o = .ret r ∧ H' = H.set b (rsX s)
theorem set_selfB {H : List Box} {b : Nat} {x : Box} (h : H[b]? = some x) : H.set b x = H := by
  apply List.ext_getElem?
  intro k
  by_cases hk : b = k
  · subst hk; rw [List.getElem?_set_self (List.getElem?_eq_some_iff.1 h).1, h]
  · rw [List.getElem?_set_ne hk]
theorem rsNum_spec (s : Sx) (hl : s.1.length ≤ 1099511627776) (b : Nat) (H : List Box) (hb : H[b]? = some (rsX s)) : ASpec Tryd.prog 29 [.ptr b 0 0] H (Rds (vi (sNum s).1) H b (sNum s).2) := by
  obtain ⟨bs, e⟩ := s
  dsimp only at hl
  unfold sNum
  dsimp only
  by_cases he : e = 0
  · subst he
    have h0 := fun H => refTake_spec' bs hl H
    rw [if_pos rfl]
    generalize rs (tk bs).2.1 (tk bs).2.2 = r at h0 ⊢
    generalize tk bs = x at h0 ⊢
    obtain ⟨n, r', e⟩ := x
    dsimp only at h0 ⊢
    have hset := set_same hb
    refine ASpec.enter Tryd.func29 rfl (fun a w => Tryd.call29 a w) Tryd.ntmps29 Tryd.results29 fun base w β hI => ?_
    refine wk (wA hb (wA hset wT)) (wA h0 (wA DrM.mk wT)) ?_
    refine wkEnd wT ?_
    rw [List.set_set]
    exact ⟨_, _, Shed.refl _ _ _, rfl, rfl⟩
  · rw [if_neg he]
    refine ASpec.enter Tryd.func29 rfl (fun a w => Tryd.call29 a w) Tryd.ntmps29 Tryd.results29 fun base w β hI => ?_
    refine wk (wA hb (wA he wT)) (wA DrM.mk wT) ?_
    refine wkEnd wT ?_
    exact ⟨_, _, Shed.refl _ _ _, rfl, (set_selfB hb).symm⟩
theorem rsText_spec (s : Sx) (hl : s.1.length ≤ 1099511627776) (b : Nat) (H : List Box) (hb : H[b]? = some (rsX s)) : ASpec Tryd.prog 31 [.ptr b 0 0] H (Rds (vs (sText s).1) H b (sText s).2) := by
  obtain ⟨bs, e⟩ := s
  dsimp only at hl
  unfold sText
  dsimp only
  by_cases he : e = 0
  · subst he
    have h0 := fun H => refTakeText_spec' bs 200 hl H
    rw [if_pos rfl]
    generalize rs (tt bs 200).2.1 (tt bs 200).2.2 = r at h0 ⊢
    generalize tt bs 200 = x at h0 ⊢
    obtain ⟨n, r', e⟩ := x
    dsimp only at h0 ⊢
    have hset := set_same hb
    refine ASpec.enter Tryd.func31 rfl (fun a w => Tryd.call31 a w) Tryd.ntmps31 Tryd.results31 fun base w β hI => ?_
    refine wk (wA hb (wA hset wT)) (wA h0 (wA DrM.mk wT)) ?_
    refine wkEnd wT ?_
    rw [List.set_set]
    exact ⟨_, _, Shed.refl _ _ _, rfl, rfl⟩
  · rw [if_neg he]
    refine ASpec.enter Tryd.func31 rfl (fun a w => Tryd.call31 a w) Tryd.ntmps31 Tryd.results31 fun base w β hI => ?_
    refine wk (wA hb (wA he wT)) (wA DrM.mk wT) ?_
    refine wkEnd wT ?_
    exact ⟨_, _, Shed.refl _ _ _, rfl, (set_selfB hb).symm⟩
theorem rsCount_spec (most : Int) (s : Sx) (hl : s.1.length ≤ 1099511627776) (b : Nat) (H : List Box) (hb : H[b]? = some (rsX s)) : ASpec Tryd.prog 28 [.ptr b 0 0, vi most] H (Rds (vi (sCount most s).1) H b (sCount most s).2) := by
  have h0 := rsNum_spec s hl b H hb
  unfold sCount
  generalize sNum s = x at h0 ⊢
  obtain ⟨n, r, e⟩ := x
  dsimp only at h0 ⊢
  have hset := set_same hb
  by_cases he : e = 0
  · subst he
    rw [if_pos rfl]
    by_cases hm : most < n
    · rw [if_pos hm]
      have hset2 := fun x => set_same (hset x)
      refine ASpec.enter Tryd.func28 rfl (fun a w => Tryd.call28 a w) Tryd.ntmps28 Tryd.results28 fun base w β hI => ?_
      refine wk (wA hb (wA hset (wA hset2 (wA hm wT)))) (wA h0 (wA DrM.mk wT)) ?_
      refine wkEnd wT ?_
      rw [List.set_set]
      exact ⟨_, _, Shed.refl _ _ _, rfl, rfl⟩
    · rw [if_neg hm]
      refine ASpec.enter Tryd.func28 rfl (fun a w => Tryd.call28 a w) Tryd.ntmps28 Tryd.results28 fun base w β hI => ?_
      refine wk (wA hb (wA hset (wA hm wT))) (wA h0 (wA DrM.mk wT)) ?_
      refine wkEnd wT ?_
      exact ⟨_, _, Shed.refl _ _ _, rfl, rfl⟩
  · rw [if_neg he]
    refine ASpec.enter Tryd.func28 rfl (fun a w => Tryd.call28 a w) Tryd.ntmps28 Tryd.results28 fun base w β hI => ?_
    refine wk (wA hb (wA hset (wA he wT))) (wA h0 (wA DrM.mk wT)) ?_
    refine wkEnd wT ?_
    exact ⟨_, _, Shed.refl _ _ _, rfl, rfl⟩
/-- The same, at a heap laid out. -/
theorem rsNum_at (s : Sx) (hl : s.1.length ≤ 1099511627776) (H : List Box) (y : Box) (N : List Box) : ASpec Tryd.prog 29 [.ptr (H.length + 1) 0 0] (H ++ y :: rsX s :: N) (fun o H' => o = .ret (vi (sNum s).1) ∧ H' = H ++ y :: rsX (sNum s).2 :: N) := by
  have h := rsNum_spec s hl (H.length + 1) (H ++ y :: rsX s :: N) (appAt _ _ 1 rfl)
  unfold Rds at h
  rw [appSet _ _ 1] at h
  exact h
theorem rsText_at (s : Sx) (hl : s.1.length ≤ 1099511627776) (H : List Box) (y : Box) (N : List Box) : ASpec Tryd.prog 31 [.ptr (H.length + 1) 0 0] (H ++ y :: rsX s :: N) (fun o H' => o = .ret (vs (sText s).1) ∧ H' = H ++ y :: rsX (sText s).2 :: N) := by
  have h := rsText_spec s hl (H.length + 1) (H ++ y :: rsX s :: N) (appAt _ _ 1 rfl)
  unfold Rds at h
  rw [appSet _ _ 1] at h
  exact h
theorem rsCount_at (most : Int) (s : Sx) (hl : s.1.length ≤ 1099511627776) (H : List Box) (y : Box) (N : List Box) : ASpec Tryd.prog 28 [.ptr (H.length + 1) 0 0, vi most] (H ++ y :: rsX s :: N) (fun o H' => o = .ret (vi (sCount most s).1) ∧ H' = H ++ y :: rsX (sCount most s).2 :: N) := by
  have h := rsCount_spec most s hl (H.length + 1) (H ++ y :: rsX s :: N) (appAt _ _ 1 rfl)
  unfold Rds at h
  rw [appSet _ _ 1] at h
  exact h

end Go.Proofs.YtjkdahpoalnjjaaDoor.VL
