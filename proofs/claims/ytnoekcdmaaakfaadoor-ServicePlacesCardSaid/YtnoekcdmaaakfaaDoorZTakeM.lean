/- Layer 1: what is laid is taken, in plain lists. -/
import Derived.Test.YtnoekcdmaaakfaaDoorZQuillG
set_option linter.unusedVariables false
set_option linter.unusedSimpArgs false
namespace Go.Proofs.YtnoekcdmaaakfaaDoor.VL
open Go Go.RowKit Go.Lib

def textB (s : List UInt8) : List UInt8 := numB s.length ++ s
theorem numB_natI (n : Nat) (h : n ≤ 4611686018427387904) : numB (n : Int) = nb n := by
  rw [numB_ok (by simp [okNum]; omega)]
  simp
theorem tt_textB (s more : List UInt8) (most : Int) (h : (s.length : Int) ≤ most) (h2 : s.length ≤ 4611686018427387904) : tt (textB s ++ more) most = (s, more, 0) := by
  unfold tt textB
  rw [numB_natI _ h2, List.append_assoc, tk_nb _ _ h2]
  simp only [ne_eq, not_true, if_false]
  rw [if_neg (by omega), if_neg (by simp)]
  simp
theorem tk_numB (n : Int) (more : List UInt8) (h0 : 0 ≤ n) (h1 : n ≤ 4611686018427387904) : tk (numB n ++ more) = (n.toNat, more, 0) := by
  obtain ⟨m, rfl⟩ := Int.eq_ofNat_of_zero_le h0
  rw [numB_natI m (by omega), tk_nb m more (by omega)]
  rfl
theorem tt_once {bs : List UInt8} {most : Int} (h : (tt bs most).2.2 = 0) : bs = textB (tt bs most).1 ++ (tt bs most).2.1 ∧ ((tt bs most).1.length : Int) ≤ most := by
  unfold tt at h ⊢
  by_cases h1 : (tk bs).2.2 = 0
  · have ho := tk_once h1
    have hf := tkGo_facts 9 0 0 bs
    rw [if_neg (by simpa using h1)] at h ⊢
    by_cases h2 : most < ((tk bs).1 : Int)
    · rw [if_pos h2] at h; simp at h
    · rw [if_neg h2] at h ⊢
      by_cases h3 : (tk bs).2.1.length < (tk bs).1
      · rw [if_pos h3] at h; simp at h
      · rw [if_neg h3] at h ⊢
        have hl : ((tk bs).2.1.take (tk bs).1).length = (tk bs).1 := by simp; omega
        refine ⟨?_, by dsimp only; omega⟩
        dsimp only
        rw [textB, hl, numB_natI _ hf.2.1, List.append_assoc, List.take_append_drop]
        exact ho
  · rw [if_pos (by simpa using h1)] at h
    exact absurd h h1
theorem tt_facts (bs : List UInt8) (most : Int) : (tt bs most).2.1.length ≤ bs.length ∧ (tt bs most).1.length ≤ bs.length ∧ 0 ≤ (tt bs most).2.2 ∧ (tt bs most).2.2 ≤ 4 := by
  have hf : (tk bs).2.1.length ≤ bs.length ∧ (tk bs).1 ≤ 4611686018427387904 ∧ 0 ≤ (tk bs).2.2 ∧ (tk bs).2.2 ≤ 3 := tkGo_facts 9 0 0 bs
  unfold tt
  split
  · simp; omega
  · split
    · simp
    · split
      · simp
      · simp only [List.length_drop, List.length_take]; omega

end Go.Proofs.YtnoekcdmaaakfaaDoor.VL
