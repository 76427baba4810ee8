/- Layer 25: the law of deeds. -/
import Derived.Test.YtnoekcdmaaakfaaZNetYC
import Derived.Test.YtnoekcdmaaakfaaZNetYE
import Derived.Test.YtnoekcdmaaakfaaZNetYF
import Derived.Test.YtnoekcdmaaakfaaZNetX
-- STEPWISE
-- WK
set_option linter.unusedVariables false
set_option linter.unusedSimpArgs false
set_option maxRecDepth 10000
namespace Go.Proofs.Ytnoekcdmaaakfaa.VL
open Go Go.RowKit Go.Lib

/-- Nets of a length that a slice may have. -/
abbrev NtS : Type := {n : Nt // n.fl.length ≤ 9223372036854775807 ∧ n.cu.length ≤ 9223372036854775807}
theorem sendN_le {n : Nt} (hn : NtL n) (l : List Ml) : (sendN n l).1.fl.length ≤ 9223372036854775807 ∧ (sendN n l).1.cu.length ≤ 9223372036854775807 := by
  have h1 := hn.fl
  have h2 := hn.cu
  unfold sendN
  split
  · simp only [List.length_append, List.length_take]; omega
  · dsimp only; omega
theorem dropN_le {n : Nt} (hn : NtL n) (i : Nat) : (dropN n i).fl.length ≤ 9223372036854775807 ∧ (dropN n i).cu.length ≤ 9223372036854775807 := by
  have h1 := hn.fl
  have h2 := hn.cu
  simp only [dropN, List.length_append, List.length_take, List.length_drop]; omega
theorem delivN_le {n : Nt} (hn : NtL n) (x : Int) : (delivN n x).1.fl.length ≤ 9223372036854775807 ∧ (delivN n x).1.cu.length ≤ 9223372036854775807 := by
  have h1 := hn.fl
  have h2 := hn.cu
  unfold delivN
  split
  · split
    · exact dropN_le hn _
    · exact dropN_le hn _
  · dsimp only; omega
theorem loseN_le {n : Nt} (hn : NtL n) (x : Int) : (loseN n x).1.fl.length ≤ 9223372036854775807 ∧ (loseN n x).1.cu.length ≤ 9223372036854775807 := by
  have h1 := hn.fl
  have h2 := hn.cu
  unfold loseN
  split
  · exact dropN_le hn _
  · dsimp only; omega
theorem dblN_le {n : Nt} (hn : NtL n) (x : Int) : (dblN n x).1.fl.length ≤ 9223372036854775807 ∧ (dblN n x).1.cu.length ≤ 9223372036854775807 := by
  have h1 := hn.fl
  have h2 := hn.cu
  unfold dblN
  split
  · split
    · dsimp only; omega
    · simp only [List.length_append, List.length_singleton]; omega
  · dsimp only; omega

set_option maxHeartbeats 16000000 in
theorem netDeeds_spec (n : Nt) (hn : NtL n) (l : List Ml) (hl : l.length ≤ 9223372036854775807) (x y z : Int) (H : List Box) :
    ASpec Try.prog 4 [ntV n, .lst 3 (mlG l), .agg [vi x, vi y, vi z]] H (Gives (vb true) H) := by
  have hcu := hn.cu
  have hfl := hn.fl
  have ha := fun H => alive25_spec H
  have hg := fun H => greatLaw_spec n l (by omega) hl H
  generalize (grN n || grN ⟨l, []⟩) = gr at *
  cases gr with
  | true =>
    obtain ⟨fl, cu⟩ := n
    refine ASpec.enter Try.func4 rfl (fun a w => Try.call4 a w) Try.ntmps4 Try.results4 fun base w β hI => ?_
    refine wk wT (wA ha (wA hg (wA DrM.mk wT))) ?_
    refine wkEnd wT ?_
    exact Fin.cut (.v _) ⟨rfl, rfl⟩
  | false =>
    have hcp := fun H => copyF_spec n (by omega) (by omega) hn.d H
    have s1 := fun H => send_spec n hn l hl H
    have r1 := fun H => refSend_spec n hn l hl H
    have s2 := fun H => deliver_spec n hn x H
    have r2 := fun H => refDeliver_spec n hn x H
    have s3 := fun H => lose_spec n hn x H
    have r3 := fun H => refLose_spec n hn x H
    have s4 := fun H => double_spec n hn x H
    have r4 := fun H => refDouble_spec n hn x H
    have hsame : ∀ (S : NtS) (H : List Box), ASpec Try.prog 19 [ntV S.1, ntV S.1] H (Gives (vb true) H) := fun S H => refSame_spec S.1 S.2.1 S.2.2 H
    have hsm : ∀ (m : Ml) (H : List Box), ASpec Try.prog 11 [mlV m, mlV m] H (Gives (vb true) H) := fun m H => by simpa using sameMail_spec m m H
    obtain ⟨A, hA⟩ : ∃ A : NtS, (sendN n l).1 = A.1 := ⟨⟨_, sendN_le hn l⟩, rfl⟩
    obtain ⟨B, hB⟩ : ∃ A : NtS, (delivN n x).1 = A.1 := ⟨⟨_, delivN_le hn x⟩, rfl⟩
    obtain ⟨C, hC⟩ : ∃ A : NtS, (loseN n x).1 = A.1 := ⟨⟨_, loseN_le hn x⟩, rfl⟩
    obtain ⟨D, hD⟩ : ∃ A : NtS, (dblN n x).1 = A.1 := ⟨⟨_, dblN_le hn x⟩, rfl⟩
    rw [hA] at s1 r1
    rw [hB] at s2 r2
    rw [hC] at s3 r3
    rw [hD] at s4 r4
    clear hA hB hC hD
    generalize (sendN n l).2.1 = i1 at *
    generalize (sendN n l).2.2 = i2 at *
    generalize (delivN n x).2.1 = m at *
    generalize (delivN n x).2.2 = i3 at *
    generalize (loseN n x).2 = i4 at *
    generalize (dblN n x).2 = i5 at *
    obtain ⟨N, hN⟩ : ∃ N : NtS, n = N.1 := ⟨⟨n, by omega, by omega⟩, rfl⟩
    subst hN
    dsimp only [ntV, ntC, mlV, mlC] at *
    refine ASpec.enter Try.func4 rfl (fun a w => Try.call4 a w) Try.ntmps4 Try.results4 fun base w β hI => ?_
    refine wk wT (wA ha (wA hg (wA hcp (wA s1 (wA r1 (wA s2 (wA r2 (wA s3 (wA r3 (wA s4 (wA r4 (wA hsame (wA hsm (wA DrM.mk wT)))))))))))))) ?_
    refine wkEnd wT ?_
    exact Fin.cut (.v _) ⟨rfl, rfl⟩

end Go.Proofs.Ytnoekcdmaaakfaa.VL
