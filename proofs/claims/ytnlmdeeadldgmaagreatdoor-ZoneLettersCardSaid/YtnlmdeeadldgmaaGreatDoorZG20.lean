/- Layer 1: numbers as bytes, in plain lists. -/
import Derived.Test.YtnlmdeeadldgmaaGreatDoorZG14
import Derived.Test.YtnlmdeeadldgmaaGreatDoorZVLWalk
import Derived.Test.YtnlmdeeadldgmaaGreatDoorZVLTy
import Derived.Test.YtnlmdeeadldgmaaGreatDoorZG17
set_option linter.unusedVariables false
set_option linter.unusedSimpArgs false
namespace Go.Proofs.YtnlmdeeadldgmaaGreatDoor.VL
open Go Go.RowKit Go.Lib

/-- A number's bytes: seven bits each, the lowest first; all but the last one have 128 more. -/
def nb (n : Nat) : List UInt8 := if n < 128 then [UInt8.ofNat n] else UInt8.ofNat (n % 128 + 128) :: nb (n / 128)
termination_by n
decreasing_by omega
theorem nb_small {n : Nat} (h : n < 128) : nb n = [UInt8.ofNat n] := by rw [nb, if_pos h]
theorem nb_big {n : Nat} (h : 128 ≤ n) : nb n = UInt8.ofNat (n % 128 + 128) :: nb (n / 128) := by rw [nb, if_neg (by omega)]
theorem nb_pos (n : Nat) : 0 < (nb n).length := by rw [nb]; split <;> simp
def okNum (n : Int) : Bool := decide (0 ≤ n ∧ n ≤ 4611686018427387904)
/-- What is laid of a number: nothing, if it is none. -/
def numB (n : Int) : List UInt8 := if okNum n then nb n.toNat else []
def numsB (l : List Int) : List UInt8 := l.flatMap numB

theorem nb_length_le (k : Nat) : ∀ n, n < 128 ^ k → 0 < k → (nb n).length ≤ k := by
  induction k with
  | zero => intro n _ h; omega
  | succ k ih =>
    intro n h _
    by_cases hn : n < 128
    · rw [nb_small hn]; simp
    · rw [nb_big (by omega)]
      have hk : 0 < k := by
        rcases Nat.eq_zero_or_pos k with h0 | h0
        · subst h0; simp at h; omega
        · exact h0
      have := ih (n / 128) (by rw [Nat.pow_succ] at h; omega) hk
      simp; omega
theorem numB_length_le (n : Int) : (numB n).length ≤ 9 := by
  unfold numB
  split
  · rename_i h
    simp only [okNum, decide_eq_true_eq] at h
    refine nb_length_le 9 _ ?_ (by omega)
    have : (128 : Nat) ^ 9 = 9223372036854775808 := by decide
    omega
  · simp

/-- How many bits a number has. -/
def blen (n : Nat) : Nat := if n = 0 then 0 else Nat.log2 n + 1
theorem blen_zero : blen 0 = 0 := rfl
theorem blen_half {n : Nat} (h : 0 < n) : blen n = blen (n / 2) + 1 := by
  unfold blen
  rw [if_neg (by omega)]
  by_cases h1 : n = 1
  · subst h1; decide
  · rw [if_neg (by omega), Nat.log2_def]
    rw [if_pos (by omega)]
theorem blen_shift (k : Nat) : ∀ n, 2 ^ k ≤ n → blen n = blen (n / 2 ^ k) + k := by
  induction k with
  | zero => intro n _; simp
  | succ k ih =>
    intro n h
    have hp : 0 < 2 ^ k := Nat.two_pow_pos k
    rw [Nat.pow_succ] at h
    rw [blen_half (by omega), ih (n / 2) (by omega), Nat.div_div_eq_div_mul, Nat.pow_succ, Nat.mul_comm 2]
    omega
theorem nb_length (n : Nat) : (nb n).length = max 1 ((blen n + 6) / 7) := by
  induction n using Nat.strongRecOn with
  | _ n ih =>
    by_cases h : n < 128
    · rw [nb_small h]
      have : ∀ m, m < 128 → max 1 ((blen m + 6) / 7) = 1 := by decide
      rw [this n h]; rfl
    · have h2 := blen_shift 7 n (by omega)
      have := ih (n / 128) (by omega)
      rw [nb_big (by omega), List.length_cons, this, h2]
      have hb : 0 < blen (n / 2 ^ 7) := by unfold blen; split <;> omega
      have e : (2 : Nat) ^ 7 = 128 := rfl
      rw [e] at hb ⊢
      omega
theorem blen_or_one (n : Nat) : blen (n ||| 1) = max 1 (blen n) := by
  have hd : (n ||| 1) / 2 = n / 2 := by
    have := Nat.or_div_two (a := n) (b := 1)
    simpa using this
  have hp : 0 < n ||| 1 := by
    have := Nat.right_le_or (n := n) (m := 1)
    omega
  rw [blen_half hp, hd]
  rcases Nat.eq_zero_or_pos n with h | h
  · subst h; decide
  · rw [blen_half h]; omega

end Go.Proofs.YtnlmdeeadldgmaaGreatDoor.VL

/- Layer 1: what the reference's and the program's functions on numbers' and texts' bytes compute. -/
-- STEPWISE
-- WK
set_option linter.unusedVariables false
set_option linter.unusedSimpArgs false
set_option maxRecDepth 10000
namespace Go.Proofs.YtnlmdeeadldgmaaGreatDoor.VL
open Go Go.RowKit Go.Lib

/-- A call answers just this, and leaves the boxes as they were. -/
abbrev Gives (r : AV) (H : List Box) : Out → List Box → Prop := fun o H' => o = .ret r ∧ H' = H
abbrev vi (n : Int) : AV := .v (.int .i64 n)
abbrev vb (b : Bool) : AV := .v (.bool b)
abbrev vs (bs : List UInt8) : AV := .v (.string ⟨bs.toArray⟩)
abbrev vB (bs : List UInt8) : AV := .lst 1 (bytesG bs)
/-- A new row of bytes, one's own. -/
abbrev Owns (bs : List UInt8) (H : List Box) : Out → List Box → Prop := fun o H' => o = .ret (.sl H.length 0 0 bs.length 1 false) ∧ H' = H ++ [⟨bytesC bs, 0, 0, true⟩]

theorem may_spec (n : Int) (H : List Box) : ASpec Tryz.prog 125 [vi n] H (Gives (vb (okNum n)) H) := by
  refine ASpec.enter Tryz.func125 rfl (fun a w => Tryz.call125 a w) Tryz.ntmps125 Tryz.results125 fun base w β hI => ?_
  repeat' (first
    | (refine AWP.seq ?_)
    | (refine AWP.block ?_)
    | (refine AWP.region_k fun Q' hQ' => ?_)
    | (refine AWP.draw_k rfl (by kernel_rfl) fun Q' hQ' => ?_)
    | (with_reducible refine aops.step fun T hT => ?_; simp (disch := omega) only [go_sem, Nat.reduceBEq, Nat.reduceLT, Nat.reduceEqDiff, reduceIte, Nat.reduceAdd, Nat.reduceMul, Nat.reduceSub, Nat.reduceLeDiff, Int.reduceToNat, Int.reducePow, Int.reduceLT, Int.reduceEq, Int.reduceBEq, Int.reduceNeg, Nat.reducePow, List.reduceReplicate, Int.reduceLE])
    | (with_reducible refine qops.step fun T hT => ?_; simp (disch := omega) only [go_sem, Nat.reduceBEq, Nat.reduceLT, Nat.reduceEqDiff, reduceIte, Nat.reduceAdd, Nat.reduceMul, Nat.reduceSub, Nat.reduceLeDiff, Int.reduceToNat, Int.reducePow, Int.reduceLT, Int.reduceEq, Int.reduceBEq, Int.reduceNeg, Nat.reducePow, List.reduceReplicate, Int.reduceLE])
    | (with_reducible refine aops.nil ?_)
    | (with_reducible refine qops.nil ?_)
    | (with_reducible refine hT _ ?_; clear hT T)
    | (refine AWP.skip ?_; try simp only [AExit.then, AExit.inBlock, reduceIte, Nat.reduceEqDiff])
    | (refine AWP.exit ?_; try simp only [AExit.then, AExit.inBlock, reduceIte, Nat.reduceEqDiff])
    | (refine AWP.ret ?_; try simp only [AExit.then, AExit.inBlock, reduceIte, Nat.reduceEqDiff])
    | (refine AWP.cond rfl (fun h => ?_) (fun h => ?_) <;> (try simp only [decide_eq_true_eq, decide_eq_false_iff_not, Bool.true_eq_false, Bool.false_eq_true] at h) <;> (try contradiction))
    | (refine hQ' _ _ ?_; clear hQ' Q'; try simp only [AExit.then, AExit.inBlock, reduceIte, Nat.reduceEqDiff])
    | (refine hQ' _ ?_; clear hQ' Q'; try simp only [AExit.then, AExit.inBlock, reduceIte, Nat.reduceEqDiff])
    | (with_reducible refine Branch.split (fun h => ?_) (fun h => ?_) <;> (try simp only [decide_eq_true_eq, decide_eq_false_iff_not, Bool.not_true, Bool.not_false, Bool.true_eq_false, Bool.false_eq_true] at h) <;> (try contradiction) <;> (simp (disch := omega) only [go_sem, Nat.reduceBEq, Nat.reduceLT, Nat.reduceEqDiff, reduceIte, Nat.reduceAdd, Nat.reduceMul, Nat.reduceSub, Nat.reduceLeDiff, Int.reduceToNat, Int.reducePow, Int.reduceLT, Int.reduceEq, Int.reduceBEq, Int.reduceNeg, Nat.reducePow, List.reduceReplicate, Int.reduceLE, h]))
    | (with_reducible intro h; try simp only [h, go_sem, Nat.reduceBEq, Nat.reduceLT, Nat.reduceEqDiff, reduceIte, Nat.reduceAdd, Nat.reduceMul, Nat.reduceSub, Nat.reduceLeDiff, Int.reduceToNat, Int.reducePow, Int.reduceLT, Int.reduceEq, Int.reduceBEq, Int.reduceNeg, Nat.reducePow, List.reduceReplicate, Int.reduceLE]))
  all_goals
    simp only [bodyQ, go_sem, Nat.reduceBEq, Nat.reduceLT, Nat.reduceEqDiff, reduceIte, Nat.reduceAdd, Nat.reduceMul, Nat.reduceSub, Nat.reduceLeDiff, Int.reduceToNat, Int.reducePow, Int.reduceLT, Int.reduceEq, Int.reduceBEq, Int.reduceNeg, Nat.reducePow, List.reduceReplicate, Int.reduceLE]
    refine Fin.same ⟨?_, rfl⟩
    simp [okNum, *]

theorem refSize_spec (k : Nat) : ∀ (n : Int) (H : List Box), n.toNat < k → ASpec Tryz.prog 145 [vi n] H (Gives (vi (numB n).length) H) := by
  induction k with
  | zero => intro n H h; omega
  | succ k ih =>
    intro n H hk
    cases hn : okNum n with
    | false =>
      refine ASpec.enter Tryz.func145 rfl (fun a w => Tryz.call145 a w) Tryz.ntmps145 Tryz.results145 fun base w β hI => ?_
      refine wk (wA hn wT) (wA (may_spec n) (wA DrM.mk wT)) ?_
      simp only [bodyQ, go_sem, Nat.reduceBEq, Nat.reduceLT, Nat.reduceEqDiff, reduceIte, Nat.reduceAdd, Nat.reduceMul, Nat.reduceSub, Nat.reduceLeDiff, Int.reduceToNat, Int.reducePow, Int.reduceLT, Int.reduceEq, Int.reduceBEq, Int.reduceNeg, Nat.reducePow, List.reduceReplicate, Int.reduceLE]
      exact Fin.same ⟨by simp [numB, hn], rfl⟩
    | true =>
      have hb : 0 ≤ n ∧ n ≤ 4611686018427387904 := by simpa [okNum] using hn
      by_cases h128 : n < 128
      · refine ASpec.enter Tryz.func145 rfl (fun a w => Tryz.call145 a w) Tryz.ntmps145 Tryz.results145 fun base w β hI => ?_
        refine wk (wA hn (wA h128 wT)) (wA (may_spec n) (wA DrM.mk wT)) ?_
        simp only [bodyQ, go_sem, Nat.reduceBEq, Nat.reduceLT, Nat.reduceEqDiff, reduceIte, Nat.reduceAdd, Nat.reduceMul, Nat.reduceSub, Nat.reduceLeDiff, Int.reduceToNat, Int.reducePow, Int.reduceLT, Int.reduceEq, Int.reduceBEq, Int.reduceNeg, Nat.reducePow, List.reduceReplicate, Int.reduceLE]
        exact Fin.same ⟨by simp [numB, hn, nb_small (show n.toNat < 128 by omega)], rfl⟩
      · have hq : Int.tdiv n 128 = n / 128 := Int.tdiv_eq_ediv_of_nonneg hb.1
        have hl := numB_length_le (n / 128)
        have ht : (n / 128).toNat = n.toNat / 128 := by omega
        have hok : okNum (n / 128) = true := by simp [okNum]; omega
        refine ASpec.enter Tryz.func145 rfl (fun a w => Tryz.call145 a w) Tryz.ntmps145 Tryz.results145 fun base w β hI => ?_
        refine wk (wA hn (wA h128 (wA hq wT))) (wA (may_spec n) (wA (ih (n / 128) _ (by omega)) (wA DrM.mk wT))) ?_
        simp only [bodyQ, go_sem, Nat.reduceBEq, Nat.reduceLT, Nat.reduceEqDiff, reduceIte, Nat.reduceAdd, Nat.reduceMul, Nat.reduceSub, Nat.reduceLeDiff, Int.reduceToNat, Int.reducePow, Int.reduceLT, Int.reduceEq, Int.reduceBEq, Int.reduceNeg, Nat.reducePow, List.reduceReplicate, Int.reduceLE]
        refine Fin.same ⟨?_, rfl⟩
        simp only [numB, hn, hok, if_true, nb_big (show 128 ≤ n.toNat by omega), ht, List.length_cons]
        congr 4
        omega

theorem len8_get : ∀ i, i < 256 → ((([0, 1, 2, 2, 3, 3, 3, 3, 4, 4, 4, 4, 4, 4, 4, 4, 5, 5, 5, 5, 5, 5, 5, 5, 5, 5, 5, 5, 5, 5, 5, 5, 6, 6, 6, 6, 6, 6, 6, 6, 6, 6, 6, 6, 6, 6, 6, 6, 6, 6, 6, 6, 6, 6, 6, 6, 6, 6, 6, 6, 6, 6, 6, 6] : List UInt8).append [7, 7, 7, 7, 7, 7, 7, 7, 7, 7, 7, 7, 7, 7, 7, 7, 7, 7, 7, 7, 7, 7, 7, 7, 7, 7, 7, 7, 7, 7, 7, 7, 7, 7, 7, 7, 7, 7, 7, 7, 7, 7, 7, 7, 7, 7, 7, 7, 7, 7, 7, 7, 7, 7, 7, 7, 7, 7, 7, 7, 7, 7, 7, 7]).append (([8, 8, 8, 8, 8, 8, 8, 8, 8, 8, 8, 8, 8, 8, 8, 8, 8, 8, 8, 8, 8, 8, 8, 8, 8, 8, 8, 8, 8, 8, 8, 8, 8, 8, 8, 8, 8, 8, 8, 8, 8, 8, 8, 8, 8, 8, 8, 8, 8, 8, 8, 8, 8, 8, 8, 8, 8, 8, 8, 8, 8, 8, 8, 8] : List UInt8).append [8, 8, 8, 8, 8, 8, 8, 8, 8, 8, 8, 8, 8, 8, 8, 8, 8, 8, 8, 8, 8, 8, 8, 8, 8, 8, 8, 8, 8, 8, 8, 8, 8, 8, 8, 8, 8, 8, 8, 8, 8, 8, 8, 8, 8, 8, 8, 8, 8, 8, 8, 8, 8, 8, 8, 8, 8, 8, 8, 8, 8, 8, 8, 8]))[i]? = some (UInt8.ofNat (blen i)) := by decide
theorem blen_small : ∀ i, i < 256 → blen i ≤ 8 := by decide
theorem u8_small (i : Nat) (h : i < 256) : ((UInt8.ofNat (blen i)).toNat : Int) = blen i := by
  have := blen_small i h
  simp [UInt8.toNat_ofNat']
  omega
theorem len_key (n k p m : Nat) (hp : p = 2 ^ k) (h1 : n / p = m) (h3 : k = 0 ∨ p ≤ n) : (k : Int) + (blen m : Int) = blen n := by
  subst h1; subst hp
  rcases h3 with rfl | h3
  · simp
  · rw [blen_shift k n h3]; omega
set_option maxHeartbeats 1000000 in
theorem len64_spec (n : Nat) (hn : n < 18446744073709551616) (H : List Box) : ASpec Tryz.prog 163 [.v (.int .u64 n)] H (Gives (vi (blen n)) H) := by
  by_cases h256 : n < 256
  · have hb := blen_small n h256
    refine ASpec.enter Tryz.func163 rfl (fun a w => Tryz.call163 a w) Tryz.ntmps163 Tryz.results163 fun base w β hI => ?_
    repeat' (first
      | (refine AWP.seq ?_)
      | (refine AWP.block ?_)
      | (refine AWP.region_k fun Q' hQ' => ?_)
      | (refine AWP.draw_k rfl (by kernel_rfl) fun Q' hQ' => ?_)
      | (with_reducible refine aops.step fun T hT => ?_; simp (disch := omega) only [go_sem, Nat.reduceBEq, Nat.reduceLT, Nat.reduceEqDiff, reduceIte, Nat.reduceAdd, Nat.reduceMul, Nat.reduceSub, Nat.reduceLeDiff, Int.reduceToNat, Int.reducePow, Int.reduceLT, Int.reduceEq, Int.reduceBEq, Int.reduceNeg, Nat.reducePow, List.reduceReplicate, Int.reduceLE])
      | (with_reducible refine qops.step fun T hT => ?_; simp (disch := omega) only [go_sem, Nat.reduceBEq, Nat.reduceLT, Nat.reduceEqDiff, reduceIte, Nat.reduceAdd, Nat.reduceMul, Nat.reduceSub, Nat.reduceLeDiff, Int.reduceToNat, Int.reducePow, Int.reduceLT, Int.reduceEq, Int.reduceBEq, Int.reduceNeg, Nat.reducePow, List.reduceReplicate, Int.reduceLE])
      | (with_reducible refine aops.nil ?_)
      | (with_reducible refine qops.nil ?_)
      | (with_reducible refine hT _ ?_; clear hT T)
      | (refine AWP.skip ?_; try simp only [AExit.then, AExit.inBlock, reduceIte, Nat.reduceEqDiff])
      | (refine AWP.exit ?_; try simp only [AExit.then, AExit.inBlock, reduceIte, Nat.reduceEqDiff])
      | (refine AWP.ret ?_; try simp only [AExit.then, AExit.inBlock, reduceIte, Nat.reduceEqDiff])
      | (refine AWP.cond rfl (fun h => ?_) (fun h => ?_) <;> (try simp only [decide_eq_true_eq, decide_eq_false_iff_not, Bool.true_eq_false, Bool.false_eq_true] at h) <;> (try contradiction))
      | (refine hQ' _ _ ?_; clear hQ' Q'; try simp only [AExit.then, AExit.inBlock, reduceIte, Nat.reduceEqDiff])
      | (refine hQ' _ ?_; clear hQ' Q'; try simp only [AExit.then, AExit.inBlock, reduceIte, Nat.reduceEqDiff])
      | (with_reducible refine Branch.split (fun h => ?_) (fun h => ?_) <;> (try simp only [decide_eq_true_eq, decide_eq_false_iff_not, Bool.not_true, Bool.not_false, Bool.true_eq_false, Bool.false_eq_true] at h) <;> (try contradiction) <;> (simp (disch := omega) only [go_sem, Nat.reduceBEq, Nat.reduceLT, Nat.reduceEqDiff, reduceIte, Nat.reduceAdd, Nat.reduceMul, Nat.reduceSub, Nat.reduceLeDiff, Int.reduceToNat, Int.reducePow, Int.reduceLT, Int.reduceEq, Int.reduceBEq, Int.reduceNeg, Nat.reducePow, List.reduceReplicate, Int.reduceLE, h]))
      | (with_reducible intro h; try simp only [h, go_sem, Nat.reduceBEq, Nat.reduceLT, Nat.reduceEqDiff, reduceIte, Nat.reduceAdd, Nat.reduceMul, Nat.reduceSub, Nat.reduceLeDiff, Int.reduceToNat, Int.reducePow, Int.reduceLT, Int.reduceEq, Int.reduceBEq, Int.reduceNeg, Nat.reducePow, List.reduceReplicate, Int.reduceLE]))
    all_goals first
      | (exfalso; omega)
      | (rw [len8_get n h256]
         simp (disch := omega) only [go_sem, Nat.reduceBEq, Nat.reduceLT, Nat.reduceEqDiff, reduceIte, Nat.reduceAdd, Nat.reduceMul, Nat.reduceSub, Nat.reduceLeDiff, Int.reduceToNat, Int.reducePow, Int.reduceLT, Int.reduceEq, Int.reduceBEq, Int.reduceNeg, Nat.reducePow, List.reduceReplicate, Int.reduceLE, u8_small n h256]
         repeat' (first
           | (refine AWP.seq ?_)
           | (refine AWP.block ?_)
           | (refine AWP.region_k fun Q' hQ' => ?_)
           | (refine AWP.draw_k rfl (by kernel_rfl) fun Q' hQ' => ?_)
           | (with_reducible refine aops.step fun T hT => ?_; simp (disch := omega) only [go_sem, Nat.reduceBEq, Nat.reduceLT, Nat.reduceEqDiff, reduceIte, Nat.reduceAdd, Nat.reduceMul, Nat.reduceSub, Nat.reduceLeDiff, Int.reduceToNat, Int.reducePow, Int.reduceLT, Int.reduceEq, Int.reduceBEq, Int.reduceNeg, Nat.reducePow, List.reduceReplicate, Int.reduceLE])
           | (with_reducible refine qops.step fun T hT => ?_; simp (disch := omega) only [go_sem, Nat.reduceBEq, Nat.reduceLT, Nat.reduceEqDiff, reduceIte, Nat.reduceAdd, Nat.reduceMul, Nat.reduceSub, Nat.reduceLeDiff, Int.reduceToNat, Int.reducePow, Int.reduceLT, Int.reduceEq, Int.reduceBEq, Int.reduceNeg, Nat.reducePow, List.reduceReplicate, Int.reduceLE])
           | (with_reducible refine aops.nil ?_)
           | (with_reducible refine qops.nil ?_)
           | (with_reducible refine hT _ ?_; clear hT T)
           | (refine AWP.skip ?_; try simp only [AExit.then, AExit.inBlock, reduceIte, Nat.reduceEqDiff])
           | (refine AWP.exit ?_; try simp only [AExit.then, AExit.inBlock, reduceIte, Nat.reduceEqDiff])
           | (refine AWP.ret ?_; try simp only [AExit.then, AExit.inBlock, reduceIte, Nat.reduceEqDiff])
           | (refine AWP.cond rfl (fun h => ?_) (fun h => ?_) <;> (try simp only [decide_eq_true_eq, decide_eq_false_iff_not, Bool.true_eq_false, Bool.false_eq_true] at h) <;> (try contradiction))
           | (refine hQ' _ _ ?_; clear hQ' Q'; try simp only [AExit.then, AExit.inBlock, reduceIte, Nat.reduceEqDiff])
           | (refine hQ' _ ?_; clear hQ' Q'; try simp only [AExit.then, AExit.inBlock, reduceIte, Nat.reduceEqDiff])
           | (with_reducible refine Branch.split (fun h => ?_) (fun h => ?_) <;> (try simp only [decide_eq_true_eq, decide_eq_false_iff_not, Bool.not_true, Bool.not_false, Bool.true_eq_false, Bool.false_eq_true] at h) <;> (try contradiction) <;> (simp (disch := omega) only [go_sem, Nat.reduceBEq, Nat.reduceLT, Nat.reduceEqDiff, reduceIte, Nat.reduceAdd, Nat.reduceMul, Nat.reduceSub, Nat.reduceLeDiff, Int.reduceToNat, Int.reducePow, Int.reduceLT, Int.reduceEq, Int.reduceBEq, Int.reduceNeg, Nat.reducePow, List.reduceReplicate, Int.reduceLE, h]))
           | (with_reducible intro h; try simp only [h, go_sem, Nat.reduceBEq, Nat.reduceLT, Nat.reduceEqDiff, reduceIte, Nat.reduceAdd, Nat.reduceMul, Nat.reduceSub, Nat.reduceLeDiff, Int.reduceToNat, Int.reducePow, Int.reduceLT, Int.reduceEq, Int.reduceBEq, Int.reduceNeg, Nat.reducePow, List.reduceReplicate, Int.reduceLE]))
         simp only [bodyQ, go_sem, Nat.reduceBEq, Nat.reduceLT, Nat.reduceEqDiff, reduceIte, Nat.reduceAdd, Nat.reduceMul, Nat.reduceSub, Nat.reduceLeDiff, Int.reduceToNat, Int.reducePow, Int.reduceLT, Int.reduceEq, Int.reduceBEq, Int.reduceNeg, Nat.reducePow, List.reduceReplicate, Int.reduceLE]
         exact Fin.same ⟨rfl, rfl⟩)
  refine ASpec.enter Tryz.func163 rfl (fun a w => Tryz.call163 a w) Tryz.ntmps163 Tryz.results163 fun base w β hI => ?_
  repeat' (first
    | (refine AWP.seq ?_)
    | (refine AWP.block ?_)
    | (refine AWP.region_k fun Q' hQ' => ?_)
    | (refine AWP.draw_k rfl (by kernel_rfl) fun Q' hQ' => ?_)
    | (with_reducible refine aops.step fun T hT => ?_; simp (disch := omega) only [go_sem, Nat.reduceBEq, Nat.reduceLT, Nat.reduceEqDiff, reduceIte, Nat.reduceAdd, Nat.reduceMul, Nat.reduceSub, Nat.reduceLeDiff, Int.reduceToNat, Int.reducePow, Int.reduceLT, Int.reduceEq, Int.reduceBEq, Int.reduceNeg, Nat.reducePow, List.reduceReplicate, Int.reduceLE])
    | (with_reducible refine qops.step fun T hT => ?_; simp (disch := omega) only [go_sem, Nat.reduceBEq, Nat.reduceLT, Nat.reduceEqDiff, reduceIte, Nat.reduceAdd, Nat.reduceMul, Nat.reduceSub, Nat.reduceLeDiff, Int.reduceToNat, Int.reducePow, Int.reduceLT, Int.reduceEq, Int.reduceBEq, Int.reduceNeg, Nat.reducePow, List.reduceReplicate, Int.reduceLE])
    | (with_reducible refine aops.nil ?_)
    | (with_reducible refine qops.nil ?_)
    | (with_reducible refine hT _ ?_; clear hT T)
    | (refine AWP.skip ?_; try simp only [AExit.then, AExit.inBlock, reduceIte, Nat.reduceEqDiff])
    | (refine AWP.exit ?_; try simp only [AExit.then, AExit.inBlock, reduceIte, Nat.reduceEqDiff])
    | (refine AWP.ret ?_; try simp only [AExit.then, AExit.inBlock, reduceIte, Nat.reduceEqDiff])
    | (refine AWP.cond rfl (fun h => ?_) (fun h => ?_) <;> (try simp only [decide_eq_true_eq, decide_eq_false_iff_not, Bool.true_eq_false, Bool.false_eq_true] at h) <;> (try contradiction))
    | (refine hQ' _ _ ?_; clear hQ' Q'; try simp only [AExit.then, AExit.inBlock, reduceIte, Nat.reduceEqDiff])
    | (refine hQ' _ ?_; clear hQ' Q'; try simp only [AExit.then, AExit.inBlock, reduceIte, Nat.reduceEqDiff])
    | (with_reducible refine Branch.split (fun h => ?_) (fun h => ?_) <;> (try simp only [decide_eq_true_eq, decide_eq_false_iff_not, Bool.not_true, Bool.not_false, Bool.true_eq_false, Bool.false_eq_true] at h) <;> (try contradiction) <;> (simp (disch := omega) only [go_sem, Nat.reduceBEq, Nat.reduceLT, Nat.reduceEqDiff, reduceIte, Nat.reduceAdd, Nat.reduceMul, Nat.reduceSub, Nat.reduceLeDiff, Int.reduceToNat, Int.reducePow, Int.reduceLT, Int.reduceEq, Int.reduceBEq, Int.reduceNeg, Nat.reducePow, List.reduceReplicate, Int.reduceLE, h]))
    | (with_reducible intro h; try simp only [h, go_sem, Nat.reduceBEq, Nat.reduceLT, Nat.reduceEqDiff, reduceIte, Nat.reduceAdd, Nat.reduceMul, Nat.reduceSub, Nat.reduceLeDiff, Int.reduceToNat, Int.reducePow, Int.reduceLT, Int.reduceEq, Int.reduceBEq, Int.reduceNeg, Nat.reducePow, List.reduceReplicate, Int.reduceLE]))
  all_goals first
    | (exfalso; omega)
    | (generalize hm : Int.toNat (_ : Int) = m
       have hm256 : m < 256 := by omega
       have hb := blen_small m hm256
       rw [len8_get m hm256]
       simp (disch := omega) only [go_sem, Nat.reduceBEq, Nat.reduceLT, Nat.reduceEqDiff, reduceIte, Nat.reduceAdd, Nat.reduceMul, Nat.reduceSub, Nat.reduceLeDiff, Int.reduceToNat, Int.reducePow, Int.reduceLT, Int.reduceEq, Int.reduceBEq, Int.reduceNeg, Nat.reducePow, List.reduceReplicate, Int.reduceLE, u8_small m hm256]
       repeat' (first
         | (refine AWP.seq ?_)
         | (refine AWP.block ?_)
         | (refine AWP.region_k fun Q' hQ' => ?_)
         | (refine AWP.draw_k rfl (by kernel_rfl) fun Q' hQ' => ?_)
         | (with_reducible refine aops.step fun T hT => ?_; simp (disch := omega) only [go_sem, Nat.reduceBEq, Nat.reduceLT, Nat.reduceEqDiff, reduceIte, Nat.reduceAdd, Nat.reduceMul, Nat.reduceSub, Nat.reduceLeDiff, Int.reduceToNat, Int.reducePow, Int.reduceLT, Int.reduceEq, Int.reduceBEq, Int.reduceNeg, Nat.reducePow, List.reduceReplicate, Int.reduceLE])
         | (with_reducible refine qops.step fun T hT => ?_; simp (disch := omega) only [go_sem, Nat.reduceBEq, Nat.reduceLT, Nat.reduceEqDiff, reduceIte, Nat.reduceAdd, Nat.reduceMul, Nat.reduceSub, Nat.reduceLeDiff, Int.reduceToNat, Int.reducePow, Int.reduceLT, Int.reduceEq, Int.reduceBEq, Int.reduceNeg, Nat.reducePow, List.reduceReplicate, Int.reduceLE])
         | (with_reducible refine aops.nil ?_)
         | (with_reducible refine qops.nil ?_)
         | (with_reducible refine hT _ ?_; clear hT T)
         | (refine AWP.skip ?_; try simp only [AExit.then, AExit.inBlock, reduceIte, Nat.reduceEqDiff])
         | (refine AWP.exit ?_; try simp only [AExit.then, AExit.inBlock, reduceIte, Nat.reduceEqDiff])
         | (refine AWP.ret ?_; try simp only [AExit.then, AExit.inBlock, reduceIte, Nat.reduceEqDiff])
         | (refine AWP.cond rfl (fun h => ?_) (fun h => ?_) <;> (try simp only [decide_eq_true_eq, decide_eq_false_iff_not, Bool.true_eq_false, Bool.false_eq_true] at h) <;> (try contradiction))
         | (refine hQ' _ _ ?_; clear hQ' Q'; try simp only [AExit.then, AExit.inBlock, reduceIte, Nat.reduceEqDiff])
         | (refine hQ' _ ?_; clear hQ' Q'; try simp only [AExit.then, AExit.inBlock, reduceIte, Nat.reduceEqDiff])
         | (with_reducible refine Branch.split (fun h => ?_) (fun h => ?_) <;> (try simp only [decide_eq_true_eq, decide_eq_false_iff_not, Bool.not_true, Bool.not_false, Bool.true_eq_false, Bool.false_eq_true] at h) <;> (try contradiction) <;> (simp (disch := omega) only [go_sem, Nat.reduceBEq, Nat.reduceLT, Nat.reduceEqDiff, reduceIte, Nat.reduceAdd, Nat.reduceMul, Nat.reduceSub, Nat.reduceLeDiff, Int.reduceToNat, Int.reducePow, Int.reduceLT, Int.reduceEq, Int.reduceBEq, Int.reduceNeg, Nat.reducePow, List.reduceReplicate, Int.reduceLE, h]))
         | (with_reducible intro h; try simp only [h, go_sem, Nat.reduceBEq, Nat.reduceLT, Nat.reduceEqDiff, reduceIte, Nat.reduceAdd, Nat.reduceMul, Nat.reduceSub, Nat.reduceLeDiff, Int.reduceToNat, Int.reducePow, Int.reduceLT, Int.reduceEq, Int.reduceBEq, Int.reduceNeg, Nat.reducePow, List.reduceReplicate, Int.reduceLE]))
       simp only [bodyQ, go_sem, Nat.reduceBEq, Nat.reduceLT, Nat.reduceEqDiff, reduceIte, Nat.reduceAdd, Nat.reduceMul, Nat.reduceSub, Nat.reduceLeDiff, Int.reduceToNat, Int.reducePow, Int.reduceLT, Int.reduceEq, Int.reduceBEq, Int.reduceNeg, Nat.reducePow, List.reduceReplicate, Int.reduceLE]
       refine Fin.same ⟨congrArg (fun x => Out.ret (vi x)) ?_, rfl⟩
       first
         | exact (by omega : _ = _ + _).trans (len_key n 56 72057594037927936 m (by decide) (by omega) (by omega))
         | exact (by omega : _ = _ + _).trans (len_key n 48 281474976710656 m (by decide) (by omega) (by omega))
         | exact (by omega : _ = _ + _).trans (len_key n 40 1099511627776 m (by decide) (by omega) (by omega))
         | exact (by omega : _ = _ + _).trans (len_key n 32 4294967296 m (by decide) (by omega) (by omega))
         | exact (by omega : _ = _ + _).trans (len_key n 24 16777216 m (by decide) (by omega) (by omega))
         | exact (by omega : _ = _ + _).trans (len_key n 16 65536 m (by decide) (by omega) (by omega))
         | exact (by omega : _ = _ + _).trans (len_key n 8 256 m (by decide) (by omega) (by omega)))

end Go.Proofs.YtnlmdeeadldgmaaGreatDoor.VL

/- Layer 4: entries, as plain values. -/
set_option linter.unusedVariables false
set_option linter.unusedSimpArgs false
namespace Go.Proofs.YtnlmdeeadldgmaaGreatDoor.VL
open Go Go.RowKit Go.Lib

structure En where
  k : Int
  v : Int
  s : List UInt8
deriving DecidableEq
abbrev enC (x : En) : List AV := [vi x.k, vi x.v, vs x.s]
def enZ : En := ⟨0, 0, []⟩
abbrev enG (l : List En) : List (List AV) := l.map enC
@[go_sem] theorem enG_length (l : List En) : (enG l).length = l.length := by simp [enG]
@[go_sem] theorem enG_get (l : List En) (i : Nat) : (enG l)[i]? = (l[i]?).map enC := by simp [enG]
theorem lt_enC {n : Nat} (x : En) : Lt n (.agg (enC x)) := .agg _ fun i c hi => by
  rcases i with _ | _ | _ | i <;> simp at hi <;> subst hi <;> exact .v _
theorem lt_en {n : Nat} (l : List En) : Lt n (.lst 3 (enG l)) := .lst _ _ fun i j g c hi hj => by
  simp only [enG, List.getElem?_map] at hi
  obtain ⟨b, _, rfl⟩ := Option.map_eq_some_iff.1 hi
  rcases j with _ | _ | _ | j <;> simp at hj <;> subst hj <;> exact .v _

/-- A row's cells. -/
def enF (l : List En) : List AV := flat (enG l)
theorem enF_cons (x : En) (l : List En) : enF (x :: l) = enC x ++ enF l := by simp [enF, flat]
theorem enF_app (l m : List En) : enF (l ++ m) = enF l ++ enF m := by simp [enF, flat]
theorem enF_snoc (l : List En) (x : En) : enF l ++ [vi x.k, vi x.v, vs x.s] = enF (l ++ [x]) := by rw [enF_app, enF_cons]; simp [enF, flat]
@[go_sem] theorem enF_length : ∀ l : List En, (enF l).length = l.length * 3
  | [] => rfl
  | x :: l => by rw [enF_cons, List.length_append, enF_length l, show (x :: l).length = l.length + 1 from rfl]; show 3 + _ = _; omega
theorem chunk_enF : ∀ l : List En, chunk 3 l.length (enF l) = enG l
  | [] => rfl
  | x :: l => by
    have e : enF (x :: l) = enC x ++ enF l := enF_cons x l
    rw [List.length_cons, chunk, e]
    show enC x :: chunk 3 l.length (enF l) = _
    rw [chunk_enF l]
    rfl

/-- The entry of a key. -/
def getE (l : List En) (k : Int) : Option En := l.find? fun x => decide (x.k = k)
def getV (o : Option En) : AV := .tup [.agg (enC (o.getD enZ)), vb o.isSome]
/-- May an entry be? -/
def mayE (x : En) : Bool := decide (0 ≤ x.k) && (decide (x.k < 12) && (decide (1 ≤ x.v) && (decide (x.v ≤ 1099511627776) && decide (x.s.length ≤ 200))))
theorem mayE_iff {x : En} : mayE x = true ↔ 0 ≤ x.k ∧ x.k < 12 ∧ 1 ≤ x.v ∧ x.v ≤ 1099511627776 ∧ x.s.length ≤ 200 := by simp [mayE]
/-- May a table be, whose keys are above one? -/
def tabGo : Int → List En → Bool
  | _, [] => true
  | last, x :: l => decide (last < x.k) && (mayE x && tabGo x.k l)
def tabOk (l : List En) : Bool := tabGo (-1) l
theorem tabGo_drop {l : List En} {i : Nat} {x : En} (h : l[i]? = some x) (last : Int) : tabGo last (l.drop i) = (decide (last < x.k) && (mayE x && tabGo x.k (l.drop (i + 1)))) := by
  have hi := (List.getElem?_eq_some_iff.1 h).1
  rw [List.drop_eq_getElem_cons hi, tabGo, (List.getElem?_eq_some_iff.1 h).2]
theorem tabGo_may {last : Int} : ∀ {l : List En}, tabGo last l = true → ∀ x ∈ l, last < x.k ∧ mayE x = true
  | [], _, x, hx => by cases hx
  | y :: l, h, x, hx => by
    simp only [tabGo, Bool.and_eq_true, decide_eq_true_eq] at h
    rcases List.mem_cons.1 hx with rfl | hx
    · exact ⟨h.1, h.2.1⟩
    · have := tabGo_may h.2.2 x hx
      exact ⟨by omega, this.2⟩
theorem tabGo_len {last : Int} : ∀ {l : List En}, tabGo last l = true → -1 ≤ last → (l = [] ∨ (l.length : Int) + last ≤ 11)
  | [], _, _ => .inl rfl
  | y :: l, h, h0 => by
    simp only [tabGo, Bool.and_eq_true, decide_eq_true_eq] at h
    have hm := mayE_iff.1 h.2.1
    right
    rw [List.length_cons]
    rcases tabGo_len h.2.2 (by omega) with rfl | h3
    · simp; omega
    · omega
theorem tabOk_len {l : List En} (h : tabOk l = true) : l.length ≤ 12 := by
  rcases tabGo_len h (by omega) with rfl | h
  · simp
  · omega
theorem tabOk_may {l : List En} (h : tabOk l = true) : ∀ x ∈ l, mayE x = true := fun x hx => (tabGo_may h x hx).2
/-- How great a table is, reckoned as a machine does. -/
def grE : Int → List En → Int
  | n, [] => n
  | n, x :: l => if n ≤ 4000 then grE (IntKind.i64.wrap (n + x.s.length)) l else n
/-- An entry put in its place, as the document does it. -/
def putGo (x : En) : List En → Bool → List En
  | [], p => if p then [] else [x]
  | y :: l, p => (if p = false ∧ x.k ≤ y.k then [x] else []) ++ ((if y.k = x.k then [] else [y]) ++ putGo x l (p || decide (x.k ≤ y.k)))
theorem putGo_len (x : En) : ∀ (l : List En) (p : Bool), (putGo x l p).length ≤ l.length + 1
  | [], p => by cases p <;> simp [putGo]
  | y :: l, true => by
    have : ∀ l : List En, (putGo x l true).length ≤ l.length := by
      intro l
      induction l with
      | nil => simp [putGo]
      | cons y l ih =>
        simp only [putGo, Bool.true_or, List.length_append, List.length_cons]
        split <;> split <;> simp at * <;> omega
    exact Nat.le_succ_of_le (this _)
  | y :: l, false => by
    have ht : ∀ l : List En, (putGo x l true).length ≤ l.length := by
      intro l
      induction l with
      | nil => simp [putGo]
      | cons y l ih =>
        simp only [putGo, Bool.true_or, List.length_append, List.length_cons]
        split <;> split <;> simp at * <;> omega
    simp only [putGo, Bool.false_or, List.length_append, List.length_cons]
    by_cases h : x.k ≤ y.k
    · have := ht l
      rw [if_pos (by simp [h]), decide_eq_true h]
      split <;> simp <;> omega
    · have := putGo_len x l false
      rw [if_neg (by simp; omega), decide_eq_false h]
      split <;> simp <;> omega

end Go.Proofs.YtnlmdeeadldgmaaGreatDoor.VL
