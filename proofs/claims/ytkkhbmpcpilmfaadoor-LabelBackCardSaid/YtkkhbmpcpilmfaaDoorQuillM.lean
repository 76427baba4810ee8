/- Layer 1: numbers as bytes, in plain lists. -/
import Derived.Test.YtkkhbmpcpilmfaaDoorVLTac
set_option linter.unusedVariables false
set_option linter.unusedSimpArgs false
namespace Go.Proofs.YtkkhbmpcpilmfaaDoor.VL
open Go Go.RowKit Go.Lib

/-- A number's bytes: seven bits each, the lowest first; all but the last one have 128 more. -/
def nb (n : Nat) : List UInt8 := if n < 128 then [UInt8.ofNat n] else UInt8.ofNat (n % 128 + 128) :: nb (n / 128)
termination_by n
decreasing_by omega
theorem nb_small {n : Nat} (h : n < 128) : nb n = [UInt8.ofNat n] := by rw [nb, if_pos h]
theorem nb_big {n : Nat} (h : 128 ≤ n) : nb n = UInt8.ofNat (n % 128 + 128) :: nb (n / 128) := by rw [nb, if_neg (by omega)]
theorem nb_pos (n : Nat) : 0 < (nb n).length := by rw [nb]; split <;> simp
def okNum (n : Int) : Bool := decide (0 ≤ n ∧ n ≤ 4611686018427387904)
/-- What is laid of a number: nothing, if it is none. -/
def numB (n : Int) : List UInt8 := if okNum n then nb n.toNat else []
def numsB (l : List Int) : List UInt8 := l.flatMap numB

theorem nb_length_le (k : Nat) : ∀ n, n < 128 ^ k → 0 < k → (nb n).length ≤ k := by
  induction k with
  | zero => intro n _ h; omega
  | succ k ih =>
    intro n h _
    by_cases hn : n < 128
    · rw [nb_small hn]; simp
    · rw [nb_big (by omega)]
      have hk : 0 < k := by
        rcases Nat.eq_zero_or_pos k with h0 | h0
        · subst h0; simp at h; omega
        · exact h0
      have := ih (n / 128) (by rw [Nat.pow_succ] at h; omega) hk
      simp; omega
theorem numB_length_le (n : Int) : (numB n).length ≤ 9 := by
  unfold numB
  split
  · rename_i h
    simp only [okNum, decide_eq_true_eq] at h
    refine nb_length_le 9 _ ?_ (by omega)
    have : (128 : Nat) ^ 9 = 9223372036854775808 := by decide
    omega
  · simp

/-- How many bits a number has. -/
def blen (n : Nat) : Nat := if n = 0 then 0 else Nat.log2 n + 1
theorem blen_zero : blen 0 = 0 := rfl
theorem blen_half {n : Nat} (h : 0 < n) : blen n = blen (n / 2) + 1 := by
  unfold blen
  rw [if_neg (by omega)]
  by_cases h1 : n = 1
  · subst h1; decide
  · rw [if_neg (by omega), Nat.log2_def]
    rw [if_pos (by omega)]
theorem blen_shift (k : Nat) : ∀ n, 2 ^ k ≤ n → blen n = blen (n / 2 ^ k) + k := by
  induction k with
  | zero => intro n _; simp
  | succ k ih =>
    intro n h
    have hp : 0 < 2 ^ k := Nat.two_pow_pos k
    rw [Nat.pow_succ] at h
    rw [blen_half (by omega), ih (n / 2) (by omega), Nat.div_div_eq_div_mul, Nat.pow_succ, Nat.mul_comm 2]
    omega
theorem nb_length (n : Nat) : (nb n).length = max 1 ((blen n + 6) / 7) := by
  induction n using Nat.strongRecOn with
  | _ n ih =>
    by_cases h : n < 128
    · rw [nb_small h]
      have : ∀ m, m < 128 → max 1 ((blen m + 6) / 7) = 1 := by decide
      rw [this n h]; rfl
    · have h2 := blen_shift 7 n (by omega)
      have := ih (n / 128) (by omega)
      rw [nb_big (by omega), List.length_cons, this, h2]
      have hb : 0 < blen (n / 2 ^ 7) := by unfold blen; split <;> omega
      have e : (2 : Nat) ^ 7 = 128 := rfl
      rw [e] at hb ⊢
      omega
theorem blen_or_one (n : Nat) : blen (n ||| 1) = max 1 (blen n) := by
  have hd : (n ||| 1) / 2 = n / 2 := by
    have := Nat.or_div_two (a := n) (b := 1)
    simpa using this
  have hp : 0 < n ||| 1 := by
    have := Nat.right_le_or (n := n) (m := 1)
    omega
  rw [blen_half hp, hd]
  rcases Nat.eq_zero_or_pos n with h | h
  · subst h; decide
  · rw [blen_half h]; omega

end Go.Proofs.YtkkhbmpcpilmfaaDoor.VL
