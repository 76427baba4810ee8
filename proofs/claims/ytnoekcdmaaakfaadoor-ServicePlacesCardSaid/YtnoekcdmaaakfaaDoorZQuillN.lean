/- Layer 1: how a number is taken from bytes, in plain lists. -/
import Derived.Test.YtnoekcdmaaakfaaDoorZQuillB
set_option linter.unusedVariables false
set_option linter.unusedSimpArgs false
namespace Go.Proofs.YtnoekcdmaaakfaaDoor.VL
open Go Go.RowKit Go.Lib

/-- The number that bytes begin with, what is behind it, and what is wrong: k digits may still come, there were i, which are n. -/
def tkGo : Nat → Nat → Nat → List UInt8 → Nat × List UInt8 × Int
  | 0, _, _, _ => (0, [], 3)
  | _ + 1, _, _, [] => (0, [], 2)
  | k + 1, i, n, c :: r => if 128 ≤ c.toNat then tkGo k (i + 1) (n + c.toNat % 128 * 128 ^ i) r
      else if 4611686018427387904 < n + c.toNat % 128 * 128 ^ i ∨ (nb (n + c.toNat % 128 * 128 ^ i)).length ≠ i + 1 then (0, [], 3) else (n + c.toNat % 128 * 128 ^ i, r, 0)
abbrev tk (bs : List UInt8) : Nat × List UInt8 × Int := tkGo 9 0 0 bs
/-- As values. -/
def tkV (x : Nat × List UInt8 × Int) : AV := .tup [vi x.1, if x.2.2 = 0 then vB x.2.1 else .emp, vi x.2.2]

theorem nb_lt (n : Nat) : n < 128 ^ (nb n).length := by
  induction n using Nat.strongRecOn with
  | _ n ih =>
    by_cases h : n < 128
    · rw [nb_small h]; simpa using h
    · have := ih (n / 128) (by omega)
      rw [nb_big (by omega), List.length_cons, Nat.pow_succ]
      omega
theorem pow128_le : ∀ i, i ≤ 9 → 128 ^ i ≤ 9223372036854775808 := by decide
/-- A number has just i + 1 digits if the last one is none but 0, or the only one. -/
theorem nb_digits {n c i : Nat} (hn : n < 128 ^ i) (hc : c < 128) : (nb (n + c * 128 ^ i)).length = i + 1 ↔ c ≠ 0 ∨ i = 0 := by
  have hpos : 0 < 128 ^ i := Nat.pow_pos (by decide)
  have hlt := nb_lt (n + c * 128 ^ i)
  have hle : n + c * 128 ^ i < 128 ^ (i + 1) := by
    have : (c + 1) * 128 ^ i ≤ 128 * 128 ^ i := Nat.mul_le_mul_right _ (by omega)
    rw [Nat.pow_succ, Nat.mul_comm (128 ^ i)]
    rw [Nat.add_mul] at this
    omega
  have hl := nb_length_le (i + 1) _ hle (by omega)
  constructor
  · intro h
    by_cases h0 : c = 0
    · right
      subst h0
      rw [Nat.zero_mul, Nat.add_zero] at h
      rcases Nat.eq_zero_or_pos i with h1 | h1
      · exact h1
      · have := nb_length_le i n hn h1
        omega
    · exact .inl h0
  · intro h
    refine Nat.le_antisymm hl ?_
    rcases h with h | h
    · refine Nat.lt_of_not_le fun hle2 => ?_
      have h1 : 128 ^ (nb (n + c * 128 ^ i)).length ≤ 128 ^ i := Nat.pow_le_pow_right (by decide) hle2
      have h2 : 1 * 128 ^ i ≤ c * 128 ^ i := Nat.mul_le_mul_right _ (by omega)
      omega
    · subst h; have := nb_pos (n + c * 128 ^ 0); omega
theorem digit_lt {n c i : Nat} (hn : n < 128 ^ i) (hi : i < 9) : n + c % 128 * 128 ^ i < 128 ^ (i + 1) := by
  have h := Nat.mod_lt c (show 128 > 0 by decide)
  have : (c % 128 + 1) * 128 ^ i ≤ 128 * 128 ^ i := Nat.mul_le_mul_right _ (by omega)
  rw [Nat.pow_succ, Nat.mul_comm (128 ^ i)]
  rw [Nat.add_mul] at this
  omega
theorem pow128 (i : Nat) : 128 ^ i = 2 ^ (7 * i) := by rw [Nat.pow_mul]
theorem or_digit {n c i : Nat} (hn : n < 128 ^ i) : n ||| c * 128 ^ i = n + c * 128 ^ i := by
  rw [pow128] at hn ⊢
  have := Nat.shiftLeft_add_eq_or_of_lt hn c
  rw [Nat.shiftLeft_eq] at this
  rw [Nat.or_comm, ← this, Nat.add_comm]

end Go.Proofs.YtnoekcdmaaakfaaDoor.VL
