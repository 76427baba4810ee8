/- Layer 1: what is laid is taken. -/
import Derived.Test.YtnoekcdmaaakfaaDoorZQuillD
-- STEPWISE
set_option linter.unusedVariables false
set_option linter.unusedSimpArgs false
set_option maxRecDepth 10000
namespace Go.Proofs.YtnoekcdmaaakfaaDoor.VL
open Go Go.RowKit Go.Lib

/-- A number's digits are taken as that number. -/
theorem tkGo_nb : ∀ (k i n m : Nat) (more : List UInt8), (nb m).length ≤ k → n < 128 ^ i → n + m * 128 ^ i ≤ 4611686018427387904 → (i = 0 ∨ 0 < m) → tkGo k i n (nb m ++ more) = (n + m * 128 ^ i, more, 0) := by
  intro k
  induction k with
  | zero => intro i n m more h; have := nb_pos m; omega
  | succ k ih =>
    intro i n m more h hn hm hz
    by_cases h128 : m < 128
    · rw [nb_small h128]
      have hc : (UInt8.ofNat m).toNat = m := by rw [UInt8.toNat_ofNat']; omega
      simp only [List.cons_append, List.nil_append, tkGo]
      rw [hc, if_neg (by omega), Nat.mod_eq_of_lt h128, if_neg]
      have := nb_digits (c := m) hn h128
      have h2 : m ≠ 0 ∨ i = 0 := by omega
      have h3 := this.2 h2
      omega
    · have hnb := nb_big (show 128 ≤ m by omega)
      rw [hnb] at h ⊢
      have hc : (UInt8.ofNat (m % 128 + 128)).toNat = m % 128 + 128 := by rw [UInt8.toNat_ofNat']; omega
      simp only [List.cons_append, tkGo, List.length_cons] at h ⊢
      rw [hc, if_pos (by omega), show (m % 128 + 128) % 128 = m % 128 by omega]
      have hp : 0 < 128 ^ i := Nat.pow_pos (by decide)
      have e : n + m % 128 * 128 ^ i + m / 128 * 128 ^ (i + 1) = n + m * 128 ^ i := by
        have h1 : m = m % 128 + 128 * (m / 128) := (Nat.mod_add_div m 128).symm
        have h2 : m * 128 ^ i = m % 128 * 128 ^ i + 128 * (m / 128) * 128 ^ i := by
          rw [← Nat.add_mul, ← h1]
        rw [Nat.pow_succ, h2, Nat.add_assoc]
        congr 2
        rw [Nat.mul_comm (128 ^ i), ← Nat.mul_assoc, Nat.mul_comm (m / 128)]
      rw [ih (i + 1) _ (m / 128) more (by omega) ?_ (by omega) (.inr (by omega)), e]
      have := Nat.mod_lt m (show 128 > 0 by decide)
      have h5 : (m % 128 + 1) * 128 ^ i ≤ 128 * 128 ^ i := Nat.mul_le_mul_right _ (by omega)
      rw [Nat.pow_succ, Nat.mul_comm (128 ^ i)]
      rw [Nat.add_mul] at h5
      omega
theorem tk_nb (m : Nat) (more : List UInt8) (h : m ≤ 4611686018427387904) : tk (nb m ++ more) = (m, more, 0) := by
  have := tkGo_nb 9 0 0 m more (nb_length9 m h) (by decide) (by omega) (.inl rfl)
  simpa using this

/-- A number that is taken has just those bytes. -/
theorem tkGo_once : ∀ (k i n : Nat) (bs : List UInt8), n < 128 ^ i → (tkGo k i n bs).2.2 = 0 → ∃ m, (nb m).length ≤ k ∧ (i = 0 ∨ 0 < m) ∧ (tkGo k i n bs).1 = n + m * 128 ^ i ∧ bs = nb m ++ (tkGo k i n bs).2.1 := by
  intro k
  induction k with
  | zero => intro i n bs _ h; simp [tkGo] at h
  | succ k ih =>
    intro i n bs hn h
    cases bs with
    | nil => simp [tkGo] at h
    | cons c r =>
      rw [tkGo] at h ⊢
      have hp : 0 < 128 ^ i := Nat.pow_pos (by decide)
      have h256 := c.toNat_lt
      by_cases hc : 128 ≤ c.toNat
      · rw [if_pos hc] at h ⊢
        have hd : n + c.toNat % 128 * 128 ^ i < 128 ^ (i + 1) := by
          have h5 : (c.toNat % 128 + 1) * 128 ^ i ≤ 128 * 128 ^ i := Nat.mul_le_mul_right _ (by omega)
          rw [Nat.pow_succ, Nat.mul_comm (128 ^ i)]
          rw [Nat.add_mul] at h5
          omega
        obtain ⟨m, h1, h2, h3, h4⟩ := ih (i + 1) _ r hd h
        have hm : 0 < m := by omega
        have hb := nb_big (n := c.toNat % 128 + 128 * m) (by omega)
        have e1 : (c.toNat % 128 + 128 * m) % 128 = c.toNat % 128 := by omega
        have e2 : (c.toNat % 128 + 128 * m) / 128 = m := by omega
        rw [e1, e2, show c.toNat % 128 + 128 = c.toNat by omega] at hb
        have e3 : UInt8.ofNat c.toNat = c := by simp
        rw [e3] at hb
        refine ⟨c.toNat % 128 + 128 * m, by rw [hb]; simp; omega, .inr (by omega), ?_, ?_⟩
        · rw [h3, Nat.pow_succ, Nat.add_mul, Nat.add_assoc]
          congr 2
          rw [Nat.mul_comm (128 ^ i), ← Nat.mul_assoc, Nat.mul_comm m]
        · rw [hb, List.cons_append, ← h4]
      · rw [if_neg hc] at h ⊢
        split at h
        · simp at h
        · rename_i hh
          rw [if_neg hh]
          have hdg := nb_digits (c := c.toNat) hn (by omega)
          have e : c.toNat % 128 = c.toNat := by omega
          rw [e] at hh ⊢
          have hz : c.toNat ≠ 0 ∨ i = 0 := hdg.1 (by omega)
          have e3 : UInt8.ofNat c.toNat = c := by simp
          refine ⟨c.toNat, by rw [nb_small (by omega)]; simp, by omega, rfl, ?_⟩
          rw [nb_small (by omega), e3]
          rfl
theorem tk_once {bs : List UInt8} (h : (tk bs).2.2 = 0) : bs = nb (tk bs).1 ++ (tk bs).2.1 := by
  obtain ⟨m, _, _, h3, h4⟩ := tkGo_once 9 0 0 bs (by decide) h
  have : (tk bs).1 = m := by simpa using h3
  rw [this]
  exact h4
theorem tk_bad {bs : List UInt8} (h : ¬ (tk bs).2.2 = 0) : (tk bs).1 = 0 ∧ (tk bs).2.1 = [] := by
  have key : ∀ (k i n : Nat) (bs : List UInt8), ¬ (tkGo k i n bs).2.2 = 0 → (tkGo k i n bs).1 = 0 ∧ (tkGo k i n bs).2.1 = [] := by
    intro k
    induction k with
    | zero => intro i n bs _; exact ⟨rfl, rfl⟩
    | succ k ih =>
      intro i n bs h
      cases bs with
      | nil => exact ⟨rfl, rfl⟩
      | cons c r =>
        rw [tkGo] at h ⊢
        split
        · rename_i hc; rw [if_pos hc] at h; exact ih _ _ _ h
        · rename_i hc
          rw [if_neg hc] at h
          split
          · exact ⟨rfl, rfl⟩
          · rename_i hc2; rw [if_neg hc2] at h; exact absurd rfl h
  exact key _ _ _ _ h
/-- A number that is cut short is short. -/
theorem tkGo_short : ∀ (k i n m c : Nat), (nb m).length ≤ k → c < (nb m).length → tkGo k i n ((nb m).take c) = (0, [], 2) := by
  intro k
  induction k with
  | zero => intro i n m c h; have := nb_pos m; omega
  | succ k ih =>
    intro i n m c h hc
    cases c with
    | zero => rfl
    | succ c =>
      by_cases h128 : m < 128
      · rw [nb_small h128] at hc; simp at hc
      · rw [nb_big (by omega)] at h hc ⊢
        have hcc : (UInt8.ofNat (m % 128 + 128)).toNat = m % 128 + 128 := by rw [UInt8.toNat_ofNat']; omega
        simp only [List.length_cons, List.take_succ_cons, tkGo] at h hc ⊢
        rw [hcc, if_pos (by omega)]
        exact ih _ _ _ _ (by omega) (by omega)

end Go.Proofs.YtnoekcdmaaakfaaDoor.VL
