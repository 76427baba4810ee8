/- Layer 13: rings of records, in plain lists. -/
import Derived.Test.YtkkhbmpcpilmfaaJrnH
set_option linter.unusedVariables false
set_option linter.unusedSimpArgs false
namespace Go.Proofs.Ytkkhbmpcpilmfaa.VL
open Go Go.RowKit Go.Lib

/-- The sectors behind m records, each in its place. -/
def rsec (n : Nat) (R : Nat → Rc) : Nat → List (List UInt8)
  | 0 => List.replicate n (zerosB 64)
  | m + 1 => (rsec n R m).set ((m + 1) % n) (recB (R (m + 1)))
/-- The last record of the first m that is in place j; 0: none. -/
def rtop (n : Nat) : Nat → Nat → Nat
  | 0, _ => 0
  | m + 1, j => if (m + 1) % n = j then m + 1 else rtop n m j
theorem rsec_length (n : Nat) (R : Nat → Rc) : ∀ m, (rsec n R m).length = n := by
  intro m
  induction m with
  | zero => simp [rsec]
  | succ m ih => rw [rsec, List.length_set, ih]
theorem rtop_le (n : Nat) : ∀ m j, rtop n m j ≤ m := by
  intro m
  induction m with
  | zero => intro j; simp [rtop]
  | succ m ih =>
    intro j
    rw [rtop]
    split
    · omega
    · have := ih j; omega
theorem rtop_mod (n : Nat) : ∀ m j, rtop n m j ≠ 0 → rtop n m j % n = j := by
  intro m
  induction m with
  | zero => intro j h; simp [rtop] at h
  | succ m ih =>
    intro j h
    rw [rtop] at h ⊢
    split
    · assumption
    · rename_i hne
      rw [if_neg hne] at h
      exact ih j h
theorem rtop_self (n m : Nat) (h : 1 ≤ m) : rtop n m (m % n) = m := by
  obtain ⟨k, rfl⟩ : ∃ k, m = k + 1 := ⟨m - 1, by omega⟩
  rw [rtop, if_pos rfl]
theorem rsec_get {n : Nat} {R : Nat → Rc} : ∀ m j, j < n → (rsec n R m)[j]? = some (if rtop n m j = 0 then zerosB 64 else recB (R (rtop n m j))) := by
  intro m
  induction m with
  | zero => intro j hj; simp [rsec, rtop, List.getElem?_replicate, hj]
  | succ m ih =>
    intro j hj
    rw [rsec, rtop]
    by_cases h : (m + 1) % n = j
    · rw [if_pos h, h, List.getElem?_set_self (by rw [rsec_length]; exact hj)]
      simp
    · rw [if_neg h, List.getElem?_set_ne h]
      exact ih j hj
theorem rsec_all64 {n : Nat} {R : Nat → Rc} : ∀ m, (∀ s, 1 ≤ s → s ≤ m → jmay (R s) = true) → all64 (rsec n R m) := by
  intro m
  induction m with
  | zero => intro _; exact all64_new n
  | succ m ih => intro h; exact all64_set (ih fun s h1 h2 => h s h1 (by omega)) _ (recB_length (h (m + 1) (by omega) (Nat.le_refl _)))
/-- The greatest of the first i places. -/
def rmax (n m : Nat) : Nat → Nat
  | 0 => 0
  | i + 1 => if rmax n m i < rtop n m i then rtop n m i else rmax n m i
theorem rmax_le (n m : Nat) : ∀ i, rmax n m i ≤ m := by
  intro i
  induction i with
  | zero => simp [rmax]
  | succ i ih =>
    rw [rmax]
    split
    · exact rtop_le n m i
    · exact ih
theorem rmax_ge (n m : Nat) : ∀ i j, j < i → rtop n m j ≤ rmax n m i := by
  intro i
  induction i with
  | zero => intro j h; omega
  | succ i ih =>
    intro j h
    rw [rmax]
    by_cases hj : j = i
    · subst hj; split <;> omega
    · have := ih j (by omega)
      split <;> omega
theorem rscan {n m : Nat} {R : Nat → Rc} (hn : 0 < n) (hR : ∀ s, 1 ≤ s → s ≤ m → jmay (R s) = true ∧ (R s).q = (s : Int)) : ∀ i, i ≤ n → jscan (rsec n R m) i = if rmax n m i = 0 then R0 else R (rmax n m i) := by
  intro i
  induction i with
  | zero => intro _; rfl
  | succ i ih =>
    intro hi
    have ih := ih (by omega)
    rw [jscan, rsec_get m i (by omega), rmax, ih]
    have hml := rmax_le n m i
    have htl := rtop_le n m i
    by_cases ht : rtop n m i = 0
    · simp only [ht, if_true]
      rw [jfind_zeros, if_neg (by simp)]
      simp
    · obtain ⟨h1, h2⟩ := hR (rtop n m i) (by omega) htl
      simp only [ht, if_false]
      rw [jfind_recB h1]
      have hq : (R (rtop n m i)).q % ((rsec n R m).length : Int) = (i : Int) := by
        rw [h2, rsec_length]
        have := rtop_mod n m i ht
        omega
      have hlast : (if rmax n m i = 0 then R0 else R (rmax n m i)).q = (rmax n m i : Int) := by
        by_cases h0 : rmax n m i = 0
        · simp [h0, R0]
        · rw [if_neg h0, (hR _ (by omega) hml).2]
      by_cases hlt : rmax n m i < rtop n m i
      · rw [if_pos hlt, if_pos ⟨rfl, hq, by rw [hlast, h2]; omega⟩, if_neg ht]
      · rw [if_neg hlt, if_neg (fun h => hlt (by have := h.2.2; rw [hlast, h2] at this; omega))]
theorem rlast {n m : Nat} {R : Nat → Rc} (hn : 0 < n) (hm : 1 ≤ m) (hR : ∀ s, 1 ≤ s → s ≤ m → jmay (R s) = true ∧ (R s).q = (s : Int)) : jscan (rsec n R m) n = R m := by
  have h1 := rmax_le n m n
  have h2 := rmax_ge n m n (m % n) (Nat.mod_lt _ hn)
  rw [rtop_self n m hm] at h2
  have : rmax n m n = m := by omega
  rw [rscan hn hR n (Nat.le_refl _), this, if_neg (by omega)]

/-- How many of the first i places hold a record. -/
def rcount (n m : Nat) : Nat → Nat
  | 0 => 0
  | i + 1 => if rtop n m i = 0 then rcount n m i else rcount n m i + 1
theorem rtop_free {n m : Nat} (hn : 0 < n) : rtop n m ((m + 1) % n) = 0 ↔ m + 1 ≤ n := by
  have key : ∀ k, k ≤ m → (rtop n k ((m + 1) % n) = 0 ↔ ∀ s, 1 ≤ s → s ≤ k → s % n ≠ (m + 1) % n) := by
    intro k
    induction k with
    | zero => intro _; simp [rtop]; intro s h1 h2; omega
    | succ k ih =>
      intro hk
      rw [rtop]
      by_cases h : (k + 1) % n = (m + 1) % n
      · rw [if_pos h]
        constructor
        · intro h0; omega
        · intro h0; exact absurd h (h0 (k + 1) (by omega) (Nat.le_refl _))
      · rw [if_neg h, ih (by omega)]
        constructor
        · intro h0 s h1 h2
          by_cases hs : s = k + 1
          · subst hs; exact h
          · exact h0 s h1 (by omega)
        · intro h0 s h1 h2; exact h0 s h1 (by omega)
  rw [key m (Nat.le_refl _)]
  constructor
  · intro h
    refine Nat.le_of_not_lt fun hlt => ?_
    refine h (m + 1 - n) (by omega) (by omega) ?_
    have : m + 1 = (m + 1 - n) + n := by omega
    conv => rhs; rw [this]
    rw [Nat.add_mod_right]
  · intro h s h1 h2 he
    have hs : s < n := by omega
    rw [Nat.mod_eq_of_lt hs] at he
    by_cases hmn : m + 1 = n
    · rw [hmn, Nat.mod_self] at he; omega
    · rw [Nat.mod_eq_of_lt (by omega)] at he; omega
theorem rcount_succ (n m : Nat) (hn : 0 < n) : ∀ i, i ≤ n → rcount n (m + 1) i = rcount n m i + (if (m + 1) % n < i ∧ rtop n m ((m + 1) % n) = 0 then 1 else 0) := by
  intro i
  induction i with
  | zero => intro _; simp [rcount]
  | succ i ih =>
    intro hi
    rw [rcount, rcount, ih (by omega), rtop]
    by_cases h : (m + 1) % n = i
    · rw [if_pos h, h]
      rw [if_neg (by omega)]
      by_cases h0 : rtop n m i = 0
      · simp [h0]
      · simp [h0]
    · rw [if_neg h]
      have e : ((m + 1) % n < i + 1) = ((m + 1) % n < i) := by simp; omega
      by_cases h0 : rtop n m i = 0
      · simp only [h0, if_true, e]
      · simp only [h0, if_false, e]
        omega
theorem rcount_all (n : Nat) (hn : 0 < n) : ∀ m, rcount n m n = min n m := by
  intro m
  induction m with
  | zero =>
    have : ∀ i, rcount n 0 i = 0 := by
      intro i
      induction i with
      | zero => rfl
      | succ i ih => rw [rcount, ih]; simp [rtop]
    rw [this]; omega
  | succ m ih =>
    have hlt := Nat.mod_lt (m + 1) hn
    rw [rcount_succ n m hn n (Nat.le_refl _), ih]
    have := rtop_free (n := n) (m := m) hn
    by_cases h : m + 1 ≤ n
    · rw [if_pos ⟨hlt, this.2 h⟩]; omega
    · rw [if_neg (fun hh => h (this.1 hh.2))]; omega

end Go.Proofs.Ytkkhbmpcpilmfaa.VL
