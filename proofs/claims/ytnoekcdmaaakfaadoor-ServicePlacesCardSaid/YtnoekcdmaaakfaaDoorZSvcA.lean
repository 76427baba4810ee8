/- Layer 15: words, plain. -/
import Derived.Test.YtnoekcdmaaakfaaDoorZSvcM
set_option linter.unusedVariables false
set_option linter.unusedSimpArgs false
namespace Go.Proofs.YtnoekcdmaaakfaaDoor.VL
open Go Go.RowKit Go.Lib

theorem isPl_nat : ∀ n, n < 256 → isPl (UInt8.ofNat n) = (decide (97 ≤ n ∧ n ≤ 122) || (decide (48 ≤ n ∧ n ≤ 57) || decide (n = 45))) := by decide +kernel
theorem isPl_iff (c : UInt8) : isPl c = true ↔ (97 ≤ c.toNat ∧ c.toNat ≤ 122) ∨ (48 ≤ c.toNat ∧ c.toNat ≤ 57) ∨ c = 45 := by
  have := isPl_nat c.toNat c.toNat_lt
  rw [UInt8.ofNat_toNat] at this
  rw [this]
  simp only [Bool.or_eq_true, decide_eq_true_eq]
  have e : c.toNat = 45 ↔ c = 45 := ⟨fun h => UInt8.toNat_inj.1 (by rw [h]; rfl), fun h => by rw [h]; rfl⟩
  rw [e]
/-- Whether a letter may stand at a place of a word. -/
def okAt (s : List UInt8) (i : Nat) (c : UInt8) : Prop := (97 ≤ c.toNat ∧ c.toNat ≤ 122) ∨ (48 ≤ c.toNat ∧ c.toNat ≤ 57) ∨ (c = 45 ∧ 0 < i ∧ i + 1 < s.length)
theorem wordOk_iff (s : List UInt8) : wordOk s = true ↔ (0 < s.length ∧ s.length ≤ 20) ∧ ∀ (i : Nat) (c : UInt8), s[i]? = some c → okAt s i c := by
  unfold wordOk
  simp only [Bool.and_eq_true, decide_eq_true_eq, List.all_eq_true]
  constructor
  · rintro ⟨h0, h1, h2, h3, h4⟩
    refine ⟨⟨h0, h1⟩, fun i c hc => ?_⟩
    have hil := (List.getElem?_eq_some_iff.1 hc).1
    rcases (isPl_iff c).1 (h2 c (List.mem_of_getElem? hc)) with h | h | h
    · exact .inl h
    · exact .inr (.inl h)
    · refine .inr (.inr ⟨h, ?_, ?_⟩)
      · refine Nat.pos_of_ne_zero fun hi => ?_
        subst hi; subst h
        exact h3 hc
      · refine Nat.lt_of_le_of_ne (by omega) fun hi => ?_
        subst h
        exact h4 (by rw [show s.length - 1 = i by omega]; exact hc)
  · rintro ⟨⟨h0, h1⟩, h2⟩
    refine ⟨h0, h1, fun c hc => ?_, fun h => ?_, fun h => ?_⟩
    · obtain ⟨i, hi⟩ := List.mem_iff_getElem?.1 hc
      refine (isPl_iff c).2 ?_
      rcases h2 i c hi with h | h | h
      · exact .inl h
      · exact .inr (.inl h)
      · exact .inr (.inr h.1)
    · rcases h2 0 45 h with h | h | h
      · exact absurd h (by decide)
      · exact absurd h (by decide)
      · exact absurd h.2.1 (by omega)
    · rcases h2 _ 45 h with h | h | h
      · exact absurd h (by decide)
      · exact absurd h (by decide)
      · exact absurd h.2.2 (by omega)
/-- A text without such letters at its end. -/
def trR (f : UInt8 → Bool) (s : List UInt8) : List UInt8 := (s.reverse.dropWhile f).reverse
theorem trR_snoc (f : UInt8 → Bool) (s : List UInt8) (c : UInt8) : trR f (s ++ [c]) = if f c then trR f s else s ++ [c] := by
  unfold trR
  rw [List.reverse_append, List.reverse_singleton, List.singleton_append, List.dropWhile_cons]
  split
  · rfl
  · simp
theorem trR_length (f : UInt8 → Bool) (s : List UInt8) : (trR f s).length ≤ s.length := by
  unfold trR
  rw [List.length_reverse]
  exact Nat.le_trans (List.dropWhile_sublist f).length_le (by simp)
theorem dropWhile_nil (f : UInt8 → Bool) : ∀ s : List UInt8, s.dropWhile f = [] ↔ s.all f = true
  | [] => by simp
  | c :: s => by
    rw [List.dropWhile_cons, List.all_cons]
    cases h : f c with
    | true => rw [if_pos rfl, dropWhile_nil f s]; simp
    | false => rw [if_neg (by simp)]; simp
def trimF (f : UInt8 → Bool) (s : List UInt8) : List UInt8 := (trR f s).dropWhile f
theorem trimF_nil (f : UInt8 → Bool) (s : List UInt8) : trimF f s = [] ↔ s.all f = true := by
  unfold trimF
  rw [dropWhile_nil]
  constructor
  · intro h
    by_cases hn : trR f s = []
    · unfold trR at hn
      rw [List.reverse_eq_nil_iff, dropWhile_nil, List.all_reverse] at hn
      exact hn
    · -- its last letter is none of them
      exfalso
      have hne : s.reverse.dropWhile f ≠ [] := fun h0 => hn (by unfold trR; rw [h0]; rfl)
      obtain ⟨c, l, hl⟩ := List.exists_cons_of_ne_nil hne
      have hc : f c = false := by
        have := List.head_dropWhile_not f hne
        simp only [hl, List.head_cons] at this
        simpa using this
      have hm : c ∈ trR f s := by unfold trR; rw [hl]; simp
      rw [List.all_eq_true.1 h c hm] at hc
      cases hc
  · intro h
    have : trR f s = [] := by
      unfold trR
      rw [List.reverse_eq_nil_iff, dropWhile_nil, List.all_reverse]
      exact h
    rw [this]
    rfl

end Go.Proofs.YtnoekcdmaaakfaaDoor.VL
