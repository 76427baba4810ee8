/- Layer 16: the laws, in plain lists of bytes. -/
import Derived.Test.YtkkhbmpcpilmfaaDoorLabF
set_option linter.unusedVariables false
set_option linter.unusedSimpArgs false
namespace Go.Proofs.YtkkhbmpcpilmfaaDoor.VL
open Go Go.RowKit Go.Lib

theorem indexByte_pos {s : List UInt8} (h : ¬ 0 ≤ indexByte s 46) : ∀ c ∈ s, c ≠ 46 := by
  intro c hc he
  obtain ⟨i, hi⟩ := List.mem_iff_getElem?.1 hc
  have h1 := indexByte_ge s 46
  have h2 : indexByte s 46 = -1 := by omega
  clear h h1
  induction s generalizing i with
  | nil => simp at hc
  | cons b r ih =>
    unfold indexByte at h2
    split at h2
    · omega
    · rename_i hb
      split at h2
      · rename_i h3
        cases i with
        | zero => simp at hi; subst hi; subst he; simp at hb
        | succ i => exact ih (List.mem_of_getElem? (by simpa using hi)) i (by simpa using hi) (by simpa using h3)
      · rename_i h3
        have := indexByte_ge r 46
        simp at h3
        omega
theorem count_nodot {s : List UInt8} (h : ∀ c ∈ s, c ≠ 46) : s.count 46 = 0 := by
  rw [List.count_eq_zero]
  exact fun hc => h 46 hc rfl
theorem splitC_app {c : UInt8} : ∀ (s r : List UInt8), s.count c = 0 → splitC c (s ++ c :: r) = s :: splitC c r
  | [], r, _ => by simp [splitC]
  | b :: s, r, h => by
    rw [List.count_cons] at h
    have hb : ¬ b = c := fun e => by subst e; simp at h
    rw [List.cons_append, splitC, if_neg hb, splitC_app s r (by omega)]
theorem splitC_joinS : ∀ (l : List (List UInt8)), l ≠ [] → (∀ s ∈ l, s.count 46 = 0) → splitC 46 (joinS [46] l) = l
  | [], h, _ => absurd rfl h
  | [s], _, h => by
    rw [show joinS [46] [s] = s from rfl, splitC_none (h s (by simp))]
  | s :: t :: r, _, h => by
    rw [show joinS [46] (s :: t :: r) = s ++ [46] ++ joinS [46] (t :: r) from rfl, List.append_assoc, List.singleton_append, splitC_app s _ (h s (by simp)), splitC_joinS (t :: r) (by simp) (fun x hx => h x (by simp [hx]))]
theorem trimB_snoc (s : List UInt8) : trimB (s ++ [46]) 46 = s := by
  unfold trimB
  have : (s ++ [46]).length - 1 = s.length := by simp
  rw [this, List.drop_left, if_pos rfl, List.take_left]
theorem textN_err {n : List UInt8} (h : (textN n).2 ≠ 0) : (textN n).1 = [] := by
  unfold textN at h ⊢
  cases hl : lab n with
  | none => rfl
  | some l =>
    rw [hl] at h
    dsimp only at h ⊢
    by_cases h1 : l = []
    · rw [if_pos h1] at h; exact absurd rfl h
    · rw [if_neg h1] at h ⊢
      by_cases h2 : l.any (fun s => decide (0 ≤ indexByte s 46)) = true
      · rw [if_pos h2]
      · rw [if_neg h2] at h; exact absurd rfl h
/-- A text of a name is that name. -/
theorem textN_back {n t : List UInt8} (h : textN n = (t, 0)) : ofN t = (n, 0) ∧ joinN (labelsN n) = (n, 0) ∧ t.length ≤ 600 := by
  unfold textN at h
  cases hl : lab n with
  | none => rw [hl] at h; simp at h
  | some l =>
    rw [hl] at h
    dsimp only at h
    obtain ⟨h1, h2, h3⟩ := lab_some hl
    have hjn : joinN (labelsN n) = (n, 0) := by
      unfold labelsN
      rw [hl]
      dsimp only
      rw [joinN_ok h2 h3, h1]
    refine ⟨?_, hjn, ?_⟩
    · split at h
      · rename_i h0
        subst h0
        simp only [Prod.mk.injEq, and_true] at h
        subst h
        rw [h1]
        rfl
      · rename_i h0
        split at h
        · simp at h
        · rename_i hd
          simp only [Prod.mk.injEq, and_true] at h
          subst h
          have hcnt : ∀ s ∈ l, s.count 46 = 0 := fun s hs => count_nodot (indexByte_pos fun hh => hd (List.any_eq_true.2 ⟨s, hs, by simpa using hh⟩))
          obtain ⟨s0, r, rfl⟩ : ∃ s0 r, l = s0 :: r := by
            cases l with
            | nil => exact absurd rfl h0
            | cons s r => exact ⟨s, r, rfl⟩
          have hs0 := (h2 s0 (by simp)).1
          have hne : ¬ (dotW (s0 :: r) = [] ∨ dotW (s0 :: r) = [46]) := by
            have hp := List.length_pos_iff.2 hs0
            have hdl := dotW_length (s0 :: r)
            have hls : lenS (s0 :: r) = s0.length + lenS r := by simp [lenS]
            rw [List.length_cons] at hdl
            rintro (e | e)
            · rw [e] at hdl
              simp at hdl
            · rw [e] at hdl
              simp at hdl
              omega
          unfold ofN
          rw [if_neg hne, dotW_join _ (by simp), trimB_snoc, splitC_joinS _ (by simp) hcnt]
          unfold labelsN at hjn
          rw [hl] at hjn
          exact hjn
    · obtain ⟨_, b2, b3, _⟩ := lab_le hl
      split at h
      · simp only [Prod.mk.injEq, and_true] at h
        subst h
        simp
      · split at h
        · simp at h
        · simp only [Prod.mk.injEq, and_true] at h
          subst h
          have := dotW_length l
          omega
theorem lowB_idem (n : List UInt8) : lowB (lowB n) = lowB n := by
  cases hl : lab n with
  | none => rw [lab_low_none hl, lab_low_none hl]
  | some l =>
    obtain ⟨h1, h2⟩ := lab_low hl
    rw [(lab_low h2).1, h1, lowL_idem]
theorem lowB_length (n : List UInt8) : (lowB n).length = n.length := by unfold lowB; split <;> simp
theorem sameN_low {n : List UInt8} {l : List (List UInt8)} (h : lab n = some l) : sameN n (lowB n) = true := by
  rw [sameN_iff h (lab_low h).2, lowL_idem]
  simp
theorem underN_self {n : List UInt8} {l : List (List UInt8)} (h : lab n = some l) : underN n n = true := by
  rw [underN_some h h]
  simp
theorem underN_root {n : List UInt8} {l : List (List UInt8)} (h : lab n = some l) : underN n [0] = true := by
  rw [underN_some h (show lab [0] = some [] from rfl)]
  simp
theorem underN_trans {a b c : List UInt8} (h1 : underN a b = true) (h2 : underN b c = true) : underN a c = true := by
  cases ha : lab a with
  | none => rw [underN_none (.inl ha)] at h1; cases h1
  | some l =>
  cases hb : lab b with
  | none => rw [underN_none (.inr hb)] at h1; cases h1
  | some m =>
  cases hc : lab c with
  | none => rw [underN_none (.inr hc)] at h2; cases h2
  | some k =>
  rw [underN_some ha hb] at h1
  rw [underN_some hb hc] at h2
  rw [underN_some ha hc]
  simp only [Bool.and_eq_true, decide_eq_true_eq] at h1 h2 ⊢
  obtain ⟨h3, h4⟩ := h1
  obtain ⟨h5, h6⟩ := h2
  refine ⟨by omega, ?_⟩
  have e : l.drop (l.length - k.length) = (l.drop (l.length - m.length)).drop (m.length - k.length) := by
    rw [List.drop_drop]
    congr 1
    omega
  rw [e]
  unfold lowL at h4 h6 ⊢
  rw [← h6, List.map_drop, h4, List.map_drop]
theorem underN_anti {a b : List UInt8} (h1 : underN a b = true) (h2 : underN b a = true) : sameN a b = true := by
  cases ha : lab a with
  | none => rw [underN_none (.inl ha)] at h1; cases h1
  | some l =>
  cases hb : lab b with
  | none => rw [underN_none (.inr hb)] at h1; cases h1
  | some m =>
  rw [underN_some ha hb] at h1
  rw [underN_some hb ha] at h2
  rw [sameN_iff ha hb]
  simp only [Bool.and_eq_true, decide_eq_true_eq] at h1 h2 ⊢
  obtain ⟨h3, h4⟩ := h1
  rw [← h4, show l.length - m.length = 0 by omega, List.drop_zero]
/-- A label ahead of a name. -/
theorem ahead {a : List UInt8} {l : List (List UInt8)} (h : lab a = some l) (ha : a.length ≤ 200) : ∃ x, joinN ([120] :: l) = (x, 0) ∧ lab x = some ([120] :: l) ∧ underN x a = true ∧ underN a x = false ∧ underN x (lowB a) = true := by
  obtain ⟨h1, h2, h3⟩ := lab_some h
  have hok : okL ([120] :: l) := fun s hs => by
    rcases List.mem_cons.1 hs with rfl | hs
    · exact ⟨by simp, by simp⟩
    · exact h2 s hs
  have hal : a.length = (joinB l).length + 1 := by rw [h1]; simp
  have hl2 : (joinB ([120] :: l)).length ≤ 254 := by
    rw [joinB_cons]
    simp only [List.length_append, List.length_cons, List.length_nil]
    omega
  have hx := lab_joinB hok hl2
  refine ⟨_, joinN_ok hok hl2, hx, ?_, ?_, ?_⟩
  · rw [underN_some hx h]
    simp
  · rw [underN_some h hx, decide_eq_false (by simp), Bool.false_and]
  · rw [underN_some hx (lab_low h).2]
    have e : (lowL l).length = l.length := by simp [lowL]
    rw [e, lowL_idem]
    simp
theorem lowU_notbig (c : UInt8) : ¬ (65 ≤ (lowU c).toNat ∧ (lowU c).toNat ≤ 90) := by
  unfold lowU
  split
  · rename_i h
    rw [UInt8.toNat_ofNat']
    omega
  · rename_i h
    exact h
theorem lab_low_len {n : List UInt8} {l : List (List UInt8)} (h : lab n = some l) : (labelsN (lowB n)).length = (labelsN n).length := by
  unfold labelsN
  rw [(lab_low h).2, h]
  simp [lowL]
theorem labelsN_le (n : List UInt8) : (labelsN n).length ≤ 254 ∧ lenS (labelsN n) ≤ 254 := by
  unfold labelsN
  cases h : lab n with
  | none => simp [lenS]
  | some l => obtain ⟨_, b2, b3, _⟩ := lab_le h; exact ⟨b2, b3⟩

end Go.Proofs.YtkkhbmpcpilmfaaDoor.VL
