/- Layer 13: the ring that a law writes, as the journal's functions have it. -/
import Derived.Test.YtkkhbmpcpilmfaaJrnP
set_option linter.unusedVariables false
set_option linter.unusedSimpArgs false
namespace Go.Proofs.Ytkkhbmpcpilmfaa.VL
open Go Go.RowKit Go.Lib

/-- Records that may stand, numbered from 1 on, up to m. -/
def rok (R : Nat → Rc) (m : Nat) : Prop := ∀ s, 1 ≤ s → s ≤ m → jmay (R s) = true ∧ (R s).q = (s : Int)
abbrev rdisk (n : Nat) (R : Nat → Rc) (m : Nat) : Dk := ⟨rsec n R m, -1, false⟩
theorem dright_rdisk {n : Nat} {R : Nat → Rc} {m : Nat} (hn : n ≤ 64) : dright (rdisk n R m) = true := by
  simp only [dright, decide_eq_true_eq, rsec_length]
  omega
theorem ring_last {n m : Nat} {R : Nat → Rc} (hn : 0 < n) (hn2 : n ≤ 64) (hm : 1 ≤ m) (hR : rok R m) : jlast (rdisk n R m) = (R m, 0) := by
  unfold jlast
  rw [dright_rdisk hn2, if_neg (by simp), if_neg (by simp)]
  dsimp only
  rw [rsec_length, rlast hn hm hR, if_neg (by rw [(hR m hm (Nat.le_refl _)).2]; omega)]
theorem ring_put {n m : Nat} {R : Nat → Rc} (hn : 0 < n) (hn2 : n ≤ 64) (hR : rok R (m + 1)) : jput (rdisk n R m) (R (m + 1)) = (rdisk n R (m + 1), R (m + 1), 0) := by
  obtain ⟨h1, h2⟩ := hR (m + 1) (by omega) (Nat.le_refl _)
  have hp : dput (rdisk n R m) ((R (m + 1)).q % ((rdisk n R m).s.length : Int)) (recB (R (m + 1))) = (rdisk n R (m + 1), 0) := by
    have e : (R (m + 1)).q % ((rdisk n R m).s.length : Int) = (((m + 1) % n : Nat) : Int) := by
      rw [h2]
      dsimp only
      rw [rsec_length]
      omega
    rw [e, dput_ok rfl rfl (by dsimp only; rw [rsec_length]; exact hn2) (by dsimp only; rw [rsec_length]; exact Nat.mod_lt _ hn)]
    rfl
  unfold jput
  rw [if_neg (by rw [h1]; simp), hp, if_neg (by simp)]
theorem ring_write {n m : Nat} {R : Nat → Rc} {gen : Int} {note : List UInt8} (hn : 2 ≤ n) (hn2 : n ≤ 64) (hm : 1 ≤ m) (hR : rok R (m + 1)) (he : R (m + 1) = ⟨((m + 1 : Nat) : Int), gen, note⟩) (hg : (R m).g ≤ gen) : jwrite (rdisk n R m) gen note = (rdisk n R (m + 1), R (m + 1), 0) := by
  have hl := ring_last (n := n) (by omega) hn2 hm (fun s h1 h2 => hR s h1 (by omega))
  obtain ⟨h1, h2⟩ := hR (m + 1) (by omega) (Nat.le_refl _)
  have hq := (hR m hm (by omega)).2
  have hj := jmay_spec h1
  rw [he] at hj
  dsimp only at hj
  unfold jwrite
  rw [hl, if_neg (by simp), if_neg (by dsimp only; rw [rsec_length]; omega), if_neg (by dsimp only; omega)]
  dsimp only
  rw [hq, show (m : Int) + 1 = ((m + 1 : Nat) : Int) by omega, ← he]
  exact ring_put (by omega) hn2 hR
theorem ring_fmt {n : Nat} {R : Nat → Rc} (hn2 : n ≤ 64) : ∀ i, i ≤ n → jfmt (rdisk n R 0) i = (rdisk n R 0, 0) := by
  intro i
  induction i with
  | zero => intro _; rfl
  | succ i ih =>
    intro hi
    rw [jfmt, ih (by omega), if_neg (by simp)]
    dsimp only
    rw [dput_ok rfl rfl (by dsimp only; rw [rsec_length]; exact hn2) (by dsimp only; rw [rsec_length]; omega)]
    have : (rsec n R 0).set i (zerosB 64) = rsec n R 0 := by
      rw [rsec, List.set_replicate_self]
    dsimp only
    rw [this]
theorem ring_format {n : Nat} {R : Nat → Rc} (hn : 2 ≤ n) (hn2 : n ≤ 64) (hR : R 1 = ⟨1, 1, []⟩) : jformat (rdisk n R 0) [] = (rdisk n R 1, R 1, 0) := by
  have hk : rok R (0 + 1) := fun s h1 h2 => by
    obtain rfl : s = 1 := by omega
    rw [hR]
    exact ⟨by decide, rfl⟩
  unfold jformat
  have hl : (rdisk n R 0).s.length = n := rsec_length n R 0
  rw [if_neg (by rw [dright_rdisk hn2, hl]; simp; omega), hl, ring_fmt hn2 n (Nat.le_refl _), if_neg (by simp)]
  have := ring_put (n := n) (m := 0) (by omega) hn2 hk
  rw [Nat.zero_add] at this
  dsimp only
  rw [← hR]
  exact this

/-- The law's records. -/
def rgen : Nat → Int
  | 0 => 1
  | i + 1 => rgen i + ((i % 2 : Nat) : Int)
def rrec (notes : List (List UInt8)) : Nat → Rc
  | 0 => R0
  | 1 => ⟨1, 1, []⟩
  | i + 2 => ⟨((i + 2 : Nat) : Int), rgen (i + 1), (notes[i]?).getD []⟩
theorem rgen_bounds : ∀ i, 1 ≤ rgen i ∧ rgen i ≤ 1 + (i : Int) := by
  intro i
  induction i with
  | zero => simp [rgen]
  | succ i ih => rw [rgen]; omega
theorem rrec_g (notes : List (List UInt8)) (i : Nat) : (rrec notes (i + 1)).g = rgen i := by
  cases i with
  | zero => rfl
  | succ i => rfl
theorem rrec_ok {notes : List (List UInt8)} {m : Nat} (hm : m ≤ 1000) (h : ∀ j, j + 1 < m → ((notes[j]?).getD []).length ≤ 30) : rok (rrec notes) m := by
  intro s h1 h2
  have hs : s = 1 ∨ ∃ i, s = i + 2 := by
    rcases s with _ | _ | i
    · omega
    · exact .inl rfl
    · exact .inr ⟨i, rfl⟩
  rcases hs with rfl | ⟨i, rfl⟩
  · exact ⟨by show jmay ⟨1, 1, []⟩ = true; decide, rfl⟩
  · refine ⟨?_, rfl⟩
    have hg := rgen_bounds (i + 1)
    have hn := h i (by omega)
    show jmay ⟨((i + 2 : Nat) : Int), rgen (i + 1), (notes[i]?).getD []⟩ = true
    simp only [jmay, decide_eq_true_eq]
    exact ⟨by omega, by omega, by omega, by omega, hn⟩
theorem ring_count {n m : Nat} {R : Nat → Rc} (hR : rok R m) (hmn : n ≤ n) : ∀ i, i < n → ∃ b, (rsec n R m)[i]? = some b ∧ b.length = 64 ∧ (jfind b).2 = (if rtop n m i = 0 then 10 else 0) := by
  intro i hi
  refine ⟨_, rsec_get m i hi, ?_, ?_⟩
  · by_cases h0 : rtop n m i = 0
    · rw [if_pos h0, zerosB_length]
    · rw [if_neg h0, recB_length (hR _ (by omega) (rtop_le n m i)).1]
  · by_cases h0 : rtop n m i = 0
    · rw [if_pos h0, if_pos h0, jfind_zeros]
    · rw [if_neg h0, if_neg h0, jfind_recB (hR _ (by omega) (rtop_le n m i)).1]

end Go.Proofs.Ytkkhbmpcpilmfaa.VL
