/- Layer 3: frames' bytes, in plain lists. -/
import Derived.Test.YtjkdahpoalnjjaaDoorZQb
import Derived.Test.YtjkdahpoalnjjaaDoorZSealC
set_option linter.unusedVariables false
set_option linter.unusedSimpArgs false
namespace Go.Proofs.YtjkdahpoalnjjaaDoor.VL
open Go Go.RowKit Go.Lib

/-- A frame: its kind, cluster, sender, payload. -/
structure Fr where
  k : Int
  c : List UInt8
  n : Int
  p : List UInt8
def Fr0 : Fr := ⟨0, [], 0, []⟩
abbrev frV (f : Fr) : AV := .agg [vi f.k, vs f.c, vi f.n, vB f.p]
def frRight (f : Fr) : Bool := decide (1 ≤ f.k ∧ f.k ≤ 7 ∧ 1 ≤ f.c.length ∧ f.c.length ≤ 30 ∧ 0 ≤ f.n ∧ f.n < 8 ∧ f.p.length ≤ 30000)
def frIn (f : Fr) : List UInt8 := [66, 87, 1] ++ (numB f.k ++ (textB f.c ++ (numB f.n ++ textB f.p)))
def frB (f : Fr) : List UInt8 := sealB (frIn f)
/-- What is in sealed bytes. -/
def frD1 (b cl : List UInt8) : Fr × Int :=
  if b.take 3 = [66, 87, 1] then
    if (tk (b.drop 3)).2.2 ≠ 0 then (Fr0, (tk (b.drop 3)).2.2) else
    if (tt (tk (b.drop 3)).2.1 30).2.2 ≠ 0 then (Fr0, (tt (tk (b.drop 3)).2.1 30).2.2) else
    if (tk (tt (tk (b.drop 3)).2.1 30).2.1).2.2 ≠ 0 then (Fr0, (tk (tt (tk (b.drop 3)).2.1 30).2.1).2.2) else
    if (tt (tk (tt (tk (b.drop 3)).2.1 30).2.1).2.1 30000).2.2 ≠ 0 then (Fr0, (tt (tk (tt (tk (b.drop 3)).2.1 30).2.1).2.1 30000).2.2) else
    if (tt (tk (tt (tk (b.drop 3)).2.1 30).2.1).2.1 30000).2.1 ≠ [] ∨ frRight ⟨(tk (b.drop 3)).1, (tt (tk (b.drop 3)).2.1 30).1, (tk (tt (tk (b.drop 3)).2.1 30).2.1).1, (tt (tk (tt (tk (b.drop 3)).2.1 30).2.1).2.1 30000).1⟩ = false then (Fr0, 3) else
    if (tt (tk (b.drop 3)).2.1 30).1 ≠ cl then (Fr0, 6) else
    (⟨(tk (b.drop 3)).1, (tt (tk (b.drop 3)).2.1 30).1, (tk (tt (tk (b.drop 3)).2.1 30).2.1).1, (tt (tk (tt (tk (b.drop 3)).2.1 30).2.1).2.1 30000).1⟩, 0)
  else (Fr0, 3)
def frD (b cl : List UInt8) : Fr × Int := if (opn b).2 ≠ 0 then (Fr0, (opn b).2) else frD1 (opn b).1 cl
def frDV (x : Fr × Int) : AV := .tup [frV x.1, vi x.2]

theorem frRight_spec {f : Fr} (h : frRight f = true) : 1 ≤ f.k ∧ f.k ≤ 7 ∧ 1 ≤ f.c.length ∧ f.c.length ≤ 30 ∧ 0 ≤ f.n ∧ f.n < 8 ∧ f.p.length ≤ 30000 := by simpa [frRight] using h
theorem opn_sealB (y : List UInt8) : opn (sealB y) = (y, 0) := by
  have h := sealB_length y
  have e : (sealB y).take ((sealB y).length - 4) = y := by rw [h]; simp [sealB]
  unfold opn
  rw [if_neg (by omega), e, if_pos rfl]
theorem opn_once {bs : List UInt8} (h : (opn bs).2 = 0) : sealB (opn bs).1 = bs := by
  unfold opn at h ⊢
  by_cases h1 : bs.length < 4
  · rw [if_pos h1] at h; simp at h
  · rw [if_neg h1] at h ⊢
    by_cases h2 : sealB (bs.take (bs.length - 4)) = bs
    · rw [if_pos h2]; exact h2
    · rw [if_neg h2] at h; simp at h
/-- What is encoded is decoded as it was, in its own cluster alone. -/
theorem frD1_frIn {f : Fr} (h : frRight f = true) (cl : List UInt8) : frD1 (frIn f) cl = if f.c = cl then (f, 0) else (Fr0, 6) := by
  obtain ⟨h1, h2, h3, h4, h5, h6, h7⟩ := frRight_spec h
  unfold frD1
  have e0 : (frIn f).take 3 = [66, 87, 1] := rfl
  have e1 : (frIn f).drop 3 = numB f.k ++ (textB f.c ++ (numB f.n ++ textB f.p)) := rfl
  have e2 := tk_numB f.k (textB f.c ++ (numB f.n ++ textB f.p)) (by omega) (by omega)
  have e3 := tt_textB f.c (numB f.n ++ textB f.p) 30 (by omega) (by omega)
  have e4 := tk_numB f.n (textB f.p) (by omega) (by omega)
  have e5 := tt_textB f.p [] 30000 (by omega) (by omega)
  rw [List.append_nil] at e5
  rw [if_pos e0, e1, e2]
  simp only [e3, e4, e5]
  have hk : ((f.k.toNat : Nat) : Int) = f.k := by omega
  have hn : ((f.n.toNat : Nat) : Int) = f.n := by omega
  simp only [hk, hn, ne_eq, not_true, if_false, false_or]
  have hf : (⟨f.k, f.c, f.n, f.p⟩ : Fr) = f := rfl
  rw [hf, h]
  by_cases hc : f.c = cl
  · simp [hc]
  · simp [hc]
theorem frD_frB {f : Fr} (h : frRight f = true) (cl : List UInt8) : frD (frB f) cl = if f.c = cl then (f, 0) else (Fr0, 6) := by
  unfold frD frB
  rw [opn_sealB]
  simp only [ne_eq, not_true, if_false]
  exact frD1_frIn h cl
theorem frD1_zero {b cl : List UInt8} (h : (frD1 b cl).2 ≠ 0) : (frD1 b cl).1 = Fr0 := by
  revert h
  unfold frD1
  repeat' split
  all_goals simp
theorem frD_zero {b cl : List UInt8} (h : (frD b cl).2 ≠ 0) : (frD b cl).1 = Fr0 := by
  revert h
  unfold frD
  split
  · simp
  · exact frD1_zero
theorem frD1_once {b cl : List UInt8} (h : (frD1 b cl).2 = 0) : frRight (frD1 b cl).1 = true ∧ frIn (frD1 b cl).1 = b ∧ (frD1 b cl).1.c = cl := by
  unfold frD1 at h ⊢
  by_cases h0 : b.take 3 = [66, 87, 1]
  · rw [if_pos h0] at h ⊢
    have hb : b = [66, 87, 1] ++ b.drop 3 := by rw [← h0, List.take_append_drop]
    generalize b.drop 3 = b1 at h hb ⊢
    by_cases h1 : (tk b1).2.2 = 0
    · have t1 := tk_once h1
      have f1 : (tk b1).1 ≤ 4611686018427387904 := (tkGo_facts 9 0 0 b1).2.1
      rw [if_neg (by simpa using h1)] at h ⊢
      generalize tk b1 = x1 at *
      obtain ⟨k, b2, e1⟩ := x1
      dsimp only at *
      by_cases h2 : (tt b2 30).2.2 = 0
      · have t2 := tt_once h2
        rw [if_neg (by simpa using h2)] at h ⊢
        generalize tt b2 30 = x2 at *
        obtain ⟨c, b3, e2⟩ := x2
        dsimp only at *
        by_cases h3 : (tk b3).2.2 = 0
        · have t3 := tk_once h3
          have f3 : (tk b3).1 ≤ 4611686018427387904 := (tkGo_facts 9 0 0 b3).2.1
          rw [if_neg (by simpa using h3)] at h ⊢
          generalize tk b3 = x3 at *
          obtain ⟨n, b4, e3⟩ := x3
          dsimp only at *
          by_cases h4 : (tt b4 30000).2.2 = 0
          · have t4 := tt_once h4
            rw [if_neg (by simpa using h4)] at h ⊢
            generalize tt b4 30000 = x4 at *
            obtain ⟨p, b5, e4⟩ := x4
            dsimp only at *
            by_cases h5 : b5 ≠ [] ∨ frRight ⟨k, c, n, p⟩ = false
            · rw [if_pos h5] at h; simp at h
            · rw [if_neg h5] at h ⊢
              by_cases h6 : c ≠ cl
              · rw [if_pos h6] at h; simp at h
              · rw [if_neg h6]
                have h7 : b5 = [] ∧ frRight ⟨k, c, n, p⟩ = true := by
                  constructor
                  · exact Decidable.byContradiction fun hh => h5 (.inl hh)
                  · cases hh : frRight ⟨k, c, n, p⟩ with
                    | true => rfl
                    | false => exact absurd (.inr hh) h5
                refine ⟨h7.2, ?_, by simpa using h6⟩
                rw [hb, t1, t2.1, t3, t4.1, h7.1]
                simp [frIn, numB_natI _ f1, numB_natI _ f3]
          · rw [if_pos (by simpa using h4)] at h; exact absurd h h4
        · rw [if_pos (by simpa using h3)] at h; exact absurd h h3
      · rw [if_pos (by simpa using h2)] at h; exact absurd h h2
    · rw [if_pos (by simpa using h1)] at h; exact absurd h h1
  · rw [if_neg h0] at h; simp at h
theorem frD_once {b cl : List UInt8} (h : (frD b cl).2 = 0) : frRight (frD b cl).1 = true ∧ frB (frD b cl).1 = b ∧ (frD b cl).1.c = cl := by
  unfold frD at h ⊢
  by_cases h1 : (opn b).2 = 0
  · rw [if_neg (by simpa using h1)] at h ⊢
    obtain ⟨g1, g2, g3⟩ := frD1_once h
    exact ⟨g1, by rw [frB, g2, opn_once h1], g3⟩
  · rw [if_pos (by simpa using h1)] at h; exact absurd h h1

end Go.Proofs.YtjkdahpoalnjjaaDoor.VL
