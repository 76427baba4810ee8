/- Layer 1: what is laid is taken. -/
import Derived.Test.YtjkdahpoalnjjaaDoorZQuillD
import Derived.Test.YtjkdahpoalnjjaaDoorZCd
-- STEPWISE
set_option linter.unusedVariables false
set_option linter.unusedSimpArgs false
set_option maxRecDepth 10000
namespace Go.Proofs.YtjkdahpoalnjjaaDoor.VL
open Go Go.RowKit Go.Lib

/-- A number's digits are taken as that number. -/
theorem tkGo_nb : ∀ (k i n m : Nat) (more : List UInt8), (nb m).length ≤ k → n < 128 ^ i → n + m * 128 ^ i ≤ 4611686018427387904 → (i = 0 ∨ 0 < m) → tkGo k i n (nb m ++ more) = (n + m * 128 ^ i, more, 0) := by
  intro k
  induction k with
  | zero => intro i n m more h; have := nb_pos m; omega
  | succ k ih =>
    intro i n m more h hn hm hz
    by_cases h128 : m < 128
    · rw [nb_small h128]
      have hc : (UInt8.ofNat m).toNat = m := by rw [UInt8.toNat_ofNat']; omega
      simp only [List.cons_append, List.nil_append, tkGo]
      rw [hc, if_neg (by omega), Nat.mod_eq_of_lt h128, if_neg]
      have := nb_digits (c := m) hn h128
      have h2 : m ≠ 0 ∨ i = 0 := by omega
      have h3 := this.2 h2
      omega
    · have hnb := nb_big (show 128 ≤ m by omega)
      rw [hnb] at h ⊢
      have hc : (UInt8.ofNat (m % 128 + 128)).toNat = m % 128 + 128 := by rw [UInt8.toNat_ofNat']; omega
      simp only [List.cons_append, tkGo, List.length_cons] at h ⊢
      rw [hc, if_pos (by omega), show (m % 128 + 128) % 128 = m % 128 by omega]
      have hp : 0 < 128 ^ i := Nat.pow_pos (by decide)
      have e : n + m % 128 * 128 ^ i + m / 128 * 128 ^ (i + 1) = n + m * 128 ^ i := by
        have h1 : m = m % 128 + 128 * (m / 128) := (Nat.mod_add_div m 128).symm
        have h2 : m * 128 ^ i = m % 128 * 128 ^ i + 128 * (m / 128) * 128 ^ i := by
          rw [← Nat.add_mul, ← h1]
        rw [Nat.pow_succ, h2, Nat.add_assoc]
        congr 2
        rw [Nat.mul_comm (128 ^ i), ← Nat.mul_assoc, Nat.mul_comm (m / 128)]
      rw [ih (i + 1) _ (m / 128) more (by omega) ?_ (by omega) (.inr (by omega)), e]
      have := Nat.mod_lt m (show 128 > 0 by decide)
      have h5 : (m % 128 + 1) * 128 ^ i ≤ 128 * 128 ^ i := Nat.mul_le_mul_right _ (by omega)
      rw [Nat.pow_succ, Nat.mul_comm (128 ^ i)]
      rw [Nat.add_mul] at h5
      omega
theorem tk_nb (m : Nat) (more : List UInt8) (h : m ≤ 4611686018427387904) : tk (nb m ++ more) = (m, more, 0) := by
  have := tkGo_nb 9 0 0 m more (nb_length9 m h) (by decide) (by omega) (.inl rfl)
  simpa using this

/-- A number that is taken has just those bytes. -/
theorem tkGo_once : ∀ (k i n : Nat) (bs : List UInt8), n < 128 ^ i → (tkGo k i n bs).2.2 = 0 → ∃ m, (nb m).length ≤ k ∧ (i = 0 ∨ 0 < m) ∧ (tkGo k i n bs).1 = n + m * 128 ^ i ∧ bs = nb m ++ (tkGo k i n bs).2.1 := by
  intro k
  induction k with
  | zero => intro i n bs _ h; simp [tkGo] at h
  | succ k ih =>
    intro i n bs hn h
    cases bs with
    | nil => simp [tkGo] at h
    | cons c r =>
      rw [tkGo] at h ⊢
      have hp : 0 < 128 ^ i := Nat.pow_pos (by decide)
      have h256 := c.toNat_lt
      by_cases hc : 128 ≤ c.toNat
      · rw [if_pos hc] at h ⊢
        have hd : n + c.toNat % 128 * 128 ^ i < 128 ^ (i + 1) := by
          have h5 : (c.toNat % 128 + 1) * 128 ^ i ≤ 128 * 128 ^ i := Nat.mul_le_mul_right _ (by omega)
          rw [Nat.pow_succ, Nat.mul_comm (128 ^ i)]
          rw [Nat.add_mul] at h5
          omega
        obtain ⟨m, h1, h2, h3, h4⟩ := ih (i + 1) _ r hd h
        have hm : 0 < m := by omega
        have hb := nb_big (n := c.toNat % 128 + 128 * m) (by omega)
        have e1 : (c.toNat % 128 + 128 * m) % 128 = c.toNat % 128 := by omega
        have e2 : (c.toNat % 128 + 128 * m) / 128 = m := by omega
        rw [e1, e2, show c.toNat % 128 + 128 = c.toNat by omega] at hb
        have e3 : UInt8.ofNat c.toNat = c := by simp
        rw [e3] at hb
        refine ⟨c.toNat % 128 + 128 * m, by rw [hb]; simp; omega, .inr (by omega), ?_, ?_⟩
        · rw [h3, Nat.pow_succ, Nat.add_mul, Nat.add_assoc]
          congr 2
          rw [Nat.mul_comm (128 ^ i), ← Nat.mul_assoc, Nat.mul_comm m]
        · rw [hb, List.cons_append, ← h4]
      · rw [if_neg hc] at h ⊢
        split at h
        · simp at h
        · rename_i hh
          rw [if_neg hh]
          have hdg := nb_digits (c := c.toNat) hn (by omega)
          have e : c.toNat % 128 = c.toNat := by omega
          rw [e] at hh ⊢
          have hz : c.toNat ≠ 0 ∨ i = 0 := hdg.1 (by omega)
          have e3 : UInt8.ofNat c.toNat = c := by simp
          refine ⟨c.toNat, by rw [nb_small (by omega)]; simp, by omega, rfl, ?_⟩
          rw [nb_small (by omega), e3]
          rfl
theorem tk_once {bs : List UInt8} (h : (tk bs).2.2 = 0) : bs = nb (tk bs).1 ++ (tk bs).2.1 := by
  obtain ⟨m, _, _, h3, h4⟩ := tkGo_once 9 0 0 bs (by decide) h
  have : (tk bs).1 = m := by simpa using h3
  rw [this]
  exact h4
theorem tk_bad {bs : List UInt8} (h : ¬ (tk bs).2.2 = 0) : (tk bs).1 = 0 ∧ (tk bs).2.1 = [] := by
  have key : ∀ (k i n : Nat) (bs : List UInt8), ¬ (tkGo k i n bs).2.2 = 0 → (tkGo k i n bs).1 = 0 ∧ (tkGo k i n bs).2.1 = [] := by
    intro k
    induction k with
    | zero => intro i n bs _; exact ⟨rfl, rfl⟩
    | succ k ih =>
      intro i n bs h
      cases bs with
      | nil => exact ⟨rfl, rfl⟩
      | cons c r =>
        rw [tkGo] at h ⊢
        split
        · rename_i hc; rw [if_pos hc] at h; exact ih _ _ _ h
        · rename_i hc
          rw [if_neg hc] at h
          split
          · exact ⟨rfl, rfl⟩
          · rename_i hc2; rw [if_neg hc2] at h; exact absurd rfl h
  exact key _ _ _ _ h
/-- A number that is cut short is short. -/
theorem tkGo_short : ∀ (k i n m c : Nat), (nb m).length ≤ k → c < (nb m).length → tkGo k i n ((nb m).take c) = (0, [], 2) := by
  intro k
  induction k with
  | zero => intro i n m c h; have := nb_pos m; omega
  | succ k ih =>
    intro i n m c h hc
    cases c with
    | zero => rfl
    | succ c =>
      by_cases h128 : m < 128
      · rw [nb_small h128] at hc; simp at hc
      · rw [nb_big (by omega)] at h hc ⊢
        have hcc : (UInt8.ofNat (m % 128 + 128)).toNat = m % 128 + 128 := by rw [UInt8.toNat_ofNat']; omega
        simp only [List.length_cons, List.take_succ_cons, tkGo] at h hc ⊢
        rw [hcc, if_pos (by omega)]
        exact ih _ _ _ _ (by omega) (by omega)

end Go.Proofs.YtjkdahpoalnjjaaDoor.VL

/- Layer 1: what is laid is taken, in plain lists. -/
set_option linter.unusedVariables false
set_option linter.unusedSimpArgs false
namespace Go.Proofs.YtjkdahpoalnjjaaDoor.VL
open Go Go.RowKit Go.Lib

def textB (s : List UInt8) : List UInt8 := numB s.length ++ s
theorem numB_natI (n : Nat) (h : n ≤ 4611686018427387904) : numB (n : Int) = nb n := by
  rw [numB_ok (by simp [okNum]; omega)]
  simp
theorem tt_textB (s more : List UInt8) (most : Int) (h : (s.length : Int) ≤ most) (h2 : s.length ≤ 4611686018427387904) : tt (textB s ++ more) most = (s, more, 0) := by
  unfold tt textB
  rw [numB_natI _ h2, List.append_assoc, tk_nb _ _ h2]
  simp only [ne_eq, not_true, if_false]
  rw [if_neg (by omega), if_neg (by simp)]
  simp
theorem tk_numB (n : Int) (more : List UInt8) (h0 : 0 ≤ n) (h1 : n ≤ 4611686018427387904) : tk (numB n ++ more) = (n.toNat, more, 0) := by
  obtain ⟨m, rfl⟩ := Int.eq_ofNat_of_zero_le h0
  rw [numB_natI m (by omega), tk_nb m more (by omega)]
  rfl
theorem tt_once {bs : List UInt8} {most : Int} (h : (tt bs most).2.2 = 0) : bs = textB (tt bs most).1 ++ (tt bs most).2.1 ∧ ((tt bs most).1.length : Int) ≤ most := by
  unfold tt at h ⊢
  by_cases h1 : (tk bs).2.2 = 0
  · have ho := tk_once h1
    have hf := tkGo_facts 9 0 0 bs
    rw [if_neg (by simpa using h1)] at h ⊢
    by_cases h2 : most < ((tk bs).1 : Int)
    · rw [if_pos h2] at h; simp at h
    · rw [if_neg h2] at h ⊢
      by_cases h3 : (tk bs).2.1.length < (tk bs).1
      · rw [if_pos h3] at h; simp at h
      · rw [if_neg h3] at h ⊢
        have hl : ((tk bs).2.1.take (tk bs).1).length = (tk bs).1 := by simp; omega
        refine ⟨?_, by dsimp only; omega⟩
        dsimp only
        rw [textB, hl, numB_natI _ hf.2.1, List.append_assoc, List.take_append_drop]
        exact ho
  · rw [if_pos (by simpa using h1)] at h
    exact absurd h h1
theorem tt_facts (bs : List UInt8) (most : Int) : (tt bs most).2.1.length ≤ bs.length ∧ (tt bs most).1.length ≤ bs.length ∧ 0 ≤ (tt bs most).2.2 ∧ (tt bs most).2.2 ≤ 4 := by
  have hf : (tk bs).2.1.length ≤ bs.length ∧ (tk bs).1 ≤ 4611686018427387904 ∧ 0 ≤ (tk bs).2.2 ∧ (tk bs).2.2 ≤ 3 := tkGo_facts 9 0 0 bs
  unfold tt
  split
  · simp; omega
  · split
    · simp
    · split
      · simp
      · simp only [List.length_drop, List.length_take]; omega

end Go.Proofs.YtjkdahpoalnjjaaDoor.VL

/- Layer 1: what is taken, the rest as a slice without elements where something is wrong. -/
set_option linter.unusedVariables false
set_option linter.unusedSimpArgs false
namespace Go.Proofs.YtjkdahpoalnjjaaDoor.VL
open Go Go.RowKit Go.Lib

/-- The rest of bytes, none where something is wrong. -/
def rs (r : List UInt8) (e : Int) : List UInt8 := if e = 0 then r else []
theorem Rep.tupE {w : World} {H : List Box} {β : Pl} {a c : AV} {x : Value} (h : Rep w H β (.tup [a, .emp, c]) x) : Rep w H β (.tup [a, vB [], c]) x := by
  cases h with
  | tup cs vs hl h =>
    refine .tup _ vs (by simpa using hl) fun j c' x hc hx => ?_
    rcases j with _ | _ | j
    · exact h 0 c' x hc hx
    · simp at hc
      subst hc
      have := h 1 .emp x rfl hx
      cases this with
      | emp a => exact .lst0 _ _ _
    · exact h (j + 2) c' x hc hx
theorem takeText_spec' (bs : List UInt8) (most : Int) (hl : bs.length ≤ 1099511627776) (H : List Box) : ASpec Tryd.prog 81 [vB bs, vi most] H (Gives (.tup [vs (tt bs most).1, vB (rs (tt bs most).2.1 (tt bs most).2.2), vi (tt bs most).2.2]) H) := by
  have h := takeText_spec bs most hl H
  unfold ttV at h
  unfold rs
  by_cases he : (tt bs most).2.2 = 0
  · rw [if_pos he] at h ⊢; exact h
  · rw [if_neg he] at h ⊢
    exact h.shed fun E hE => by
      subst hE
      exact Shed.weak fun w β v h => h.tupE
theorem take_spec' (bs : List UInt8) (hl : bs.length ≤ 1099511627776) (H : List Box) : ASpec Tryd.prog 80 [vB bs] H (Gives (.tup [vi (tk bs).1, vB (rs (tk bs).2.1 (tk bs).2.2), vi (tk bs).2.2]) H) := by
  have h := take_spec bs hl H
  unfold tkV at h
  unfold rs
  by_cases he : (tk bs).2.2 = 0
  · rw [if_pos he] at h ⊢; exact h
  · rw [if_neg he] at h ⊢
    exact h.shed fun E hE => by
      subst hE
      exact Shed.weak fun w β v h => h.tupE
theorem refTakeText_spec' (bs : List UInt8) (most : Int) (hl : bs.length ≤ 1099511627776) (H : List Box) : ASpec Tryd.prog 40 [vB bs, vi most] H (Gives (.tup [vs (tt bs most).1, vB (rs (tt bs most).2.1 (tt bs most).2.2), vi (tt bs most).2.2]) H) := by
  have h := refTakeText_spec bs most hl H
  unfold ttV at h
  unfold rs
  by_cases he : (tt bs most).2.2 = 0
  · rw [if_pos he] at h ⊢; exact h
  · rw [if_neg he] at h ⊢
    exact h.shed fun E hE => by
      subst hE
      exact Shed.weak fun w β v h => h.tupE
theorem refTake_spec' (bs : List UInt8) (hl : bs.length ≤ 1099511627776) (H : List Box) : ASpec Tryd.prog 39 [vB bs] H (Gives (.tup [vi (tk bs).1, vB (rs (tk bs).2.1 (tk bs).2.2), vi (tk bs).2.2]) H) := by
  have h := refTake_spec bs hl H
  unfold tkV at h
  unfold rs
  by_cases he : (tk bs).2.2 = 0
  · rw [if_pos he] at h ⊢; exact h
  · rw [if_neg he] at h ⊢
    exact h.shed fun E hE => by
      subst hE
      exact Shed.weak fun w β v h => h.tupE

end Go.Proofs.YtjkdahpoalnjjaaDoor.VL

/- Layer 1: whether bytes are the same. -/
-- STEPWISE
-- WK
set_option linter.unusedVariables false
set_option linter.unusedSimpArgs false
set_option maxRecDepth 10000
namespace Go.Proofs.YtjkdahpoalnjjaaDoor.VL
open Go Go.RowKit Go.Lib

theorem same_spec (a b : List UInt8) (ha : a.length ≤ 1099511627776) (hb : b.length ≤ 1099511627776) (H : List Box) : ASpec Tryd.prog 19 [vB a, vB b] H (Gives (vb (decide (a = b))) H) := by
  refine ASpec.enter Tryd.func19 rfl (fun a w => Tryd.call19 a w) Tryd.ntmps19 Tryd.results19 fun base w β hI => ?_
  refine wk wT (wA DrM.mk wT) ?_
  refine wkEnd wT ?_
  exact Fin.same ⟨rfl, rfl⟩

end Go.Proofs.YtjkdahpoalnjjaaDoor.VL
